/- What the statements' functions of chapter 9 come to, by value: true. -/
import Derived.Test.YtahpohhadcflfaaZLisKey
namespace Go.Abs
open Go Go.Proofs Go.Proofs.Ytahpohhadcflfaa.LisMath Go.RowKit Go.IntWalk
set_option linter.unusedVariables false
set_option linter.unusedSimpArgs false

/-- What Moves answers. -/
def moved (ol nw : List Key) : Int × Int × Int :=
  if ol.Nodup ∧ nw.Nodup then (((common ol nw).length : Int), ((common ol nw).length : Int) - (lis (common ol nw) : Nat), 0) else (0, 0, 900)
def res3 (m : Int × Int × Int) : AV := .tup [.int .i64 m.1, .int .i64 m.2.1, .int .i64 m.2.2]
theorem closed_app {n : Nat} {js st : St} (h : St.closed n st = true) (hj : St.closed n js = true) : St.closed n (js ++ st) = true := by
  unfold St.closed at *
  rw [List.all_append, h, hj]; rfl
theorem moves_run (st : St) (hcl : Cl st) {a b : AV} {ol nw : List Key} (hA : Sl 3 a (keys ol)) (hac : AV.closed st.length a = true) (hB : Sl 3 b (keys nw)) (hbc : AV.closed st.length b = true) (hol : ol.length < 1000000000000) (hl : nw.length < 1000000000000) :
    cw 17 [a, b] st = some (.ret (res3 (moved ol nw)), st) := by
  obtain ⟨j1, p1, p2, p3⟩ := places_run (.free 0 :: st) hcl.free hA (AV.closed_mono (by simp) a hac) hol
  refine F17 _ _ _ ?_
  rw [p1]
  simp only [callB_ret, extractA_tup, List.getElem?_cons_zero, List.getElem?_cons_succ, Option.bind_some, boolV_bool]
  by_cases ho : ol.Nodup
  · have := p2 ho
    subst this
    have hcl1 : Cl ([AObj.amap (ents ol 0)] ++ AObj.free 0 :: st) := hcl.free.cons (closed_ents _ _ _)
    obtain ⟨j2, r1, r2, r3⟩ := places_run ([AObj.amap (ents ol 0)] ++ AObj.free 0 :: st) hcl1 hB (AV.closed_mono (by simp; omega) b hbc) hl
    rw [r1]
    simp only [callB_ret, extractA_tup, List.getElem?_cons_zero, List.getElem?_cons_succ, Option.bind_some, boolV_bool, ho, decide_true, Bool.not_true, Bool.false_eq_true, if_false]
    by_cases hn : nw.Nodup
    · have := r2 hn
      subst this
      simp only [hn, decide_true, Bool.not_true, Bool.false_eq_true, if_false]
      rw [lnk (st := []) hB.rd]
      have hm : (AObj.free 0 :: st).length = st.length + 1 := rfl
      have hcl2 : Cl ([AObj.amap (ents nw 0)] ++ ([AObj.amap (ents ol 0)] ++ AObj.free 0 :: st)) := hcl1.cons (closed_ents _ _ _)
      have hfin := moves_loop (st0 := st) (mo := st.length + 1) (ol := ol) hB hbc hl hol nw 0 rfl [] .nils ([AObj.amap (ents nw 0)] ++ ([AObj.amap (ents ol 0)] ++ AObj.free 0 :: st)) (Nat.le_refl _) (Nat.zero_le _) (by omega)
        (by simp only [List.cons_append, List.nil_append]; rw [St.trunc_le (by simp; omega), St.trunc_cons2]) hcl hcl2 (by simp only [List.cons_append, List.nil_append]; rw [St.get_under (by simp), St.get_cons, if_pos (by simp)])
        (.inl ⟨rfl, rfl, 0, by simp only [List.cons_append, List.nil_append]; rw [St.get_under (by simp only [List.length_cons]; omega), St.get_under (by simp), St.get_top]⟩)
      simp only [List.nil_append] at hfin
      rw [hm, if_pos trivial]
      simp only [List.cons_append, List.nil_append] at hfin ⊢
      rw [show ((0 : Nat) : Int) = 0 from rfl] at hfin
      rw [hfin]
      simp [moved, ho, hn, res3]
    · have ht : St.trunc (j2 ++ ([AObj.amap (ents ol 0)] ++ AObj.free 0 :: st)) st.length = st := by
        have := trunc_app (j2 ++ [AObj.amap (ents ol 0), AObj.free 0]) st
        simpa using this
      have := outL_plain (n := st.length) (v := res3 (moved ol nw)) (st := j2 ++ ([AObj.amap (ents ol 0)] ++ AObj.free 0 :: st)) rfl rfl (by rw [ht]; exact hcl) (by simp; omega)
      rw [ht] at this
      simp only [moved, hn, and_false, if_false, res3] at this ⊢
      simpa [hn] using this
  · have ht : ∀ j2 : St, St.trunc (j2 ++ (j1 ++ AObj.free 0 :: st)) st.length = st := by
      intro j2
      have := trunc_app (j2 ++ j1 ++ [AObj.free 0]) st
      simpa using this
    have hcl1 : Cl (j1 ++ AObj.free 0 :: st) := p3
    obtain ⟨j2, r1, r2, r3⟩ := places_run (j1 ++ AObj.free 0 :: st) hcl1 hB (AV.closed_mono (by simp; omega) b hbc) hl
    rw [r1]
    have := outL_plain (n := st.length) (v := res3 (moved ol nw)) (st := j2 ++ (j1 ++ AObj.free 0 :: st)) rfl rfl (by rw [ht]; exact hcl) (by simp; omega)
    rw [ht] at this
    simp only [moved, ho, false_and, if_false, res3] at this ⊢
    simpa [ho] using this

/-! ### The reference's Moves -/
def placeI (k : Key) (l : List Key) : Int := match place k l with | some i => (i : Int) | none => -1
theorem place_loop {st0 : St} (hcl : Cl st0) {a : AV} {l : List Key} (hA : Sl 3 a (keys l)) (k : Key) (hl : l.length < 1000000000000) : ∀ (r : List Key) (i : Nat), l.drop i = r →
    aw 36 st0.length p36_0 ⟨[(0, a), (3, .bp st0.length 0), (5, .int .i64 (i : Int))], []⟩ (.box 57 (keyC k) :: st0) = some (.ret (.int .i64 (match place k r with | some j => ((i + j : Nat) : Int) | none => -1)), st0) := by
  have fin : ∀ n : Int, outL false st0.length (.ret (.int .i64 n)) (.box 57 (keyC k) :: st0) = some (.ret (.int .i64 n), st0) := fun n => by
    have := outL_plain (n := st0.length) (v := .int .i64 n) (st := .box 57 (keyC k) :: st0) rfl rfl (by rw [St.trunc_cons]; exact hcl) (by simp)
    rwa [St.trunc_cons] at this
  intro r
  induction r with
  | nil =>
    intro i hi
    have : l.length ≤ i := by simpa using hi
    refine F36_0 _ _ _ _ _ ?_
    rw [lnk (st := []) hA.rd, if_neg (by simp; omega)]
    exact fin _
  | cons q r ih =>
    intro i hi
    have hil : i < l.length := by have := congrArg List.length hi; simp at this; omega
    have hr : l.drop (i + 1) = r := by have := congrArg List.tail hi; simpa using this
    have gk : l[i]? = some q := by
      have : (l.drop i)[0]? = some q := by rw [hi]; rfl
      rw [List.getElem?_drop] at this; simpa using this
    have e1 : IntKind.i64.wrap ((i : Int) + 1) = ((i + 1 : Nat) : Int) := by rw [i64_in _ (by omega)]; rfl
    refine F36_0 _ _ _ _ _ ?_
    rw [lnk (st := []) hA.rd, if_pos (by simp; omega), rdk hA.rd gk, boxk_rd (St.get_top _ _)]
    simp only [Option.bind_some, binA_eql, boolV_bool, place]
    by_cases h : q = k
    · subst h
      simp only [decide_true, if_true]
      exact fin _
    · simp only [h, decide_false, Bool.false_eq_true, if_false, e1]
      rw [ih (i + 1) hr]
      cases place k r with
      | none => rfl
      | some j => simp only [Option.map_some]; rw [show i + 1 + j = i + (j + 1) by omega]
theorem place_run (st : St) (hcl : Cl st) {a : AV} {l : List Key} (hA : Sl 3 a (keys l)) (k : Key) (hl : l.length < 1000000000000) : cw 36 [a, .agg (keyC k)] st = some (.ret (.int .i64 (placeI k l)), st) := by
  refine F36 _ _ _ _ _ ?_
  rw [show [AV.int IntKind.i64 k.kind, AV.int IntKind.i64 k.num, AV.str k.str] = keyC k from rfl, cells_key, Option.bind_some]
  have := place_loop hcl hA k hl l 0 rfl
  rw [show ((0 : Nat) : Int) = 0 from rfl] at this
  rw [this]
  unfold placeI
  cases place k l with
  | none => rfl
  | some j => simp
theorem placeI_neg {k : Key} {l : List Key} : 0 ≤ placeI k l ↔ place k l ≠ none := by
  unfold placeI
  cases place k l with
  | none => simp
  | some j => simp
theorem twice_loop {st : St} (hcl : Cl st) {a : AV} {l : List Key} (hA : Sl 3 a (keys l)) (hl : l.length < 1000000000000) : ∀ (d i : Nat), i + d = l.length → (l.take i).Nodup →
    aw 35 st.length p35_0 ⟨[(0, a), (3, .int .i64 (i : Int))], []⟩ st = some (.ret (.bool (!decide l.Nodup)), st) := by
  intro d
  induction d with
  | zero =>
    intro i hi hn
    rw [List.take_of_length_le (by omega)] at hn
    refine F35_0 _ _ _ _ ?_
    rw [lnk (st := []) hA.rd, if_neg (by simp; omega)]
    simp [hn]
  | succ d ih =>
    intro i hi hn
    have gk : l[i]? = some (l[i]'(by omega)) := List.getElem?_eq_getElem _
    generalize l[i]'(by omega) = k at gk
    have e1 : IntKind.i64.wrap ((i : Int) + 1) = ((i + 1 : Nat) : Int) := by rw [i64_in _ (by omega)]; rfl
    obtain ⟨a', c1, c2⟩ := hA.cut (st := st) (lo := none) (hi := some (.int .i64 (i : Int))) (l := 0) (k := i) rfl (by simp [optA]) (Nat.zero_le _) (by rw [keys_len]; omega)
    have c3 : Sl 3 a' (keys (l.take i)) := by simpa [keys, List.map_take] using c2
    refine F35_0 _ _ _ _ ?_
    rw [lnk (st := []) hA.rd, if_pos (by simp; omega), c1, Option.bind_some, rdk hA.rd gk, place_run st hcl c3 k (by simp; omega)]
    simp only [callB_ret, intV_int, Option.bind_some]
    have hnt := nodup_take gk
    by_cases hp : place k (l.take i) = none
    · have : ¬ 0 ≤ placeI k (l.take i) := fun h => placeI_neg.1 h hp
      rw [if_neg (by simpa using this), e1]
      exact ih (i + 1) (by omega) (hnt.2 ⟨hn, hp⟩)
    · have hnn : ¬ l.Nodup := fun h => hp (hnt.1 (h.sublist (List.take_sublist _ _))).2
      rw [if_pos (by simpa using placeI_neg.2 hp)]
      simp [hnn]
theorem twice_run (st : St) (hcl : Cl st) {a : AV} {l : List Key} (hA : Sl 3 a (keys l)) (hl : l.length < 1000000000000) : cw 35 [a] st = some (.ret (.bool (!decide l.Nodup)), st) :=
  F35 _ _ (twice_loop hcl hA hl l.length 0 (by omega) (by simp))
theorem rmoves_loop {st0 : St} (hc0 : Cl st0) {a b : AV} {ol nw : List Key} (hA : Sl 3 a (keys ol)) (hB : Sl 3 b (keys nw)) (hl : nw.length < 1000000000000) (hol : ol.length < 1000000000000) : ∀ (r : List Key) (i : Nat), nw.drop i = r → ∀ (acc : List Int) (v : AV) (st : St),
    acc.length ≤ i → acc.length ≤ nw.length → st.trunc st0.length = st0 → Cl st → Acc 1 st0.length st v (ints acc) →
    aw 18 st0.length p18_0 ⟨[(0, a), (1, b), (7, v), (8, .int .i64 (i : Int))], []⟩ st =
      some (.ret (.tup [.int .i64 ((acc ++ common ol r).length : Int), .int .i64 (((acc ++ common ol r).length : Int) - (lis (acc ++ common ol r) : Nat)), .int .i64 0]), st0) := by
  intro r
  induction r with
  | nil =>
    intro i hi acc v st ha ha2 htr hcl hM
    have : nw.length ≤ i := by simpa using hi
    have hal : acc.length < 1000000000000 := by omega
    refine F18_0 _ _ _ _ _ _ ?_
    obtain ⟨w, q1, q2⟩ := rlongest_run st hcl hM.sl hal
    rw [lnk (st := []) hB.rd, if_neg (by simp; omega), ln (st := []) hM.sl.rd, ln (st := []) hM.sl.rd, q1]
    simp only [callB_ret]
    rw [ln (st := []) q2.rd]
    have hlo := (longest_ok acc).1
    have hle : lis acc ≤ acc.length := bst_le_length all acc
    have e : IntKind.i64.wrap ((acc.length : Int) - ((longest acc).length : Int)) = (acc.length : Int) - (lis acc : Nat) := by
      rw [hlo]
      exact i64_in _ (by omega)
    have hst : st0.length < st.length := by
      rcases hM with ⟨_, _, e, h⟩ | ⟨ep, _, h⟩ | ⟨_, e, h⟩ <;> exact St.get_lt h
    have := outL_plain (n := st0.length) (v := .tup [.int .i64 (acc.length : Int), .int .i64 ((acc.length : Int) - (lis acc : Nat)), .int .i64 0]) (st := st) rfl rfl (by rw [htr]; exact hc0) (by omega)
    rw [htr] at this
    simpa [common, e] using this
  | cons k r ih =>
    intro i hi acc v st ha ha2 htr hcl hM
    have hil : i < nw.length := by have := congrArg List.length hi; simp at this; omega
    have hr : nw.drop (i + 1) = r := by have := congrArg List.tail hi; simpa using this
    have gk : nw[i]? = some k := by
      have : (nw.drop i)[0]? = some k := by rw [hi]; rfl
      rw [List.getElem?_drop] at this; simpa using this
    have e1 : IntKind.i64.wrap ((i : Int) + 1) = ((i + 1 : Nat) : Int) := by rw [i64_in _ (by omega)]; rfl
    refine F18_0 _ _ _ _ _ _ ?_
    rw [lnk (st := []) hB.rd, if_pos (by simp; omega), rdk hB.rd gk, place_run st hcl hA k hol]
    simp only [callB_ret, intV_int, Option.bind_some]
    cases hp : place k ol with
    | none =>
      have hcm : common ol (k :: r) = common ol r := by simp [common, hp]
      have : ¬ 0 ≤ placeI k ol := fun h => placeI_neg.1 h hp
      rw [if_neg (by simpa using this), e1, hcm]
      exact ih (i + 1) hr acc v st (by omega) ha2 htr hcl hM
    | some j =>
      have hcm : common ol (k :: r) = (j : Int) :: common ol r := by simp [common, hp]
      have hpi : placeI k ol = (j : Int) := by simp [placeI, hp]
      obtain ⟨v2, y2, q1, q2⟩ := hM.app (x := .sl 1 [[.int .i64 (j : Int)]] 0 1 .exact) (new := ints [(j : Int)]) (bytes := 8) rfl (by simp [ints, roomA]; omega) (by simp [ints, roomA]; omega)
      rw [← ints_app] at q2
      rw [hpi, if_pos (by simp)]
      simp only [Nat.add_zero, q1, bind2_some, e1]
      have hst : st0.length < st.length := by
        rcases hM with ⟨_, _, e, h⟩ | ⟨ep, _, h⟩ | ⟨_, e, h⟩ <;> exact St.get_lt h
      have hyc : AObj.closed st.length y2 = true := by
        have hy : St.get (st.put st0.length y2) st0.length = some y2 := St.get_put_same (by omega)
        rcases q2 with ⟨_, _, e, h⟩ | ⟨ep, _, h⟩ | ⟨_, e, h⟩ <;> (rw [hy] at h; cases h; rfl)
      have := ih (i + 1) hr (acc ++ [(j : Int)]) v2 (st.put st0.length y2) (by simp; omega) (by simp; omega) (by rw [St.trunc_put (Nat.le_refl _)]; exact htr) (hcl.put hyc) q2
      rw [hcm]
      simpa using this
theorem rmoves_run (st : St) (hcl : Cl st) {a b : AV} {ol nw : List Key} (hA : Sl 3 a (keys ol)) (hB : Sl 3 b (keys nw)) (hol : ol.length < 1000000000000) (hl : nw.length < 1000000000000) :
    cw 18 [a, b] st = some (.ret (res3 (moved ol nw)), st) := by
  refine F18 _ _ _ ?_
  have bad : outL false st.length (.ret (res3 (0, 0, 900))) (.free 0 :: st) = some (.ret (res3 (0, 0, 900)), st) := by
    have := outL_plain (n := st.length) (v := res3 (0, 0, 900)) (st := .free 0 :: st) rfl rfl (by rw [St.trunc_cons]; exact hcl) (by simp)
    rwa [St.trunc_cons] at this
  rw [twice_run _ hcl.free hA hol]
  simp only [callB_ret, boolV_bool, Option.bind_some]
  by_cases ho : ol.Nodup
  · rw [if_neg (by simpa using ho), twice_run _ hcl.free hB hl]
    simp only [callB_ret, boolV_bool, Option.bind_some]
    by_cases hn : nw.Nodup
    · rw [if_neg (by simpa using hn)]
      have := rmoves_loop hcl hA hB hl hol nw 0 rfl [] .nils (.free 0 :: st) (Nat.le_refl _) (Nat.zero_le _) (St.trunc_cons _ _) hcl.free (.inl ⟨rfl, rfl, 0, St.get_top _ _⟩)
      simp only [List.nil_append] at this
      rw [show ((0 : Nat) : Int) = 0 from rfl] at this
      rw [this]
      simp [moved, ho, hn, res3]
    · rw [if_pos (by simpa using hn)]
      simpa [moved, hn, res3] using bad
  · rw [if_pos (by simpa using ho)]
    simpa [moved, ho, res3] using bad

/-! ### Keys: copied, lent, held against each other -/
theorem num_run (st : St) (n : Int) : cw 19 [.int .i64 n] st = some (.ret (.int .i64 n), st) := F19 _ _ (by simp)
theorem copyKeys_run (st : St) {a : AV} {l : List Key} (h : Sl 3 a (keys l)) (hl : l.length < 1000000000000) : ∃ v y, cw 22 [a] st = some (.ret v, y :: st) ∧ Acc 3 st.length (y :: st) v (keys l) := by
  obtain ⟨v, y, h1, h2⟩ := copy_gen (st := st) (bytes := 32) h.rows (by rw [keys_len]; simp [roomA]; omega) (by rw [keys_len]; simp [roomA]; omega)
  exact ⟨v, y, F22 _ _ h1, h2⟩
def moreK : List Key := [⟨-7, 0, []⟩, ⟨-7, 0, []⟩]
theorem lendKeys_run (st : St) (hs : Cl st) {a : AV} {l : List Key} (h : Sl 3 a (keys l)) (hl : l.length < 1000000000000) : ∃ v, cw 16 [a] st = some (.ret v, st) ∧ Lent 3 v (keys l) (keys moreK) ∧ AV.closed st.length v = true := by
  obtain ⟨v, h1, h2⟩ := lend_gen (kd := 3) (bytes := 32) (n := 2) (extra := keys moreK) (kp := fun v st_1 => outL false st.length (AOut.pan v) st_1) hs (copyKeys_run (.free 0 :: st) h hl) h rfl (by omega) (by rw [keys_len]; simp [roomA]; omega) (by rw [keys_len]; simp [roomA]; omega) (fun m => by rw [← keys_app]; exact closed_keys _ _)
  exact ⟨v, F16 _ _ h1, h2⟩
theorem sameK_loop {st : St} {a b : AV} {l m : List Key} (ha : Rd st 3 a (keys l)) (hb : Rd st 3 b (keys m)) (hl : l.length < 1000000000000) (hlm : l.length = m.length) (base : Nat) (hbase : base = st.length) : ∀ (d i : Nat), i + d = l.length →
    aw 37 base p37_0 ⟨[(0, a), (1, b), (5, .int .i64 (i : Int))], []⟩ st = some (.ret (.bool (decide (l.drop i = m.drop i))), st) := by
  subst hbase
  intro d
  induction d with
  | zero =>
    intro i hi
    refine F37_0 _ _ _ _ _ ?_
    rw [lnk ha, if_neg (by simp; omega), List.drop_of_length_le (by omega), List.drop_of_length_le (by omega)]
    simp
  | succ d ih =>
    intro i hi
    have gl : l[i]? = some (l[i]'(by omega)) := List.getElem?_eq_getElem _
    have gm : m[i]? = some (m[i]'(by omega)) := List.getElem?_eq_getElem _
    have dl : l.drop i = l[i]'(by omega) :: l.drop (i + 1) := List.drop_eq_getElem_cons _
    have dm : m.drop i = m[i]'(by omega) :: m.drop (i + 1) := List.drop_eq_getElem_cons _
    generalize l[i]'(by omega) = x at *
    generalize m[i]'(by omega) = y at *
    refine F37_0 _ _ _ _ _ ?_
    rw [lnk ha, if_pos (by simp; omega), rdk ha gl, rdk hb gm, dl, dm]
    have e1 : IntKind.i64.wrap ((i : Int) + 1) = ((i + 1 : Nat) : Int) := by rw [i64_in _ (by omega)]; rfl
    simp only [binA_neq, Option.bind_some, boolV_bool]
    by_cases hxy : x = y
    · subst hxy
      simp only [decide_true, Bool.not_true, Bool.false_eq_true, if_false, e1]
      rw [ih (i + 1) (by omega)]
      simp
    · simp [hxy]
theorem sameKeys_run {st : St} {a b : AV} {l m : List Key} (ha : Rd st 3 a (keys l)) (hb : Rd st 3 b (keys m)) (hl : l.length < 1000000000000) : cw 37 [a, b] st = some (.ret (.bool (decide (l = m))), st) := by
  refine F37 _ _ _ ?_
  rw [lnk ha, lnk hb]
  by_cases h : l.length = m.length
  · rw [if_neg (by simp; omega)]
    have := sameK_loop ha hb hl h st.length rfl l.length 0 (by omega)
    simpa using this
  · rw [if_pos (by simp; omega)]
    have : l ≠ m := fun e => h (by rw [e])
    simp [this]
theorem keptKeys_run {st : St} {v a : AV} {l : List Key} (hv : Lent 3 v (keys l) (keys moreK)) (ha : Rd st 3 a (keys l)) (hl : l.length < 1000000000000) : cw 20 [v, a] st = some (.ret (.bool true), st) := by
  refine F20 _ _ _ ?_
  obtain ⟨v', h1, h2⟩ := hv.behind (n := 2) rfl st
  rw [keys_len] at h1
  rw [← keys_app] at h2
  have e : IntKind.i64.wrap ((l.length : Int) + 2) = ((l.length + 2 : Nat) : Int) := by rw [i64_in _ (by omega)]; rfl
  have e1 : IntKind.i64.wrap ((l.length : Int) + 1) = ((l.length + 1 : Nat) : Int) := by rw [i64_in _ (by omega)]; rfl
  have ek : ∀ k : Key, k = ⟨-7, 0, []⟩ → binA Try.prog BinOp.eql 57 false (.agg (keyC k)) (AV.agg [AV.int IntKind.i64 (-7), AV.int IntKind.i64 0, AV.str []]) = some (.bool true) := by
    intro k hk
    subst hk
    have := binA_eql ⟨-7, 0, []⟩ ⟨-7, 0, []⟩
    simpa [keyC] using this
  rw [lnk (st := st) hv.sl.rd, e, h1]
  simp only [Option.bind_some, sameKeys_run hv.sl.rd ha hl, callB_ret, boolV_bool, decide_true, if_true, lnk ha]
  rw [rdk (j := l.length) (l := l ++ moreK) (c := ⟨-7, 0, []⟩) h2.rd (by simp [moreK]), ek _ rfl]
  simp only [Option.bind_some, boolV_bool, if_true, e1]
  rw [rdk (j := l.length + 1) (l := l ++ moreK) (c := ⟨-7, 0, []⟩) h2.rd (by simp [moreK]), ek _ rfl]
  simp
theorem key_run (st : St) (hcl : Cl st) (n : Int) : cw 33 [.int .i64 n] st = some (.ret (.agg (keyC ⟨3, n, []⟩)), st) := by
  refine F33 _ _ ?_
  rw [show AV.agg [AV.int IntKind.i64 3, AV.int IntKind.i64 n, AV.str []] = .agg (keyC ⟨3, n, []⟩) from rfl, cells_key, Option.bind_some, boxk_wr (z := [])]
  have hl : ldA Try.prog (.box 57 (keyC ⟨3, n, []⟩) :: st) 57 (.bp st.length 0) = readA (.box 57 (keyC ⟨3, n, []⟩) :: st) (.bp st.length 0) 3 true := by
    have h1 : aggT Try.prog 57 = some true := by kernel_rfl
    have h2 : szOf Try.prog 57 = some 3 := by kernel_rfl
    unfold ldA readA
    rw [h1, h2]; rfl
  simp only [Option.bind_some, hl, boxk_rd (St.get_top _ _)]
  have := outL_plain (n := st.length) (v := .agg (keyC ⟨3, n, []⟩)) (st := .box 57 (keyC ⟨3, n, []⟩) :: st) rfl rfl (by rw [St.trunc_cons]; exact hcl) (by simp)
  rw [St.trunc_cons] at this
  exact this
end Go.Abs
