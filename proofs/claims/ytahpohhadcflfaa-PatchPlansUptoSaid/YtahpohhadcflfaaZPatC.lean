/- Origins, spots and loops by value: may they be, and where do they stand. -/
import Derived.Test.YtahpohhadcflfaaZPatM
import Derived.Test.YtahpohhadcflfaaZEqX58
namespace Go.Abs
open Go Go.Proofs Go.Proofs.Ytahpohhadcflfaa.LisMath Go.RowKit Go.IntWalk
set_option linter.unusedVariables false
set_option linter.unusedSimpArgs false

section
variable {st : St}
@[simp] theorem nilCheckA_ip (r : List AV) (c : Nat) : nilCheckA (.ip r c) = some (.ip r c) := rfl
@[simp] theorem nilCheckA_bp (o c : Nat) : nilCheckA (.bp o c) = some (.bp o c) := rfl
@[simp] theorem ptrAdd_ip (k : Nat) (r : List AV) (c : Nat) : ptrAdd k (.ip r c) = some (.ip r (c + k)) := rfl
@[simp] theorem ptrAdd_bp (k o c : Nat) : ptrAdd k (.bp o c) = some (.bp o (c + k)) := rfl
@[simp] theorem readA_ip (st : St) (r : List AV) (c n : Nat) (ag : Bool) : readA st (.ip r c) n ag = readRow r c n ag := rfl
theorem outL_s1 {v : AV} (hs : Cl st) (x : AObj) (h1 : AV.stripR st.length v = v) (h2 : AV.closed st.length v = true) : outL false st.length (.ret v) (x :: st) = some (.ret v, st) := by
  have := outL_plain (n := st.length) (v := v) (st := x :: st) h1 h2 (by rw [St.trunc_cons]; exact hs) (by simp)
  rw [St.trunc_cons] at this; exact this
theorem outL_s2 {v : AV} (hs : Cl st) (x y : AObj) (h1 : AV.stripR st.length v = v) (h2 : AV.closed st.length v = true) : outL false st.length (.ret v) (x :: y :: st) = some (.ret v, st) := by
  have := outL_plain (n := st.length) (v := v) (st := x :: y :: st) h1 h2 (by rw [St.trunc_cons2]; exact hs) (by simp only [List.length_cons]; omega)
  rw [St.trunc_cons2] at this; exact this
theorem outL_len {st' : St} {n : Nat} (h : st'.length = n) (ko : Bool) (r : AOut) : outL ko n r st' = some (r, st') := by subst h; simp
theorem roundV_len {st' : St} {n : Nat} (h : st'.length = n) (fr : Fr) : roundV n fr st' = some (fr, st') := by subst h; exact roundV_same _ _
theorem roundV_cut {n : Nat} {fr : Fr} {S : St} (ht : S.trunc n = st) (hn : n = st.length) (hne : S.length ≠ n) (hc : Cl st) (he : (fr.env.all fun p => AV.closed n p.2) = true) (hd : fr.defers = []) : roundV n fr S = some (fr, st) := by
  subst hn
  unfold roundV
  rw [ht]
  have h1 : (S.length == st.length) = false := by simpa using hne
  have h2 : St.closed st.length st = true := hc
  rw [h1, h2, hd]
  simp only [Bool.false_eq_true, if_false, List.all_nil, Bool.and_self, if_true]
  rw [List.filter_eq_self.2 (fun p hp => List.all_eq_true.1 he p hp)]
  cases fr
  subst hd
  rfl
theorem ixR {α : Type} {Q : α → List AV → Prop} {kd : Nat} {a : AV} {xs : List α} {rows : List (List AV)} (h : Sl kd a rows) (he : Each Q xs rows) {j : Nat} {x : α} (hj : xs[j]? = some x) :
    ∃ r, Q x r ∧ ∀ (R : Type) (st : St) (K : AV → Option R), ((natA (.int .i64 (j : Int))).bind fun j => (idxSl st kd a j).bind K) = K (.ip r 0) := by
  obtain ⟨r, hr, hq⟩ := he.get hj
  exact ⟨r, hq, fun R st K => by rw [natA_nat, Option.bind_some, h.at hr, Option.bind_some]⟩
theorem e1i {i : Nat} (h : i < 1000000000000) : IntKind.i64.wrap ((i : Int) + 1) = ((i + 1 : Nat) : Int) := by rw [i64_in _ (by omega)]; rfl

/-! ### Origins -/
theorem row_keys {o : Ori} (rest : List AV) {j : Nat} {k : Key} (h : o.keys[j]? = some k) : readRow (oriC o ++ rest) (2 + j * 3) 3 true = some (.agg (keyC k)) := by
  obtain ⟨h1, h2⟩ := keyCs_at o.keys j k h
  have e : (oriC o ++ rest) = .int .i64 o.node :: .int .i64 o.loops :: (keyCs o.keys ++ rest) := rfl
  unfold readRow
  have hd : ((oriC o ++ rest).drop (2 + j * 3)).take 3 = keyC k := by
    rw [e, show 2 + j * 3 = (j * 3 + 1) + 1 by omega, List.drop_succ_cons, List.drop_succ_cons, List.drop_append_of_le_length (by omega), List.take_append_of_le_length (by rw [List.length_drop]; omega), h1]
  rw [if_pos rfl, if_pos (by rw [e]; simp only [List.length_cons, List.length_append]; omega), hd]
theorem binA_key0 (k : Key) : binA Try.prog BinOp.neq 57 false (.agg (keyC k)) (AV.agg [AV.int IntKind.i64 0, AV.int IntKind.i64 0, AV.str []]) = some (.bool (!decide (k = zeroK))) := binA_neq k zeroK
theorem formed_loop (st : St) {o : Ori} (ho : o.ok) (rest : List AV) (base : Nat) (hb : base = st.length) : ∀ (d j : Nat), j + d = 8 →
    aw 66 base p66_0 ⟨[(0, .ip (oriC o ++ rest) 0), (3, .int .i64 (j : Int))], []⟩ st = some (.ret (.bool ((o.keys.drop j).all fun k => decide (k = zeroK))), st) := by
  have hol : o.keys.length = 8 := ho
  subst hb
  intro d
  induction d with
  | zero =>
    intro j hj
    refine F66_0 _ _ _ _ ?_
    rw [if_neg (by simp; omega), List.drop_of_length_le (by omega)]
    simp
  | succ d ih =>
    intro j hj
    have gk : o.keys[j]? = some (o.keys[j]'(by omega)) := List.getElem?_eq_getElem _
    have dk : o.keys.drop j = o.keys[j]'(by omega) :: o.keys.drop (j + 1) := List.drop_eq_getElem_cons _
    generalize o.keys[j]'(by omega) = k at gk dk
    refine F66_0 _ _ _ _ ?_
    rw [if_pos (by simp; omega)]
    simp only [nilCheckA_ip, ptrAdd_ip, readA_ip, Option.bind_some, natA_nat, Nat.zero_add, row_keys rest gk, binA_key0, boolV_bool, e1i (show j < 1000000000000 by omega), dk]
    rw [if_pos (by omega)]
    by_cases hk : k = zeroK
    · subst hk
      simp only [decide_true, Bool.not_true, Bool.false_eq_true, if_false, List.all_cons, Bool.true_and]
      exact ih (j + 1) (by omega)
    · simp [hk]
theorem formed_run (st : St) {o : Ori} (ho : o.ok) (rest : List AV) : cw 66 [.ip (oriC o ++ rest) 0] st = some (.ret (.bool (formed o)), st) := by
  refine F66 _ _ ?_
  have r0 : readRow (oriC o ++ rest) 0 1 false = some (.int .i64 o.node) := rfl
  have r1 : readRow (oriC o ++ rest) 1 1 false = some (.int .i64 o.loops) := rfl
  simp only [nilCheckA_ip, ptrAdd_ip, readA_ip, Option.bind_some, Nat.zero_add, r0, r1, intV_int]
  by_cases h1 : o.node < 0
  · rw [if_pos (by simpa using h1), outL_same, formed_n h1]
  rw [if_neg (by simpa using h1)]
  by_cases h2 : o.loops < 0
  · rw [if_pos (by simpa using h2), outL_same, formed_l h2]
  rw [if_neg (by simpa using h2)]
  by_cases h3 : o.loops > 8
  · rw [if_pos (by simpa using h3), outL_same, formed_g h3]
  rw [if_neg (by simpa using h3), formed_t h1 h2 h3]
  obtain ⟨j, hj⟩ := Int.eq_ofNat_of_zero_le (show 0 ≤ o.loops by omega)
  rw [hj]
  exact formed_loop st ho rest _ rfl (8 - j) j (by omega)
theorem form61_loop {st : St} (hs : Cl st) {o : Ori} (ho : o.ok) : ∀ (d j : Nat), j + d = 8 →
    aw 61 st.length p61_0 ⟨[(1, .bp st.length 0), (3, .int .i64 (j : Int))], []⟩ (.box 67 (oriC o) :: st) = some (.ret (.bool ((o.keys.drop j).all fun k => decide (k = zeroK))), st) := by
  have hol : o.keys.length = 8 := ho
  intro d
  induction d with
  | zero =>
    intro j hj
    refine F61_0 _ _ _ _ ?_
    rw [if_neg (by simp; omega), List.drop_of_length_le (by omega)]
    simp [outL_s1 hs]
    exact outL_s1 hs _ rfl rfl
  | succ d ih =>
    intro j hj
    have gk : o.keys[j]? = some (o.keys[j]'(by omega)) := List.getElem?_eq_getElem _
    have dk : o.keys.drop j = o.keys[j]'(by omega) :: o.keys.drop (j + 1) := List.drop_eq_getElem_cons _
    generalize o.keys[j]'(by omega) = k at gk dk
    refine F61_0 _ _ _ _ ?_
    have hr := row_keys [] gk
    rw [List.append_nil] at hr
    rw [if_pos (by simp; omega)]
    simp only [ptrAdd_bp, Option.bind_some, natA_nat, Nat.zero_add, box_read (get_at1 rfl), hr, binA_key0, boolV_bool, e1i (show j < 1000000000000 by omega), dk]
    rw [if_pos (by omega)]
    by_cases hk : k = zeroK
    · subst hk
      simp only [decide_true, Bool.not_true, Bool.false_eq_true, if_false, List.all_cons, Bool.true_and]
      exact ih (j + 1) (by omega)
    · simp [hk]
      exact outL_s1 hs _ rfl rfl
theorem form61_run {st : St} (hs : Cl st) {o : Ori} (ho : o.ok) : cw 61 [.agg (oriC o)] st = some (.ret (.bool (formed o)), st) := by
  refine F61 _ _ ?_
  have r0 : readRow (oriC o) 0 1 false = some (.int .i64 o.node) := rfl
  have r1 : readRow (oriC o) 1 1 false = some (.int .i64 o.loops) := rfl
  rw [cells_agg (oriC_len ho)]
  simp only [Option.bind_some, box_read (get_at1 rfl), r0, r1, intV_int]
  by_cases h1 : o.node < 0
  · rw [if_pos (by simpa using h1), outL_s1 hs _ rfl rfl, formed_n h1]
  rw [if_neg (by simpa using h1)]
  by_cases h2 : o.loops < 0
  · rw [if_pos (by simpa using h2), outL_s1 hs _ rfl rfl, formed_l h2]
  rw [if_neg (by simpa using h2)]
  by_cases h3 : o.loops > 8
  · rw [if_pos (by simpa using h3), outL_s1 hs _ rfl rfl, formed_g h3]
  rw [if_neg (by simpa using h3), formed_t h1 h2 h3]
  obtain ⟨j, hj⟩ := Int.eq_ofNat_of_zero_le (show 0 ≤ o.loops by omega)
  rw [hj]
  exact form61_loop hs ho (8 - j) j (by omega)

/-! ### Where an origin stands -/
def plI (i : Nat) (r : Option Nat) : Int := match r with | some j => ((i + j : Nat) : Int) | none => -1
theorem find_loop {st : St} (hs : Cl st) {a : AV} {ss : List Spot} {rows : List (List AV)} (hA : Sl 30 a rows) (hE : Each SpotR ss rows) (hl : ss.length < 10000000) {o : Ori} (ho : o.ok) : ∀ (d i : Nat), i + d = ss.length →
    aw 46 st.length p46_0 ⟨[(0, a), (3, .bp st.length 0), (5, .int .i64 (i : Int))], []⟩ (.box 67 (oriC o) :: st) = some (.ret (.int .i64 (plI i (place o (oris (ss.drop i))))), st) := by
  intro d
  induction d with
  | zero =>
    intro i hi
    refine F46_0 _ _ _ _ _ ?_
    rw [lnR (st := []) hA.rd hE, if_neg (by simp; omega), List.drop_of_length_le (by omega)]
    exact outL_s1 hs _ rfl rfl
  | succ d ih =>
    intro i hi
    have gs : ss[i]? = some (ss[i]'(by omega)) := List.getElem?_eq_getElem _
    have ds : ss.drop i = ss[i]'(by omega) :: ss.drop (i + 1) := List.drop_eq_getElem_cons _
    generalize ss[i]'(by omega) = s at gs ds
    obtain ⟨r, ⟨hso, b, rfl, hb, hbc⟩, hrd⟩ := ixR hA hE gs
    have hfull : readRow (oriC o) 0 26 true = some (.agg (oriC o)) := row_all _ _ (oriC_len ho)
    refine F46_0 _ _ _ _ _ ?_
    rw [lnR (st := []) hA.rd hE, if_pos (by simp; omega), hrd]
    simp only [ptrAdd_ip, readA_ip, Option.bind_some, Nat.zero_add, sp_ori hso, box_read (get_at1 rfl), hfull, binA_ori hso ho, boolV_bool, e1i (show i < 1000000000000 by omega), ds, oris, List.map_cons, place]
    by_cases h : s.ori = o
    · simp only [h, decide_true, if_true, plI]
      exact outL_s1 hs _ rfl rfl
    · simp only [h, decide_false, Bool.false_eq_true, if_false]
      rw [ih (i + 1) (by omega)]
      simp only [oris]
      cases place o (List.map Spot.ori (ss.drop (i + 1))) with
      | none => rfl
      | some j => simp only [plI, Option.map_some]; rw [show i + 1 + j = i + (j + 1) by omega]
theorem find_run {st : St} (hs : Cl st) {a : AV} {ss : List Spot} {rows : List (List AV)} (hA : Sl 30 a rows) (hE : Each SpotR ss rows) (hl : ss.length < 10000000) {o : Ori} (ho : o.ok) : cw 46 [a, .agg (oriC o)] st = some (.ret (.int .i64 (plI 0 (place o (oris ss)))), st) := by
  refine F46 _ _ _ ?_
  rw [cells_agg (oriC_len ho), Option.bind_some]
  have := find_loop hs hA hE hl ho ss.length 0 (by omega)
  exact this
theorem lfind_loop {st : St} (hs : Cl st) {a : AV} {ss : List Lp} {rows : List (List AV)} (hA : Sl 27 a rows) (hE : Each LoopR ss rows) (hl : ss.length < 10000000) {o : Ori} (ho : o.ok) : ∀ (d i : Nat), i + d = ss.length →
    aw 49 st.length p49_0 ⟨[(0, a), (3, .bp st.length 0), (5, .int .i64 (i : Int))], []⟩ (.box 67 (oriC o) :: st) = some (.ret (.int .i64 (plI i (place o (loris (ss.drop i))))), st) := by
  intro d
  induction d with
  | zero =>
    intro i hi
    refine F49_0 _ _ _ _ _ ?_
    rw [lnR (st := []) hA.rd hE, if_neg (by simp; omega), List.drop_of_length_le (by omega)]
    exact outL_s1 hs _ rfl rfl
  | succ d ih =>
    intro i hi
    have gs : ss[i]? = some (ss[i]'(by omega)) := List.getElem?_eq_getElem _
    have ds : ss.drop i = ss[i]'(by omega) :: ss.drop (i + 1) := List.drop_eq_getElem_cons _
    generalize ss[i]'(by omega) = s at gs ds
    obtain ⟨r, ⟨hso, b, rfl, hb, hbc⟩, hrd⟩ := ixR hA hE gs
    have hfull : readRow (oriC o) 0 26 true = some (.agg (oriC o)) := row_all _ _ (oriC_len ho)
    refine F49_0 _ _ _ _ _ ?_
    rw [lnR (st := []) hA.rd hE, if_pos (by simp; omega), hrd]
    simp only [ptrAdd_ip, readA_ip, Option.bind_some, Nat.zero_add, lp_ori hso, box_read (get_at1 rfl), hfull, binA_ori hso ho, boolV_bool, e1i (show i < 1000000000000 by omega), ds, loris, List.map_cons, place]
    by_cases h : s.ori = o
    · simp only [h, decide_true, if_true, plI]
      exact outL_s1 hs _ rfl rfl
    · simp only [h, decide_false, Bool.false_eq_true, if_false]
      rw [ih (i + 1) (by omega)]
      simp only [loris]
      cases place o (List.map Lp.ori (ss.drop (i + 1))) with
      | none => rfl
      | some j => simp only [plI, Option.map_some]; rw [show i + 1 + j = i + (j + 1) by omega]
theorem lfind_run {st : St} (hs : Cl st) {a : AV} {ss : List Lp} {rows : List (List AV)} (hA : Sl 27 a rows) (hE : Each LoopR ss rows) (hl : ss.length < 10000000) {o : Ori} (ho : o.ok) : cw 49 [a, .agg (oriC o)] st = some (.ret (.int .i64 (plI 0 (place o (loris ss)))), st) := by
  refine F49 _ _ _ ?_
  rw [cells_agg (oriC_len ho), Option.bind_some]
  have := lfind_loop hs hA hE hl ho ss.length 0 (by omega)
  exact this

/-! ### Maps of origins -/
def oents : List Ori → Nat → List (AV × AV)
  | [], _ => []
  | k :: r, i => (.agg (oriC k), .int .i64 (i : Int)) :: oents r (i + 1)
theorem oents_app (l : List Ori) (k : Ori) : ∀ i, oents (l ++ [k]) i = oents l i ++ [(.agg (oriC k), .int .i64 ((i + l.length : Nat) : Int))] := by
  induction l with
  | nil => intro i; simp [oents]
  | cons q l ih => intro i; simp only [List.cons_append, oents, ih, List.length_cons]; rw [show i + 1 + l.length = i + (l.length + 1) by omega]
theorem oents_at : ∀ {l : List Ori} {i j : Nat} {k : Ori}, l[j]? = some k → (oents l i)[j]? = some (.agg (oriC k), .int .i64 ((i + j : Nat) : Int))
  | [], _, _, _, h => by simp at h
  | q :: l, i, 0, k, h => by simp at h; subst h; rfl
  | q :: l, i, j + 1, k, h => by
    have := oents_at (l := l) (i := i + 1) (j := j) (k := k) (by simpa using h)
    simp only [oents, List.getElem?_cons_succ, this]
    rw [show i + 1 + j = i + (j + 1) by omega]
def OksO (l : List Ori) : Prop := ∀ o ∈ l, o.ok
theorem find_oents {k : Ori} (hk : k.ok) : ∀ (l : List Ori) (i : Nat) (n : Nat), OksO l → findA (eqA Try.prog 10000 67) (.agg (oriC k)) (oents l i) n = some ((place k l).map fun j => (n + j, .int .i64 ((i + j : Nat) : Int))) := by
  intro l
  induction l with
  | nil => intro i n _; rfl
  | cons q l ih =>
    intro i n hl
    simp only [oents, findA, eqA_ori hk (hl q (by simp)), Option.bind_some, place]
    by_cases h : k = q
    · subst h; simp
    · rw [if_neg (by simpa using h), ih _ _ (fun o ho => hl o (by simp [ho])), if_neg (fun e => h e.symm), Option.map_map]
      congr 2
      funext j
      simp only [Function.comp]
      rw [show n + 1 + j = n + (j + 1) by omega, show i + 1 + j = i + (j + 1) by omega]
theorem u77 : Try.prog.underlying 77 = some (.map 67 3) := by kernel_rfl
theorem keyOk65 {l : List Key} (h : l.length = 8) : keyOk Try.prog 19 65 (.agg (keyCs l)) = true := by
  have h1 : keyOk Try.prog 19 65 (.agg (keyCs l)) = (List.range 8).all fun i => match partA Try.prog 57 (keyCs l) (i * 3) with | some x => keyOk Try.prog 18 57 x | none => false := by kernel_rfl
  rw [h1, List.all_eq_true]
  intro i hi
  simp only [List.mem_range] at hi
  have gk : l[i]? = some (l[i]'(by omega)) := List.getElem?_eq_getElem _
  generalize l[i]'(by omega) = k at gk
  rw [part_key gk]
  have h2 : keyOk Try.prog 18 57 (.agg (keyC k)) = true := by kernel_rfl
  exact h2
theorem keyOk67 {k : Ori} (hk : k.ok) : keyOk Try.prog 20 67 (.agg (oriC k)) = true := by
  have h : keyOk Try.prog 20 67 (.agg (oriC k)) = ((match (if 2 + 24 ≤ (oriC k).length then some (AV.agg (((oriC k).drop 2).take 24)) else none) with | some x => keyOk Try.prog 19 65 x | none => false) && true) := by kernel_rfl
  rw [h, if_pos (by rw [oriC_len hk]; omega)]
  have e : ((oriC k).drop 2).take 24 = keyCs k.keys := by
    show (keyCs k.keys).take 24 = _
    rw [List.take_of_length_le (by rw [keyCs_len, show k.keys.length = 8 from hk]; omega)]
  rw [e, Bool.and_true]
  exact keyOk65 hk
theorem olookup_ok {st : St} {o : Nat} {l : List Ori} (h : st.get o = some (.amap (oents l 0))) (hl : OksO l) {k : Ori} (hk : k.ok) :
    lookupA Try.prog st 77 (.mp o) (.agg (oriC k)) true = some (.tup [.int .i64 (match place k l with | some j => (j : Int) | none => 0), .bool (place k l).isSome]) := by
  unfold lookupA
  rw [u77]
  simp only [keyOk67 hk, if_true, zero3, Option.bind_some, h, find_oents hk _ _ _ hl, Option.map_some]
  cases place k l with
  | none => rfl
  | some j => simp
theorem keySame_key (k : Key) : ∀ r, scalarsEq (keyC k ++ r) (keyC k ++ r) = scalarsEq r r := by intro r; simp [keyC, scalarsEq, scalarEq]
theorem scalars_keys : ∀ l : List Key, scalarsEq (keyCs l) (keyCs l) = true
  | [] => rfl
  | k :: l => by
    have e : keyCs (k :: l) = keyC k ++ keyCs l := rfl
    rw [e, keySame_key, scalars_keys l]
theorem keySame_ori (k : Ori) : keySame (.agg (oriC k)) (.agg (oriC k)) = true := by
  simp only [keySame, oriC, scalarsEq, scalarEq, scalars_keys]
  simp
theorem closed_oents (n : Nat) : ∀ (l : List Ori) (i : Nat), ((oents l i).all fun p => AV.closed n p.1 && AV.closed n p.2) = true
  | [], i => rfl
  | k :: l, i => by
    have := closed_oents n l (i + 1)
    simp only [oents, List.all_cons, this, AV.closed, Bool.and_true]
    exact closeds_all fun c hc => (oriC_plain k c hc).2.1 n
/-- An origin is put into the map. -/
theorem oupdate_ok {st : St} {o : Nat} {l : List Ori} (h : st.get o = some (.amap (oents l 0))) (hl : OksO l) {k : Ori} (hk : k.ok) {i : Nat} (hi : i = l.length) :
    ∃ es, mapUpdateA Try.prog st 77 (.mp o) (.agg (oriC k)) (.int .i64 (i : Int)) = some (st.put o (.amap es)) ∧ (∀ n, (es.all fun p => AV.closed n p.1 && AV.closed n p.2) = true) ∧ (place k l = none → es = oents (l ++ [k]) 0) := by
  unfold mapUpdateA
  rw [u77]
  simp only [keyOk67 hk, if_true, h, find_oents hk _ _ _ hl, Option.bind_some]
  cases hp : place k l with
  | none =>
    refine ⟨oents (l ++ [k]) 0, ?_, fun n => closed_oents n _ _, fun _ => rfl⟩
    simp only [Option.map_none, oents_app, hi, Nat.zero_add]
  | some j =>
    have hj := place_some hp
    have ha := oents_at (i := 0) hj
    refine ⟨(oents l 0).set (0 + j) (.agg (oriC k), .int .i64 (i : Int)), ?_, fun n => ?_, fun e => by cases e⟩
    · simp only [Option.map_some, Nat.zero_add, ha, Option.bind_some, keySame_ori, if_true]
    · rw [List.all_eq_true]
      intro p hp'
      rcases List.mem_or_eq_of_mem_set hp' with hm | rfl
      · exact List.all_eq_true.1 (closed_oents n l 0) p hm
      · simp only [AV.closed, Bool.and_true]
        exact closeds_all fun c hc => (oriC_plain k c hc).2.1 n
end
end Go.Abs
