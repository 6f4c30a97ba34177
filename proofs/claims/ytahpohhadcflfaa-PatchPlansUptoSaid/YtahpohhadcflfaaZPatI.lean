/- The reference's parts by value: attributes, the topmost ones, loops. -/
import Derived.Test.YtahpohhadcflfaaZPatH
import Derived.Test.YtahpohhadcflfaaZEqX44
namespace Go.Abs
open Go Go.Proofs Go.Proofs.Ytahpohhadcflfaa.LisMath Go.RowKit Go.IntWalk
set_option linter.unusedVariables false
set_option linter.unusedSimpArgs false

def Full (kd : Nat) (v : AV) (c : List (List AV)) : Prop := (v = .nils ∧ c = []) ∨ ∃ tok : Tok, (tok = .no ∨ tok = .exact) ∧ v = .sl kd c 0 c.length tok
theorem Full.sl {kd : Nat} {v : AV} {c : List (List AV)} (h : Full kd v c) : Sl kd v c := by
  rcases h with ⟨rfl, rfl⟩ | ⟨tok, _, rfl⟩
  · exact .nil
  · exact .mk
theorem Full.closed {kd n : Nat} {v : AV} {c : List (List AV)} (h : Full kd v c) (hc : AV.closedss n c = true) : AV.closed n v = true := by
  rcases h with ⟨rfl, rfl⟩ | ⟨tok, rfl | rfl, rfl⟩
  · rfl
  · simp [AV.closed, hc]
  · simp [AV.closed, hc]
theorem Full.strip {kd n : Nat} {v : AV} {c : List (List AV)} (h : Full kd v c) : AV.stripN n v = v := by
  rcases h with ⟨rfl, rfl⟩ | ⟨tok, rfl | rfl, rfl⟩ <;> rfl
theorem Acc.full {kd t n : Nat} {st : St} {v : AV} {c : List (List AV)} (h : Acc kd t st v c) (hn : n ≤ t) : Full kd (AV.stripN n v) c := by
  rcases h with ⟨rfl, rfl, _⟩ | ⟨ep, rfl, _⟩ | ⟨rfl, _⟩
  · exact .inl ⟨rfl, rfl⟩
  · exact .inr ⟨.no, .inl rfl, by simp only [AV.stripN]; rw [if_neg (by omega)]⟩
  · exact .inr ⟨.exact, .inr rfl, rfl⟩
theorem Acc.lt {kd t : Nat} {st : St} {v : AV} {c : List (List AV)} (h : Acc kd t st v c) : t < st.length := by
  rcases h with ⟨_, _, e, he⟩ | ⟨ep, _, he⟩ | ⟨_, e, he⟩ <;> exact St.get_lt he
theorem Acc.same {kd t : Nat} {st st' : St} {v : AV} {c : List (List AV)} (h : Acc kd t st v c) (hg : st'.get t = st.get t) : Acc kd t st' v c := by
  rcases h with ⟨h1, h2, e, he⟩ | ⟨ep, h1, he⟩ | ⟨h1, e, he⟩
  · exact .inl ⟨h1, h2, e, by rw [hg]; exact he⟩
  · exact .inr (.inl ⟨ep, h1, by rw [hg]; exact he⟩)
  · exact .inr (.inr ⟨h1, e, by rw [hg]; exact he⟩)
theorem Acc.clv {kd t n : Nat} {st : St} {v : AV} {c : List (List AV)} (h : Acc kd t st v c) (hn : t < n) (hc : AV.closedss n c = true) : AV.closed n v = true := by
  rcases h with ⟨rfl, rfl, _⟩ | ⟨ep, rfl, _⟩ | ⟨rfl, _⟩
  · rfl
  · simp [AV.closed, hc, hn]
  · simp [AV.closed, hc]
theorem Acc.outF {kd t n : Nat} {st : St} {v : AV} {c : List (List AV)} (h : Acc kd t st v c) (hn : n ≤ t) (hc : AV.closedss n c = true) (hs : St.closed n (st.trunc n) = true) :
    ∃ v', outL false n (.ret v) st = some (.ret v', st.trunc n) ∧ Full kd v' c := by
  have ht := h.lt
  have hf := h.full hn
  have hsl : AV.stripR n v = AV.stripN n v := by
    rcases h with ⟨rfl, _⟩ | ⟨ep, rfl, _⟩ | ⟨rfl, _⟩ <;> rfl
  refine ⟨AV.stripN n v, ?_, hf⟩
  have hne : (st.length == n) = false := by simp; omega
  simp only [outL, hne, Bool.or_self, Bool.false_eq_true, if_false, hsl, hf.closed hc, hs, Bool.and_self, if_true]

section
variable {st : St}
theorem value_loop {a : AV} {l : List Attr} (hA : Sl 2 a (attrs l)) (hl : l.length < 10000000) (n : List UInt8) : ∀ (r : List Attr) (i : Nat), l.drop i = r →
    aw 62 st.length p62_0 ⟨[(0, a), (1, .str n), (6, .int .i64 (i : Int))], []⟩ st = some (.ret (.tup [.str (match lookA n r with | some v => v | none => []), .bool (lookA n r).isSome]), st) := by
  intro r
  induction r with
  | nil =>
    intro i hi
    have : l.length ≤ i := by simpa using hi
    refine F62_0 _ _ _ _ _ ?_
    rw [lna (st := []) hA.rd, if_neg (by simp; omega), outL_same]
    rfl
  | cons x r ih =>
    intro i hi
    have hil : i < l.length := by have := congrArg List.length hi; simp at this; omega
    have hr : l.drop (i + 1) = r := by have := congrArg List.tail hi; simpa using this
    have gx : l[i]? = some x := by
      have : (l.drop i)[0]? = some x := by rw [hi]; rfl
      rw [List.getElem?_drop] at this; simpa using this
    refine F62_0 _ _ _ _ _ ?_
    rw [lna (st := []) hA.rd, if_pos (by simp; omega)]
    simp only [natA_nat, Option.bind_some, hA.at (attrs_get gx), ptrAdd_ip, readA_ip, Nat.zero_add, attrC_n, attrC_v, strV_str, strA, boolV_bool, e1i (show i < 1000000000000 by omega), outL_same, lookA]
    by_cases h : x.name = n
    · rw [if_pos (by simpa using h), if_pos h]
      rfl
    · rw [if_neg (by simpa using h), if_neg h]
      exact ih (i + 1) hr
theorem value_run (st : St) {a : AV} {l : List Attr} (hA : Sl 2 a (attrs l)) (hl : l.length < 10000000) (n : List UInt8) : cw 62 [a, .str n] st = some (.ret (.tup [.str (match lookA n l with | some v => v | none => []), .bool (lookA n l).isSome]), st) :=
  F62 _ _ _ (value_loop hA hl n l 0 (by simp))
theorem attrs_2 {x y : AV} {a b : List Attr} (hA : Sl 2 x (attrs a)) (hB : Sl 2 y (attrs b)) (hla : a.length < 10000000) (hlb : b.length < 10000000) : ∀ (r : List Attr) (i : Nat), b.drop i = r → ∀ k : Int, 0 ≤ k → k ≤ 100000000 + i →
    aw 47 st.length p47_1 ⟨[(0, x), (1, y), (5, .int .i64 k), (9, .int .i64 (i : Int))], []⟩ st = some (.ret (.int .i64 (k + sumI (r.map (gainA a)))), st) := by
  intro r
  induction r with
  | nil =>
    intro i hi k h1 h2
    have : b.length ≤ i := by simpa using hi
    refine F47_1 _ _ _ _ _ _ ?_
    rw [lna (st := []) hB.rd, if_neg (by simp; omega), outL_same]
    simp [sumI]
  | cons z r ih =>
    intro i hi k h1 h2
    have hil : i < b.length := by have := congrArg List.length hi; simp at this; omega
    have hr : b.drop (i + 1) = r := by have := congrArg List.tail hi; simpa using this
    have gx : b[i]? = some z := by
      have : (b.drop i)[0]? = some z := by rw [hi]; rfl
      rw [List.getElem?_drop] at this; simpa using this
    have ek : IntKind.i64.wrap (k + 1) = k + 1 := i64_in _ (by omega)
    refine F47_1 _ _ _ _ _ _ ?_
    rw [lna (st := []) hB.rd, if_pos (by simp; omega)]
    simp only [natA_nat, Option.bind_some, hB.at (attrs_get gx), ptrAdd_ip, readA_ip, Nat.zero_add, attrC_n, strV_str, value_run st hA hla, callB_ret, extractA_tup, List.getElem?_cons_zero, List.getElem?_cons_succ, boolV_bool, e1i (show i < 1000000000000 by omega), ek, List.map_cons, sumI, gainA]
    cases lookA z.name a with
    | none =>
      simp only [Option.isSome_none, Bool.not_false, if_true, ← Int.add_assoc]
      exact ih (i + 1) hr _ (by omega) (by omega)
    | some v =>
      simp only [Option.isSome_some, Bool.not_true, Bool.false_eq_true, if_false, reduceCtorEq, Int.zero_add]
      exact ih (i + 1) hr _ (by omega) (by omega)
theorem attrs_1 {x y : AV} {a b : List Attr} (hA : Sl 2 x (attrs a)) (hB : Sl 2 y (attrs b)) (hla : a.length < 10000000) (hlb : b.length < 10000000) : ∀ (r : List Attr) (i : Nat), a.drop i = r → i ≤ a.length → ∀ k : Int, 0 ≤ k → k ≤ i →
    aw 47 st.length p47_0 ⟨[(0, x), (1, y), (5, .int .i64 k), (6, .int .i64 (i : Int))], []⟩ st = some (.ret (.int .i64 (k + sumI (r.map (lackA b)) + sumI (b.map (gainA a)))), st) := by
  intro r
  induction r with
  | nil =>
    intro i hi hio k h1 h2
    have : a.length ≤ i := by simpa using hi
    refine F47_0 _ _ _ _ _ _ ?_
    rw [lna (st := []) hA.rd, if_neg (by simp; omega)]
    have := attrs_2 (st := st) hA hB hla hlb b 0 (by simp) k h1 (by omega)
    simpa [sumI] using this
  | cons z r ih =>
    intro i hi hio k h1 h2
    have hil : i < a.length := by have := congrArg List.length hi; simp at this; omega
    have hr : a.drop (i + 1) = r := by have := congrArg List.tail hi; simpa using this
    have gx : a[i]? = some z := by
      have : (a.drop i)[0]? = some z := by rw [hi]; rfl
      rw [List.getElem?_drop] at this; simpa using this
    have ek : IntKind.i64.wrap (k + 1) = k + 1 := i64_in _ (by omega)
    refine F47_0 _ _ _ _ _ _ ?_
    rw [lna (st := []) hA.rd, if_pos (by simp; omega)]
    simp only [natA_nat, Option.bind_some, hA.at (attrs_get gx), ptrAdd_ip, readA_ip, Nat.zero_add, attrC_n, attrC_v, strV_str, strA, value_run st hB hlb, callB_ret, extractA_tup, List.getElem?_cons_zero, List.getElem?_cons_succ, boolV_bool, e1i (show i < 1000000000000 by omega), ek, List.map_cons, sumI, lackA]
    cases lookA z.name b with
    | none =>
      simp only [Option.isSome_none, Bool.not_false, if_true, reduceCtorEq, if_false, ← Int.add_assoc]
      exact ih (i + 1) hr (by omega) _ (by omega) (by omega)
    | some v =>
      simp only [Option.isSome_some, Bool.not_true, Bool.false_eq_true, if_false, Option.some.injEq]
      by_cases hv : v = z.value
      · rw [if_neg (by simp [hv]), if_pos hv, Int.zero_add]
        exact ih (i + 1) hr (by omega) _ (by omega) (by omega)
      · rw [if_pos (by simp [hv]), if_neg hv, ← Int.add_assoc]
        exact ih (i + 1) hr (by omega) _ (by omega) (by omega)
theorem attrs_run (st : St) {x y : AV} {a b : List Attr} (hA : Sl 2 x (attrs a)) (hB : Sl 2 y (attrs b)) (hla : a.length < 10000000) (hlb : b.length < 10000000) : cw 47 [x, y] st = some (.ret (.int .i64 (attrsD a b)), st) := by
  have := attrs_1 (st := st) hA hB hla hlb a 0 (by simp) (by omega) 0 (by omega) (by omega)
  rw [Int.zero_add] at this
  exact F47 _ _ _ this

/-! ### The topmost ones -/
theorem rtops_loop {S : St} (hC : Cl S) {a mv : AV} {m : List Int} {keep : Ori → Bool} {ss : List Spot} {rows : List (List AV)} (hA : Sl 30 a rows) (hE : Each SpotR ss rows) (hsl : ss.length < 10000000) (hb : Below ss)
    (hM : ∀ T, Up S T → Rd T 1 mv (ints m)) (hm : ∀ (i : Nat) (s : Spot), ss[i]? = some s → ∃ c, m[i]? = some c ∧ (c < 0 ↔ keep s.ori = false)) : ∀ (r : List Spot) (i : Nat), ss.drop i = r → ∀ (acc : List Int) (v : AV) (T : St), acc.length ≤ i → Acc 1 S.length T v (ints acc) → Up S T →
      ∃ v', aw 48 S.length p48_0 ⟨[(0, a), (1, mv), (5, v), (6, .int .i64 (i : Int))], []⟩ T = some (.ret v', S) ∧ Full 1 v' (ints (acc ++ topsF ss keep r i)) := by
  intro r
  induction r with
  | nil =>
    intro i hi acc v T ha hAc hU
    have : ss.length ≤ i := by simpa using hi
    obtain ⟨v', o1, o2⟩ := hAc.outF (n := S.length) (Nat.le_refl _) (closed_ints _ _) (by rw [hU.low]; exact hC)
    refine ⟨v', F48_0 _ _ _ _ _ _ ?_, by simpa [topsF] using o2⟩
    rw [lnR (st := []) hA.rd hE, if_neg (by simp; omega), hAc.sl.frz, bind2_some, o1, hU.low]
  | cons s r ih =>
    intro i hi acc v T ha hAc hU
    have hil : i < ss.length := by have := congrArg List.length hi; simp at this; omega
    have hr : ss.drop (i + 1) = r := by have := congrArg List.tail hi; simpa using this
    have gs : ss[i]? = some s := by
      have : (ss.drop i)[0]? = some s := by rw [hi]; rfl
      rw [List.getElem?_drop] at this; simpa using this
    obtain ⟨c, gc, hck⟩ := hm i s gs
    obtain ⟨row, ⟨ho, x, rfl, hX, hxc⟩, hrd⟩ := ixR hA hE gs
    have ei := e1i (show i < 1000000000000 by omega)
    have key : ∀ R, _ := fun R => F48_0 a mv v (i : Int) S.length T (r := R)
    rw [lnR (st := []) hA.rd hE, if_pos (by simp; omega), rd (hM T hU) gc] at key
    simp only [hrd, ptrAdd_ip, readA_ip, Option.bind_some, Nat.zero_add, Nat.add_zero, sp_parent ho, intV_int, decide_eq_true_eq, ei] at key
    have add : ∃ v', (bind2 (appendL T (some (S.length, false)) 8 1 v (AV.sl 1 [[AV.int IntKind.i64 (i : Int)]] 0 1 Tok.exact)) fun v st => aw 48 S.length p48_0 ⟨[(0, a), (1, mv), (5, v), (6, .int .i64 ((i + 1 : Nat) : Int))], []⟩ st) = some (.ret v', S) ∧
        Full 1 v' (ints (acc ++ (i : Int) :: topsF ss keep r (i + 1))) := by
      obtain ⟨v2, y, p1, p2⟩ := hAc.app (x := .sl 1 [[AV.int IntKind.i64 (i : Int)]] 0 1 .exact) (new := [[.int .i64 (i : Int)]]) (bytes := 8) rfl (by rw [ints_len]; simp [roomA]; omega) (by rw [ints_len]; simp [roomA]; omega)
      have hap : ints acc ++ [[.int .i64 (i : Int)]] = ints (acc ++ [(i : Int)]) := by rw [ints_app]; rfl
      rw [hap] at p2
      obtain ⟨v', q1, q2⟩ := ih (i + 1) hr (acc ++ [(i : Int)]) v2 (T.put S.length y) (by simp; omega) p2 (hU.put (Nat.le_refl _) _)
      refine ⟨v', ?_, by simpa using q2⟩
      rw [p1, bind2_some]
      exact q1
    by_cases hc : c < 0
    · have hk := hck.1 hc
      by_cases hp : s.parent < 0
      · obtain ⟨v', q1, q2⟩ := add
        refine ⟨v', key _ ?_, ?_⟩
        · rw [if_pos hc, if_pos hp]; exact q1
        · simp only [topsF, hk, par, hp, if_true, Bool.false_eq_true, if_false]; exact q2
      · obtain ⟨k, hkp⟩ := Int.eq_ofNat_of_zero_le (show 0 ≤ s.parent by omega)
        have hki : k < i := by have := hb i s gs; omega
        have gp : ss[k]? = some (ss[k]'(by omega)) := List.getElem?_eq_getElem _
        generalize ss[k]'(by omega) = pp at gp
        obtain ⟨c2, gc2, hck2⟩ := hm k pp gp
        have hpar : par ss keep s = keep pp.ori := by
          unfold par
          rw [if_neg hp, hkp]
          simp [gp]
        by_cases hc2 : c2 ≥ 0
        · have hk2 : keep pp.ori = true := by
            cases hkk : keep pp.ori with
            | true => rfl
            | false => have := hck2.2 hkk; omega
          obtain ⟨v', q1, q2⟩ := add
          refine ⟨v', key _ ?_, ?_⟩
          · rw [if_pos hc, if_neg hp, hkp, rd (hM T hU) gc2, if_pos hc2]; exact q1
          · simp only [topsF, hk, hpar, hk2, if_true, Bool.false_eq_true, if_false]; exact q2
        · have hk2 : keep pp.ori = false := hck2.1 (by omega)
          obtain ⟨v', q1, q2⟩ := ih (i + 1) hr acc v T (by omega) hAc hU
          refine ⟨v', key _ ?_, ?_⟩
          · rw [if_pos hc, if_neg hp, hkp, rd (hM T hU) gc2, if_neg hc2]; exact q1
          · simp only [topsF, hk, hpar, hk2, Bool.false_eq_true, if_false]; exact q2
    · have hk : keep s.ori = true := by
        cases hkk : keep s.ori with
        | true => rfl
        | false => exact absurd (hck.2 hkk) hc
      obtain ⟨v', q1, q2⟩ := ih (i + 1) hr acc v T (by omega) hAc hU
      refine ⟨v', key _ ?_, ?_⟩
      · rw [if_neg hc]; exact q1
      · simp only [topsF, hk, if_true]; exact q2
theorem rtops_run {S : St} (hC : Cl S) {a mv : AV} {m : List Int} {keep : Ori → Bool} {ss : List Spot} {rows : List (List AV)} (hA : Sl 30 a rows) (hE : Each SpotR ss rows) (hsl : ss.length < 10000000) (hb : Below ss)
    (hM : ∀ T, Up S T → Rd T 1 mv (ints m)) (hm : ∀ (i : Nat) (s : Spot), ss[i]? = some s → ∃ c, m[i]? = some c ∧ (c < 0 ↔ keep s.ori = false)) :
    ∃ v', cw 48 [a, mv] S = some (.ret v', S) ∧ Full 1 v' (ints (topsF ss keep ss 0)) := by
  obtain ⟨v', q1, q2⟩ := rtops_loop hC hA hE hsl hb hM hm ss 0 (by simp) [] .nils (.free 0 :: S) (by simp) (.inl ⟨rfl, rfl, 0, St.get_top _ _⟩) (Up.cons _ S)
  exact ⟨v', F48 _ _ _ q1, by simpa using q2⟩

/-! ### Loops -/
theorem rloops_loop {st : St} (hcl : Cl st) {a : AV} {ss : List Lp} {rows : List (List AV)} (hA : Sl 27 a rows) (hE : Each LoopR ss rows) (hl : ss.length < 10000000) (hla : ∀ s ∈ ss, s.ks.length < 10000000) : ∀ (d i : Nat), i + d = ss.length → (∀ j s, j < i → ss[j]? = some s → LoopOk (ss.take j) s) →
    ∃ t : Bool, (t = true ↔ LoopsOk ss) ∧ aw 45 st.length p45_0 ⟨[(0, a), (3, .int .i64 (i : Int))], []⟩ st = some (.ret (.bool t), st) := by
  intro d
  induction d with
  | zero =>
    intro i hi hG
    refine ⟨true, by simp; exact fun j s hj => hG j s (by have := (List.getElem?_eq_some_iff.1 hj).1; omega) hj, F45_0 _ _ _ _ ?_⟩
    rw [lnR (st := []) hA.rd hE, if_neg (by simp; omega), outL_same]
  | succ d ih =>
    intro i hi hG
    have gs : ss[i]? = some (ss[i]'(by omega)) := List.getElem?_eq_getElem _
    generalize ss[i]'(by omega) = s at gs
    obtain ⟨row, ⟨ho, x, rfl, hX, hxc⟩, hrd⟩ := ixR hA hE gs
    have hs := hla s (List.mem_of_getElem? gs)
    have hmv := rmoves_run st hcl hX (b := .nils) (nw := []) .nil (by omega) (by simp)
    have hko : (moved s.ks []).2.2 = 0 ↔ s.ks.Nodup := by
      unfold moved
      by_cases h : s.ks.Nodup <;> simp [h]
    have hrl := hE.1
    obtain ⟨v, c1, c2⟩ := hA.cut (st := st) (lo := none) (hi := some (.int .i64 (i : Int))) (l := 0) (k := i) rfl (by simp [optA]) (by omega) (by omega)
    rw [List.drop_zero] at c2
    have hf := lfind_run hcl c2 (hE.take i) (by simp; omega) ho
    have key : ∀ R, _ := fun R => F45_0 a (i : Int) st.length st (r := R)
    rw [lnR (st := []) hA.rd hE, if_pos (by simp; omega)] at key
    simp only [hrd, ptrAdd_ip, readA_ip, Option.bind_some, Nat.zero_add, lp_keys ho, hmv, res3, callB_ret, extractA_tup, List.getElem?_cons_zero, List.getElem?_cons_succ, intV_int, lp_ori ho, form61_run hcl ho, boolV_bool, c1, hf, outL_same, decide_eq_true_eq, e1i (show i < 1000000000000 by omega)] at key
    by_cases h1 : s.ks.Nodup
    · by_cases h2 : formed s.ori = true
      · by_cases h3 : s.ori ∈ loris (ss.take i)
        · refine ⟨false, by simp; exact fun h => (h i s gs).new h3, key _ ?_⟩
          rw [if_neg (by simp [hko.2 h1]), if_neg (by simp [h2])]
          cases hp : place s.ori (loris (ss.take i)) with
          | none => exact absurd h3 (place_none.1 hp)
          | some j => rw [if_pos (by simp [plI])]
        · obtain ⟨t, t1, t2⟩ := ih (i + 1) (by omega) (fun j z hj hz => by
            by_cases hji : j = i
            · subst hji; rw [gs] at hz; cases hz; exact ⟨h2, h1, h3⟩
            · exact hG j z (by omega) hz)
          refine ⟨t, t1, key _ ?_⟩
          rw [if_neg (by simp [hko.2 h1]), if_neg (by simp [h2]), place_none.2 h3, if_neg (by simp [plI])]
          exact t2
      · refine ⟨false, by simp; exact fun h => h2 (h i s gs).form, key _ ?_⟩
        rw [if_neg (by simp [hko.2 h1]), if_pos (by simpa using h2)]
    · refine ⟨false, by simp; exact fun h => h1 (h i s gs).once, key _ ?_⟩
      rw [if_pos (by simpa [hko] using h1)]
theorem rloops_run {st : St} (hcl : Cl st) {a : AV} {ss : List Lp} {rows : List (List AV)} (hA : Sl 27 a rows) (hE : Each LoopR ss rows) (hl : ss.length < 10000000) (hla : ∀ s ∈ ss, s.ks.length < 10000000) :
    ∃ t : Bool, (t = true ↔ LoopsOk ss) ∧ cw 45 [a] st = some (.ret (.bool t), st) := by
  obtain ⟨t, t1, t2⟩ := rloops_loop hcl hA hE hl hla ss.length 0 (by omega) (fun j s hj => by omega)
  exact ⟨t, t1, F45 _ _ t2⟩
end
end Go.Abs
