/- What the functions of chapter 9 come to, by value: lists of whole numbers. -/
import Derived.Test.YtahpohhadcflfaaZEqA
import Derived.Test.YtahpohhadcflfaaZC
import Derived.Test.YtahpohhadcflfaaZLisMath
import Derived.IntWalk
namespace Go.Abs
open Go Go.Proofs Go.Proofs.Ytahpohhadcflfaa.LisMath Go.RowKit Go.IntWalk
set_option linter.unusedVariables false
set_option linter.unusedSimpArgs false

def int1 (c : Int) : List AV := [.int .i64 c]
def ints (l : List Int) : List (List AV) := l.map int1
abbrev nats (l : List Nat) : List Int := l.map fun n : Nat => (n : Int)
def i64 (n : Int) : Prop := -9223372036854775808 ≤ n ∧ n ≤ 9223372036854775807
theorem ints_len (l : List Int) : (ints l).length = l.length := by simp [ints]
theorem ints_get {l : List Int} {j : Nat} {c : Int} (h : l[j]? = some c) : (ints l)[j]? = some (int1 c) := by simp [ints, h]
theorem ints_app (l m : List Int) : ints (l ++ m) = ints l ++ ints m := by simp [ints]
theorem ints_set (l : List Int) (j : Nat) (c : Int) : (ints l).set j (int1 c) = ints (l.set j c) := by simp [ints, List.map_set]
theorem closed_ints (n : Nat) (l : List Int) : AV.closedss n (ints l) = true := by
  induction l with
  | nil => rfl
  | cons c l ih => simp [ints, AV.closedss, AV.closeds, AV.closed, int1] at ih ⊢; exact ih
section
variable {R : Type} {st : St} {a : AV} {l : List Int} {j : Nat} {c : Int}
theorem rd (h : Rd st 1 a (ints l)) (hj : l[j]? = some c) (K : Int → Option R) :
    ((natA (.int .i64 (j : Int))).bind fun j => (idxSl st 1 a j).bind fun v => (readA st v 1 false).bind fun v => (intV .i64 v).bind K) = K c := h.int (ints_get hj) rfl K
theorem ln (h : Rd st 1 a (ints l)) (K : Int → Option R) : ((lenSl a).bind fun v => (intV .i64 v).bind K) = K l.length := by rw [h.lenI, ints_len]
end

/-! ### sort.Search over the piles -/
theorem close_ok {st : St} {po xo io : Nat} {pv a : AV} {P xs : List Int} {i : Nat} {x p : Int} {k : Nat}
    (hp : st.get po = some (.box 22 [pv])) (hP : Rd st 1 pv (ints P)) (hx : st.get xo = some (.box 22 [a])) (hX : Rd st 1 a (ints xs)) (hi : st.get io = some (.box 3 [.int .i64 (i : Int)]))
    (gp : P[k]? = some p) (gx : xs[i]? = some x) : cw 56 [.int .i64 (k : Int), .bp po 0, .bp xo 0, .bp io 0] st = some (.ret (.bool (decide (p ≤ x))), st) := by
  refine F56 _ _ _ _ _ ?_
  simp only [box_rd hp, box_rd hx, box_rd hi, Option.bind_some, rd hP gp, rd hX gx, intV_int, outL_same]

theorem half (lo hi : Nat) (h : hi < 1000000000000) (h2 : lo ≤ hi) : IntKind.i64.wrap ((IntKind.u64.wrap (IntKind.i64.wrap ((lo : Int) + (hi : Int)))).fdiv 2) = (((lo + hi) / 2 : Nat) : Int) := by
  rw [i64_in ((lo : Int) + (hi : Int)) (by omega), u64_in ((lo : Int) + (hi : Int)) (by omega), Int.fdiv_eq_ediv_of_nonneg _ (by omega), i64_in _ (by omega)]; omega

theorem search_ok {st : St} {po xo io : Nat} {pv a : AV} {P xs : List Int} {i : Nat} {x : Int}
    (hp : st.get po = some (.box 22 [pv])) (hP : Rd st 1 pv (ints P)) (hx : st.get xo = some (.box 22 [a])) (hX : Rd st 1 a (ints xs)) (hi : st.get io = some (.box 3 [.int .i64 (i : Int)]))
    (gx : xs[i]? = some x) (hf : Falls P) (hl : P.length < 1000000000000) : ∀ (d lo hi' : Nat), hi' - lo ≤ d → lo ≤ pos x P → pos x P ≤ hi' → hi' ≤ P.length →
    aw 55 st.length p55_0 ⟨[(1, .fn 56 [.bp po 0, .bp xo 0, .bp io 0]), (5, .int .i64 (lo : Int)), (6, .int .i64 (hi' : Int))], []⟩ st = some (.ret (.int .i64 (pos x P : Nat)), st) := by
  intro d
  induction d with
  | zero =>
    intro lo hi' h1 h2 h3 h4
    refine F55_0 _ _ _ _ _ ?_
    have : pos x P = lo := by omega
    rw [if_neg (by simp; omega), this]
    simp
  | succ d ih =>
    intro lo hi' h1 h2 h3 h4
    refine F55_0 _ _ _ _ _ ?_
    by_cases hlt : lo < hi'
    · rw [if_pos (by simp; omega)]
      have hm : (lo + hi') / 2 < P.length := by omega
      have gp : P[(lo + hi') / 2]? = some P[(lo + hi') / 2] := List.getElem?_eq_getElem hm
      have hs := pos_spec x hf _ _ gp
      simp only [half lo hi' (by omega) (by omega), fnV, Option.bind_some, List.singleton_append, close_ok hp hP hx hX hi gp gx, callB_ret, boolV_bool, roundV_same]
      by_cases hc : P[(lo + hi') / 2] ≤ x
      · have h5 := hs.1 hc
        have e : (!decide (P[(lo + hi') / 2] ≤ x)) = false := by simp [hc]
        rw [e, if_neg (by simp)]
        exact ih lo ((lo + hi') / 2) (by omega) h2 (by omega) (by omega)
      · have h5 : ¬ pos x P ≤ (lo + hi') / 2 := fun h => hc (hs.2 h)
        have e : (!decide (P[(lo + hi') / 2] ≤ x)) = true := by simp [hc]
        have e2 : IntKind.i64.wrap (((((lo + hi') / 2 : Nat) : Int)) + 1) = (((lo + hi') / 2 + 1 : Nat) : Int) := by rw [i64_in _ (by omega)]; omega
        rw [e, if_pos rfl, e2]
        exact ih ((lo + hi') / 2 + 1) hi' (by omega) (by omega) h3 h4
    · have : pos x P = lo := by omega
      rw [if_neg (by simp; omega), this]
      simp

/-! ### lengths -/
structure LInv (st0 st : St) (a : AV) (out P : List Int) (oi : Nat) (i : Int) : Prop where
  tr : st.trunc st0.length = st0
  gx : st.get st0.length = some (.box 22 [a])
  go : st.get (st0.length + 2) = some (.rows 1 0 (ints out))
  gp : ∃ pv, st.get (st0.length + 3) = some (.box 22 [pv]) ∧ MuN st 1 pv (st0.length + 4) (ints P)
  gi : st.get oi = some (.box 3 [.int .i64 i])
  oi : st0.length + 4 < oi

theorem hc22 : ((List.find? (fun x => x.fst == 22) trycells).bind fun x => List.findIdx?.go (fun x => x == 0) x.snd 0).getD 0 = 0 := by kernel_rfl
theorem ld22 (st : St) (p : AV) : ldA Try.prog st 22 p = readA st p 1 false := by
  have h1 : aggT Try.prog 22 = some false := by kernel_rfl
  have h2 : szOf Try.prog 22 = some 1 := by kernel_rfl
  unfold ldA readA
  rw [h1, h2]; rfl

theorem len_tail {st0 : St} (hcl : Cl st0) {a : AV} {xs : List Int} (hX : Sl 1 a (ints xs)) (hxl : xs.length < 1000000000000) {d : Nat} (hd : d < xs.length)
    (ih : ∀ (st : St) (oi : Nat), LInv st0 st a (List.replicate d 0 ++ nats (long (xs.drop d))) (piles (xs.drop d)) oi ((d : Int) - 1) →
      aw 32 st0.length p32_0 ⟨[(1, .bp st0.length 0), (3, .ms (st0.length + 2) 0 0 xs.length xs.length), (4, .bp (st0.length + 3) 0), (5, .bp oi 0)], []⟩ st = some (.ret (.sl 1 (ints (nats (long xs))) 0 xs.length .no), st0))
    (st : St) (oi : Nat) {x : Int} (hx : xs.drop d = x :: xs.drop (d + 1)) (hI : LInv st0 st a (List.replicate (d + 1) 0 ++ nats (long (xs.drop (d + 1)))) (piles (xs.drop d)) oi d) :
    aw 32 st0.length p32_1 ⟨[(1, .bp st0.length 0), (3, .ms (st0.length + 2) 0 0 xs.length xs.length), (4, .bp (st0.length + 3) 0), (5, .bp oi 0), (6, .int .i64 (pos x (piles (xs.drop (d + 1))) : Nat))], []⟩ st
      = some (.ret (.sl 1 (ints (nats (long xs))) 0 xs.length .no), st0) := by
  refine F32_1 _ _ _ _ _ _ _ ?_
  have hlen : (ints (List.replicate (d + 1) 0 ++ nats (long (xs.drop (d + 1))))).length = xs.length := by simp [ints, long_length]; omega
  have hMu : Mu st 1 (.ms (st0.length + 2) 0 0 xs.length xs.length) (st0.length + 2) (ints (List.replicate (d + 1) 0 ++ nats (long (xs.drop (d + 1))))) := ⟨0, by rw [hlen], hI.go⟩
  have hg : (ints (List.replicate (d + 1) 0 ++ nats (long (xs.drop (d + 1)))))[d]? = some (int1 0) := by
    refine ints_get ?_
    rw [List.getElem?_append_left (by simp)]; simp
  have hpl := pos_le x (piles (xs.drop (d + 1)))
  have hpl2 : (piles (xs.drop (d + 1))).length ≤ xs.length := by rw [piles_len]; have : lis (xs.drop (d + 1)) ≤ _ := bst_le_length all (xs.drop (d + 1)); simp only [List.length_drop] at this; omega
  have e1 : IntKind.i64.wrap ((((pos x (piles (xs.drop (d + 1)))) : Nat) : Int) + 1) = ((pos x (piles (xs.drop (d + 1))) + 1 : Nat) : Int) := by rw [i64_in _ (by omega)]; rfl
  have e2 : IntKind.i64.wrap ((d : Int) - 1) = (d : Int) - 1 := i64_in _ (by omega)
  obtain ⟨p, y, w1, w2, w3, ep, w4⟩ := hMu.write hg (cs := int1 ((pos x (piles (xs.drop (d + 1))) + 1 : Nat) : Int)) (r' := int1 ((pos x (piles (xs.drop (d + 1))) + 1 : Nat) : Int)) rfl
  have hout : (ints (List.replicate (d + 1) 0 ++ nats (long (xs.drop (d + 1))))).set d (int1 ((pos x (piles (xs.drop (d + 1))) + 1 : Nat) : Int)) = ints (List.replicate d 0 ++ nats (long (xs.drop d))) := by
    rw [ints_set, hx, show long (x :: xs.drop (d + 1)) = (bst (above x) (xs.drop (d + 1)) + 1) :: long (xs.drop (d + 1)) from rfl, piles_pos]
    congr 1
    rw [List.replicate_succ', List.append_assoc, List.set_append_right _ _ (by simp)]
    simp
  rw [hout] at w3 w4
  have gi' : (st.put (st0.length + 2) y).get oi = some (.box 3 [.int .i64 (d : Int)]) := by rw [St.get_put_ne (by have := hI.oi; omega)]; exact hI.gi
  simp only [box_rd hI.gi, Option.bind_some, intV_int, natA_nat, w1, e1]
  rw [show [AV.int IntKind.i64 ((pos x (piles (xs.drop (d + 1))) + 1 : Nat) : Int)] = int1 ((pos x (piles (xs.drop (d + 1))) + 1 : Nat) : Int) from rfl, w2]
  simp only [Option.bind_some, box_rd gi', intV_int]
  rw [box_wr (St.get_top _ _)]
  simp only [Option.bind_some, St.put_top]
  rw [box_rd (St.get_top _ _)]
  simp only [Option.bind_some, intV_int, e2]
  rw [box_wr (St.get_top _ _)]
  simp only [Option.bind_some, St.put_top]
  have hlt : ∀ {o : Nat} {z : AObj}, st.get o = some z → o < (st.put (st0.length + 2) y).length := fun h => by rw [St.length_put]; exact St.get_lt h
  have l1 := hlt hI.gx
  have l2 := hlt hI.go
  have l5 := hlt hI.gi
  have l6 := hI.oi
  refine ih _ _ ⟨?_, ?_, ?_, ?_, St.get_top _ _, by omega⟩
  · rw [St.trunc_le (by omega), St.trunc_put (by omega)]; exact hI.tr
  · rw [St.get_under (by omega), St.get_put_ne (by omega)]; exact hI.gx
  · rw [St.get_under (by omega), w4, St.get_put_same (by simpa using l2)]
    obtain ⟨ep', q1, q2⟩ := w3
    rw [w4, St.get_put_same (by simpa using l2)] at q2
    simp only [AV.ms.injEq, true_and] at q1
    rw [← q1.1] at q2
    exact q2
  · obtain ⟨pv, g1, g2⟩ := hI.gp
    refine ⟨pv, by rw [St.get_under (by omega), St.get_put_ne (by omega)]; exact g1, g2.same ?_⟩
    rw [St.get_under (by omega), St.get_put_ne (by omega)]

theorem len_loop {st0 : St} (hcl : Cl st0) {a : AV} {xs : List Int} (hX : Sl 1 a (ints xs)) (hxl : xs.length < 1000000000000) : ∀ (d : Nat), d ≤ xs.length → ∀ (st : St) (oi : Nat),
    LInv st0 st a (List.replicate d 0 ++ nats (long (xs.drop d))) (piles (xs.drop d)) oi ((d : Int) - 1) →
    aw 32 st0.length p32_0 ⟨[(1, .bp st0.length 0), (3, .ms (st0.length + 2) 0 0 xs.length xs.length), (4, .bp (st0.length + 3) 0), (5, .bp oi 0)], []⟩ st = some (.ret (.sl 1 (ints (nats (long xs))) 0 xs.length .no), st0) := by
  intro d
  induction d with
  | zero =>
    intro _ st oi hI
    refine F32_0 _ _ _ _ _ _ ?_
    simp only [box_rd hI.gi, Option.bind_some, intV_int]
    rw [if_neg (by decide)]
    have hgo := hI.go
    simp only [List.replicate_zero, List.nil_append, List.drop_zero] at hgo
    have hn : (ints (nats (long xs))).length = xs.length := by simp [ints, long_length]
    have hlt := St.get_lt hgo
    simp only [freezeA, hgo, hn, true_and, Nat.zero_add, Nat.le_refl, if_true, bind2_some, if_pos]
    rw [List.take_of_length_le (by omega)]
    have htr : (st.put (st0.length + 2) (.free 0)).trunc st0.length = st0 := by rw [St.trunc_put (by omega)]; exact hI.tr
    have := outL_plain (n := st0.length) (v := .sl 1 (ints (nats (long xs))) 0 xs.length .no) (st := st.put (st0.length + 2) (.free 0)) rfl (by simp [AV.closed, closed_ints]) (by rw [htr]; exact hcl) (by rw [St.length_put]; omega)
    rw [htr] at this
    exact this
  | succ d ih =>
    intro hd st oi hI
    have hdl : d < xs.length := by omega
    have hx : xs.drop d = xs[d] :: xs.drop (d + 1) := List.drop_eq_getElem_cons hdl
    have gx : xs[d]? = some xs[d] := List.getElem?_eq_getElem hdl
    generalize xs[d] = x at hx gx
    have tail := len_tail hcl hX hxl hdl (ih (by omega))
    obtain ⟨pv, g1, g2⟩ := hI.gp
    have hgi : st.get oi = some (.box 3 [.int .i64 (d : Int)]) := by
      have := hI.gi
      rwa [show (((d + 1 : Nat) : Int)) - 1 = (d : Int) by omega] at this
    have hpl := pos_le x (piles (xs.drop (d + 1)))
    have hpl2 : (piles (xs.drop (d + 1))).length ≤ xs.length := by rw [piles_len]; have : lis (xs.drop (d + 1)) ≤ _ := bst_le_length all (xs.drop (d + 1)); simp only [List.length_drop] at this; omega
    have hs := F55 (piles (xs.drop (d + 1))).length (.fn 56 [.bp (st0.length + 3) 0, .bp st0.length 0, .bp oi 0]) st
      (search_ok (x := x) g1 g2.rd hI.gx hX.rd hgi gx (piles_falls _) (by omega) (piles (xs.drop (d + 1))).length 0 (piles (xs.drop (d + 1))).length (by omega) (by omega) hpl (Nat.le_refl _))
    refine F32_0 _ _ _ _ _ _ ?_
    simp only [box_rd hgi, Option.bind_some, intV_int]
    rw [if_pos (by simp)]
    simp only [box_rd g1, Option.bind_some, ln g2.rd, hs, callB_ret, intV_int]
    have hput : piles (xs.drop d) = put x (piles (xs.drop (d + 1))) := by rw [hx]; rfl
    have heq := put_eq x (piles (xs.drop (d + 1)))
    have l6 := hI.oi
    by_cases hc : pos x (piles (xs.drop (d + 1))) = (piles (xs.drop (d + 1))).length
    · rw [if_pos (by simp [hc])]
      rw [if_pos hc] at heq
      obtain ⟨v', y, q1, q2, q3⟩ := g2.app (x := .sl 1 [[.int .i64 x]] 0 1 .exact) (new := ints [x]) (bytes := 8) rfl (by rw [ints_len, ints_len]; simp [roomA]; omega) (by rw [ints_len, ints_len]; simp [roomA]; omega)
      have hl2 := g2.lt
      have hh : homeV (fun t c => ((List.find? (fun x => x.fst == t) trycells).bind fun x => List.findIdx?.go (fun x => x == c) x.snd 0).getD 0) true st (.bp (st0.length + 3) 0) = some (st0.length + 4, true) := by
        unfold homeV
        simp only [g1, hc22]
      have g1' : (st.put (st0.length + 4) y).get (st0.length + 3) = some (.box 22 [pv]) := by rw [St.get_put_ne (by omega)]; exact g1
      simp only [box_rd hI.gx, Option.bind_some, box_rd hgi, intV_int, rd hX.rd gx, hh, q1, bind2_some, q2.cell1, box_wr g1']
      rw [if_pos (by
        rw [if_neg (by simp [isIp])]
        rw [show (List.range.loop [(st.put (st0.length + 4) y).put (st0.length + 3) (.box 22 [v']), st.put (st0.length + 4) y, st, st].length []) = [0, 1, 2, 3] from rfl]
        simp [ld22, box_rd g1, AV.beq_refl])]
      refine tail _ _ hx ⟨?_, ?_, ?_, ⟨v', ?_, ?_⟩, ?_, l6⟩
      · rw [St.trunc_put (by omega), St.trunc_put (by omega)]; exact hI.tr
      · rw [St.get_put_ne (by omega), St.get_put_ne (by omega)]; exact hI.gx
      · rw [St.get_put_ne (by omega), St.get_put_ne (by omega)]; exact hI.go
      · rw [St.get_put_same (by rw [St.length_put]; omega)]
      · rw [hput, heq, ints_app]
        exact q2.same (by rw [St.get_put_ne (by omega)])
      · rw [St.get_put_ne (by omega), St.get_put_ne (by omega)]; exact hgi
    · rw [if_neg (by simpa using fun h => hc (by omega))]
      rw [if_neg hc] at heq
      have hlt : pos x (piles (xs.drop (d + 1))) < (piles (xs.drop (d + 1))).length := by omega
      have hP : (ints (piles (xs.drop (d + 1))))[pos x (piles (xs.drop (d + 1)))]? = some (int1 (piles (xs.drop (d + 1)))[pos x (piles (xs.drop (d + 1)))]) := ints_get (List.getElem?_eq_getElem hlt)
      have hM : Mu st 1 pv (st0.length + 4) (ints (piles (xs.drop (d + 1)))) := by
        rcases g2 with ⟨_, h, _⟩ | h
        · rw [h] at hP; simp at hP
        · exact h
      obtain ⟨p, y, w1, w2, w3, ep, w4⟩ := hM.write hP (cs := int1 x) (r' := int1 x) rfl
      simp only [box_rd hI.gx, Option.bind_some, box_rd hgi, intV_int, rd hX.rd gx]
      simp only [natA_nat, Option.bind_some, w1]
      rw [show [AV.int IntKind.i64 x] = int1 x from rfl, w2]
      simp only [Option.bind_some]
      refine tail _ _ hx ⟨?_, ?_, ?_, ⟨pv, ?_, ?_⟩, ?_, l6⟩
      · rw [St.trunc_put (by omega)]; exact hI.tr
      · rw [St.get_put_ne (by omega)]; exact hI.gx
      · rw [St.get_put_ne (by omega)]; exact hI.go
      · rw [St.get_put_ne (by omega)]; exact g1
      · rw [hput, heq, ← ints_set]
        exact .inr w3
      · rw [St.get_put_ne (by omega)]; exact hgi

theorem lengths_ok (st : St) (hcl : Cl st) {a : AV} {xs : List Int} (hX : Sl 1 a (ints xs)) (hxl : xs.length < 1000000000000) : cw 32 [a] st = some (.ret (.sl 1 (ints (nats (long xs))) 0 xs.length .no), st) := by
  refine F32 _ _ ?_
  simp only [hX.cell1, Option.bind_some]
  have b0 : St.get (AObj.free 0 :: AObj.box 22 [a] :: st) st.length = some (.box 22 [a]) := by rw [St.get_under (by simp), St.get_top]
  simp only [box_rd b0, Option.bind_some, ln (st := []) hX.rd]
  have hmk : makeSl (AObj.free 0 :: AObj.box 22 [a] :: st) none 8 1 [AV.int IntKind.i64 0] (.int .i64 (xs.length : Int)) (.int .i64 (xs.length : Int)) =
      some (.ms (st.length + 2) 0 0 xs.length xs.length, .rows 1 0 (ints (List.replicate xs.length 0)) :: AObj.free 0 :: AObj.box 22 [a] :: st) := by
    unfold makeSl
    simp only
    rw [if_pos ⟨by omega, Int.le_refl _, by simp [roomA]; omega, by simp [roomA]; omega⟩]
    simp [ints, int1]
  obtain ⟨s1, hs⟩ : ∃ s1 : St, AObj.rows 1 0 (ints (List.replicate xs.length 0)) :: AObj.free 0 :: AObj.box 22 [a] :: st = s1 := ⟨_, rfl⟩
  rw [hmk, hs]
  simp only [bind2_some]
  have hs1 : s1.length = st.length + 3 := by subst hs; rfl
  have b1 : St.get (AObj.free 0 :: AObj.box 22 [.nils] :: s1) s1.length = some (.box 22 [.nils]) := by rw [St.get_under (by simp), St.get_top]
  have b2 : St.get (AObj.free 0 :: AObj.box 22 [a] :: st) st.length = some (.box 22 [a]) := b0
  have b3 : s1.get st.length = some (.box 22 [a]) := by subst hs; rw [St.get_under (by simp only [List.length_cons]; omega)]; exact b0
  have b4 : St.get (AObj.free 0 :: AObj.box 22 [.nils] :: s1) st.length = some (.box 22 [a]) := by rw [St.get_under (by simp only [List.length_cons, hs1]; omega), St.get_under (by omega)]; exact b3
  simp only [box_rd b4, Option.bind_some, ln (st := []) hX.rd]
  have e1 : ∀ n : Nat, n < 1000000000000 → IntKind.i64.wrap ((n : Int) - 1) = (n : Int) - 1 := fun n hn => i64_in _ (by omega)
  have hlen0 : lenSl a = some (.int .i64 xs.length) := by rw [hX.len, ints_len]
  rw [box_wr (St.get_top _ _)]
  simp only [Option.bind_some, St.put_top]
  have e2 : (AObj.free 0 :: AObj.box 22 [AV.nils] :: s1).length = st.length + 5 := by simp [hs1]
  simp only [e1 _ hxl, e2, hs1]
  have := len_loop hcl hX hxl xs.length (Nat.le_refl _) (AObj.box 3 [.int .i64 ((xs.length : Int) - 1)] :: AObj.free 0 :: AObj.box 22 [AV.nils] :: s1) (st.length + 5) ⟨?_, ?_, ?_, ⟨.nils, ?_, .inl ⟨rfl, ?_, 0, ?_⟩⟩, ?_, by omega⟩
  · exact this
  · rw [St.trunc_le (by simp [hs1]; omega), St.trunc_le (by simp [hs1]; omega), St.trunc_le (by omega)]; subst hs
    rw [St.trunc_le (by simp; omega), St.trunc_cons2]
  · rw [St.get_under (by simp only [List.length_cons, hs1]; omega), St.get_under (by simp only [List.length_cons, hs1]; omega), St.get_under (by omega)]; exact b3
  · rw [St.get_under (by simp only [List.length_cons, hs1]; omega), St.get_under (by simp only [List.length_cons, hs1]; omega), St.get_under (by omega)]; subst hs
    rw [St.get_cons, if_pos (by simp)]; simp [long]
  · rw [St.get_under (by simp only [List.length_cons, hs1]; omega), St.get_under (by simp only [List.length_cons, hs1]; omega), St.get_cons, if_pos hs1.symm]
  · simp [piles, ints]
  · rw [St.get_under (by simp only [List.length_cons, hs1]; omega), St.get_cons, if_pos (by simp only [List.length_cons, hs1])]
  · rw [St.get_cons, if_pos (by simp only [List.length_cons, hs1])]
/-! ### Longest -/
theorem long_drop : ∀ (i : Nat) (xs : List Int), (long xs).drop i = long (xs.drop i)
  | 0, xs => rfl
  | i + 1, [] => rfl
  | i + 1, x :: r => by simpa [long] using long_drop i r
theorem long_at {xs : List Int} {i : Nat} {x : Int} {r : List Int} (h : xs.drop i = x :: r) : (nats (long xs))[i]? = some (((bst (above x) r + 1 : Nat)) : Int) := by
  have h1 := long_drop i xs
  rw [h] at h1
  have h2 : ((long xs).drop i)[0]? = some (bst (above x) r + 1) := by rw [h1]; rfl
  rw [List.getElem?_drop] at h2
  simp at h2
  simp [nats, h2]
/-- The last of what is picked. -/
def Last (xs : List Int) (acc : List Nat) (o : Option Int) : Prop := (acc = [] ∧ o = none) ∨ ∃ q w, acc ≠ [] ∧ acc[acc.length - 1]? = some q ∧ xs[q]? = some w ∧ o = some w
theorem Cl.put {st : St} {t : Nat} {y : AObj} (h : Cl st) (hy : AObj.closed st.length y = true) : Cl (st.put t y) := by
  unfold Cl St.closed St.put at *
  split
  · rw [List.length_set]
    rw [List.all_eq_true] at h ⊢
    intro x hx
    rcases List.mem_or_eq_of_mem_set hx with h1 | h1
    · exact h x h1
    · subst h1; exact hy
  · exact h
theorem pick_loop {st : St} {a lv : AV} {xs : List Int} (hX : Sl 1 a (ints xs)) (hL : Sl 1 lv (ints (nats (long xs)))) (hxl : xs.length < 1000000000000) : ∀ (r : List Int) (i : Nat), xs.drop i = r → ∀ (acc : List Nat) (w : Nat) (o : Option Int) (v : AV) (y : AObj),
    acc.length ≤ i → w ≤ xs.length → Last xs acc o → MuN (y :: st) 1 v st.length (ints (nats acc)) → Cl (y :: st) →
    ∃ v' y', aw 10 st.length p10_1 ⟨[(0, a), (4, .int .i64 (w : Int)), (7, v), (22, lv), (23, .int .i64 (xs.length : Int)), (24, .int .i64 (i : Int))], []⟩ (y :: st) = some (.ret v', y' :: st) ∧
      MuN (y' :: st) 1 v' st.length (ints (nats (acc ++ pick i r (long r) w o))) ∧ Cl (y' :: st) := by
  intro r
  induction r with
  | nil =>
    intro i hi acc w o v y ha hw hl hM hC
    have : xs.length ≤ i := by simpa using hi
    refine ⟨v, y, F10_1 _ _ _ _ _ _ _ _ ?_, by simpa [pick] using hM, hC⟩
    rw [if_neg (by simp; omega)]
    simp
  | cons x r ih =>
    intro i hi acc w o v y ha hw hl hM hC
    have hil : i < xs.length := by
      have := congrArg List.length hi
      simp at this; omega
    have hr : xs.drop (i + 1) = r := by
      have := congrArg List.tail hi
      simpa using this
    have gx : xs[i]? = some x := by
      have : (xs.drop i)[0]? = some x := by rw [hi]; rfl
      rw [List.getElem?_drop] at this; simpa using this
    have e1 : IntKind.i64.wrap ((i : Int) + 1) = ((i + 1 : Nat) : Int) := by rw [i64_in _ (by omega)]; rfl
    have skip : pick i (x :: r) (long (x :: r)) w o = pick (i + 1) r (long r) w o →
        ∃ v' y', aw 10 st.length p10_1 ⟨[(0, a), (4, .int .i64 (w : Int)), (7, v), (22, lv), (23, .int .i64 (xs.length : Int)), (24, .int .i64 ((i + 1 : Nat) : Int))], []⟩ (y :: st) = some (.ret v', y' :: st) ∧
          MuN (y' :: st) 1 v' st.length (ints (nats (acc ++ pick i (x :: r) (long (x :: r)) w o))) ∧ Cl (y' :: st) := by
      intro e
      rw [e]
      exact ih (i + 1) hr acc w o v y (by omega) hw hl hM hC
    have take : bst (above x) r + 1 = w → fits o x = true → ∃ v' y' v2 y2, appendL (y :: st) (some (st.length, true)) 8 1 v (.sl 1 [[.int .i64 (i : Int)]] 0 1 .exact) = some (v2, y2 :: st) ∧
        aw 10 st.length p10_1 ⟨[(0, a), (4, .int .i64 ((w - 1 : Nat) : Int)), (7, v2), (22, lv), (23, .int .i64 (xs.length : Int)), (24, .int .i64 ((i + 1 : Nat) : Int))], []⟩ (y2 :: st) = some (.ret v', y' :: st) ∧
          MuN (y' :: st) 1 v' st.length (ints (nats (acc ++ pick i (x :: r) (long (x :: r)) w o))) ∧ Cl (y' :: st) := by
      intro hk ho
      obtain ⟨v2, y2, q1, q2, q3⟩ := hM.app (x := .sl 1 [[.int .i64 (i : Int)]] 0 1 .exact) (new := ints (nats [i])) (bytes := 8) rfl (by simp [ints, roomA]; omega) (by simp [ints, roomA]; omega)
      rw [St.put_top] at q1 q2
      have e : pick i (x :: r) (long (x :: r)) w o = i :: pick (i + 1) r (long r) (w - 1) (some x) := by
        rw [show long (x :: r) = (bst (above x) r + 1) :: long r from rfl]
        simp only [pick]
        rw [if_pos ⟨hk, by omega, ho⟩]
      rw [← ints_app] at q2
      have hC2 : Cl (y2 :: st) := by
        have := hC.put (t := st.length) (y := y2) (by
          rcases q3 with ⟨e, rfl⟩ | ⟨ep, rfl⟩
          · rfl
          · rw [← ints_app]; exact closed_ints _ _)
        rwa [St.put_top] at this
      obtain ⟨v', y', h1, h2, h3⟩ := ih (i + 1) hr (acc ++ [i]) (w - 1) (some x) v2 y2 (by simp; omega) (by omega) (.inr ⟨i, x, by simp, by simp, gx, rfl⟩) (by simpa using q2) hC2
      refine ⟨v', y', v2, y2, q1, h1, ?_, h3⟩
      rw [e]
      simpa using h2
    have kle := bst_le_length (above x) r
    have hrl : r.length ≤ xs.length := by rw [← hr]; simp
    have ew : w ≠ 0 → IntKind.i64.wrap ((w : Int) - 1) = ((w - 1 : Nat) : Int) := fun h => by rw [i64_in _ (by omega)]; omega
    have head : ∀ (v' : AV) (y' : AObj), (
          if ((((bst (above x) r + 1 : Nat) : Int)) == (w : Int)) = true then
            if decide ((w : Int) > 0) = true then
              (lenSl v).bind fun v_1 => (intV IntKind.i64 v_1).bind fun n =>
                if (n == 0) = true then
                  bind2 (appendL (y :: st) (some (st.length + 0, true)) 8 1 v (AV.sl 1 [[AV.int IntKind.i64 (i : Int)]] 0 1 Tok.exact)) fun v st' =>
                    aw 10 st.length p10_1 { env := [(0, a), (4, AV.int IntKind.i64 (IntKind.i64.wrap ((w : Int) - 1))), (7, v), (22, lv), (23, AV.int IntKind.i64 (xs.length : Int)), (24, AV.int IntKind.i64 (IntKind.i64.wrap ((i : Int) + 1)))], defers := [] } st'
                else
                  (lenSl v).bind fun v_2 => (intV IntKind.i64 v_2).bind fun n_1 =>
                    (natA (AV.int IntKind.i64 (IntKind.i64.wrap (n_1 - 1)))).bind fun j => (idxSl (y :: st) 1 v j).bind fun v_3 => (readA (y :: st) v_3 1 false).bind fun v_4 => (intV IntKind.i64 v_4).bind fun n_2 =>
                      (natA (AV.int IntKind.i64 n_2)).bind fun j => (idxSl (y :: st) 1 a j).bind fun v_5 => (readA (y :: st) v_5 1 false).bind fun v_6 => (intV IntKind.i64 v_6).bind fun n_3 =>
                        if decide (x > n_3) = true then
                          bind2 (appendL (y :: st) (some (st.length + 0, true)) 8 1 v (AV.sl 1 [[AV.int IntKind.i64 (i : Int)]] 0 1 Tok.exact)) fun v st' =>
                            aw 10 st.length p10_1 { env := [(0, a), (4, AV.int IntKind.i64 (IntKind.i64.wrap ((w : Int) - 1))), (7, v), (22, lv), (23, AV.int IntKind.i64 (xs.length : Int)), (24, AV.int IntKind.i64 (IntKind.i64.wrap ((i : Int) + 1)))], defers := [] } st'
                        else
                          aw 10 st.length p10_1 { env := [(0, a), (4, AV.int IntKind.i64 (w : Int)), (7, v), (22, lv), (23, AV.int IntKind.i64 (xs.length : Int)), (24, AV.int IntKind.i64 (IntKind.i64.wrap ((i : Int) + 1)))], defers := [] } (y :: st)
            else aw 10 st.length p10_1 { env := [(0, a), (4, AV.int IntKind.i64 (w : Int)), (7, v), (22, lv), (23, AV.int IntKind.i64 (xs.length : Int)), (24, AV.int IntKind.i64 (IntKind.i64.wrap ((i : Int) + 1)))], defers := [] } (y :: st)
          else aw 10 st.length p10_1 { env := [(0, a), (4, AV.int IntKind.i64 (w : Int)), (7, v), (22, lv), (23, AV.int IntKind.i64 (xs.length : Int)), (24, AV.int IntKind.i64 (IntKind.i64.wrap ((i : Int) + 1)))], defers := [] } (y :: st)) = some (.ret v', y' :: st) →
        aw 10 st.length p10_1 ⟨[(0, a), (4, .int .i64 (w : Int)), (7, v), (22, lv), (23, .int .i64 (xs.length : Int)), (24, .int .i64 (i : Int))], []⟩ (y :: st) = some (.ret v', y' :: st) := by
      intro v' y' h
      refine F10_1 _ _ _ _ _ _ _ _ ?_
      rw [if_pos (by simp; omega), rd hL.rd (long_at hi)]
      simp only [rd hX.rd gx]
      exact h
    by_cases hk : bst (above x) r + 1 = w
    · by_cases ho : fits o x = true
      · obtain ⟨v', y', v2, y2, q1, q2, q3, q4⟩ := take hk ho
        refine ⟨v', y', head v' y' ?_, q3, q4⟩
        rw [if_pos (by simp; omega), if_pos (by simp; omega), ln (st := y :: st) hM.rd]
        rcases hl with ⟨rfl, rfl⟩ | ⟨q, z, hne, hq, hz, rfl⟩
        · rw [if_pos (by simp)]
          simp only [Nat.add_zero, q1, bind2_some, ew (by omega), e1, q2]
        · have hpos : 0 < acc.length := List.length_pos_iff.2 hne
          have hq2 : (nats acc)[acc.length - 1]? = some (q : Int) := by simp [nats, hq]
          have e3 : IntKind.i64.wrap (((nats acc).length : Int) - 1) = ((acc.length - 1 : Nat) : Int) := by simp only [List.length_map]; rw [i64_in _ (by omega)]; omega
          rw [if_neg (by simpa using hne), ln (st := y :: st) hM.rd, e3]
          rw [rd hM.rd hq2, rd hX.rd hz, if_pos (by simpa [fits] using ho)]
          simp only [Nat.add_zero, q1, bind2_some, ew (by omega), e1, q2]
      · have e : pick i (x :: r) (long (x :: r)) w o = pick (i + 1) r (long r) w o := by
          rw [show long (x :: r) = (bst (above x) r + 1) :: long r from rfl]
          simp only [pick]
          rw [if_neg (fun h => ho h.2.2)]
        obtain ⟨v', y', q2, q3, q4⟩ := skip e
        refine ⟨v', y', head v' y' ?_, q3, q4⟩
        rw [if_pos (by simp; omega), if_pos (by simp; omega), ln (st := y :: st) hM.rd]
        rcases hl with ⟨rfl, rfl⟩ | ⟨q, z, hne, hq, hz, rfl⟩
        · exact absurd rfl ho
        · have hpos : 0 < acc.length := List.length_pos_iff.2 hne
          have hq2 : (nats acc)[acc.length - 1]? = some (q : Int) := by simp [nats, hq]
          have e3 : IntKind.i64.wrap (((nats acc).length : Int) - 1) = ((acc.length - 1 : Nat) : Int) := by simp only [List.length_map]; rw [i64_in _ (by omega)]; omega
          rw [if_neg (by simpa using hne), ln (st := y :: st) hM.rd, e3]
          rw [rd hM.rd hq2, rd hX.rd hz, if_neg (by simpa [fits] using ho)]
          simp only [e1, q2]
    · have e : pick i (x :: r) (long (x :: r)) w o = pick (i + 1) r (long r) w o := by
        rw [show long (x :: r) = (bst (above x) r + 1) :: long r from rfl]
        simp only [pick]
        rw [if_neg (fun h => hk h.1)]
      obtain ⟨v', y', q2, q3, q4⟩ := skip e
      refine ⟨v', y', head v' y' ?_, q3, q4⟩
      rw [if_neg (by simp; omega)]
      simp only [e1, q2]

def maxi (w : Nat) (l : List Nat) : Nat := l.foldl max w
theorem maxi_best : ∀ (r : List Int) (ks : List Nat) (w : Nat), r.length = ks.length → maxi w ks = max w (best all r ks)
  | [], [], w, _ => by simp [maxi, best]
  | x :: r, k :: ks, w, h => by
    have := maxi_best r ks (max w k) (by simpa using h)
    simp only [maxi, List.foldl_cons] at this ⊢
    rw [this]; simp [best]
    try omega
theorem best_loop {st : St} {a lv : AV} {xs : List Int} (hL : Sl 1 lv (ints (nats (long xs)))) (hxl : xs.length < 1000000000000) : ∀ (ks : List Nat) (i : Nat), (long xs).drop i = ks → ∀ (w : Nat) (q : AOut × St),
    aw 10 st.length p10_1 ⟨[(0, a), (4, .int .i64 ((maxi w ks : Nat) : Int)), (7, .nils), (22, lv), (23, .int .i64 (xs.length : Int)), (24, .int .i64 ((0 : Nat) : Int))], []⟩ (.free 0 :: st) = some q →
    aw 10 st.length p10_0 ⟨[(0, a), (3, lv), (4, .int .i64 (w : Int)), (12, lv), (13, .int .i64 (xs.length : Int)), (14, .int .i64 (i : Int))], []⟩ (.free 0 :: st) = some q := by
  have hll := long_length xs
  intro ks
  induction ks with
  | nil =>
    intro i hi w q h
    have : xs.length ≤ i := by rw [← hll]; simpa using hi
    refine F10_0 _ _ _ _ _ _ _ _ ?_
    rw [if_neg (by simp; omega), ln (st := []) hL.rd]
    simpa [nats, hll, maxi] using h
  | cons k ks ih =>
    intro i hi w q h
    have hil : i < xs.length := by
      have := congrArg List.length hi
      simp at this; omega
    have gk : (nats (long xs))[i]? = some (k : Int) := by
      have : ((long xs).drop i)[0]? = some k := by rw [hi]; rfl
      rw [List.getElem?_drop] at this
      simp at this
      simp [nats, this]
    have e1 : IntKind.i64.wrap ((i : Int) + 1) = ((i + 1 : Nat) : Int) := by rw [i64_in _ (by omega)]; rfl
    have e2 : (if (k : Int) > (w : Int) then (k : Int) else (w : Int)) = ((max w k : Nat) : Int) := by split <;> omega
    refine F10_0 _ _ _ _ _ _ _ _ ?_
    rw [if_pos (by simp; omega), rd hL.rd gk]
    rw [e1, e2]
    exact ih (i + 1) (by have := congrArg List.tail hi; simpa using this) (max w k) q h

theorem longest_run (st : St) (hcl : Cl st) {a : AV} {xs : List Int} (hX : Sl 1 a (ints xs)) (hxl : xs.length < 1000000000000) :
    ∃ v y, cw 10 [a] st = some (.ret v, y :: st) ∧ MuN (y :: st) 1 v st.length (ints (nats (longest xs))) ∧ Cl (y :: st) := by
  have hL : Sl 1 (.sl 1 (ints (nats (long xs))) 0 xs.length .no) (ints (nats (long xs))) := by
    have : (ints (nats (long xs))).length = xs.length := by simp [ints, long_length]
    rw [← this]; exact .mk
  have hm : maxi 0 (long xs) = lis xs := by rw [maxi_best xs (long xs) 0 (long_length xs).symm]; simp
  obtain ⟨v, y, h1, h2, h3⟩ := pick_loop (st := st) hX hL hxl xs 0 rfl [] (lis xs) none .nils (.free 0) (Nat.zero_le _) (bst_le_length all xs) (.inl ⟨rfl, rfl⟩) (.inl ⟨rfl, rfl, 0, St.get_top _ _⟩) hcl.free
  refine ⟨v, y, F10 _ _ ?_, by simpa [longest] using h2, h3⟩
  rw [lengths_ok _ hcl.free hX hxl]
  simp only [callB_ret, lenSl, Option.bind_some, intV_int]
  exact best_loop (st := st) hL hxl (long xs) 0 rfl 0 _ (by rw [hm]; exact h1)

/-! ### Lists: copied, lent, held against each other -/
theorem copyInts_run (st : St) {a : AV} {l : List Int} (h : Sl 1 a (ints l)) (hl : l.length < 1000000000000) : ∃ v y, cw 21 [a] st = some (.ret v, y :: st) ∧ Acc 1 st.length (y :: st) v (ints l) := by
  obtain ⟨v, y, h1, h2⟩ := copy_gen (st := st) (bytes := 8) h.rows (by rw [ints_len]; simp [roomA]; omega) (by rw [ints_len]; simp [roomA]; omega)
  exact ⟨v, y, F21 _ _ h1, h2⟩
def more2 : List Int := [-7777, -8888]
theorem lendInts_run (st : St) (hs : Cl st) {a : AV} {l : List Int} (h : Sl 1 a (ints l)) (hl : l.length < 1000000000000) : ∃ v, cw 9 [a] st = some (.ret v, st) ∧ Lent 1 v (ints l) (ints more2) := by
  obtain ⟨v, h1, h2, _⟩ := lend_gen (kd := 1) (bytes := 8) (n := 2) (extra := ints more2) (kp := fun v st_1 => outL false st.length (AOut.pan v) st_1) hs (copyInts_run (.free 0 :: st) h hl) h rfl (by omega) (by rw [ints_len]; simp [roomA]; omega) (by rw [ints_len]; simp [roomA]; omega) (fun m => by rw [← ints_app]; exact closed_ints _ _)
  exact ⟨v, F9 _ _ h1, h2⟩
theorem same_loop {st : St} {a b : AV} {l m : List Int} (ha : Rd st 1 a (ints l)) (hb : Rd st 1 b (ints m)) (hl : l.length < 1000000000000) (hlm : l.length = m.length) (base : Nat) (hbase : base = st.length) : ∀ (d i : Nat), i + d = l.length →
    aw 12 base p12_0 ⟨[(0, a), (1, b), (5, .int .i64 (i : Int))], []⟩ st = some (.ret (.bool (decide (l.drop i = m.drop i))), st) := by
  subst hbase
  intro d
  induction d with
  | zero =>
    intro i hi
    refine F12_0 _ _ _ _ _ ?_
    rw [ln ha, if_neg (by simp; omega), List.drop_of_length_le (by omega), List.drop_of_length_le (by omega)]
    simp
  | succ d ih =>
    intro i hi
    have gl : l[i]? = some (l[i]'(by omega)) := List.getElem?_eq_getElem _
    have gm : m[i]? = some (m[i]'(by omega)) := List.getElem?_eq_getElem _
    have dl : l.drop i = l[i]'(by omega) :: l.drop (i + 1) := List.drop_eq_getElem_cons _
    have dm : m.drop i = m[i]'(by omega) :: m.drop (i + 1) := List.drop_eq_getElem_cons _
    generalize l[i]'(by omega) = x at *
    generalize m[i]'(by omega) = y at *
    refine F12_0 _ _ _ _ _ ?_
    rw [ln ha, if_pos (by simp; omega), rd ha gl, rd hb gm, dl, dm]
    have e1 : IntKind.i64.wrap ((i : Int) + 1) = ((i + 1 : Nat) : Int) := by rw [i64_in _ (by omega)]; rfl
    by_cases hxy : x = y
    · subst hxy
      rw [if_neg (by simp), e1, ih (i + 1) (by omega)]
      simp
    · rw [if_pos (by simpa using hxy)]
      simp [hxy]
theorem sameInts_run {st : St} {a b : AV} {l m : List Int} (ha : Rd st 1 a (ints l)) (hb : Rd st 1 b (ints m)) (hl : l.length < 1000000000000) : cw 12 [a, b] st = some (.ret (.bool (decide (l = m))), st) := by
  refine F12 _ _ _ ?_
  rw [ln ha, ln hb]
  by_cases h : l.length = m.length
  · rw [if_neg (by simp; omega)]
    have := same_loop ha hb hl h st.length rfl l.length 0 (by omega)
    simpa using this
  · rw [if_pos (by simp; omega)]
    have : l ≠ m := fun e => h (by rw [e])
    simp [this]
theorem keptInts_run {st : St} {v a : AV} {l : List Int} (hv : Lent 1 v (ints l) (ints more2)) (ha : Rd st 1 a (ints l)) (hl : l.length < 1000000000000) : cw 13 [v, a] st = some (.ret (.bool true), st) := by
  refine F13 _ _ _ ?_
  obtain ⟨v', h1, h2⟩ := hv.behind (n := 2) rfl st
  rw [ints_len] at h1
  rw [← ints_app] at h2
  have e : IntKind.i64.wrap ((l.length : Int) + 2) = ((l.length + 2 : Nat) : Int) := by rw [i64_in _ (by omega)]; rfl
  have e1 : IntKind.i64.wrap ((l.length : Int) + 1) = ((l.length + 1 : Nat) : Int) := by rw [i64_in _ (by omega)]; rfl
  rw [ln (st := st) hv.sl.rd, e, h1]
  simp only [Option.bind_some, sameInts_run hv.sl.rd ha hl, callB_ret, boolV_bool, decide_true, if_true, ln ha]
  rw [rd (j := l.length) (l := l ++ more2) (c := -7777) h2.rd (by simp [more2]), if_pos (by simp), e1, rd (j := l.length + 1) (l := l ++ more2) (c := -8888) h2.rd (by simp [more2])]
  simp
end Go.Abs
