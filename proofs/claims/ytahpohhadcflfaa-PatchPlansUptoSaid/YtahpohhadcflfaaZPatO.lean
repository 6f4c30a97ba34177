/- Every Least: what the statement's function answers. -/
import Derived.Test.YtahpohhadcflfaaZPatN
namespace Go.Abs
open Go Go.Proofs Go.Proofs.Ytahpohhadcflfaa.LisMath Go.RowKit Go.IntWalk
set_option linter.unusedVariables false
set_option linter.unusedSimpArgs false

section
variable (olds : List Spot) (oldL : List Lp) (news : List Spot) (newL : List Lp)
noncomputable def res : Plan := @ite _ (Good olds oldL news newL) (Classical.propDecidable _) (plan olds oldL news newL) Plan.zero
noncomputable def err : Int := @ite _ (Good olds oldL news newL) (Classical.propDecidable _) 0 1800
end
theorem tops_len (ss : List Spot) (keep : Ori → Bool) : ∀ (r : List Spot) (i : Nat), (topsF ss keep r i).length ≤ r.length
  | [], _ => Nat.le_refl _
  | s :: r, i => by
    have := tops_len ss keep r (i + 1)
    simp only [topsF, List.length_cons]
    split
    · omega
    · split
      · simp only [List.length_cons]; omega
      · omega
theorem keptF_len (news : List Spot) (olds : List Spot) : (keptF news olds 0).length ≤ olds.length := by
  rw [kept_len]
  exact Nat.le_trans (List.length_filter_le _ _) (by simp [oris])
section
variable {st : St} {a b c d : AV} {olds news : List Spot} {oldL newL : List Lp}
theorem res_k (h : olds.length < 10000000) : (res olds oldL news newL).kept.length < 10000000 := by
  unfold res
  split
  · exact Nat.lt_of_le_of_lt (keptF_len _ _) h
  · simp [Plan.zero]
theorem res_g (h : olds.length < 10000000) : (res olds oldL news newL).gone.length < 10000000 := by
  unfold res
  split
  · exact Nat.lt_of_le_of_lt (tops_len _ _ _ _) h
  · simp [Plan.zero]
theorem res_n (h : news.length < 10000000) : (res olds oldL news newL).new.length < 10000000 := by
  unfold res
  split
  · exact Nat.lt_of_le_of_lt (tops_len _ _ _ _) h
  · simp [Plan.zero]
/-- Least, and what it answers laid into a variable. -/
theorem least_box (hcl : Cl st) (h : Given a b c d olds oldL news newL) : ∃ T k g n ok og on, cw 25 [a, b, c, d] st = some (.ret (.tup [.agg (planV k g n (res olds oldL news newL)), .int .i64 (err olds oldL news newL)]), T) ∧ Up st T ∧
    Cl (AObj.free 0 :: AObj.free 0 :: AObj.free 0 :: AObj.box 46 (planV k g n (res olds oldL news newL)) :: T) ∧
    MuN (AObj.free 0 :: AObj.free 0 :: AObj.free 0 :: AObj.box 46 (planV k g n (res olds oldL news newL)) :: T) 2 k ok (pairsC (res olds oldL news newL).kept) ∧
    MuN (AObj.free 0 :: AObj.free 0 :: AObj.free 0 :: AObj.box 46 (planV k g n (res olds oldL news newL)) :: T) 1 g og (ints (res olds oldL news newL).gone) ∧
    MuN (AObj.free 0 :: AObj.free 0 :: AObj.free 0 :: AObj.box 46 (planV k g n (res olds oldL news newL)) :: T) 1 n on (ints (res olds oldL news newL).new) ∧
    (st.length ≤ ok ∧ st.length ≤ og ∧ st.length ≤ on) ∧ (ok ≠ T.length ∧ og ≠ T.length ∧ on ≠ T.length) ∧ (ok ≠ og ∧ ok ≠ on ∧ og ≠ on) := by
  obtain ⟨T, u, cl, r⟩ := least_run hcl h
  rcases r with ⟨hg, k, g, n, ok, og, on, e, m1, m2, m3, o1, o2, o3⟩ | ⟨hg, e⟩
  · have hr : res olds oldL news newL = plan olds oldL news newL := if_pos hg
    have he : err olds oldL news newL = 0 := if_pos hg
    rw [hr, he]
    have hu := ((((Up.cons (AObj.box 46 (planV k g n (plan olds oldL news newL))) T).push (.free 0)).push (.free 0)).push (.free 0))
    have hl := m3.lt
    exact ⟨T, k, g, n, ok, og, on, e, u, ((((cl.cons (x := .box 46 (planV k g n (plan olds oldL news newL))) (planC_closed (m1.clv (by omega)) (m2.clv (by omega)) (m3.clv (by omega)))).free).free).free), m1.up hu, m2.up hu, m3.up hu, ⟨o1, by omega, by omega⟩, ⟨by omega, by omega, by omega⟩, by omega, by omega, by omega⟩
  · have hr : res olds oldL news newL = Plan.zero := if_neg hg
    have he : err olds oldL news newL = 1800 := if_neg hg
    rw [hr, he]
    have hul := u.len
    refine ⟨T, .nils, .nils, .nils, T.length + 1, T.length + 2, T.length + 3, e, u, ((((cl.cons (x := .box 46 (planV .nils .nils .nils Plan.zero)) rfl).free).free).free), .inl ⟨rfl, rfl, 0, get_at3 (by simp)⟩, .inl ⟨rfl, rfl, 0, get_at2 (by simp)⟩, .inl ⟨rfl, rfl, 0, get_at1 (by simp)⟩, ⟨by omega, by omega, by omega⟩, ⟨by omega, by omega, by omega⟩, by omega, by omega, by omega⟩
theorem rleast_res (hcl : Cl st) (h : Given a b c d olds oldL news newL) : ∃ k g n, cw 26 [a, b, c, d] st = some (.ret (.tup [.agg (planV k g n (res olds oldL news newL)), .int .i64 (err olds oldL news newL)]), st) ∧
    Full 2 k (pairsC (res olds oldL news newL).kept) ∧ Full 1 g (ints (res olds oldL news newL).gone) ∧ Full 1 n (ints (res olds oldL news newL).new) := by
  rcases rleast_run hcl h with ⟨hg, k, g, n, e, f1, f2, f3⟩ | ⟨hg, e⟩
  · have hr : res olds oldL news newL = plan olds oldL news newL := if_pos hg
    have he : err olds oldL news newL = 0 := if_pos hg
    rw [hr, he]
    exact ⟨k, g, n, e, f1, f2, f3⟩
  · have hr : res olds oldL news newL = Plan.zero := if_neg hg
    have he : err olds oldL news newL = 1800 := if_neg hg
    rw [hr, he]
    exact ⟨.nils, .nils, .nils, e, .inl ⟨rfl, rfl⟩, .inl ⟨rfl, rfl⟩, .inl ⟨rfl, rfl⟩⟩
theorem wr10 {X : St} {cs : List AV} (hl : cs.length = 10) : writeA (AObj.free 0 :: AObj.free 0 :: AObj.free 0 :: AObj.box 46 zero10 :: X) (.bp X.length 0) cs = some (AObj.free 0 :: AObj.free 0 :: AObj.free 0 :: AObj.box 46 cs :: X) := by
  rw [box_write (get_at4 rfl) (setAt_all _ _ (by rw [hl]; rfl)), St.put_under (by simp only [List.length_cons]; omega), St.put_under (by simp only [List.length_cons]; omega), St.put_under (by simp only [List.length_cons]; omega), St.put_top]

/-! ### What every program answers -/
def oriN (i : Int) : Ori := ⟨i, 0, List.replicate 8 zeroK⟩
def spotN (i p : Int) : Spot := ⟨oriN i, p, [112], [], []⟩
theorem spotN_run (hcl : Cl st) (i p : Int) : cw 54 [.int .i64 i, .int .i64 p] st = some (.ret (.agg (spotC (oriN i) p [112] [] .nils)), st) := by
  have hlen : (spotC (oriN i) p [112] [] .nils).length = 30 := rfl
  have hz : ∃ z : List AV, z = [AV.int IntKind.i64 0, AV.int IntKind.i64 0, AV.int IntKind.i64 0, AV.int IntKind.i64 0, AV.str [], AV.int IntKind.i64 0, AV.int IntKind.i64 0, AV.str [], AV.int IntKind.i64 0, AV.int IntKind.i64 0, AV.str [],
              AV.int IntKind.i64 0, AV.int IntKind.i64 0, AV.str [], AV.int IntKind.i64 0, AV.int IntKind.i64 0, AV.str [], AV.int IntKind.i64 0, AV.int IntKind.i64 0, AV.str [], AV.int IntKind.i64 0, AV.int IntKind.i64 0, AV.str [],
              AV.int IntKind.i64 0, AV.int IntKind.i64 0, AV.str [], AV.int IntKind.i64 0, AV.str [], AV.str [], AV.nils] ∧ z.length = 30 := ⟨_, rfl, rfl⟩
  refine F54 _ _ _ ?_
  have h1 : cellsV 26 (AV.agg [AV.int IntKind.i64 i, AV.int IntKind.i64 0, AV.int IntKind.i64 0, AV.int IntKind.i64 0, AV.str [], AV.int IntKind.i64 0, AV.int IntKind.i64 0, AV.str [], AV.int IntKind.i64 0, AV.int IntKind.i64 0, AV.str [], AV.int IntKind.i64 0,
    AV.int IntKind.i64 0, AV.str [], AV.int IntKind.i64 0, AV.int IntKind.i64 0, AV.str [], AV.int IntKind.i64 0, AV.int IntKind.i64 0, AV.str [], AV.int IntKind.i64 0, AV.int IntKind.i64 0, AV.str [], AV.int IntKind.i64 0,
    AV.int IntKind.i64 0, AV.str []]) = some (oriC (oriN i)) := rfl
  have h2 : setAt [AV.int IntKind.i64 0, AV.int IntKind.i64 0, AV.int IntKind.i64 0, AV.int IntKind.i64 0, AV.str [], AV.int IntKind.i64 0, AV.int IntKind.i64 0, AV.str [], AV.int IntKind.i64 0, AV.int IntKind.i64 0, AV.str [], AV.int IntKind.i64 0,
    AV.int IntKind.i64 0, AV.str [], AV.int IntKind.i64 0, AV.int IntKind.i64 0, AV.str [], AV.int IntKind.i64 0, AV.int IntKind.i64 0, AV.str [], AV.int IntKind.i64 0, AV.int IntKind.i64 0, AV.str [], AV.int IntKind.i64 0,
    AV.int IntKind.i64 0, AV.str [], AV.int IntKind.i64 0, AV.str [], AV.str [], AV.nils] 0 (oriC (oriN i)) = some (spotC (oriN i) 0 [] [] .nils) := rfl
  have h3 : setAt (spotC (oriN i) 0 [] [] .nils) 26 [AV.int IntKind.i64 p] = some (spotC (oriN i) p [] [] .nils) := rfl
  have h4 : setAt (spotC (oriN i) p [] [] .nils) 27 [AV.str [UInt8.ofNat 112]] = some (spotC (oriN i) p [112] [] .nils) := rfl
  have h5 : cellsV 30 (AV.agg (spotC (oriN i) p [112] [] .nils)) = some (spotC (oriN i) p [112] [] .nils) := rfl
  simp only [h1, Option.bind_some, h2, h3, h4, h5]
  obtain ⟨z, hz, hzl⟩ := hz
  rw [← hz, box_write (get_at2 rfl) (setAt_all _ _ (by rw [hzl, hlen])), Option.bind_some, ld70, box_read (by rw [St.put_under (by simp), St.put_top]; exact get_at2 rfl), row_all _ _ hlen]
  simp only [Option.bind_some, outV1]
  rw [St.put_under (by simp), St.put_top]
  exact outL_s2 hcl _ _ rfl rfl
theorem spotN_r (i p : Int) : SpotR (spotN i p) (spotC (oriN i) p [112] [] .nils) := ⟨rfl, .nils, rfl, .nil, fun _ => rfl⟩
theorem spotN_strip (i p : Int) : List.map AV.strip (spotC (oriN i) p [112] [] .nils) = spotC (oriN i) p [112] [] .nils := rfl
end
end Go.Abs
