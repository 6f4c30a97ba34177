/- What the reference's Longest comes to, by value; a list written over. -/
import Derived.Test.YtahpohhadcflfaaZLisRun
namespace Go.Abs
open Go Go.Proofs Go.Proofs.Ytahpohhadcflfaa.LisMath Go.RowKit Go.IntWalk
set_option linter.unusedVariables false
set_option linter.unusedSimpArgs false

theorem wr {R : Type} {st : St} {v : AV} {o : Nat} {l : List Int} (h : Mu st 1 v o (ints l)) {j : Nat} {c d : Int} (hj : l[j]? = some c) (K : St → Option R) :
    ∃ y, ((natA (.int .i64 (j : Int))).bind fun j => (idxSl st 1 v j).bind fun p => (writeA st p [.int .i64 d]).bind K) = K (st.put o y) ∧ Mu (st.put o y) 1 v o (ints (l.set j d)) ∧ ∃ ep, y = .rows 1 ep (ints (l.set j d)) := by
  obtain ⟨p, y, w1, w2, w3, ep, w4⟩ := h.write (ints_get hj) (cs := int1 d) (r' := int1 d) rfl
  rw [ints_set] at w3 w4
  refine ⟨y, ?_, w3, ep, w4⟩
  rw [natA_nat, Option.bind_some, w1, Option.bind_some]
  rw [show [AV.int IntKind.i64 d] = int1 d from rfl, w2]
  rfl
theorem wr0 {R : Type} {st : St} {o ep : Nat} {l : List Int} (h : st.get o = some (.rows 1 ep (ints l))) {j n : Nat} (hn : l.length = n) {c d : Int} (hj : l[j]? = some c) (K : St → Option R) :
    ((natA (.int .i64 (j : Int))).bind fun j => (idxSl st 1 (.ms o ep 0 n n) j).bind fun p => (writeA st p [.int .i64 d]).bind K) = K (st.put o (.rows 1 ep (ints (l.set j d)))) := by
  subst hn
  have hl := (List.getElem?_eq_some_iff.1 hj).1
  simp [idxSl, msKd, h, hl, writeA, ints_get hj, setAt, ← ints_set, int1]

theorem rlen_row {st0 : St} {a : AV} {xs : List Int} (hX : Sl 1 a (ints xs)) (hxl : xs.length < 1000000000000) {i : Nat} {x : Int} (gx : xs[i]? = some x) (b : Nat) (q : AOut × St) : ∀ (r : List Int) (k : Nat), xs.drop k = r → i < k → ∀ (c : Nat) (st : St), 1 ≤ c → c ≤ xs.length + 1 →
    st.get (st0.length + 1) = some (.rows 1 0 (ints (List.replicate i 0 ++ (c : Int) :: nats (long (xs.drop (i + 1)))))) →
    aw 11 st0.length p11_0 ⟨[(0, a), (3, .ms (st0.length + 1) 0 0 xs.length xs.length), (4, .int .i64 ((max b (max c (best (above x) r (long r) + 1)) : Nat) : Int)), (5, .int .i64 ((i : Int) - 1))], []⟩
      (st.put (st0.length + 1) (.rows 1 0 (ints (List.replicate i 0 ++ ((max c (best (above x) r (long r) + 1) : Nat) : Int) :: nats (long (xs.drop (i + 1))))))) = some q →
    aw 11 st0.length p11_1 ⟨[(0, a), (3, .ms (st0.length + 1) 0 0 xs.length xs.length), (4, .int .i64 (b : Int)), (5, .int .i64 (i : Int)), (6, .int .i64 (k : Int))], []⟩ st = some q := by
  have hil := (List.getElem?_eq_some_iff.1 gx).1
  have hlen : ∀ c : Int, (List.replicate i 0 ++ c :: nats (long (xs.drop (i + 1)))).length = xs.length := fun c => by simp [long_length]; omega
  have hget : ∀ c : Int, (List.replicate i 0 ++ c :: nats (long (xs.drop (i + 1))))[i]? = some c := fun c => by rw [List.getElem?_append_right (by simp)]; simp
  have hMu : ∀ (st : St) (c : Int), st.get (st0.length + 1) = some (.rows 1 0 (ints (List.replicate i 0 ++ c :: nats (long (xs.drop (i + 1)))))) →
      Mu st 1 (.ms (st0.length + 1) 0 0 xs.length xs.length) (st0.length + 1) (ints (List.replicate i 0 ++ c :: nats (long (xs.drop (i + 1))))) := fun st c h => ⟨0, by rw [ints_len, hlen], h⟩
  intro r
  induction r with
  | nil =>
    intro k hk hik c st hc hc2 hg h
    have : xs.length ≤ k := by simpa using hk
    refine F11_1 _ _ _ _ _ _ _ ?_
    rw [ln (st := []) hX.rd, if_neg (by simp; omega), rd (hMu st c hg).rd (hget c)]
    have e : IntKind.i64.wrap ((i : Int) - 1) = (i : Int) - 1 := i64_in _ (by omega)
    have hm : max c (best (above x) [] (long []) + 1) = c := by simp [best]; omega
    rw [hm, St.put_same hg] at h
    rw [e, ← h]
    congr 5
    rw [show (if (c : Int) > (b : Int) then (c : Int) else (b : Int)) = ((max b c : Nat) : Int) by split <;> omega]
  | cons y r ih =>
    intro k hk hik c st hc hc2 hg h
    have hkl : k < xs.length := by have := congrArg List.length hk; simp at this; omega
    have hr : xs.drop (k + 1) = r := by have := congrArg List.tail hk; simpa using this
    have gy : xs[k]? = some y := by
      have : (xs.drop k)[0]? = some y := by rw [hk]; rfl
      rw [List.getElem?_drop] at this; simpa using this
    have gk : (List.replicate i 0 ++ (c : Int) :: nats (long (xs.drop (i + 1))))[k]? = some ((bst (above y) r + 1 : Nat) : Int) := by
      rw [List.getElem?_append_right (by simp; omega)]
      simp only [List.length_replicate]
      rw [show k - i = (k - i - 1) + 1 by omega, List.getElem?_cons_succ]
      have : (xs.drop (i + 1)).drop (k - i - 1) = y :: r := by rw [List.drop_drop, show i + 1 + (k - i - 1) = k by omega]; exact hk
      exact long_at this
    have kb := bst_le_length (above y) r
    have hrl : r.length + k + 1 = xs.length := by have := congrArg List.length hk; simp at this; omega
    have e1 : IntKind.i64.wrap ((k : Int) + 1) = ((k + 1 : Nat) : Int) := by rw [i64_in _ (by omega)]; rfl
    have e2 : IntKind.i64.wrap (((bst (above y) r + 1 : Nat) : Int) + 1) = ((bst (above y) r + 2 : Nat) : Int) := by rw [i64_in _ (by omega)]; omega
    have hb : best (above x) (y :: r) (long (y :: r)) = if x < y then max (bst (above y) r + 1) (best (above x) r (long r)) else best (above x) r (long r) := by
      rw [show long (y :: r) = (bst (above y) r + 1) :: long r from rfl]
      simp [best]
    refine F11_1 _ _ _ _ _ _ _ ?_
    rw [ln (st := []) hX.rd, if_pos (by simp; omega), rd hX.rd gy, rd hX.rd gx]
    by_cases hxy : x < y
    · rw [if_pos hxy] at hb
      rw [if_pos (by simpa using hxy), rd (hMu st c hg).rd gk, rd (hMu st c hg).rd (hget c), e2]
      by_cases hlt : c < bst (above y) r + 2
      · rw [if_pos (by simp; omega), rd (hMu st c hg).rd gk, e2, wr0 hg (hlen c) (hget c), e1]
        have hset : (List.replicate i 0 ++ (c : Int) :: nats (long (xs.drop (i + 1)))).set i ((bst (above y) r + 2 : Nat) : Int) = List.replicate i 0 ++ ((bst (above y) r + 2 : Nat) : Int) :: nats (long (xs.drop (i + 1))) := by
          rw [List.set_append_right _ _ (by simp)]; simp
        rw [hset]
        have hlo := St.get_lt hg
        refine ih (k + 1) hr (by omega) (bst (above y) r + 2) _ (by omega) (by omega) (by rw [St.get_put_same hlo]) ?_
        have hm : max (bst (above y) r + 2) (best (above x) r (long r) + 1) = max c (best (above x) (y :: r) (long (y :: r)) + 1) := by rw [hb]; omega
        rw [St.put_put, hm]
        exact h
      · rw [if_neg (by simp; omega), e1]
        have hm : max c (best (above x) r (long r) + 1) = max c (best (above x) (y :: r) (long (y :: r)) + 1) := by rw [hb]; omega
        refine ih (k + 1) hr (by omega) c st hc hc2 hg ?_
        rw [hm]
        exact h
    · rw [if_neg hxy] at hb
      rw [if_neg (by simpa using hxy), e1]
      refine ih (k + 1) hr (by omega) c st hc hc2 hg ?_
      rw [← hb]
      exact h

theorem rlen_loop {st0 : St} {a : AV} {xs : List Int} (hX : Sl 1 a (ints xs)) (hxl : xs.length < 1000000000000) :
    ∀ (d : Nat), d ≤ xs.length → ∀ (st : St), st.trunc st0.length = st0 → st.get st0.length = some (.free 0) →
    st.get (st0.length + 1) = some (.rows 1 0 (ints (List.replicate d 0 ++ nats (long (xs.drop d))))) →
    ∃ s, s.trunc st0.length = st0 ∧ s.get st0.length = some (.free 0) ∧ s.get (st0.length + 1) = some (.rows 1 0 (ints (nats (long xs)))) ∧
      ∀ q, aw 11 st0.length p11_2 ⟨[(0, a), (3, .ms (st0.length + 1) 0 0 xs.length xs.length), (4, .int .i64 ((lis xs : Nat) : Int)), (7, .nils), (8, .int .i64 ((0 : Nat) : Int))], []⟩ s = some q →
        aw 11 st0.length p11_0 ⟨[(0, a), (3, .ms (st0.length + 1) 0 0 xs.length xs.length), (4, .int .i64 ((lis (xs.drop d) : Nat) : Int)), (5, .int .i64 ((d : Int) - 1))], []⟩ st = some q := by
  intro d
  induction d with
  | zero =>
    intro _ st h1 h2 h3
    refine ⟨st, h1, h2, by simpa using h3, fun q hq => F11_0 _ _ _ _ _ _ ?_⟩
    rw [if_neg (by decide)]
    exact hq
  | succ d ih =>
    intro hd st h1 h2 h3
    have hdl : d < xs.length := by omega
    have hx : xs.drop d = xs[d] :: xs.drop (d + 1) := List.drop_eq_getElem_cons hdl
    have gx : xs[d]? = some xs[d] := List.getElem?_eq_getElem hdl
    generalize xs[d] = x at hx gx
    have e0 : ((d + 1 : Nat) : Int) - 1 = (d : Int) := by omega
    have hrep : List.replicate (d + 1) (0 : Int) ++ nats (long (xs.drop (d + 1))) = List.replicate d 0 ++ 0 :: nats (long (xs.drop (d + 1))) := by
      rw [List.replicate_succ', List.append_assoc]; rfl
    rw [hrep] at h3
    have hset : (List.replicate d 0 ++ 0 :: nats (long (xs.drop (d + 1)))).set d (1 : Int) = List.replicate d 0 ++ ((1 : Nat) : Int) :: nats (long (xs.drop (d + 1))) := by
      rw [List.set_append_right _ _ (by simp)]; simp
    have e1 : IntKind.i64.wrap ((d : Int) + 1) = ((d + 1 : Nat) : Int) := by rw [i64_in _ (by omega)]; rfl
    have hlo := St.get_lt h3
    have hm : max 1 (best (above x) (xs.drop (d + 1)) (long (xs.drop (d + 1))) + 1) = bst (above x) (xs.drop (d + 1)) + 1 := by
      show max 1 (bst (above x) (xs.drop (d + 1)) + 1) = _
      omega
    have hm2 : max (lis (xs.drop (d + 1))) (bst (above x) (xs.drop (d + 1)) + 1) = lis (xs.drop d) := by
      rw [hx, show lis (x :: xs.drop (d + 1)) = bst all (x :: xs.drop (d + 1)) from rfl, bst_cons, if_pos rfl]; show max (bst all (xs.drop (d + 1))) _ = max _ (bst all (xs.drop (d + 1))); omega
    obtain ⟨s, s1, s2, s3, s4⟩ := ih (by omega) (st.put (st0.length + 1) (.rows 1 0 (ints (List.replicate d 0 ++ ((bst (above x) (xs.drop (d + 1)) + 1 : Nat) : Int) :: nats (long (xs.drop (d + 1))))))) (by rw [St.trunc_put (by omega)]; exact h1) (by rw [St.get_put_ne (by omega)]; exact h2)
      (by rw [St.get_put_same hlo, hx]; rfl)
    refine ⟨s, s1, s2, s3, fun q hq => F11_0 _ _ _ _ _ _ ?_⟩
    rw [e0, if_pos (by simp)]
    rw [wr0 h3 (c := 0) (by simp [long_length]; omega) (by rw [List.getElem?_append_right (by simp)]; simp), hset, e1]
    refine rlen_row hX hxl gx (lis (xs.drop (d + 1))) q (xs.drop (d + 1)) (d + 1) rfl (by omega) 1 _ (Nat.le_refl _) (by omega) (by rw [St.get_put_same hlo]) ?_
    rw [hm, hm2, St.put_put]
    exact s4 q hq

theorem rpick_loop {st0 : St} (hcl : Cl st0) {a : AV} {xs : List Int} (hX : Sl 1 a (ints xs)) (hxl : xs.length < 1000000000000) : ∀ (r : List Int) (i : Nat), xs.drop i = r → ∀ (acc : List Nat) (w : Nat) (o : Option Int) (v : AV) (st : St),
    acc.length ≤ i → w ≤ xs.length → Last xs acc o → Acc 1 st0.length st v (ints (nats acc)) → st.trunc st0.length = st0 → st.get (st0.length + 1) = some (.rows 1 0 (ints (nats (long xs)))) →
    ∃ v', aw 11 st0.length p11_2 ⟨[(0, a), (3, .ms (st0.length + 1) 0 0 xs.length xs.length), (4, .int .i64 (w : Int)), (7, v), (8, .int .i64 (i : Int))], []⟩ st = some (.ret v', st0) ∧ Sl 1 v' (ints (nats (acc ++ pick i r (long r) w o))) := by
  have hLM : ∀ st : St, st.get (st0.length + 1) = some (.rows 1 0 (ints (nats (long xs)))) → Rd st 1 (.ms (st0.length + 1) 0 0 xs.length xs.length) (ints (nats (long xs))) := fun st h =>
    Mu.rd (o := st0.length + 1) ⟨0, by simp [ints, long_length], h⟩
  have stop : ∀ (acc : List Nat) (v : AV) (st : St), Acc 1 st0.length st v (ints (nats acc)) → st.trunc st0.length = st0 →
      ∃ v', (bind2 (freezeA st v) fun v st => outL false st0.length (AOut.ret v) st) = some (.ret v', st0) ∧ Sl 1 v' (ints (nats acc)) := by
    intro acc v st hA ht
    obtain ⟨v', h1, h2, h3⟩ := hA.out (n := st0.length) (Nat.le_refl _) (closed_ints _ _) (by rw [ht]; exact hcl)
    rw [ht] at h1
    exact ⟨v', by rw [hA.sl.frz]; simp only [bind2_some, h1], h2⟩
  intro r
  induction r with
  | nil =>
    intro i hi acc w o v st ha hw hl hM ht hg
    have : xs.length ≤ i := by simpa using hi
    obtain ⟨v', h1, h2⟩ := stop acc v st hM ht
    refine ⟨v', F11_2 _ _ _ _ _ _ _ ?_, by simpa [pick] using h2⟩
    rw [ln (st := []) hX.rd, if_neg (by simp; omega)]
    exact h1
  | cons x r ih =>
    intro i hi acc w o v st ha hw hl hM ht hg
    have hil : i < xs.length := by
      have := congrArg List.length hi
      simp at this; omega
    have hr : xs.drop (i + 1) = r := by
      have := congrArg List.tail hi
      simpa using this
    have gx : xs[i]? = some x := by
      have : (xs.drop i)[0]? = some x := by rw [hi]; rfl
      rw [List.getElem?_drop] at this; simpa using this
    have e1 : IntKind.i64.wrap ((i : Int) + 1) = ((i + 1 : Nat) : Int) := by rw [i64_in _ (by omega)]; rfl
    have kle := bst_le_length (above x) r
    have hrl : r.length ≤ xs.length := by rw [← hr]; simp
    have ew : w ≠ 0 → IntKind.i64.wrap ((w : Int) - 1) = ((w - 1 : Nat) : Int) := fun h => by rw [i64_in _ (by omega)]; omega
    have hR : Rd st 1 v (ints (nats acc)) := hM.sl.rd
    by_cases hw0 : w = 0
    · subst hw0
      obtain ⟨v', h1, h2⟩ := stop acc v st hM ht
      refine ⟨v', F11_2 _ _ _ _ _ _ _ ?_, by rw [pick_zero]; simpa using h2⟩
      rw [ln (st := []) hX.rd, if_pos (by simp; omega), if_neg (by simp)]
      exact h1
    · have skip : pick i (x :: r) (long (x :: r)) w o = pick (i + 1) r (long r) w o →
          ∃ v', aw 11 st0.length p11_2 ⟨[(0, a), (3, .ms (st0.length + 1) 0 0 xs.length xs.length), (4, .int .i64 (w : Int)), (7, v), (8, .int .i64 ((i + 1 : Nat) : Int))], []⟩ st = some (.ret v', st0) ∧
            Sl 1 v' (ints (nats (acc ++ pick i (x :: r) (long (x :: r)) w o))) := by
        intro e
        rw [e]
        exact ih (i + 1) hr acc w o v st (by omega) hw hl hM ht hg
      have take : bst (above x) r + 1 = w → fits o x = true → ∃ v' v2 y2, appendL st (some (st0.length, false)) 8 1 v (.sl 1 [[.int .i64 (i : Int)]] 0 1 .exact) = some (v2, st.put st0.length y2) ∧
          aw 11 st0.length p11_2 ⟨[(0, a), (3, .ms (st0.length + 1) 0 0 xs.length xs.length), (4, .int .i64 ((w - 1 : Nat) : Int)), (7, v2), (8, .int .i64 ((i + 1 : Nat) : Int))], []⟩ (st.put st0.length y2) = some (.ret v', st0) ∧
            Sl 1 v' (ints (nats (acc ++ pick i (x :: r) (long (x :: r)) w o))) := by
        intro hk ho
        obtain ⟨v2, y2, q1, q2⟩ := hM.app (x := .sl 1 [[.int .i64 (i : Int)]] 0 1 .exact) (new := ints (nats [i])) (bytes := 8) rfl (by simp [ints, roomA]; omega) (by simp [ints, roomA]; omega)
        have e : pick i (x :: r) (long (x :: r)) w o = i :: pick (i + 1) r (long r) (w - 1) (some x) := by
          rw [show long (x :: r) = (bst (above x) r + 1) :: long r from rfl]
          simp only [pick]
          rw [if_pos ⟨hk, by omega, ho⟩]
        rw [← ints_app] at q2
        obtain ⟨v', h1, h2⟩ := ih (i + 1) hr (acc ++ [i]) (w - 1) (some x) v2 (st.put st0.length y2) (by simp; omega) (by omega) (.inr ⟨i, x, by simp, by simp, gx, rfl⟩) (by simpa using q2) (by rw [St.trunc_put (Nat.le_refl _)]; exact ht) (by rw [St.get_put_ne (by omega)]; exact hg)
        refine ⟨v', v2, y2, q1, h1, ?_⟩
        rw [e]
        simpa using h2
      by_cases hk : bst (above x) r + 1 = w
      · by_cases ho : fits o x = true
        · obtain ⟨v', v2, y2, q1, q2, q3⟩ := take hk ho
          refine ⟨v', F11_2 _ _ _ _ _ _ _ ?_, q3⟩
          rw [ln (st := []) hX.rd, if_pos (by simp; omega), if_pos (by simp; omega), rd (hLM st hg) (long_at hi), if_pos (by simp; omega), ln hR]
          rcases hl with ⟨rfl, rfl⟩ | ⟨q, z, hne, hq, hz, rfl⟩
          · rw [if_pos (by simp)]
            simp only [Nat.add_zero, q1, bind2_some, ew hw0, e1, q2]
          · have hpos : 0 < acc.length := List.length_pos_iff.2 hne
            have hq2 : (nats acc)[acc.length - 1]? = some (q : Int) := by simp [nats, hq]
            have e3 : IntKind.i64.wrap (((nats acc).length : Int) - 1) = ((acc.length - 1 : Nat) : Int) := by simp only [List.length_map]; rw [i64_in _ (by omega)]; omega
            rw [if_neg (by simpa using hne), rd hX.rd gx, ln hR, e3, rd hR hq2, rd hX.rd hz, if_pos (by simpa [fits] using ho)]
            simp only [Nat.add_zero, q1, bind2_some, ew hw0, e1, q2]
        · have e : pick i (x :: r) (long (x :: r)) w o = pick (i + 1) r (long r) w o := by
            rw [show long (x :: r) = (bst (above x) r + 1) :: long r from rfl]
            simp only [pick]
            rw [if_neg (fun h => ho h.2.2)]
          obtain ⟨v', q2, q3⟩ := skip e
          refine ⟨v', F11_2 _ _ _ _ _ _ _ ?_, q3⟩
          rw [ln (st := []) hX.rd, if_pos (by simp; omega), if_pos (by simp; omega), rd (hLM st hg) (long_at hi), if_pos (by simp; omega), ln hR]
          rcases hl with ⟨rfl, rfl⟩ | ⟨q, z, hne, hq, hz, rfl⟩
          · exact absurd rfl ho
          · have hpos : 0 < acc.length := List.length_pos_iff.2 hne
            have hq2 : (nats acc)[acc.length - 1]? = some (q : Int) := by simp [nats, hq]
            have e3 : IntKind.i64.wrap (((nats acc).length : Int) - 1) = ((acc.length - 1 : Nat) : Int) := by simp only [List.length_map]; rw [i64_in _ (by omega)]; omega
            rw [if_neg (by simpa using hne), rd hX.rd gx, ln hR, e3, rd hR hq2, rd hX.rd hz, if_neg (by simpa [fits] using ho), e1]
            exact q2
      · have e : pick i (x :: r) (long (x :: r)) w o = pick (i + 1) r (long r) w o := by
          rw [show long (x :: r) = (bst (above x) r + 1) :: long r from rfl]
          simp only [pick]
          rw [if_neg (fun h => hk h.1)]
        obtain ⟨v', q2, q3⟩ := skip e
        refine ⟨v', F11_2 _ _ _ _ _ _ _ ?_, q3⟩
        rw [ln (st := []) hX.rd, if_pos (by simp; omega), if_pos (by simp; omega), rd (hLM st hg) (long_at hi), if_neg (by simp; omega), e1]
        exact q2

theorem rlongest_run (st : St) (hcl : Cl st) {a : AV} {xs : List Int} (hX : Sl 1 a (ints xs)) (hxl : xs.length < 1000000000000) :
    ∃ v, cw 11 [a] st = some (.ret v, st) ∧ Sl 1 v (ints (nats (longest xs))) := by
  have hmk : makeSl (AObj.free 0 :: st) none 8 1 [AV.int IntKind.i64 0] (.int .i64 (xs.length : Int)) (.int .i64 (xs.length : Int)) =
      some (.ms (st.length + 1) 0 0 xs.length xs.length, .rows 1 0 (ints (List.replicate xs.length 0)) :: AObj.free 0 :: st) := by
    unfold makeSl
    simp only
    rw [if_pos ⟨by omega, Int.le_refl _, by simp [roomA]; omega, by simp [roomA]; omega⟩]
    simp [ints, int1]
  have e1 : IntKind.i64.wrap ((xs.length : Int) - 1) = (xs.length : Int) - 1 := i64_in _ (by omega)
  have hm : lis (xs.drop xs.length) = 0 := by simp [bst, best, long]
  obtain ⟨s, s1, s2, s3, s4⟩ := rlen_loop (st0 := st) hX hxl xs.length (Nat.le_refl _) (.rows 1 0 (ints (List.replicate xs.length 0)) :: AObj.free 0 :: st) (St.trunc_cons2 _ _ _) (by rw [St.get_under (by simp), St.get_top]) (by rw [St.get_cons, if_pos (by simp)]; simp [long])
  obtain ⟨v, h1, h2⟩ := rpick_loop hcl hX hxl xs 0 rfl [] (lis xs) none .nils s (Nat.zero_le _) (bst_le_length all xs) (.inl ⟨rfl, rfl⟩) (.inl ⟨rfl, rfl, 0, s2⟩) s1 s3
  refine ⟨v, F11 _ _ ?_, by simpa [longest] using h2⟩
  rw [ln (st := []) hX.rd, hmk]
  simp only [bind2_some]
  rw [ln (st := []) hX.rd, e1]
  have := s4 _ h1
  rwa [hm] at this
end Go.Abs
