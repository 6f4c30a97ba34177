/- The statements' functions of chapter 9 answer true. -/
import Derived.Test.YtahpohhadcflfaaZLisTop
namespace Go.Abs
open Go Go.Proofs Go.Proofs.Ytahpohhadcflfaa.LisMath Go.RowKit Go.IntWalk
set_option linter.unusedVariables false
set_option linter.unusedSimpArgs false

theorem out_bool {st0 st : St} (hcl : Cl st0) (ht : st.trunc st0.length = st0) (hl : st0.length ≤ st.length) (b : Bool) : outL false st0.length (.ret (.bool b)) st = some (.ret (.bool b), st0) := by
  have := outL_plain (n := st0.length) (v := .bool b) (st := st) rfl rfl (by rw [ht]; exact hcl) hl
  rwa [ht] at this
theorem Acc.cl {kd t : Nat} {st : St} {y : AObj} {v : AV} {c : List (List AV)} (h : Acc kd t (st.put t y) v c) (hc : Cl st) : Cl (st.put t y) := by
  have ht : t < (st.put t y).length := by
    rcases h with ⟨_, _, e, h⟩ | ⟨ep, _, h⟩ | ⟨_, e, h⟩ <;> exact St.get_lt h
  have hy : St.get (st.put t y) t = some y := St.get_put_same (by simpa using ht)
  refine hc.put ?_
  rcases h with ⟨_, _, e, h⟩ | ⟨ep, _, h⟩ | ⟨_, e, h⟩ <;> (rw [hy] at h; cases h; rfl)
theorem Acc.clt {kd : Nat} {st : St} {y : AObj} {v : AV} {c : List (List AV)} (h : Acc kd st.length (y :: st) v c) (hc : Cl st) : Cl (y :: st) := by
  have := Acc.cl (st := .free 0 :: st) (t := st.length) (y := y) (by rw [St.put_top]; exact h) hc.free
  rwa [St.put_top] at this
theorem Acc.closed {kd t : Nat} {st : St} {v : AV} {c : List (List AV)} (h : Acc kd t st v c) (hc : AV.closedss st.length c = true) : AV.closed st.length v = true := by
  rcases h with ⟨rfl, _⟩ | ⟨ep, rfl, h⟩ | ⟨rfl, _⟩
  · rfl
  · have := St.get_lt h; simp [AV.closed, hc, this]
  · simp [AV.closed, hc]

theorem spoil_loop {st : St} {v : AV} {o : Nat} : ∀ (d i : Nat) (l : List Int) (s : St), i + d = l.length → l.length < 1000000000000 → s.length = st.length → MuN s 1 v o (ints l) →
    ∃ y, aw 14 st.length p14_0 ⟨[(0, v), (2, .int .i64 (i : Int))], []⟩ s = some (.ret (.tup []), s.put o y) ∧ ((∃ e, y = .free e) ∨ ∃ ep l', y = .rows 1 ep (ints l')) := by
  intro d
  induction d with
  | zero =>
    intro i l s hi hl hs h
    have key : ∃ y, s.get o = some y ∧ ((∃ e, y = .free e) ∨ ∃ ep l', y = .rows 1 ep (ints l')) := by
      rcases h with ⟨_, _, e, h⟩ | ⟨ep, _, h⟩
      · exact ⟨_, h, .inl ⟨e, rfl⟩⟩
      · exact ⟨_, h, .inr ⟨ep, l, rfl⟩⟩
    obtain ⟨y, hy, hy2⟩ := key
    refine ⟨y, F14_0 _ _ _ _ ?_, hy2⟩
    rw [ln h.rd, if_neg (by simp; omega), St.put_same hy, ← hs, outL_same]
  | succ d ih =>
    intro i l s hi hl hs h
    have gl : l[i]? = some (l[i]'(by omega)) := List.getElem?_eq_getElem _
    generalize l[i]'(by omega) = x at *
    have hM : Mu s 1 v o (ints l) := by
      rcases h with ⟨_, h, _⟩ | h
      · have := ints_get gl; rw [h] at this; simp at this
      · exact h
    have e1 : IntKind.i64.wrap ((i : Int) + 1) = ((i + 1 : Nat) : Int) := by rw [i64_in _ (by omega)]; rfl
    obtain ⟨y, w1, w2, ep, w3⟩ := wr hM (d := IntKind.i64.wrap (-9 - x)) gl (fun s => aw 14 st.length p14_0 ⟨[(0, v), (2, .int .i64 (IntKind.i64.wrap ((i : Int) + 1)))], []⟩ s)
    obtain ⟨y2, q1, q2⟩ := ih (i + 1) (l.set i (IntKind.i64.wrap (-9 - x))) (s.put o y) (by simp; omega) (by simpa using hl) (by simpa using hs) (.inr w2)
    refine ⟨y2, F14_0 _ _ _ _ ?_, q2⟩
    rw [ln hM.rd, if_pos (by simp; omega), rd hM.rd gl, w1, e1, q1, St.put_put]
theorem spoil_run {st : St} {v : AV} {o : Nat} {l : List Int} (hl : l.length < 1000000000000) (h : MuN st 1 v o (ints l)) (hc : Cl st) : ∃ y, cw 14 [v] st = some (.ret (.tup []), st.put o y) ∧ Cl (st.put o y) := by
  obtain ⟨y, h1, h2⟩ := spoil_loop (st := st) l.length 0 l st (by omega) hl rfl h
  refine ⟨y, F14 _ _ h1, hc.put ?_⟩
  rcases h2 with ⟨e, rfl⟩ | ⟨ep, l', rfl⟩
  · rfl
  · exact closed_ints _ _
theorem spoil_run2 {st : St} {v : AV} {o : Nat} {l : List Int} (hl : l.length < 1000000000000) (h : MuN st 1 v o (ints l)) : ∃ y, cw 14 [v] st = some (.ret (.tup []), st.put o y) ∧ ∀ n, AObj.closed n y = true := by
  obtain ⟨y, h1, h2⟩ := spoil_loop (st := st) l.length 0 l st (by omega) hl rfl h
  refine ⟨y, F14 _ _ h1, fun n => ?_⟩
  rcases h2 with ⟨e, rfl⟩ | ⟨ep, l', rfl⟩
  · rfl
  · exact closed_ints _ _
end Go.Abs
