/- What the functions of chapter 2 come to, by value. -/
import Derived.Test.YtcphoefiiejlhaaZEqA
import Derived.Test.YtcphoefiiejlhaaZC
import Derived.Test.YtcphoefiiejlhaaZLebMath
import Derived.IntWalk
namespace Go.Abs
open Go Go.Proofs Go.Proofs.Ytcphoefiiejlhaa.LebMath Go.RowKit Go.IntWalk
set_option linter.unusedVariables false
set_option linter.unusedSimpArgs false

def byt (c : Int) : List AV := [.int .u8 c]
abbrev Bs (a : AV) (l : List Int) : Prop := Sl 0 a (l.map byt)
def okB (l : List Int) : Prop := ∀ c ∈ l, 0 ≤ c ∧ c < 256
theorem closed_byt (n : Nat) (l : List Int) : AV.closedss n (l.map byt) = true := by
  induction l with
  | nil => rfl
  | cons c l ih => simp [AV.closedss, AV.closeds, AV.closed, byt, ih]

theorem rows1 (st : St) (c : Int) (tok : Tok) : rowsOf st 0 (.sl 0 [[.int .u8 c]] 0 1 tok) = some ([c].map byt) := rfl

theorem Acc.byte {t : Nat} {st : St} {v : AV} {l : List Int} (h : Acc 0 t st v (l.map byt)) (hl : l.length < 10000000) (c : Int) (tok : Tok) :
    ∃ v' y, appendL st (some (t, false)) 1 0 v (.sl 0 [[.int .u8 c]] 0 1 tok) = some (v', st.put t y) ∧ Acc 0 t (st.put t y) v' ((l ++ [c]).map byt) := by
  obtain ⟨v1, y, h1, h2⟩ := h.app (bytes := 1) (rows1 st c tok) (by simp [roomA]; omega) (by simp [roomA]; omega)
  exact ⟨v1, y, h1, by rw [List.map_append]; exact h2⟩

theorem put_end {x : Nat} (hb : x < 128) {l : List Int} {v : AV} {st : St} {base : Nat} (hacc : Acc 0 base st v (l.map byt)) (hl : l.length < 2000000) (hs : St.closed base (st.trunc base) = true) :
    ∃ v', aw 27 base p27_0 ⟨[(0, AV.int IntKind.u64 x), (3, v)], []⟩ st = some (.ret v', st.trunc base) ∧ Bs v' (l ++ enc x) ∧ AV.closed base v' = true := by
  obtain ⟨v1, y, h1, h2⟩ := hacc.byte (by omega) x .exact
  obtain ⟨v2, h3, h4, h5⟩ := h2.out (n := base) (Nat.le_refl _) (closed_byt _ _) (by rw [St.trunc_put (Nat.le_refl _)]; exact hs)
  refine ⟨v2, F27_0 _ _ _ _ ?_, by rw [enc_small hb]; exact h4, h5⟩
  have e : IntKind.u8.wrap (x : Int) = x := by rw [IntKind.wrap_u8]; omega
  simp only [e, Nat.add_zero]
  rw [if_neg (by simp; omega), h1]
  rw [St.trunc_put (Nat.le_refl _)] at h3
  simp only [bind2_some, h2.sl.frz, h3]

theorem put_loop (n : Nat) : ∀ (x : Nat) (l : List Int) (v : AV) (st : St) (base : Nat), x ≤ n → x < 18446744073709551616 → Acc 0 base st v (l.map byt) → l.length + (enc x).length ≤ 2000000 → St.closed base (st.trunc base) = true →
    ∃ v', aw 27 base p27_0 ⟨[(0, AV.int IntKind.u64 x), (3, v)], []⟩ st = some (.ret v', st.trunc base) ∧ Bs v' (l ++ enc x) ∧ AV.closed base v' = true := by
  induction n with
  | zero =>
    intro x l v st base hx hx2 hacc hl hs
    have := enc_len_pos x
    exact put_end (by omega) hacc (by omega) hs
  | succ n ih =>
    intro x l v st base hx hx2 hacc hl hs
    by_cases hb : x < 128
    · have := enc_len_pos x
      exact put_end hb hacc (by omega) hs
    · have e : bits BinOp.or IntKind.u8 (IntKind.u8.wrap (x : Int)) 128 = ((x % 128 + 128 : Nat) : Int) := by
        rw [IntKind.wrap_u8, u8_or_128 _ (by omega) (by omega)]; omega
      obtain ⟨v1, y, h1, h2⟩ := hacc.byte (by omega) ((x % 128 + 128 : Nat) : Int) .exact
      have hen := enc_big hb
      obtain ⟨v2, h3, h4, h5⟩ := ih (x / 128) (l ++ [((x % 128 + 128 : Nat) : Int)]) v1 (st.put base y) base (by omega) (by omega) h2 (by rw [hen] at hl; simp at hl ⊢; omega) (by rw [St.trunc_put (Nat.le_refl _)]; exact hs)
      refine ⟨v2, F27_0 _ _ _ _ ?_, by rw [hen]; simpa using h4, h5⟩
      simp only [e, Nat.add_zero]
      rw [if_pos (by simp; omega), h1]
      have e2 : Int.fdiv (x : Int) 128 = ((x / 128 : Nat) : Int) := by rw [Int.fdiv_eq_ediv_of_nonneg _ (by omega)]; omega
      rw [St.trunc_put (Nat.le_refl _)] at h3
      simp only [bind2_some, e2, h3]

theorem put_ok (st : St) (hs : Cl st) (x : Nat) (hx : x < 18446744073709551616) : ∃ v, cw 27 [.int .u64 x] st = some (.ret v, st) ∧ Bs v (enc x) ∧ AV.closed st.length v = true := by
  obtain ⟨v, h1, h2, h3⟩ := put_loop x x [] .nils (.free 0 :: st) st.length (Nat.le_refl _) hx (.inl ⟨rfl, rfl, 0, by simp⟩) (by have := enc_len10 hx; simp; omega) (by rw [St.trunc_cons]; exact hs)
  exact ⟨v, F27 _ _ (by rw [h1]; simp), by simpa using h2, h3⟩

/-! ### The reference's Put: the same -/
theorem rput_end {x : Nat} (hb : x < 128) {l : List Int} {v : AV} {st : St} {base : Nat} (hacc : Acc 0 base st v (l.map byt)) (hl : l.length < 2000000) (hs : St.closed base (st.trunc base) = true) :
    ∃ v', aw 30 base p30_0 ⟨[(0, AV.int IntKind.u64 x), (3, v)], []⟩ st = some (.ret v', st.trunc base) ∧ Bs v' (l ++ enc x) ∧ AV.closed base v' = true := by
  obtain ⟨v1, y, h1, h2⟩ := hacc.byte (by omega) x .exact
  obtain ⟨v2, h3, h4, h5⟩ := h2.out (n := base) (Nat.le_refl _) (closed_byt _ _) (by rw [St.trunc_put (Nat.le_refl _)]; exact hs)
  refine ⟨v2, F30_0 _ _ _ _ ?_, by rw [enc_small hb]; exact h4, h5⟩
  have e : IntKind.u8.wrap (x : Int) = x := by rw [IntKind.wrap_u8]; omega
  simp only [e, Nat.add_zero]
  rw [if_neg (by simp; omega), h1]
  rw [St.trunc_put (Nat.le_refl _)] at h3
  simp only [bind2_some, h2.sl.frz, h3]
theorem rput_loop (n : Nat) : ∀ (x : Nat) (l : List Int) (v : AV) (st : St) (base : Nat), x ≤ n → x < 18446744073709551616 → Acc 0 base st v (l.map byt) → l.length + (enc x).length ≤ 2000000 → St.closed base (st.trunc base) = true →
    ∃ v', aw 30 base p30_0 ⟨[(0, AV.int IntKind.u64 x), (3, v)], []⟩ st = some (.ret v', st.trunc base) ∧ Bs v' (l ++ enc x) ∧ AV.closed base v' = true := by
  induction n with
  | zero =>
    intro x l v st base hx hx2 hacc hl hs
    have := enc_len_pos x
    exact rput_end (by omega) hacc (by omega) hs
  | succ n ih =>
    intro x l v st base hx hx2 hacc hl hs
    by_cases hb : x < 128
    · have := enc_len_pos x
      exact rput_end hb hacc (by omega) hs
    · have e : IntKind.u8.wrap (IntKind.u64.wrap (128 + (x : Int).tmod 128)) = ((x % 128 + 128 : Nat) : Int) := by
        rw [IntKind.wrap_u8, IntKind.wrap_u64, Int.tmod_eq_emod_of_nonneg (by omega)]; omega
      obtain ⟨v1, y, h1, h2⟩ := hacc.byte (by omega) ((x % 128 + 128 : Nat) : Int) .exact
      have hen := enc_big hb
      obtain ⟨v2, h3, h4, h5⟩ := ih (x / 128) (l ++ [((x % 128 + 128 : Nat) : Int)]) v1 (st.put base y) base (by omega) (by omega) h2 (by rw [hen] at hl; simp at hl ⊢; omega) (by rw [St.trunc_put (Nat.le_refl _)]; exact hs)
      refine ⟨v2, F30_0 _ _ _ _ ?_, by rw [hen]; simpa using h4, h5⟩
      simp only [e, Nat.add_zero]
      rw [if_pos (by simp; omega), h1]
      have e2 : IntKind.u64.wrap ((x : Int).tdiv 128) = ((x / 128 : Nat) : Int) := by rw [IntKind.wrap_u64, Int.tdiv_eq_ediv_of_nonneg (by omega)]; omega
      rw [St.trunc_put (Nat.le_refl _)] at h3
      simp only [bind2_some, e2, h3]
theorem rput_ok (st : St) (hs : Cl st) (x : Nat) (hx : x < 18446744073709551616) : ∃ v, cw 30 [.int .u64 x] st = some (.ret v, st) ∧ Bs v (enc x) ∧ AV.closed st.length v = true := by
  obtain ⟨v, h1, h2, h3⟩ := rput_loop x x [] .nils (.free 0 :: st) st.length (Nat.le_refl _) hx (.inl ⟨rfl, rfl, 0, by simp⟩) (by have := enc_len10 hx; simp; omega) (by rw [St.trunc_cons]; exact hs)
  exact ⟨v, F30 _ _ (by rw [h1]; simp), by simpa using h2, h3⟩

/-! ### Whole numbers -/
def i64 (n : Int) : Prop := -9223372036854775808 ≤ n ∧ n ≤ 9223372036854775807
theorem putInt_ok (st : St) (hs : Cl st) (y : Int) (hy : i64 y) : ∃ v, cw 28 [.int .i64 y] st = some (.ret v, st) ∧ Bs v (enc (zz y)) ∧ AV.closed st.length v = true := by
  obtain ⟨v, h1, h2, h3⟩ := put_ok st hs (zz y) (zz_lt hy.1 hy.2)
  refine ⟨v, F28 _ _ ?_, h2, h3⟩
  have e : bits BinOp.xor IntKind.u64 (IntKind.u64.wrap (IntKind.u64.wrap y * 2)) (IntKind.u64.wrap (y.fdiv 9223372036854775808)) = (zz y : Int) := by
    rw [Int.fdiv_eq_ediv_of_nonneg _ (by omega)]; exact put_arg hy.1 hy.2
  simp only [e, h1, callB_ret, h2.frz, bind2_some, outL_same]
theorem zz_pos {y : Int} (h : 0 ≤ y) : (zz y : Int) = 2 * y := by unfold zz; rw [if_pos h]; omega
theorem zz_neg {y : Int} (h : y < 0) : (zz y : Int) = 2 * (-(y + 1)) + 1 := by unfold zz; rw [if_neg (by omega)]; omega
theorem neg_arg {y : Int} (hy : i64 y) (h : y < 0) : IntKind.u64.wrap (IntKind.u64.wrap (2 * IntKind.u64.wrap (IntKind.i64.wrap (0 - IntKind.i64.wrap (y + 1)))) + 1) = (zz y : Int) := by
  obtain ⟨h1, h2⟩ := hy
  rw [zz_neg h, i64_in (y + 1) (by omega), i64_in _ (by omega)]
  simp only [IntKind.wrap_u64]; omega
theorem pos_arg {y : Int} (hy : i64 y) (h : 0 ≤ y) : IntKind.u64.wrap (2 * IntKind.u64.wrap y) = (zz y : Int) := by
  obtain ⟨h1, h2⟩ := hy
  rw [zz_pos h]
  simp only [IntKind.wrap_u64]; omega
theorem rputInt_ok (st : St) (hs : Cl st) (y : Int) (hy : i64 y) : ∃ v, cw 31 [.int .i64 y] st = some (.ret v, st) ∧ Bs v (enc (zz y)) ∧ AV.closed st.length v = true := by
  obtain ⟨v, h1, h2, h3⟩ := rput_ok st hs (zz y) (zz_lt hy.1 hy.2)
  refine ⟨v, F31 _ _ ?_, h2, h3⟩
  by_cases h : y < 0
  · rw [if_pos (by simpa using h)]
    simp only [neg_arg hy h, h1, callB_ret, h2.frz, bind2_some, outL_same]
  · rw [if_neg (by simpa using h)]
    simp only [pos_arg hy (by omega), h1, callB_ret, h2.frz, bind2_some, outL_same]

/-! ### Bytes side by side -/
theorem bytesOf (l : List Int) : bytesOfRows (l.map byt) = some (l.map fun c => UInt8.ofNat c.toNat) := by
  induction l with
  | nil => rfl
  | cons c l ih => simp [bytesOfRows, byt] at ih ⊢; exact ih
theorem strOf_bs {a : AV} {l : List Int} (h : Bs a l) (st : St) : strOf st a = some (.str (l.map fun c => UInt8.ofNat c.toNat)) := by
  have h1 := h.rows (st := st)
  unfold strOf
  rcases h with ⟨rfl, _⟩ | ⟨rows, off, tok, rfl, _⟩ <;> (simp only [h1, Option.bind_some, bytesOf, Option.map_some])
theorem same_ok (st : St) {a b : AV} {l m : List Int} (ha : Bs a l) (hb : Bs b m) : cw 29 [a, b] st = some (.ret (.bool ((l.map fun c => UInt8.ofNat c.toNat) == (m.map fun c => UInt8.ofNat c.toNat))), st) :=
  F29 _ _ _ (by simp only [strOf_bs ha, strOf_bs hb, Option.bind_some, strV_str, strA, boolV_bool, outL_same])
theorem same_refl (st : St) {a b : AV} {l : List Int} (ha : Bs a l) (hb : Bs b l) : cw 29 [a, b] st = some (.ret (.bool true), st) := by
  rw [same_ok st ha hb]; simp
theorem num_ok (st : St) (n : Int) : cw 35 [.int .i64 n] st = some (.ret (.int .i64 n), st) := F35 _ _ (by simp)
theorem copy_ok (st : St) {a : AV} {l : List Int} (h : Bs a l) (hl : l.length < 2000000) : ∃ v y, cw 41 [a] st = some (.ret v, y :: st) ∧ Acc 0 st.length (y :: st) v (l.map byt) := by
  obtain ⟨v, y, h1, h2⟩ := Acc.app (kd := 0) (t := st.length) (st := .free 0 :: st) (v := .sl 0 [] 0 0 .exact) (c := []) (bytes := 1) (x := a) (new := l.map byt) (.inr (.inr ⟨rfl, 0, by simp⟩)) h.rows (by simp [roomA]; omega) (by simp [roomA]; omega)
  have hp : St.put (.free 0 :: st) st.length y = y :: st := by unfold St.put; simp
  rw [hp] at h1 h2
  exact ⟨v, y, F41 _ _ (by simp only [Nat.add_zero, h1, bind2_some, Acc.sl h2 |>.frz, outL_true]), by simpa using h2⟩
theorem copy_out (st : St) {a : AV} {l : List Int} (h : Bs a l) (hl : l.length < 2000000) : ∃ v y, cw 41 [a] st = some (.ret v, y :: st) ∧ Bs v l := by
  obtain ⟨v, y, h1, h2⟩ := copy_ok st h hl
  exact ⟨v, y, h1, h2.sl⟩

/-- The bytes, two more behind them. -/
def Lent (v : AV) (l : List Int) : Prop := ∃ tok, v = .sl 0 ((l ++ [173, 77]).map byt) 0 l.length tok
theorem Lent.bs {v : AV} {l : List Int} (h : Lent v l) : Bs v l := by
  obtain ⟨tok, rfl⟩ := h
  refine .inr ⟨(l ++ [173, 77]).map byt, 0, tok, by simp, by simp, by simp⟩
theorem lend_ok (st : St) (hs : Cl st) {a : AV} {l : List Int} (h : Bs a l) (hl : l.length < 2000000) : ∃ v, cw 37 [a] st = some (.ret v, st) ∧ Lent v l := by
  obtain ⟨v, y, h1, h2⟩ := copy_ok (.free 0 :: st) h hl
  have hf : St.get (y :: .free 0 :: st) st.length = some (.free 0) := by rw [St.get_under (by simp)]; simp
  obtain ⟨v1, t1, y1, h3, h4, h5⟩ := h2.app2 (n := st.length) (t' := st.length) (x := .sl 0 [[.int .u8 173], [.int .u8 77]] 0 2 .exact) (new := [173, 77].map byt) (bytes := 1) (by simp) (Nat.le_refl _) hf rfl (by simp [roomA]; omega) (by simp [roomA]; omega)
  rw [← List.map_append] at h5
  have hlen : ((l ++ [173, 77]).map byt).length = l.length + 2 := by simp
  -- what is cut off its end
  have key : ∃ tok tok', v1 = .sl 0 ((l ++ [173, 77]).map byt) 0 (l.length + 2) tok ∧ AV.stripR st.length (.sl 0 ((l ++ [173, 77]).map byt) 0 l.length tok) = .sl 0 ((l ++ [173, 77]).map byt) 0 l.length tok' ∧ (tok' = .no ∨ tok' = .exact) := by
    rcases h5 with ⟨_, h6, _⟩ | ⟨ep, rfl, _⟩ | ⟨rfl, e, he⟩
    · simp at h6
    · exact ⟨_, .no, by rw [hlen], by simp only [AV.stripR, AV.stripN]; rw [if_neg (by omega)], .inl rfl⟩
    · exact ⟨_, .exact, by rw [hlen], rfl, .inr rfl⟩
  obtain ⟨tok, tok', rfl, k2, k3⟩ := key
  refine ⟨.sl 0 ((l ++ [173, 77]).map byt) 0 l.length tok', F37 _ _ ?_, tok', rfl⟩
  simp only [h1, callB_ret, Nat.add_zero]
  rw [h3]
  have hcut : ∀ s, sliceSl s 0 (.sl 0 ((l ++ [173, 77]).map byt) 0 (l.length + 2) tok) none (some (.int .i64 (l.map byt).length)) none = some (.sl 0 ((l ++ [173, 77]).map byt) 0 l.length tok) := fun s => by
    simp [sliceSl, optA]
  simp only [bind2_some, h.len, Option.bind_some, intV_int, hcut, freezeA]
  have hne : ((St.put (y :: .free 0 :: st) t1 y1).length == st.length) = false := by simp only [St.length_put, List.length_cons, beq_eq_false_iff_ne]; omega
  have hcl : AV.closed st.length (.sl 0 ((l ++ [173, 77]).map byt) 0 l.length tok') = true := by
    have := closed_byt st.length (l ++ [173, 77])
    rcases k3 with rfl | rfl <;> simpa [AV.closed] using this
  have htr : (St.put (y :: .free 0 :: st) t1 y1).trunc st.length = st := by rw [St.trunc_put h4]; simp
  unfold outL
  simp only [hne, Bool.or_self, Bool.false_eq_true, if_false, k2, htr, hcl, Bool.true_and]
  rw [if_pos (show St.closed st.length st = true from hs)]

theorem kept_ok (st : St) {v a : AV} {l : List Int} (hv : Lent v l) (ha : Bs a l) (hl : l.length < 2000000) : cw 40 [v, a] st = some (.ret (.bool true), st) := by
  have hb := hv.bs
  obtain ⟨tok, rfl⟩ := hv
  refine F40 _ _ _ ?_
  have e1 : IntKind.i64.wrap ((l.length : Int) + 2) = ((l.length + 2 : Nat) : Int) := by rw [i64_in _ (by omega)]; rfl
  have e3 : IntKind.i64.wrap ((l.length : Int) + 1) = ((l.length + 1 : Nat) : Int) := by rw [i64_in _ (by omega)]; rfl
  have hcut : sliceSl st 0 (.sl 0 ((l ++ [173, 77]).map byt) 0 l.length tok) none (some (.int .i64 ((l.length + 2 : Nat) : Int))) none = some (.sl 0 ((l ++ [173, 77]).map byt) 0 (l.length + 2) tok) := by
    unfold sliceSl
    simp only [optA, natA_nat, Option.bind_some]
    rw [if_pos ⟨trivial, Nat.zero_le _⟩, if_pos (by simp)]
    simp
  have i1 : idxSl st 0 (.sl 0 ((l ++ [173, 77]).map byt) 0 (l.length + 2) tok) l.length = some (.ip [.int .u8 173] 0) := by
    simp [idxSl, byt]
  have i2 : idxSl st 0 (.sl 0 ((l ++ [173, 77]).map byt) 0 (l.length + 2) tok) (l.length + 1) = some (.ip [.int .u8 77] 0) := by
    simp [idxSl, byt]
  have hla : lenSl a = some (.int .i64 l.length) := by rw [ha.len]; simp
  have hlv : lenSl (.sl 0 ((l ++ [173, 77]).map byt) 0 l.length tok) = some (.int .i64 l.length) := rfl
  simp only [hlv, hla, Option.bind_some, intV_int, e1, e3, hcut, same_refl st hb ha, callB_ret, boolV_bool, natA_nat, i1, i2, readA_ip1, outL_same, beq_self_eq_true, if_true]

/-! ### Reading -/
def res (at' : Int) (r : Int × Int × Int) : AV := .tup [.int .u64 r.1, .int .i64 (if r.2.2 = 0 then at' + r.2.1 else 0), .int .i64 r.2.2]

theorem shift_ok {i : Nat} (hi : i ≤ 9) (n : Int) : (if IntKind.u64.wrap (IntKind.i64.wrap (7 * (i : Int))) < 0 then none
      else some (AV.int IntKind.u64 (IntKind.u64.wrap (n * 2 ^ min (IntKind.u64.wrap (IntKind.i64.wrap (7 * (i : Int)))).toNat 64)))) = some (.int .u64 (IntKind.u64.wrap (n * ((2 ^ (7 * i) : Nat) : Int)))) := by
  have e : IntKind.u64.wrap (IntKind.i64.wrap (7 * (i : Int))) = ((7 * i : Nat) : Int) := by
    rw [i64_in _ (by omega), IntKind.wrap_u64]; omega
  rw [e, if_neg (by omega)]
  have e2 : min ((7 * i : Nat) : Int).toNat 64 = 7 * i := by omega
  rw [e2]
  norm_cast

theorem join_ok {i acc : Nat} {c : Int} (hi : i ≤ 9) (hacc : acc < 128 ^ i) (h0 : 0 ≤ c) (h1 : c < 256) (h9 : i = 9 → c ≤ 1) :
    bits BinOp.or IntKind.u64 (acc : Int) (IntKind.u64.wrap (IntKind.u64.wrap (bits BinOp.and IntKind.u8 c 127) * ((2 ^ (7 * i) : Nat) : Int))) = ((acc + (c.toNat % 128) * 128 ^ i : Nat) : Int) ∧ acc + (c.toNat % 128) * 128 ^ i < 128 ^ (i + 1) := by
  obtain ⟨n, rfl⟩ := Int.eq_ofNat_of_zero_le h0
  have hm : n % 128 < 128 := Nat.mod_lt _ (by decide)
  have hp : 128 ^ i = 2 ^ (7 * i) := pow128 i
  have hlt : acc + (n % 128) * 128 ^ i < 128 ^ (i + 1) := by
    have : (n % 128 + 1) * 128 ^ i ≤ 128 * 128 ^ i := Nat.mul_le_mul_right _ (by omega)
    rw [Nat.add_mul, Nat.one_mul] at this
    rw [Nat.pow_succ, Nat.mul_comm (128 ^ i)]; omega
  have h64 : acc + (n % 128) * 128 ^ i < 18446744073709551616 := by
    by_cases h : i = 9
    · subst h
      have := h9 rfl
      have hn : n % 128 ≤ 1 := by omega
      have h2 : (n % 128) * 128 ^ 9 ≤ 1 * 128 ^ 9 := Nat.mul_le_mul_right _ hn
      have h3 : (128 : Nat) ^ 9 = 9223372036854775808 := by decide
      omega
    · have h2 : 128 ^ (i + 1) ≤ 128 ^ 9 := Nat.pow_le_pow_right (by decide) (by omega)
      have h3 : (128 : Nat) ^ 9 = 9223372036854775808 := by decide
      omega
  refine ⟨?_, by simpa using hlt⟩
  rw [u8_and127 _ (by omega) (by omega)]
  have e1 : IntKind.u64.wrap ((n : Int) % 128) = ((n % 128 : Nat) : Int) := by rw [IntKind.wrap_u64]; omega
  rw [e1]
  have e2 : IntKind.u64.wrap (((n % 128 : Nat) : Int) * ((2 ^ (7 * i) : Nat) : Int)) = (((n % 128) * 2 ^ (7 * i) : Nat) : Int) := by
    rw [IntKind.wrap_u64]
    rw [hp] at h64
    have : (((n % 128 : Nat) : Int) * ((2 ^ (7 * i) : Nat) : Int)) = (((n % 128) * 2 ^ (7 * i) : Nat) : Int) := (Int.natCast_mul _ _).symm
    rw [this]; omega
  have h64' : acc + (n % 128) * 2 ^ (7 * i) < 18446744073709551616 := by rw [hp] at h64; exact h64
  have hacc' : acc < 2 ^ (7 * i) := by rw [hp] at hacc; exact hacc
  rw [e2, or_join hacc' h64', hp]
  rfl

theorem at_byt {b : List Int} {i : Nat} {c : Int} (h : b[i]? = some c) : (b.map byt)[i]? = some [.int .u8 c] := by rw [List.getElem?_map, h]; rfl
theorem drop_cons {b : List Int} {i : Nat} (h : i < b.length) : ∃ c, b[i]? = some c ∧ b.drop i = c :: b.drop (i + 1) := ⟨b[i], List.getElem?_eq_getElem h, List.drop_eq_getElem_cons h⟩

theorem take_loop (st : St) {b : List Int} (hb : okB b) (hbl : b.length < 2000000) {v : AV} (hv : Bs v b) {at' : Int} (h0 : 0 ≤ at') (h1 : at' < 2000000) : ∀ (d i acc : Nat), i + d = 9 → acc < 128 ^ i →
    aw 33 st.length p33_0 ⟨[(1, .int .i64 at'), (7, .int .u64 acc), (20, v), (21, .int .i64 b.length), (22, .int .i64 i)], []⟩ st = some (.ret (res at' (tk (b.drop i) i acc)), st) := by
  intro d
  induction d with
  | zero =>
    intro i acc hi hacc
    have : i = 9 := by omega
    subst this
    refine F33_0 _ _ _ _ _ _ _ ?_
    by_cases hlt : 9 < b.length
    · obtain ⟨c, hc, hd⟩ := drop_cons hlt
      obtain ⟨c0, c1⟩ := hb c (List.mem_of_getElem? hc)
      rw [if_pos (by rw [decide_eq_true_eq]; omega)]
      simp only [natA_nat, Option.bind_some, hv.at (at_byt hc), readA_ip1, intV_int, hd, tk]
      rw [if_pos (by decide)]
      by_cases h9 : c > 1
      · rw [if_pos (by simpa using h9), if_pos (.inl ⟨trivial, h9⟩)]
        simp [res]
      · rw [if_neg (by simpa using h9)]
        by_cases hz : c = 0
        · subst hz
          rw [if_pos (by decide), if_pos (by decide), if_pos (.inr ⟨rfl, by decide⟩)]
          simp [res]
        · have h2 := shift_ok (i := 9) (by omega) (IntKind.u64.wrap (bits BinOp.and IntKind.u8 c 127))
          obtain ⟨h3, _⟩ := join_ok (i := 9) (c := c) (by omega) hacc c0 c1 (fun _ => by omega)
          rw [if_neg (by simpa using hz), h2]
          simp only [Option.bind_some, intV_int, h3]
          rw [if_pos (by simp; omega), if_neg (by omega), if_pos (by omega)]
          have e1 : IntKind.i64.wrap (IntKind.i64.wrap (at' + ((9 : Nat) : Int)) + 1) = at' + ((9 + 1 : Nat) : Int) := by
            rw [i64_in (at' + _) (by omega), i64_in _ (by omega)]; omega
          have e2 : c.toNat % 128 = c.toNat := by omega
          simp only [e1, outL_same, res, if_true, e2]
    · rw [if_neg (by rw [decide_eq_true_eq]; omega)]
      have : b.drop 9 = [] := by simp; omega
      simp [this, tk, res]
  | succ d ih =>
    intro i acc hi hacc
    refine F33_0 _ _ _ _ _ _ _ ?_
    by_cases hlt : i < b.length
    · obtain ⟨c, hc, hd⟩ := drop_cons hlt
      obtain ⟨c0, c1⟩ := hb c (List.mem_of_getElem? hc)
      rw [if_pos (by rw [decide_eq_true_eq]; omega)]
      simp only [natA_nat, Option.bind_some, hv.at (at_byt hc), readA_ip1, intV_int, hd, tk]
      rw [if_neg (by simp; omega)]
      have h2 := shift_ok (i := i) (by omega) (IntKind.u64.wrap (bits BinOp.and IntKind.u8 c 127))
      obtain ⟨h3, h4⟩ := join_ok (i := i) (c := c) (by omega) hacc c0 c1 (fun _ => by omega)
      have e1 : IntKind.i64.wrap (IntKind.i64.wrap (at' + (i : Int)) + 1) = at' + ((i + 1 : Nat) : Int) := by
        rw [i64_in (at' + _) (by omega), i64_in _ (by omega)]; omega
      have e3 : IntKind.i64.wrap ((i : Int) + 1) = ((i + 1 : Nat) : Int) := by rw [i64_in _ (by omega)]; rfl
      have tail : (if decide (c < 128) = true then
              outL false st.length (.ret (.tup [.int .u64 ((acc + (c.toNat % 128) * 128 ^ i : Nat) : Int), .int .i64 (at' + ((i + 1 : Nat) : Int)), .int .i64 0])) st
            else aw 33 st.length p33_0 ⟨[(1, .int .i64 at'), (7, .int .u64 ((acc + (c.toNat % 128) * 128 ^ i : Nat) : Int)), (20, v), (21, .int .i64 b.length), (22, .int .i64 ((i + 1 : Nat) : Int))], []⟩ st) =
          some (.ret (res at' (if c < 128 then (((acc + c.toNat * 128 ^ i : Nat) : Int), ((i + 1 : Nat) : Int), 0) else tk (b.drop (i + 1)) (i + 1) (acc + (c.toNat % 128) * 128 ^ i))), st) := by
        by_cases hs : c < 128
        · have e2 : c.toNat % 128 = c.toNat := by omega
          rw [if_pos (by simpa using hs), if_pos hs]
          simp only [outL_same, res, if_true, e2]
        · rw [if_neg (by simpa using hs), if_neg hs]
          exact ih (i + 1) _ (by omega) h4
      by_cases hz : c = 0
      · subst hz
        rw [if_pos (by decide)]
        by_cases hi0 : i = 0
        · subst hi0
          rw [if_neg (by decide), h2]
          simp only [Option.bind_some, intV_int, h3, e1, e3, tail]
          rw [if_neg (show ¬ ((0 = 9 ∧ (0 : Int) > 1) ∨ (True ∧ 0 > 0)) by omega)]
        · rw [if_pos (by simp; omega), if_pos (.inr ⟨rfl, by omega⟩)]
          simp [res]
      · rw [if_neg (by simpa using hz), h2]
        simp only [Option.bind_some, intV_int, h3, e1, e3, tail]
        rw [if_neg (show ¬ ((i = 9 ∧ c > 1) ∨ (c = 0 ∧ i > 0)) by omega)]
    · rw [if_neg (by rw [decide_eq_true_eq]; omega)]
      have : b.drop i = [] := by simp; omega
      simp [this, tk, res]

/-- What reading from a place comes to. -/
def TK (b : List Int) (at' : Int) : Int × Int × Int := if at' < 0 ∨ at' > b.length then (0, 0, 200) else tk (b.drop at'.toNat) 0 0

theorem take_ok (st : St) {a : AV} {b : List Int} (hb : okB b) (hbl : b.length < 2000000) (ha : Bs a b) (at' : Int) : cw 33 [a, .int .i64 at'] st = some (.ret (res at' (TK b at')), st) := by
  refine F33 _ _ _ ?_
  by_cases h0 : at' < 0
  · rw [if_pos (by simpa using h0)]
    simp [TK, h0, res]
  · rw [if_neg (by simpa using h0)]
    have hla : lenSl a = some (.int .i64 b.length) := by rw [ha.len]; simp
    simp only [hla, Option.bind_some, intV_int]
    by_cases h1 : at' > b.length
    · rw [if_pos (by simpa using h1)]
      simp [TK, h1, res]
    · rw [if_neg (by simpa using h1)]
      obtain ⟨v, hv, hs⟩ := ha.cut (st := st) (lo := some (.int .i64 at')) (hi := none) (l := at'.toNat) (k := (b.map byt).length) (by simp only [optA]; exact natA_of (by omega)) rfl (by simp; omega) (Nat.le_refl _)
      rw [List.take_of_length_le (Nat.le_refl _), ← List.map_drop] at hs
      have hlv : lenSl v = some (.int .i64 (b.drop at'.toNat).length) := by rw [hs.len]; simp
      have := take_loop st (b := b.drop at'.toNat) (fun c hc => hb c (List.mem_of_mem_drop hc)) (by simp; omega) hs (at' := at') (by omega) (by omega) 9 0 0 rfl (by decide)
      simp only [hv, hlv, Option.bind_some, intV_int]
      have hT : TK b at' = tk (b.drop at'.toNat) 0 0 := by unfold TK; rw [if_neg (by omega)]
      rw [hT]
      exact this

/-- The number is one of 64 bits. -/
theorem TK_range {b : List Int} (hb : okB b) (at' : Int) : 0 ≤ (TK b at').1 ∧ (TK b at').1 < 18446744073709551616 := by
  unfold TK
  split
  · simp
  · rcases tk_back (b.drop at'.toNat) 0 0 (by omega) (fun c hc => hb c (List.mem_of_mem_drop hc)) (by decide) with ⟨x, _, h2, _, _, h5⟩ | h | h
    · rw [h5]; simp at h2 ⊢; omega
    · rw [h]; simp
    · rw [h]; simp
theorem TK_err {b : List Int} (hb : okB b) (at' : Int) : (TK b at').2.2 = 0 ∨ (TK b at' = (0, 0, 200)) ∨ TK b at' = (0, 0, 201) := by
  unfold TK
  split
  · exact .inr (.inl rfl)
  · rcases tk_back (b.drop at'.toNat) 0 0 (by omega) (fun c hc => hb c (List.mem_of_mem_drop hc)) (by decide) with ⟨x, _, h2, _, _, h5⟩ | h | h
    · rw [h5]; exact .inl rfl
    · exact .inr (.inl h)
    · exact .inr (.inr h)

def resI (at' : Int) (r : Int × Int × Int) : AV := .tup [.int .i64 (if r.2.2 = 0 then unzz r.1 else 0), .int .i64 (if r.2.2 = 0 then at' + r.2.1 else 0), .int .i64 r.2.2]
theorem takeInt_ok (st : St) {a : AV} {b : List Int} (hb : okB b) (hbl : b.length < 2000000) (ha : Bs a b) (at' : Int) : cw 34 [a, .int .i64 at'] st = some (.ret (resI at' (TK b at')), st) := by
  refine F34 _ _ _ ?_
  rw [take_ok st hb hbl ha at']
  obtain ⟨r1, r2⟩ := TK_range hb at'
  simp only [callB_ret, res, extractA_tup, List.getElem?_cons_zero, List.getElem?_cons_succ, Option.bind_some, intV_int]
  by_cases h : (TK b at').2.2 = 0
  · have e : bits BinOp.xor IntKind.i64 (IntKind.i64.wrap ((TK b at').1.fdiv 2)) (IntKind.i64.wrap (0 - IntKind.i64.wrap (bits BinOp.and IntKind.u64 (TK b at').1 1))) = unzz (TK b at').1 := by
      rw [Int.fdiv_eq_ediv_of_nonneg _ (by omega), Int.zero_sub, i64_left, i64_left, i64_left]
      exact take_arg r1 r2
    simp only [e, h, resI, bne_self_eq_false, Bool.false_eq_true, if_false, outL_same, if_true]
  · have : ((TK b at').2.2 != 0) = true := by simpa using h
    simp only [this, if_true, outL_same, resI, h, if_false]

/-! ### The reference's reading -/
theorem rjoin_ok {i acc : Nat} {c : Int} (hi : i ≤ 9) (hacc : acc < 128 ^ i) (h0 : 0 ≤ c) (h1 : c < 256) (h9 : i = 9 → c ≤ 1) :
    IntKind.u64.wrap ((acc : Int) + IntKind.u64.wrap (((128 ^ i : Nat) : Int) * (IntKind.u64.wrap c).tmod 128)) = ((acc + (c.toNat % 128) * 128 ^ i : Nat) : Int) ∧ acc + (c.toNat % 128) * 128 ^ i < 128 ^ (i + 1) := by
  obtain ⟨n, rfl⟩ := Int.eq_ofNat_of_zero_le h0
  have hm : n % 128 < 128 := Nat.mod_lt _ (by decide)
  have hlt : acc + (n % 128) * 128 ^ i < 128 ^ (i + 1) := by
    have : (n % 128 + 1) * 128 ^ i ≤ 128 * 128 ^ i := Nat.mul_le_mul_right _ (by omega)
    rw [Nat.add_mul, Nat.one_mul] at this
    rw [Nat.pow_succ, Nat.mul_comm (128 ^ i)]; omega
  have h64 : acc + (n % 128) * 128 ^ i < 18446744073709551616 := by
    by_cases h : i = 9
    · subst h
      have := h9 rfl
      have hn : n % 128 ≤ 1 := by omega
      have h2 : (n % 128) * 128 ^ 9 ≤ 1 * 128 ^ 9 := Nat.mul_le_mul_right _ hn
      have h3 : (128 : Nat) ^ 9 = 9223372036854775808 := by decide
      omega
    · have h2 : 128 ^ (i + 1) ≤ 128 ^ 9 := Nat.pow_le_pow_right (by decide) (by omega)
      have h3 : (128 : Nat) ^ 9 = 9223372036854775808 := by decide
      omega
  refine ⟨?_, by simpa using hlt⟩
  have e1 : (IntKind.u64.wrap (n : Int)).tmod 128 = ((n % 128 : Nat) : Int) := by rw [IntKind.wrap_u64, Int.tmod_eq_emod_of_nonneg (by omega)]; omega
  have e2 : (((128 ^ i : Nat) : Int) * ((n % 128 : Nat) : Int)) = (((n % 128) * 128 ^ i : Nat) : Int) := by rw [Nat.mul_comm, Int.natCast_mul]
  rw [e1, e2, IntKind.wrap_u64, IntKind.wrap_u64]
  simp only [Int.toNat_natCast]
  omega

theorem rtake_loop (st : St) {b : List Int} (hb : okB b) (hbl : b.length < 2000000) {v : AV} (hv : Bs v b) {k : Nat} (hk : k ≤ b.length) : ∀ (d i acc : Nat), i + d = 9 → acc < 128 ^ i →
    aw 38 st.length p38_0 ⟨[(0, v), (1, .int .i64 (k : Int)), (7, .int .u64 acc), (8, .int .u64 ((128 ^ i : Nat) : Int)), (9, .int .i64 i)], []⟩ st = some (.ret (res k (tk (b.drop (k + i)) i acc)), st) := by
  intro d
  induction d with
  | zero =>
    intro i acc hi hacc
    have : i = 9 := by omega
    subst this
    refine F38_0 _ _ _ _ _ _ _ ?_
    have hlv : lenSl v = some (.int .i64 b.length) := by rw [hv.len]; simp
    have e0 : IntKind.i64.wrap ((k : Int) + ((9 : Nat) : Int)) = ((k + 9 : Nat) : Int) := by rw [i64_in _ (by omega)]; omega
    simp only [hlv, Option.bind_some, intV_int, e0]
    by_cases hlt : k + 9 < b.length
    · obtain ⟨c, hc, hd⟩ := drop_cons hlt
      obtain ⟨c0, c1⟩ := hb c (List.mem_of_getElem? hc)
      have ew : IntKind.u64.wrap c = c := by rw [IntKind.wrap_u64]; omega
      have e1 : IntKind.i64.wrap (((k + 9 : Nat) : Int) + 1) = (k : Int) + ((9 + 1 : Nat) : Int) := by rw [i64_in _ (by omega)]; omega
      rw [if_neg (by rw [decide_eq_true_eq]; omega)]
      simp only [natA_nat, Option.bind_some, hv.at (at_byt hc), readA_ip1, intV_int, hd, tk, ew, e1]
      rw [if_pos (by decide)]
      by_cases h9 : c > 1
      · rw [if_pos (by simpa using h9), if_pos (.inl ⟨trivial, h9⟩)]
        simp [res]
      · obtain ⟨h3, h4⟩ := rjoin_ok (i := 9) (c := c) (by omega) hacc c0 c1 (fun _ => by omega)
        rw [ew] at h3
        have e2 : c.toNat % 128 = c.toNat := by omega
        rw [if_neg (by simpa using h9), if_pos (by simp; omega), h3, e2]
        by_cases hz : c = 0
        · rw [if_pos (by simpa using hz), if_pos (by decide), if_pos (.inr ⟨hz, by decide⟩)]
          simp [res]
        · rw [if_neg (by simpa using hz), if_neg (by omega), if_pos (by omega)]
          simp [res]
    · rw [if_pos (by rw [decide_eq_true_eq]; omega)]
      have : b.drop (k + 9) = [] := by simp; omega
      simp [this, tk, res]
  | succ d ih =>
    intro i acc hi hacc
    refine F38_0 _ _ _ _ _ _ _ ?_
    have hlv : lenSl v = some (.int .i64 b.length) := by rw [hv.len]; simp
    have e0 : IntKind.i64.wrap ((k : Int) + (i : Int)) = ((k + i : Nat) : Int) := by rw [i64_in _ (by omega)]; omega
    simp only [hlv, Option.bind_some, intV_int, e0]
    by_cases hlt : k + i < b.length
    · obtain ⟨c, hc, hd⟩ := drop_cons hlt
      obtain ⟨c0, c1⟩ := hb c (List.mem_of_getElem? hc)
      have ew : IntKind.u64.wrap c = c := by rw [IntKind.wrap_u64]; omega
      have e1 : IntKind.i64.wrap (((k + i : Nat) : Int) + 1) = (k : Int) + ((i + 1 : Nat) : Int) := by rw [i64_in _ (by omega)]; omega
      have e3 : IntKind.i64.wrap ((i : Int) + 1) = ((i + 1 : Nat) : Int) := by rw [i64_in _ (by omega)]; rfl
      obtain ⟨h3, h4⟩ := rjoin_ok (i := i) (c := c) (by omega) hacc c0 c1 (fun _ => by omega)
      have e5 : IntKind.u64.wrap (((128 ^ i : Nat) : Int) * 128) = ((128 ^ (i + 1) : Nat) : Int) := by
        have h2 : 128 ^ (i + 1) ≤ 128 ^ 9 := Nat.pow_le_pow_right (by decide) (by omega)
        have h5 : (128 : Nat) ^ 9 = 9223372036854775808 := by decide
        rw [IntKind.wrap_u64, Nat.pow_succ, Int.natCast_mul]
        rw [Nat.pow_succ] at h2
        omega
      rw [if_neg (by rw [decide_eq_true_eq]; omega)]
      rw [ew] at h3
      simp only [natA_nat, Option.bind_some, hv.at (at_byt hc), readA_ip1, intV_int, hd, tk, ew, h3, e1, e3, e5]
      rw [if_neg (by simp; omega)]
      by_cases hs : c < 128
      · have e2 : c.toNat % 128 = c.toNat := by omega
        rw [if_pos (by simpa using hs), e2]
        by_cases hz : c = 0
        · rw [if_pos (by simpa using hz)]
          by_cases hi0 : i = 0
          · rw [if_neg (by simp; omega), if_neg (show ¬ ((i = 9 ∧ c > 1) ∨ (c = 0 ∧ i > 0)) by omega), if_pos hs]
            simp [res]
          · rw [if_pos (by simp; omega), if_pos (show ((i = 9 ∧ c > 1) ∨ (c = 0 ∧ i > 0)) by omega)]
            simp [res]
        · rw [if_neg (by simpa using hz), if_neg (show ¬ ((i = 9 ∧ c > 1) ∨ (c = 0 ∧ i > 0)) by omega), if_pos hs]
          simp [res]
      · rw [if_neg (by simpa using hs), if_neg (show ¬ ((i = 9 ∧ c > 1) ∨ (c = 0 ∧ i > 0)) by omega), if_neg hs]
        have := ih (i + 1) _ (by omega) h4
        rw [← Nat.add_assoc] at this
        exact this
    · rw [if_pos (by rw [decide_eq_true_eq]; omega)]
      have : b.drop (k + i) = [] := by simp; omega
      simp [this, tk, res]

theorem rtake_ok (st : St) {a : AV} {b : List Int} (hb : okB b) (hbl : b.length < 2000000) (ha : Bs a b) (at' : Int) : cw 38 [a, .int .i64 at'] st = some (.ret (res at' (TK b at')), st) := by
  refine F38 _ _ _ ?_
  by_cases h0 : at' < 0
  · rw [if_pos (by simpa using h0)]
    simp [TK, h0, res]
  · rw [if_neg (by simpa using h0)]
    have hla : lenSl a = some (.int .i64 b.length) := by rw [ha.len]; simp
    simp only [hla, Option.bind_some, intV_int]
    by_cases h1 : at' > b.length
    · rw [if_pos (by simpa using h1)]
      simp [TK, h1, res]
    · rw [if_neg (by simpa using h1)]
      obtain ⟨k, rfl⟩ := Int.eq_ofNat_of_zero_le (show 0 ≤ at' by omega)
      have := rtake_loop st hb hbl ha (k := k) (by omega) 9 0 0 rfl (by decide)
      have hT : TK b (k : Int) = tk (b.drop k) 0 0 := by unfold TK; rw [if_neg (by omega)]; rfl
      rw [hT]
      exact this
theorem rtakeInt_ok (st : St) {a : AV} {b : List Int} (hb : okB b) (hbl : b.length < 2000000) (ha : Bs a b) (at' : Int) : cw 39 [a, .int .i64 at'] st = some (.ret (resI at' (TK b at')), st) := by
  refine F39 _ _ _ ?_
  rw [rtake_ok st hb hbl ha at']
  obtain ⟨r1, r2⟩ := TK_range hb at'
  simp only [callB_ret, res, extractA_tup, List.getElem?_cons_zero, List.getElem?_cons_succ, Option.bind_some, intV_int]
  by_cases h : (TK b at').2.2 = 0
  · rw [if_neg (by simp [h]), Int.tmod_eq_emod_of_nonneg r1, Int.tdiv_eq_ediv_of_nonneg r1]
    by_cases h2 : (TK b at').1 % 2 = 0
    · rw [if_pos (by simpa using h2)]
      have e : IntKind.i64.wrap (IntKind.u64.wrap ((TK b at').1 / 2)) = unzz (TK b at').1 := by
        unfold unzz; rw [if_pos h2, IntKind.wrap_u64, i64_in _ (by omega)]; omega
      simp only [e, h, resI, outL_same, if_true]
    · rw [if_neg (by simpa using h2)]
      have e : IntKind.i64.wrap (IntKind.i64.wrap (0 - IntKind.i64.wrap (IntKind.u64.wrap ((TK b at').1 / 2))) - 1) = unzz (TK b at').1 := by
        unfold unzz
        rw [if_neg h2, IntKind.wrap_u64, i64_in ((TK b at').1 / 2 % 18446744073709551616) (by omega), i64_in (0 - _) (by omega), i64_in _ (by omega)]; omega
      simp only [e, h, resI, outL_same, if_true]
  · have : ((TK b at').2.2 != 0) = true := by simpa using h
    simp only [this, if_true, outL_same, resI, h, if_false]

/-! ### What every program answers that is one -/
theorem bs_lit (l : List Int) (tok : Tok) : Bs (.sl 0 (l.map byt) 0 l.length tok) l := .inr ⟨l.map byt, 0, tok, by simp, by simp, by simp [List.take_of_length_le]⟩
theorem awake_ok (st : St) (hs : Cl st) : cw 36 [] st = some (.ret (.bool true), st) := by
  refine F36 _ ?_
  have b1 : Bs (AV.sl 0 [[AV.int IntKind.u8 9], [AV.int IntKind.u8 128], [AV.int IntKind.u8 1]] 0 3 Tok.exact) [9, 128, 1] := bs_lit [9, 128, 1] .exact
  have b2 : Bs (AV.sl 0 [[AV.int IntKind.u8 3]] 0 1 Tok.exact) [3] := bs_lit [3] .exact
  have t1 := take_ok st (b := [9, 128, 1]) (by simp [okB]) (by decide) b1 1
  have t2 := takeInt_ok st (b := [3]) (by simp [okB]) (by decide) b2 0
  have k1 : TK [9, 128, 1] 1 = (128, 2, 0) := by decide
  have k2 : TK [3] 0 = (3, 1, 0) := by decide
  obtain ⟨v1, p1, p2, _⟩ := put_ok st hs 127 (by decide)
  obtain ⟨v2, q1, q2, _⟩ := putInt_ok st hs 64 ⟨by decide, by decide⟩
  have e1 : enc 127 = [127] := enc_small (by decide)
  have e2 : enc (zz 64) = [128, 1] := by rw [show zz 64 = 128 by decide, enc_big (by decide), enc_small (by decide)]; rfl
  rw [e1] at p2
  rw [e2] at q2
  have p1' : cw 27 [AV.int IntKind.u64 127] st = some (.ret v1, st) := p1
  simp only [t1, t2, k1, k2, res, resI, callB_ret, extractA_tup, List.getElem?_cons_zero, List.getElem?_cons_succ, Option.bind_some, intV_int, if_true, num_ok, p1', q1, p2.len, q2.len]
  simp [unzz]

/-! ### The laws, run -/
theorem lebTakes_run (st : St) (hs : Cl st) {a : AV} {b : List Int} (hb : okB b) (hbl : b.length < 2000000) (ha : Bs a b) (at' : Int) : cw 5 [a, .int .i64 at'] st = some (.ret (.bool true), st) := by
  refine F5 _ _ _ ?_
  obtain ⟨v, h1, h2⟩ := lend_ok st hs ha hbl
  simp only [h1, callB_ret, take_ok st hb hbl h2.bs, takeInt_ok st hb hbl h2.bs, rtake_ok st hb hbl ha, rtakeInt_ok st hb hbl ha, res, resI, extractA_tup, List.getElem?_cons_zero, List.getElem?_cons_succ, Option.bind_some, intV_int, kept_ok st h2 ha hbl,
    boolV_bool, num_ok, awake_ok st hs, beq_self_eq_true, if_true, outL_same]

theorem lebOrders_run (st : St) (hs : Cl st) {x y : Nat} (hx : x < 18446744073709551616) (hy : y < 18446744073709551616) {z : Int} (hz : i64 z) : cw 7 [.int .u64 x, .int .u64 y, .int .i64 z] st = some (.ret (.bool true), st) := by
  refine F7 _ _ _ _ ?_
  obtain ⟨v1, h1, h2, _⟩ := put_ok st hs x hx
  obtain ⟨v2, h3, h4, _⟩ := put_ok st hs y hy
  obtain ⟨v3, h5, h6, _⟩ := putInt_ok st hs z hz
  obtain ⟨v4, h7, h8, _⟩ := put_ok st hs (zz z) (zz_lt hz.1 hz.2)
  have l1 : lenSl v1 = some (.int .i64 (enc x).length) := by rw [h2.len]; simp
  have l2 : lenSl v2 = some (.int .i64 (enc y).length) := by rw [h4.len]; simp
  have p1 := enc_len_pos x
  have p2 := enc_len_pos y
  have q1 := enc_len10 hx
  have q2 := enc_len10 hy
  have last : ∀ {w : Int}, w = (zz z : Int) → cw 27 [.int .u64 w] st = some (.ret v4, st) := fun hw => by rw [hw]; exact h7
  simp only [awake_ok st hs, callB_ret, boolV_bool, Option.bind_some, h1, h3, l1, l2, intV_int]
  rw [if_neg (by decide)]
  by_cases hxy : x > y
  · have hm := enc_mono y y x (Nat.le_refl _) (by omega)
    rw [if_pos (by rw [decide_eq_true_eq]; omega), if_neg (by rw [decide_eq_true_eq]; omega), if_neg (by rw [decide_eq_true_eq]; omega), if_neg (by rw [decide_eq_true_eq]; omega)]
    by_cases h : z ≥ 0
    · rw [if_pos (by simpa using h)]
      simp only [h5, callB_ret, last (pos_arg hz h), same_refl st h6 h8, boolV_bool, Option.bind_some, outL_same]
    · rw [if_neg (by simpa using h)]
      simp only [h5, callB_ret, last (neg_arg hz (by omega)), same_refl st h6 h8, boolV_bool, Option.bind_some, outL_same]
  · have hm := enc_mono x x y (Nat.le_refl _) (by omega)
    rw [if_neg (by rw [decide_eq_true_eq]; omega), if_neg (by rw [decide_eq_true_eq]; omega), if_neg (by rw [decide_eq_true_eq]; omega), if_neg (by rw [decide_eq_true_eq]; omega)]
    by_cases h : z ≥ 0
    · rw [if_pos (by simpa using h)]
      simp only [h5, callB_ret, last (pos_arg hz h), same_refl st h6 h8, boolV_bool, Option.bind_some, outL_same]
    · rw [if_neg (by simpa using h)]
      simp only [h5, callB_ret, last (neg_arg hz (by omega)), same_refl st h6 h8, boolV_bool, Option.bind_some, outL_same]

theorem copy_cl (st : St) (hs : Cl st) {a : AV} {l : List Int} (h : Bs a l) (hl : l.length < 2000000) : ∃ v y, cw 41 [a] st = some (.ret v, y :: st) ∧ Bs v l ∧ Cl (y :: st) := by
  obtain ⟨v, y, h1, h2⟩ := copy_ok st h hl
  refine ⟨v, y, h1, h2.sl, hs.cons ?_⟩
  rcases h2 with ⟨_, _, e, he⟩ | ⟨ep, _, he⟩ | ⟨_, e, he⟩ <;> (simp at he; subst he; rfl)
theorem Sl.notMs {kd : Nat} {a : AV} {c : List (List AV)} (h : Sl kd a c) : notMs a = true := by
  rcases h with ⟨rfl, _⟩ | ⟨_, _, _, rfl, _⟩ <;> rfl
theorem cut_ok {a : AV} {b : List Int} (ha : Bs a b) (st : St) {lo hi : Option AV} {l k : Nat} (hlo : optA lo 0 = some l) (hhi : optA hi b.length = some k) (h1 : l ≤ k) (h2 : k ≤ b.length) : ∃ a', sliceSl st 0 a lo hi none = some a' ∧ Bs a' ((b.take k).drop l) := by
  obtain ⟨a', h3, h4⟩ := ha.cut (st := st) (lo := lo) (hi := hi) (l := l) (k := k) hlo (by simpa using hhi) h1 (by simpa using h2)
  exact ⟨a', h3, show Sl 0 a' (((b.take k).drop l).map byt) by rw [List.map_drop, List.map_take]; exact h4⟩
theorem out_true {st st' : St} (hs : Cl st) (h : st'.trunc st.length = st) (hl : st.length ≤ st'.length) (b : Bool) : outL false st.length (.ret (.bool b)) st' = some (.ret (.bool b), st) := by
  rw [outL_plain rfl rfl (by rw [h]; exact hs) hl, h]

theorem lebForms_run (st : St) (hs : Cl st) {a : AV} {b : List Int} (hb : okB b) (hbl : b.length < 2000000) (ha : Bs a b) {at' : Int} (hat : i64 at') : cw 6 [a, .int .i64 at'] st = some (.ret (.bool true), st) := by
  refine F6 _ _ _ ?_
  obtain ⟨v1, y1, h1, h2, h3⟩ := copy_cl st hs ha hbl
  have la : lenSl a = some (.int .i64 b.length) := by rw [ha.len]; simp
  simp only [awake_ok st hs, callB_ret, boolV_bool, Option.bind_some, h1, take_ok _ hb hbl h2, res, extractA_tup, List.getElem?_cons_zero, List.getElem?_cons_succ, intV_int, num_ok]
  rw [if_neg (by decide)]
  have o1 : ∀ x, outL false st.length (.ret (.bool x)) (y1 :: st) = some (.ret (.bool x), st) := out_true hs (by simp) (by simp)
  by_cases herr : (TK b at').2.2 = 0
  · -- read
    have hin : ¬ (at' < 0 ∨ at' > b.length) := fun h => by
      unfold TK at herr; rw [if_pos h] at herr; simp at herr
    obtain ⟨k, rfl⟩ := Int.eq_ofNat_of_zero_le (show 0 ≤ at' by omega)
    have hT : TK b (k : Int) = tk (b.drop k) 0 0 := by unfold TK; rw [if_neg hin]; rfl
    rcases tk_back (b.drop k) 0 0 (by omega) (fun c hc => hb c (List.mem_of_mem_drop hc)) (by decide) with ⟨x, _, hx2, hx3, hx4, hx5⟩ | h | h
    · have hlp := enc_len_pos x
      simp only [Nat.pow_zero, Nat.mul_one, Nat.zero_add] at hx2 hx5
      rw [hT, hx5]
      simp only [if_true, la, Option.bind_some, intV_int]
      have hkl : k + (enc x).length ≤ b.length := by simp at hx4; omega
      obtain ⟨p1, p2, p3, _⟩ := put_ok (y1 :: st) h3 x hx2
      obtain ⟨s1, s2, s3⟩ := cut_ok ha (y1 :: st) (lo := some (.int .i64 (k : Int))) (hi := some (.int .i64 ((k : Int) + ((enc x).length : Int)))) (l := k) (k := k + (enc x).length) (by simp [optA]) (by
        simp only [optA]; rw [show (k : Int) + ((enc x).length : Int) = ((k + (enc x).length : Nat) : Int) by omega]; exact natA_nat _ _) (by omega) hkl
      have e1 : (b.take (k + (enc x).length)).drop k = enc x := by rw [List.drop_take, show k + (enc x).length - k = (enc x).length by omega]; exact hx3.symm
      rw [e1] at s3
      have e2 : IntKind.i64.wrap ((k : Int) + ((enc x).length : Int) - 1) = ((k + (enc x).length - 1 : Nat) : Int) := by rw [i64_in _ (by omega)]; omega
      obtain ⟨u1, u2, u3⟩ := cut_ok ha (y1 :: st) (lo := none) (hi := some (.int .i64 ((k + (enc x).length - 1 : Nat) : Int))) (l := 0) (k := k + (enc x).length - 1) rfl (by simp only [optA]; exact natA_nat _ _) (by omega) (by omega)
      rw [List.drop_zero] at u3
      obtain ⟨w1, w2, w3, w4, w5⟩ := copy_cl (y1 :: st) h3 u3 (by simp; omega)
      have hb2 : okB (b.take (k + (enc x).length - 1)) := fun c hc => hb c (List.mem_of_mem_take hc)
      have hcut : TK (b.take (k + (enc x).length - 1)) (k : Int) = (0, 0, 200) := by
        unfold TK
        rw [if_neg (by simp; omega)]
        have : (b.take (k + (enc x).length - 1)).drop ((k : Int).toNat) = (enc x).take ((enc x).length - 1) := by
          rw [Int.toNat_natCast, List.drop_take, show k + (enc x).length - 1 - k = (enc x).length - 1 by omega]
          have h := congrArg (List.take ((enc x).length - 1)) hx3
          rw [List.take_take, Nat.min_eq_left (by omega)] at h
          exact h.symm
        rw [this]
        exact tk_cut 9 x 0 0 _ rfl (Nat.lt_of_lt_of_le hx2 (by decide)) (by simpa using hx2) (fun h => by omega) (by omega)
      rw [if_neg (by decide), if_neg (by simp), if_neg (by rw [decide_eq_true_eq]; omega), if_neg (by rw [decide_eq_true_eq]; omega)]
      simp only [p2, callB_ret, s2, Option.bind_some, same_refl _ p3 s3, boolV_bool, ha.notMs, Bool.and_self, if_true, Bool.not_true, Bool.false_eq_true, if_false, e2, u2, w3, take_ok _ hb2 (by simp; omega) w4, hcut, res, extractA_tup, List.getElem?_cons_zero, List.getElem?_cons_succ, intV_int, num_ok]
      exact out_true hs (by simp) (by simp; omega) _
    · rw [hT, h] at herr; simp at herr
    · rw [hT, h] at herr; simp at herr
  · rcases TK_err hb at' with h | h | h
    · exact absurd h herr
    · rw [h]; simp [o1, num_ok]
    · rw [h]; simp [o1, num_ok]
end Go.Abs
