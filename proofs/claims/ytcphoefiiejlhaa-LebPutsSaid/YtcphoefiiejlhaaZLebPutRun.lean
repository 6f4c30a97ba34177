/- What the functions of chapter 2 come to, by value, where what is put may be written over. -/
import Derived.Test.YtcphoefiiejlhaaZEqA
import Derived.Test.YtcphoefiiejlhaaZC
import Derived.Test.YtcphoefiiejlhaaZLebMath
import Derived.IntWalk
namespace Go.Abs
open Go Go.Proofs Go.Proofs.Ytcphoefiiejlhaa.LebMath Go.RowKit Go.IntWalk
set_option linter.unusedVariables false
set_option linter.unusedSimpArgs false

def byt (c : Int) : List AV := [.int .u8 c]
abbrev Bs (a : AV) (l : List Int) : Prop := Sl 0 a (l.map byt)
def okB (l : List Int) : Prop := ∀ c ∈ l, 0 ≤ c ∧ c < 256
theorem closed_byt (n : Nat) (l : List Int) : AV.closedss n (l.map byt) = true := by
  induction l with
  | nil => rfl
  | cons c l ih => simp [AV.closedss, AV.closeds, AV.closed, byt, ih]

theorem rd8 {R : Type} {st : St} {a : AV} {b : List Int} {j : Nat} {c : Int} (h : Rd st 0 a (b.map byt)) (hj : b[j]? = some c) (K : Int → Option R) :
    ((natA (.int .i64 (j : Int))).bind fun j => (idxSl st 0 a j).bind fun v => (readA st v 1 false).bind fun v => (intV .u8 v).bind K) = K c := h.int (r := byt c) (by simp [hj]) rfl K
theorem ln8 {R : Type} {st : St} {a : AV} {b : List Int} (h : Rd st 0 a (b.map byt)) (K : Int → Option R) : ((lenSl a).bind fun v => (intV .i64 v).bind K) = K b.length := by rw [h.lenI]; simp
theorem rows1 (st : St) (c : Int) (tok : Tok) : rowsOf st 0 (.sl 0 [[.int .u8 c]] 0 1 tok) = some ([c].map byt) := rfl

theorem Acc.byte {t : Nat} {st : St} {v : AV} {l : List Int} (h : Acc 0 t st v (l.map byt)) (hl : l.length < 10000000) (c : Int) (tok : Tok) :
    ∃ v' y, appendL st (some (t, false)) 1 0 v (.sl 0 [[.int .u8 c]] 0 1 tok) = some (v', st.put t y) ∧ Acc 0 t (st.put t y) v' ((l ++ [c]).map byt) := by
  obtain ⟨v1, y, h1, h2⟩ := h.app (bytes := 1) (rows1 st c tok) (by simp [roomA]; omega) (by simp [roomA]; omega)
  exact ⟨v1, y, h1, by rw [List.map_append]; exact h2⟩


theorem Cl.put {st : St} {t : Nat} {y : AObj} (h : Cl st) (hy : AObj.closed st.length y = true) : Cl (st.put t y) := by
  unfold Cl St.closed St.put at *
  split
  · rw [List.length_set]
    rw [List.all_eq_true] at h ⊢
    intro x hx
    rcases List.mem_or_eq_of_mem_set hx with h1 | h1
    · exact h x h1
    · subst h1; exact hy
  · exact h
theorem MuN.byte {st : St} {y : AObj} {v : AV} {l : List Int} (h : MuN (y :: st) 0 v st.length (l.map byt)) (hc : Cl (y :: st)) (hl : l.length < 10000000) (c : Int) :
    ∃ v' y', appendL (y :: st) (some (st.length, true)) 1 0 v (.sl 0 [[.int .u8 c]] 0 1 .exact) = some (v', y' :: st) ∧ Mu (y' :: st) 0 v' st.length ((l ++ [c]).map byt) ∧ Cl (y' :: st) := by
  obtain ⟨v', y', h1, h2, h3⟩ := h.app (x := .sl 0 [[.int .u8 c]] 0 1 .exact) (bytes := 1) (rows1 (y :: st) c .exact) (by simp [roomA]; omega) (by simp [roomA]; omega)
  rw [St.put_top] at h1 h2
  have hcl : Cl (y' :: st) := by
    have := hc.put (t := st.length) (y := y') (by
      rcases h3 with ⟨e, rfl⟩ | ⟨ep, rfl⟩
      · rfl
      · rw [← List.map_append]; exact closed_byt _ _)
    rwa [St.put_top] at this
  refine ⟨v', y', h1, ?_, hcl⟩
  rw [List.map_append]
  rcases h2 with ⟨_, h, _⟩ | h
  · simp at h
  · exact h
theorem put_end {x : Nat} (hb : x < 128) {l : List Int} {v : AV} {st : St} {y : AObj} (h : MuN (y :: st) 0 v st.length (l.map byt)) (hc : Cl (y :: st)) (hl : l.length < 2000000) :
    ∃ v' y', aw 27 st.length p27_0 ⟨[(0, AV.int IntKind.u64 x), (3, v)], []⟩ (y :: st) = some (.ret v', y' :: st) ∧ Mu (y' :: st) 0 v' st.length ((l ++ enc x).map byt) ∧ Cl (y' :: st) := by
  obtain ⟨v1, y1, h1, h2, h3⟩ := h.byte hc (by omega) x
  refine ⟨v1, y1, F27_0 _ _ _ _ ?_, by rw [enc_small hb]; exact h2, h3⟩
  have e : IntKind.u8.wrap (x : Int) = x := by rw [IntKind.wrap_u8]; omega
  simp only [e, Nat.add_zero]
  rw [if_neg (by simp; omega), h1]
  simp only [bind2_some, outL_true]
theorem put_loop (n : Nat) : ∀ (x : Nat) (l : List Int) (v : AV) (st : St) (y : AObj), x ≤ n → x < 18446744073709551616 → MuN (y :: st) 0 v st.length (l.map byt) → Cl (y :: st) → l.length + (enc x).length ≤ 2000000 →
    ∃ v' y', aw 27 st.length p27_0 ⟨[(0, AV.int IntKind.u64 x), (3, v)], []⟩ (y :: st) = some (.ret v', y' :: st) ∧ Mu (y' :: st) 0 v' st.length ((l ++ enc x).map byt) ∧ Cl (y' :: st) := by
  induction n with
  | zero =>
    intro x l v st y hx hx2 h hc hl
    have := enc_len_pos x
    exact put_end (by omega) h hc (by omega)
  | succ n ih =>
    intro x l v st y hx hx2 h hc hl
    by_cases hb : x < 128
    · have := enc_len_pos x
      exact put_end hb h hc (by omega)
    · have e : bits BinOp.or IntKind.u8 (IntKind.u8.wrap (x : Int)) 128 = ((x % 128 + 128 : Nat) : Int) := by
        rw [IntKind.wrap_u8, u8_or_128 _ (by omega) (by omega)]; omega
      obtain ⟨v1, y1, h1, h2, h3⟩ := h.byte hc (by omega) ((x % 128 + 128 : Nat) : Int)
      have hen := enc_big hb
      obtain ⟨v2, y2, h4, h5, h6⟩ := ih (x / 128) (l ++ [((x % 128 + 128 : Nat) : Int)]) v1 st y1 (by omega) (by omega) (.inr h2) h3 (by rw [hen] at hl; simp at hl ⊢; omega)
      refine ⟨v2, y2, F27_0 _ _ _ _ ?_, by rw [hen]; simpa using h5, h6⟩
      simp only [e, Nat.add_zero]
      rw [if_pos (by simp; omega), h1]
      have e2 : Int.fdiv (x : Int) 128 = ((x / 128 : Nat) : Int) := by rw [Int.fdiv_eq_ediv_of_nonneg _ (by omega)]; omega
      simp only [bind2_some, e2, h4]
theorem put_ok (st : St) (hs : Cl st) (x : Nat) (hx : x < 18446744073709551616) : ∃ v y, cw 27 [.int .u64 x] st = some (.ret v, y :: st) ∧ Mu (y :: st) 0 v st.length ((enc x).map byt) ∧ Cl (y :: st) := by
  obtain ⟨v, y, h1, h2, h3⟩ := put_loop x x [] .nils st (.free 0) (Nat.le_refl _) hx (.inl ⟨rfl, rfl, 0, by simp⟩) hs.free (by have := enc_len10 hx; simp; omega)
  exact ⟨v, y, F27 _ _ (by rw [h1]), by simpa using h2, h3⟩

/-! ### The reference's Put: the same -/
theorem rput_end {x : Nat} (hb : x < 128) {l : List Int} {v : AV} {st : St} {base : Nat} (hacc : Acc 0 base st v (l.map byt)) (hl : l.length < 2000000) (hs : St.closed base (st.trunc base) = true) :
    ∃ v', aw 30 base p30_0 ⟨[(0, AV.int IntKind.u64 x), (3, v)], []⟩ st = some (.ret v', st.trunc base) ∧ Bs v' (l ++ enc x) ∧ AV.closed base v' = true := by
  obtain ⟨v1, y, h1, h2⟩ := hacc.byte (by omega) x .exact
  obtain ⟨v2, h3, h4, h5⟩ := h2.out (n := base) (Nat.le_refl _) (closed_byt _ _) (by rw [St.trunc_put (Nat.le_refl _)]; exact hs)
  refine ⟨v2, F30_0 _ _ _ _ ?_, by rw [enc_small hb]; exact h4, h5⟩
  have e : IntKind.u8.wrap (x : Int) = x := by rw [IntKind.wrap_u8]; omega
  simp only [e, Nat.add_zero]
  rw [if_neg (by simp; omega), h1]
  rw [St.trunc_put (Nat.le_refl _)] at h3
  simp only [bind2_some, h2.sl.frz, h3]
theorem rput_loop (n : Nat) : ∀ (x : Nat) (l : List Int) (v : AV) (st : St) (base : Nat), x ≤ n → x < 18446744073709551616 → Acc 0 base st v (l.map byt) → l.length + (enc x).length ≤ 2000000 → St.closed base (st.trunc base) = true →
    ∃ v', aw 30 base p30_0 ⟨[(0, AV.int IntKind.u64 x), (3, v)], []⟩ st = some (.ret v', st.trunc base) ∧ Bs v' (l ++ enc x) ∧ AV.closed base v' = true := by
  induction n with
  | zero =>
    intro x l v st base hx hx2 hacc hl hs
    have := enc_len_pos x
    exact rput_end (by omega) hacc (by omega) hs
  | succ n ih =>
    intro x l v st base hx hx2 hacc hl hs
    by_cases hb : x < 128
    · have := enc_len_pos x
      exact rput_end hb hacc (by omega) hs
    · have e : IntKind.u8.wrap (IntKind.u64.wrap (128 + (x : Int).tmod 128)) = ((x % 128 + 128 : Nat) : Int) := by
        rw [IntKind.wrap_u8, IntKind.wrap_u64, Int.tmod_eq_emod_of_nonneg (by omega)]; omega
      obtain ⟨v1, y, h1, h2⟩ := hacc.byte (by omega) ((x % 128 + 128 : Nat) : Int) .exact
      have hen := enc_big hb
      obtain ⟨v2, h3, h4, h5⟩ := ih (x / 128) (l ++ [((x % 128 + 128 : Nat) : Int)]) v1 (st.put base y) base (by omega) (by omega) h2 (by rw [hen] at hl; simp at hl ⊢; omega) (by rw [St.trunc_put (Nat.le_refl _)]; exact hs)
      refine ⟨v2, F30_0 _ _ _ _ ?_, by rw [hen]; simpa using h4, h5⟩
      simp only [e, Nat.add_zero]
      rw [if_pos (by simp; omega), h1]
      have e2 : IntKind.u64.wrap ((x : Int).tdiv 128) = ((x / 128 : Nat) : Int) := by rw [IntKind.wrap_u64, Int.tdiv_eq_ediv_of_nonneg (by omega)]; omega
      rw [St.trunc_put (Nat.le_refl _)] at h3
      simp only [bind2_some, e2, h3]
theorem rput_ok (st : St) (hs : Cl st) (x : Nat) (hx : x < 18446744073709551616) : ∃ v, cw 30 [.int .u64 x] st = some (.ret v, st) ∧ Bs v (enc x) ∧ AV.closed st.length v = true := by
  obtain ⟨v, h1, h2, h3⟩ := rput_loop x x [] .nils (.free 0 :: st) st.length (Nat.le_refl _) hx (.inl ⟨rfl, rfl, 0, by simp⟩) (by have := enc_len10 hx; simp; omega) (by rw [St.trunc_cons]; exact hs)
  exact ⟨v, F30 _ _ (by rw [h1]; simp), by simpa using h2, h3⟩

/-! ### Whole numbers -/
def i64 (n : Int) : Prop := -9223372036854775808 ≤ n ∧ n ≤ 9223372036854775807
theorem putInt_ok (st : St) (hs : Cl st) (z : Int) (hy : i64 z) : ∃ v y, cw 28 [.int .i64 z] st = some (.ret v, y :: st) ∧ Mu (y :: st) 0 v st.length ((enc (zz z)).map byt) ∧ Cl (y :: st) := by
  obtain ⟨v, y, h1, h2, h3⟩ := put_ok st hs (zz z) (zz_lt hy.1 hy.2)
  refine ⟨v, y, F28 _ _ ?_, h2, h3⟩
  have e : bits BinOp.xor IntKind.u64 (IntKind.u64.wrap (IntKind.u64.wrap z * 2)) (IntKind.u64.wrap (z.fdiv 9223372036854775808)) = (zz z : Int) := by
    rw [Int.fdiv_eq_ediv_of_nonneg _ (by omega)]; exact put_arg hy.1 hy.2
  simp only [e, h1, callB_ret, outL_true]
theorem zz_pos {y : Int} (h : 0 ≤ y) : (zz y : Int) = 2 * y := by unfold zz; rw [if_pos h]; omega
theorem zz_neg {y : Int} (h : y < 0) : (zz y : Int) = 2 * (-(y + 1)) + 1 := by unfold zz; rw [if_neg (by omega)]; omega
theorem neg_arg {y : Int} (hy : i64 y) (h : y < 0) : IntKind.u64.wrap (IntKind.u64.wrap (2 * IntKind.u64.wrap (IntKind.i64.wrap (0 - IntKind.i64.wrap (y + 1)))) + 1) = (zz y : Int) := by
  obtain ⟨h1, h2⟩ := hy
  rw [zz_neg h, i64_in (y + 1) (by omega), i64_in _ (by omega)]
  simp only [IntKind.wrap_u64]; omega
theorem pos_arg {y : Int} (hy : i64 y) (h : 0 ≤ y) : IntKind.u64.wrap (2 * IntKind.u64.wrap y) = (zz y : Int) := by
  obtain ⟨h1, h2⟩ := hy
  rw [zz_pos h]
  simp only [IntKind.wrap_u64]; omega
theorem rputInt_ok (st : St) (hs : Cl st) (y : Int) (hy : i64 y) : ∃ v, cw 31 [.int .i64 y] st = some (.ret v, st) ∧ Bs v (enc (zz y)) ∧ AV.closed st.length v = true := by
  obtain ⟨v, h1, h2, h3⟩ := rput_ok st hs (zz y) (zz_lt hy.1 hy.2)
  refine ⟨v, F31 _ _ ?_, h2, h3⟩
  by_cases h : y < 0
  · rw [if_pos (by simpa using h)]
    simp only [neg_arg hy h, h1, callB_ret, h2.frz, bind2_some, outL_same]
  · rw [if_neg (by simpa using h)]
    simp only [pos_arg hy (by omega), h1, callB_ret, h2.frz, bind2_some, outL_same]

/-! ### Bytes side by side -/
theorem bytesOf (l : List Int) : bytesOfRows (l.map byt) = some (l.map fun c => UInt8.ofNat c.toNat) := by
  induction l with
  | nil => rfl
  | cons c l ih => simp [bytesOfRows, byt] at ih ⊢; exact ih
theorem strOf_rd {a : AV} {l : List Int} {st : St} (h : Rd st 0 a (l.map byt)) : strOf st a = some (.str (l.map fun c => UInt8.ofNat c.toNat)) := by
  have h1 := h.rows
  have h2 := h.len
  unfold strOf
  cases a with
  | str s => simp [lenSl] at h2
  | _ => simp only [h1, Option.bind_some, bytesOf, Option.map_some]
theorem same_refl {st : St} {a b : AV} {l : List Int} (ha : Rd st 0 a (l.map byt)) (hb : Rd st 0 b (l.map byt)) : cw 29 [a, b] st = some (.ret (.bool true), st) :=
  F29 _ _ _ (by simp only [strOf_rd ha, strOf_rd hb, Option.bind_some, strV_str, strA, boolV_bool, outL_same, beq_self_eq_true])
theorem num_ok (st : St) (n : Int) : cw 35 [.int .i64 n] st = some (.ret (.int .i64 n), st) := F35 _ _ (by simp)
/-! ### Reading -/
def res (at' : Int) (r : Int × Int × Int) : AV := .tup [.int .u64 r.1, .int .i64 (if r.2.2 = 0 then at' + r.2.1 else 0), .int .i64 r.2.2]

theorem shift_ok {i : Nat} (hi : i ≤ 9) (n : Int) : (if IntKind.u64.wrap (IntKind.i64.wrap (7 * (i : Int))) < 0 then none
      else some (AV.int IntKind.u64 (IntKind.u64.wrap (n * 2 ^ min (IntKind.u64.wrap (IntKind.i64.wrap (7 * (i : Int)))).toNat 64)))) = some (.int .u64 (IntKind.u64.wrap (n * ((2 ^ (7 * i) : Nat) : Int)))) := by
  have e : IntKind.u64.wrap (IntKind.i64.wrap (7 * (i : Int))) = ((7 * i : Nat) : Int) := by
    rw [i64_in _ (by omega), IntKind.wrap_u64]; omega
  rw [e, if_neg (by omega)]
  have e2 : min ((7 * i : Nat) : Int).toNat 64 = 7 * i := by omega
  rw [e2]
  norm_cast

theorem join_ok {i acc : Nat} {c : Int} (hi : i ≤ 9) (hacc : acc < 128 ^ i) (h0 : 0 ≤ c) (h1 : c < 256) (h9 : i = 9 → c ≤ 1) :
    bits BinOp.or IntKind.u64 (acc : Int) (IntKind.u64.wrap (IntKind.u64.wrap (bits BinOp.and IntKind.u8 c 127) * ((2 ^ (7 * i) : Nat) : Int))) = ((acc + (c.toNat % 128) * 128 ^ i : Nat) : Int) ∧ acc + (c.toNat % 128) * 128 ^ i < 128 ^ (i + 1) := by
  obtain ⟨n, rfl⟩ := Int.eq_ofNat_of_zero_le h0
  have hm : n % 128 < 128 := Nat.mod_lt _ (by decide)
  have hp : 128 ^ i = 2 ^ (7 * i) := pow128 i
  have hlt : acc + (n % 128) * 128 ^ i < 128 ^ (i + 1) := by
    have : (n % 128 + 1) * 128 ^ i ≤ 128 * 128 ^ i := Nat.mul_le_mul_right _ (by omega)
    rw [Nat.add_mul, Nat.one_mul] at this
    rw [Nat.pow_succ, Nat.mul_comm (128 ^ i)]; omega
  have h64 : acc + (n % 128) * 128 ^ i < 18446744073709551616 := by
    by_cases h : i = 9
    · subst h
      have := h9 rfl
      have hn : n % 128 ≤ 1 := by omega
      have h2 : (n % 128) * 128 ^ 9 ≤ 1 * 128 ^ 9 := Nat.mul_le_mul_right _ hn
      have h3 : (128 : Nat) ^ 9 = 9223372036854775808 := by decide
      omega
    · have h2 : 128 ^ (i + 1) ≤ 128 ^ 9 := Nat.pow_le_pow_right (by decide) (by omega)
      have h3 : (128 : Nat) ^ 9 = 9223372036854775808 := by decide
      omega
  refine ⟨?_, by simpa using hlt⟩
  rw [u8_and127 _ (by omega) (by omega)]
  have e1 : IntKind.u64.wrap ((n : Int) % 128) = ((n % 128 : Nat) : Int) := by rw [IntKind.wrap_u64]; omega
  rw [e1]
  have e2 : IntKind.u64.wrap (((n % 128 : Nat) : Int) * ((2 ^ (7 * i) : Nat) : Int)) = (((n % 128) * 2 ^ (7 * i) : Nat) : Int) := by
    rw [IntKind.wrap_u64]
    rw [hp] at h64
    have : (((n % 128 : Nat) : Int) * ((2 ^ (7 * i) : Nat) : Int)) = (((n % 128) * 2 ^ (7 * i) : Nat) : Int) := (Int.natCast_mul _ _).symm
    rw [this]; omega
  have h64' : acc + (n % 128) * 2 ^ (7 * i) < 18446744073709551616 := by rw [hp] at h64; exact h64
  have hacc' : acc < 2 ^ (7 * i) := by rw [hp] at hacc; exact hacc
  rw [e2, or_join hacc' h64', hp]
  rfl

theorem at_byt {b : List Int} {i : Nat} {c : Int} (h : b[i]? = some c) : (b.map byt)[i]? = some [.int .u8 c] := by rw [List.getElem?_map, h]; rfl
theorem drop_cons {b : List Int} {i : Nat} (h : i < b.length) : ∃ c, b[i]? = some c ∧ b.drop i = c :: b.drop (i + 1) := ⟨b[i], List.getElem?_eq_getElem h, List.drop_eq_getElem_cons h⟩

theorem take_loop (st : St) {b : List Int} (hb : okB b) (hbl : b.length < 2000000) {v : AV} (hv : Rd st 0 v (b.map byt)) {at' : Int} (h0 : 0 ≤ at') (h1 : at' < 2000000) : ∀ (d i acc : Nat), i + d = 9 → acc < 128 ^ i →
    aw 33 st.length p33_0 ⟨[(1, .int .i64 at'), (7, .int .u64 acc), (20, v), (21, .int .i64 b.length), (22, .int .i64 i)], []⟩ st = some (.ret (res at' (tk (b.drop i) i acc)), st) := by
  intro d
  induction d with
  | zero =>
    intro i acc hi hacc
    have : i = 9 := by omega
    subst this
    refine F33_0 _ _ _ _ _ _ _ ?_
    by_cases hlt : 9 < b.length
    · obtain ⟨c, hc, hd⟩ := drop_cons hlt
      obtain ⟨c0, c1⟩ := hb c (List.mem_of_getElem? hc)
      rw [if_pos (by rw [decide_eq_true_eq]; omega)]
      rw [rd8 hv hc]
      simp only [hd, tk]
      rw [if_pos (by decide)]
      by_cases h9 : c > 1
      · rw [if_pos (by simpa using h9), if_pos (.inl ⟨trivial, h9⟩)]
        simp [res]
      · rw [if_neg (by simpa using h9)]
        by_cases hz : c = 0
        · subst hz
          rw [if_pos (by decide), if_pos (by decide), if_pos (.inr ⟨rfl, by decide⟩)]
          simp [res]
        · have h2 := shift_ok (i := 9) (by omega) (IntKind.u64.wrap (bits BinOp.and IntKind.u8 c 127))
          obtain ⟨h3, _⟩ := join_ok (i := 9) (c := c) (by omega) hacc c0 c1 (fun _ => by omega)
          rw [if_neg (by simpa using hz), h2]
          simp only [Option.bind_some, intV_int, h3]
          rw [if_pos (by simp; omega), if_neg (by omega), if_pos (by omega)]
          have e1 : IntKind.i64.wrap (IntKind.i64.wrap (at' + ((9 : Nat) : Int)) + 1) = at' + ((9 + 1 : Nat) : Int) := by
            rw [i64_in (at' + _) (by omega), i64_in _ (by omega)]; omega
          have e2 : c.toNat % 128 = c.toNat := by omega
          simp only [e1, outL_same, res, if_true, e2]
    · rw [if_neg (by rw [decide_eq_true_eq]; omega)]
      have : b.drop 9 = [] := by simp; omega
      simp [this, tk, res]
  | succ d ih =>
    intro i acc hi hacc
    refine F33_0 _ _ _ _ _ _ _ ?_
    by_cases hlt : i < b.length
    · obtain ⟨c, hc, hd⟩ := drop_cons hlt
      obtain ⟨c0, c1⟩ := hb c (List.mem_of_getElem? hc)
      rw [if_pos (by rw [decide_eq_true_eq]; omega)]
      rw [rd8 hv hc]
      simp only [hd, tk]
      rw [if_neg (by simp; omega)]
      have h2 := shift_ok (i := i) (by omega) (IntKind.u64.wrap (bits BinOp.and IntKind.u8 c 127))
      obtain ⟨h3, h4⟩ := join_ok (i := i) (c := c) (by omega) hacc c0 c1 (fun _ => by omega)
      have e1 : IntKind.i64.wrap (IntKind.i64.wrap (at' + (i : Int)) + 1) = at' + ((i + 1 : Nat) : Int) := by
        rw [i64_in (at' + _) (by omega), i64_in _ (by omega)]; omega
      have e3 : IntKind.i64.wrap ((i : Int) + 1) = ((i + 1 : Nat) : Int) := by rw [i64_in _ (by omega)]; rfl
      have tail : (if decide (c < 128) = true then
              outL false st.length (.ret (.tup [.int .u64 ((acc + (c.toNat % 128) * 128 ^ i : Nat) : Int), .int .i64 (at' + ((i + 1 : Nat) : Int)), .int .i64 0])) st
            else aw 33 st.length p33_0 ⟨[(1, .int .i64 at'), (7, .int .u64 ((acc + (c.toNat % 128) * 128 ^ i : Nat) : Int)), (20, v), (21, .int .i64 b.length), (22, .int .i64 ((i + 1 : Nat) : Int))], []⟩ st) =
          some (.ret (res at' (if c < 128 then (((acc + c.toNat * 128 ^ i : Nat) : Int), ((i + 1 : Nat) : Int), 0) else tk (b.drop (i + 1)) (i + 1) (acc + (c.toNat % 128) * 128 ^ i))), st) := by
        by_cases hs : c < 128
        · have e2 : c.toNat % 128 = c.toNat := by omega
          rw [if_pos (by simpa using hs), if_pos hs]
          simp only [outL_same, res, if_true, e2]
        · rw [if_neg (by simpa using hs), if_neg hs]
          exact ih (i + 1) _ (by omega) h4
      by_cases hz : c = 0
      · subst hz
        rw [if_pos (by decide)]
        by_cases hi0 : i = 0
        · subst hi0
          rw [if_neg (by decide), h2]
          simp only [Option.bind_some, intV_int, h3, e1, e3, tail]
          rw [if_neg (show ¬ ((0 = 9 ∧ (0 : Int) > 1) ∨ (True ∧ 0 > 0)) by omega)]
        · rw [if_pos (by simp; omega), if_pos (.inr ⟨rfl, by omega⟩)]
          simp [res]
      · rw [if_neg (by simpa using hz), h2]
        simp only [Option.bind_some, intV_int, h3, e1, e3, tail]
        rw [if_neg (show ¬ ((i = 9 ∧ c > 1) ∨ (c = 0 ∧ i > 0)) by omega)]
    · rw [if_neg (by rw [decide_eq_true_eq]; omega)]
      have : b.drop i = [] := by simp; omega
      simp [this, tk, res]

/-- What reading from a place comes to. -/
def TK (b : List Int) (at' : Int) : Int × Int × Int := if at' < 0 ∨ at' > b.length then (0, 0, 200) else tk (b.drop at'.toNat) 0 0

theorem take_ok (st : St) {a : AV} {b : List Int} (hb : okB b) (hbl : b.length < 2000000) (ha : Rd st 0 a (b.map byt)) {k : Nat} (hk : k ≤ b.length) (hcut : ∃ v, sliceSl st 0 a (some (.int .i64 (k : Int))) none none = some v ∧ Rd st 0 v ((b.drop k).map byt)) :
    cw 33 [a, .int .i64 (k : Int)] st = some (.ret (res k (TK b k)), st) := by
  refine F33 _ _ _ ?_
  rw [if_neg (by simp), ln8 ha, if_neg (by simp; omega)]
  obtain ⟨v, hv, hs⟩ := hcut
  have := take_loop st (b := b.drop k) (fun c hc => hb c (List.mem_of_mem_drop hc)) (by simp; omega) hs (at' := (k : Int)) (by omega) (by omega) 9 0 0 rfl (by decide)
  rw [hv, Option.bind_some, ln8 hs]
  have hT : TK b k = tk (b.drop k) 0 0 := by unfold TK; rw [if_neg (by omega)]; rfl
  rw [hT]
  exact this
theorem take_mu (st : St) {a : AV} {o : Nat} {b : List Int} (hb : okB b) (hbl : b.length < 2000000) (ha : Mu st 0 a o (b.map byt)) : cw 33 [a, .int .i64 0] st = some (.ret (res 0 (TK b 0)), st) := by
  refine take_ok st hb hbl ha.rd (k := 0) (Nat.zero_le _) ⟨a, ?_, by simpa using ha.rd⟩
  obtain ⟨ep, rfl, hg⟩ := ha
  simp [sliceSl, msKd, hg, optA, natA]
theorem take_sl (st : St) {a : AV} {b : List Int} (hb : okB b) (hbl : b.length < 2000000) (ha : Bs a b) {k : Nat} (hk : k ≤ b.length) : cw 33 [a, .int .i64 (k : Int)] st = some (.ret (res k (TK b k)), st) := by
  refine take_ok st hb hbl ha.rd hk ?_
  obtain ⟨v, hv, hs⟩ := ha.cut (st := st) (lo := some (.int .i64 (k : Int))) (hi := none) (l := k) (k := (b.map byt).length) (by simp [optA]) rfl (by simpa using hk) (Nat.le_refl _)
  rw [List.take_of_length_le (Nat.le_refl _), ← List.map_drop] at hs
  exact ⟨v, hv, hs.rd⟩

/-- The number is one of 64 bits. -/
theorem TK_range {b : List Int} (hb : okB b) (at' : Int) : 0 ≤ (TK b at').1 ∧ (TK b at').1 < 18446744073709551616 := by
  unfold TK
  split
  · simp
  · rcases tk_back (b.drop at'.toNat) 0 0 (by omega) (fun c hc => hb c (List.mem_of_mem_drop hc)) (by decide) with ⟨x, _, h2, _, _, h5⟩ | h | h
    · rw [h5]; simp at h2 ⊢; omega
    · rw [h]; simp
    · rw [h]; simp
theorem TK_err {b : List Int} (hb : okB b) (at' : Int) : (TK b at').2.2 = 0 ∨ (TK b at' = (0, 0, 200)) ∨ TK b at' = (0, 0, 201) := by
  unfold TK
  split
  · exact .inr (.inl rfl)
  · rcases tk_back (b.drop at'.toNat) 0 0 (by omega) (fun c hc => hb c (List.mem_of_mem_drop hc)) (by decide) with ⟨x, _, h2, _, _, h5⟩ | h | h
    · rw [h5]; exact .inl rfl
    · exact .inr (.inl h)
    · exact .inr (.inr h)

def resI (at' : Int) (r : Int × Int × Int) : AV := .tup [.int .i64 (if r.2.2 = 0 then unzz r.1 else 0), .int .i64 (if r.2.2 = 0 then at' + r.2.1 else 0), .int .i64 r.2.2]
theorem takeInt_ok (st : St) {a : AV} {b : List Int} (hb : okB b) {at' : Int} (htk : cw 33 [a, .int .i64 at'] st = some (.ret (res at' (TK b at')), st)) : cw 34 [a, .int .i64 at'] st = some (.ret (resI at' (TK b at')), st) := by
  refine F34 _ _ _ ?_
  rw [htk]
  obtain ⟨r1, r2⟩ := TK_range hb at'
  simp only [callB_ret, res, extractA_tup, List.getElem?_cons_zero, List.getElem?_cons_succ, Option.bind_some, intV_int]
  by_cases h : (TK b at').2.2 = 0
  · have e : bits BinOp.xor IntKind.i64 (IntKind.i64.wrap ((TK b at').1.fdiv 2)) (IntKind.i64.wrap (0 - IntKind.i64.wrap (bits BinOp.and IntKind.u64 (TK b at').1 1))) = unzz (TK b at').1 := by
      rw [Int.fdiv_eq_ediv_of_nonneg _ (by omega), Int.zero_sub, i64_left, i64_left, i64_left]
      exact take_arg r1 r2
    simp only [e, h, resI, bne_self_eq_false, Bool.false_eq_true, if_false, outL_same, if_true]
  · have : ((TK b at').2.2 != 0) = true := by simpa using h
    simp only [this, if_true, outL_same, resI, h, if_false]

/-! ### What is put is written over -/
theorem spoil_loop {st : St} {v : AV} {o : Nat} : ∀ (d i : Nat) (l : List Int) (s : St), i + d = l.length → l.length < 2000000 → s.length = st.length → Mu s 0 v o (l.map byt) → Cl s →
    ∃ y, aw 32 st.length p32_0 ⟨[(0, v), (2, .int .i64 (i : Int))], []⟩ s = some (.ret (.tup []), s.put o y) ∧ Cl (s.put o y) := by
  intro d
  induction d with
  | zero =>
    intro i l s hi hl hs h hc
    obtain ⟨ep, rfl, hg⟩ := h
    refine ⟨_, F32_0 _ _ _ _ ?_, by rw [St.put_same hg]; exact hc⟩
    simp only [lenSl, Option.bind_some, intV_int]
    rw [if_neg (by simp; omega), St.put_same hg, ← hs, outL_same]
  | succ d ih =>
    intro i l s hi hl hs h hc
    have gl : l[i]? = some (l[i]'(by omega)) := List.getElem?_eq_getElem _
    generalize l[i]'(by omega) = x at *
    have e1 : IntKind.i64.wrap ((i : Int) + 1) = ((i + 1 : Nat) : Int) := by rw [i64_in _ (by omega)]; rfl
    obtain ⟨p, y, w1, w2, w3, ep, w4⟩ := h.write (j := i) (r := byt x) (by simp [gl]) (cs := byt (bits BinOp.xor IntKind.u8 x 90)) (r' := byt (bits BinOp.xor IntKind.u8 x 90)) rfl
    have hset : (l.map byt).set i (byt (bits BinOp.xor IntKind.u8 x 90)) = (l.set i (bits BinOp.xor IntKind.u8 x 90)).map byt := by simp [List.map_set]
    rw [hset] at w3 w4
    obtain ⟨y2, q1, q2⟩ := ih (i + 1) _ (s.put o y) (by simp; omega) (by simpa using hl) (by simpa using hs) w3 (hc.put (by rw [w4]; exact closed_byt _ _))
    refine ⟨y2, F32_0 _ _ _ _ ?_, by rw [St.put_put] at q2; exact q2⟩
    rw [ln8 h.rd, if_pos (by simp; omega), rd8 h.rd gl]
    simp only [natA_nat, Option.bind_some, w1]
    rw [show [AV.int IntKind.u8 (bits BinOp.xor IntKind.u8 x 90)] = byt (bits BinOp.xor IntKind.u8 x 90) from rfl, w2]
    simp only [Option.bind_some, e1, q1, St.put_put]
theorem spoil_run {st : St} {v : AV} {o : Nat} {l : List Int} (hl : l.length < 2000000) (h : Mu st 0 v o (l.map byt)) (hc : Cl st) : ∃ y, cw 32 [v] st = some (.ret (.tup []), st.put o y) ∧ Cl (st.put o y) := by
  obtain ⟨y, h1, h2⟩ := spoil_loop (st := st) l.length 0 l st (by omega) hl rfl h hc
  exact ⟨y, F32 _ _ h1, h2⟩
theorem out_true {st st' : St} (hs : Cl st) (h : st'.trunc st.length = st) (hl : st.length ≤ st'.length) (b : Bool) : outL false st.length (.ret (.bool b)) st' = some (.ret (.bool b), st) := by
  rw [outL_plain rfl rfl (by rw [h]; exact hs) hl, h]

theorem bs_lit (l : List Int) (tok : Tok) : Bs (.sl 0 (l.map byt) 0 l.length tok) l := .inr ⟨l.map byt, 0, tok, by simp, by simp, by simp [List.take_of_length_le]⟩
theorem get_at1 {x : AObj} {st : St} {n : Nat} (h : n = st.length) : St.get (x :: st) n = some x := by subst h; exact St.get_top _ _
theorem get_at2 {x y : AObj} {st : St} {n : Nat} (h : n = st.length) : St.get (x :: y :: st) n = some y := by subst h; rw [St.get_under (by simp only [List.length_cons]; omega)]; exact St.get_top _ _
theorem get_at3 {x y z : AObj} {st : St} {n : Nat} (h : n = st.length) : St.get (x :: y :: z :: st) n = some z := by subst h; rw [St.get_under (by simp only [List.length_cons]; omega)]; exact get_at2 rfl
theorem awake_ok (st : St) (hs : Cl st) : cw 36 [] st = some (.ret (.bool true), st) := by
  refine F36 _ ?_
  have b1 : Bs (AV.sl 0 [[AV.int IntKind.u8 9], [AV.int IntKind.u8 128], [AV.int IntKind.u8 1]] 0 3 Tok.exact) [9, 128, 1] := bs_lit [9, 128, 1] .exact
  have b2 : Bs (AV.sl 0 [[AV.int IntKind.u8 3]] 0 1 Tok.exact) [3] := bs_lit [3] .exact
  have t1 := take_sl st (b := [9, 128, 1]) (by simp [okB]) (by decide) b1 (k := 1) (by decide)
  have t2 := takeInt_ok st (b := [3]) (by simp [okB]) (take_sl st (b := [3]) (by simp [okB]) (by decide) b2 (k := 0) (by decide))
  have k1 : TK [9, 128, 1] ((1 : Nat) : Int) = (128, 2, 0) := by decide
  have k2 : TK [3] ((0 : Nat) : Int) = (3, 1, 0) := by decide
  obtain ⟨v1, y1, p1, p2, p3⟩ := put_ok st hs 127 (by decide)
  obtain ⟨v2, y2, q1, q2, q3⟩ := putInt_ok (y1 :: st) p3 64 ⟨by decide, by decide⟩
  have e1 : enc 127 = [127] := enc_small (by decide)
  have e2 : enc (zz 64) = [128, 1] := by rw [show zz 64 = 128 by decide, enc_big (by decide), enc_small (by decide)]; rfl
  rw [e1] at p2
  rw [e2] at q2
  have p1' : cw 27 [AV.int IntKind.u64 127] st = some (.ret v1, y1 :: st) := p1
  have t1' : cw 33 [AV.sl 0 [[AV.int IntKind.u8 9], [AV.int IntKind.u8 128], [AV.int IntKind.u8 1]] 0 3 Tok.exact, .int .i64 1] st = _ := t1
  have t2' : cw 34 [AV.sl 0 [[AV.int IntKind.u8 3]] 0 1 Tok.exact, .int .i64 0] st = _ := t2
  rw [k1] at t1'
  rw [k2] at t2'
  have l1 := p2.rd.len
  have l2 := q2.rd.len
  simp only [t1', t2', res, resI, callB_ret, extractA_tup, List.getElem?_cons_zero, List.getElem?_cons_succ, Option.bind_some, intV_int, if_true, num_ok, p1', q1, l1, l2]
  simp [unzz]
  exact out_true hs (St.trunc_cons2 _ _ _) (by simp only [List.length_cons]; omega) true
theorem lebPuts_run (st : St) (hs : Cl st) {x : Nat} (hx : x < 18446744073709551616) {z : Int} (hz : i64 z) : cw 4 [.int .u64 x, .int .i64 z] st = some (.ret (.bool true), st) := by
  have hzz := zz_lt hz.1 hz.2
  have lx := enc_len10 hx
  have lz := enc_len10 hzz
  obtain ⟨a, ya, a1, a2, a3⟩ := put_ok st hs x hx
  obtain ⟨b, yb, b1, b2, b3⟩ := put_ok (ya :: st) a3 x hx
  obtain ⟨c, yc, c1, c2, c3⟩ := putInt_ok (yb :: ya :: st) b3 z hz
  obtain ⟨d, yd, d1, d2, d3⟩ := putInt_ok (yc :: yb :: ya :: st) c3 z hz
  obtain ⟨ra, r1, r2, _⟩ := rput_ok (yd :: yc :: yb :: ya :: st) d3 x hx
  obtain ⟨rc, s1, s2, _⟩ := rputInt_ok (yd :: yc :: yb :: ya :: st) d3 z hz
  have a4 : Mu (yd :: yc :: yb :: ya :: st) 0 a st.length ((enc x).map byt) := a2.ext (((Ext.cons _ _).trans (Ext.cons _ _)).trans (Ext.cons _ _))
  have c4 : Mu (yd :: yc :: yb :: ya :: st) 0 c (yb :: ya :: st).length ((enc (zz z)).map byt) := c2.ext (Ext.cons _ _)
  obtain ⟨y1, u1, u2⟩ := spoil_run (by omega) a4 d3
  have hp1 : St.put (yd :: yc :: yb :: ya :: st) st.length y1 = yd :: yc :: yb :: y1 :: st := by
    rw [St.put_under (by simp only [List.length_cons]; omega), St.put_under (by simp only [List.length_cons]; omega), St.put_under (by simp), St.put_top]
  rw [hp1] at u1 u2
  have c5 : Mu (yd :: yc :: yb :: y1 :: st) 0 c (yb :: y1 :: st).length ((enc (zz z)).map byt) := c4.same (by rw [get_at2 (by simp), get_at2 (by simp)])
  obtain ⟨y2, w1, w2⟩ := spoil_run (by omega) c5 u2
  have hp2 : St.put (yd :: yc :: yb :: y1 :: st) (yb :: y1 :: st).length y2 = yd :: y2 :: yb :: y1 :: st := by
    rw [St.put_under (by simp), St.put_top]
  rw [hp2] at w1 w2
  have b4 : Mu (yd :: y2 :: yb :: y1 :: st) 0 b (y1 :: st).length ((enc x).map byt) := b2.same (by rw [get_at3 (by simp), get_at1 (by simp)])
  have d4 : Mu (yd :: y2 :: yb :: y1 :: st) 0 d (y2 :: yb :: y1 :: st).length ((enc (zz z)).map byt) := d2.same (by rw [get_at1 (by simp), get_at1 (by simp)])
  obtain ⟨rb, r3, r4, _⟩ := rput_ok (yd :: y2 :: yb :: y1 :: st) w2 x hx
  obtain ⟨rd', s3, s4, _⟩ := rputInt_ok (yd :: y2 :: yb :: y1 :: st) w2 z hz
  have ok1 : okB (enc x) := enc_bytes x x (Nat.le_refl _)
  have ok2 : okB (enc (zz z)) := enc_bytes _ _ (Nat.le_refl _)
  have t1 := take_mu (yd :: y2 :: yb :: y1 :: st) ok1 (by omega) b4
  have t2 := takeInt_ok (yd :: y2 :: yb :: y1 :: st) ok2 (take_mu (yd :: y2 :: yb :: y1 :: st) ok2 (by omega) d4)
  have k1 : TK (enc x) 0 = ((x : Int), ((enc x).length : Int), 0) := by
    have := tk_put hx []
    rw [List.append_nil] at this
    unfold TK
    rw [if_neg (by omega)]
    exact this
  have k2 : TK (enc (zz z)) 0 = ((zz z : Int), ((enc (zz z)).length : Int), 0) := by
    have := tk_put hzz []
    rw [List.append_nil] at this
    unfold TK
    rw [if_neg (by omega)]
    exact this
  rw [k1] at t1
  rw [k2] at t2
  have lb := b4.rd.len
  have ld := d4.rd.len
  refine F4 _ _ _ ?_
  simp only [a1, b1, c1, d1, r1, s1, callB_ret, same_refl a4.rd r2.rd, same_refl c4.rd s2.rd, boolV_bool, Option.bind_some, Bool.not_true, Bool.false_eq_true, if_false, u1, w1, r3, s3, same_refl b4.rd r4.rd, same_refl d4.rd s4.rd, t1, t2, res, resI, extractA_tup,
    List.getElem?_cons_zero, List.getElem?_cons_succ, intV_int, num_ok, beq_self_eq_true, if_true, lb, ld, List.length_map, unzz_zz, Int.zero_add, awake_ok _ w2]
  exact out_true hs (by rw [St.trunc_le (by simp only [List.length_cons]; omega), St.trunc_le (by simp only [List.length_cons]; omega), St.trunc_cons2]) (by simp only [List.length_cons]; omega) true
end Go.Abs
