/- Plain facts on the numbers of chapter 2 in few bytes: what they are, how long, read back; no program, no condition. -/
import Derived.Laws.Bits64b
import Derived.Laws.BitsLemmas
import Derived.Laws.BytesArg
import Derived.RowKit
namespace Go.Proofs.Ytcphoefiiejlhaa.LebMath
open Go Go.RowKit

/-- A number's bytes. -/
def enc (x : Nat) : List Int := if h : x < 128 then [(x : Int)] else ((x % 128 + 128 : Nat) : Int) :: enc (x / 128)
termination_by x
decreasing_by omega

theorem enc_small {x : Nat} (h : x < 128) : enc x = [(x : Int)] := by rw [enc, dif_pos h]
theorem enc_big {x : Nat} (h : ¬ x < 128) : enc x = ((x % 128 + 128 : Nat) : Int) :: enc (x / 128) := by rw [enc, dif_neg h]

theorem enc_len_pos (x : Nat) : 1 ≤ (enc x).length := by
  by_cases h : x < 128
  · simp [enc_small h]
  · simp [enc_big h]

theorem enc_mono (n : Nat) : ∀ x y : Nat, x ≤ n → x ≤ y → (enc x).length ≤ (enc y).length := by
  induction n using Nat.strongRecOn with
  | ind n ih =>
    intro x y hx hy
    by_cases h : x < 128
    · rw [enc_small h]; exact enc_len_pos y
    · have hy' : ¬ y < 128 := by omega
      rw [enc_big h, enc_big hy', List.length_cons, List.length_cons]
      have := ih (x / 128) (by omega) (x / 128) (y / 128) (Nat.le_refl _) (Nat.div_le_div_right hy)
      omega

theorem enc_len (d : Nat) : ∀ x : Nat, x < 128 ^ (d + 1) → (enc x).length ≤ d + 1 := by
  induction d with
  | zero => intro x h; rw [enc_small (by simpa using h)]; simp
  | succ d ih =>
    intro x h
    by_cases hs : x < 128
    · rw [enc_small hs]; simp
    · rw [enc_big hs, List.length_cons]
      have : x / 128 < 128 ^ (d + 1) := by
        rw [Nat.div_lt_iff_lt_mul (by decide)]; rw [Nat.pow_succ] at h; exact h
      have := ih (x / 128) this
      omega

theorem enc_len10 {x : Nat} (h : x < 18446744073709551616) : (enc x).length ≤ 10 := by
  refine enc_len 9 x (Nat.lt_of_lt_of_le h ?_)
  decide

theorem enc_bytes (n : Nat) : ∀ x : Nat, x ≤ n → ∀ c ∈ enc x, 0 ≤ c ∧ c < 256 := by
  induction n using Nat.strongRecOn with
  | ind n ih =>
    intro x hx c hc
    by_cases h : x < 128
    · rw [enc_small h] at hc; simp at hc; omega
    · rw [enc_big h] at hc
      rcases List.mem_cons.1 hc with rfl | hc
      · omega
      · exact ih (x / 128) (by omega) (x / 128) (Nat.le_refl _) c hc

/-- What a reader comes to, from the byte with number i on: the number so far is acc. -/
def tk : List Int → Nat → Nat → Int × Int × Int
  | [], _, _ => (0, 0, 200)
  | c :: r, i, acc =>
    if (i = 9 ∧ c > 1) ∨ (c = 0 ∧ i > 0) then (0, 0, 201)
    else if c < 128 then (((acc + c.toNat * 128 ^ i : Nat) : Int), ((i + 1 : Nat) : Int), 0)
    else tk r (i + 1) (acc + (c.toNat % 128) * 128 ^ i)

theorem pow_big {i : Nat} (h : i ≤ 8) : 128 ^ i ≤ 72057594037927936 := by
  have : 128 ^ i ≤ 128 ^ 8 := Nat.pow_le_pow_right (by decide) h
  exact this

/-- Reading a number's own bytes gives the number, and how many there are. -/
theorem tk_enc (d : Nat) : ∀ (x i acc : Nat) (r : List Int), x * 128 ^ i < 18446744073709551616 → i + d = 9 → (0 < i → 0 < x) → x < 128 ^ (d + 1) →
    tk (enc x ++ r) i acc = (((acc + x * 128 ^ i : Nat) : Int), ((i + (enc x).length : Nat) : Int), 0) := by
  induction d with
  | zero =>
    intro x i acc r hx hi hpos hlt
    obtain rfl : i = 9 := by omega
    have h1 : x ≤ 1 := by
      rcases Nat.lt_or_ge 1 x with h | h
      · have : 2 * 128 ^ 9 ≤ x * 128 ^ 9 := Nat.mul_le_mul_right _ h
        have e : 2 * 128 ^ 9 = 18446744073709551616 := by decide
        omega
      · exact h
    have h0 := hpos (by decide)
    obtain rfl : x = 1 := by omega
    rw [enc_small (by decide)]
    rfl
  | succ d ih =>
    intro x i acc r hx hi hpos hlt
    by_cases hs : x < 128
    · rw [enc_small hs]
      show tk ((x : Int) :: r) i acc = _
      unfold tk
      rw [if_neg (by rintro (⟨h, h'⟩ | ⟨h, h'⟩) <;> omega), if_pos (by omega)]
      simp
    · rw [enc_big hs, List.cons_append]
      unfold tk
      rw [if_neg (by rintro (⟨h, h'⟩ | ⟨h, h'⟩) <;> omega), if_neg (by omega)]
      have e1 : (((x % 128 + 128 : Nat) : Int).toNat % 128) = x % 128 := by omega
      rw [e1]
      have ep : 128 ^ (i + 1) = 128 ^ i * 128 := Nat.pow_succ ..
      have hq : x = x / 128 * 128 + x % 128 := by omega
      have em : x * 128 ^ i = x / 128 * 128 ^ (i + 1) + x % 128 * 128 ^ i := by
        conv => lhs; rw [hq]
        rw [Nat.add_mul, ep, Nat.mul_assoc, Nat.mul_comm 128]
      rw [ih (x / 128) (i + 1) _ r (by omega) (by omega) (fun _ => by omega) (by rw [Nat.div_lt_iff_lt_mul (by decide)]; rw [Nat.pow_succ] at hlt; exact hlt)]
      rw [em, List.length_cons]
      congr 2
      · rw [Nat.add_assoc, Nat.add_comm (x % 128 * 128 ^ i)]
      · congr 1; omega

theorem tk_put {x : Nat} (h : x < 18446744073709551616) (r : List Int) : tk (enc x ++ r) 0 0 = ((x : Int), ((enc x).length : Int), 0) := by
  have := tk_enc 9 x 0 0 r (by simpa using h) rfl (fun h => by omega) (Nat.lt_of_lt_of_le h (by decide))
  simpa using this

/-- What is read well is a number's own bytes. -/
theorem tk_back (b : List Int) : ∀ (i acc : Nat), i ≤ 9 → (∀ c ∈ b, 0 ≤ c ∧ c < 256) → acc < 128 ^ i →
    (∃ x : Nat, (0 < i → 0 < x) ∧ acc + x * 128 ^ i < 18446744073709551616 ∧ enc x = b.take (enc x).length ∧ (enc x).length ≤ b.length
      ∧ tk b i acc = (((acc + x * 128 ^ i : Nat) : Int), ((i + (enc x).length : Nat) : Int), 0)) ∨ tk b i acc = (0, 0, 200) ∨ tk b i acc = (0, 0, 201) := by
  induction b with
  | nil => intro i acc _ _ _; right; left; rfl
  | cons c r ih =>
    intro i acc hi hb hacc
    have hc := hb c (List.mem_cons_self ..)
    unfold tk
    by_cases h1 : (i = 9 ∧ c > 1) ∨ (c = 0 ∧ i > 0)
    · rw [if_pos h1]; right; right; rfl
    · rw [if_neg h1]
      have hp : 0 < 128 ^ i := Nat.pow_pos (by decide)
      by_cases h2 : c < 128
      · rw [if_pos h2]
        left
        refine ⟨c.toNat, fun h => ?_, ?_, ?_, ?_, ?_⟩
        · rcases Int.lt_or_eq_of_le hc.1 with h' | h'
          · omega
          · exact absurd (Or.inr ⟨h'.symm, h⟩) h1
        · by_cases h9 : i = 9
          · subst h9
            have hc1 : c.toNat ≤ 1 := by
              have : ¬ c > 1 := fun h => h1 (Or.inl ⟨rfl, h⟩)
              omega
            have : c.toNat * 128 ^ 9 ≤ 1 * 128 ^ 9 := Nat.mul_le_mul_right _ hc1
            have e : 128 ^ 9 = 9223372036854775808 := by decide
            omega
          · have := pow_big (i := i) (by omega)
            have h127 : c.toNat * 128 ^ i ≤ 127 * 128 ^ i := Nat.mul_le_mul_right _ (by omega)
            have : 127 * 128 ^ i ≤ 127 * 72057594037927936 := Nat.mul_le_mul_left _ this
            omega
        · rw [enc_small (by omega)]
          simp; omega
        · rw [enc_small (by omega)]; simp
        · rw [enc_small (by omega)]; simp
      · rw [if_neg h2]
        have hi8 : i ≤ 8 := by
          rcases Nat.lt_or_ge i 9 with h | h
          · omega
          · exact absurd (Or.inl ⟨by omega, by omega⟩) h1
        have ep : 128 ^ (i + 1) = 128 ^ i * 128 := Nat.pow_succ ..
        have hlow : c.toNat % 128 * 128 ^ i ≤ 127 * 128 ^ i := Nat.mul_le_mul_right _ (by omega)
        rcases ih (i + 1) (acc + c.toNat % 128 * 128 ^ i) (by omega) (fun c hc => hb c (List.mem_cons_of_mem _ hc)) (by rw [ep]; omega) with
          ⟨x, hx0, hx1, hx2, hx3, hx4⟩ | h | h
        · left
          have hxp := hx0 (by omega)
          have hb128 : ¬ (x * 128 + c.toNat % 128) < 128 := by omega
          have hm : (x * 128 + c.toNat % 128) * 128 ^ i = c.toNat % 128 * 128 ^ i + x * 128 ^ (i + 1) := by
            rw [Nat.add_mul, ep, Nat.mul_assoc, Nat.mul_comm 128, Nat.add_comm]
          have hd : (x * 128 + c.toNat % 128) / 128 = x := by omega
          have hmod : (x * 128 + c.toNat % 128) % 128 = c.toNat % 128 := by omega
          have henc : enc (x * 128 + c.toNat % 128) = c :: enc x := by
            rw [enc_big hb128, hd, hmod]
            congr 1
            omega
          refine ⟨x * 128 + c.toNat % 128, fun _ => by omega, ?_, ?_, ?_, ?_⟩
          · rw [hm]; omega
          · rw [henc, List.length_cons, List.take_succ_cons, ← hx2]
          · rw [henc, List.length_cons, List.length_cons]; omega
          · rw [hx4, hm, henc, List.length_cons]
            congr 2
            · rw [Nat.add_assoc]
            · congr 1; omega
        · right; left; exact h
        · right; right; exact h

/-- Less than a number's own bytes is cut. -/
theorem tk_cut (d : Nat) : ∀ (x i acc : Nat) (k : Nat), i + d = 9 → x < 128 ^ (d + 1) → x * 128 ^ i < 18446744073709551616 → (0 < i → 0 < x) → k < (enc x).length → tk ((enc x).take k) i acc = (0, 0, 200) := by
  induction d with
  | zero =>
    intro x i acc k hi hx h9 hp hk
    rw [enc_small (by simpa using hx)] at hk ⊢
    obtain rfl : k = 0 := by simpa using hk
    rfl
  | succ d ih =>
    intro x i acc k hi hx h9 hp hk
    cases k with
    | zero => rfl
    | succ k =>
      by_cases hs : x < 128
      · rw [enc_small hs] at hk; simp at hk
      · rw [enc_big hs] at hk ⊢
        rw [List.take_succ_cons]
        unfold tk
        rw [if_neg (by rintro (⟨h, h'⟩ | ⟨h, h'⟩) <;> omega), if_neg (by omega)]
        have hlt : x / 128 < 128 ^ (d + 1) := by rw [Nat.div_lt_iff_lt_mul (by decide)]; rw [Nat.pow_succ] at hx; exact hx
        have ep : 128 ^ (i + 1) = 128 ^ i * 128 := Nat.pow_succ ..
        have em : x / 128 * 128 ^ (i + 1) ≤ x * 128 ^ i := by
          rw [ep, Nat.mul_comm (128 ^ i), ← Nat.mul_assoc]
          exact Nat.mul_le_mul_right _ (Nat.div_mul_le_self x 128)
        exact ih (x / 128) (i + 1) _ k (by omega) hlt (by omega) (fun _ => by omega) (by simpa using hk)

/-- Two numbers side by side, by bits: the low one is below two to the i. -/
theorem or_join {a b i : Nat} (ha : a < 2 ^ i) (h : a + b * 2 ^ i < 18446744073709551616) : bits .or .u64 (a : Int) ((b * 2 ^ i : Nat) : Int) = ((a + b * 2 ^ i : Nat) : Int) := by
  rw [bits_or_u64_nat a (b * 2 ^ i) (by omega) (by omega), Nat.or_comm, Nat.mul_comm b, ← Nat.two_pow_add_eq_or_of_lt ha, Nat.add_comm]

theorem pow128 (i : Nat) : 128 ^ i = 2 ^ (7 * i) := by rw [Nat.pow_mul]

theorem u8_and127 (x : Int) (h₀ : 0 ≤ x) (h₁ : x < 256) : bits .and .u8 x 127 = x % 128 := bits_mask .u8 8 (by decide) wraps_u8 7 (by decide) x h₀ h₁
theorem u8_or_128 (x : Int) (h₀ : 0 ≤ x) (h₁ : x < 256) : bits .or .u8 x 128 = x % 128 + 128 := by
  obtain ⟨n, rfl⟩ := Int.eq_ofNat_of_zero_le h₀
  have hn : n < 256 := by omega
  have e := (bits_nat .u8 8 (by decide) wraps_u8 n 128 hn (by decide)).2
  have h2 : n ||| 128 = n % 128 + 128 := by
    have : ∀ m : Fin 256, m.val ||| 128 = m.val % 128 + 128 := by decide +kernel
    exact this ⟨n, hn⟩
  rw [show ((128 : Int)) = ((128 : Nat) : Int) from rfl, e, h2]
  omega

theorem u64_and1 (x : Int) (h₀ : 0 ≤ x) (h₁ : x < 18446744073709551616) : bits .and .u64 x 1 = x % 2 := by
  obtain ⟨n, rfl⟩ := Int.eq_ofNat_of_zero_le h₀
  rw [show ((1 : Int)) = ((1 : Nat) : Int) from rfl, bits_and_u64_nat n 1 (by omega) (by decide), Nat.and_one_is_mod]
  omega

theorem xor_zero64 (x : Int) (h₀ : 0 ≤ x) (h₁ : x < 18446744073709551616) : bits .xor .u64 x 0 = x := by
  obtain ⟨n, rfl⟩ := Int.eq_ofNat_of_zero_le h₀
  rw [show ((0 : Int)) = ((0 : Nat) : Int) from rfl, bits_xor_u64_nat n 0 (by omega) (by decide), Nat.xor_zero]

theorem xor_ones64 (x : Int) (h₀ : 0 ≤ x) (h₁ : x < 18446744073709551616) : bits .xor .u64 x 18446744073709551615 = 18446744073709551615 - x := by
  obtain ⟨n, rfl⟩ := Int.eq_ofNat_of_zero_le h₀
  have h := bits_xor_u64_nat n 18446744073709551615 (by omega) (by omega)
  have e : n ^^^ 18446744073709551615 = 18446744073709551615 - n := by
    have hb : (BitVec.ofNat 64 n ^^^ BitVec.allOnes 64).toNat = (~~~ BitVec.ofNat 64 n).toNat := by rw [BitVec.xor_allOnes]
    rw [BitVec.toNat_xor, BitVec.toNat_not, BitVec.toNat_allOnes, BitVec.toNat_ofNat, Nat.mod_eq_of_lt (by omega)] at hb
    simpa using hb
  rw [e] at h
  refine Eq.trans h ?_
  omega

theorem xor_zero_i64 (x : Int) (h₀ : -9223372036854775808 ≤ x) (h₁ : x < 9223372036854775808) : bits .xor .i64 x 0 = x := by
  show IntKind.i64.wrap ((BitVec.ofInt 64 x ^^^ BitVec.ofInt 64 0).toNat : Int) = x
  have : (BitVec.ofInt 64 x ^^^ BitVec.ofInt 64 0) = BitVec.ofInt 64 x := by simp
  rw [this, BitVec.toNat_ofInt, IntKind.wrap_i64]
  omega

theorem xor_ones_i64 (x : Int) (h₀ : -9223372036854775808 ≤ x) (h₁ : x < 9223372036854775808) : bits .xor .i64 x (-1) = -x - 1 := by
  show IntKind.i64.wrap ((BitVec.ofInt 64 x ^^^ BitVec.ofInt 64 (-1)).toNat : Int) = -x - 1
  have e : BitVec.ofInt 64 (-1) = BitVec.allOnes 64 := by decide
  rw [e, BitVec.xor_allOnes, BitVec.toNat_not, BitVec.toNat_ofInt, IntKind.wrap_i64]
  omega

/-- An integer's number. -/
def zz (a : Int) : Nat := if 0 ≤ a then (2 * a).toNat else (-2 * a - 1).toNat

theorem zz_lt {a : Int} (h₀ : -9223372036854775808 ≤ a) (h₁ : a ≤ 9223372036854775807) : zz a < 18446744073709551616 := by
  unfold zz; split <;> omega

theorem put_arg {a : Int} (h₀ : -9223372036854775808 ≤ a) (h₁ : a ≤ 9223372036854775807) :
    bits .xor .u64 (IntKind.u64.wrap ((IntKind.u64.wrap a) * 2)) (IntKind.u64.wrap (a / 9223372036854775808)) = (zz a : Int) := by
  simp only [IntKind.wrap_u64]
  by_cases h : 0 ≤ a
  · rw [show a / 9223372036854775808 % 18446744073709551616 = 0 by omega, xor_zero64 _ (by omega) (by omega)]
    unfold zz; rw [if_pos h]; omega
  · rw [show a / 9223372036854775808 % 18446744073709551616 = 18446744073709551615 by omega, xor_ones64 _ (by omega) (by omega)]
    unfold zz; rw [if_neg h]; omega

/-- The integer of a number. -/
def unzz (x : Int) : Int := if x % 2 = 0 then x / 2 else -(x / 2) - 1

theorem unzz_zz {a : Int} : unzz (zz a : Int) = a := by
  unfold unzz zz; split <;> split <;> omega

theorem take_arg {x : Int} (h₀ : 0 ≤ x) (h₁ : x < 18446744073709551616) :
    bits .xor .i64 (wrap64 (x / 2)) (wrap64 (-(wrap64 (bits .and .u64 x 1)))) = unzz x := by
  rw [u64_and1 x h₀ h₁]
  unfold unzz
  by_cases h : x % 2 = 0
  · rw [if_pos h, show wrap64 (-(wrap64 (x % 2))) = 0 by unfold wrap64; omega, show wrap64 (x / 2) = x / 2 by unfold wrap64; omega]
    exact xor_zero_i64 _ (by omega) (by omega)
  · rw [if_neg h, show wrap64 (-(wrap64 (x % 2))) = -1 by unfold wrap64; omega, show wrap64 (x / 2) = x / 2 by unfold wrap64; omega]
    exact xor_ones_i64 _ (by omega) (by omega)

theorem same_strs (xs : List Int) : ((strOfNums xs).toList == (strOfNums xs).toList) = true := by simp

end Go.Proofs.Ytcphoefiiejlhaa.LebMath
