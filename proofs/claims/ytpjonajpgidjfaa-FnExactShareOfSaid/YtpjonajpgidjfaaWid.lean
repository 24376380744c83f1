/-
  Plain laws: a float32 as a float64: its rung, exactly; masks and signs of bits. No condition.
-/
import Derived.Test.YtpjonajpgidjfaaOrd
namespace Go.Proofs.Ytpjonajpgidjfaa
set_option linter.unusedVariables false
open Ieee

theorem dbl_binade : Ieee.double.binade = 4503599627370496 := by decide +kernel
theorem dbl_inf : Ieee.double.infRung = 9218868437227405312 := by decide +kernel
theorem dbl_sign : Ieee.double.signWeight = 9223372036854775808 := by decide +kernel
theorem dbl_least : Ieee.double.leastPlace = -1074 := by decide +kernel
theorem sng_binade : Ieee.single.binade = 8388608 := by decide +kernel
theorem sng_inf : Ieee.single.infRung = 2139095040 := by decide +kernel
theorem sng_sign : Ieee.single.signWeight = 2147483648 := by decide +kernel
theorem sng_least : Ieee.single.leastPlace = -149 := by decide +kernel

theorem sr32 (c : Nat) : sr .f32 c = if c / 2147483648 % 2 = 1 then -((c % 2147483648 : Nat) : Int) else ((c % 2147483648 : Nat) : Int) := by
  unfold sr; rw [show FloatKind.f32.format.signWeight = 2147483648 from sng_sign]
theorem sr64 (c : Nat) : sr .f64 c = if c / 9223372036854775808 % 2 = 1 then -((c % 9223372036854775808 : Nat) : Int) else ((c % 9223372036854775808 : Nat) : Int) := by
  unfold sr; rw [show FloatKind.f64.format.signWeight = 9223372036854775808 from dbl_sign]
theorem cl32 (c : Nat) : cl .f32 c = if 2139095040 < c % 2147483648 then none else some c := by
  unfold cl; rw [show FloatKind.f32.format.signWeight = 2147483648 from sng_sign, show FloatKind.f32.format.infRung = 2139095040 from sng_inf]
theorem cl64 (c : Nat) : cl .f64 c = if 9218868437227405312 < c % 9223372036854775808 then none else some c := by
  unfold cl; rw [show FloatKind.f64.format.signWeight = 9223372036854775808 from dbl_sign, show FloatKind.f64.format.infRung = 9218868437227405312 from dbl_inf]
theorem cl32_some {b c : Nat} (h : cl .f32 b = some c) : c = b ∧ b % 2147483648 ≤ 2139095040 := by
  rw [cl32] at h; split at h
  · cases h
  · cases h; exact ⟨rfl, by omega⟩
theorem cl64_some {b c : Nat} (h : cl .f64 b = some c) : c = b ∧ b % 9223372036854775808 ≤ 9218868437227405312 := by
  rw [cl64] at h; split at h
  · cases h
  · cases h; exact ⟨rfl, by omega⟩
theorem cl32_none {b : Nat} (h : cl .f32 b = none) : 2139095040 < b % 2147483648 := by
  rw [cl32] at h; split at h
  · assumption
  · cases h
theorem cl64_none {b : Nat} (h : cl .f64 b = none) : 9218868437227405312 < b % 9223372036854775808 := by
  rw [cl64] at h; split at h
  · assumption
  · cases h

theorem cut_zero (neg : Bool) (n : Nat) : Toward.even.cut neg n 0 = n := by
  unfold Toward.cut
  simp [Nat.mod_one]

/-- A number with few digits, of middling size, is a float64 as it stands. -/
theorem nearest_exact (sg : Bool) (m : Nat) (e : Int) (hm0 : m ≠ 0) (hm : m < 2 ^ 53) (hl : -1022 ≤ e + m.log2) (hu : e + m.log2 ≤ 1023) :
    Ieee.double.nearest sg m e = Ieee.double.word sg ((e + m.log2 + 1022).toNat * 4503599627370496 + m * 2 ^ (52 - m.log2)) := by
  have h7 : Ieee.double.fractionBits = 52 := rfl
  have hlog : m.log2 < 53 := (Nat.log2_lt hm0).2 hm
  unfold Format.nearest
  dsimp only
  rw [if_neg hm0]
  have hl2 : max (e + (m.log2 : Int) - (Ieee.double.fractionBits : Int)) Ieee.double.leastPlace = e + m.log2 - 52 := by rw [dbl_least, h7]; omega
  rw [hl2, dbl_inf, dbl_binade, dbl_least]
  have hz : (e + (m.log2 : Int) - 52 - e).toNat = 0 := by omega
  have hs : (e - (e + (m.log2 : Int) - 52)).toNat = 52 - m.log2 := by omega
  rw [hz, hs, cut_zero, Nat.shiftLeft_eq]
  congr 1
  have hb : m * 2 ^ (52 - m.log2) < 2 ^ 53 := by
    have hlt : m < 2 ^ (m.log2 + 1) := (Nat.log2_lt hm0).1 (Nat.lt_succ_self _)
    calc m * 2 ^ (52 - m.log2) < 2 ^ (m.log2 + 1) * 2 ^ (52 - m.log2) := Nat.mul_lt_mul_of_pos_right hlt (Nat.two_pow_pos _)
      _ = 2 ^ 53 := by rw [← Nat.pow_add]; congr 1; omega
  generalize m * 2 ^ (52 - m.log2) = q at *
  have e1 : (e + (m.log2 : Int) - 52 - -1074).toNat = (e + (m.log2 : Int) + 1022).toNat := by omega
  rw [e1]
  have e2 : (e + (m.log2 : Int) + 1022).toNat ≤ 2045 := by omega
  generalize (e + (m.log2 : Int) + 1022).toNat = p at *
  rw [Nat.min_eq_left]
  omega

theorem log2_of {m k : Nat} (h1 : 2 ^ k ≤ m) (h2 : m < 2 ^ (k + 1)) : m.log2 = k := by
  have hm : m ≠ 0 := by have := Nat.two_pow_pos k; omega
  have a := (Nat.log2_lt hm).2 h2
  have b := (Nat.le_log2 hm).2 h1
  omega

theorem word_false (f : Format) (r : Nat) : f.word false r = r := rfl
theorem sgb (n : Nat) : (if (n == 1) = true then (9223372036854775808 : Nat) else 0) = if n = 1 then 9223372036854775808 else 0 := by simp only [beq_iff_eq]
theorem word_dbl (sg : Bool) (r : Nat) : Ieee.double.word sg r = (if sg then 9223372036854775808 else 0) + r := by
  unfold Format.word; rw [dbl_sign]; cases sg <;> simp

/-- The rung of a normal float32 as a float64. -/
theorem widen_normal {x : Nat} (h1 : 8388608 ≤ x % 2147483648) (h2 : x % 2147483648 < 2139095040) :
    FloatKind.f64.encode (FloatKind.f32.decode x) = (if x / 2147483648 % 2 = 1 then 9223372036854775808 else 0) + (x % 2147483648 * 536870912 + 4035225266123964416) := by
  show Ieee.double.write (Ieee.single.read x) = _
  unfold Format.read
  rw [sng_sign, sng_binade, sng_inf, sng_least]
  dsimp only
  rw [if_neg (by omega), if_pos h2]
  show Ieee.double.nearest _ _ _ = _
  generalize hr : x % 2147483648 = r at *
  have hd := Nat.div_add_mod r 8388608
  have hm := Nat.mod_lt r (show 0 < 8388608 by decide)
  have hl : (8388608 + r % 8388608).log2 = 23 := log2_of (by omega) (by omega)
  have hq : r / 8388608 ≤ 254 := by omega
  have hq1 : 1 ≤ r / 8388608 := by omega
  rw [nearest_exact _ _ _ (by omega) (by omega) (by rw [hl]; omega) (by rw [hl]; omega), hl, word_dbl, sgb]
  · have e1 : (-149 + ((r / 8388608 - 1 : Nat) : Int) + ((23 : Nat) : Int) + 1022).toNat = r / 8388608 + 895 := by omega
    rw [e1]
    have e2 : (2 : Nat) ^ (52 - 23) = 536870912 := by decide
    rw [e2]
    have e3 : (r / 8388608 + 895) * 4503599627370496 + (8388608 + r % 8388608) * 536870912 = r * 536870912 + 4035225266123964416 := by omega
    rw [e3]

/-- Of a subnormal one that is no zero: below all normal ones. -/
theorem widen_subnormal {x : Nat} (h0 : 0 < x % 2147483648) (h1 : x % 2147483648 < 8388608) :
    ∃ r, FloatKind.f64.encode (FloatKind.f32.decode x) = (if x / 2147483648 % 2 = 1 then 9223372036854775808 else 0) + r ∧ 0 < r ∧ r < 4039728865751334912 := by
  show ∃ r, Ieee.double.write (Ieee.single.read x) = _ ∧ _
  unfold Format.read
  rw [sng_sign, sng_binade, sng_inf, sng_least]
  dsimp only
  rw [if_pos h1]
  show ∃ r, Ieee.double.nearest _ _ _ = _ ∧ _
  generalize hr : x % 2147483648 = m at *
  have hm0 : m ≠ 0 := by omega
  have hl : m.log2 < 23 := (Nat.log2_lt hm0).2 (by omega)
  rw [nearest_exact _ _ _ hm0 (by omega) (by omega) (by omega), word_dbl]
  rw [sgb]
  refine ⟨(-149 + (m.log2 : Int) + 1022).toNat * 4503599627370496 + m * 2 ^ (52 - m.log2), rfl, ?_, ?_⟩
  · have : 0 < m * 2 ^ (52 - m.log2) := Nat.mul_pos (by omega) (Nat.two_pow_pos _)
    omega
  · have hb : m * 2 ^ (52 - m.log2) < 2 ^ 53 := by
      have hlt : m < 2 ^ (m.log2 + 1) := (Nat.log2_lt hm0).1 (Nat.lt_succ_self _)
      calc m * 2 ^ (52 - m.log2) < 2 ^ (m.log2 + 1) * 2 ^ (52 - m.log2) := Nat.mul_lt_mul_of_pos_right hlt (Nat.two_pow_pos _)
        _ = 2 ^ 53 := by rw [← Nat.pow_add]; congr 1; omega
    have : (-149 + (m.log2 : Int) + 1022).toNat ≤ 895 := by omega
    generalize (-149 + (m.log2 : Int) + 1022).toNat = p at *
    generalize m * 2 ^ (52 - m.log2) = q at *
    omega

theorem widen_zero {x : Nat} (h : x % 2147483648 = 0) : FloatKind.f64.encode (FloatKind.f32.decode x) = (if x / 2147483648 % 2 = 1 then 9223372036854775808 else 0) := by
  show Ieee.double.write (Ieee.single.read x) = _
  unfold Format.read
  rw [sng_sign, sng_binade, sng_inf, sng_least]
  dsimp only
  rw [h, if_pos (by decide)]
  show Ieee.double.nearest _ _ _ = _
  unfold Format.nearest
  rw [if_pos rfl, word_dbl, sgb, Nat.add_zero]

theorem widen_inf {x : Nat} (h : x % 2147483648 = 2139095040) : FloatKind.f64.encode (FloatKind.f32.decode x) = (if x / 2147483648 % 2 = 1 then 9223372036854775808 else 0) + 9218868437227405312 := by
  show Ieee.double.write (Ieee.single.read x) = _
  unfold Format.read
  rw [sng_sign, sng_binade, sng_inf, sng_least]
  dsimp only
  rw [h, if_neg (by decide), if_neg (by decide), if_pos rfl]
  show Ieee.double.word _ _ = _
  rw [word_dbl, dbl_inf, sgb]

/-- A widened float32: its sign, and a rung that is at most infinity's. -/
theorem widen_parts {x : Nat} (h : x % 2147483648 ≤ 2139095040) :
    ∃ r, FloatKind.f64.encode (FloatKind.f32.decode x) = (if x / 2147483648 % 2 = 1 then 9223372036854775808 else 0) + r ∧ r ≤ 9218868437227405312 ∧ (r = 0 ↔ x % 2147483648 = 0) ∧ (r < 4039728865751334912 ↔ x % 2147483648 < 8388608) := by
  rcases Nat.lt_or_ge (x % 2147483648) 8388608 with h1 | h1
  · rcases Nat.eq_zero_or_pos (x % 2147483648) with h0 | h0
    · exact ⟨0, widen_zero h0, by omega, by omega, by omega⟩
    · obtain ⟨r, hr, a, b⟩ := widen_subnormal h0 h1
      exact ⟨r, hr, by omega, by omega, by omega⟩
  · rcases Nat.lt_or_ge (x % 2147483648) 2139095040 with h2 | h2
    · exact ⟨_, widen_normal h1 h2, by omega, by omega, by omega⟩
    · exact ⟨_, widen_inf (by omega), by omega, by omega, by omega⟩

/-! ### bits -/
theorem and_mask23 (n : Nat) : n &&& 2139095040 = (n / 8388608 % 256) * 8388608 := by
  have e1 : (2139095040 : Nat) = 255 <<< 23 := by decide
  have e2 : (n / 8388608 % 256) * 8388608 = ((n >>> 23) &&& 255) <<< 23 := by
    rw [Nat.shiftLeft_eq, Nat.shiftRight_eq_div_pow, show (255 : Nat) = 2 ^ 8 - 1 from rfl, Nat.and_two_pow_sub_one_eq_mod]
  rw [e1, e2]
  apply Nat.eq_of_testBit_eq
  intro i
  simp only [Nat.testBit_and, Nat.testBit_shiftLeft, Nat.testBit_shiftRight]
  by_cases h : i ≥ 23
  · simp [h]
  · simp [h]

theorem wraps_i64 (n : Int) (h₀ : 0 ≤ n) (h₁ : n < 2 ^ 63) : IntKind.i64.wrap n = n := by
  rw [IntKind.wrap_i64]
  omega

theorem i64_and_nat (a b : Nat) (ha : a < 4294967296) (hb : b < 4294967296) : bits .and .i64 (a : Int) (b : Int) = ((a &&& b : Nat) : Int) :=
  (bits_nat .i64 63 (by decide) wraps_i64 a b (by omega) (by omega)).1

theorem abs_bits (r : Nat) (h : r < 18446744073709551616) : bits .andNot .u64 (r : Int) 9223372036854775808 = ((r % 9223372036854775808 : Nat) : Int) := by
  have := u64_andNot_nat r 9223372036854775808 h (by omega)
  rw [show ((9223372036854775808 : Nat) : Int) = (9223372036854775808 : Int) from rfl] at this
  rw [this]
  congr 1
  exact Nat.and_two_pow_sub_one_eq_mod r 63
end Go.Proofs.Ytpjonajpgidjfaa
