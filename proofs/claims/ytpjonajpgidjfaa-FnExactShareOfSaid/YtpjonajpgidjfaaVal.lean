/-
  Plain laws on exact operations of float64: a number less nought, a number less its whole part, a number halved and doubled, a sum that is at least one; comparisons by bits. No condition.
-/
import Derived.Test.YtpjonajpgidjfaaMag
namespace Go.Proofs.Ytpjonajpgidjfaa
set_option linter.unusedVariables false
open Ieee

/-! ### signs and rungs of a float64's bits -/
theorem bits_split {b : Nat} (h : b < 18446744073709551616) : b = (if b / 9223372036854775808 % 2 = 1 then 9223372036854775808 else 0) + b % 9223372036854775808 := by
  split <;> omega

theorem read_dbl (b : Nat) : Ieee.double.read b = if b % 9223372036854775808 < 4503599627370496 then .number (b / 9223372036854775808 % 2 == 1) (b % 9223372036854775808) (-1074)
    else if b % 9223372036854775808 < 9218868437227405312 then .number (b / 9223372036854775808 % 2 == 1) (4503599627370496 + b % 9223372036854775808 % 4503599627370496) (-1074 + (b % 9223372036854775808 / 4503599627370496 - 1 : Nat))
    else if b % 9223372036854775808 = 9218868437227405312 then .infinity (b / 9223372036854775808 % 2 == 1) else .nan (b / 9223372036854775808 % 2 == 1) (b % 9223372036854775808 - 9218868437227405312) := by
  unfold Format.read
  rw [dbl_sign, dbl_binade, dbl_inf, dbl_least]

theorem cut_mul (way : Toward) (s : Bool) (n d : Nat) : Toward.even.cut s (n * 2 ^ d) d = n := by
  rcases Nat.eq_zero_or_pos n with rfl | hn
  · unfold Toward.cut; simp
  · unfold Toward.cut
    dsimp only
    have hl : (n * 2 ^ d).log2 = n.log2 + d := by
      apply log2_of
      · rw [Nat.pow_add]; exact Nat.mul_le_mul_right _ (Nat.log2_self_le (by omega))
      · rw [show n.log2 + d + 1 = (n.log2 + 1) + d by omega, Nat.pow_add]
        exact Nat.mul_lt_mul_of_pos_right ((Nat.log2_lt (by omega)).1 (Nat.lt_succ_self _)) (Nat.two_pow_pos _)
    rw [hl, Nat.min_eq_left (by omega), Nat.one_shiftLeft]
    have hp : 0 < 2 ^ d := Nat.two_pow_pos _
    rw [Nat.mul_mod_left, Nat.mul_div_cancel _ hp]
    have h0 : (2 ^ d == 0) = false := by rw [beq_eq_false_iff_ne]; omega
    simp [h0]

/-- A number of 53 digits at a place from the least up: its rung. -/
theorem nearest_53 (s : Bool) {m : Nat} (d : Nat) {p : Int} (h1 : 4503599627370496 ≤ m) (h2 : m < 9007199254740992) (hp : -1074 ≤ p + d) (hu : p + d ≤ 971) :
    Ieee.double.nearest s (m * 2 ^ d) p = Ieee.double.word s ((p + d + 1074).toNat * 4503599627370496 + m) := by
  have h7 : Ieee.double.fractionBits = 52 := rfl
  have hl : (m * 2 ^ d).log2 = 52 + d := by
    apply log2_of
    · rw [Nat.pow_add]; exact Nat.mul_le_mul_right _ (by omega)
    · rw [show 52 + d + 1 = 53 + d by omega, Nat.pow_add]
      exact Nat.mul_lt_mul_of_pos_right (by omega) (Nat.two_pow_pos _)
  have hm0 : m * 2 ^ d ≠ 0 := Nat.ne_of_gt (Nat.mul_pos (by omega) (Nat.two_pow_pos _))
  unfold Format.nearest
  dsimp only
  rw [if_neg hm0, hl]
  have hmax : max (p + ((52 + d : Nat) : Int) - (Ieee.double.fractionBits : Int)) Ieee.double.leastPlace = p + d := by rw [dbl_least, h7]; omega
  rw [hmax, dbl_inf, dbl_binade, dbl_least]
  have e1 : (p - (p + (d : Int))).toNat = 0 := by omega
  have e2 : (p + (d : Int) - p).toNat = d := by omega
  rw [e1, e2, Nat.shiftLeft_zero, cut_mul .even]
  have e3 : (p + (d : Int) - -1074).toNat = (p + d + 1074).toNat := by omega
  rw [e3]
  have e4 : (p + (d : Int) + 1074).toNat ≤ 2045 := by omega
  congr 1
  generalize (p + (d : Int) + 1074).toNat = q at *
  rw [Nat.min_eq_left]
  omega

/-- A subnormal number, or none, as it stands. -/
theorem nearest_small (s : Bool) {m : Nat} (h : m < 4503599627370496) : Ieee.double.nearest s m (-1074) = Ieee.double.word s m := by
  have h7 : Ieee.double.fractionBits = 52 := rfl
  unfold Format.nearest
  dsimp only
  split
  · rename_i h0; rw [h0]
  · rename_i h0
    have hl : m.log2 < 52 := (Nat.log2_lt h0).2 (by omega)
    have hmax : max ((-1074 : Int) + (m.log2 : Int) - (Ieee.double.fractionBits : Int)) Ieee.double.leastPlace = -1074 := by rw [dbl_least, h7]; omega
    rw [hmax, dbl_inf, dbl_binade, dbl_least]
    have e1 : ((-1074 : Int) - -1074).toNat = 0 := by omega
    rw [e1, Nat.shiftLeft_zero, cut_zero, Nat.zero_mul, Nat.zero_add]
    congr 1
    omega

theorem sgb' (n : Nat) : (if (n == 1) = true then (9223372036854775808 : Nat) else 0) = if n = 1 then 9223372036854775808 else 0 := sgb n

/-- A finite number, its magnitude laid from the least place up, is written back as it was. -/
theorem write_back {b : Nat} (hb : b < 18446744073709551616) (hf : b % 9223372036854775808 < 9218868437227405312) {s : Bool} {m : Nat} {e : Int} (hd : Ieee.double.read b = .number s m e) :
    Ieee.double.nearest s (m <<< (e + 1074).toNat) (-1074) = b := by
  rw [read_dbl] at hd
  have hs := bits_split hb
  generalize hr : b % 9223372036854775808 = r at *
  by_cases h1 : r < 4503599627370496
  · rw [if_pos h1] at hd
    cases hd
    rw [show ((-1074 : Int) + 1074).toNat = 0 by omega, Nat.shiftLeft_zero, nearest_small _ h1, word_dbl, sgb]
    exact hs.symm
  · rw [if_neg h1, if_pos hf] at hd
    cases hd
    have hm := Nat.mod_lt r (show 0 < 4503599627370496 by decide)
    have hdm := Nat.div_add_mod r 4503599627370496
    rw [Nat.shiftLeft_eq, show ((-1074 : Int) + ((r / 4503599627370496 - 1 : Nat) : Int) + 1074).toNat = r / 4503599627370496 - 1 by omega, nearest_53 _ _ (by omega) (by omega) (by omega) (by omega), word_dbl, sgb]
    have : ((-1074 : Int) + ((r / 4503599627370496 - 1 : Nat) : Int) + 1074).toNat * 4503599627370496 + (4503599627370496 + r % 4503599627370496) = r := by
      rw [show ((-1074 : Int) + ((r / 4503599627370496 - 1 : Nat) : Int) + 1074).toNat = r / 4503599627370496 - 1 by omega]
      omega
    rw [this]
    exact hs.symm

theorem read_place {b : Nat} {s : Bool} {m : Nat} {e : Int} (h : Ieee.double.read b = .number s m e) : -1074 ≤ e ∧ m < 9007199254740992 ∧ (e = -1074 ∨ 4503599627370496 ≤ m) := by
  rw [read_dbl] at h
  split at h
  · cases h; omega
  · split at h
    · cases h; omega
    · split at h <;> cases h

theorem cl64_of {b : Nat} (h : b % 9223372036854775808 ≤ 9218868437227405312) : cl .f64 b = some b := by rw [cl64, if_neg (by omega)]

/-- y - 0 is y. -/
theorem sub_zero {b : Nat} (hb : b < 18446744073709551616) (hf : b % 9223372036854775808 < 9218868437227405312) : fbin .sub .f64 (some b) (some 0) = some b := by
  obtain ⟨s, m, e, hd⟩ := read_number (k := .f64) (b := b) (by show b % Ieee.double.signWeight < Ieee.double.infRung; rw [dbl_sign, dbl_inf]; exact hf)
  have hd' : Ieee.double.read b = .number s m e := hd
  obtain ⟨p1, p2, p3⟩ := read_place hd'
  have h0 : Ieee.double.read 0 = .number false 0 (-1074) := by decide +kernel
  show ((Ieee.double.read b).sum (Ieee.double.read 0).opposite).map Ieee.double.write = _
  rw [hd', h0]
  simp only [Datum.opposite, Datum.sum, Option.map_some, Bool.not_false]
  have hmin : min e (-1074) = -1074 := by omega
  rw [hmin]
  have hz : signed true 0 ((-1074 : Int) - -1074).toNat = 0 := by simp [signed]
  rw [hz, Int.add_zero]
  have hwb := write_back hb hf hd'
  rw [show e - -1074 = e + 1074 by omega]
  congr 1
  show Ieee.double.nearest _ _ _ = b
  rw [signed_abs]
  by_cases hm0 : m = 0
  · subst hm0
    have : signed s 0 (e + 1074).toNat = 0 := by simp [signed]
    rw [this, if_pos rfl, Bool.and_true]
    exact hwb
  · have hpos : 0 < m <<< (e + 1074).toNat := by rw [Nat.shiftLeft_eq]; exact Nat.mul_pos (by omega) (Nat.two_pow_pos _)
    have hne : signed s m (e + 1074).toNat ≠ 0 := by unfold signed; split <;> omega
    rw [if_neg hne]
    have hs : decide (signed s m (e + 1074).toNat < 0) = s := by
      unfold signed
      cases s
      · simp only [Bool.false_eq_true, if_false, decide_eq_false_iff_not]; omega
      · simp only [if_true, decide_eq_true_eq]; omega
    rw [hs]
    exact hwb

/-! ### halves and doubles -/
/-- 2.0 -/
def two64 : Nat := 4611686018427387904
theorem read_two : Ieee.double.read 4611686018427387904 = .number false 4503599627370496 (-51) := by decide +kernel

theorem fbin_quo (x y : Nat) : fbin .quo .f64 (some x) (some y) = ((Ieee.double.read x).quotient 54 (Ieee.double.read y)).map Ieee.double.write := rfl
theorem fbin_mul (x y : Nat) : fbin .mul .f64 (some x) (some y) = ((Ieee.double.read x).product (Ieee.double.read y)).map Ieee.double.write := rfl
theorem fbin_add (x y : Nat) : fbin .add .f64 (some x) (some y) = ((Ieee.double.read x).sum (Ieee.double.read y)).map Ieee.double.write := rfl
theorem fbin_sub (x y : Nat) : fbin .sub .f64 (some x) (some y) = ((Ieee.double.read x).sum (Ieee.double.read y).opposite).map Ieee.double.write := rfl

theorem log2_B : (4503599627370496 : Nat).log2 = 52 := by decide +kernel
theorem half_core (s : Bool) {M : Nat} (e : Int) (h1 : 4503599627370496 ≤ M) (h2 : M < 9007199254740992) : (Datum.number s M e).quotient 54 (.number false 4503599627370496 (-51)) = some (.number s (M * 2 ^ 3) (e - 4)) := by
  have hl2 : M.log2 = 52 := log2_of (by omega) (by omega)
  have e1 : M <<< (54 + 52 - 52) = (M * 4) * 4503599627370496 := by
    rw [Nat.shiftLeft_eq, show (2 : Nat) ^ (54 + 52 - 52) = 4 * 4503599627370496 from by decide +kernel, Nat.mul_assoc]
  have hB : (4503599627370496 : Nat) ≠ 0 := by omega
  have hB0 : (0 : Nat) < 4503599627370496 := by omega
  generalize hb : (4503599627370496 : Nat) = B at *
  have hlB : B.log2 = 52 := by rw [← hb]; exact log2_B
  simp only [Datum.quotient, if_neg hB, hlB, hl2]
  rw [e1, Nat.mul_mod_left, Nat.mul_div_cancel _ hB0]
  have e2 : ((0 : Nat) != 0).toNat = 0 := rfl
  rw [e2, Nat.add_zero, Bool.xor_false]
  have a1 : 2 * (M * 4) = M * 2 ^ 3 := by omega
  have a2 : e - -51 - ((54 + 52 - 52 : Nat) : Int) - 1 = e - 4 := by omega
  rw [a1, a2]

theorem double_core (s : Bool) (M : Nat) (e : Int) : (Datum.number s M e).product (.number false 4503599627370496 (-51)) = some (.number s (M * 2 ^ 52) (e - 51)) := by
  simp only [Datum.product, Bool.xor_false]
  rw [show (2 : Nat) ^ 52 = 4503599627370496 from by decide +kernel]
  rw [Int.sub_eq_add_neg]

/-- A normal number without a sign, read. -/
theorem read_normal {b : Nat} (h1 : 4503599627370496 ≤ b) (h2 : b < 9218868437227405312) : Ieee.double.read b = .number false (4503599627370496 + b % 4503599627370496) (-1075 + (b / 4503599627370496 : Nat)) := by
  have hbm : b % 9223372036854775808 = b := Nat.mod_eq_of_lt (by omega)
  have hbd : b / 9223372036854775808 = 0 := Nat.div_eq_of_lt (by omega)
  rw [read_dbl, hbm, hbd, if_neg (by omega), if_pos h2]
  congr 1
  omega

theorem word_pos (r : Nat) : Ieee.double.word false r = r := rfl
theorem sum_split (b : Nat) : b = (b / 4503599627370496) * 4503599627370496 + b % 4503599627370496 := by omega

theorem half_of {b : Nat} (h1 : 9007199254740992 ≤ b) (h2 : b < 9218868437227405312) : fbin .quo .f64 (some b) (some 4611686018427387904) = some (b - 4503599627370496) := by
  rw [fbin_quo, read_two, read_normal (by omega) h2]
  have hm := Nat.mod_lt b (show 0 < 4503599627370496 by omega)
  have hs := sum_split b
  generalize b / 4503599627370496 = q at *
  generalize b % 4503599627370496 = t at *
  rw [half_core _ _ (by omega) (by omega), Option.map_some]
  show some (Ieee.double.nearest _ _ _) = _
  rw [nearest_53 _ _ (by omega) (by omega) (by omega) (by omega), word_pos]
  refine congrArg some ?_
  have e5 : ((-1075 : Int) + (q : Int) - 4 + ((3 : Nat) : Int) + 1074).toNat = q - 2 := by omega
  rw [e5]
  omega

theorem double_of {b : Nat} (h1 : 4503599627370496 ≤ b) (h2 : b + 4503599627370496 < 9218868437227405312) : fbin .mul .f64 (some b) (some 4611686018427387904) = some (b + 4503599627370496) := by
  rw [fbin_mul, read_two, read_normal h1 (by omega)]
  have hm := Nat.mod_lt b (show 0 < 4503599627370496 by omega)
  have hs := sum_split b
  generalize b / 4503599627370496 = q at *
  generalize b % 4503599627370496 = t at *
  rw [double_core, Option.map_some]
  show some (Ieee.double.nearest _ _ _) = _
  rw [nearest_53 _ _ (by omega) (by omega) (by omega) (by omega), word_pos]
  refine congrArg some ?_
  have e5 : ((-1075 : Int) + (q : Int) - 51 + ((52 : Nat) : Int) + 1074).toNat = q := by omega
  rw [e5]
  omega

/-! ### comparisons of numbers without a sign, by bits -/
theorem sr_pos {b : Nat} (h : b < 9223372036854775808) : sr .f64 b = b := by
  rw [sr64, if_neg (by omega), Nat.mod_eq_of_lt h]
theorem ford_pos {a b : Nat} (ha : a ≤ 9218868437227405312) (hb : b ≤ 9218868437227405312) : ford .f64 (some a) (some b) = some (compare (a : Int) (b : Int)) := by
  rw [ford_sr .f64 a b (cl64_of (by omega)) (cl64_of (by omega)), sr_pos (by omega), sr_pos (by omega)]
theorem lt_pos {a b : Nat} (ha : a ≤ 9218868437227405312) (hb : b ≤ 9218868437227405312) : (ford .f64 (some a) (some b) == some .lt) = decide (a < b) := by
  rw [ford_pos ha hb, int_compare]
  by_cases h : a < b
  · rw [if_pos (by omega), decide_eq_true h]; rfl
  · rw [if_neg (by omega), decide_eq_false h]; split <;> rfl
theorem ge_pos {a b : Nat} (ha : a ≤ 9218868437227405312) (hb : b ≤ 9218868437227405312) : (ford .f64 (some a) (some b) == some .gt || ford .f64 (some a) (some b) == some .eq) = decide (b ≤ a) := by
  rw [ford_pos ha hb, int_compare]
  by_cases h : b ≤ a
  · rw [if_neg (by omega), decide_eq_true h]; split <;> rfl
  · rw [if_pos (by omega), decide_eq_false h]; rfl
end Go.Proofs.Ytpjonajpgidjfaa
