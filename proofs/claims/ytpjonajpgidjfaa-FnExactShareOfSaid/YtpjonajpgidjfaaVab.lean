/-
  Plain laws on float64: whole parts, numbers without a sign, sums that are at least one, quotients of a lesser by a greater number. No condition.
-/
import Derived.Test.YtpjonajpgidjfaaVal
namespace Go.Proofs.Ytpjonajpgidjfaa
set_option linter.unusedVariables false
open Ieee

/-! ### lower bounds -/
theorem cut_ge (n drop : Nat) (neg : Bool) : n / 2 ^ drop ≤ Toward.even.cut neg n drop := by
  unfold Toward.cut
  dsimp only
  refine Nat.le_trans ?_ (Nat.le_add_right _ _)
  rw [Nat.one_shiftLeft]
  exact Nat.div_le_div_left (Nat.pow_le_pow_right (by decide) (Nat.min_le_left ..)) (Nat.two_pow_pos _)

theorem nearest_low {s : Bool} {m : Nat} {e : Int} {i : Int} (hi : -1022 ≤ i) (hu : i ≤ 1023) {k : Nat} (hk : 2 ^ k ≤ m) (hki : i ≤ (k : Int) + e) : R i ≤ Ieee.double.nearest s m e % 9223372036854775808 := by
  have h7 : Ieee.double.fractionBits = 52 := rfl
  have hm0 : m ≠ 0 := by have := Nat.two_pow_pos k; omega
  have hlk : k ≤ m.log2 := (Nat.le_log2 hm0).2 hk
  have key : R i ≤ Ieee.double.nearest s m e % Ieee.double.signWeight := by
    unfold Format.nearest
    dsimp only
    rw [if_neg hm0, word_rung _ _ (Nat.lt_of_le_of_lt (Nat.min_le_right ..) Ieee.double.infRung_lt)]
    have hmax : max (e + (m.log2 : Int) - (Ieee.double.fractionBits : Int)) Ieee.double.leastPlace = e + m.log2 - 52 := by rw [dbl_least, h7]; omega
    rw [hmax, dbl_binade, dbl_least, dbl_inf]
    have hR : R i ≤ 2046 * 4503599627370496 := Nat.mul_le_mul_right _ (by omega)
    refine Nat.le_min.2 ⟨?_, by omega⟩
    have hge := cut_ge (m <<< (e - (e + (m.log2 : Int) - 52)).toNat) (e + (m.log2 : Int) - 52 - e).toNat s
    have hd : 2 ^ 52 ≤ (m <<< (e - (e + (m.log2 : Int) - 52)).toNat) / 2 ^ (e + (m.log2 : Int) - 52 - e).toNat := by
      rw [Nat.le_div_iff_mul_le (Nat.two_pow_pos _), Nat.shiftLeft_eq, ← Nat.pow_add]
      calc 2 ^ (52 + (e + (m.log2 : Int) - 52 - e).toNat) = 2 ^ (m.log2 + (e - (e + (m.log2 : Int) - 52)).toNat) := by congr 1; omega
        _ = 2 ^ m.log2 * 2 ^ (e - (e + (m.log2 : Int) - 52)).toNat := by rw [Nat.pow_add]
        _ ≤ _ := Nat.mul_le_mul_right _ (Nat.log2_self_le hm0)
    have hR2 : R i ≤ ((e + (m.log2 : Int) - 52 - -1074).toNat + 1) * 4503599627370496 := Nat.mul_le_mul_right _ (by omega)
    generalize Toward.even.cut s _ _ = c at *
    omega
  rw [dbl_sign] at key
  exact key

theorem read_low {b : Nat} {i : Int} (hi : -1022 ≤ i) (h : R i ≤ b % 9223372036854775808) (hf : b % 9223372036854775808 < 9218868437227405312) : LowD (Ieee.double.read b) i := by
  have hRe : R i = (i + 1023).toNat * 4503599627370496 := rfl
  have hpi : ((i + 1023).toNat : Int) = i + 1023 := by omega
  rw [read_dbl]
  generalize b % 9223372036854775808 = r at *
  rw [if_neg (by omega), if_pos hf]
  exact ⟨_, _, _, rfl, 52, by omega, by omega⟩

theorem write_low {d : Datum} {i j : Int} (hi : -1022 ≤ i) (hu : i ≤ 1023) (h : LowD d i) (hj : -1022 ≤ j) (hju : j ≤ 1023) (hm : MagD d j) : Low (some (Ieee.double.write d)) i := by
  obtain ⟨s, m, e, rfl, k, hk, hki⟩ := h
  obtain ⟨s', m', e', hd', hm'⟩ := hm
  cases hd'
  have h1 := nearest_low (s := s) hi hu hk hki
  have h2 := nearest_mag (s := s) hj hju hm'
  have hR : R j ≤ 2046 * 4503599627370496 := Nat.mul_le_mul_right _ (by omega)
  exact ⟨_, rfl, read_low hi h1 (by show Ieee.double.nearest s m e % _ < _; omega)⟩

theorem low_mono {a : Option Nat} {i j : Int} (h : Low a i) (hij : j ≤ i) : Low a j := by
  obtain ⟨b, rfl, s, m, e, hd, k, h1, h2⟩ := h
  exact ⟨b, rfl, s, m, e, hd, k, h1, by omega⟩

/-! ### numbers without a sign -/
/-- A number from 0 to 2^i, without a sign. -/
def Nn (a : Option Nat) (i : Int) : Prop := ∃ b m e, a = some b ∧ Ieee.double.read b = .number false m e ∧ (m = 0 ∨ ∃ k : Nat, m ≤ 2 ^ k ∧ (k : Int) + e ≤ i)

theorem nn_mag {a : Option Nat} {i : Int} (h : Nn a i) : Mag a i := by
  obtain ⟨b, m, e, ha, hd, hm⟩ := h
  exact ⟨b, ha, _, _, _, hd, hm⟩
theorem nn_mono {a : Option Nat} {i j : Int} (h : Nn a i) (hij : i ≤ j) : Nn a j := by
  obtain ⟨b, m, e, rfl, hd, hm⟩ := h
  exact ⟨b, m, e, rfl, hd, hm.imp id fun ⟨k, h1, h2⟩ => ⟨k, h1, by omega⟩⟩

theorem read_sign {b : Nat} {s : Bool} {m : Nat} {e : Int} (h : Ieee.double.read b = .number s m e) : s = (b / 9223372036854775808 % 2 == 1) := by
  rw [read_dbl] at h
  split at h
  · cases h; rfl
  · split at h
    · cases h; rfl
    · split at h <;> cases h

theorem nearest_pos (m : Nat) (e : Int) : Ieee.double.nearest false m e ≤ 9218868437227405312 := by
  unfold Format.nearest
  dsimp only
  split
  · rw [word_false]; omega
  · rw [word_false, dbl_inf]; exact Nat.min_le_right _ _

theorem write_nn {m : Nat} {e : Int} {i : Int} (hi : -1022 ≤ i) (hu : i ≤ 1023) (hm : m = 0 ∨ ∃ k : Nat, m ≤ 2 ^ k ∧ (k : Int) + e ≤ i) : Nn (some (Ieee.double.write (.number false m e))) i := by
  have h1 := nearest_mag (s := false) hi hu hm
  obtain ⟨s', m', e', hd, hm'⟩ := read_mag hi hu h1
  have hs := read_sign hd
  have hlt : Ieee.double.nearest false m e < 9223372036854775808 := by have := nearest_pos m e; omega
  have hs0 : s' = false := by
    rw [hs, Nat.div_eq_of_lt hlt]; rfl
  subst hs0
  exact ⟨_, m', e', rfl, hd, hm'⟩

theorem nn_square {a : Option Nat} {i : Int} (ha : Mag a i) (hi : -1022 ≤ i + i) (hu : i + i ≤ 1023) : Nn (fbin .mul .f64 a a) (i + i) := by
  obtain ⟨x, rfl, s, m, e, hx, hm⟩ := ha
  rw [fbin_mul, hx]
  simp only [Datum.product, Bool.xor_self, Option.map_some]
  refine write_nn hi hu ?_
  rcases hm with rfl | ⟨k, h1, h2⟩
  · left; rfl
  · right; exact ⟨k + k, by rw [Nat.pow_add]; exact Nat.mul_le_mul h1 h1, by omega⟩

theorem nn_sum {m n : Nat} {e f i : Int} (hm : m = 0 ∨ ∃ k : Nat, m ≤ 2 ^ k ∧ (k : Int) + e ≤ i) (hn : n = 0 ∨ ∃ k : Nat, n ≤ 2 ^ k ∧ (k : Int) + f ≤ i) :
    (Datum.number false m e).sum (.number false n f) = some (.number false (m <<< (e - min e f).toNat + n <<< (f - min e f).toNat) (min e f)) ∧
      (m <<< (e - min e f).toNat + n <<< (f - min e f).toNat = 0 ∨ ∃ k : Nat, m <<< (e - min e f).toNat + n <<< (f - min e f).toNat ≤ 2 ^ k ∧ (k : Int) + min e f ≤ i + 1) := by
  constructor
  · simp only [Datum.sum, signed, Bool.false_eq_true, if_false, Bool.and_self]
    generalize m <<< (e - min e f).toNat = A
    generalize n <<< (f - min e f).toNat = B
    congr 2
    · have : ¬ ((A : Int) + (B : Int) < 0) := by omega
      split <;> simp [this]
  · have hx : MagD (.number false m e) i := ⟨_, _, _, rfl, hm⟩
    have hy : MagD (.number false n f) i := ⟨_, _, _, rfl, hn⟩
    obtain ⟨d, hd, s, M, E, hde, hM⟩ := mag_sum hx hy
    simp only [Datum.sum, signed, Bool.false_eq_true, if_false, Option.some.injEq] at hd
    rw [← hd] at hde
    cases hde
    have : ((m <<< (e - min e f).toNat : Nat) : Int) + ((n <<< (f - min e f).toNat : Nat) : Int) = ((m <<< (e - min e f).toNat + n <<< (f - min e f).toNat : Nat) : Int) := by omega
    rw [this, Int.natAbs_natCast] at hM
    exact hM

theorem nn_add {a b : Option Nat} {i : Int} (ha : Nn a i) (hb : Nn b i) (hi : -1023 ≤ i) (hu : i ≤ 1022) : Nn (fbin .add .f64 a b) (i + 1) := by
  obtain ⟨x, m, e, rfl, hx, hm⟩ := ha
  obtain ⟨y, n, f, rfl, hy, hn⟩ := hb
  rw [fbin_add, hx, hy]
  obtain ⟨h1, h2⟩ := nn_sum hm hn
  rw [h1]
  exact write_nn (by omega) (by omega) h2

theorem nn_sqrt {a : Option Nat} {i : Int} (ha : Nn a (2 * i)) (hi : -1022 ≤ i) (hu : i ≤ 1023) : Nn (fsqrt a) i := by
  obtain ⟨x, m, e, rfl, hx, hm⟩ := ha
  have hq := mag_sqrt (b := x) (i := i) ⟨_, _, _, hx, hm⟩ (by intro s m' e' h' _; rw [hx] at h'; cases h'; rfl) hi hu
  obtain ⟨r, hr, s, M, E, hd, hM⟩ := hq
  have hs : s = false := by
    have h0 : fsqrt (some x) = ((Ieee.double.read x).root 54).map Ieee.double.write := rfl
    rw [h0, hx] at hr
    have hroot : ∃ M' E', (Datum.number false m e).root 54 = some (.number false M' E') := by
      by_cases h0 : m = 0
      · simp only [Datum.root, if_pos h0]; exact ⟨_, _, rfl⟩
      · simp only [Datum.root, if_neg h0, Bool.false_eq_true, if_false]
        exact ⟨_, _, rfl⟩
    obtain ⟨M', E', hroot⟩ := hroot
    rw [hroot] at hr
    have hr' : Ieee.double.nearest false M' E' = r := Option.some.inj hr
    have hlt : Ieee.double.nearest false M' E' < 9223372036854775808 := by have := nearest_pos M' E'; omega
    rw [read_sign hd, ← hr', Nat.div_eq_of_lt hlt]; rfl
  subst hs
  exact ⟨r, M, E, hr, hd, hM⟩

/-- 1.0 -/
theorem read_one : Ieee.double.read 4607182418800017408 = .number false 4503599627370496 (-52) := by decide +kernel
theorem nn_one : Nn (some 4607182418800017408) 0 := ⟨_, _, _, rfl, read_one, .inr ⟨52, by decide, by decide⟩⟩

/-- One and a number without a sign: at least one. -/
theorem low_one_add {a : Option Nat} {i : Int} (ha : Nn a i) (h0 : 0 ≤ i) (hu : i ≤ 1022) : Low (fbin .add .f64 (some 4607182418800017408) a) 0 := by
  obtain ⟨y, n, f, rfl, hy, hn⟩ := ha
  rw [fbin_add, read_one, hy]
  obtain ⟨h1, h2⟩ := nn_sum (m := 4503599627370496) (e := -52) (i := i) (.inr ⟨52, by decide, by omega⟩) hn
  rw [h1]
  refine write_low (j := i + 1) (by decide) (by decide) ⟨_, _, _, rfl, (0 - min (-52) f).toNat, ?_, by omega⟩ (by omega) (by omega) ⟨_, _, _, rfl, h2⟩
  refine Nat.le_trans ?_ (Nat.le_add_right _ _)
  rw [Nat.shiftLeft_eq, show (4503599627370496 : Nat) = 2 ^ 52 from by decide +kernel, ← Nat.pow_add]
  exact Nat.pow_le_pow_right (by decide) (by omega)
theorem low_add_one {a : Option Nat} {i : Int} (ha : Nn a i) (h0 : 0 ≤ i) (hu : i ≤ 1022) : Low (fbin .add .f64 a (some 4607182418800017408)) 0 := by
  obtain ⟨y, n, f, rfl, hy, hn⟩ := ha
  rw [fbin_add, read_one, hy]
  obtain ⟨h1, h2⟩ := nn_sum (n := 4503599627370496) (f := -52) (i := i) hn (.inr ⟨52, by decide, by omega⟩)
  rw [h1]
  refine write_low (j := i + 1) (by decide) (by decide) ⟨_, _, _, rfl, (0 - min f (-52)).toNat, ?_, by omega⟩ (by omega) (by omega) ⟨_, _, _, rfl, h2⟩
  refine Nat.le_trans ?_ (Nat.le_add_left _ _)
  rw [Nat.shiftLeft_eq, show (4503599627370496 : Nat) = 2 ^ 52 from by decide +kernel, ← Nat.pow_add]
  exact Nat.pow_le_pow_right (by decide) (by omega)

theorem nn_bits {b : Nat} {i : Int} (hi : -1022 ≤ i) (hu : i ≤ 1023) (h : b ≤ R i) : Nn (some b) i := by
  have hR : R i ≤ 2046 * 4503599627370496 := Nat.mul_le_mul_right _ (by omega)
  have hb : b % 9223372036854775808 = b := Nat.mod_eq_of_lt (by omega)
  obtain ⟨s, m, e, hd, hm⟩ := read_mag (b := b) hi hu (by rw [hb]; exact h)
  have hs := read_sign hd
  rw [Nat.div_eq_of_lt (by omega)] at hs
  have hs0 : s = false := hs
  subst hs0
  exact ⟨b, m, e, rfl, hd, hm⟩

/-! ### whole parts -/
theorem zero_cut (s : Bool) (n d : Nat) : Toward.zero.cut s n d = n / 2 ^ d := by
  unfold Toward.cut
  dsimp only
  rw [Nat.one_shiftLeft]
  by_cases hd : d ≤ n.log2 + 2
  · rw [Nat.min_eq_left hd]; rfl
  · rw [Nat.min_eq_right (by omega)]
    rcases Nat.eq_zero_or_pos n with rfl | hn
    · simp
    · have h1 : n < 2 ^ (n.log2 + 1) := (Nat.log2_lt (by omega)).1 (Nat.lt_succ_self _)
      have h2 : 2 ^ (n.log2 + 1) ≤ 2 ^ (n.log2 + 2) := Nat.pow_le_pow_right (by decide) (by omega)
      have h3 : 2 ^ (n.log2 + 1) ≤ 2 ^ d := Nat.pow_le_pow_right (by decide) (by omega)
      rw [Nat.div_eq_of_lt (by omega), Nat.div_eq_of_lt (by omega)]; rfl

theorem parts52 {b : Nat} (h : b % 9223372036854775808 < R 52) : ∃ s m d, Ieee.double.read b = .number s m (-((d : Nat) : Int)) ∧ 1 ≤ d ∧ m < 9007199254740992 := by
  have hR : R 52 = 1075 * 4503599627370496 := rfl
  rw [read_dbl]
  generalize b % 9223372036854775808 = r at *
  by_cases h1 : r < 4503599627370496
  · rw [if_pos h1]; exact ⟨_, _, 1074, rfl, by omega, by omega⟩
  · rw [if_neg h1, if_pos (by omega)]
    have hq : r / 4503599627370496 ≤ 1074 := by omega
    have e1 : (-1074 : Int) + ((r / 4503599627370496 - 1 : Nat) : Int) = -((1074 - (r / 4503599627370496 - 1) : Nat) : Int) := by omega
    rw [e1]
    exact ⟨_, 4503599627370496 + r % 4503599627370496, 1074 - (r / 4503599627370496 - 1), rfl, by omega, by omega⟩

/-- The whole part of a number, as a number. -/
def wholeB (b : Nat) : Nat := Ieee.double.write ((Ieee.double.read b).integral .zero)
/-- The whole part as an integer. -/
def wholeI (b : Nat) : Int := ((Ieee.double.read b).toInt .zero).getD 0

theorem whole_parts {b : Nat} (h : b % 9223372036854775808 < R 52) : ∃ s m d, Ieee.double.read b = .number s m (-((d : Nat) : Int)) ∧ 1 ≤ d ∧ m < 9007199254740992 ∧
    wholeB b = Ieee.double.nearest s (m / 2 ^ d) 0 ∧ (Ieee.double.read b).toInt .zero = some (signed s (m / 2 ^ d) 0) ∧ wholeI b = signed s (m / 2 ^ d) 0 := by
  obtain ⟨s, m, d, hd, h1, h2⟩ := parts52 h
  have hint : (Ieee.double.read b).integral .zero = .number s (m / 2 ^ d) 0 := by
    rw [hd]
    simp only [Datum.integral]
    rw [show (-((d : Nat) : Int)).toNat = 0 by omega, show (-(-((d : Nat) : Int))).toNat = d by omega, Nat.shiftLeft_zero, zero_cut]
  have htoi : (Ieee.double.read b).toInt .zero = some (signed s (m / 2 ^ d) 0) := by unfold Datum.toInt; rw [hint]
  refine ⟨s, m, d, hd, h1, h2, ?_, htoi, ?_⟩
  · unfold wholeB; rw [hint]; rfl
  · unfold wholeI; rw [htoi]; rfl

theorem signed_zero (s : Bool) (m : Nat) : signed s m 0 = if s then -(m : Int) else (m : Int) := by
  unfold signed; rw [Nat.shiftLeft_zero]

/-- The integer fits, and as a float it is the whole part, but for the sign of nought. -/
theorem whole_int {b : Nat} (h : b % 9223372036854775808 < R 52) : floatToIntVal .f64 b .i64 = some (wholeI b) ∧ (wholeI b ≠ 0 → floatOfInt .f64 (wholeI b) = wholeB b) ∧ (wholeI b = 0 → wholeB b % 9223372036854775808 = 0) := by
  obtain ⟨s, m, d, hd, h1, h2, hb, hi, hw⟩ := whole_parts h
  have hlt : m / 2 ^ d < 9007199254740992 := Nat.lt_of_le_of_lt (Nat.div_le_self _ _) h2
  generalize m / 2 ^ d = c at *
  refine ⟨?_, ?_, ?_⟩
  · unfold floatToIntVal
    rw [show (FloatKind.f64.decode b).toInt .zero = some (signed s c 0) from hi, hw, signed_zero]
    have hmin : IntKind.i64.min = -9223372036854775808 := by decide
    have hmax : IntKind.i64.max = 9223372036854775807 := by decide
    simp only [hmin, hmax]
    rw [if_pos (by split <;> omega)]
  · intro hne
    rw [hw, signed_zero] at hne ⊢
    rw [hb]
    show Ieee.double.nearest _ _ _ = _
    cases s
    · simp only [Bool.false_eq_true, if_false] at hne ⊢
      have e1 : decide ((c : Int) < 0) = false := by simp
      rw [e1, Int.natAbs_natCast]
    · simp only [if_true] at hne ⊢
      have e1 : decide (-(c : Int) < 0) = true := by simp; omega
      rw [e1, Int.natAbs_neg, Int.natAbs_natCast]
  · intro h0
    rw [hw, signed_zero] at h0
    have hc : c = 0 := by split at h0 <;> omega
    rw [hb, hc]
    unfold Format.nearest
    rw [if_pos rfl]
    rw [word_dbl]
    cases s <;> simp

theorem read_nearest (s : Bool) {m : Nat} {e : Int} (hm0 : m ≠ 0) (hm : m < 9007199254740992) (hl : -1022 ≤ e + m.log2) (hu : e + m.log2 ≤ 1023) :
    Ieee.double.read (Ieee.double.nearest s m e) = .number s (m * 2 ^ (52 - m.log2)) (e + m.log2 - 52) := by
  have hlog : m.log2 < 53 := (Nat.log2_lt hm0).2 hm
  rw [nearest_exact s m e hm0 hm hl hu]
  have hq1 : 4503599627370496 ≤ m * 2 ^ (52 - m.log2) := by
    calc (4503599627370496 : Nat) = 2 ^ m.log2 * 2 ^ (52 - m.log2) := by rw [← Nat.pow_add, show m.log2 + (52 - m.log2) = 52 by omega]
      _ ≤ _ := Nat.mul_le_mul_right _ (Nat.log2_self_le hm0)
  have hq2 : m * 2 ^ (52 - m.log2) < 9007199254740992 := by
    have hlt : m < 2 ^ (m.log2 + 1) := (Nat.log2_lt hm0).1 (Nat.lt_succ_self _)
    calc m * 2 ^ (52 - m.log2) < 2 ^ (m.log2 + 1) * 2 ^ (52 - m.log2) := Nat.mul_lt_mul_of_pos_right hlt (Nat.two_pow_pos _)
      _ = 9007199254740992 := by rw [← Nat.pow_add, show m.log2 + 1 + (52 - m.log2) = 53 by omega]
  generalize m * 2 ^ (52 - m.log2) = q at *
  have hp : (e + (m.log2 : Int) + 1022).toNat ≤ 2045 := by omega
  have hpe : ((e + (m.log2 : Int) + 1022).toNat : Int) = e + m.log2 + 1022 := by omega
  generalize (e + (m.log2 : Int) + 1022).toNat = p at *
  rw [word_dbl, read_dbl]
  have hr : ((if s = true then 9223372036854775808 else 0) + (p * 4503599627370496 + q)) % 9223372036854775808 = p * 4503599627370496 + q := by split <;> omega
  have hs : ((if s = true then 9223372036854775808 else 0) + (p * 4503599627370496 + q)) / 9223372036854775808 % 2 = if s = true then 1 else 0 := by split <;> omega
  rw [hr, hs, if_neg (by omega), if_pos (by omega)]
  have e1 : (p * 4503599627370496 + q) % 4503599627370496 = q - 4503599627370496 := by omega
  have e2 : (p * 4503599627370496 + q) / 4503599627370496 = p + 1 := by omega
  rw [e1, e2]
  have e3 : 4503599627370496 + (q - 4503599627370496) = q := by omega
  have e4 : (-1074 : Int) + ((p + 1 - 1 : Nat) : Int) = e + m.log2 - 52 := by omega
  have e5 : ((if s = true then 1 else 0) == 1) = s := by cases s <;> rfl
  rw [e3, e4, e5]

/-- What is left without the whole part: at most 2. -/
theorem frac_mag {b : Nat} (h : b % 9223372036854775808 < R 52) : Mag (fbin .sub .f64 (some b) (some (wholeB b))) 1 := by
  obtain ⟨s, m, d, hd, h1, h2, hb, hi, hw⟩ := whole_parts h
  have hlt : m / 2 ^ d < 9007199254740992 := Nat.lt_of_le_of_lt (Nat.div_le_self _ _) h2
  have hdm := Nat.div_add_mod m (2 ^ d)
  have hmod := Nat.mod_lt m (Nat.two_pow_pos d)
  by_cases hc : m / 2 ^ d = 0
  · rw [hc] at hdm hb
    have hm1 : Mag (some b) 0 := ⟨b, rfl, s, m, _, hd, .inr ⟨d, by omega, by omega⟩⟩
    have hz : Mag (some (wholeB b)) 0 := by
      rw [hb]
      exact write_mag (d := .number s 0 0) (by decide) (by decide) ⟨_, _, _, rfl, .inl rfl⟩
    exact mag_sub hm1 hz (by decide) (by decide)
  · have hlog : (m / 2 ^ d).log2 < 53 := (Nat.log2_lt hc).2 hlt
    rw [fbin_sub, hd, hb, read_nearest s hc hlt (by omega) (by omega)]
    simp only [Datum.opposite, Datum.sum, Option.map_some]
    refine write_mag (by decide) (by decide) ⟨_, _, _, rfl, ?_⟩
    generalize hC : m / 2 ^ d = c at *
    generalize hbase : min (-((d : Nat) : Int)) (0 + (c.log2 : Int) - 52) = base
    have eA : m <<< (-((d : Nat) : Int) - base).toNat = (c * 2 ^ d + m % 2 ^ d) * 2 ^ (-((d : Nat) : Int) - base).toNat := by
      rw [Nat.shiftLeft_eq]; congr 1; rw [Nat.mul_comm c]; exact hdm.symm
    have eB : (c * 2 ^ (52 - c.log2)) <<< (0 + (c.log2 : Int) - 52 - base).toNat = (c * 2 ^ d) * 2 ^ (-((d : Nat) : Int) - base).toNat := by
      rw [Nat.shiftLeft_eq, Nat.mul_assoc, Nat.mul_assoc, ← Nat.pow_add, ← Nat.pow_add]
      congr 2
      omega
    have hT : (signed s m (-((d : Nat) : Int) - base).toNat + signed (!s) (c * 2 ^ (52 - c.log2)) (0 + (c.log2 : Int) - 52 - base).toNat).natAbs = m % 2 ^ d * 2 ^ (-((d : Nat) : Int) - base).toNat := by
      unfold signed
      rw [eA, eB, Nat.add_mul]
      generalize c * 2 ^ d * 2 ^ (-((d : Nat) : Int) - base).toNat = X
      generalize m % 2 ^ d * 2 ^ (-((d : Nat) : Int) - base).toNat = Y
      cases s <;> simp <;> omega
    rw [hT]
    right
    refine ⟨d + (-((d : Nat) : Int) - base).toNat, ?_, by omega⟩
    rw [Nat.pow_add]
    exact Nat.mul_le_mul_right _ (Nat.le_of_lt hmod)
end Go.Proofs.Ytpjonajpgidjfaa
