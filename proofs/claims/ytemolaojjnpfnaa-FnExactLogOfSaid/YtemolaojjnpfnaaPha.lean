/-
  Plain laws: what is left of turns lies between 0 and 1, and how often a quarter can be taken away. No condition.
-/
import Derived.Test.YtemolaojjnpfnaaSin
namespace Go.Proofs.Ytemolaojjnpfnaa
set_option linter.unusedVariables false
open Ieee

theorem mag_le {b : Nat} {i : Int} (hb : b < 18446744073709551616) (hf : b % 9223372036854775808 < 9218868437227405312) (hi : -1022 ≤ i) (hu : i ≤ 1023) (hm : MagD (Ieee.double.read b) i) : b % 9223372036854775808 ≤ R i := by
  obtain ⟨s, m, e, hd, h⟩ := hm
  have hw := write_back hb hf hd
  have hp := (read_place hd).1
  have := nearest_mag (s := s) (m := m <<< (e + 1074).toNat) (e := -1074) hi hu (by
    rcases h with rfl | ⟨k, h1, h2⟩
    · left; rw [Nat.zero_shiftLeft]
    · right
      refine ⟨k + (e + 1074).toNat, ?_, by omega⟩
      rw [Nat.shiftLeft_eq, Nat.pow_add]
      exact Nat.mul_le_mul_right _ h1)
  rw [hw] at this
  exact this

theorem R0_eq : R 0 = 4607182418800017408 := rfl

/-- What is left without the whole part: bits of at most 1, of either sign. -/
theorem frac_bits {b : Nat} (hb : b < 18446744073709551616) (h : b % 9223372036854775808 < R 52) :
    ∃ c, (if wholeI b = 0 then some b else fbin .sub .f64 (some b) (some (wholeB b))) = some c ∧ c < 18446744073709551616 ∧ c % 9223372036854775808 ≤ R 0 := by
  have hR : R 52 = 1075 * 4503599627370496 := rfl
  obtain ⟨s, m, d, hd, h1, h2, hwb, hi, hw⟩ := whole_parts h
  have hdm := Nat.div_add_mod m (2 ^ d)
  have hmod := Nat.mod_lt m (Nat.two_pow_pos d)
  by_cases h0 : wholeI b = 0
  · rw [if_pos h0]
    refine ⟨b, rfl, hb, mag_le hb (by omega) (by decide) (by decide) ?_⟩
    rw [hw, signed_zero] at h0
    have hc : m / 2 ^ d = 0 := by split at h0 <;> omega
    rw [hc] at hdm
    exact ⟨s, m, _, hd, .inr ⟨d, by omega, by omega⟩⟩
  · rw [if_neg h0]
    have hc : m / 2 ^ d ≠ 0 := by
      intro hc
      apply h0
      rw [hw, signed_zero, hc]; simp
    have hlt : m / 2 ^ d < 9007199254740992 := Nat.lt_of_le_of_lt (Nat.div_le_self _ _) h2
    have hlog : (m / 2 ^ d).log2 < 53 := (Nat.log2_lt hc).2 hlt
    rw [fbin_sub, hd, hwb, read_nearest s hc hlt (by omega) (by omega)]
    simp only [Datum.opposite, Datum.sum, Option.map_some]
    refine ⟨_, rfl, ?_⟩
    generalize hC : m / 2 ^ d = c at *
    generalize hbase : min (-((d : Nat) : Int)) (0 + (c.log2 : Int) - 52) = base
    have eA : m <<< (-((d : Nat) : Int) - base).toNat = (c * 2 ^ d + m % 2 ^ d) * 2 ^ (-((d : Nat) : Int) - base).toNat := by
      rw [Nat.shiftLeft_eq]; congr 1; rw [Nat.mul_comm c]; exact hdm.symm
    have eB : (c * 2 ^ (52 - c.log2)) <<< (0 + (c.log2 : Int) - 52 - base).toNat = (c * 2 ^ d) * 2 ^ (-((d : Nat) : Int) - base).toNat := by
      rw [Nat.shiftLeft_eq, Nat.mul_assoc, Nat.mul_assoc, ← Nat.pow_add, ← Nat.pow_add]
      congr 2
      omega
    have hT : (signed s m (-((d : Nat) : Int) - base).toNat + signed (!s) (c * 2 ^ (52 - c.log2)) (0 + (c.log2 : Int) - 52 - base).toNat).natAbs = m % 2 ^ d * 2 ^ (-((d : Nat) : Int) - base).toNat := by
      unfold signed
      rw [eA, eB, Nat.add_mul]
      generalize c * 2 ^ d * 2 ^ (-((d : Nat) : Int) - base).toNat = X
      generalize m % 2 ^ d * 2 ^ (-((d : Nat) : Int) - base).toNat = Y
      cases s <;> simp <;> omega
    rw [hT]
    have hm : ∀ sg, Ieee.double.nearest sg (m % 2 ^ d * 2 ^ (-((d : Nat) : Int) - base).toNat) base % 9223372036854775808 ≤ R 0 := fun sg => nearest_mag (by decide) (by decide) (.inr ⟨d + (-((d : Nat) : Int) - base).toNat, by
      rw [Nat.pow_add]
      exact Nat.mul_le_mul_right _ (Nat.le_of_lt hmod), by omega⟩)
    have hl : ∀ sg, Ieee.double.nearest sg (m % 2 ^ d * 2 ^ (-((d : Nat) : Int) - base).toNat) base < 18446744073709551616 := by
      intro sg
      have hl := Ieee.Format.nearest_lt Ieee.double sg (m % 2 ^ d * 2 ^ (-((d : Nat) : Int) - base).toNat) base
      rw [show 2 ^ Ieee.double.width = 18446744073709551616 from by decide +kernel] at hl
      exact hl
    exact ⟨hl _, hm _⟩

theorem flt_zero {c : Nat} (hc : c < 18446744073709551616) (h : c % 9223372036854775808 ≤ R 0) : flt (some c) (some 0) = decide (9223372036854775808 < c) := by
  have hR := R0_eq
  have e := ford_sr .f64 c 0 (cl64_of (by omega)) (cl_zero _)
  unfold flt
  rw [e, show sr .f64 0 = 0 from by decide +kernel, sr64, int_compare]
  split
  · by_cases h2 : 9223372036854775808 < c
    · rw [if_pos (by omega), decide_eq_true h2]; rfl
    · rw [if_neg (by omega), decide_eq_false h2]
      split <;> rfl
  · rw [if_neg (by omega), decide_eq_false (by omega)]
    split <;> rfl

theorem one_add {c : Nat} (hc : c < 18446744073709551616) (h1 : 9223372036854775808 < c) (h : c % 9223372036854775808 ≤ R 0) : ∃ r, fbin .add .f64 (some c) (some c1) = some r ∧ r ≤ R 0 := by
  obtain ⟨s, m, e, hd, hm⟩ := read_mag (i := 0) (by decide) (by decide) h
  have hs := read_sign hd
  have hR := R0_eq
  have hs1 : s = true := by
    rw [hs, show c / 9223372036854775808 % 2 = 1 by omega]; rfl
  subst hs1
  unfold c1
  rw [fbin_add, hd, read_one]
  simp only [Datum.sum, Option.map_some]
  refine ⟨_, rfl, ?_⟩
  have hA : m <<< (e - min e (-52)).toNat ≤ 4503599627370496 <<< (-52 - min e (-52)).toNat := by
    rcases hm with rfl | ⟨k, h1, h2⟩
    · rw [Nat.zero_shiftLeft]; exact Nat.zero_le _
    · refine Nat.le_trans (shift_le h1 h2 (by omega)) ?_
      rw [Nat.shiftLeft_eq, show (4503599627370496 : Nat) = 2 ^ 52 from by decide +kernel, ← Nat.pow_add]
      exact Nat.pow_le_pow_right (by decide) (by omega)
  have hB : 4503599627370496 <<< (-52 - min e (-52)).toNat = 2 ^ (52 + (-52 - min e (-52)).toNat) := by
    rw [Nat.shiftLeft_eq, Nat.pow_add, show (2 : Nat) ^ 52 = 4503599627370496 from by decide +kernel]
  unfold signed
  simp only [if_true, Bool.false_eq_true, if_false, Bool.and_false]
  generalize hX : m <<< (e - min e (-52)).toNat = X at *
  generalize hY : 4503599627370496 <<< (-52 - min e (-52)).toNat = Y at *
  have hsg : (if -(X : Int) + (Y : Int) = 0 then false else decide (-(X : Int) + (Y : Int) < 0)) = false := by
    split
    · rfl
    · exact decide_eq_false (by omega)
  have hn : (-(X : Int) + (Y : Int)).natAbs = Y - X := by omega
  rw [hsg, hn]
  have hle := nearest_mag (s := false) (m := Y - X) (e := min e (-52)) (i := 0) (by decide) (by decide) (.inr ⟨52 + (-52 - min e (-52)).toNat, by omega, by omega⟩)
  have hp := nearest_pos (Y - X) (min e (-52))
  show Ieee.double.nearest false (Y - X) (min e (-52)) ≤ R 0
  omega

/-- What is left of turns: between 0 and 1, or the other nought. -/
theorem frac_unit {b : Nat} (hb : b < 18446744073709551616) (h : b % 9223372036854775808 < R 52) : ∃ c, fracF b = some c ∧ (c ≤ R 0 ∨ c = 9223372036854775808) := by
  obtain ⟨c, hc, h1, h2⟩ := frac_bits hb h
  have hR := R0_eq
  unfold fracF
  dsimp only
  rw [hc, flt_zero h1 h2]
  by_cases h3 : 9223372036854775808 < c
  · rw [if_pos (decide_eq_true h3)]
    obtain ⟨r, hr, h4⟩ := one_add h1 h3 h2
    exact ⟨r, hr, .inl h4⟩
  · rw [if_neg (by rw [decide_eq_false h3]; simp)]
    exact ⟨c, rfl, by omega⟩

/-! ### quarters -/
def lev : Nat → Nat
  | 0 => 4607182418800017408
  | 1 => 4604930618986332160
  | 2 => 4602678819172646912
  | 3 => 4598175219545276416
  | _ => 0

theorem lev_le (j : Nat) : lev j ≤ 4607182418800017408 := by
  match j with
  | 0 => decide
  | 1 => decide
  | 2 => decide
  | 3 => decide
  | _ + 4 => exact Nat.zero_le _

theorem read_quarter : Ieee.double.read 4598175219545276416 = .number false 4503599627370496 (-54) := by decide +kernel

theorem lev_step {j c : Nat} (hj : j ≤ 4) (h1 : 4598175219545276416 ≤ c) (h2 : c ≤ lev j) : j ≤ 3 ∧ ∃ r, fbin .sub .f64 (some c) (some 4598175219545276416) = some r ∧ r ≤ lev (j + 1) := by
  have hj3 : j ≤ 3 := by
    rcases Nat.lt_or_eq_of_le hj with h | rfl
    · omega
    · exfalso; have : lev 4 = 0 := rfl; omega
  refine ⟨hj3, ?_⟩
  have hl0 := lev_le j
  rw [fbin_sub, read_normal (by omega) (by omega), read_quarter]
  simp only [Datum.opposite, Datum.sum, Option.map_some]
  refine ⟨_, rfl, ?_⟩
  have hc := sum_split c
  have hf := Nat.mod_lt c (show 0 < 4503599627370496 by decide)
  generalize c % 4503599627370496 = f at *
  have hP : c / 4503599627370496 = 1021 ∨ c / 4503599627370496 = 1022 ∨ (c / 4503599627370496 = 1023 ∧ f = 0) := by omega
  rcases hP with hP | hP | ⟨hP, rfl⟩
  · rw [hP] at hc ⊢
    rw [show (-1075 + ((1021 : Nat) : Int)) = -54 from rfl, show min (-54 : Int) (-54) = -54 from rfl, show ((-54 : Int) - -54).toNat = 0 from rfl]
    unfold signed
    simp only [Bool.not_false, if_true, Bool.false_eq_true, if_false, Bool.false_and, Nat.shiftLeft_zero]
    by_cases h0 : f = 0
    · subst h0
      rw [if_pos (by omega), show (((4503599627370496 + 0 : Nat) : Int) + -((4503599627370496 : Nat) : Int)).natAbs = 0 from by omega]
      have : Ieee.double.write (.number false 0 (-54)) = 0 := by decide +kernel
      rw [this]; exact Nat.zero_le _
    · rw [if_neg (by omega), decide_eq_false (by omega), show (((4503599627370496 + f : Nat) : Int) + -((4503599627370496 : Nat) : Int)).natAbs = f from by omega]
      have hle := nearest_mag (s := false) (m := f) (e := -54) (i := -2) (by decide) (by decide) (.inr ⟨52, by omega, by decide⟩)
      have hp := nearest_pos f (-54)
      have hR : R (-2) = 4598175219545276416 := rfl
      have hl : 4598175219545276416 ≤ lev (j + 1) := by
        match j, hj3, h2 with
        | 0, _, _ => decide
        | 1, _, _ => decide
        | 2, _, _ => decide
        | 3, _, h2 => exfalso; have : lev 3 = 4598175219545276416 := rfl; omega
      show Ieee.double.nearest false f (-54) ≤ _
      omega
  · rw [hP] at hc ⊢
    rw [show (-1075 + ((1022 : Nat) : Int)) = -53 from rfl, show min (-53 : Int) (-54) = -54 from rfl, show ((-53 : Int) - -54).toNat = 1 from rfl, show ((-54 : Int) - -54).toNat = 0 from rfl]
    unfold signed
    simp only [Bool.not_false, if_true, Bool.false_eq_true, if_false, Bool.false_and, Nat.shiftLeft_eq]
    rw [show (2 : Nat) ^ 1 = 2 from rfl, if_neg (by omega), decide_eq_false (by omega), show ((((4503599627370496 + f) * 2 : Nat) : Int) + -((4503599627370496 : Nat) : Int)).natAbs = 4503599627370496 + 2 * f from by omega]
    show Ieee.double.nearest false (4503599627370496 + 2 * f) (-54) ≤ _
    have hval : Ieee.double.nearest false (4503599627370496 + 2 * f) (-54) ≤ (if 2 * f < 4503599627370496 then 1021 * 4503599627370496 + 2 * f else 1021 * 4503599627370496 + 2251799813685248 + f) := by
      split
      · rename_i hf2
        have e := nearest_53 false (m := 4503599627370496 + 2 * f) 0 (p := -54) (by omega) (by omega) (by decide) (by decide)
        rw [Nat.pow_zero, Nat.mul_one] at e
        rw [e, word_false, show ((-54 : Int) + ((0 : Nat) : Int) + 1074).toNat = 1020 from rfl]
        omega
      · rename_i hf2
        have e := nearest_53 false (m := 2251799813685248 + f) 1 (p := -54) (by omega) (by omega) (by decide) (by decide)
        rw [show (2 : Nat) ^ 1 = 2 from rfl, show (2251799813685248 + f) * 2 = 4503599627370496 + 2 * f from by omega] at e
        rw [e, word_false, show ((-54 : Int) + ((1 : Nat) : Int) + 1074).toNat = 1021 from rfl]
        omega
    refine Nat.le_trans hval ?_
    match j, hj3, h2 with
    | 0, _, h2 => have : lev (0 + 1) = 4604930618986332160 := rfl; split <;> omega
    | 1, _, h2 => have : lev (1 + 1) = 4602678819172646912 := rfl; have : lev 1 = 4604930618986332160 := rfl; split <;> omega
    | 2, _, h2 => have : lev (2 + 1) = 4598175219545276416 := rfl; have : lev 2 = 4602678819172646912 := rfl; split <;> omega
    | 3, _, h2 => exfalso; have : lev 3 = 4598175219545276416 := rfl; omega
  · rw [hP] at hc ⊢
    have e : (signed false (4503599627370496 + 0) ((-1075 + ((1023 : Nat) : Int)) - min (-1075 + ((1023 : Nat) : Int)) (-54)).toNat + signed (!false) 4503599627370496 ((-54 : Int) - min (-1075 + ((1023 : Nat) : Int)) (-54)).toNat) = 13510798882111488 := by decide +kernel
    rw [e, if_neg (by decide), show min (-1075 + ((1023 : Nat) : Int)) (-54) = -54 from rfl, decide_eq_false (by decide), show (13510798882111488 : Int).natAbs = 13510798882111488 from rfl]
    have : Ieee.double.write (.number false 13510798882111488 (-54)) = 4604930618986332160 := by decide +kernel
    rw [this]
    match j, hj3, h2 with
    | 0, _, _ => decide
    | 1, _, h2 => exfalso; have : lev 1 = 4604930618986332160 := rfl; omega
    | 2, _, h2 => exfalso; have : lev 2 = 4602678819172646912 := rfl; omega
    | 3, _, h2 => exfalso; have : lev 3 = 4598175219545276416 := rfl; omega

/-- Quarters taken away. -/
def iterF (a : Option Nat) : Nat → Option Nat
  | 0 => a
  | j + 1 => fbin .sub .f64 (iterF a j) (some 4598175219545276416)

def Stops (a : Option Nat) (j : Nat) : Prop := (∀ i, i < j → fge (iterF a i) (some 4598175219545276416) = true) ∧ fge (iterF a j) (some 4598175219545276416) = false

theorem stops_one {a : Option Nat} {i j : Nat} (hi : Stops a i) (hj : Stops a j) : i = j := by
  rcases Nat.lt_trichotomy i j with h | h | h
  · have := hj.1 i h; rw [hi.2] at this; cases this
  · exact h
  · have := hi.1 j h; rw [hj.2] at this; cases this

/-- Where the taking away stands. -/
def Lvl (a : Option Nat) (j : Nat) : Prop := j ≤ 4 ∧ ∃ c, iterF a j = some c ∧ (c ≤ lev j ∨ c = 9223372036854775808)

theorem lvl_zero {b : Nat} (hb : b < 18446744073709551616) (h : b % 9223372036854775808 < R 52) : Lvl (fracF b) 0 := by
  obtain ⟨c, hc, h1⟩ := frac_unit hb h
  exact ⟨by decide, c, hc, h1⟩

theorem lvl_step {a : Option Nat} {j : Nat} (h : Lvl a j) (hg : fge (iterF a j) (some 4598175219545276416) = true) : j ≤ 3 ∧ Lvl a (j + 1) := by
  obtain ⟨hj, c, hc, h1⟩ := h
  have hl := lev_le j
  rcases h1 with h1 | rfl
  · rw [hc] at hg
    unfold fge at hg
    rw [ge_pos (by omega) (by decide)] at hg
    obtain ⟨h2, r, hr, h3⟩ := lev_step hj (of_decide_eq_true hg) h1
    exact ⟨h2, by omega, r, by show fbin _ _ (iterF a j) _ = _; rw [hc]; exact hr, .inl h3⟩
  · exfalso
    rw [hc] at hg
    revert hg
    decide +kernel

theorem lvl_mag {a : Option Nat} {j : Nat} (h : Lvl a j) : Mag (iterF a j) 0 := by
  obtain ⟨hj, c, hc, h1⟩ := h
  have hl := lev_le j
  rw [hc]
  refine ⟨c, rfl, read_mag (by decide) (by decide) ?_⟩
  rw [R0_eq]
  omega

/-- The sine of a class. -/
def sinV (a : Option Nat) : Option Nat := a.bind fun b => sinF (fracF b)
def negV (a : Option Nat) : Option Nat := fbin .sub .f64 (some 0) a
def cosP (F : Option Nat) (j : Nat) : Option Nat := sinV (fbin .sub .f64 (some 4598175219545276416) (iterF F j))
def sinP (F : Option Nat) (j : Nat) : Option Nat := sinV (iterF F j)
def phRe (F : Option Nat) (j : Nat) : Option Nat := fconv .f64 .f32 (if j = 1 then negV (sinP F j) else if j = 2 then negV (cosP F j) else if j = 3 then sinP F j else cosP F j)
def phIm (F : Option Nat) (j : Nat) : Option Nat := fconv .f64 .f32 (if j = 1 then cosP F j else if j = 2 then negV (sinP F j) else if j = 3 then negV (cosP F j) else sinP F j)

/-- What the unit circle gives at some turns. -/
def phOut (b : Nat) (x y : Option Nat) : Prop :=
  (b % 9223372036854775808 < R 52 ∧ ∃ j, Stops (fracF b) j ∧ x = phRe (fracF b) j ∧ y = phIm (fracF b) j) ∨
  (R 52 ≤ b % 9223372036854775808 ∧ b % 9223372036854775808 < 9218868437227405312 ∧ x = some 1065353216 ∧ y = some 0) ∨
  (9218868437227405312 ≤ b % 9223372036854775808 ∧ x = none ∧ y = none)

theorem phOut_one {b : Nat} {x y x' y' : Option Nat} (h : phOut b x y) (h' : phOut b x' y') : x = x' ∧ y = y' := by
  have hR : R 52 = 1075 * 4503599627370496 := rfl
  rcases h with ⟨h1, j, hj, rfl, rfl⟩ | ⟨h1, h2, rfl, rfl⟩ | ⟨h1, rfl, rfl⟩
  · rcases h' with ⟨h1', j', hj', rfl, rfl⟩ | ⟨h1', h2', rfl, rfl⟩ | ⟨h1', rfl, rfl⟩
    · rw [stops_one hj hj']; exact ⟨rfl, rfl⟩
    · exfalso; omega
    · exfalso; omega
  · rcases h' with ⟨h1', j', hj', rfl, rfl⟩ | ⟨h1', h2', rfl, rfl⟩ | ⟨h1', rfl, rfl⟩
    · exfalso; omega
    · exact ⟨rfl, rfl⟩
    · exfalso; omega
  · rcases h' with ⟨h1', j', hj', rfl, rfl⟩ | ⟨h1', h2', rfl, rfl⟩ | ⟨h1', rfl, rfl⟩
    · exfalso; omega
    · exfalso; omega
    · exact ⟨rfl, rfl⟩

theorem mag_zero (i : Int) (h : 0 ≤ i) : Mag (some 0) i := mag_mono ⟨0, rfl, read_mag (i := 0) (by decide) (by decide) (by decide +kernel)⟩ h

/-- A class of a known size: its bits, and its sine's size. -/
theorem mag_near {a : Option Nat} {t : Nat} (h : Mag a 1) (ht : cl .f64 t = a) (hw : t < 18446744073709551616) : t % 9223372036854775808 < R 52 ∧ sinV a = sinF (fracF t) := by
  obtain ⟨c, rfl, hd⟩ := h
  obtain ⟨e, hn⟩ := cl64_some ht
  subst e
  have hf : c % 9223372036854775808 < 9218868437227405312 := by
    rcases Nat.lt_or_eq_of_le hn with h1 | h1
    · exact h1
    · obtain ⟨sg, hi⟩ := read_infinity (k := .f64) (b := c) (by show c % Ieee.double.signWeight = Ieee.double.infRung; rw [dbl_sign, dbl_inf]; exact h1)
      obtain ⟨s, m, e, hd, _⟩ := hd
      rw [show Ieee.double.read c = .infinity sg from hi] at hd; cases hd
  have := mag_le hw hf (by decide) (by decide) hd
  have hR1 : R 1 = 1024 * 4503599627370496 := rfl
  have hR : R 52 = 1075 * 4503599627370496 := rfl
  exact ⟨by omega, rfl⟩

theorem mag_sinV {a : Option Nat} (h : Mag a 1) : ∃ t, a = some t ∧ (t < 18446744073709551616 → Mag (sinV a) 120) := by
  obtain ⟨c, rfl, hd⟩ := h
  refine ⟨c, rfl, fun hw => ?_⟩
  have hn : cl .f64 c = some c := by
    apply cl_some
    obtain ⟨s, m, e, hd, _⟩ := hd
    rw [show FloatKind.f64.format.read c = .number s m e from hd]; rfl
  obtain ⟨h1, h2⟩ := mag_near ⟨c, rfl, hd⟩ hn hw
  exact mag_sin (frac_F2 h1)

theorem mag_negV {a : Option Nat} (h : Mag a 120) : Mag (negV a) 121 := mag_sub (mag_zero 120 (by decide)) h (by decide) (by decide)
end Go.Proofs.Ytemolaojjnpfnaa
