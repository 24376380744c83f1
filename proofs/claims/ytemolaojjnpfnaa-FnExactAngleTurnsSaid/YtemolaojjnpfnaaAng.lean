/-
  Plain laws: the angle of a point in turns, as a function of bits, and how great it can be. No condition.
-/
import Derived.Test.YtemolaojjnpfnaaWkL
namespace Go.Proofs.Ytemolaojjnpfnaa
set_option linter.unusedVariables false
open Ieee

/-- One halving of an angle's tangent. -/
def stepA (t : Option Nat) : Option Nat := fbin .quo .f64 t (fbin .add .f64 (some c1) (fsqrt (fbin .add .f64 (some c1) (fbin .mul .f64 t t))))
def stepN (t : Option Nat) : Nat → Option Nat
  | 0 => t
  | j + 1 => stepA (stepN t j)
def pA (u : Option Nat) : Nat → Option Nat
  | 0 => some 0
  | j + 1 => fbin .sub .f64 (fbin .quo .f64 (some c1) (some (floatOfInt .f64 (15 - 2 * (j : Int))))) (fbin .mul .f64 u (pA u j))
def angO (t : Option Nat) : Option Nat :=
  fbin .quo .f64 (fbin .mul .f64 (some 4620693217682128896) (fbin .mul .f64 (stepN t 3) (pA (fbin .mul .f64 (stepN t 3) (stepN t 3)) 8))) (some 4618760256179416344)
def angB (over sx sy : Bool) (o : Option Nat) : Option Nat :=
  cond sy (fneg .f64 (cond sx (fbin .sub .f64 (some 4602678819172646912) (cond over (fbin .sub .f64 (some 4598175219545276416) o) o)) (cond over (fbin .sub .f64 (some 4598175219545276416) o) o)))
    (cond sx (fbin .sub .f64 (some 4602678819172646912) (cond over (fbin .sub .f64 (some 4598175219545276416) o) o)) (cond over (fbin .sub .f64 (some 4598175219545276416) o) o))
/-- The quotient of the smaller by the greater. -/
def ratA (a b : Nat) : Option Nat := cond (decide (b < a)) (fbin .quo .f64 (some b) (some a)) (fbin .quo .f64 (some a) (some b))

theorem mag_stepA {t : Option Nat} (h : Mag t 1) : Mag (stepA t) 1 := by
  have h1 := nn_square h (by decide) (by decide)
  have h2 := nn_add (nn_mono nn_one (show (0 : Int) ≤ 1 + 1 by decide)) h1 (by decide) (by decide)
  have h3 := nn_sqrt (i := 2) (nn_mono h2 (show (1 + 1 + 1 : Int) ≤ 2 * 2 by decide)) (by decide) (by decide)
  have h4 := low_one_add h3 (by decide) (by decide)
  exact mag_mono (mag_quo h h4 (by decide) (by decide)) (by decide)
theorem mag_stepN {t : Option Nat} (h : Mag t 1) : ∀ j, Mag (stepN t j) 1
  | 0 => h
  | j + 1 => mag_stepA (mag_stepN h j)

theorem low_nat {n : Nat} (h1 : 1 ≤ n) (h2 : n < 9007199254740992) : Low (some (floatOfInt .f64 (n : Int))) 0 := by
  have hw : floatOfInt .f64 (n : Int) = Ieee.double.write (.number false n 0) := by
    show FloatKind.f64.encode (.number (decide ((n : Int) < 0)) (n : Int).natAbs 0) = _
    rw [decide_eq_false (by omega), Int.natAbs_natCast]; rfl
  rw [hw]
  exact write_low (by decide) (by decide) ⟨_, _, _, rfl, 0, by omega, by decide⟩ (j := 53) (by decide) (by decide) ⟨_, _, _, rfl, .inr ⟨53, by omega, by decide⟩⟩

theorem low_fif : ∀ j : Nat, j < 8 → Low (some (floatOfInt .f64 (15 - 2 * (j : Int)))) 0 := by
  intro j hj
  have := low_nat (n := 15 - 2 * j) (by omega) (by omega)
  rwa [show (((15 - 2 * j : Nat)) : Int) = 15 - 2 * (j : Int) by omega] at this

theorem mag_pA {u : Option Nat} (hu : Mag u 2) : ∀ j : Nat, j ≤ 8 → Mag (pA u j) (3 * j) := by
  intro j
  induction j with
  | zero => intro _; exact mag_zero _ (by decide)
  | succ j ih =>
    intro hj
    have h1 := mag_mul hu (ih (by omega)) (by omega) (by omega)
    have h2 := mag_quo mag_c1 (low_fif j (by omega)) (by decide) (by decide)
    have h3 := mag_sub (mag_mono h2 (show (0 : Int) - 0 ≤ 2 + 3 * j by omega)) h1 (by omega) (by omega)
    exact mag_mono h3 (by omega)

theorem mag_angO {t : Option Nat} (h : Mag t 1) : Mag (angO t) 26 := by
  have h1 := mag_stepN h 3
  have h2 := mag_mul h1 h1 (by decide) (by decide)
  have h3 := mag_pA (mag_mono h2 (show (1 + 1 : Int) ≤ 2 by decide)) 8 (by decide)
  have h4 := mag_mul (show Mag (some 4620693217682128896) 3 from ⟨_, rfl, read_mag (by decide) (by decide) (by decide +kernel)⟩) (mag_mul h1 h3 (by decide) (by decide)) (by decide) (by decide)
  have h5 : Low (some 4618760256179416344) 2 := ⟨_, rfl, read_low (by decide) (by decide +kernel) (by decide +kernel)⟩
  exact mag_mono (mag_quo h4 h5 (by decide) (by decide)) (by decide)

theorem mag_angB {o : Option Nat} (h : Mag o 26) (over sx sy : Bool) : Mag (angB over sx sy o) 28 := by
  have hq : Mag (some 4598175219545276416) 26 := mag_mono ⟨_, rfl, read_mag (i := 0) (by decide) (by decide) (by decide +kernel)⟩ (by decide)
  have h1 : Mag (cond over (fbin .sub .f64 (some 4598175219545276416) o) o) 27 := by
    cases over
    · exact mag_mono h (by decide)
    · exact mag_sub hq h (by decide) (by decide)
  have h2 : Mag (cond sx (fbin .sub .f64 (some 4602678819172646912) (cond over (fbin .sub .f64 (some 4598175219545276416) o) o)) (cond over (fbin .sub .f64 (some 4598175219545276416) o) o)) 28 := by
    cases sx
    · exact mag_mono h1 (by decide)
    · exact mag_sub (mag_mono mag_half (by decide)) h1 (by decide) (by decide)
  unfold angB
  cases sy
  · exact h2
  · exact mag_neg h2

theorem mag_quot {a b : Nat} (hb : b < 9218868437227405312) (hn : 4503599627370496 ≤ b) (hab : a ≤ b) : Mag (fbin .quo .f64 (some a) (some b)) 1 := by
  have hp : ((b / 4503599627370496 : Nat) : Int) - 1023 ≤ 1023 := by omega
  have hR : R (((b / 4503599627370496 : Nat) : Int) - 1023) = b / 4503599627370496 * 4503599627370496 := by
    show (((b / 4503599627370496 : Nat) : Int) - 1023 + 1023).toNat * 4503599627370496 = _
    rw [show ((b / 4503599627370496 : Nat) : Int) - 1023 + 1023 = ((b / 4503599627370496 : Nat) : Int) by omega, Int.toNat_natCast]
  have hl : Low (some b) (((b / 4503599627370496 : Nat) : Int) - 1023) := ⟨b, rfl, read_low (by omega) (by rw [hR]; omega) (by omega)⟩
  have hm : Mag (some a) (((b / 4503599627370496 : Nat) : Int) - 1023 + 1) := by
    obtain ⟨s, m, e, hd, h⟩ : ∃ s m e, Ieee.double.read a = .number s m e ∧ (m = 0 ∨ ∃ k : Nat, m ≤ 2 ^ k ∧ (k : Int) + e ≤ ((b / 4503599627370496 : Nat) : Int) - 1023 + 1) := by
      rw [read_dbl]
      have ha : a % 9223372036854775808 = a := by omega
      rw [ha]
      split
      · exact ⟨_, _, _, rfl, .inr ⟨52, by omega, by omega⟩⟩
      · rw [if_pos (by omega)]
        exact ⟨_, _, _, rfl, .inr ⟨53, by omega, by omega⟩⟩
    exact ⟨a, rfl, s, m, e, hd, h⟩
  have := mag_quo hm hl (by omega) (by omega)
  exact mag_mono this (by omega)

theorem mag_ratA {a b : Nat} (ha : a < 9218868437227405312) (hb : b < 9218868437227405312) (han : a ≠ 0 → 4503599627370496 ≤ a) (hbn : b ≠ 0 → 4503599627370496 ≤ b) (h0 : ¬ (a = 0 ∧ b = 0)) : Mag (ratA a b) 1 := by
  unfold ratA
  by_cases h : b < a
  · rw [decide_eq_true h]
    exact mag_quot ha (han (by omega)) (Nat.le_of_lt h)
  · rw [decide_eq_false h]
    exact mag_quot hb (hbn (by omega)) (by omega)

/-- The angle of widened numbers, for every class. -/
def angW (y x : Nat) : Option Nat :=
  if 9218868437227405312 ≤ y % 9223372036854775808 ∨ 9218868437227405312 ≤ x % 9223372036854775808 then none
  else if x % 9223372036854775808 = 0 ∧ y % 9223372036854775808 = 0 then some 0
  else angB (decide (x % 9223372036854775808 < y % 9223372036854775808)) (decide (9223372036854775808 < x)) (decide (9223372036854775808 < y)) (angO (ratA (y % 9223372036854775808) (x % 9223372036854775808)))

theorem fin_cl {a b : Nat} (h : cl .f64 a = cl .f64 b) : a = b ∨ (9218868437227405312 ≤ a % 9223372036854775808 ∧ 9218868437227405312 ≤ b % 9223372036854775808) := by
  cases h1 : cl .f64 a with
  | none => rw [h1] at h; right; exact ⟨Nat.le_of_lt (cl64_none h1), Nat.le_of_lt (cl64_none h.symm)⟩
  | some c => rw [h1] at h; left; rw [← (cl64_some h1).1, (cl64_some h.symm).1]

theorem angW_cl {y x y' x' : Nat} (hy : cl .f64 y = cl .f64 y') (hx : cl .f64 x = cl .f64 x') : angW y x = angW y' x' := by
  rcases fin_cl hy with rfl | ⟨h1, h2⟩
  · rcases fin_cl hx with rfl | ⟨h1, h2⟩
    · rfl
    · unfold angW; rw [if_pos (.inr h1), if_pos (.inr h2)]
  · unfold angW; rw [if_pos (.inl h1), if_pos (.inl h2)]

theorem narrow_ang {y x r : Nat} (hyn : y % 9223372036854775808 ≠ 0 → 4503599627370496 ≤ y % 9223372036854775808) (hxn : x % 9223372036854775808 ≠ 0 → 4503599627370496 ≤ x % 9223372036854775808) (h : cl .f64 r = angW y x) : Narrows .f64 .f32 r := by
  unfold angW at h
  split at h
  · exact narrow_nan h
  · split at h
    · exact narrow_mag h (mag_zero _ (by decide))
    · exact narrow_mag h (mag_mono (mag_angB (mag_angO (mag_ratA (by omega) (by omega) hyn hxn (by omega))) _ _ _) (by decide))
end Go.Proofs.Ytemolaojjnpfnaa
