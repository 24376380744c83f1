/-
  Plain laws: the sine of turns, told as a function of classes, and how great it can be. No condition.
-/
import Derived.Test.YtemolaojjnpfnaaVab
namespace Go.Proofs.Ytemolaojjnpfnaa
set_option linter.unusedVariables false
open Ieee

/-! ### comparisons -/
def flt (a b : Option Nat) : Bool := ford .f64 a b == some .lt
def fgt (a b : Option Nat) : Bool := ford .f64 a b == some .gt
def fge (a b : Option Nat) : Bool := ford .f64 a b == some .gt || ford .f64 a b == some .eq
def fle (a b : Option Nat) : Bool := ford .f64 a b == some .lt || ford .f64 a b == some .eq

/-! ### the opposite -/
theorem neg_mod (b : Nat) : Op.negFloat .f64 b % 9223372036854775808 = b % 9223372036854775808 := by
  have e : Op.negFloat .f64 b = b ^^^ 2 ^ 63 := rfl
  rw [e, show (9223372036854775808 : Nat) = 2 ^ 63 from by decide +kernel, Nat.xor_mod_two_pow, Nat.mod_self, Nat.xor_zero]
theorem neg_lt {b : Nat} (h : b < 18446744073709551616) : Op.negFloat .f64 b < 18446744073709551616 := by
  have e : Op.negFloat .f64 b = b ^^^ 2 ^ 63 := rfl
  rw [e, show (18446744073709551616 : Nat) = 2 ^ 64 from by decide +kernel]
  exact Nat.xor_lt_two_pow (by rw [show (2 : Nat) ^ 64 = 18446744073709551616 from by decide +kernel]; exact h) (Nat.pow_lt_pow_right (by decide) (by decide))
theorem neg_cl (b : Nat) : cl .f64 (Op.negFloat .f64 b) = fneg .f64 (cl .f64 b) := by
  rw [cl64, cl64, neg_mod]
  unfold fneg
  split <;> rfl
theorem neg_wf {b : Nat} (h : (Lit.float .f64 b).wf = true) : (Lit.float .f64 (Op.negFloat .f64 b)).wf = true := by
  simp only [Lit.wf, decide_eq_true_eq] at h ⊢
  exact neg_lt h
theorem mag_neg {a : Option Nat} {i : Int} (h : Mag a i) : Mag (fneg .f64 a) i := by
  obtain ⟨b, rfl, s, m, e, hd, hm⟩ := h
  refine ⟨_, rfl, ?_⟩
  have h1 := read_dbl (Op.negFloat .f64 b)
  have h2 := read_dbl b
  rw [neg_mod] at h1
  rw [hd] at h2
  split at h1
  · rename_i hc
    rw [if_pos hc] at h2
    cases h2
    exact ⟨_, _, _, h1, hm⟩
  · rename_i hc
    rw [if_neg hc] at h2
    split at h1
    · rename_i hc2
      rw [if_pos hc2] at h2
      cases h2
      exact ⟨_, _, _, h1, hm⟩
    · rename_i hc2
      rw [if_neg hc2] at h2
      split at h2 <;> cases h2

/-! ### the sine -/
def c1 : Nat := 4607182418800017408
/-- What is left of turns without whole ones. -/
def fracF (b : Nat) : Option Nat :=
  let f := if wholeI b = 0 then some b else fbin .sub .f64 (some b) (some (wholeB b))
  if flt f (some 0) then fbin .add .f64 f (some c1) else f
/-- The part of a quarter, and whether it is below. -/
def redF (f : Option Nat) : Option Nat :=
  let f2 := if fge f (some 4602678819172646912) then fbin .sub .f64 f (some 4602678819172646912) else f
  if fgt f2 (some 4598175219545276416) then fbin .sub .f64 (some 4602678819172646912) f2 else f2
/-- The polynomial, j of its 8 steps. -/
def pF (u : Option Nat) : Nat → Option Nat
  | 0 => some c1
  | j + 1 => fbin .sub .f64 (some c1) (fbin .quo .f64 (fbin .mul .f64 u (pF u j)) (some (floatOfInt .f64 (2 * (8 - j) * (2 * (8 - j) + 1)))))
/-- The sine of what is left of turns. -/
def sinF (f : Option Nat) : Option Nat :=
  let z := fbin .mul .f64 (redF f) (some 4618760256179416344)
  let out := fbin .mul .f64 z (pF (fbin .mul .f64 z z) 8)
  if fge f (some 4602678819172646912) then fneg .f64 out else out

theorem mag_c1 : Mag (some c1) 0 := nn_mag nn_one
theorem mag_half : Mag (some 4602678819172646912) 0 := ⟨_, rfl, read_mag (by decide) (by decide) (by decide +kernel)⟩
theorem mag_turn : Mag (some 4618760256179416344) 3 := ⟨_, rfl, read_mag (by decide) (by decide) (by decide +kernel)⟩

/-- Its size, where the whole part has been taken away. -/
theorem frac_F2 {b : Nat} (h : b % 9223372036854775808 < R 52) : Mag (fracF b) 2 := by
  have h0 : Mag (if wholeI b = 0 then some b else fbin .sub .f64 (some b) (some (wholeB b))) 1 := by
    split
    · rename_i hw
      obtain ⟨s, m, d, hd, h1, h2, hb, hi, hwi⟩ := whole_parts h
      rw [hwi, signed_zero] at hw
      have hc : m / 2 ^ d = 0 := by split at hw <;> omega
      have hdm := Nat.div_add_mod m (2 ^ d)
      have hmod := Nat.mod_lt m (Nat.two_pow_pos d)
      rw [hc] at hdm
      exact ⟨b, rfl, s, m, _, hd, .inr ⟨d, by omega, by omega⟩⟩
    · exact frac_mag h
  unfold fracF
  dsimp only
  generalize (if wholeI b = 0 then some b else fbin .sub .f64 (some b) (some (wholeB b))) = f at *
  split
  · exact mag_add h0 (mag_mono mag_c1 (by decide)) (by decide) (by decide)
  · exact mag_mono h0 (by decide)

theorem mag_red {f : Option Nat} (h : Mag f 2) : Mag (redF f) 4 := by
  unfold redF
  dsimp only
  have h2 : Mag (if fge f (some 4602678819172646912) then fbin .sub .f64 f (some 4602678819172646912) else f) 3 := by
    split
    · exact mag_sub h (mag_mono mag_half (by decide)) (by decide) (by decide)
    · exact mag_mono h (by decide)
  generalize (if fge f (some 4602678819172646912) then fbin .sub .f64 f (some 4602678819172646912) else f) = f2 at *
  split
  · exact mag_sub (mag_mono mag_half (by decide)) h2 (by decide) (by decide)
  · exact mag_mono h2 (by decide)

theorem low_steps : ∀ j, j < 8 → Low (some (floatOfInt .f64 (2 * (8 - (j : Nat)) * (2 * (8 - (j : Nat)) + 1)))) 2 := by
  intro j hj
  match j, hj with
  | 0, _ => exact ⟨_, rfl, read_low (by decide) (by decide +kernel) (by decide +kernel)⟩
  | 1, _ => exact ⟨_, rfl, read_low (by decide) (by decide +kernel) (by decide +kernel)⟩
  | 2, _ => exact ⟨_, rfl, read_low (by decide) (by decide +kernel) (by decide +kernel)⟩
  | 3, _ => exact ⟨_, rfl, read_low (by decide) (by decide +kernel) (by decide +kernel)⟩
  | 4, _ => exact ⟨_, rfl, read_low (by decide) (by decide +kernel) (by decide +kernel)⟩
  | 5, _ => exact ⟨_, rfl, read_low (by decide) (by decide +kernel) (by decide +kernel)⟩
  | 6, _ => exact ⟨_, rfl, read_low (by decide) (by decide +kernel) (by decide +kernel)⟩
  | 7, _ => exact ⟨_, rfl, read_low (by decide) (by decide +kernel) (by decide +kernel)⟩

theorem mag_sin {f : Option Nat} (h : Mag f 2) : Mag (sinF f) 120 := by
  have hz := mag_mul (mag_red h) mag_turn (by decide) (by decide)
  have hu := mag_mul hz hz (by decide) (by decide)
  have hu' : Mag (fbin .mul .f64 (fbin .mul .f64 (redF f) (some 4618760256179416344)) (fbin .mul .f64 (redF f) (some 4618760256179416344))) 14 := hu
  have hp : Mag (pF (fbin .mul .f64 (fbin .mul .f64 (redF f) (some 4618760256179416344)) (fbin .mul .f64 (redF f) (some 4618760256179416344))) 8) 108 := by
    generalize fbin .mul .f64 (fbin .mul .f64 (redF f) (some 4618760256179416344)) (fbin .mul .f64 (redF f) (some 4618760256179416344)) = u at *
    have key : ∀ j : Nat, j ≤ 8 → Mag (pF u j) (13 * j + 4) := by
      intro j
      induction j with
      | zero => intro _; exact mag_mono mag_c1 (by decide)
      | succ j ih =>
        intro hj
        have h1 := mag_mul hu' (ih (by omega)) (by omega) (by omega)
        have h2 := mag_quo h1 (low_steps j (by omega)) (by omega) (by omega)
        have h3 := mag_sub (mag_mono mag_c1 (show (0 : Int) ≤ 14 + (13 * j + 4) - 2 by omega)) h2 (by omega) (by omega)
        exact mag_mono h3 (by omega)
    exact key 8 (by decide)
  have ho := mag_mul hz hp (by decide) (by decide)
  unfold sinF
  dsimp only
  split
  · exact mag_neg (mag_mono ho (by decide))
  · exact mag_mono ho (by decide)
end Go.Proofs.Ytemolaojjnpfnaa
