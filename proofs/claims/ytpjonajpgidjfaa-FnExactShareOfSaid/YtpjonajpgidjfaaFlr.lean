/-
  Plain laws: the whole part to any side, and that it fits in an int64. No condition.
-/
import Derived.Test.YtpjonajpgidjfaaVab
import Derived.Test.YtpjonajpgidjfaaMag
namespace Go.Proofs.Ytpjonajpgidjfaa
set_option linter.unusedVariables false
open Ieee

theorem cut_le_any (way : Toward) (n drop : Nat) (neg : Bool) : way.cut neg n drop ≤ n / 2 ^ drop + 1 := by
  unfold Toward.cut
  dsimp only
  have hb : ∀ x : Bool, x.toNat ≤ 1 := by intro x; cases x <;> decide
  refine Nat.add_le_add ?_ (hb _)
  rw [Nat.one_shiftLeft]
  by_cases hd : drop ≤ n.log2 + 2
  · rw [Nat.min_eq_left hd]; exact Nat.le_refl _
  · rw [Nat.min_eq_right (by omega)]
    rw [Nat.div_eq_of_lt]
    · exact Nat.zero_le _
    · rcases Nat.eq_zero_or_pos n with rfl | h0
      · exact Nat.two_pow_pos _
      · exact Nat.lt_of_lt_of_le ((Nat.log2_lt (by omega)).1 (Nat.lt_succ_self _)) (Nat.pow_le_pow_right (by decide) (by omega))

theorem shifted_le {m : Nat} {e : Int} {i : Nat} (h : m = 0 ∨ ∃ k : Nat, m ≤ 2 ^ k ∧ (k : Int) + e ≤ i) : (m <<< e.toNat) / 2 ^ (-e).toNat ≤ 2 ^ i := by
  rcases h with rfl | ⟨k, h1, h2⟩
  · rw [Nat.zero_shiftLeft, Nat.zero_div]; exact Nat.zero_le _
  · apply Nat.div_le_of_le_mul
    rw [Nat.shiftLeft_eq, ← Nat.pow_add]
    calc m * 2 ^ e.toNat ≤ 2 ^ k * 2 ^ e.toNat := Nat.mul_le_mul_right _ h1
      _ = 2 ^ (k + e.toNat) := by rw [← Nat.pow_add]
      _ ≤ _ := Nat.pow_le_pow_right (by decide) (by omega)

theorem cut_small (way : Toward) (s : Bool) {m : Nat} {e : Int} {i : Nat} (h : m = 0 ∨ ∃ k : Nat, m ≤ 2 ^ k ∧ (k : Int) + e ≤ i) : way.cut s (m <<< e.toNat) (-e).toNat ≤ 2 ^ i + 1 :=
  Nat.le_trans (cut_le_any _ _ _ _) (Nat.add_le_add_right (shifted_le h) 1)

/-- The whole part to any side. -/
def partB (way : Toward) (b : Nat) : Nat := Ieee.double.write ((Ieee.double.read b).integral way)

theorem part_mag (way : Toward) {b : Nat} (h : MagD (Ieee.double.read b) 52) : MagD (Ieee.double.read (partB way b)) 53 := by
  obtain ⟨s, m, e, hd, hm⟩ := h
  unfold partB
  rw [hd]
  have hc := cut_small way s (i := 52) hm
  rw [show (2 : Nat) ^ 52 = 4503599627370496 from by decide +kernel] at hc
  have hw := write_mag (d := .number s (way.cut s (m <<< e.toNat) (-e).toNat) 0) (i := 53) (by decide) (by decide) ⟨_, _, _, rfl, .inr ⟨53, by
    rw [show (2 : Nat) ^ 53 = 9007199254740992 from by decide +kernel]; omega, by decide⟩⟩
  obtain ⟨c, hc, hd⟩ := hw
  cases hc
  exact hd

theorem to_int {w : Nat} (h : MagD (Ieee.double.read w) 53) : ∃ n, floatToIntVal .f64 w .i64 = some n ∧ -9007199254740994 ≤ n ∧ n ≤ 9007199254740994 := by
  obtain ⟨s, m, e, hd, hm⟩ := h
  have hc := cut_small .zero s (i := 53) hm
  rw [show (2 : Nat) ^ 53 = 9007199254740992 from by decide +kernel] at hc
  have hi : (FloatKind.f64.decode w).toInt .zero = some (signed s (Toward.zero.cut s (m <<< e.toNat) (-e).toNat) 0) := by
    show (Ieee.double.read w).toInt .zero = _
    rw [hd]; rfl
  refine ⟨signed s (Toward.zero.cut s (m <<< e.toNat) (-e).toNat) 0, ?_, ?_, ?_⟩
  · unfold floatToIntVal
    rw [hi]
    generalize Toward.zero.cut s (m <<< e.toNat) (-e).toNat = c at *
    have hb : IntKind.i64.min ≤ signed s c 0 ∧ signed s c 0 ≤ IntKind.i64.max := by
      rw [signed_zero, show IntKind.i64.min = -9223372036854775808 from by decide +kernel, show IntKind.i64.max = 9223372036854775807 from by decide +kernel]
      cases s
      · simp only [Bool.false_eq_true, if_false]; omega
      · simp only [if_true]; omega
    show (if _ then _ else _) = _
    rw [if_pos hb]
  · rw [signed_zero]; split <;> omega
  · rw [signed_zero]; split <;> omega

theorem part_int (way : Toward) {b : Nat} (h : MagD (Ieee.double.read b) 52) : ∃ n, floatToIntVal .f64 (partB way b) .i64 = some n ∧ -9007199254740994 ≤ n ∧ n ≤ 9007199254740994 := to_int (part_mag way h)

theorem mag_bits {a : Option Nat} {t : Nat} {i : Int} (h : Mag a i) (ht : cl .f64 t = a) : MagD (Ieee.double.read t) i := by
  obtain ⟨c, rfl, hd⟩ := h
  rw [← (cl64_some ht).1]; exact hd
end Go.Proofs.Ytpjonajpgidjfaa
