/-
  Whole numbers with a power of two: what the laws of halves and of shares hand to math.Ldexp. No condition.
-/
import Derived.Test.YtpjonajpgidjfaaLdx
import Derived.Test.YtpjonajpgidjfaaMag
namespace Go.Proofs.Ytpjonajpgidjfaa
set_option linter.unusedVariables false
open Go.RowKit Ieee

theorem results_tmp4 {fn : Func} {t u v x : Tmp} (h : fn.results = #[.tmp t, .tmp u, .tmp v, .tmp x]) (tmps : Array Value) (P : Program) (w : World) :
    (results fn tmps).run P w = .ok (.tuple #[tmps.getD t undef, tmps.getD u undef, tmps.getD v undef, tmps.getD x undef]) w := by
  simp [results, h]

theorem fl_small : ∀ n : Nat, n < 2048 → n ≠ 0 → 4607182418800017408 ≤ floatOfInt .f64 (n : Int) ∧ floatOfInt .f64 (n : Int) < 4656722014701092864 := by decide +kernel
theorem fl_zero : floatOfInt .f64 ((0 : Nat) : Int) = 0 := by decide +kernel

/-- n times two to the power e. -/
def sc (n : Nat) (e : Int) : Nat := if n = 0 then 0 else ((floatOfInt .f64 (n : Int) : Int) + e * 4503599627370496).toNat

theorem sc_pack {b : Nat} {e : Int} (h1 : 4607182418800017408 ≤ b) (h2 : b < 4656722014701092864) (he : -1000 ≤ e) (hu : e ≤ 90) :
    Scaled b e ((b : Int) + e * 4503599627370496).toNat ∧ ((b : Int) + e * 4503599627370496).toNat ≤ 5174635971848699904 := by
  have hq : 1023 ≤ b / 4503599627370496 ∧ b / 4503599627370496 < 1034 := by omega
  have hb : b = b / 4503599627370496 * 4503599627370496 + b % 4503599627370496 := by omega
  have h0 : 0 ≤ (b : Int) + e * 4503599627370496 := by omega
  refine ⟨.inr ⟨by omega, by omega, by omega, by omega, Int.toNat_of_nonneg h0⟩, by omega⟩

theorem sc_ok {n : Nat} (hn : n < 2048) {e : Int} (he : -1000 ≤ e) (hu : e ≤ 90) : Scaled (floatOfInt .f64 (n : Int)) e (sc n e) ∧ sc n e ≤ 5174635971848699904 := by
  unfold sc
  by_cases h0 : n = 0
  · subst h0
    rw [if_pos rfl, fl_zero]
    exact ⟨.inl ⟨.inl rfl, rfl⟩, Nat.zero_le _⟩
  · rw [if_neg h0]
    obtain ⟨h1, h2⟩ := fl_small n hn h0
    exact sc_pack h1 h2 he hu

theorem small_narrows {b : Nat} (h : b % 9223372036854775808 ≤ 5174635971848699904) : Narrows .f64 .f32 b :=
  narrow_mag rfl (mag_rung (i := 126) (by decide) (by decide) (by show _ ≤ R 126; rw [show R 126 = 5174635971848699904 from by decide +kernel]; exact h))

theorem sc_narrows {n : Nat} (hn : n < 2048) {e : Int} (he : -1000 ≤ e) (hu : e ≤ 90) : Narrows .f64 .f32 (sc n e) := by
  have := (sc_ok hn he hu).2
  exact small_narrows (by omega)

end Go.Proofs.Ytpjonajpgidjfaa
