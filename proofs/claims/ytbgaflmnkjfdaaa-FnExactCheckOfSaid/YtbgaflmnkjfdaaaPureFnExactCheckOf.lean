/-
  The plain law of CheckOf: the two loops answer alike. No condition but the form's own reach.
-/
import Derived.Test.YtbgaflmnkjfdaaaPFnExactCheckOfx1
namespace Go.Proofs.Ytbgaflmnkjfdaaa.Pure
open Go.RowKit Go.Proofs.Ytbgaflmnkjfdaaa.PFnExactCheckOf Go.Proofs.YtbgaflmnkjfdaaaW.PrintWords Go.Proofs.YtbgaflmnkjfdaaaW.PrintLast

theorem loops (s : ByteArray) (hs : s.size ≤ 1048576) (d : Nat) : ∀ (k : Nat) (x i : Int), 0 ≤ i → i ≤ s.size → (s.size : Int) - i = d → d < k →
    ∃ r, spec_l01Check.l0 k x s i = some r ∧ impl_CheckOf.l0 k x s (s.size : Int) i = some (r, true) := by
  induction d with
  | zero =>
    intro k x i h0 h1 hd hk
    obtain ⟨k, rfl⟩ : ∃ m, k = m + 1 := ⟨k - 1, by omega⟩
    simp only [spec_l01Check.l0, impl_CheckOf.l0]
    have hn : ¬ i < (s.size : Int) := by omega
    simp only [if_neg hn]
    exact ⟨_, rfl, rfl⟩
  | succ d ih =>
    intro k x i h0 h1 hd hk
    obtain ⟨k, rfl⟩ : ∃ m, k = m + 1 := ⟨k - 1, by omega⟩
    have hlt : i < (s.size : Int) := by omega
    have hw : wrap64 (i + 1) = i + 1 := by unfold wrap64; omega
    simp only [spec_l01Check.l0, impl_CheckOf.l0]
    simp only [if_pos hlt, if_pos h0, hw]
    exact ih k _ (i + 1) (by omega) (by omega) (by omega) (by omega)

theorem FnExactCheckOf : laws_FnExactCheckOf.Pure := by
  intro x s hx hs
  by_cases h : (s.size : Int) > 1048576
  · exact ⟨0, by unfold laws_FnExactCheckOf.f; rw [if_pos h]⟩
  · obtain ⟨r, h1, h2⟩ := loops s (by omega) s.size (s.size + 1) x 0 (by omega) (by omega) (by omega) (by omega)
    refine ⟨s.size + 1, ?_⟩
    unfold laws_FnExactCheckOf.f spec_CheckOf.f impl_CheckOf.f spec_l00In.f impl_between.f spec_l01Check.f
    rw [if_neg h]
    by_cases h3 : x ≥ 0
    · rw [if_pos h3]
      simp only [Option.bind_some]
      by_cases h4 : x ≤ 65002
      · simp only [h4, decide_true, if_true, h1, h2, Option.bind_some]
        simp
      · simp [h4]
    · rw [if_neg h3]; simp
end Go.Proofs.Ytbgaflmnkjfdaaa.Pure
