/-
  The plain law of IsName: the two loops answer alike. No condition but the form's own reach.
-/
import Derived.Test.YtbgaflmnkjfdaaaPFnExactIsNamex1
namespace Go.Proofs.Ytbgaflmnkjfdaaa.Pure
open Go.RowKit Go.Proofs.Ytbgaflmnkjfdaaa.PFnExactIsName Go.Proofs.YtbgaflmnkjfdaaaW.PrintWords Go.Proofs.YtbgaflmnkjfdaaaW.PrintLast

theorem loops (s : ByteArray) (hs : s.size ≤ 1048576) (d : Nat) : ∀ (k : Nat) (i : Int), 0 ≤ i → i ≤ s.size → (s.size : Int) - i = d → d < k →
    ∃ b, spec_IsName.l0 k s i = some b ∧ impl_IsName.l0 k s (s.size : Int) i = some b := by
  induction d with
  | zero =>
    intro k i h0 h1 hd hk
    obtain ⟨k, rfl⟩ : ∃ m, k = m + 1 := ⟨k - 1, by omega⟩
    simp only [spec_IsName.l0, impl_IsName.l0]
    have hn : ¬ i < (s.size : Int) := by omega
    simp only [if_neg hn]
    split <;> exact ⟨_, rfl, rfl⟩
  | succ d ih =>
    intro k i h0 h1 hd hk
    obtain ⟨k, rfl⟩ : ∃ m, k = m + 1 := ⟨k - 1, by omega⟩
    have hlt : i < (s.size : Int) := by omega
    have hw : wrap64 (i + 1) = i + 1 := by unfold wrap64; omega
    simp only [spec_IsName.l0, impl_IsName.l0]
    simp only [if_pos hlt, if_pos h0, hw]
    by_cases h2 : bt s i < 97
    · simp only [if_pos h2]; exact ⟨_, rfl, rfl⟩
    · simp only [if_neg h2]
      by_cases h3 : bt s i > 122
      · simp only [if_pos h3]; exact ⟨_, rfl, rfl⟩
      · simp only [if_neg h3]
        exact ih k (i + 1) (by omega) (by omega) (by omega) (by omega)

theorem FnExactIsName : laws_FnExactIsName.Pure := by
  intro s hs
  by_cases h : (s.size : Int) > 1048576
  · exact ⟨0, by unfold laws_FnExactIsName.f; rw [if_pos h]⟩
  · obtain ⟨b, h1, h2⟩ := loops s (by omega) s.size (s.size + 1) 0 (by omega) (by omega) (by omega) (by omega)
    refine ⟨s.size + 1, ?_⟩
    unfold laws_FnExactIsName.f spec_IsName.f impl_IsName.f
    rw [if_neg h, h1, h2]
    simp
end Go.Proofs.Ytbgaflmnkjfdaaa.Pure
