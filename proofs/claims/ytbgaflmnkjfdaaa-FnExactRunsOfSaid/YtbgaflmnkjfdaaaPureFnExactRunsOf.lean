/-
  The plain law of RunsOf: the two loops, the outer and the inner one, answer alike. No condition but the form's own reach.
-/
import Derived.Test.YtbgaflmnkjfdaaaPFnExactRunsOfx1
namespace Go.Proofs.Ytbgaflmnkjfdaaa.Pure
open Go.RowKit Go.Proofs.Ytbgaflmnkjfdaaa.PFnExactRunsOf Go.Proofs.YtbgaflmnkjfdaaaW.PrintWords Go.Proofs.YtbgaflmnkjfdaaaW.PrintLast

theorem wrap_in {n : Int} (h0 : 0 ≤ n) (h1 : n ≤ 1000000) : wrap64 n = n := by unfold wrap64; omega

theorem loops (s : ByteArray) (hs : s.size ≤ 4096) (d : Nat) :
    (∀ (k : Nat) (out : List Int) (i : Int), 0 ≤ i → i ≤ s.size → (out.length : Int) ≤ 2 * i → 2 * ((s.size : Int) - i) + 1 ≤ d → d ≤ k →
      ∃ r, spec_l02Runs.l0 k s out i = some r ∧ impl_RunsOf.l0 k s out i = some (r, true)) ∧
    (∀ (k : Nat) (out : List Int) (i n : Int), 0 ≤ i → 1 ≤ n → n ≤ 255 → i + n ≤ s.size → (out.length : Int) ≤ 2 * i → 2 * ((s.size : Int) - i) - n + 1 ≤ d → d ≤ k →
      ∃ r, spec_l02Runs.l1 k s out i n = some r ∧ impl_RunsOf.l1 k s out i n = some (r, true)) := by
  induction d using Nat.strongRecOn with
  | ind d ih =>
    constructor
    · intro k out i h0 h1 hl hd hk
      obtain ⟨k, rfl⟩ : ∃ m, k = m + 1 := ⟨k - 1, by omega⟩
      simp only [spec_l02Runs.l0, impl_RunsOf.l0]
      by_cases hlt : i < (s.size : Int)
      · rw [if_pos hlt, if_pos hlt]
        exact (ih (d - 1) (by omega)).2 k out i 1 h0 (by omega) (by omega) (by omega) hl (by omega) (by omega)
      · rw [if_neg hlt, if_neg hlt]
        exact ⟨_, rfl, rfl⟩
    · intro k out i n h0 hn1 hn2 hin hl hd hk
      obtain ⟨k, rfl⟩ : ∃ m, k = m + 1 := ⟨k - 1, by omega⟩
      have hilt : i < (s.size : Int) := by omega
      have e1 : wrap64 (i + n) = i + n := wrap_in (by omega) (by omega)
      have e2 : wrap64 (n + 1) = n + 1 := wrap_in (by omega) (by omega)
      have hlen : ∀ a b : Int, out.length + ([a, b] : List Int).length < 140737488355328 := by
        intro a b; simp only [List.length_cons, List.length_nil]; omega
      -- what both do where the run ends
      have hend : ∃ r, spec_l02Runs.l0 k s (out ++ [n % 256, bt s i]) (i + n) = some r ∧ impl_RunsOf.l0 k s (out ++ [n % 256, bt s i]) (i + n) = some (r, true) :=
        (ih (d - 1) (by omega)).1 k _ (i + n) (by omega) (by omega) (by simp only [List.length_append, List.length_cons, List.length_nil]; omega) (by omega) (by omega)
      simp only [spec_l02Runs.l1, impl_RunsOf.l1, e1, e2]
      simp only [if_pos h0, if_pos hilt, if_pos (show (0 : Int) ≤ i + n by omega), Option.bind_some, if_pos (hlen _ _)]
      by_cases ha : i + n < (s.size : Int)
      · by_cases hb : n < 255
        · rw [if_pos ha, if_pos hb, if_pos hb, if_pos ha]
          by_cases hc : bt s (i + n) = bt s i
          · rw [if_pos hc, if_pos hc]
            exact (ih (d - 1) (by omega)).2 k out i (n + 1) h0 (by omega) (by omega) (by omega) hl (by omega) (by omega)
          · rw [if_neg hc, if_neg hc]
            exact hend
        · rw [if_pos ha, if_neg hb, if_neg hb]
          exact hend
      · rw [if_neg ha]
        by_cases hb : n < 255
        · rw [if_pos hb, if_neg ha]; exact hend
        · rw [if_neg hb]; exact hend

theorem FnExactRunsOf : laws_FnExactRunsOf.Pure := by
  intro s hs
  by_cases h : (s.size : Int) > 1048576
  · exact ⟨0, by unfold laws_FnExactRunsOf.f; rw [if_pos h]⟩
  · by_cases h2 : (s.size : Int) > 4096
    · refine ⟨0, ?_⟩
      unfold laws_FnExactRunsOf.f spec_RunsOf.f impl_RunsOf.f
      rw [if_neg h, if_pos h2, if_pos h2]
      simp
    · obtain ⟨r, h3, h4⟩ := (loops s (by omega) (2 * s.size + 1)).1 (2 * s.size + 1) [] 0 (by omega) (by omega) (by simp) (by omega) (by omega)
      refine ⟨2 * s.size + 1, ?_⟩
      unfold laws_FnExactRunsOf.f spec_RunsOf.f impl_RunsOf.f spec_l02Runs.f
      rw [if_neg h, if_neg h2, if_neg h2, h3, h4]
      simp
end Go.Proofs.Ytbgaflmnkjfdaaa.Pure
