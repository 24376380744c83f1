/-
  The walk of areFew, of one length and of two. No condition.
-/
import Derived.Test.YtnnaphjoekeelaaCmn
import Derived.Handy
namespace Go.Proofs.Ytnnaphjoekeelaa
set_option linter.unusedVariables false
open Go.RowKit Ieee

theorem ret_bool {a b : Bool} (h : a = b) : Ending.returned (.bool a) = .returned (.bool b) := by rw [h]

theorem areFew1 (n : Int) (w : World) : Calls Try.prog 20 #[.slice (some ⟨w.heap.size, 0, none⟩) 1 1] (w.alloc (.cells #[.int .i64 n] 3)) fun e w' => e = .returned (.bool (decide (n ≤ 256))) ∧ Below w.heap.size w w' := by
  have h1 : (n != n) = false := by simp
  by_cases hn : n ≤ 256
  · have h2 : decide (n ≤ 256) = true := by simpa using hn
    go_enter Try.func20, Try.ntmps20
    go_wp2
    go_rounds 2
    go_ret
    refine ⟨by first | exact ret_bool rfl | exact ret_bool h2.symm, ?_⟩
    go_grown
  · have h2 : decide (n ≤ 256) = false := by simpa using hn
    go_enter Try.func20, Try.ntmps20
    go_wp2
    go_ret
    refine ⟨by first | exact ret_bool rfl | exact ret_bool h2.symm, ?_⟩
    go_grown

theorem areFew2 (n m : Int) (w : World) : Calls Try.prog 20 #[.slice (some ⟨w.heap.size, 0, none⟩) 2 2] (w.alloc (.cells #[.int .i64 n, .int .i64 m] 3)) fun e w' => e = .returned (.bool (decide (n ≤ 256) && decide (n = m))) ∧ Below w.heap.size w w' := by
  by_cases hn : n ≤ 256
  · have h2 : decide (n ≤ 256) = true := by simpa using hn
    by_cases hm : n = m
    · subst hm
      have h3 : (decide (n ≤ 256) && decide (n = n)) = true := by rw [h2]; simp
      have H3 := Lib.hid h3
      have h1 : (n != n) = false := by simp
      clear h3
      go_enter Try.func20, Try.ntmps20
      go_wp2
      go_rounds 3
      go_ret
      refine ⟨by first | exact ret_bool rfl | exact ret_bool H3.out.symm, ?_⟩
      go_grown
    · have h3 : (decide (n ≤ 256) && decide (n = m)) = false := by rw [decide_eq_false hm, Bool.and_false]
      have H3 := Lib.hid h3
      have h1 : (m != n) = true := by rw [bne_iff_ne]; exact fun h => hm h.symm
      clear h3 hm
      go_enter Try.func20, Try.ntmps20
      go_wp2
      go_rounds 3
      go_ret
      refine ⟨by first | exact ret_bool rfl | exact ret_bool H3.out.symm, ?_⟩
      go_grown
  · have h2 : decide (n ≤ 256) = false := by simpa using hn
    have h3 : (decide (n ≤ 256) && decide (n = m)) = false := by rw [h2, Bool.false_and]
    have H3 := Lib.hid h3
    clear h3
    go_enter Try.func20, Try.ntmps20
    go_wp2
    go_ret
    refine ⟨by first | exact ret_bool rfl | exact ret_bool H3.out.symm, ?_⟩
    go_grown
end Go.Proofs.Ytnnaphjoekeelaa
