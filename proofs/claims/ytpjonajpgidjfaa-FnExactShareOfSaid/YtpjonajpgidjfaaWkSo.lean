/-
  The walk of the law ShareOf: both sides tell the same share.
-/
import Derived.Test.YtpjonajpgidjfaaShi
namespace Go.Proofs.Ytpjonajpgidjfaa
set_option linter.unusedVariables false
open Go.RowKit Ieee

set_option maxRecDepth 20000 in
set_option maxHeartbeats 8000000 in
theorem law_ShareOf (r g b : Nat) (w : World) (wr : (Lit.float .f32 r).wf = true) (wg : (Lit.float .f32 g).wf = true) (wb : (Lit.float .f32 b).wf = true) :
    Calls Try.prog 12 #[.float .f32 r, .float .f32 g, .float .f32 b] w fun e w' => e = .returned (.bool true) ∧ Below w.heap.size w w' := by
  have lr : r < 4294967296 := by simpa [Lit.wf] using wr
  have lg : g < 4294967296 := by simpa [Lit.wf] using wg
  have lb : b < 4294967296 := by simpa [Lit.wf] using wb
  have S := Lib.hid (fun w => specShareOf_c r g b lr lg lb w)
  have I := Lib.hid (fun w => implShareOf_c r g b lr lg lb w)
  clear wr wg wb lr lg lb
  go_enter Try.func12, Try.ntmps12
  go_wp2_with fail
  refine (S.out _).mono ?_; rintro e w1 ⟨n1, k1, rfl, s1, b1⟩
  go_wp2_with fail
  refine (I.out _).mono ?_; rintro e w2 ⟨n2, k2, rfl, s2, b2⟩
  obtain ⟨h1, h2⟩ := shareP_one s1 s2
  subst h1
  subst h2
  clear s1 s2
  have BB := Lib.hid (below_trans b1 b2)
  cases k1
  all_goals
    go_wp2_with fail
    all_goals go_ret
    all_goals exact ⟨rfl, BB.out⟩
