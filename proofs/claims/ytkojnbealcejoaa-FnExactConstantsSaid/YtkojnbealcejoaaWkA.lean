/-
  The walks of the laws on single numbers: each returns true, whatever the input. No condition.
-/
import Derived.Test.YtkojnbealcejoaaCmn
namespace Go.Proofs.Ytkojnbealcejoaa
set_option linter.unusedVariables false
open Go.RowKit Ieee

theorem law_Constants (w : World) : Calls Try.prog 3 #[] w fun e w' => e = .returned (.bool true) ∧ Below w.heap.size w w' := by
  go_enter Try.func3, Try.ntmps3
  go_wp2
  go_ret
  exact lawOk0

theorem law_IsFinite (x : Nat) (w : World) (_ : (Lit.float .f32 x).wf = true) : Calls Try.prog 4 #[.float .f32 x] w fun e w' => e = .returned (.bool true) ∧ Below w.heap.size w w' := by
  go_enter Try.func4, Try.ntmps4
  go_wp2_with (first | (go_at_call 10; refine (specIsFinite_c _ _).mono ?_; rintro e w' ⟨rfl, m, rfl⟩) | (go_at_call 11; refine (implIsFinite_c _ _).mono ?_; rintro e w' ⟨rfl, n, rfl⟩))
  go_ret
  exact lawOk _

theorem law_IsSubnormal (x : Nat) (w : World) (hw : (Lit.float .f32 x).wf = true) : Calls Try.prog 6 #[.float .f32 x] w fun e w' => e = .returned (.bool true) ∧ Below w.heap.size w w' := by
  go_enter Try.func6, Try.ntmps6
  go_wp2_with (first | (go_at_call 15; refine (specIsSubnormal_c _ hw _).mono ?_; rintro e w' ⟨rfl, m, rfl⟩) | (go_at_call 16; refine (implIsSubnormal_c _ hw _).mono ?_; rintro e w' ⟨rfl, n, rfl⟩))
  go_ret
  exact lawOk _

theorem specBitsOf_c (x : Nat) (hw : (Lit.float .f32 x).wf = true) (w : World) : Calls Try.prog 17 #[.float .f32 x] w fun e w' => RetI .i64 w (bitsI (cl .f32 x)) e w' := by
  go_enter Try.func17, Try.ntmps17
  go_wp2_with (go_at_call 26; refine (l01Bits_c _ hw _).mono ?_; rintro e w' ⟨rfl, m, rfl⟩)
  go_ret
  exact retI _ rfl

theorem implBitsOf_c (x : Nat) (hw : (Lit.float .f32 x).wf = true) (w : World) : Calls Try.prog 18 #[.float .f32 x] w fun e w' => RetI .i64 w (bitsI (cl .f32 x)) e w' := by
  have hx : x < 4294967296 := by simpa [Lit.wf] using hw
  have C1 := Lib.hid (isNaN_c x)
  cases h : cl .f32 x with
  | none =>
    rw [h] at C1
    clear h
    go_enter Try.func18, Try.ntmps18
    go_wp2_with fail
    refine (C1.out _).mono ?_; rintro e w' ⟨rfl, n, rfl⟩
    go_wp2
    go_ret
    exact retI _ rfl
  | some c =>
    rw [h] at C1
    obtain ⟨rfl, _⟩ := of_cl_some h
    clear h
    go_enter Try.func18, Try.ntmps18
    go_wp2_with fail
    refine (C1.out _).mono ?_; rintro e w' ⟨rfl, n, rfl⟩
    go_wp2
    go_ret
    exact retI _ rfl

theorem law_BitsOf (x : Nat) (w : World) (hw : (Lit.float .f32 x).wf = true) : Calls Try.prog 7 #[.float .f32 x] w fun e w' => e = .returned (.bool true) ∧ Below w.heap.size w w' := by
  go_enter Try.func7, Try.ntmps7
  go_wp2_with (first | (go_at_call 17; refine (specBitsOf_c _ hw _).mono ?_; rintro e w' ⟨rfl, m, rfl⟩) | (go_at_call 18; refine (implBitsOf_c _ hw _).mono ?_; rintro e w' ⟨rfl, n, rfl⟩))
  go_ret
  exact lawOk _

theorem law_SameNumber (a b : Nat) (w : World) (ha : (Lit.float .f32 a).wf = true) (hb : (Lit.float .f32 b).wf = true) : Calls Try.prog 8 #[.float .f32 a, .float .f32 b] w fun e w' => e = .returned (.bool true) ∧ Below w.heap.size w w' := by
  go_enter Try.func8, Try.ntmps8
  go_wp2_with (first | (go_at_call 19; refine (specSame_c _ _ ha hb _).mono ?_; rintro e w' ⟨rfl, m, rfl⟩) | (go_at_call 20; refine (implSame_c _ _ ha hb _).mono ?_; rintro e w' ⟨rfl, n, rfl⟩))
  go_ret
  exact lawOk _

theorem law_FromBits (n : Int) (w : World) (hw : (Lit.int .i64 n).wf = true) : Calls Try.prog 9 #[.int .i64 n] w fun e w' => e = .returned (.bool true) ∧ Below w.heap.size w w' := by
  by_cases h0 : 0 ≤ n
  · by_cases h1 : n ≤ 4294967295
    · have e1 : IntKind.u32.wrap n = n := by rw [IntKind.wrap_u32]; omega
      go_enter Try.func9, Try.ntmps9
      go_wp2_with (first | (go_at_call 21; go_in) | (go_at_call 22; go_in) | (go_at_call 31; go_in) | (go_at_call 33; go_in) | (go_at_call 32; go_in) | (refine wpList_widen _ rfl Try.underlying23 Try.underlying25 rfl ?_; intro r n hr hwr))
      refine (sameFloat_c _ _ _ (by rw [hr]; assumption)).mono ?_
      rintro e w' ⟨rfl, m, rfl⟩
      go_wp2_with fail
      go_ret
      exact lawOk _
    · go_enter Try.func9, Try.ntmps9
      go_wp2_with (first | (go_at_call 21; go_in) | (go_at_call 22; go_in) | (go_at_call 31; go_in) | (go_at_call 33; go_in) | (go_at_call 32; go_in) | (refine wpList_widen _ rfl Try.underlying23 Try.underlying25 rfl ?_; intro r n hr hwr))
      refine (sameFloat_c _ _ _ (by rw [hr]; assumption)).mono ?_
      rintro e w' ⟨rfl, m, rfl⟩
      go_wp2_with fail
      go_ret
      exact lawOk _
  · go_enter Try.func9, Try.ntmps9
    go_wp2_with (first | (go_at_call 21; go_in) | (go_at_call 22; go_in) | (go_at_call 31; go_in) | (go_at_call 33; go_in) | (go_at_call 32; go_in) | (refine wpList_widen _ rfl Try.underlying23 Try.underlying25 rfl ?_; intro r n hr hwr))
    refine (sameFloat_c _ _ _ (by rw [hr]; assumption)).mono ?_
    rintro e w' ⟨rfl, m, rfl⟩
    go_wp2_with fail
    go_ret
    exact lawOk _
end Go.Proofs.Ytkojnbealcejoaa
