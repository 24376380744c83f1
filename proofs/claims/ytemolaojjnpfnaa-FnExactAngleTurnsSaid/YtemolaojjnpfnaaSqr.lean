/-
  The contract of math.Sqrt. No condition.
-/
import Derived.Test.YtemolaojjnpfnaaCmn
import Derived.Test.YtemolaojjnpfnaaMag
namespace Go.Proofs.Ytemolaojjnpfnaa
set_option linter.unusedVariables false
open Go.RowKit Ieee

/-- math.sqrt: a root of the class that fsqrt tells. -/
theorem run_sqrt {P : Program} (x : Nat) (w : World) : ∃ r n, (Extern.MathSqrt.sqrt #[.float .f64 x]).run P w = .ok (.float .f64 r) (w.drewN n) ∧ cl .f64 r = fsqrt (cl .f64 x) ∧ (Lit.float .f64 r).wf = true := by
  have hf : fsqrt (cl .f64 x) = FloatKind.f64.format.sqrt x := by
    cases h : FloatKind.f64.format.sqrt x with
    | some r =>
      obtain ⟨d, hd, hr⟩ := map_ok (k := .f64) h
      obtain ⟨a, b⟩ := root_ok hd
      rw [cl_some (k := .f64) a]; exact h
    | none =>
      cases hx : cl .f64 x with
      | none => rfl
      | some a => rw [(of_cl_some hx).1]; exact h
  rw [hf]
  have e : Extern.MathSqrt.sqrt #[.float .f64 x] = (match FloatKind.f64.format.sqrt x with | some r => pure (.float .f64 r) | none => do pure (.float .f64 (← choose (.nanBits .f64 x x)))) := rfl
  rw [e]
  cases h : FloatKind.f64.format.sqrt x with
  | some r =>
    obtain ⟨d, hd, hr⟩ := map_ok (k := .f64) h
    obtain ⟨a, b⟩ := root_ok hd
    refine ⟨r, 0, rfl, ?_, wf_of_lt .f64 r (Ieee.double.sqrt_lt h)⟩
    rw [← hr]; exact cl_write .f64 b
  | none =>
    refine ⟨_, 1, ?_, (cut_nanBits .f64 x x (w.tape w.drawn (.nanBits .f64 x x))).1, (cut_nanBits .f64 x x _).2⟩
    simp [Question.forced]; rfl

theorem sqrt_c (x : Nat) (w : World) : Calls Try.prog 53 #[.float .f64 x] w fun e w' => RetF .f64 w (fsqrt (cl .f64 x)) e w' := by
  obtain ⟨r, n, hrun, hc, hw⟩ := run_sqrt (P := Try.prog) x w
  have hcall : (callFunc 81 #[.float .f64 x]).run Try.prog w = .ok (.value (.float .f64 r)) (w.drewN n) := by
    rw [run_callFunc_extern (e := Extern.MathSqrt.sqrt) Try.func81 (by kernel_rfl) (by kernel_rfl) (by kernel_rfl) (by kernel_rfl), hrun]; rfl
  clear hrun
  go_enter Try.func53, Try.ntmps53
  go_wp2
  go_ret
  exact retF n hc hw
end Go.Proofs.Ytemolaojjnpfnaa
