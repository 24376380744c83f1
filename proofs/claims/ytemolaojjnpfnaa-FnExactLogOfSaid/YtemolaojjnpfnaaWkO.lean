/-
  The walks of the law of codes by logarithm. No condition.
-/
import Derived.Test.YtemolaojjnpfnaaLof
namespace Go.Proofs.Ytemolaojjnpfnaa
set_option linter.unusedVariables false
open Go.RowKit Ieee

theorem wf32 {x : Nat} (h : (Lit.float .f32 x).wf = true) : x < 4294967296 := by simpa [Lit.wf] using h

theorem specAbove_c (x : Nat) (hx : x < 4294967296) (w : World) : Calls Try.prog 58 #[.float .f32 x] w fun e w' => RetB w (above x) e w' := by
  have og := gt0_32 hx
  cases hf : fin .f32 (cl .f32 x) with
  | false =>
    have HF := Lib.hid hf
    have HA : Hid (above x = false) := by
      show _ = _; rw [fin_32] at hf; have := of_decide_eq_false hf
      exact decide_eq_false (by omega)
    clear og hf hx
    go_enter Try.func58, Try.ntmps58
    go_wp2_with fail
    refine (l01Finite_c _ _).mono ?_; rintro e w' ⟨rfl, n, rfl⟩
    rw [HF.out]
    go_wp2
    go_ret
    exact retB _ HA.out.symm
  | true =>
    have HF := Lib.hid hf
    have HA : Hid (above x = decide (x ≤ 2139095040 ∧ x ≠ 0)) := by
      show _ = _; rw [fin_32] at hf; have := of_decide_eq_true hf
      exact decide_eq_decide.2 (by omega)
    have HG := Lib.hid og
    clear og hf hx
    go_enter Try.func58, Try.ntmps58
    go_wp2_with fail
    refine (l01Finite_c _ _).mono ?_; rintro e w' ⟨rfl, n, rfl⟩
    rw [HF.out]
    go_wp2
    go_ret
    exact retB _ (by rw [HA.out]; exact HG.out)

theorem specLeast_c (x : Nat) (hx : x < 4294967296) (w : World) : Calls Try.prog 63 #[.float .f32 x] w fun e w' => RetB w (least x) e w' := by
  have og := ge0_32 hx
  cases hf : fin .f32 (cl .f32 x) with
  | false =>
    have HF := Lib.hid hf
    have HA : Hid (least x = false) := by
      show _ = _; rw [fin_32] at hf; have := of_decide_eq_false hf
      exact decide_eq_false (by omega)
    clear og hf hx
    go_enter Try.func63, Try.ntmps63
    go_wp2_with fail
    refine (l01Finite_c _ _).mono ?_; rintro e w' ⟨rfl, n, rfl⟩
    rw [HF.out]
    go_wp2
    go_ret
    exact retB _ HA.out.symm
  | true =>
    have HF := Lib.hid hf
    have HA : Hid (least x = decide (x ≤ 2139095040 ∨ x = 2147483648)) := by
      show _ = _; rw [fin_32] at hf; have := of_decide_eq_true hf
      exact decide_eq_decide.2 (by omega)
    have HG := Lib.hid og
    clear og hf hx
    go_enter Try.func63, Try.ntmps63
    go_wp2_with fail
    refine (l01Finite_c _ _).mono ?_; rintro e w' ⟨rfl, n, rfl⟩
    rw [HF.out]
    go_wp2
    go_ret
    exact retB _ (by rw [HA.out]; exact HG.out)

theorem call_round (b : Nat) (h : MagD (Ieee.double.read b) 52) (w : World) : (callFunc 86 #[.float .f64 b]).run Try.prog w = .ok (.value (.float .f64 (partB .even b))) w := by
  obtain ⟨s, m, e, hd, _⟩ := h
  have hlt : b % 9223372036854775808 < 9218868437227405312 := by
    have h1 := read_dbl b
    rw [hd] at h1
    split at h1
    · omega
    · split at h1
      · assumption
      · split at h1 <;> cases h1
  rw [run_callFunc_extern (e := Extern.MathFloor.toIntegral "math.RoundToEven" .even) Try.func86 (by kernel_rfl) (by kernel_rfl) (by kernel_rfl) (by kernel_rfl), run_toIntegral hlt]; rfl

theorem specNear_c (b : Nat) (n : Int) (h : MagD (Ieee.double.read b) 52) (hn : floatToIntVal .f64 (partB .even b) .i64 = some n) (w : World) : Calls Try.prog 64 #[.float .f64 b] w fun e w' => e = .returned (.int .i64 n) ∧ w = w' := by
  have hcall := call_round b h
  have hc : ∀ w, (convert 25 2 (.float .f64 (partB .even b))).run Try.prog w = .ok (.int .i64 n) w := fun w => run_convert_float_int w _ _ .f64 .i64 _ _ (by rw [Try.underlying25]; rfl) Try.underlying2 hn
  clear h hn
  go_enter Try.func64, Try.ntmps64
  go_wp2
  go_ret
  exact ⟨rfl, rfl⟩
theorem implNear_c (b : Nat) (n : Int) (h : MagD (Ieee.double.read b) 52) (hn : floatToIntVal .f64 (partB .even b) .i64 = some n) (w : World) : Calls Try.prog 65 #[.float .f64 b] w fun e w' => e = .returned (.int .i64 n) ∧ w = w' := by
  have hcall := call_round b h
  have hc : ∀ w, (convert 25 2 (.float .f64 (partB .even b))).run Try.prog w = .ok (.int .i64 n) w := fun w => run_convert_float_int w _ _ .f64 .i64 _ _ (by rw [Try.underlying25]; rfl) Try.underlying2 hn
  clear h hn
  go_enter Try.func65, Try.ntmps65
  go_wp2
  go_ret
  exact ⟨rfl, rfl⟩

theorem lof_facts {u : Nat} (hu : u < 4294967296) :
    ((FloatKind.f32.format.order u 0 == some .gt) = (ford .f32 (cl .f32 u) (some 0) == some .gt)) ∧
    ((FloatKind.f32.format.order u 1065353216 == some .gt || FloatKind.f32.format.order u 1065353216 == some .eq) = (ford .f32 (cl .f32 u) (some 1065353216) == some .gt || ford .f32 (cl .f32 u) (some 1065353216) == some .eq)) ∧
    ((FloatKind.f32.format.order u 0 == some .gt) = true → (FloatKind.f32.format.order u 1065353216 == some .gt || FloatKind.f32.format.order u 1065353216 == some .eq) = false → u < 1065353216 ∧ cl .f32 u = some u) := by
  refine ⟨?_, ?_, fun h1 h2 => ?_⟩
  · rw [show FloatKind.f32.format.order u 0 = ford .f32 (cl .f32 u) (cl .f32 0) from order_cl .f32 u 0, cl_zero]
  · rw [show FloatKind.f32.format.order u 1065353216 = ford .f32 (cl .f32 u) (cl .f32 1065353216) from order_cl .f32 u _, show cl .f32 1065353216 = some 1065353216 from by decide +kernel]
  · rw [gt0_32 hu] at h1
    obtain ⟨h3, h4⟩ := of_decide_eq_true h1
    rw [ge1_32 h3] at h2
    have := of_decide_eq_false h2
    exact ⟨by omega, by rw [cl32, if_neg (by omega)]⟩

/-- An answer by its class. -/
theorem lofN_low {U : Option Nat} (h : (ford .f32 U (some 0) == some .gt) = false) : lofN U = 0 := by unfold lofN; rw [h]; rfl
theorem lofN_top {U : Option Nat} (h : (ford .f32 U (some 0) == some .gt) = true) (h2 : (ford .f32 U (some 1065353216) == some .gt || ford .f32 U (some 1065353216) == some .eq) = true) : lofN U = 255 := by unfold lofN; rw [h, h2]; rfl
theorem lofN_mid {U : Option Nat} (h : (ford .f32 U (some 0) == some .gt) = true) (h2 : (ford .f32 U (some 1065353216) == some .gt || ford .f32 U (some 1065353216) == some .eq) = false) : lofN U = nearV U := by unfold lofN; rw [h, h2]; rfl

/-- What the walks leave. -/
def LofRet (w : World) (x low stops : Nat) (e : Ending) (w' : World) : Prop := ∃ n ok, lofT x low stops n ok ∧ e = .returned (.tuple #[.int .i64 n, .bool ok]) ∧ Below w.heap.size w w'
theorem lof_bad {w w' : World} {x low stops : Nat} (h : lofOk x low stops = false) (hb : Below w.heap.size w w') : LofRet w x low stops (.returned (.tuple #[.int .i64 0, .bool false])) w' := ⟨_, _, ⟨h.symm, .inl ⟨h, rfl⟩⟩, rfl, hb⟩
theorem lof_good {w w' : World} {x low stops : Nat} {n : Int} {U : Option Nat} (h : lofOk x low stops = true) (hU : lofU x low stops U) (hn : n = lofN U) (hb : Below w.heap.size w w') : LofRet w x low stops (.returned (.tuple #[.int .i64 n, .bool true])) w' := ⟨_, _, ⟨h.symm, .inr ⟨h, U, hU, hn⟩⟩, rfl, hb⟩
end Go.Proofs.Ytemolaojjnpfnaa
