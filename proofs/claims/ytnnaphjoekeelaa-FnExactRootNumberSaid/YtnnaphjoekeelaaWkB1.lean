/-
  The walks of the laws of roots and of flushed numbers. No condition.
-/
import Derived.Test.YtnnaphjoekeelaaCmn
import Derived.Test.YtnnaphjoekeelaaMag
namespace Go.Proofs.Ytnnaphjoekeelaa
set_option linter.unusedVariables false
open Go.RowKit Ieee

/-- math.sqrt: a root of the class that fsqrt tells. -/
theorem run_sqrt {P : Program} (x : Nat) (w : World) : ∃ r n, (Extern.MathSqrt.sqrt #[.float .f64 x]).run P w = .ok (.float .f64 r) (w.drewN n) ∧ cl .f64 r = fsqrt (cl .f64 x) ∧ (Lit.float .f64 r).wf = true := by
  have hf : fsqrt (cl .f64 x) = FloatKind.f64.format.sqrt x := by
    cases h : FloatKind.f64.format.sqrt x with
    | some r =>
      obtain ⟨d, hd, hr⟩ := map_ok (k := .f64) h
      obtain ⟨a, b⟩ := root_ok hd
      rw [cl_some (k := .f64) a]; exact h
    | none =>
      cases hx : cl .f64 x with
      | none => rfl
      | some a => rw [(of_cl_some hx).1]; exact h
  rw [hf]
  have e : Extern.MathSqrt.sqrt #[.float .f64 x] = (match FloatKind.f64.format.sqrt x with | some r => pure (.float .f64 r) | none => do pure (.float .f64 (← choose (.nanBits .f64 x x)))) := rfl
  rw [e]
  cases h : FloatKind.f64.format.sqrt x with
  | some r =>
    obtain ⟨d, hd, hr⟩ := map_ok (k := .f64) h
    obtain ⟨a, b⟩ := root_ok hd
    refine ⟨r, 0, rfl, ?_, wf_of_lt .f64 r (Ieee.double.sqrt_lt h)⟩
    rw [← hr]; exact cl_write .f64 b
  | none =>
    refine ⟨_, 1, ?_, (cut_nanBits .f64 x x (w.tape w.drawn (.nanBits .f64 x x))).1, (cut_nanBits .f64 x x _).2⟩
    simp [Question.forced]; rfl

theorem sqrt_c (x : Nat) (w : World) : Calls Try.prog 26 #[.float .f64 x] w fun e w' => RetF .f64 w (fsqrt (cl .f64 x)) e w' := by
  obtain ⟨r, n, hrun, hc, hw⟩ := run_sqrt (P := Try.prog) x w
  have hcall : (callFunc 35 #[.float .f64 x]).run Try.prog w = .ok (.value (.float .f64 r)) (w.drewN n) := by
    rw [run_callFunc_extern (e := Extern.MathSqrt.sqrt) Try.func35 (by kernel_rfl) (by kernel_rfl) (by kernel_rfl) (by kernel_rfl), hrun]; rfl
  clear hrun
  go_enter Try.func26, Try.ntmps26
  go_wp2
  go_ret
  exact retF n hc hw

/-- The root of a widened float32 can be narrowed. -/
theorem narrow_sqrt {x v r : Nat} (hv : cl .f64 v = fconv .f32 .f64 (cl .f32 x)) (hr : cl .f64 r = fsqrt (cl .f64 v)) : Narrows .f64 .f32 r := by
  cases hx : cl .f32 x with
  | none =>
    rw [hx] at hv
    rw [hv] at hr
    intro s m e h
    have := of_cl_none (k := .f64) (b := r) hr
    rw [show FloatKind.f64.format.read r = Datum.number s m e from h] at this; cases this
  | some c =>
    obtain ⟨rfl, hle⟩ := cl32_some hx
    rw [hx] at hv
    have hv' : cl .f64 v = some (FloatKind.f64.encode (FloatKind.f32.decode c)) := hv
    obtain ⟨ev, hvn⟩ := of_cl_some hv'
    rcases Nat.lt_or_eq_of_le hle with h1 | h1
    · have hm := mag_widen hx h1
      rw [hx] at hm
      obtain ⟨b, hb, hd⟩ := hm
      have hb' : some (FloatKind.f64.encode (FloatKind.f32.decode c)) = some b := hb
      rw [ev] at hb'
      cases hb'
      rw [hv', ev] at hr
      by_cases hs : ∀ s m e, Ieee.double.read v = .number s m e → m ≠ 0 → s = false
      · have hq := mag_sqrt (i := 64) hd hs (by decide) (by decide)
        exact narrow_mag hr (mag_mono hq (by decide))
      · -- a negative number: the root is no number
        have : fsqrt (some v) = none := by
          show ((Ieee.double.read v).root 54).map _ = none
          obtain ⟨s, m, e, hx, _⟩ := hd
          rw [hx]
          have hm0 : m ≠ 0 ∧ s = true := by
            by_cases hm0 : m = 0
            · exfalso; apply hs; intro s' m' e' h' hne; rw [hx] at h'; cases h'; exact absurd hm0 hne
            · refine ⟨hm0, ?_⟩
              cases s
              · exfalso; apply hs; intro s' m' e' h' hne; rw [hx] at h'; cases h'; rfl
              · rfl
          simp only [Datum.root, if_neg hm0.1, hm0.2, if_true]; rfl
        rw [this] at hr
        intro s m e h
        have := of_cl_none (k := .f64) (b := r) hr
        rw [show FloatKind.f64.format.read r = Datum.number s m e from h] at this; cases this
    · -- an infinity
      have e1 := widen_inf h1
      rw [hv', ev] at hr
      rw [ev] at e1
      obtain ⟨sg, hd⟩ := read_infinity (k := .f64) (b := v) (by show v % Ieee.double.signWeight = Ieee.double.infRung; rw [dbl_sign, dbl_inf, e1]; split <;> omega)
      have hq : fsqrt (some v) = none ∨ ∃ q, fsqrt (some v) = some (Ieee.double.write (.infinity q)) := by
        show ((FloatKind.f64.format.read v).root 54).map _ = none ∨ ∃ q, ((FloatKind.f64.format.read v).root 54).map _ = _
        rw [hd]
        cases sg
        · right; exact ⟨false, rfl⟩
        · left; rfl
      rcases hq with hq | ⟨q, hq⟩
      · rw [hq] at hr
        intro s m e h
        have := of_cl_none (k := .f64) (b := r) hr
        rw [show FloatKind.f64.format.read r = Datum.number s m e from h] at this; cases this
      · rw [hq] at hr
        obtain ⟨er, _⟩ := of_cl_some hr
        intro s m e h
        exfalso
        rw [← er] at h
        have h' : Ieee.double.read (Ieee.double.word q Ieee.double.infRung) = .number s m e := h
        cases q
        · have : Ieee.double.read (Ieee.double.word false Ieee.double.infRung) = .infinity false := by decide +kernel
          rw [this] at h'; cases h'
        · have : Ieee.double.read (Ieee.double.word true Ieee.double.infRung) = .infinity true := by decide +kernel
          rw [this] at h'; cases h'

theorem l01Narrow_c (x : Nat) (hn : Narrows .f64 .f32 x) (w : World) : Calls Try.prog 34 #[.float .f64 x] w fun e w' => RetF .f32 w (fconv .f64 .f32 (cl .f64 x)) e w' := by
  go_enter Try.func34, Try.ntmps34
  go_wp2_with (refine wpList_narrow _ rfl Try.underlying28 Try.underlying23 rfl hn ?_; intro r n hr hwr)
  go_ret
  exact retF _ hr hwr

theorem law_RootNumber (x : Nat) (w : World) (hw : (Lit.float .f32 x).wf = true) : Calls Try.prog 6 #[.float .f32 x] w fun e w' => e = .returned (.bool true) ∧ Below w.heap.size w w' := by
  go_enter Try.func6, Try.ntmps6
  go_wp2_with (first | (go_at_call 16; go_in) | (go_at_call 25; go_in) | (refine wpList_widen _ rfl Try.underlying23 Try.underlying28 rfl ?_; intro v n hv hwv))
  refine (sqrt_c _ _).mono ?_; rintro e w' ⟨q, n2, rfl, hq, hwq, rfl⟩
  go_wp2_with fail
  refine (l01Narrow_c _ (narrow_sqrt hv hq) _).mono ?_; rintro e w' ⟨g, n3, rfl, hg, hwg, rfl⟩
  go_wp2_with (first | (go_at_call 17; go_in) | (refine wpList_widen _ rfl Try.underlying23 Try.underlying28 rfl ?_; intro v' n' hv' hwv'))
  refine (sqrt_c _ _).mono ?_; rintro e w' ⟨q', n4, rfl, hq', hwq', rfl⟩
  go_wp2_with (first | (refine wpList_narrow _ rfl Try.underlying28 Try.underlying23 rfl (narrow_sqrt hv' hq') ?_; intro g' n5 hg' hwg') | (refine wpList_widen _ rfl Try.underlying23 Try.underlying28 rfl ?_; intro u n6 hu hwu))
  refine (sameFloat_c _ _ _ (by rw [hu, hg, hq, hv, ← hv', ← hq', ← hg']; assumption)).mono ?_
  rintro e w' ⟨rfl, m, rfl⟩
  go_wp2_with fail
  go_ret
  exact lawOk _
end Go.Proofs.Ytnnaphjoekeelaa
