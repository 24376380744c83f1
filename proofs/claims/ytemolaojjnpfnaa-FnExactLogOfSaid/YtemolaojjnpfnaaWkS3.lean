/-
  The walk of the law of sines. No condition.
-/
import Derived.Test.YtemolaojjnpfnaaWkS2
namespace Go.Proofs.Ytemolaojjnpfnaa
set_option linter.unusedVariables false
open Go.RowKit Ieee

theorem narrow_nan {b : Nat} (h : cl .f64 b = none) : Narrows .f64 .f32 b := by
  intro s m e hd
  have := of_cl_none (k := .f64) (b := b) h
  rw [show FloatKind.f64.format.read b = Datum.number s m e from hd] at this; cases this

/-- A widened float32 is a number just when the float32 was. -/
theorem widen_fin {x v : Nat} (hv : cl .f64 v = fconv .f32 .f64 (cl .f32 x)) (h : fin .f32 (cl .f32 x) = true) : v % 9223372036854775808 < 9218868437227405312 := by
  unfold fin at h
  cases hx : cl .f32 x with
  | none => rw [hx] at h; cases h
  | some c =>
    obtain ⟨rfl, hle⟩ := cl32_some hx
    rw [hx] at h
    have hlt : c % 2147483648 < 2139095040 := by
      have h2 : decide (c % Ieee.single.signWeight < Ieee.single.infRung) = true := h
      rw [sng_sign, sng_inf] at h2
      exact of_decide_eq_true h2
    obtain ⟨b, hb, s, m, e, hd, hm⟩ := mag_widen hx hlt
    rw [hb] at hv
    obtain ⟨rfl, hle2⟩ := cl64_some hv
    rcases Nat.lt_or_eq_of_le hle2 with h1 | h1
    · exact h1
    · obtain ⟨sg, hi⟩ := read_infinity (k := .f64) (b := b) (by show b % Ieee.double.signWeight = Ieee.double.infRung; rw [dbl_sign, dbl_inf]; exact h1)
      rw [show Ieee.double.read b = .infinity sg from hi] at hd; cases hd
theorem widen_bad {x v : Nat} (hv : cl .f64 v = fconv .f32 .f64 (cl .f32 x)) (h : fin .f32 (cl .f32 x) = false) : 9218868437227405312 ≤ v % 9223372036854775808 := by
  unfold fin at h
  cases hx : cl .f32 x with
  | none =>
    rw [hx] at hv
    exact Nat.le_of_lt (cl64_none hv)
  | some c =>
    obtain ⟨rfl, hle⟩ := cl32_some hx
    rw [hx] at h hv
    have hlt : ¬ c % 2147483648 < 2139095040 := by
      have h2 : decide (c % Ieee.single.signWeight < Ieee.single.infRung) = false := h
      rw [sng_sign, sng_inf] at h2
      exact of_decide_eq_false h2
    have hv' : cl .f64 v = some (FloatKind.f64.encode (FloatKind.f32.decode c)) := hv
    obtain ⟨e, _⟩ := cl64_some hv'
    have e1 := widen_inf (x := c) (by omega)
    rw [e] at e1
    rw [e1]
    split <;> omega

/-- The reference's sine, for every class. -/
def wideSine (b : Nat) : Option Nat := if b % 9223372036854775808 < R 52 then sinF (fracF b) else if b % 9223372036854775808 < 9218868437227405312 then some 0 else none

theorem narrow_sine {b v : Nat} (h : cl .f64 v = wideSine b) : Narrows .f64 .f32 v := by
  unfold wideSine at h
  split at h
  · rename_i hb
    exact narrow_mag h (mag_mono (mag_sin (frac_F2 hb)) (by decide))
  · split at h
    · exact narrow_mag h ⟨0, rfl, read_mag (by decide) (by decide) (by decide +kernel)⟩
    · exact narrow_nan h

theorem l01Narrow_c (x : Nat) (hn : Narrows .f64 .f32 x) (w : World) : Calls Try.prog 70 #[.float .f64 x] w fun e w' => RetF .f32 w (fconv .f64 .f32 (cl .f64 x)) e w' := by
  go_enter Try.func70, Try.ntmps70
  go_wp2_with (refine wpList_narrow _ rfl Try.underlying25 Try.underlying22 rfl hn ?_; intro r n hr hwr)
  go_ret
  exact retF _ hr hwr

theorem nan64_c (w : World) : Calls Try.prog 72 #[] w fun e w' => RetF .f64 w none e w' := by
  go_enter Try.func72, Try.ntmps72
  go_wp2
  go_ret
  exact retF0 (by decide +kernel) (by decide)

theorem abs64_c (x : Nat) (hw : (Lit.float .f64 x).wf = true) (w : World) : Calls Try.prog 47 #[.float .f64 x] w fun e w' => e = .returned (.float .f64 (x % 9223372036854775808)) ∧ w = w' := by
  have hx : x < 18446744073709551616 := by simpa [Lit.wf] using hw
  have hb := abs_bits x hx
  clear hx hw
  go_enter Try.func47, Try.ntmps47
  go_wp2
  go_ret
  exact ⟨rfl, rfl⟩

theorem nan32_c (w : World) : Calls Try.prog 41 #[] w fun e w' => RetF .f32 w none e w' := by
  go_enter Try.func41, Try.ntmps41
  go_wp2_with fail
  refine (nan64_c _).mono ?_; rintro e w' ⟨r, n, rfl, hr, hwr, rfl⟩
  go_wp2_with (refine wpList_narrow _ rfl Try.underlying25 Try.underlying22 rfl (narrow_nan hr) ?_; intro r2 n2 hr2 hwr2)
  go_ret
  exact retF _ (by rw [hr2, hr]; rfl) hwr2

theorem l01SineWide_all (b : Nat) (hwf : (Lit.float .f64 b).wf = true) (w : World) : Calls Try.prog 75 #[.float .f64 b] w fun e w' => RetF .f64 w (wideSine b) e w' := by
  have hR : R 52 = 1075 * 4503599627370496 := rfl
  unfold wideSine
  by_cases h : b % 9223372036854775808 < R 52
  · rw [if_pos h]; exact l01SineWide_c b h hwf w
  · rw [if_neg h]
    by_cases hf : b % 9223372036854775808 < 9218868437227405312
    · rw [if_pos hf]
      have HSS := Lib.hid (sub_self_fin hf)
      cases hg : (FloatKind.f64.format.order b 4841369599423283200 == some .gt || FloatKind.f64.format.order b 4841369599423283200 == some .eq) with
      | true =>
        clear hR h hf hwf
        go_enter Try.func75, Try.ntmps75
        go_wp2_with (refine wpList_fbin .f64 _ _ rfl rfl rfl rfl ?_; intro t0 n0 h0 w0; have hz0 := ne_of_zero (h0.trans HSS.out))
        go_ret
        exact retF _ (cl_zero _) (by decide)
      | false =>
        have hl := far_le' (Nat.le_of_not_lt h) hf hg
        clear hR h hf hwf
        go_enter Try.func75, Try.ntmps75
        go_wp2_with (refine wpList_fbin .f64 _ _ rfl rfl rfl rfl ?_; intro t0 n0 h0 w0; have hz0 := ne_of_zero (h0.trans HSS.out))
        go_ret
        exact retF _ (cl_zero _) (by decide)
    · rw [if_neg hf]
      have HSS := Lib.hid (sub_self_bad (Nat.le_of_not_lt hf))
      clear hR h hf hwf
      go_enter Try.func75, Try.ntmps75
      go_wp2_with (first | (go_at_call 72; refine (nan64_c _).mono ?_; rintro e w' ⟨r, n, rfl, hr, hwr, rfl⟩) | (refine wpList_fbin .f64 _ _ rfl rfl rfl rfl ?_; intro t0 n0 h0 w0; have hz0 := ne_of_none (h0.trans HSS.out)))
      go_ret
      exact retF _ hr hwr

/-- The narrowed sine of a float32. -/
def sineT (x : Nat) (r : Option Nat) : Prop := ∃ v, cl .f64 v = fconv .f32 .f64 (cl .f32 x) ∧ (Lit.float .f64 v).wf = true ∧ r = fconv .f64 .f32 (wideSine v)

theorem cl_zero_eq (k : FloatKind) {a b : Nat} (h : cl k a = cl k b) (ha : (cl k a).isSome = true) : a = b := by
  cases h1 : cl k a with
  | none => rw [h1] at ha; cases ha
  | some c => rw [h1] at h; rw [← (of_cl_some h1).1, (of_cl_some h.symm).1]

theorem wideSine_cl {a b : Nat} (h : cl .f64 a = cl .f64 b) : wideSine a = wideSine b := by
  cases h1 : cl .f64 a with
  | none =>
    have ha := cl64_none h1
    rw [h1] at h
    have hb := cl64_none h.symm
    have hR : R 52 = 1075 * 4503599627370496 := rfl
    unfold wideSine
    rw [if_neg (by omega), if_neg (by omega), if_neg (by omega), if_neg (by omega)]
  | some c => rw [cl_zero_eq .f64 h (by rw [h1]; rfl)]

theorem specSine_c (x : Nat) (w : World) : Calls Try.prog 18 #[.float .f32 x] w fun e w' => ∃ c, sineT x c ∧ RetF .f32 w c e w' := by
  go_enter Try.func18, Try.ntmps18
  go_wp2_with (first | (go_at_call 46; go_in) | (refine wpList_widen _ rfl Try.underlying22 Try.underlying25 rfl ?_; intro v n hv hwv))
  refine (l01SineWide_all _ hwv _).mono ?_; rintro e w' ⟨r, n2, rfl, hr, hwr, rfl⟩
  go_wp2_with fail
  refine (l01Narrow_c _ (narrow_sine hr) _).mono ?_; rintro e w' ⟨g, n3, rfl, hg, hwg, rfl⟩
  go_wp2
  go_ret
  exact ⟨_, ⟨v, hv, hwv, rfl⟩, retF _ (by rw [hg, hr]) hwg⟩

theorem implSine_c (x : Nat) (w : World) : Calls Try.prog 19 #[.float .f32 x] w fun e w' => ∃ c, sineT x c ∧ RetF .f32 w c e w' := by
  have hR : R 52 = 1075 * 4503599627370496 := rfl
  cases hf : fin .f32 (cl .f32 x) with
  | false =>
    go_enter Try.func19, Try.ntmps19
    go_wp2_with fail
    refine (implIsFinite_c _ _).mono ?_; rintro e w' ⟨rfl, n, rfl⟩
    rw [hf]
    go_wp2_with fail
    refine (nan32_c _).mono ?_; rintro e w' ⟨r, n2, rfl, hr, hwr, rfl⟩
    go_wp2
    go_ret
    obtain ⟨v, _, _, hv, hwv⟩ := run_widen_op (P := Try.prog) w (ρ := fun _ => .float .f32 x) (d := none) (src := 22) (dst := 25) (rt := 0) (x := .tmp 0) (pos := "") (aft := #[]) (g := none) x rfl Try.underlying22 Try.underlying25
    have hb := widen_bad hv hf
    refine ⟨_, ⟨v, hv, hwv, rfl⟩, retF _ ?_ hwr⟩
    rw [hr]; unfold wideSine
    rw [if_neg (by omega), if_neg (by omega)]; rfl
  | true =>
    go_enter Try.func19, Try.ntmps19
    go_wp2_with fail
    refine (implIsFinite_c _ _).mono ?_; rintro e w' ⟨rfl, n, rfl⟩
    rw [hf]
    go_wp2_with (refine wpList_widen _ rfl Try.underlying22 Try.underlying25 rfl ?_; intro v n2 hv hwv)
    refine (abs64_c _ hwv _).mono ?_; rintro e w' ⟨rfl, rfl⟩
    have hvf := widen_fin hv hf
    by_cases hn : v % 9223372036854775808 < R 52
    · have hge : (FloatKind.f64.format.order (v % 9223372036854775808) 4841369599423283200 == some .gt || FloatKind.f64.format.order (v % 9223372036854775808) 4841369599423283200 == some .eq) = false := by
        rw [order_f64, cl64_of (by omega), cl64_of (by decide), ge_pos (by omega) (by decide)]; exact decide_eq_false (by omega)
      go_wp2_with (refine wpList_widen _ rfl Try.underlying22 Try.underlying25 rfl ?_; intro v2 n3 hv2 hwv2)
      have hn2 : v2 % 9223372036854775808 < R 52 := by
        rw [← cl_zero_eq .f64 (hv.trans hv2.symm) (by rw [cl_finite hvf]; rfl)]; exact hn
      refine (sine_c _ hn2 hwv2 _).mono ?_; rintro e w' ⟨r, n4, rfl, hr, hwr, rfl⟩
      have hr' : cl .f64 r = wideSine v2 := by rw [hr]; unfold wideSine; rw [if_pos hn2]
      go_wp2_with (refine wpList_narrow _ rfl Try.underlying25 Try.underlying22 rfl (narrow_sine hr') ?_; intro g n5 hg hwg)
      go_ret
      exact ⟨_, ⟨v2, hv2, hwv2, rfl⟩, retF _ (by rw [hg, hr']) hwg⟩
    · have hge : (FloatKind.f64.format.order (v % 9223372036854775808) 4841369599423283200 == some .gt || FloatKind.f64.format.order (v % 9223372036854775808) 4841369599423283200 == some .eq) = true := by
        rw [order_f64, cl64_of (by omega), cl64_of (by decide), ge_pos (by omega) (by decide)]; exact decide_eq_true (by omega)
      go_wp2
      go_ret
      refine ⟨_, ⟨v, hv, hwv, rfl⟩, retF _ ?_ (by decide)⟩
      unfold wideSine
      rw [if_neg hn, if_pos hvf]
      decide +kernel

theorem sineT_one {x : Nat} {a b : Option Nat} (ha : sineT x a) (hb : sineT x b) : a = b := by
  obtain ⟨v, hv, _, rfl⟩ := ha
  obtain ⟨u, hu, _, rfl⟩ := hb
  rw [wideSine_cl (hv.trans hu.symm)]

theorem law_SineTurns (x : Nat) (w : World) (hw : (Lit.float .f32 x).wf = true) : Calls Try.prog 5 #[.float .f32 x] w fun e w' => e = .returned (.bool true) ∧ Below w.heap.size w w' := by
  go_enter Try.func5, Try.ntmps5
  go_wp2_with fail
  refine (specSine_c _ _).mono ?_; rintro e w' ⟨c1, s1, a, n1, rfl, ha, hwa, rfl⟩
  go_wp2_with fail
  refine (implSine_c _ _).mono ?_; rintro e w' ⟨c2, s2, b, n2, rfl, hb, hwb, rfl⟩
  have tok1 : True := trivial
  have tok2 : True := trivial
  go_wp2_with (first | (have _t := tok1; refine wpList_widen _ rfl Try.underlying22 Try.underlying25 rfl ?_; intro u1 m1 g1 v1; clear tok1) | (have _t := tok2; refine wpList_widen _ rfl Try.underlying22 Try.underlying25 rfl ?_; intro u2 m2 g2 v2; clear tok2))
  refine (sameFloat_c _ _ _ (by rw [g1, g2, ha, hb, sineT_one s1 s2])).mono ?_
  rintro e w' ⟨rfl, m, rfl⟩
  go_wp2_with fail
  go_ret
  exact lawOk _
end Go.Proofs.Ytemolaojjnpfnaa
