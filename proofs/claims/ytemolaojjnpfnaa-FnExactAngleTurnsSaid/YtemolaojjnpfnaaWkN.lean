/-
  The walks of the angle and of its law. No condition.
-/
import Derived.Test.YtemolaojjnpfnaaAng
import Derived.Test.YtemolaojjnpfnaaSqr
namespace Go.Proofs.Ytemolaojjnpfnaa
set_option linter.unusedVariables false
open Go.RowKit Ieee

theorem gt_bits {a b : Nat} (ha : a < 9218868437227405312) (hb : b < 9218868437227405312) : (FloatKind.f64.format.order a b == some .gt) = decide (b < a) := by
  rw [order_f64, cl64_of (by omega), cl64_of (by omega), ford_pos (by omega) (by omega), int_compare]
  by_cases h : b < a
  · rw [decide_eq_true h, if_neg (by omega), if_neg (by omega)]; rfl
  · rw [decide_eq_false h]
    split
    · rfl
    · split
      · rfl
      · exfalso; omega

theorem step_a {t0 : Option Nat} {j q a1 a2 r a3 a4 : Nat} (hq : cl .f64 q = stepN t0 j) (h1 : cl .f64 a1 = fbin .mul .f64 (cl .f64 q) (cl .f64 q)) (h2 : cl .f64 a2 = fbin .add .f64 (cl .f64 4607182418800017408) (cl .f64 a1))
    (hr : cl .f64 r = fsqrt (cl .f64 a2)) (h3 : cl .f64 a3 = fbin .add .f64 (cl .f64 4607182418800017408) (cl .f64 r)) (h4 : cl .f64 a4 = fbin .quo .f64 (cl .f64 q) (cl .f64 a3)) : cl .f64 a4 = stepN t0 (j + 1) := by
  rw [h4, h3, hr, h2, h1, hq, cl_one]; rfl
theorem step_p {u a1 a2 a3 q : Nat} {j : Nat} (hq : cl .f64 q = pA (cl .f64 u) j) (g1 : cl .f64 a1 = fbin .quo .f64 (cl .f64 4607182418800017408) (cl .f64 (floatOfInt .f64 (15 - 2 * (j : Int)))))
    (g2 : cl .f64 a2 = fbin .mul .f64 (cl .f64 u) (cl .f64 q)) (g3 : cl .f64 a3 = fbin .sub .f64 (cl .f64 a1) (cl .f64 a2)) : cl .f64 a3 = pA (cl .f64 u) (j + 1) := by
  rw [g3, g1, g2, hq, cl_one, cl_int]; rfl
theorem out_a {t0 : Option Nat} {q u z o1 o2 o3 : Nat} (hq : cl .f64 q = stepN t0 3) (hu : cl .f64 u = fbin .mul .f64 (cl .f64 q) (cl .f64 q)) (hz : cl .f64 z = pA (cl .f64 u) 8)
    (h1 : cl .f64 o1 = fbin .mul .f64 (cl .f64 q) (cl .f64 z)) (h2 : cl .f64 o2 = fbin .mul .f64 (cl .f64 4620693217682128896) (cl .f64 o1)) (h3 : cl .f64 o3 = fbin .quo .f64 (cl .f64 o2) (cl .f64 4618760256179416344)) : cl .f64 o3 = angO t0 := by
  rw [h3, h2, h1, hz, hu, hq, cl_turn, cl64_of (b := 4620693217682128896) (by decide)]; rfl

theorem wrap_three {j : Nat} (h : j ≤ 2) : wrap64 ((j : Int) + 1) = ((j + 1 : Nat) : Int) := by unfold wrap64; omega

set_option maxHeartbeats 8000000 in
theorem specAng_c (y x : Nat) (hwy : (Lit.float .f64 y).wf = true) (hwx : (Lit.float .f64 x).wf = true) (w : World) : Calls Try.prog 80 #[.float .f64 y, .float .f64 x] w fun e w' => RetF .f64 w (angW y x) e w' := by
  have hy := wf_sound hwy
  have hx := wf_sound hwx
  unfold angW
  by_cases hfy : 9218868437227405312 ≤ y % 9223372036854775808
  · rw [if_pos (.inl hfy)]
    have HSY := Lib.hid (sub_self_bad hfy)
    clear hfy hwx hwy hx hy
    go_enter Try.func80, Try.ntmps80
    go_wp2_with (first | (go_at_call 72; refine (nan64_c _).mono ?_; rintro e w' ⟨r, n, rfl, hr, hwr, rfl⟩) | (refine wpList_fbin .f64 _ _ rfl rfl rfl rfl ?_; intro t0 n0 h0 w0; have hz0 := ne_of_none (h0.trans HSY.out)))
    go_ret
    exact retF _ hr hwr
  · have HSY := Lib.hid (sub_self_fin (Nat.lt_of_not_le hfy))
    by_cases hfx : 9218868437227405312 ≤ x % 9223372036854775808
    · rw [if_pos (.inr hfx)]
      have HSX := Lib.hid (sub_self_bad hfx)
      clear hfx hfy hwx hwy hx hy
      have tok1 : True := trivial
      have tok2 : True := trivial
      go_enter Try.func80, Try.ntmps80
      go_wp2_with (first | (go_at_call 72; refine (nan64_c _).mono ?_; rintro e w' ⟨r, n, rfl, hr, hwr, rfl⟩) | (have _t := tok1; refine wpList_fbin .f64 _ _ rfl rfl rfl rfl ?_; intro t0 n0 h0 w0; clear tok1; have hz0 := ne_of_zero (h0.trans HSY.out)) | (have _t := tok2; refine wpList_fbin .f64 _ _ rfl rfl rfl rfl ?_; intro t1 n1 h1 w1; clear tok2; have hz1 := ne_of_none (h1.trans HSX.out)))
      go_ret
      exact retF _ hr hwr
    · have HSX := Lib.hid (sub_self_fin (Nat.lt_of_not_le hfx))
      rw [if_neg (by omega)]
      have ex := eq0_64 x
      have ey := eq0_64 y
      by_cases hz : x % 9223372036854775808 = 0 ∧ y % 9223372036854775808 = 0
      · rw [if_pos hz]
        rw [decide_eq_true hz.1] at ex
        rw [decide_eq_true hz.2] at ey
        clear hfx hfy hwx hwy hx hy hz
        have tok1 : True := trivial
        have tok2 : True := trivial
        go_enter Try.func80, Try.ntmps80
        go_wp2_with (first | (have _t := tok1; refine wpList_fbin .f64 _ _ rfl rfl rfl rfl ?_; intro t0 n0 h0 w0; clear tok1; have hz0 := ne_of_zero (h0.trans HSY.out)) | (have _t := tok2; refine wpList_fbin .f64 _ _ rfl rfl rfl rfl ?_; intro t1 n1 h1 w1; clear tok2; have hz1 := ne_of_zero (h1.trans HSX.out)))
        go_ret
        exact retF _ (cl_zero _) (by decide)
      · rw [if_neg hz]
        have lx := lt0_64 hx
        have ly := lt0_64 hy
        rw [show decide (x % 9223372036854775808 ≤ 9218868437227405312 ∧ 9223372036854775808 < x) = decide (9223372036854775808 < x) from decide_eq_decide.2 (by omega)] at lx
        rw [show decide (y % 9223372036854775808 ≤ 9218868437227405312 ∧ 9223372036854775808 < y) = decide (9223372036854775808 < y) from decide_eq_decide.2 (by omega)] at ly
        have og := gt_bits (Nat.lt_of_not_le hfy) (Nat.lt_of_not_le hfx)
        have AY := Lib.hid (abs64_c y hwy)
        have AX := Lib.hid (abs64_c x hwx)
        have HCY := Lib.hid (cl64_of (b := y % 9223372036854775808) (by omega))
        have HCX := Lib.hid (cl64_of (b := x % 9223372036854775808) (by omega))
        have hzz : (FloatKind.f64.format.order x 0 == some .eq) = false ∨ ((FloatKind.f64.format.order x 0 == some .eq) = true ∧ (FloatKind.f64.format.order y 0 == some .eq) = false) := by
          rw [ex, ey]
          by_cases h1 : x % 9223372036854775808 = 0
          · right; exact ⟨decide_eq_true h1, decide_eq_false (fun h2 => hz ⟨h1, h2⟩)⟩
          · left; exact decide_eq_false h1
        have HX : Hid ((FloatKind.f64.format.order x 0 == some .lt) = decide (9223372036854775808 < x)) := lx
        have HY : Hid ((FloatKind.f64.format.order y 0 == some .lt) = decide (9223372036854775808 < y)) := ly
        clear ex ey lx ly hwx hwy hx hy hfx hfy hz
        generalize decide (9223372036854775808 < x) = sx at *
        generalize decide (9223372036854775808 < y) = sy at *
        generalize hA : y % 9223372036854775808 = A at *
        generalize hB : x % 9223372036854775808 = B at *
        clear hA hB
        rcases hzz with ez | ⟨ez, ez2⟩
        · by_cases hov : B < A
          · rw [decide_eq_true hov] at og
            have HT : Hid (ratA A B = fbin .quo .f64 (some B) (some A)) := by show _ = _; unfold ratA; rw [decide_eq_true hov]; rfl
            rw [decide_eq_true hov]
            clear hov
            generalize ratA A B = T0 at *
            go_enter Try.func80, Try.ntmps80
            have tok1 : True := trivial
            have tok2 : True := trivial
            go_wp2_with (first | (have _t := tok1; refine wpList_fbin .f64 _ _ rfl rfl rfl rfl ?_; intro t0 n0 h0 w0; clear tok1; have hz0 := ne_of_zero (h0.trans HSY.out)) | (have _t := tok2; refine wpList_fbin .f64 _ _ rfl rfl rfl rfl ?_; intro t1 n1 h1 w1; clear tok2; have hz1 := ne_of_zero (h1.trans HSX.out)))
            refine (AY.out _).mono ?_; rintro e w2 ⟨rfl, rfl⟩
            go_wp2_with fail
            refine (AX.out _).mono ?_; rintro e w2 ⟨rfl, rfl⟩
            have tok3 : True := trivial
            go_wp2_with (have _t := tok3; refine wpList_fbin .f64 _ _ rfl rfl rfl rfl ?_; intro t2 nt2 ht2 wt2; clear tok3)
            clear hz0 hz1 ez
            go_loopw [8, 9] (fun p k wr => ∃ j d q : Nat, j ≤ 3 ∧ k = .int .i64 (j : Nat) ∧ p = .float .f64 q ∧ cl .f64 q = stepN T0 j ∧ wr = w.drewN d) (fun _ k _ => 3 - (intOf k).toNat)
            case atStart => exact ⟨0, _, t2, by decide, rfl, rfl, by rw [ht2, HCY.out, HCX.out]; exact HT.out.symm, rfl⟩
            case round =>
              obtain ⟨j, d, q, hj, rfl, rfl, hq, rfl⟩ := hrel
              have HQ := Lib.hid hq
              clear hq
              by_cases hj1 : j ≤ 2
              · have hwr := wrap_three hj1
                have hlt : (j : Int) < 3 := by omega
                have tok91 : True := trivial
                have tok92 : True := trivial
                go_wp2_with (first | (have _t := tok91; refine wpList_fbin .f64 _ _ rfl rfl rfl rfl ?_; intro a1 na1 ha1 wa1; clear tok91) | (have _t := tok92; refine wpList_fbin .f64 _ _ rfl rfl rfl rfl ?_; intro a2 na2 ha2 wa2; clear tok92))
                refine (sqrt_c _ _).mono ?_; rintro e w2 ⟨r, nr, rfl, hr, hwr2, rfl⟩
                have tok93 : True := trivial
                have tok94 : True := trivial
                go_wp2_with (first | (have _t := tok93; refine wpList_fbin .f64 _ _ rfl rfl rfl rfl ?_; intro a3 na3 ha3 wa3; clear tok93) | (have _t := tok94; refine wpList_fbin .f64 _ _ rfl rfl rfl rfl ?_; intro a4 na4 ha4 wa4; clear tok94))
                go_roundw
                case rel => exact ⟨j + 1, _, a4, by omega, rfl, rfl, step_a HQ.out ha1 ha2 hr ha3 ha4, rfl⟩
                case measure => simp [intOf]; omega
              · obtain rfl : j = 3 := by omega
                have tok90 : True := trivial
                go_wp2_with (have _t := tok90; refine wpList_fbin .f64 _ _ rfl rfl rfl rfl ?_; intro u nu hu wu; clear tok90)
                go_loopw [11, 12] (fun p k wr => ∃ m d z : Nat, m ≤ 8 ∧ k = .int .i64 (15 - 2 * (m : Nat)) ∧ p = .float .f64 z ∧ cl .f64 z = pA (cl .f64 u) m ∧ wr = w.drewN d) (fun _ k _ => (3000 + intOf k).toNat)
                case atStart => exact ⟨0, _, 0, by decide, by simp, rfl, cl_zero _, rfl⟩
                case round =>
                  obtain ⟨m, d3, z, hm, rfl, rfl, hz, rfl⟩ := hrel
                  have HZ := Lib.hid hz
                  clear hz
                  by_cases hm1 : m ≤ 7
                  · have hwr := wrap_two (e := 15 - 2 * (m : Int)) (by omega) (by omega)
                    have tok97 : True := trivial
                    have tok98 : True := trivial
                    have tok99 : True := trivial
                    go_wp2_with (first | (have _t := tok97; refine wpList_fbin .f64 _ _ rfl rfl rfl rfl ?_; intro a1 na1 ha1 wa1; clear tok97) | (have _t := tok98; refine wpList_fbin .f64 _ _ rfl rfl rfl rfl ?_; intro a2 na2 ha2 wa2; clear tok98) | (have _t := tok99; refine wpList_fbin .f64 _ _ rfl rfl rfl rfl ?_; intro a3 na3 ha3 wa3; clear tok99))
                    go_roundw
                    case rel => exact ⟨m + 1, _, a3, by omega, by congr 1; omega, rfl, step_p HZ.out ha1 ha2 ha3, rfl⟩
                    case measure => simp [intOf]; omega
                  · obtain rfl : m = 8 := by omega
                    have hox := HX.out
                    have hoy := HY.out
                    have hneg := fun r w => neg_val (P := Try.prog) r w
                    by_cases hsx : sx = true
                    · rw [hsx] at hox
                      by_cases hsy : sy = true
                      · rw [hsy] at hoy
                        have tok60 : True := trivial
                        have tok61 : True := trivial
                        have tok62 : True := trivial
                        have tok63 : True := trivial
                        have tok64 : True := trivial
                        go_wp2_with (first | (have _t := tok60; refine wpList_fbin .f64 _ _ rfl rfl rfl rfl ?_; intro o1 no1 ho1 wo1; clear tok60) | (have _t := tok61; refine wpList_fbin .f64 _ _ rfl rfl rfl rfl ?_; intro o2 no2 ho2 wo2; clear tok61) | (have _t := tok62; refine wpList_fbin .f64 _ _ rfl rfl rfl rfl ?_; intro o3 no3 ho3 wo3; clear tok62) | (have _t := tok63; refine wpList_fbin .f64 _ _ rfl rfl rfl rfl ?_; intro o4 no4 ho4 wo4; clear tok63) | (have _t := tok64; refine wpList_fbin .f64 _ _ rfl rfl rfl rfl ?_; intro o5 no5 ho5 wo5; clear tok64))
                        go_ret
                        exact retF _ (by rw [neg_cl, ho5, ho4, out_a HQ.out hu HZ.out ho1 ho2 ho3, cl_half, cl_quarter, hsx, hsy]; rfl) (neg_wf wo5)
                      · have hsy2 : sy = false := by simpa using hsy
                        rw [hsy2] at hoy
                        have tok60 : True := trivial
                        have tok61 : True := trivial
                        have tok62 : True := trivial
                        have tok63 : True := trivial
                        have tok64 : True := trivial
                        go_wp2_with (first | (have _t := tok60; refine wpList_fbin .f64 _ _ rfl rfl rfl rfl ?_; intro o1 no1 ho1 wo1; clear tok60) | (have _t := tok61; refine wpList_fbin .f64 _ _ rfl rfl rfl rfl ?_; intro o2 no2 ho2 wo2; clear tok61) | (have _t := tok62; refine wpList_fbin .f64 _ _ rfl rfl rfl rfl ?_; intro o3 no3 ho3 wo3; clear tok62) | (have _t := tok63; refine wpList_fbin .f64 _ _ rfl rfl rfl rfl ?_; intro o4 no4 ho4 wo4; clear tok63) | (have _t := tok64; refine wpList_fbin .f64 _ _ rfl rfl rfl rfl ?_; intro o5 no5 ho5 wo5; clear tok64))
                        go_ret
                        exact retF _ (by rw [ho5, ho4, out_a HQ.out hu HZ.out ho1 ho2 ho3, cl_half, cl_quarter, hsx, hsy2]; rfl) wo5
                    · have hsx2 : sx = false := by simpa using hsx
                      rw [hsx2] at hox
                      by_cases hsy : sy = true
                      · rw [hsy] at hoy
                        have tok60 : True := trivial
                        have tok61 : True := trivial
                        have tok62 : True := trivial
                        have tok63 : True := trivial
                        go_wp2_with (first | (have _t := tok60; refine wpList_fbin .f64 _ _ rfl rfl rfl rfl ?_; intro o1 no1 ho1 wo1; clear tok60) | (have _t := tok61; refine wpList_fbin .f64 _ _ rfl rfl rfl rfl ?_; intro o2 no2 ho2 wo2; clear tok61) | (have _t := tok62; refine wpList_fbin .f64 _ _ rfl rfl rfl rfl ?_; intro o3 no3 ho3 wo3; clear tok62) | (have _t := tok63; refine wpList_fbin .f64 _ _ rfl rfl rfl rfl ?_; intro o4 no4 ho4 wo4; clear tok63))
                        go_ret
                        exact retF _ (by rw [neg_cl, ho4, out_a HQ.out hu HZ.out ho1 ho2 ho3, cl_quarter, hsx2, hsy]; rfl) (neg_wf wo4)
                      · have hsy2 : sy = false := by simpa using hsy
                        rw [hsy2] at hoy
                        have tok60 : True := trivial
                        have tok61 : True := trivial
                        have tok62 : True := trivial
                        have tok63 : True := trivial
                        go_wp2_with (first | (have _t := tok60; refine wpList_fbin .f64 _ _ rfl rfl rfl rfl ?_; intro o1 no1 ho1 wo1; clear tok60) | (have _t := tok61; refine wpList_fbin .f64 _ _ rfl rfl rfl rfl ?_; intro o2 no2 ho2 wo2; clear tok61) | (have _t := tok62; refine wpList_fbin .f64 _ _ rfl rfl rfl rfl ?_; intro o3 no3 ho3 wo3; clear tok62) | (have _t := tok63; refine wpList_fbin .f64 _ _ rfl rfl rfl rfl ?_; intro o4 no4 ho4 wo4; clear tok63))
                        go_ret
                        exact retF _ (by rw [ho4, out_a HQ.out hu HZ.out ho1 ho2 ho3, cl_quarter, hsx2, hsy2]; rfl) wo4
          · rw [decide_eq_false hov] at og
            have HT : Hid (ratA A B = fbin .quo .f64 (some A) (some B)) := by show _ = _; unfold ratA; rw [decide_eq_false hov]; rfl
            rw [decide_eq_false hov]
            clear hov
            generalize ratA A B = T0 at *
            go_enter Try.func80, Try.ntmps80
            have tok1 : True := trivial
            have tok2 : True := trivial
            go_wp2_with (first | (have _t := tok1; refine wpList_fbin .f64 _ _ rfl rfl rfl rfl ?_; intro t0 n0 h0 w0; clear tok1; have hz0 := ne_of_zero (h0.trans HSY.out)) | (have _t := tok2; refine wpList_fbin .f64 _ _ rfl rfl rfl rfl ?_; intro t1 n1 h1 w1; clear tok2; have hz1 := ne_of_zero (h1.trans HSX.out)))
            refine (AY.out _).mono ?_; rintro e w2 ⟨rfl, rfl⟩
            go_wp2_with fail
            refine (AX.out _).mono ?_; rintro e w2 ⟨rfl, rfl⟩
            have tok3 : True := trivial
            go_wp2_with (have _t := tok3; refine wpList_fbin .f64 _ _ rfl rfl rfl rfl ?_; intro t2 nt2 ht2 wt2; clear tok3)
            clear hz0 hz1 ez
            go_loopw [8, 9] (fun p k wr => ∃ j d q : Nat, j ≤ 3 ∧ k = .int .i64 (j : Nat) ∧ p = .float .f64 q ∧ cl .f64 q = stepN T0 j ∧ wr = w.drewN d) (fun _ k _ => 3 - (intOf k).toNat)
            case atStart => exact ⟨0, _, t2, by decide, rfl, rfl, by rw [ht2, HCY.out, HCX.out]; exact HT.out.symm, rfl⟩
            case round =>
              obtain ⟨j, d, q, hj, rfl, rfl, hq, rfl⟩ := hrel
              have HQ := Lib.hid hq
              clear hq
              by_cases hj1 : j ≤ 2
              · have hwr := wrap_three hj1
                have hlt : (j : Int) < 3 := by omega
                have tok91 : True := trivial
                have tok92 : True := trivial
                go_wp2_with (first | (have _t := tok91; refine wpList_fbin .f64 _ _ rfl rfl rfl rfl ?_; intro a1 na1 ha1 wa1; clear tok91) | (have _t := tok92; refine wpList_fbin .f64 _ _ rfl rfl rfl rfl ?_; intro a2 na2 ha2 wa2; clear tok92))
                refine (sqrt_c _ _).mono ?_; rintro e w2 ⟨r, nr, rfl, hr, hwr2, rfl⟩
                have tok93 : True := trivial
                have tok94 : True := trivial
                go_wp2_with (first | (have _t := tok93; refine wpList_fbin .f64 _ _ rfl rfl rfl rfl ?_; intro a3 na3 ha3 wa3; clear tok93) | (have _t := tok94; refine wpList_fbin .f64 _ _ rfl rfl rfl rfl ?_; intro a4 na4 ha4 wa4; clear tok94))
                go_roundw
                case rel => exact ⟨j + 1, _, a4, by omega, rfl, rfl, step_a HQ.out ha1 ha2 hr ha3 ha4, rfl⟩
                case measure => simp [intOf]; omega
              · obtain rfl : j = 3 := by omega
                have tok90 : True := trivial
                go_wp2_with (have _t := tok90; refine wpList_fbin .f64 _ _ rfl rfl rfl rfl ?_; intro u nu hu wu; clear tok90)
                go_loopw [11, 12] (fun p k wr => ∃ m d z : Nat, m ≤ 8 ∧ k = .int .i64 (15 - 2 * (m : Nat)) ∧ p = .float .f64 z ∧ cl .f64 z = pA (cl .f64 u) m ∧ wr = w.drewN d) (fun _ k _ => (3000 + intOf k).toNat)
                case atStart => exact ⟨0, _, 0, by decide, by simp, rfl, cl_zero _, rfl⟩
                case round =>
                  obtain ⟨m, d3, z, hm, rfl, rfl, hz, rfl⟩ := hrel
                  have HZ := Lib.hid hz
                  clear hz
                  by_cases hm1 : m ≤ 7
                  · have hwr := wrap_two (e := 15 - 2 * (m : Int)) (by omega) (by omega)
                    have tok97 : True := trivial
                    have tok98 : True := trivial
                    have tok99 : True := trivial
                    go_wp2_with (first | (have _t := tok97; refine wpList_fbin .f64 _ _ rfl rfl rfl rfl ?_; intro a1 na1 ha1 wa1; clear tok97) | (have _t := tok98; refine wpList_fbin .f64 _ _ rfl rfl rfl rfl ?_; intro a2 na2 ha2 wa2; clear tok98) | (have _t := tok99; refine wpList_fbin .f64 _ _ rfl rfl rfl rfl ?_; intro a3 na3 ha3 wa3; clear tok99))
                    go_roundw
                    case rel => exact ⟨m + 1, _, a3, by omega, by congr 1; omega, rfl, step_p HZ.out ha1 ha2 ha3, rfl⟩
                    case measure => simp [intOf]; omega
                  · obtain rfl : m = 8 := by omega
                    have hox := HX.out
                    have hoy := HY.out
                    have hneg := fun r w => neg_val (P := Try.prog) r w
                    by_cases hsx : sx = true
                    · rw [hsx] at hox
                      by_cases hsy : sy = true
                      · rw [hsy] at hoy
                        have tok60 : True := trivial
                        have tok61 : True := trivial
                        have tok62 : True := trivial
                        have tok63 : True := trivial
                        go_wp2_with (first | (have _t := tok60; refine wpList_fbin .f64 _ _ rfl rfl rfl rfl ?_; intro o1 no1 ho1 wo1; clear tok60) | (have _t := tok61; refine wpList_fbin .f64 _ _ rfl rfl rfl rfl ?_; intro o2 no2 ho2 wo2; clear tok61) | (have _t := tok62; refine wpList_fbin .f64 _ _ rfl rfl rfl rfl ?_; intro o3 no3 ho3 wo3; clear tok62) | (have _t := tok63; refine wpList_fbin .f64 _ _ rfl rfl rfl rfl ?_; intro o5 no5 ho5 wo5; clear tok63))
                        go_ret
                        exact retF _ (by rw [neg_cl, ho5, out_a HQ.out hu HZ.out ho1 ho2 ho3, cl_half, hsx, hsy]; rfl) (neg_wf wo5)
                      · have hsy2 : sy = false := by simpa using hsy
                        rw [hsy2] at hoy
                        have tok60 : True := trivial
                        have tok61 : True := trivial
                        have tok62 : True := trivial
                        have tok63 : True := trivial
                        go_wp2_with (first | (have _t := tok60; refine wpList_fbin .f64 _ _ rfl rfl rfl rfl ?_; intro o1 no1 ho1 wo1; clear tok60) | (have _t := tok61; refine wpList_fbin .f64 _ _ rfl rfl rfl rfl ?_; intro o2 no2 ho2 wo2; clear tok61) | (have _t := tok62; refine wpList_fbin .f64 _ _ rfl rfl rfl rfl ?_; intro o3 no3 ho3 wo3; clear tok62) | (have _t := tok63; refine wpList_fbin .f64 _ _ rfl rfl rfl rfl ?_; intro o5 no5 ho5 wo5; clear tok63))
                        go_ret
                        exact retF _ (by rw [ho5, out_a HQ.out hu HZ.out ho1 ho2 ho3, cl_half, hsx, hsy2]; rfl) wo5
                    · have hsx2 : sx = false := by simpa using hsx
                      rw [hsx2] at hox
                      by_cases hsy : sy = true
                      · rw [hsy] at hoy
                        have tok60 : True := trivial
                        have tok61 : True := trivial
                        have tok62 : True := trivial
                        go_wp2_with (first | (have _t := tok60; refine wpList_fbin .f64 _ _ rfl rfl rfl rfl ?_; intro o1 no1 ho1 wo1; clear tok60) | (have _t := tok61; refine wpList_fbin .f64 _ _ rfl rfl rfl rfl ?_; intro o2 no2 ho2 wo2; clear tok61) | (have _t := tok62; refine wpList_fbin .f64 _ _ rfl rfl rfl rfl ?_; intro o3 no3 ho3 wo3; clear tok62))
                        go_ret
                        exact retF _ (by rw [neg_cl, out_a HQ.out hu HZ.out ho1 ho2 ho3, hsx2, hsy]; rfl) (neg_wf wo3)
                      · have hsy2 : sy = false := by simpa using hsy
                        rw [hsy2] at hoy
                        have tok60 : True := trivial
                        have tok61 : True := trivial
                        have tok62 : True := trivial
                        go_wp2_with (first | (have _t := tok60; refine wpList_fbin .f64 _ _ rfl rfl rfl rfl ?_; intro o1 no1 ho1 wo1; clear tok60) | (have _t := tok61; refine wpList_fbin .f64 _ _ rfl rfl rfl rfl ?_; intro o2 no2 ho2 wo2; clear tok61) | (have _t := tok62; refine wpList_fbin .f64 _ _ rfl rfl rfl rfl ?_; intro o3 no3 ho3 wo3; clear tok62))
                        go_ret
                        exact retF _ (by rw [out_a HQ.out hu HZ.out ho1 ho2 ho3, hsx2, hsy2]; rfl) wo3
        · by_cases hov : B < A
          · rw [decide_eq_true hov] at og
            have HT : Hid (ratA A B = fbin .quo .f64 (some B) (some A)) := by show _ = _; unfold ratA; rw [decide_eq_true hov]; rfl
            rw [decide_eq_true hov]
            clear hov
            generalize ratA A B = T0 at *
            go_enter Try.func80, Try.ntmps80
            have tok1 : True := trivial
            have tok2 : True := trivial
            go_wp2_with (first | (have _t := tok1; refine wpList_fbin .f64 _ _ rfl rfl rfl rfl ?_; intro t0 n0 h0 w0; clear tok1; have hz0 := ne_of_zero (h0.trans HSY.out)) | (have _t := tok2; refine wpList_fbin .f64 _ _ rfl rfl rfl rfl ?_; intro t1 n1 h1 w1; clear tok2; have hz1 := ne_of_zero (h1.trans HSX.out)))
            refine (AY.out _).mono ?_; rintro e w2 ⟨rfl, rfl⟩
            go_wp2_with fail
            refine (AX.out _).mono ?_; rintro e w2 ⟨rfl, rfl⟩
            have tok3 : True := trivial
            go_wp2_with (have _t := tok3; refine wpList_fbin .f64 _ _ rfl rfl rfl rfl ?_; intro t2 nt2 ht2 wt2; clear tok3)
            clear hz0 hz1 ez ez2
            go_loopw [8, 9] (fun p k wr => ∃ j d q : Nat, j ≤ 3 ∧ k = .int .i64 (j : Nat) ∧ p = .float .f64 q ∧ cl .f64 q = stepN T0 j ∧ wr = w.drewN d) (fun _ k _ => 3 - (intOf k).toNat)
            case atStart => exact ⟨0, _, t2, by decide, rfl, rfl, by rw [ht2, HCY.out, HCX.out]; exact HT.out.symm, rfl⟩
            case round =>
              obtain ⟨j, d, q, hj, rfl, rfl, hq, rfl⟩ := hrel
              have HQ := Lib.hid hq
              clear hq
              by_cases hj1 : j ≤ 2
              · have hwr := wrap_three hj1
                have hlt : (j : Int) < 3 := by omega
                have tok91 : True := trivial
                have tok92 : True := trivial
                go_wp2_with (first | (have _t := tok91; refine wpList_fbin .f64 _ _ rfl rfl rfl rfl ?_; intro a1 na1 ha1 wa1; clear tok91) | (have _t := tok92; refine wpList_fbin .f64 _ _ rfl rfl rfl rfl ?_; intro a2 na2 ha2 wa2; clear tok92))
                refine (sqrt_c _ _).mono ?_; rintro e w2 ⟨r, nr, rfl, hr, hwr2, rfl⟩
                have tok93 : True := trivial
                have tok94 : True := trivial
                go_wp2_with (first | (have _t := tok93; refine wpList_fbin .f64 _ _ rfl rfl rfl rfl ?_; intro a3 na3 ha3 wa3; clear tok93) | (have _t := tok94; refine wpList_fbin .f64 _ _ rfl rfl rfl rfl ?_; intro a4 na4 ha4 wa4; clear tok94))
                go_roundw
                case rel => exact ⟨j + 1, _, a4, by omega, rfl, rfl, step_a HQ.out ha1 ha2 hr ha3 ha4, rfl⟩
                case measure => simp [intOf]; omega
              · obtain rfl : j = 3 := by omega
                have tok90 : True := trivial
                go_wp2_with (have _t := tok90; refine wpList_fbin .f64 _ _ rfl rfl rfl rfl ?_; intro u nu hu wu; clear tok90)
                go_loopw [11, 12] (fun p k wr => ∃ m d z : Nat, m ≤ 8 ∧ k = .int .i64 (15 - 2 * (m : Nat)) ∧ p = .float .f64 z ∧ cl .f64 z = pA (cl .f64 u) m ∧ wr = w.drewN d) (fun _ k _ => (3000 + intOf k).toNat)
                case atStart => exact ⟨0, _, 0, by decide, by simp, rfl, cl_zero _, rfl⟩
                case round =>
                  obtain ⟨m, d3, z, hm, rfl, rfl, hz, rfl⟩ := hrel
                  have HZ := Lib.hid hz
                  clear hz
                  by_cases hm1 : m ≤ 7
                  · have hwr := wrap_two (e := 15 - 2 * (m : Int)) (by omega) (by omega)
                    have tok97 : True := trivial
                    have tok98 : True := trivial
                    have tok99 : True := trivial
                    go_wp2_with (first | (have _t := tok97; refine wpList_fbin .f64 _ _ rfl rfl rfl rfl ?_; intro a1 na1 ha1 wa1; clear tok97) | (have _t := tok98; refine wpList_fbin .f64 _ _ rfl rfl rfl rfl ?_; intro a2 na2 ha2 wa2; clear tok98) | (have _t := tok99; refine wpList_fbin .f64 _ _ rfl rfl rfl rfl ?_; intro a3 na3 ha3 wa3; clear tok99))
                    go_roundw
                    case rel => exact ⟨m + 1, _, a3, by omega, by congr 1; omega, rfl, step_p HZ.out ha1 ha2 ha3, rfl⟩
                    case measure => simp [intOf]; omega
                  · obtain rfl : m = 8 := by omega
                    have hox := HX.out
                    have hoy := HY.out
                    have hneg := fun r w => neg_val (P := Try.prog) r w
                    by_cases hsx : sx = true
                    · rw [hsx] at hox
                      by_cases hsy : sy = true
                      · rw [hsy] at hoy
                        have tok60 : True := trivial
                        have tok61 : True := trivial
                        have tok62 : True := trivial
                        have tok63 : True := trivial
                        have tok64 : True := trivial
                        go_wp2_with (first | (have _t := tok60; refine wpList_fbin .f64 _ _ rfl rfl rfl rfl ?_; intro o1 no1 ho1 wo1; clear tok60) | (have _t := tok61; refine wpList_fbin .f64 _ _ rfl rfl rfl rfl ?_; intro o2 no2 ho2 wo2; clear tok61) | (have _t := tok62; refine wpList_fbin .f64 _ _ rfl rfl rfl rfl ?_; intro o3 no3 ho3 wo3; clear tok62) | (have _t := tok63; refine wpList_fbin .f64 _ _ rfl rfl rfl rfl ?_; intro o4 no4 ho4 wo4; clear tok63) | (have _t := tok64; refine wpList_fbin .f64 _ _ rfl rfl rfl rfl ?_; intro o5 no5 ho5 wo5; clear tok64))
                        go_ret
                        exact retF _ (by rw [neg_cl, ho5, ho4, out_a HQ.out hu HZ.out ho1 ho2 ho3, cl_half, cl_quarter, hsx, hsy]; rfl) (neg_wf wo5)
                      · have hsy2 : sy = false := by simpa using hsy
                        rw [hsy2] at hoy
                        have tok60 : True := trivial
                        have tok61 : True := trivial
                        have tok62 : True := trivial
                        have tok63 : True := trivial
                        have tok64 : True := trivial
                        go_wp2_with (first | (have _t := tok60; refine wpList_fbin .f64 _ _ rfl rfl rfl rfl ?_; intro o1 no1 ho1 wo1; clear tok60) | (have _t := tok61; refine wpList_fbin .f64 _ _ rfl rfl rfl rfl ?_; intro o2 no2 ho2 wo2; clear tok61) | (have _t := tok62; refine wpList_fbin .f64 _ _ rfl rfl rfl rfl ?_; intro o3 no3 ho3 wo3; clear tok62) | (have _t := tok63; refine wpList_fbin .f64 _ _ rfl rfl rfl rfl ?_; intro o4 no4 ho4 wo4; clear tok63) | (have _t := tok64; refine wpList_fbin .f64 _ _ rfl rfl rfl rfl ?_; intro o5 no5 ho5 wo5; clear tok64))
                        go_ret
                        exact retF _ (by rw [ho5, ho4, out_a HQ.out hu HZ.out ho1 ho2 ho3, cl_half, cl_quarter, hsx, hsy2]; rfl) wo5
                    · have hsx2 : sx = false := by simpa using hsx
                      rw [hsx2] at hox
                      by_cases hsy : sy = true
                      · rw [hsy] at hoy
                        have tok60 : True := trivial
                        have tok61 : True := trivial
                        have tok62 : True := trivial
                        have tok63 : True := trivial
                        go_wp2_with (first | (have _t := tok60; refine wpList_fbin .f64 _ _ rfl rfl rfl rfl ?_; intro o1 no1 ho1 wo1; clear tok60) | (have _t := tok61; refine wpList_fbin .f64 _ _ rfl rfl rfl rfl ?_; intro o2 no2 ho2 wo2; clear tok61) | (have _t := tok62; refine wpList_fbin .f64 _ _ rfl rfl rfl rfl ?_; intro o3 no3 ho3 wo3; clear tok62) | (have _t := tok63; refine wpList_fbin .f64 _ _ rfl rfl rfl rfl ?_; intro o4 no4 ho4 wo4; clear tok63))
                        go_ret
                        exact retF _ (by rw [neg_cl, ho4, out_a HQ.out hu HZ.out ho1 ho2 ho3, cl_quarter, hsx2, hsy]; rfl) (neg_wf wo4)
                      · have hsy2 : sy = false := by simpa using hsy
                        rw [hsy2] at hoy
                        have tok60 : True := trivial
                        have tok61 : True := trivial
                        have tok62 : True := trivial
                        have tok63 : True := trivial
                        go_wp2_with (first | (have _t := tok60; refine wpList_fbin .f64 _ _ rfl rfl rfl rfl ?_; intro o1 no1 ho1 wo1; clear tok60) | (have _t := tok61; refine wpList_fbin .f64 _ _ rfl rfl rfl rfl ?_; intro o2 no2 ho2 wo2; clear tok61) | (have _t := tok62; refine wpList_fbin .f64 _ _ rfl rfl rfl rfl ?_; intro o3 no3 ho3 wo3; clear tok62) | (have _t := tok63; refine wpList_fbin .f64 _ _ rfl rfl rfl rfl ?_; intro o4 no4 ho4 wo4; clear tok63))
                        go_ret
                        exact retF _ (by rw [ho4, out_a HQ.out hu HZ.out ho1 ho2 ho3, cl_quarter, hsx2, hsy2]; rfl) wo4
          · rw [decide_eq_false hov] at og
            have HT : Hid (ratA A B = fbin .quo .f64 (some A) (some B)) := by show _ = _; unfold ratA; rw [decide_eq_false hov]; rfl
            rw [decide_eq_false hov]
            clear hov
            generalize ratA A B = T0 at *
            go_enter Try.func80, Try.ntmps80
            have tok1 : True := trivial
            have tok2 : True := trivial
            go_wp2_with (first | (have _t := tok1; refine wpList_fbin .f64 _ _ rfl rfl rfl rfl ?_; intro t0 n0 h0 w0; clear tok1; have hz0 := ne_of_zero (h0.trans HSY.out)) | (have _t := tok2; refine wpList_fbin .f64 _ _ rfl rfl rfl rfl ?_; intro t1 n1 h1 w1; clear tok2; have hz1 := ne_of_zero (h1.trans HSX.out)))
            refine (AY.out _).mono ?_; rintro e w2 ⟨rfl, rfl⟩
            go_wp2_with fail
            refine (AX.out _).mono ?_; rintro e w2 ⟨rfl, rfl⟩
            have tok3 : True := trivial
            go_wp2_with (have _t := tok3; refine wpList_fbin .f64 _ _ rfl rfl rfl rfl ?_; intro t2 nt2 ht2 wt2; clear tok3)
            clear hz0 hz1 ez ez2
            go_loopw [8, 9] (fun p k wr => ∃ j d q : Nat, j ≤ 3 ∧ k = .int .i64 (j : Nat) ∧ p = .float .f64 q ∧ cl .f64 q = stepN T0 j ∧ wr = w.drewN d) (fun _ k _ => 3 - (intOf k).toNat)
            case atStart => exact ⟨0, _, t2, by decide, rfl, rfl, by rw [ht2, HCY.out, HCX.out]; exact HT.out.symm, rfl⟩
            case round =>
              obtain ⟨j, d, q, hj, rfl, rfl, hq, rfl⟩ := hrel
              have HQ := Lib.hid hq
              clear hq
              by_cases hj1 : j ≤ 2
              · have hwr := wrap_three hj1
                have hlt : (j : Int) < 3 := by omega
                have tok91 : True := trivial
                have tok92 : True := trivial
                go_wp2_with (first | (have _t := tok91; refine wpList_fbin .f64 _ _ rfl rfl rfl rfl ?_; intro a1 na1 ha1 wa1; clear tok91) | (have _t := tok92; refine wpList_fbin .f64 _ _ rfl rfl rfl rfl ?_; intro a2 na2 ha2 wa2; clear tok92))
                refine (sqrt_c _ _).mono ?_; rintro e w2 ⟨r, nr, rfl, hr, hwr2, rfl⟩
                have tok93 : True := trivial
                have tok94 : True := trivial
                go_wp2_with (first | (have _t := tok93; refine wpList_fbin .f64 _ _ rfl rfl rfl rfl ?_; intro a3 na3 ha3 wa3; clear tok93) | (have _t := tok94; refine wpList_fbin .f64 _ _ rfl rfl rfl rfl ?_; intro a4 na4 ha4 wa4; clear tok94))
                go_roundw
                case rel => exact ⟨j + 1, _, a4, by omega, rfl, rfl, step_a HQ.out ha1 ha2 hr ha3 ha4, rfl⟩
                case measure => simp [intOf]; omega
              · obtain rfl : j = 3 := by omega
                have tok90 : True := trivial
                go_wp2_with (have _t := tok90; refine wpList_fbin .f64 _ _ rfl rfl rfl rfl ?_; intro u nu hu wu; clear tok90)
                go_loopw [11, 12] (fun p k wr => ∃ m d z : Nat, m ≤ 8 ∧ k = .int .i64 (15 - 2 * (m : Nat)) ∧ p = .float .f64 z ∧ cl .f64 z = pA (cl .f64 u) m ∧ wr = w.drewN d) (fun _ k _ => (3000 + intOf k).toNat)
                case atStart => exact ⟨0, _, 0, by decide, by simp, rfl, cl_zero _, rfl⟩
                case round =>
                  obtain ⟨m, d3, z, hm, rfl, rfl, hz, rfl⟩ := hrel
                  have HZ := Lib.hid hz
                  clear hz
                  by_cases hm1 : m ≤ 7
                  · have hwr := wrap_two (e := 15 - 2 * (m : Int)) (by omega) (by omega)
                    have tok97 : True := trivial
                    have tok98 : True := trivial
                    have tok99 : True := trivial
                    go_wp2_with (first | (have _t := tok97; refine wpList_fbin .f64 _ _ rfl rfl rfl rfl ?_; intro a1 na1 ha1 wa1; clear tok97) | (have _t := tok98; refine wpList_fbin .f64 _ _ rfl rfl rfl rfl ?_; intro a2 na2 ha2 wa2; clear tok98) | (have _t := tok99; refine wpList_fbin .f64 _ _ rfl rfl rfl rfl ?_; intro a3 na3 ha3 wa3; clear tok99))
                    go_roundw
                    case rel => exact ⟨m + 1, _, a3, by omega, by congr 1; omega, rfl, step_p HZ.out ha1 ha2 ha3, rfl⟩
                    case measure => simp [intOf]; omega
                  · obtain rfl : m = 8 := by omega
                    have hox := HX.out
                    have hoy := HY.out
                    have hneg := fun r w => neg_val (P := Try.prog) r w
                    by_cases hsx : sx = true
                    · rw [hsx] at hox
                      by_cases hsy : sy = true
                      · rw [hsy] at hoy
                        have tok60 : True := trivial
                        have tok61 : True := trivial
                        have tok62 : True := trivial
                        have tok63 : True := trivial
                        go_wp2_with (first | (have _t := tok60; refine wpList_fbin .f64 _ _ rfl rfl rfl rfl ?_; intro o1 no1 ho1 wo1; clear tok60) | (have _t := tok61; refine wpList_fbin .f64 _ _ rfl rfl rfl rfl ?_; intro o2 no2 ho2 wo2; clear tok61) | (have _t := tok62; refine wpList_fbin .f64 _ _ rfl rfl rfl rfl ?_; intro o3 no3 ho3 wo3; clear tok62) | (have _t := tok63; refine wpList_fbin .f64 _ _ rfl rfl rfl rfl ?_; intro o5 no5 ho5 wo5; clear tok63))
                        go_ret
                        exact retF _ (by rw [neg_cl, ho5, out_a HQ.out hu HZ.out ho1 ho2 ho3, cl_half, hsx, hsy]; rfl) (neg_wf wo5)
                      · have hsy2 : sy = false := by simpa using hsy
                        rw [hsy2] at hoy
                        have tok60 : True := trivial
                        have tok61 : True := trivial
                        have tok62 : True := trivial
                        have tok63 : True := trivial
                        go_wp2_with (first | (have _t := tok60; refine wpList_fbin .f64 _ _ rfl rfl rfl rfl ?_; intro o1 no1 ho1 wo1; clear tok60) | (have _t := tok61; refine wpList_fbin .f64 _ _ rfl rfl rfl rfl ?_; intro o2 no2 ho2 wo2; clear tok61) | (have _t := tok62; refine wpList_fbin .f64 _ _ rfl rfl rfl rfl ?_; intro o3 no3 ho3 wo3; clear tok62) | (have _t := tok63; refine wpList_fbin .f64 _ _ rfl rfl rfl rfl ?_; intro o5 no5 ho5 wo5; clear tok63))
                        go_ret
                        exact retF _ (by rw [ho5, out_a HQ.out hu HZ.out ho1 ho2 ho3, cl_half, hsx, hsy2]; rfl) wo5
                    · have hsx2 : sx = false := by simpa using hsx
                      rw [hsx2] at hox
                      by_cases hsy : sy = true
                      · rw [hsy] at hoy
                        have tok60 : True := trivial
                        have tok61 : True := trivial
                        have tok62 : True := trivial
                        go_wp2_with (first | (have _t := tok60; refine wpList_fbin .f64 _ _ rfl rfl rfl rfl ?_; intro o1 no1 ho1 wo1; clear tok60) | (have _t := tok61; refine wpList_fbin .f64 _ _ rfl rfl rfl rfl ?_; intro o2 no2 ho2 wo2; clear tok61) | (have _t := tok62; refine wpList_fbin .f64 _ _ rfl rfl rfl rfl ?_; intro o3 no3 ho3 wo3; clear tok62))
                        go_ret
                        exact retF _ (by rw [neg_cl, out_a HQ.out hu HZ.out ho1 ho2 ho3, hsx2, hsy]; rfl) (neg_wf wo3)
                      · have hsy2 : sy = false := by simpa using hsy
                        rw [hsy2] at hoy
                        have tok60 : True := trivial
                        have tok61 : True := trivial
                        have tok62 : True := trivial
                        go_wp2_with (first | (have _t := tok60; refine wpList_fbin .f64 _ _ rfl rfl rfl rfl ?_; intro o1 no1 ho1 wo1; clear tok60) | (have _t := tok61; refine wpList_fbin .f64 _ _ rfl rfl rfl rfl ?_; intro o2 no2 ho2 wo2; clear tok61) | (have _t := tok62; refine wpList_fbin .f64 _ _ rfl rfl rfl rfl ?_; intro o3 no3 ho3 wo3; clear tok62))
                        go_ret
                        exact retF _ (by rw [out_a HQ.out hu HZ.out ho1 ho2 ho3, hsx2, hsy2]; rfl) wo3

/-- The narrowed angle of float32s. -/
def angT (y x : Nat) (r : Option Nat) : Prop := ∃ u v, cl .f64 u = fconv .f32 .f64 (cl .f32 y) ∧ cl .f64 v = fconv .f32 .f64 (cl .f32 x) ∧ r = fconv .f64 .f32 (angW u v)
theorem angT_one {y x : Nat} {a b : Option Nat} (ha : angT y x a) (hb : angT y x b) : a = b := by
  obtain ⟨u, v, hu, hv, rfl⟩ := ha
  obtain ⟨u', v', hu', hv', rfl⟩ := hb
  rw [angW_cl (hu.trans hu'.symm) (hv.trans hv'.symm)]

theorem specAngT_c (y x : Nat) (hy : y < 4294967296) (hx : x < 4294967296) (w : World) : Calls Try.prog 23 #[.float .f32 y, .float .f32 x] w fun e w' => ∃ c, angT y x c ∧ RetF .f32 w c e w' := by
  go_enter Try.func23, Try.ntmps23
  have tok1 : True := trivial
  have tok2 : True := trivial
  go_wp2_with (first | (go_at_call 52; go_in) | (have _t := tok1; refine wpList_widen _ rfl Try.underlying22 Try.underlying25 rfl ?_; intro u n hu hwu; clear tok1) | (have _t := tok2; refine wpList_widen _ rfl Try.underlying22 Try.underlying25 rfl ?_; intro v n1 hv hwv; clear tok2))
  refine (specAng_c _ _ hwu hwv _).mono ?_; rintro e w' ⟨r, n2, rfl, hr, hwr, rfl⟩
  go_wp2_with fail
  refine (l01Narrow_c _ (narrow_ang (norm_of hy hu) (norm_of hx hv) hr) _).mono ?_; rintro e w' ⟨g, n3, rfl, hg, hwg, rfl⟩
  go_wp2
  go_ret
  exact ⟨_, ⟨u, v, hu, hv, rfl⟩, retF _ (by rw [hg, hr]) hwg⟩

theorem fin32 {x : Nat} : fin .f32 (cl .f32 x) = decide (x % 2147483648 < 2139095040) := by
  unfold fin
  rw [cl32]
  split
  · rw [decide_eq_false (by omega)]; rfl
  · show decide (x % Ieee.single.signWeight < Ieee.single.infRung) = _
    rw [sng_sign, sng_inf]

set_option maxHeartbeats 8000000 in
theorem implAngT_c (y x : Nat) (hy : y < 4294967296) (hx : x < 4294967296) (w : World) : Calls Try.prog 24 #[.float .f32 y, .float .f32 x] w fun e w' => ∃ c, angT y x c ∧ RetF .f32 w c e w' := by
  obtain ⟨u0, hu0, hwu0⟩ := widened y w
  obtain ⟨v0, hv0, hwv0⟩ := widened x w
  have hWY := widen_all hy hu0
  have hWX := widen_all hx hv0
  by_cases hfx : x % 2147483648 < 2139095040
  · have HFX : Hid (fin .f32 (cl .f32 x) = true) := by show _ = _; rw [fin32]; exact decide_eq_true hfx
    by_cases hfy : y % 2147483648 < 2139095040
    · have HFY : Hid (fin .f32 (cl .f32 y) = true) := by show _ = _; rw [fin32]; exact decide_eq_true hfy
      have ex := eq0_32 x
      have ey := eq0_32 y
      by_cases hz : x % 2147483648 = 0 ∧ y % 2147483648 = 0
      · rw [decide_eq_true hz.1] at ex
        rw [decide_eq_true hz.2] at ey
        have HT : Hid (angT y x (some 0)) := by
          refine ⟨u0, v0, hu0, hv0, ?_⟩
          unfold angW
          rw [if_neg (by omega), if_pos (by omega)]
          decide +kernel
        clear hfx hfy hx hy hz hWX hWY hu0 hv0 hwu0 hwv0
        go_enter Try.func24, Try.ntmps24
        go_wp2_with fail
        refine (implIsFinite_c _ _).mono ?_; rintro e w' ⟨rfl, n, rfl⟩
        rw [HFX.out]
        go_wp2_with fail
        refine (implIsFinite_c _ _).mono ?_; rintro e w' ⟨rfl, n1, rfl⟩
        rw [HFY.out]
        go_wp2
        go_ret
        exact ⟨_, HT.out, retF _ (cl_zero _) (by decide)⟩
      · have hWYa : ∀ u, cl .f64 u = fconv .f32 .f64 (cl .f32 y) → u % 9223372036854775808 < 9218868437227405312 ∧ (u % 9223372036854775808 ≠ 0 → 4503599627370496 ≤ u % 9223372036854775808) ∧ (9223372036854775808 < u ↔ 2147483648 < y) ∧ (u % 9223372036854775808 = 0 ↔ y % 2147483648 = 0) := by
          intro u hu
          have := widen_all hy hu
          omega
        have hWXa : ∀ v, cl .f64 v = fconv .f32 .f64 (cl .f32 x) → v % 9223372036854775808 < 9218868437227405312 ∧ (v % 9223372036854775808 ≠ 0 → 4503599627370496 ≤ v % 9223372036854775808) ∧ (9223372036854775808 < v ↔ 2147483648 < x) ∧ (v % 9223372036854775808 = 0 ↔ x % 2147483648 = 0) := by
          intro v hv
          have := widen_all hx hv
          omega
        have lx := lt0_32 hx
        have ly := lt0_32 hy
        rw [show decide (x % 2147483648 ≤ 2139095040 ∧ 2147483648 < x) = decide (2147483648 < x) from decide_eq_decide.2 (by omega)] at lx
        rw [show decide (y % 2147483648 ≤ 2139095040 ∧ 2147483648 < y) = decide (2147483648 < y) from decide_eq_decide.2 (by omega)] at ly
        have hzz : (FloatKind.f32.format.order x 0 == some .eq) = false ∨ ((FloatKind.f32.format.order x 0 == some .eq) = true ∧ (FloatKind.f32.format.order y 0 == some .eq) = false) := by
          rw [ex, ey]
          by_cases h1 : x % 2147483648 = 0
          · right; exact ⟨decide_eq_true h1, decide_eq_false (fun h2 => hz ⟨h1, h2⟩)⟩
          · left; exact decide_eq_false h1
        have WY := Lib.hid hWYa
        have WX := Lib.hid hWXa
        have HX : Hid ((FloatKind.f32.format.order x 0 == some .lt) = decide (2147483648 < x)) := lx
        have HY : Hid ((FloatKind.f32.format.order y 0 == some .lt) = decide (2147483648 < y)) := ly
        have HZ0 := Lib.hid hz
        obtain ⟨sx, HSX⟩ : ∃ sx, Hid (decide (2147483648 < x) = sx) := ⟨_, Lib.hid rfl⟩
        obtain ⟨sy, HSY⟩ : ∃ sy, Hid (decide (2147483648 < y) = sy) := ⟨_, Lib.hid rfl⟩
        rw [HSX.out] at HX
        rw [HSY.out] at HY
        clear ex ey lx ly hfx hfy hx hy hz hWX hWY hu0 hv0 hwu0 hwv0 hWYa hWXa
        rcases hzz with ez | ⟨ez, ez2⟩
        · go_enter Try.func24, Try.ntmps24
          go_wp2_with fail
          refine (implIsFinite_c _ _).mono ?_; rintro e w' ⟨rfl, n, rfl⟩
          rw [HFX.out]
          go_wp2_with fail
          refine (implIsFinite_c _ _).mono ?_; rintro e w' ⟨rfl, n1, rfl⟩
          rw [HFY.out]
          go_wp2_with (refine wpList_widen _ rfl Try.underlying22 Try.underlying25 rfl ?_; intro u nu hu hwu)
          refine (abs64_c _ hwu _).mono ?_; rintro e w2 ⟨rfl, rfl⟩
          go_wp2_with (refine wpList_widen _ rfl Try.underlying22 Try.underlying25 rfl ?_; intro v nv hv hwv)
          refine (abs64_c _ hwv _).mono ?_; rintro e w2 ⟨rfl, rfl⟩
          obtain ⟨fu, nuu, su, zu⟩ := WY.out u hu
          obtain ⟨fv, nvv, sv, zv⟩ := WX.out v hv
          have og := gt_bits fu fv
          have HCY := Lib.hid (cl64_of (b := u % 9223372036854775808) (by omega))
          have HCX := Lib.hid (cl64_of (b := v % 9223372036854775808) (by omega))
          have hzz2 := HZ0.out
          have hang : angW u v = angB (decide (v % 9223372036854775808 < u % 9223372036854775808)) sx sy (angO (ratA (u % 9223372036854775808) (v % 9223372036854775808))) := by
            unfold angW
            rw [if_neg (by omega), if_neg (fun h => hzz2 ⟨zv.1 h.1, zu.1 h.2⟩), ← HSX.out, ← HSY.out, decide_eq_decide.2 sv, decide_eq_decide.2 su]
          have hnarr : ∀ r, cl .f64 r = angW u v → Narrows .f64 .f32 r := fun r hr => narrow_ang nuu nvv hr
          have FIN : Hid (angT y x (fconv .f64 .f32 (angW u v))) := ⟨u, v, hu, hv, rfl⟩
          rw [hang] at FIN hnarr
          have hnarr2 := Lib.hid hnarr
          clear hang hnarr hzz2 fu nuu su zu fv nvv sv zv hu hv
          generalize u % 9223372036854775808 = A at *
          generalize v % 9223372036854775808 = B at *
          by_cases hov : B < A
          · rw [decide_eq_true hov] at og FIN hnarr2
            have HT : Hid (ratA A B = fbin .quo .f64 (some B) (some A)) := by show _ = _; unfold ratA; rw [decide_eq_true hov]; rfl
            clear hov
            generalize ratA A B = T0 at *
            have NAR := hnarr2
            have tok1 : True := trivial
            have tok2 : True := trivial
            go_wp2_with (first | (have _t := tok1; refine wpList_fbin .f64 _ _ rfl rfl rfl rfl ?_; intro t1 nt1 ht1 wt1; clear tok1) | (have _t := tok2; refine wpList_fbin .f64 _ _ rfl rfl rfl rfl ?_; intro t2 nt2 ht2 wt2; clear tok2))
            clear ez
            go_loopw [7, 44] (fun p k wr => ∃ j d q : Nat, j ≤ 3 ∧ k = .int .i64 (j : Nat) ∧ p = .float .f64 q ∧ cl .f64 q = stepN T0 j ∧ wr = w.drewN d) (fun _ k _ => 3 - (intOf k).toNat)
            case atStart => exact ⟨0, _, t2, by decide, rfl, rfl, by rw [ht2, HCX.out, HCY.out]; exact HT.out.symm, rfl⟩
            case round =>
              obtain ⟨j, d, q, hj, rfl, rfl, hq, rfl⟩ := hrel
              have HQ := Lib.hid hq
              clear hq
              by_cases hj1 : j ≤ 2
              · have hwr := wrap_three hj1
                have hlt : (j : Int) < 3 := by omega
                have tok91 : True := trivial
                have tok92 : True := trivial
                go_wp2_with (first | (have _t := tok91; refine wpList_fbin .f64 _ _ rfl rfl rfl rfl ?_; intro a1 na1 ha1 wa1; clear tok91) | (have _t := tok92; refine wpList_fbin .f64 _ _ rfl rfl rfl rfl ?_; intro a2 na2 ha2 wa2; clear tok92))
                refine (sqrt_c _ _).mono ?_; rintro e w2 ⟨r, nr, rfl, hr, hwr2, rfl⟩
                have tok93 : True := trivial
                have tok94 : True := trivial
                go_wp2_with (first | (have _t := tok93; refine wpList_fbin .f64 _ _ rfl rfl rfl rfl ?_; intro a3 na3 ha3 wa3; clear tok93) | (have _t := tok94; refine wpList_fbin .f64 _ _ rfl rfl rfl rfl ?_; intro a4 na4 ha4 wa4; clear tok94))
                go_roundw
                case rel => exact ⟨j + 1, _, a4, by omega, rfl, rfl, step_a HQ.out ha1 ha2 hr ha3 ha4, rfl⟩
                case measure => simp [intOf]; omega
              · obtain rfl : j = 3 := by omega
                have tok90 : True := trivial
                go_wp2_with (have _t := tok90; refine wpList_fbin .f64 _ _ rfl rfl rfl rfl ?_; intro u nu hu wu; clear tok90)
                go_loopw [9, 10] (fun p k wr => ∃ m d z : Nat, m ≤ 8 ∧ k = .int .i64 (15 - 2 * (m : Nat)) ∧ p = .float .f64 z ∧ cl .f64 z = pA (cl .f64 u) m ∧ wr = w.drewN d) (fun _ k _ => (3000 + intOf k).toNat)
                case atStart => exact ⟨0, _, 0, by decide, by simp, rfl, cl_zero _, rfl⟩
                case round =>
                  obtain ⟨m, d3, z, hm, rfl, rfl, hz, rfl⟩ := hrel
                  have HZ := Lib.hid hz
                  clear hz
                  by_cases hm1 : m ≤ 7
                  · have hwr := wrap_two (e := 15 - 2 * (m : Int)) (by omega) (by omega)
                    have tok97 : True := trivial
                    have tok98 : True := trivial
                    have tok99 : True := trivial
                    go_wp2_with (first | (have _t := tok97; refine wpList_fbin .f64 _ _ rfl rfl rfl rfl ?_; intro a1 na1 ha1 wa1; clear tok97) | (have _t := tok98; refine wpList_fbin .f64 _ _ rfl rfl rfl rfl ?_; intro a2 na2 ha2 wa2; clear tok98) | (have _t := tok99; refine wpList_fbin .f64 _ _ rfl rfl rfl rfl ?_; intro a3 na3 ha3 wa3; clear tok99))
                    go_roundw
                    case rel => exact ⟨m + 1, _, a3, by omega, by congr 1; omega, rfl, step_p HZ.out ha1 ha2 ha3, rfl⟩
                    case measure => simp [intOf]; omega
                  · obtain rfl : m = 8 := by omega
                    have hox := HX.out
                    have hoy := HY.out
                    have hneg := fun r w => neg_val (P := Try.prog) r w
                    by_cases hsx : sx = true
                    · rw [hsx] at hox
                      by_cases hsy : sy = true
                      · rw [hsy] at hoy
                        have tok60 : True := trivial
                        have tok61 : True := trivial
                        have tok62 : True := trivial
                        have tok63 : True := trivial
                        have tok64 : True := trivial
                        go_wp2_with (first | (have _t := tok60; refine wpList_fbin .f64 _ _ rfl rfl rfl rfl ?_; intro o1 no1 ho1 wo1; clear tok60) | (have _t := tok61; refine wpList_fbin .f64 _ _ rfl rfl rfl rfl ?_; intro o2 no2 ho2 wo2; clear tok61) | (have _t := tok62; refine wpList_fbin .f64 _ _ rfl rfl rfl rfl ?_; intro o3 no3 ho3 wo3; clear tok62) | (have _t := tok63; refine wpList_fbin .f64 _ _ rfl rfl rfl rfl ?_; intro o4 no4 ho4 wo4; clear tok63) | (have _t := tok64; refine wpList_fbin .f64 _ _ rfl rfl rfl rfl ?_; intro o5 no5 ho5 wo5; clear tok64; have hb : cl .f64 (Op.negFloat .f64 o5) = angB true true true (angO T0) := (by rw [neg_cl, ho5, ho4, out_a HQ.out hu HZ.out ho1 ho2 ho3, cl_half, cl_quarter]; rfl); have hnn := NAR.out _ (hb.trans (by rw [hsx, hsy]))) | (refine wpList_narrow (Op.negFloat .f64 o5) rfl Try.underlying25 Try.underlying22 rfl hnn ?_; intro g ng hg wg))
                        go_ret
                        exact ⟨_, FIN.out, retF _ (by rw [hg, hb, hsx, hsy]) wg⟩
                      · have hsy2 : sy = false := by simpa using hsy
                        rw [hsy2] at hoy
                        have tok60 : True := trivial
                        have tok61 : True := trivial
                        have tok62 : True := trivial
                        have tok63 : True := trivial
                        have tok64 : True := trivial
                        go_wp2_with (first | (have _t := tok60; refine wpList_fbin .f64 _ _ rfl rfl rfl rfl ?_; intro o1 no1 ho1 wo1; clear tok60) | (have _t := tok61; refine wpList_fbin .f64 _ _ rfl rfl rfl rfl ?_; intro o2 no2 ho2 wo2; clear tok61) | (have _t := tok62; refine wpList_fbin .f64 _ _ rfl rfl rfl rfl ?_; intro o3 no3 ho3 wo3; clear tok62) | (have _t := tok63; refine wpList_fbin .f64 _ _ rfl rfl rfl rfl ?_; intro o4 no4 ho4 wo4; clear tok63) | (have _t := tok64; refine wpList_fbin .f64 _ _ rfl rfl rfl rfl ?_; intro o5 no5 ho5 wo5; clear tok64; have hb : cl .f64 o5 = angB true true false (angO T0) := (by rw [ho5, ho4, out_a HQ.out hu HZ.out ho1 ho2 ho3, cl_half, cl_quarter]; rfl); have hnn := NAR.out _ (hb.trans (by rw [hsx, hsy2]))) | (refine wpList_narrow o5 rfl Try.underlying25 Try.underlying22 rfl hnn ?_; intro g ng hg wg))
                        go_ret
                        exact ⟨_, FIN.out, retF _ (by rw [hg, hb, hsx, hsy2]) wg⟩
                    · have hsx2 : sx = false := by simpa using hsx
                      rw [hsx2] at hox
                      by_cases hsy : sy = true
                      · rw [hsy] at hoy
                        have tok60 : True := trivial
                        have tok61 : True := trivial
                        have tok62 : True := trivial
                        have tok63 : True := trivial
                        go_wp2_with (first | (have _t := tok60; refine wpList_fbin .f64 _ _ rfl rfl rfl rfl ?_; intro o1 no1 ho1 wo1; clear tok60) | (have _t := tok61; refine wpList_fbin .f64 _ _ rfl rfl rfl rfl ?_; intro o2 no2 ho2 wo2; clear tok61) | (have _t := tok62; refine wpList_fbin .f64 _ _ rfl rfl rfl rfl ?_; intro o3 no3 ho3 wo3; clear tok62) | (have _t := tok63; refine wpList_fbin .f64 _ _ rfl rfl rfl rfl ?_; intro o4 no4 ho4 wo4; clear tok63; have hb : cl .f64 (Op.negFloat .f64 o4) = angB true false true (angO T0) := (by rw [neg_cl, ho4, out_a HQ.out hu HZ.out ho1 ho2 ho3, cl_quarter]; rfl); have hnn := NAR.out _ (hb.trans (by rw [hsx2, hsy]))) | (refine wpList_narrow (Op.negFloat .f64 o4) rfl Try.underlying25 Try.underlying22 rfl hnn ?_; intro g ng hg wg))
                        go_ret
                        exact ⟨_, FIN.out, retF _ (by rw [hg, hb, hsx2, hsy]) wg⟩
                      · have hsy2 : sy = false := by simpa using hsy
                        rw [hsy2] at hoy
                        have tok60 : True := trivial
                        have tok61 : True := trivial
                        have tok62 : True := trivial
                        have tok63 : True := trivial
                        go_wp2_with (first | (have _t := tok60; refine wpList_fbin .f64 _ _ rfl rfl rfl rfl ?_; intro o1 no1 ho1 wo1; clear tok60) | (have _t := tok61; refine wpList_fbin .f64 _ _ rfl rfl rfl rfl ?_; intro o2 no2 ho2 wo2; clear tok61) | (have _t := tok62; refine wpList_fbin .f64 _ _ rfl rfl rfl rfl ?_; intro o3 no3 ho3 wo3; clear tok62) | (have _t := tok63; refine wpList_fbin .f64 _ _ rfl rfl rfl rfl ?_; intro o4 no4 ho4 wo4; clear tok63; have hb : cl .f64 o4 = angB true false false (angO T0) := (by rw [ho4, out_a HQ.out hu HZ.out ho1 ho2 ho3, cl_quarter]; rfl); have hnn := NAR.out _ (hb.trans (by rw [hsx2, hsy2]))) | (refine wpList_narrow o4 rfl Try.underlying25 Try.underlying22 rfl hnn ?_; intro g ng hg wg))
                        go_ret
                        exact ⟨_, FIN.out, retF _ (by rw [hg, hb, hsx2, hsy2]) wg⟩
          · rw [decide_eq_false hov] at og FIN hnarr2
            have HT : Hid (ratA A B = fbin .quo .f64 (some A) (some B)) := by show _ = _; unfold ratA; rw [decide_eq_false hov]; rfl
            clear hov
            generalize ratA A B = T0 at *
            have NAR := hnarr2
            have tok1 : True := trivial
            have tok2 : True := trivial
            go_wp2_with (have _t := tok1; refine wpList_fbin .f64 _ _ rfl rfl rfl rfl ?_; intro t1 nt1 ht1 wt1; clear tok1)
            clear ez
            go_loopw [7, 44] (fun p k wr => ∃ j d q : Nat, j ≤ 3 ∧ k = .int .i64 (j : Nat) ∧ p = .float .f64 q ∧ cl .f64 q = stepN T0 j ∧ wr = w.drewN d) (fun _ k _ => 3 - (intOf k).toNat)
            case atStart => exact ⟨0, _, t1, by decide, rfl, rfl, by rw [ht1, HCY.out, HCX.out]; exact HT.out.symm, rfl⟩
            case round =>
              obtain ⟨j, d, q, hj, rfl, rfl, hq, rfl⟩ := hrel
              have HQ := Lib.hid hq
              clear hq
              by_cases hj1 : j ≤ 2
              · have hwr := wrap_three hj1
                have hlt : (j : Int) < 3 := by omega
                have tok91 : True := trivial
                have tok92 : True := trivial
                go_wp2_with (first | (have _t := tok91; refine wpList_fbin .f64 _ _ rfl rfl rfl rfl ?_; intro a1 na1 ha1 wa1; clear tok91) | (have _t := tok92; refine wpList_fbin .f64 _ _ rfl rfl rfl rfl ?_; intro a2 na2 ha2 wa2; clear tok92))
                refine (sqrt_c _ _).mono ?_; rintro e w2 ⟨r, nr, rfl, hr, hwr2, rfl⟩
                have tok93 : True := trivial
                have tok94 : True := trivial
                go_wp2_with (first | (have _t := tok93; refine wpList_fbin .f64 _ _ rfl rfl rfl rfl ?_; intro a3 na3 ha3 wa3; clear tok93) | (have _t := tok94; refine wpList_fbin .f64 _ _ rfl rfl rfl rfl ?_; intro a4 na4 ha4 wa4; clear tok94))
                go_roundw
                case rel => exact ⟨j + 1, _, a4, by omega, rfl, rfl, step_a HQ.out ha1 ha2 hr ha3 ha4, rfl⟩
                case measure => simp [intOf]; omega
              · obtain rfl : j = 3 := by omega
                have tok90 : True := trivial
                go_wp2_with (have _t := tok90; refine wpList_fbin .f64 _ _ rfl rfl rfl rfl ?_; intro u nu hu wu; clear tok90)
                go_loopw [9, 10] (fun p k wr => ∃ m d z : Nat, m ≤ 8 ∧ k = .int .i64 (15 - 2 * (m : Nat)) ∧ p = .float .f64 z ∧ cl .f64 z = pA (cl .f64 u) m ∧ wr = w.drewN d) (fun _ k _ => (3000 + intOf k).toNat)
                case atStart => exact ⟨0, _, 0, by decide, by simp, rfl, cl_zero _, rfl⟩
                case round =>
                  obtain ⟨m, d3, z, hm, rfl, rfl, hz, rfl⟩ := hrel
                  have HZ := Lib.hid hz
                  clear hz
                  by_cases hm1 : m ≤ 7
                  · have hwr := wrap_two (e := 15 - 2 * (m : Int)) (by omega) (by omega)
                    have tok97 : True := trivial
                    have tok98 : True := trivial
                    have tok99 : True := trivial
                    go_wp2_with (first | (have _t := tok97; refine wpList_fbin .f64 _ _ rfl rfl rfl rfl ?_; intro a1 na1 ha1 wa1; clear tok97) | (have _t := tok98; refine wpList_fbin .f64 _ _ rfl rfl rfl rfl ?_; intro a2 na2 ha2 wa2; clear tok98) | (have _t := tok99; refine wpList_fbin .f64 _ _ rfl rfl rfl rfl ?_; intro a3 na3 ha3 wa3; clear tok99))
                    go_roundw
                    case rel => exact ⟨m + 1, _, a3, by omega, by congr 1; omega, rfl, step_p HZ.out ha1 ha2 ha3, rfl⟩
                    case measure => simp [intOf]; omega
                  · obtain rfl : m = 8 := by omega
                    have hox := HX.out
                    have hoy := HY.out
                    have hneg := fun r w => neg_val (P := Try.prog) r w
                    by_cases hsx : sx = true
                    · rw [hsx] at hox
                      by_cases hsy : sy = true
                      · rw [hsy] at hoy
                        have tok60 : True := trivial
                        have tok61 : True := trivial
                        have tok62 : True := trivial
                        have tok63 : True := trivial
                        go_wp2_with (first | (have _t := tok60; refine wpList_fbin .f64 _ _ rfl rfl rfl rfl ?_; intro o1 no1 ho1 wo1; clear tok60) | (have _t := tok61; refine wpList_fbin .f64 _ _ rfl rfl rfl rfl ?_; intro o2 no2 ho2 wo2; clear tok61) | (have _t := tok62; refine wpList_fbin .f64 _ _ rfl rfl rfl rfl ?_; intro o3 no3 ho3 wo3; clear tok62) | (have _t := tok63; refine wpList_fbin .f64 _ _ rfl rfl rfl rfl ?_; intro o5 no5 ho5 wo5; clear tok63; have hb : cl .f64 (Op.negFloat .f64 o5) = angB false true true (angO T0) := (by rw [neg_cl, ho5, out_a HQ.out hu HZ.out ho1 ho2 ho3, cl_half]; rfl); have hnn := NAR.out _ (hb.trans (by rw [hsx, hsy]))) | (refine wpList_narrow (Op.negFloat .f64 o5) rfl Try.underlying25 Try.underlying22 rfl hnn ?_; intro g ng hg wg))
                        go_ret
                        exact ⟨_, FIN.out, retF _ (by rw [hg, hb, hsx, hsy]) wg⟩
                      · have hsy2 : sy = false := by simpa using hsy
                        rw [hsy2] at hoy
                        have tok60 : True := trivial
                        have tok61 : True := trivial
                        have tok62 : True := trivial
                        have tok63 : True := trivial
                        go_wp2_with (first | (have _t := tok60; refine wpList_fbin .f64 _ _ rfl rfl rfl rfl ?_; intro o1 no1 ho1 wo1; clear tok60) | (have _t := tok61; refine wpList_fbin .f64 _ _ rfl rfl rfl rfl ?_; intro o2 no2 ho2 wo2; clear tok61) | (have _t := tok62; refine wpList_fbin .f64 _ _ rfl rfl rfl rfl ?_; intro o3 no3 ho3 wo3; clear tok62) | (have _t := tok63; refine wpList_fbin .f64 _ _ rfl rfl rfl rfl ?_; intro o5 no5 ho5 wo5; clear tok63; have hb : cl .f64 o5 = angB false true false (angO T0) := (by rw [ho5, out_a HQ.out hu HZ.out ho1 ho2 ho3, cl_half]; rfl); have hnn := NAR.out _ (hb.trans (by rw [hsx, hsy2]))) | (refine wpList_narrow o5 rfl Try.underlying25 Try.underlying22 rfl hnn ?_; intro g ng hg wg))
                        go_ret
                        exact ⟨_, FIN.out, retF _ (by rw [hg, hb, hsx, hsy2]) wg⟩
                    · have hsx2 : sx = false := by simpa using hsx
                      rw [hsx2] at hox
                      by_cases hsy : sy = true
                      · rw [hsy] at hoy
                        have tok60 : True := trivial
                        have tok61 : True := trivial
                        have tok62 : True := trivial
                        go_wp2_with (first | (have _t := tok60; refine wpList_fbin .f64 _ _ rfl rfl rfl rfl ?_; intro o1 no1 ho1 wo1; clear tok60) | (have _t := tok61; refine wpList_fbin .f64 _ _ rfl rfl rfl rfl ?_; intro o2 no2 ho2 wo2; clear tok61) | (have _t := tok62; refine wpList_fbin .f64 _ _ rfl rfl rfl rfl ?_; intro o3 no3 ho3 wo3; clear tok62; have hb : cl .f64 (Op.negFloat .f64 o3) = angB false false true (angO T0) := (by rw [neg_cl, out_a HQ.out hu HZ.out ho1 ho2 ho3]; rfl); have hnn := NAR.out _ (hb.trans (by rw [hsx2, hsy]))) | (refine wpList_narrow (Op.negFloat .f64 o3) rfl Try.underlying25 Try.underlying22 rfl hnn ?_; intro g ng hg wg))
                        go_ret
                        exact ⟨_, FIN.out, retF _ (by rw [hg, hb, hsx2, hsy]) wg⟩
                      · have hsy2 : sy = false := by simpa using hsy
                        rw [hsy2] at hoy
                        have tok60 : True := trivial
                        have tok61 : True := trivial
                        have tok62 : True := trivial
                        go_wp2_with (first | (have _t := tok60; refine wpList_fbin .f64 _ _ rfl rfl rfl rfl ?_; intro o1 no1 ho1 wo1; clear tok60) | (have _t := tok61; refine wpList_fbin .f64 _ _ rfl rfl rfl rfl ?_; intro o2 no2 ho2 wo2; clear tok61) | (have _t := tok62; refine wpList_fbin .f64 _ _ rfl rfl rfl rfl ?_; intro o3 no3 ho3 wo3; clear tok62; have hb : cl .f64 o3 = angB false false false (angO T0) := (by rw [out_a HQ.out hu HZ.out ho1 ho2 ho3]; rfl); have hnn := NAR.out _ (hb.trans (by rw [hsx2, hsy2]))) | (refine wpList_narrow o3 rfl Try.underlying25 Try.underlying22 rfl hnn ?_; intro g ng hg wg))
                        go_ret
                        exact ⟨_, FIN.out, retF _ (by rw [hg, hb, hsx2, hsy2]) wg⟩
        · go_enter Try.func24, Try.ntmps24
          go_wp2_with fail
          refine (implIsFinite_c _ _).mono ?_; rintro e w' ⟨rfl, n, rfl⟩
          rw [HFX.out]
          go_wp2_with fail
          refine (implIsFinite_c _ _).mono ?_; rintro e w' ⟨rfl, n1, rfl⟩
          rw [HFY.out]
          go_wp2_with (refine wpList_widen _ rfl Try.underlying22 Try.underlying25 rfl ?_; intro u nu hu hwu)
          refine (abs64_c _ hwu _).mono ?_; rintro e w2 ⟨rfl, rfl⟩
          go_wp2_with (refine wpList_widen _ rfl Try.underlying22 Try.underlying25 rfl ?_; intro v nv hv hwv)
          refine (abs64_c _ hwv _).mono ?_; rintro e w2 ⟨rfl, rfl⟩
          obtain ⟨fu, nuu, su, zu⟩ := WY.out u hu
          obtain ⟨fv, nvv, sv, zv⟩ := WX.out v hv
          have og := gt_bits fu fv
          have HCY := Lib.hid (cl64_of (b := u % 9223372036854775808) (by omega))
          have HCX := Lib.hid (cl64_of (b := v % 9223372036854775808) (by omega))
          have hzz2 := HZ0.out
          have hang : angW u v = angB (decide (v % 9223372036854775808 < u % 9223372036854775808)) sx sy (angO (ratA (u % 9223372036854775808) (v % 9223372036854775808))) := by
            unfold angW
            rw [if_neg (by omega), if_neg (fun h => hzz2 ⟨zv.1 h.1, zu.1 h.2⟩), ← HSX.out, ← HSY.out, decide_eq_decide.2 sv, decide_eq_decide.2 su]
          have hnarr : ∀ r, cl .f64 r = angW u v → Narrows .f64 .f32 r := fun r hr => narrow_ang nuu nvv hr
          have FIN : Hid (angT y x (fconv .f64 .f32 (angW u v))) := ⟨u, v, hu, hv, rfl⟩
          rw [hang] at FIN hnarr
          have hnarr2 := Lib.hid hnarr
          clear hang hnarr hzz2 fu nuu su zu fv nvv sv zv hu hv
          generalize u % 9223372036854775808 = A at *
          generalize v % 9223372036854775808 = B at *
          by_cases hov : B < A
          · rw [decide_eq_true hov] at og FIN hnarr2
            have HT : Hid (ratA A B = fbin .quo .f64 (some B) (some A)) := by show _ = _; unfold ratA; rw [decide_eq_true hov]; rfl
            clear hov
            generalize ratA A B = T0 at *
            have NAR := hnarr2
            have tok1 : True := trivial
            have tok2 : True := trivial
            go_wp2_with (first | (have _t := tok1; refine wpList_fbin .f64 _ _ rfl rfl rfl rfl ?_; intro t1 nt1 ht1 wt1; clear tok1) | (have _t := tok2; refine wpList_fbin .f64 _ _ rfl rfl rfl rfl ?_; intro t2 nt2 ht2 wt2; clear tok2))
            clear ez ez2
            go_loopw [7, 44] (fun p k wr => ∃ j d q : Nat, j ≤ 3 ∧ k = .int .i64 (j : Nat) ∧ p = .float .f64 q ∧ cl .f64 q = stepN T0 j ∧ wr = w.drewN d) (fun _ k _ => 3 - (intOf k).toNat)
            case atStart => exact ⟨0, _, t2, by decide, rfl, rfl, by rw [ht2, HCX.out, HCY.out]; exact HT.out.symm, rfl⟩
            case round =>
              obtain ⟨j, d, q, hj, rfl, rfl, hq, rfl⟩ := hrel
              have HQ := Lib.hid hq
              clear hq
              by_cases hj1 : j ≤ 2
              · have hwr := wrap_three hj1
                have hlt : (j : Int) < 3 := by omega
                have tok91 : True := trivial
                have tok92 : True := trivial
                go_wp2_with (first | (have _t := tok91; refine wpList_fbin .f64 _ _ rfl rfl rfl rfl ?_; intro a1 na1 ha1 wa1; clear tok91) | (have _t := tok92; refine wpList_fbin .f64 _ _ rfl rfl rfl rfl ?_; intro a2 na2 ha2 wa2; clear tok92))
                refine (sqrt_c _ _).mono ?_; rintro e w2 ⟨r, nr, rfl, hr, hwr2, rfl⟩
                have tok93 : True := trivial
                have tok94 : True := trivial
                go_wp2_with (first | (have _t := tok93; refine wpList_fbin .f64 _ _ rfl rfl rfl rfl ?_; intro a3 na3 ha3 wa3; clear tok93) | (have _t := tok94; refine wpList_fbin .f64 _ _ rfl rfl rfl rfl ?_; intro a4 na4 ha4 wa4; clear tok94))
                go_roundw
                case rel => exact ⟨j + 1, _, a4, by omega, rfl, rfl, step_a HQ.out ha1 ha2 hr ha3 ha4, rfl⟩
                case measure => simp [intOf]; omega
              · obtain rfl : j = 3 := by omega
                have tok90 : True := trivial
                go_wp2_with (have _t := tok90; refine wpList_fbin .f64 _ _ rfl rfl rfl rfl ?_; intro u nu hu wu; clear tok90)
                go_loopw [9, 10] (fun p k wr => ∃ m d z : Nat, m ≤ 8 ∧ k = .int .i64 (15 - 2 * (m : Nat)) ∧ p = .float .f64 z ∧ cl .f64 z = pA (cl .f64 u) m ∧ wr = w.drewN d) (fun _ k _ => (3000 + intOf k).toNat)
                case atStart => exact ⟨0, _, 0, by decide, by simp, rfl, cl_zero _, rfl⟩
                case round =>
                  obtain ⟨m, d3, z, hm, rfl, rfl, hz, rfl⟩ := hrel
                  have HZ := Lib.hid hz
                  clear hz
                  by_cases hm1 : m ≤ 7
                  · have hwr := wrap_two (e := 15 - 2 * (m : Int)) (by omega) (by omega)
                    have tok97 : True := trivial
                    have tok98 : True := trivial
                    have tok99 : True := trivial
                    go_wp2_with (first | (have _t := tok97; refine wpList_fbin .f64 _ _ rfl rfl rfl rfl ?_; intro a1 na1 ha1 wa1; clear tok97) | (have _t := tok98; refine wpList_fbin .f64 _ _ rfl rfl rfl rfl ?_; intro a2 na2 ha2 wa2; clear tok98) | (have _t := tok99; refine wpList_fbin .f64 _ _ rfl rfl rfl rfl ?_; intro a3 na3 ha3 wa3; clear tok99))
                    go_roundw
                    case rel => exact ⟨m + 1, _, a3, by omega, by congr 1; omega, rfl, step_p HZ.out ha1 ha2 ha3, rfl⟩
                    case measure => simp [intOf]; omega
                  · obtain rfl : m = 8 := by omega
                    have hox := HX.out
                    have hoy := HY.out
                    have hneg := fun r w => neg_val (P := Try.prog) r w
                    by_cases hsx : sx = true
                    · rw [hsx] at hox
                      by_cases hsy : sy = true
                      · rw [hsy] at hoy
                        have tok60 : True := trivial
                        have tok61 : True := trivial
                        have tok62 : True := trivial
                        have tok63 : True := trivial
                        have tok64 : True := trivial
                        go_wp2_with (first | (have _t := tok60; refine wpList_fbin .f64 _ _ rfl rfl rfl rfl ?_; intro o1 no1 ho1 wo1; clear tok60) | (have _t := tok61; refine wpList_fbin .f64 _ _ rfl rfl rfl rfl ?_; intro o2 no2 ho2 wo2; clear tok61) | (have _t := tok62; refine wpList_fbin .f64 _ _ rfl rfl rfl rfl ?_; intro o3 no3 ho3 wo3; clear tok62) | (have _t := tok63; refine wpList_fbin .f64 _ _ rfl rfl rfl rfl ?_; intro o4 no4 ho4 wo4; clear tok63) | (have _t := tok64; refine wpList_fbin .f64 _ _ rfl rfl rfl rfl ?_; intro o5 no5 ho5 wo5; clear tok64; have hb : cl .f64 (Op.negFloat .f64 o5) = angB true true true (angO T0) := (by rw [neg_cl, ho5, ho4, out_a HQ.out hu HZ.out ho1 ho2 ho3, cl_half, cl_quarter]; rfl); have hnn := NAR.out _ (hb.trans (by rw [hsx, hsy]))) | (refine wpList_narrow (Op.negFloat .f64 o5) rfl Try.underlying25 Try.underlying22 rfl hnn ?_; intro g ng hg wg))
                        go_ret
                        exact ⟨_, FIN.out, retF _ (by rw [hg, hb, hsx, hsy]) wg⟩
                      · have hsy2 : sy = false := by simpa using hsy
                        rw [hsy2] at hoy
                        have tok60 : True := trivial
                        have tok61 : True := trivial
                        have tok62 : True := trivial
                        have tok63 : True := trivial
                        have tok64 : True := trivial
                        go_wp2_with (first | (have _t := tok60; refine wpList_fbin .f64 _ _ rfl rfl rfl rfl ?_; intro o1 no1 ho1 wo1; clear tok60) | (have _t := tok61; refine wpList_fbin .f64 _ _ rfl rfl rfl rfl ?_; intro o2 no2 ho2 wo2; clear tok61) | (have _t := tok62; refine wpList_fbin .f64 _ _ rfl rfl rfl rfl ?_; intro o3 no3 ho3 wo3; clear tok62) | (have _t := tok63; refine wpList_fbin .f64 _ _ rfl rfl rfl rfl ?_; intro o4 no4 ho4 wo4; clear tok63) | (have _t := tok64; refine wpList_fbin .f64 _ _ rfl rfl rfl rfl ?_; intro o5 no5 ho5 wo5; clear tok64; have hb : cl .f64 o5 = angB true true false (angO T0) := (by rw [ho5, ho4, out_a HQ.out hu HZ.out ho1 ho2 ho3, cl_half, cl_quarter]; rfl); have hnn := NAR.out _ (hb.trans (by rw [hsx, hsy2]))) | (refine wpList_narrow o5 rfl Try.underlying25 Try.underlying22 rfl hnn ?_; intro g ng hg wg))
                        go_ret
                        exact ⟨_, FIN.out, retF _ (by rw [hg, hb, hsx, hsy2]) wg⟩
                    · have hsx2 : sx = false := by simpa using hsx
                      rw [hsx2] at hox
                      by_cases hsy : sy = true
                      · rw [hsy] at hoy
                        have tok60 : True := trivial
                        have tok61 : True := trivial
                        have tok62 : True := trivial
                        have tok63 : True := trivial
                        go_wp2_with (first | (have _t := tok60; refine wpList_fbin .f64 _ _ rfl rfl rfl rfl ?_; intro o1 no1 ho1 wo1; clear tok60) | (have _t := tok61; refine wpList_fbin .f64 _ _ rfl rfl rfl rfl ?_; intro o2 no2 ho2 wo2; clear tok61) | (have _t := tok62; refine wpList_fbin .f64 _ _ rfl rfl rfl rfl ?_; intro o3 no3 ho3 wo3; clear tok62) | (have _t := tok63; refine wpList_fbin .f64 _ _ rfl rfl rfl rfl ?_; intro o4 no4 ho4 wo4; clear tok63; have hb : cl .f64 (Op.negFloat .f64 o4) = angB true false true (angO T0) := (by rw [neg_cl, ho4, out_a HQ.out hu HZ.out ho1 ho2 ho3, cl_quarter]; rfl); have hnn := NAR.out _ (hb.trans (by rw [hsx2, hsy]))) | (refine wpList_narrow (Op.negFloat .f64 o4) rfl Try.underlying25 Try.underlying22 rfl hnn ?_; intro g ng hg wg))
                        go_ret
                        exact ⟨_, FIN.out, retF _ (by rw [hg, hb, hsx2, hsy]) wg⟩
                      · have hsy2 : sy = false := by simpa using hsy
                        rw [hsy2] at hoy
                        have tok60 : True := trivial
                        have tok61 : True := trivial
                        have tok62 : True := trivial
                        have tok63 : True := trivial
                        go_wp2_with (first | (have _t := tok60; refine wpList_fbin .f64 _ _ rfl rfl rfl rfl ?_; intro o1 no1 ho1 wo1; clear tok60) | (have _t := tok61; refine wpList_fbin .f64 _ _ rfl rfl rfl rfl ?_; intro o2 no2 ho2 wo2; clear tok61) | (have _t := tok62; refine wpList_fbin .f64 _ _ rfl rfl rfl rfl ?_; intro o3 no3 ho3 wo3; clear tok62) | (have _t := tok63; refine wpList_fbin .f64 _ _ rfl rfl rfl rfl ?_; intro o4 no4 ho4 wo4; clear tok63; have hb : cl .f64 o4 = angB true false false (angO T0) := (by rw [ho4, out_a HQ.out hu HZ.out ho1 ho2 ho3, cl_quarter]; rfl); have hnn := NAR.out _ (hb.trans (by rw [hsx2, hsy2]))) | (refine wpList_narrow o4 rfl Try.underlying25 Try.underlying22 rfl hnn ?_; intro g ng hg wg))
                        go_ret
                        exact ⟨_, FIN.out, retF _ (by rw [hg, hb, hsx2, hsy2]) wg⟩
          · rw [decide_eq_false hov] at og FIN hnarr2
            have HT : Hid (ratA A B = fbin .quo .f64 (some A) (some B)) := by show _ = _; unfold ratA; rw [decide_eq_false hov]; rfl
            clear hov
            generalize ratA A B = T0 at *
            have NAR := hnarr2
            have tok1 : True := trivial
            have tok2 : True := trivial
            go_wp2_with (have _t := tok1; refine wpList_fbin .f64 _ _ rfl rfl rfl rfl ?_; intro t1 nt1 ht1 wt1; clear tok1)
            clear ez ez2
            go_loopw [7, 44] (fun p k wr => ∃ j d q : Nat, j ≤ 3 ∧ k = .int .i64 (j : Nat) ∧ p = .float .f64 q ∧ cl .f64 q = stepN T0 j ∧ wr = w.drewN d) (fun _ k _ => 3 - (intOf k).toNat)
            case atStart => exact ⟨0, _, t1, by decide, rfl, rfl, by rw [ht1, HCY.out, HCX.out]; exact HT.out.symm, rfl⟩
            case round =>
              obtain ⟨j, d, q, hj, rfl, rfl, hq, rfl⟩ := hrel
              have HQ := Lib.hid hq
              clear hq
              by_cases hj1 : j ≤ 2
              · have hwr := wrap_three hj1
                have hlt : (j : Int) < 3 := by omega
                have tok91 : True := trivial
                have tok92 : True := trivial
                go_wp2_with (first | (have _t := tok91; refine wpList_fbin .f64 _ _ rfl rfl rfl rfl ?_; intro a1 na1 ha1 wa1; clear tok91) | (have _t := tok92; refine wpList_fbin .f64 _ _ rfl rfl rfl rfl ?_; intro a2 na2 ha2 wa2; clear tok92))
                refine (sqrt_c _ _).mono ?_; rintro e w2 ⟨r, nr, rfl, hr, hwr2, rfl⟩
                have tok93 : True := trivial
                have tok94 : True := trivial
                go_wp2_with (first | (have _t := tok93; refine wpList_fbin .f64 _ _ rfl rfl rfl rfl ?_; intro a3 na3 ha3 wa3; clear tok93) | (have _t := tok94; refine wpList_fbin .f64 _ _ rfl rfl rfl rfl ?_; intro a4 na4 ha4 wa4; clear tok94))
                go_roundw
                case rel => exact ⟨j + 1, _, a4, by omega, rfl, rfl, step_a HQ.out ha1 ha2 hr ha3 ha4, rfl⟩
                case measure => simp [intOf]; omega
              · obtain rfl : j = 3 := by omega
                have tok90 : True := trivial
                go_wp2_with (have _t := tok90; refine wpList_fbin .f64 _ _ rfl rfl rfl rfl ?_; intro u nu hu wu; clear tok90)
                go_loopw [9, 10] (fun p k wr => ∃ m d z : Nat, m ≤ 8 ∧ k = .int .i64 (15 - 2 * (m : Nat)) ∧ p = .float .f64 z ∧ cl .f64 z = pA (cl .f64 u) m ∧ wr = w.drewN d) (fun _ k _ => (3000 + intOf k).toNat)
                case atStart => exact ⟨0, _, 0, by decide, by simp, rfl, cl_zero _, rfl⟩
                case round =>
                  obtain ⟨m, d3, z, hm, rfl, rfl, hz, rfl⟩ := hrel
                  have HZ := Lib.hid hz
                  clear hz
                  by_cases hm1 : m ≤ 7
                  · have hwr := wrap_two (e := 15 - 2 * (m : Int)) (by omega) (by omega)
                    have tok97 : True := trivial
                    have tok98 : True := trivial
                    have tok99 : True := trivial
                    go_wp2_with (first | (have _t := tok97; refine wpList_fbin .f64 _ _ rfl rfl rfl rfl ?_; intro a1 na1 ha1 wa1; clear tok97) | (have _t := tok98; refine wpList_fbin .f64 _ _ rfl rfl rfl rfl ?_; intro a2 na2 ha2 wa2; clear tok98) | (have _t := tok99; refine wpList_fbin .f64 _ _ rfl rfl rfl rfl ?_; intro a3 na3 ha3 wa3; clear tok99))
                    go_roundw
                    case rel => exact ⟨m + 1, _, a3, by omega, by congr 1; omega, rfl, step_p HZ.out ha1 ha2 ha3, rfl⟩
                    case measure => simp [intOf]; omega
                  · obtain rfl : m = 8 := by omega
                    have hox := HX.out
                    have hoy := HY.out
                    have hneg := fun r w => neg_val (P := Try.prog) r w
                    by_cases hsx : sx = true
                    · rw [hsx] at hox
                      by_cases hsy : sy = true
                      · rw [hsy] at hoy
                        have tok60 : True := trivial
                        have tok61 : True := trivial
                        have tok62 : True := trivial
                        have tok63 : True := trivial
                        go_wp2_with (first | (have _t := tok60; refine wpList_fbin .f64 _ _ rfl rfl rfl rfl ?_; intro o1 no1 ho1 wo1; clear tok60) | (have _t := tok61; refine wpList_fbin .f64 _ _ rfl rfl rfl rfl ?_; intro o2 no2 ho2 wo2; clear tok61) | (have _t := tok62; refine wpList_fbin .f64 _ _ rfl rfl rfl rfl ?_; intro o3 no3 ho3 wo3; clear tok62) | (have _t := tok63; refine wpList_fbin .f64 _ _ rfl rfl rfl rfl ?_; intro o5 no5 ho5 wo5; clear tok63; have hb : cl .f64 (Op.negFloat .f64 o5) = angB false true true (angO T0) := (by rw [neg_cl, ho5, out_a HQ.out hu HZ.out ho1 ho2 ho3, cl_half]; rfl); have hnn := NAR.out _ (hb.trans (by rw [hsx, hsy]))) | (refine wpList_narrow (Op.negFloat .f64 o5) rfl Try.underlying25 Try.underlying22 rfl hnn ?_; intro g ng hg wg))
                        go_ret
                        exact ⟨_, FIN.out, retF _ (by rw [hg, hb, hsx, hsy]) wg⟩
                      · have hsy2 : sy = false := by simpa using hsy
                        rw [hsy2] at hoy
                        have tok60 : True := trivial
                        have tok61 : True := trivial
                        have tok62 : True := trivial
                        have tok63 : True := trivial
                        go_wp2_with (first | (have _t := tok60; refine wpList_fbin .f64 _ _ rfl rfl rfl rfl ?_; intro o1 no1 ho1 wo1; clear tok60) | (have _t := tok61; refine wpList_fbin .f64 _ _ rfl rfl rfl rfl ?_; intro o2 no2 ho2 wo2; clear tok61) | (have _t := tok62; refine wpList_fbin .f64 _ _ rfl rfl rfl rfl ?_; intro o3 no3 ho3 wo3; clear tok62) | (have _t := tok63; refine wpList_fbin .f64 _ _ rfl rfl rfl rfl ?_; intro o5 no5 ho5 wo5; clear tok63; have hb : cl .f64 o5 = angB false true false (angO T0) := (by rw [ho5, out_a HQ.out hu HZ.out ho1 ho2 ho3, cl_half]; rfl); have hnn := NAR.out _ (hb.trans (by rw [hsx, hsy2]))) | (refine wpList_narrow o5 rfl Try.underlying25 Try.underlying22 rfl hnn ?_; intro g ng hg wg))
                        go_ret
                        exact ⟨_, FIN.out, retF _ (by rw [hg, hb, hsx, hsy2]) wg⟩
                    · have hsx2 : sx = false := by simpa using hsx
                      rw [hsx2] at hox
                      by_cases hsy : sy = true
                      · rw [hsy] at hoy
                        have tok60 : True := trivial
                        have tok61 : True := trivial
                        have tok62 : True := trivial
                        go_wp2_with (first | (have _t := tok60; refine wpList_fbin .f64 _ _ rfl rfl rfl rfl ?_; intro o1 no1 ho1 wo1; clear tok60) | (have _t := tok61; refine wpList_fbin .f64 _ _ rfl rfl rfl rfl ?_; intro o2 no2 ho2 wo2; clear tok61) | (have _t := tok62; refine wpList_fbin .f64 _ _ rfl rfl rfl rfl ?_; intro o3 no3 ho3 wo3; clear tok62; have hb : cl .f64 (Op.negFloat .f64 o3) = angB false false true (angO T0) := (by rw [neg_cl, out_a HQ.out hu HZ.out ho1 ho2 ho3]; rfl); have hnn := NAR.out _ (hb.trans (by rw [hsx2, hsy]))) | (refine wpList_narrow (Op.negFloat .f64 o3) rfl Try.underlying25 Try.underlying22 rfl hnn ?_; intro g ng hg wg))
                        go_ret
                        exact ⟨_, FIN.out, retF _ (by rw [hg, hb, hsx2, hsy]) wg⟩
                      · have hsy2 : sy = false := by simpa using hsy
                        rw [hsy2] at hoy
                        have tok60 : True := trivial
                        have tok61 : True := trivial
                        have tok62 : True := trivial
                        go_wp2_with (first | (have _t := tok60; refine wpList_fbin .f64 _ _ rfl rfl rfl rfl ?_; intro o1 no1 ho1 wo1; clear tok60) | (have _t := tok61; refine wpList_fbin .f64 _ _ rfl rfl rfl rfl ?_; intro o2 no2 ho2 wo2; clear tok61) | (have _t := tok62; refine wpList_fbin .f64 _ _ rfl rfl rfl rfl ?_; intro o3 no3 ho3 wo3; clear tok62; have hb : cl .f64 o3 = angB false false false (angO T0) := (by rw [out_a HQ.out hu HZ.out ho1 ho2 ho3]; rfl); have hnn := NAR.out _ (hb.trans (by rw [hsx2, hsy2]))) | (refine wpList_narrow o3 rfl Try.underlying25 Try.underlying22 rfl hnn ?_; intro g ng hg wg))
                        go_ret
                        exact ⟨_, FIN.out, retF _ (by rw [hg, hb, hsx2, hsy2]) wg⟩
    · have HFY : Hid (fin .f32 (cl .f32 y) = false) := by show _ = _; rw [fin32]; exact decide_eq_false hfy
      have HT : Hid (angT y x none) := by
        refine ⟨u0, v0, hu0, hv0, ?_⟩
        unfold angW
        rw [if_pos (by omega)]; rfl
      clear hfx hfy hx hy hWX hWY hu0 hv0 hwu0 hwv0
      go_enter Try.func24, Try.ntmps24
      go_wp2_with fail
      refine (implIsFinite_c _ _).mono ?_; rintro e w' ⟨rfl, n, rfl⟩
      rw [HFX.out]
      go_wp2_with fail
      refine (implIsFinite_c _ _).mono ?_; rintro e w' ⟨rfl, n1, rfl⟩
      rw [HFY.out]
      go_wp2_with fail
      refine (nan32_c _).mono ?_; rintro e w' ⟨r, n2, rfl, hr, hwr, rfl⟩
      go_wp2
      go_ret
      exact ⟨_, HT.out, retF _ hr hwr⟩
  · have HFX : Hid (fin .f32 (cl .f32 x) = false) := by show _ = _; rw [fin32]; exact decide_eq_false hfx
    have HT : Hid (angT y x none) := by
      refine ⟨u0, v0, hu0, hv0, ?_⟩
      unfold angW
      rw [if_pos (by omega)]; rfl
    clear hfx hx hy hWX hWY hu0 hv0 hwu0 hwv0
    go_enter Try.func24, Try.ntmps24
    go_wp2_with fail
    refine (implIsFinite_c _ _).mono ?_; rintro e w' ⟨rfl, n, rfl⟩
    rw [HFX.out]
    go_wp2_with fail
    refine (nan32_c _).mono ?_; rintro e w' ⟨r, n2, rfl, hr, hwr, rfl⟩
    go_wp2
    go_ret
    exact ⟨_, HT.out, retF _ hr hwr⟩

theorem law_AngleTurns (y x : Nat) (w : World) (hwy : (Lit.float .f32 y).wf = true) (hwx : (Lit.float .f32 x).wf = true) : Calls Try.prog 7 #[.float .f32 y, .float .f32 x] w fun e w' => e = .returned (.bool true) ∧ Below w.heap.size w w' := by
  have hy : y < 4294967296 := by simpa [Lit.wf] using hwy
  have hx : x < 4294967296 := by simpa [Lit.wf] using hwx
  have S := Lib.hid (specAngT_c y x hy hx)
  have I := Lib.hid (implAngT_c y x hy hx)
  clear hx hy hwx hwy
  go_enter Try.func7, Try.ntmps7
  go_wp2_with fail
  refine (S.out _).mono ?_; rintro e w' ⟨c1, s1, a, n1, rfl, ha, hwa, rfl⟩
  go_wp2_with fail
  refine (I.out _).mono ?_; rintro e w' ⟨c2, s2, b, n2, rfl, hb, hwb, rfl⟩
  have tok1 : True := trivial
  have tok2 : True := trivial
  go_wp2_with (first | (have _t := tok1; refine wpList_widen _ rfl Try.underlying22 Try.underlying25 rfl ?_; intro u1 m1 g1 v1; clear tok1) | (have _t := tok2; refine wpList_widen _ rfl Try.underlying22 Try.underlying25 rfl ?_; intro u2 m2 g2 v2; clear tok2))
  refine (sameFloat_c _ _ _ (by rw [g1, g2, ha, hb, angT_one s1 s2])).mono ?_
  rintro e w' ⟨rfl, m, rfl⟩
  go_wp2_with fail
  go_ret
  exact lawOk _
end Go.Proofs.Ytemolaojjnpfnaa
