/-
  The walks of the reference's sine and of the law of sines. No condition.
-/
import Derived.Test.YtemolaojjnpfnaaWkS
namespace Go.Proofs.Ytemolaojjnpfnaa
set_option linter.unusedVariables false
open Go.RowKit Ieee

theorem sub_self_fin {b : Nat} (h : b % 9223372036854775808 < 9218868437227405312) : fbin .sub .f64 (cl .f64 b) (cl .f64 b) = some 0 := by
  rw [sub_self, cl_finite h, if_pos]
  exact decide_eq_true h

theorem sub_self_bad {b : Nat} (h : 9218868437227405312 ≤ b % 9223372036854775808) : fbin .sub .f64 (cl .f64 b) (cl .f64 b) = none := by
  rw [sub_self, if_neg]
  intro hf
  unfold fin at hf
  cases hc : cl .f64 b with
  | none => rw [hc] at hf; cases hf
  | some c =>
    rw [hc] at hf
    obtain ⟨e, _⟩ := of_cl_some hc
    rw [cl64] at hc
    split at hc
    · cases hc
    · cases hc
      have : b % 9223372036854775808 < 9218868437227405312 := of_decide_eq_true hf
      omega

theorem ne_of_zero {t : Nat} (h : cl .f64 t = some 0) : (FloatKind.f64.format.order t 0 != some .eq) = false := by
  rw [order_f64, h, cl_zero]; decide +kernel
theorem ne_of_none {t : Nat} (h : cl .f64 t = none) : (FloatKind.f64.format.order t 0 != some .eq) = true := by
  rw [order_f64, h]; rfl

theorem far_ge {b : Nat} (h : b % 9223372036854775808 < R 52) : (FloatKind.f64.format.order b 4841369599423283200 == some .gt || FloatKind.f64.format.order b 4841369599423283200 == some .eq) = false := by
  have hR : R 52 = 1075 * 4503599627370496 := rfl
  rw [order_f64, cl_finite (by omega), cl64_of (by decide), ford_sr .f64 b _ (cl_finite (by omega)) (cl64_of (by decide)), show sr .f64 4841369599423283200 = 4841369599423283200 from by decide +kernel, sr64, int_compare]
  split
  · rw [if_pos (by omega)]; rfl
  · rw [if_pos (by omega)]; rfl
theorem far_le {b : Nat} (h : b % 9223372036854775808 < R 52) : (FloatKind.f64.format.order b 14064741636278059008 == some .lt || FloatKind.f64.format.order b 14064741636278059008 == some .eq) = false := by
  have hR : R 52 = 1075 * 4503599627370496 := rfl
  rw [order_f64, cl_finite (by omega), cl64_of (by decide), ford_sr .f64 b _ (cl_finite (by omega)) (cl64_of (by decide)), show sr .f64 14064741636278059008 = -4841369599423283200 from by decide +kernel, sr64, int_compare]
  split
  · rw [if_neg (by omega), if_neg (by omega)]; rfl
  · rw [if_neg (by omega), if_neg (by omega)]; rfl
theorem far_le' {b : Nat} (h : R 52 ≤ b % 9223372036854775808) (hf : b % 9223372036854775808 < 9218868437227405312) (hg : (FloatKind.f64.format.order b 4841369599423283200 == some .gt || FloatKind.f64.format.order b 4841369599423283200 == some .eq) = false) :
    (FloatKind.f64.format.order b 14064741636278059008 == some .lt || FloatKind.f64.format.order b 14064741636278059008 == some .eq) = true := by
  have hR : R 52 = 1075 * 4503599627370496 := rfl
  rw [order_f64, cl_finite (by omega), cl64_of (by decide), ford_sr .f64 b _ (cl_finite (by omega)) (cl64_of (by decide)), show sr .f64 4841369599423283200 = 4841369599423283200 from by decide +kernel, sr64, int_compare] at hg
  rw [order_f64, cl_finite (by omega), cl64_of (by decide), ford_sr .f64 b _ (cl_finite (by omega)) (cl64_of (by decide)), show sr .f64 14064741636278059008 = -4841369599423283200 from by decide +kernel, sr64, int_compare]
  split
  · split
    · rfl
    · rw [if_pos (by omega)]; rfl
  · rename_i hs
    rw [if_neg hs] at hg
    rw [if_neg (by omega)] at hg
    split at hg <;> cases hg

/-- The reference's fraction ahead of its turn is the program's. -/
theorem spec_frac {b : Nat} (hb : b < 18446744073709551616) (h : b % 9223372036854775808 < R 52) :
    fracF b = if flt (fbin .sub .f64 (some b) (some (floatOfInt .f64 (wholeI b)))) (some 0) then fbin .add .f64 (fbin .sub .f64 (some b) (some (floatOfInt .f64 (wholeI b)))) (some c1) else fbin .sub .f64 (some b) (some (floatOfInt .f64 (wholeI b))) := by
  have hR : R 52 = 1075 * 4503599627370496 := rfl
  have e : fbin .sub .f64 (some b) (some (floatOfInt .f64 (wholeI b))) = if wholeI b = 0 then some b else fbin .sub .f64 (some b) (some (wholeB b)) := by
    by_cases h0 : wholeI b = 0
    · rw [if_pos h0, h0, show floatOfInt .f64 0 = 0 from by decide +kernel, sub_zero hb (by omega)]
    · rw [if_neg h0, (whole_int h).2.1 h0]
  unfold fracF
  dsimp only
  rw [← e]


set_option maxHeartbeats 4000000 in
theorem l01SineWide_c (b : Nat) (h : b % 9223372036854775808 < R 52) (hwf : (Lit.float .f64 b).wf = true) (w : World) : Calls Try.prog 75 #[.float .f64 b] w fun e w' => RetF .f64 w (sinF (fracF b)) e w' := by
  have hR : R 52 = 1075 * 4503599627370496 := rfl
  have hb : b < 18446744073709551616 := wf_sound hwf
  have hcb : cl .f64 b = some b := cl_finite (by omega)
  have hss := sub_self_fin (b := b) (by omega)
  have og := far_ge h
  have ol := far_le h
  have hsf := spec_frac hb h
  have hc : ∀ w, (convert 25 2 (.float .f64 b)).run Try.prog w = .ok (.int .i64 (wholeI b)) w := fun w => run_convert_float_int w _ _ .f64 .i64 b _ (by rw [Try.underlying25]; rfl) Try.underlying2 (whole_int h).1
  have hci : cl .f64 (floatOfInt .f64 (wholeI b)) = some (floatOfInt .f64 (wholeI b)) := cl_int _
  have HCB := Lib.hid hcb
  have HCI := Lib.hid hci
  have HSS := Lib.hid hss
  clear h hR hb hcb hss hwf hci
  have hneg := fun r w => neg_val (P := Try.prog) r w
  generalize fracF b = F at *
  cases hN : flt (fbin .sub .f64 (some b) (some (floatOfInt .f64 (wholeI b)))) (some 0) with
  | true =>
    have HN := Lib.hid hN
    have HF := Lib.hid (hsf.trans (if_pos hN))
    clear hN hsf
    cases hB : fge F (some 4602678819172646912) with
    | true =>
      have HB := Lib.hid hB
      clear hB
      cases hG : fgt (fbin .sub .f64 F (some 4602678819172646912)) (some 4598175219545276416) with
      | true =>
        have HG := Lib.hid hG
        clear hG
        go_enter Try.func75, Try.ntmps75
        have tok0 : True := trivial
        have tok1 : True := trivial
        have tok2 : True := trivial
        have tok3 : True := trivial
        have tok4 : True := trivial
        have tok5 : True := trivial
        have tok6 : True := trivial
        go_wp2_with (first | (simp only [hc]) | (have _t := tok0; refine wpList_fbin .f64 _ _ rfl rfl rfl rfl ?_; intro t0 n0 h0 w0; clear tok0; have hz0 := ne_of_zero (h0.trans HSS.out)) | (have _t := tok1; refine wpList_fbin .f64 _ _ rfl rfl rfl rfl ?_; intro t1 n1 h1 w1; clear tok1; have hz1 : (FloatKind.f64.format.order t1 0 == some .lt) = true := (by rw [order_f64, h1, HCB.out, HCI.out, cl_zero]; exact HN.out)) | (have _t := tok2; refine wpList_fbin .f64 _ _ rfl rfl rfl rfl ?_; intro t2 n2 h2 w2; clear tok2; have hf : cl .f64 t2 = F := (by rw [h2, h1, HCB.out, HCI.out, cl_one]; exact HF.out.symm); have hzb : (FloatKind.f64.format.order t2 4602678819172646912 == some .gt || FloatKind.f64.format.order t2 4602678819172646912 == some .eq) = true := (by rw [order_f64, hf, cl_half]; exact HB.out)) | (have _t := tok3; refine wpList_fbin .f64 _ _ rfl rfl rfl rfl ?_; intro t3 n3 h3 w3; clear tok3; have hzg : (FloatKind.f64.format.order t3 4598175219545276416 == some .gt) = true := (by rw [order_f64, h3, hf, cl_half, cl_quarter]; exact HG.out)) | (have _t := tok4; refine wpList_fbin .f64 _ _ rfl rfl rfl rfl ?_; intro t4 n4 h4 w4; clear tok4) | (have _t := tok5; refine wpList_fbin .f64 _ _ rfl rfl rfl rfl ?_; intro t5 n5 h5 w5; clear tok5) | (have _t := tok6; refine wpList_fbin .f64 _ _ rfl rfl rfl rfl ?_; intro t6 n6 h6 w6; clear tok6))
        go_loopw [7, 8] (fun p k wr => ∃ K d q : Nat, K ≤ 8 ∧ k = .int .i64 K ∧ p = .float .f64 q ∧ cl .f64 q = pF (cl .f64 t6) (8 - K) ∧ (Lit.float .f64 q).wf = true ∧ wr = w.drewN d) (fun _ k _ => (intOf k).toNat)
        case atStart => exact ⟨8, _, _, Nat.le_refl _, rfl, rfl, cl_one, by decide, rfl⟩
        case round =>
          obtain ⟨K, d, q, hK, rfl, rfl, hq, hwq, rfl⟩ := hrel
          have HQ := Lib.hid hq
          clear hq
          by_cases hK1 : 1 ≤ K
          · have hwr := wrap_steps K hK1 hK
            have tok97 : True := trivial
            have tok98 : True := trivial
            have tok99 : True := trivial
            go_wp2_with (first | (have _t := tok97; refine wpList_fbin .f64 _ _ rfl rfl rfl rfl ?_; intro a1 m1 g1 v1; clear tok97) | (have _t := tok98; refine wpList_fbin .f64 _ _ rfl rfl rfl rfl ?_; intro a2 m2 g2 v2; clear tok98) | (have _t := tok99; refine wpList_fbin .f64 _ _ rfl rfl rfl rfl ?_; intro a3 m3 g3 v3; clear tok99))
            go_roundw
            case rel => exact ⟨K - 1, _, a3, by omega, by go_num, rfl, p_step hK1 hK HQ.out g1 g2 g3, v3, rfl⟩
            case measure => simp [intOf]; omega
          · obtain rfl : K = 0 := by omega
            go_wp2_with (refine wpList_fbin .f64 _ _ rfl rfl rfl rfl ?_; intro o no ho wo)
            go_ret
            exact retF _ (by rw [neg_cl, ho, HQ.out, sin_true HB.out (show cl .f64 t5 = _ from by rw [h5, h4, red_tt HB.out h3 hzg hf]; congr 1) h6]) (neg_wf wo)
      | false =>
        have HG := Lib.hid hG
        clear hG
        go_enter Try.func75, Try.ntmps75
        have tok0 : True := trivial
        have tok1 : True := trivial
        have tok2 : True := trivial
        have tok3 : True := trivial
        have tok4 : True := trivial
        have tok5 : True := trivial
        go_wp2_with (first | (simp only [hc]) | (have _t := tok0; refine wpList_fbin .f64 _ _ rfl rfl rfl rfl ?_; intro t0 n0 h0 w0; clear tok0; have hz0 := ne_of_zero (h0.trans HSS.out)) | (have _t := tok1; refine wpList_fbin .f64 _ _ rfl rfl rfl rfl ?_; intro t1 n1 h1 w1; clear tok1; have hz1 : (FloatKind.f64.format.order t1 0 == some .lt) = true := (by rw [order_f64, h1, HCB.out, HCI.out, cl_zero]; exact HN.out)) | (have _t := tok2; refine wpList_fbin .f64 _ _ rfl rfl rfl rfl ?_; intro t2 n2 h2 w2; clear tok2; have hf : cl .f64 t2 = F := (by rw [h2, h1, HCB.out, HCI.out, cl_one]; exact HF.out.symm); have hzb : (FloatKind.f64.format.order t2 4602678819172646912 == some .gt || FloatKind.f64.format.order t2 4602678819172646912 == some .eq) = true := (by rw [order_f64, hf, cl_half]; exact HB.out)) | (have _t := tok3; refine wpList_fbin .f64 _ _ rfl rfl rfl rfl ?_; intro t3 n3 h3 w3; clear tok3; have hzg : (FloatKind.f64.format.order t3 4598175219545276416 == some .gt) = false := (by rw [order_f64, h3, hf, cl_half, cl_quarter]; exact HG.out)) | (have _t := tok4; refine wpList_fbin .f64 _ _ rfl rfl rfl rfl ?_; intro t4 n4 h4 w4; clear tok4) | (have _t := tok5; refine wpList_fbin .f64 _ _ rfl rfl rfl rfl ?_; intro t5 n5 h5 w5; clear tok5))
        go_loopw [7, 8] (fun p k wr => ∃ K d q : Nat, K ≤ 8 ∧ k = .int .i64 K ∧ p = .float .f64 q ∧ cl .f64 q = pF (cl .f64 t5) (8 - K) ∧ (Lit.float .f64 q).wf = true ∧ wr = w.drewN d) (fun _ k _ => (intOf k).toNat)
        case atStart => exact ⟨8, _, _, Nat.le_refl _, rfl, rfl, cl_one, by decide, rfl⟩
        case round =>
          obtain ⟨K, d, q, hK, rfl, rfl, hq, hwq, rfl⟩ := hrel
          have HQ := Lib.hid hq
          clear hq
          by_cases hK1 : 1 ≤ K
          · have hwr := wrap_steps K hK1 hK
            have tok97 : True := trivial
            have tok98 : True := trivial
            have tok99 : True := trivial
            go_wp2_with (first | (have _t := tok97; refine wpList_fbin .f64 _ _ rfl rfl rfl rfl ?_; intro a1 m1 g1 v1; clear tok97) | (have _t := tok98; refine wpList_fbin .f64 _ _ rfl rfl rfl rfl ?_; intro a2 m2 g2 v2; clear tok98) | (have _t := tok99; refine wpList_fbin .f64 _ _ rfl rfl rfl rfl ?_; intro a3 m3 g3 v3; clear tok99))
            go_roundw
            case rel => exact ⟨K - 1, _, a3, by omega, by go_num, rfl, p_step hK1 hK HQ.out g1 g2 g3, v3, rfl⟩
            case measure => simp [intOf]; omega
          · obtain rfl : K = 0 := by omega
            go_wp2_with (refine wpList_fbin .f64 _ _ rfl rfl rfl rfl ?_; intro o no ho wo)
            go_ret
            exact retF _ (by rw [neg_cl, ho, HQ.out, sin_true HB.out (show cl .f64 t4 = _ from by rw [h4, red_tf HB.out h3 hzg hf]; congr 1) h5]) (neg_wf wo)
    | false =>
      have HB := Lib.hid hB
      clear hB
      cases hG : fgt (F) (some 4598175219545276416) with
      | true =>
        have HG := Lib.hid hG
        clear hG
        go_enter Try.func75, Try.ntmps75
        have tok0 : True := trivial
        have tok1 : True := trivial
        have tok2 : True := trivial
        have tok3 : True := trivial
        have tok4 : True := trivial
        have tok5 : True := trivial
        go_wp2_with (first | (simp only [hc]) | (have _t := tok0; refine wpList_fbin .f64 _ _ rfl rfl rfl rfl ?_; intro t0 n0 h0 w0; clear tok0; have hz0 := ne_of_zero (h0.trans HSS.out)) | (have _t := tok1; refine wpList_fbin .f64 _ _ rfl rfl rfl rfl ?_; intro t1 n1 h1 w1; clear tok1; have hz1 : (FloatKind.f64.format.order t1 0 == some .lt) = true := (by rw [order_f64, h1, HCB.out, HCI.out, cl_zero]; exact HN.out)) | (have _t := tok2; refine wpList_fbin .f64 _ _ rfl rfl rfl rfl ?_; intro t2 n2 h2 w2; clear tok2; have hf : cl .f64 t2 = F := (by rw [h2, h1, HCB.out, HCI.out, cl_one]; exact HF.out.symm); have hzb : (FloatKind.f64.format.order t2 4602678819172646912 == some .gt || FloatKind.f64.format.order t2 4602678819172646912 == some .eq) = false := (by rw [order_f64, hf, cl_half]; exact HB.out); have hzg : (FloatKind.f64.format.order t2 4598175219545276416 == some .gt) = true := (by rw [order_f64, hf, cl_quarter]; exact HG.out)) | (have _t := tok3; refine wpList_fbin .f64 _ _ rfl rfl rfl rfl ?_; intro t3 n3 h3 w3; clear tok3) | (have _t := tok4; refine wpList_fbin .f64 _ _ rfl rfl rfl rfl ?_; intro t4 n4 h4 w4; clear tok4) | (have _t := tok5; refine wpList_fbin .f64 _ _ rfl rfl rfl rfl ?_; intro t5 n5 h5 w5; clear tok5))
        go_loopw [7, 8] (fun p k wr => ∃ K d q : Nat, K ≤ 8 ∧ k = .int .i64 K ∧ p = .float .f64 q ∧ cl .f64 q = pF (cl .f64 t5) (8 - K) ∧ (Lit.float .f64 q).wf = true ∧ wr = w.drewN d) (fun _ k _ => (intOf k).toNat)
        case atStart => exact ⟨8, _, _, Nat.le_refl _, rfl, rfl, cl_one, by decide, rfl⟩
        case round =>
          obtain ⟨K, d, q, hK, rfl, rfl, hq, hwq, rfl⟩ := hrel
          have HQ := Lib.hid hq
          clear hq
          by_cases hK1 : 1 ≤ K
          · have hwr := wrap_steps K hK1 hK
            have tok97 : True := trivial
            have tok98 : True := trivial
            have tok99 : True := trivial
            go_wp2_with (first | (have _t := tok97; refine wpList_fbin .f64 _ _ rfl rfl rfl rfl ?_; intro a1 m1 g1 v1; clear tok97) | (have _t := tok98; refine wpList_fbin .f64 _ _ rfl rfl rfl rfl ?_; intro a2 m2 g2 v2; clear tok98) | (have _t := tok99; refine wpList_fbin .f64 _ _ rfl rfl rfl rfl ?_; intro a3 m3 g3 v3; clear tok99))
            go_roundw
            case rel => exact ⟨K - 1, _, a3, by omega, by go_num, rfl, p_step hK1 hK HQ.out g1 g2 g3, v3, rfl⟩
            case measure => simp [intOf]; omega
          · obtain rfl : K = 0 := by omega
            go_wp2_with (refine wpList_fbin .f64 _ _ rfl rfl rfl rfl ?_; intro o no ho wo)
            go_ret
            exact retF _ (by rw [ho, HQ.out, sin_false HB.out (show cl .f64 t4 = _ from by rw [h4, h3, red_ft HB.out hzg hf]; congr 1) h5]) wo
      | false =>
        have HG := Lib.hid hG
        clear hG
        go_enter Try.func75, Try.ntmps75
        have tok0 : True := trivial
        have tok1 : True := trivial
        have tok2 : True := trivial
        have tok3 : True := trivial
        have tok4 : True := trivial
        go_wp2_with (first | (simp only [hc]) | (have _t := tok0; refine wpList_fbin .f64 _ _ rfl rfl rfl rfl ?_; intro t0 n0 h0 w0; clear tok0; have hz0 := ne_of_zero (h0.trans HSS.out)) | (have _t := tok1; refine wpList_fbin .f64 _ _ rfl rfl rfl rfl ?_; intro t1 n1 h1 w1; clear tok1; have hz1 : (FloatKind.f64.format.order t1 0 == some .lt) = true := (by rw [order_f64, h1, HCB.out, HCI.out, cl_zero]; exact HN.out)) | (have _t := tok2; refine wpList_fbin .f64 _ _ rfl rfl rfl rfl ?_; intro t2 n2 h2 w2; clear tok2; have hf : cl .f64 t2 = F := (by rw [h2, h1, HCB.out, HCI.out, cl_one]; exact HF.out.symm); have hzb : (FloatKind.f64.format.order t2 4602678819172646912 == some .gt || FloatKind.f64.format.order t2 4602678819172646912 == some .eq) = false := (by rw [order_f64, hf, cl_half]; exact HB.out); have hzg : (FloatKind.f64.format.order t2 4598175219545276416 == some .gt) = false := (by rw [order_f64, hf, cl_quarter]; exact HG.out)) | (have _t := tok3; refine wpList_fbin .f64 _ _ rfl rfl rfl rfl ?_; intro t3 n3 h3 w3; clear tok3) | (have _t := tok4; refine wpList_fbin .f64 _ _ rfl rfl rfl rfl ?_; intro t4 n4 h4 w4; clear tok4))
        go_loopw [7, 8] (fun p k wr => ∃ K d q : Nat, K ≤ 8 ∧ k = .int .i64 K ∧ p = .float .f64 q ∧ cl .f64 q = pF (cl .f64 t4) (8 - K) ∧ (Lit.float .f64 q).wf = true ∧ wr = w.drewN d) (fun _ k _ => (intOf k).toNat)
        case atStart => exact ⟨8, _, _, Nat.le_refl _, rfl, rfl, cl_one, by decide, rfl⟩
        case round =>
          obtain ⟨K, d, q, hK, rfl, rfl, hq, hwq, rfl⟩ := hrel
          have HQ := Lib.hid hq
          clear hq
          by_cases hK1 : 1 ≤ K
          · have hwr := wrap_steps K hK1 hK
            have tok97 : True := trivial
            have tok98 : True := trivial
            have tok99 : True := trivial
            go_wp2_with (first | (have _t := tok97; refine wpList_fbin .f64 _ _ rfl rfl rfl rfl ?_; intro a1 m1 g1 v1; clear tok97) | (have _t := tok98; refine wpList_fbin .f64 _ _ rfl rfl rfl rfl ?_; intro a2 m2 g2 v2; clear tok98) | (have _t := tok99; refine wpList_fbin .f64 _ _ rfl rfl rfl rfl ?_; intro a3 m3 g3 v3; clear tok99))
            go_roundw
            case rel => exact ⟨K - 1, _, a3, by omega, by go_num, rfl, p_step hK1 hK HQ.out g1 g2 g3, v3, rfl⟩
            case measure => simp [intOf]; omega
          · obtain rfl : K = 0 := by omega
            go_wp2_with (refine wpList_fbin .f64 _ _ rfl rfl rfl rfl ?_; intro o no ho wo)
            go_ret
            exact retF _ (by rw [ho, HQ.out, sin_false HB.out (show cl .f64 t3 = _ from by rw [h3, red_ff HB.out hzg hf]; congr 1) h4]) wo
  | false =>
    have HN := Lib.hid hN
    have HF := Lib.hid (hsf.trans (if_neg (by rw [hN]; simp)))
    clear hN hsf
    cases hB : fge F (some 4602678819172646912) with
    | true =>
      have HB := Lib.hid hB
      clear hB
      cases hG : fgt (fbin .sub .f64 F (some 4602678819172646912)) (some 4598175219545276416) with
      | true =>
        have HG := Lib.hid hG
        clear hG
        go_enter Try.func75, Try.ntmps75
        have tok0 : True := trivial
        have tok1 : True := trivial
        have tok2 : True := trivial
        have tok3 : True := trivial
        have tok4 : True := trivial
        have tok5 : True := trivial
        go_wp2_with (first | (simp only [hc]) | (have _t := tok0; refine wpList_fbin .f64 _ _ rfl rfl rfl rfl ?_; intro t0 n0 h0 w0; clear tok0; have hz0 := ne_of_zero (h0.trans HSS.out)) | (have _t := tok1; refine wpList_fbin .f64 _ _ rfl rfl rfl rfl ?_; intro t1 n1 h1 w1; clear tok1; have hz1 : (FloatKind.f64.format.order t1 0 == some .lt) = false := (by rw [order_f64, h1, HCB.out, HCI.out, cl_zero]; exact HN.out); have hf : cl .f64 t1 = F := (by rw [h1, HCB.out, HCI.out]; exact HF.out.symm); have hzb : (FloatKind.f64.format.order t1 4602678819172646912 == some .gt || FloatKind.f64.format.order t1 4602678819172646912 == some .eq) = true := (by rw [order_f64, hf, cl_half]; exact HB.out)) | (have _t := tok2; refine wpList_fbin .f64 _ _ rfl rfl rfl rfl ?_; intro t2 n2 h2 w2; clear tok2; have hzg : (FloatKind.f64.format.order t2 4598175219545276416 == some .gt) = true := (by rw [order_f64, h2, hf, cl_half, cl_quarter]; exact HG.out)) | (have _t := tok3; refine wpList_fbin .f64 _ _ rfl rfl rfl rfl ?_; intro t3 n3 h3 w3; clear tok3) | (have _t := tok4; refine wpList_fbin .f64 _ _ rfl rfl rfl rfl ?_; intro t4 n4 h4 w4; clear tok4) | (have _t := tok5; refine wpList_fbin .f64 _ _ rfl rfl rfl rfl ?_; intro t5 n5 h5 w5; clear tok5))
        go_loopw [7, 8] (fun p k wr => ∃ K d q : Nat, K ≤ 8 ∧ k = .int .i64 K ∧ p = .float .f64 q ∧ cl .f64 q = pF (cl .f64 t5) (8 - K) ∧ (Lit.float .f64 q).wf = true ∧ wr = w.drewN d) (fun _ k _ => (intOf k).toNat)
        case atStart => exact ⟨8, _, _, Nat.le_refl _, rfl, rfl, cl_one, by decide, rfl⟩
        case round =>
          obtain ⟨K, d, q, hK, rfl, rfl, hq, hwq, rfl⟩ := hrel
          have HQ := Lib.hid hq
          clear hq
          by_cases hK1 : 1 ≤ K
          · have hwr := wrap_steps K hK1 hK
            have tok97 : True := trivial
            have tok98 : True := trivial
            have tok99 : True := trivial
            go_wp2_with (first | (have _t := tok97; refine wpList_fbin .f64 _ _ rfl rfl rfl rfl ?_; intro a1 m1 g1 v1; clear tok97) | (have _t := tok98; refine wpList_fbin .f64 _ _ rfl rfl rfl rfl ?_; intro a2 m2 g2 v2; clear tok98) | (have _t := tok99; refine wpList_fbin .f64 _ _ rfl rfl rfl rfl ?_; intro a3 m3 g3 v3; clear tok99))
            go_roundw
            case rel => exact ⟨K - 1, _, a3, by omega, by go_num, rfl, p_step hK1 hK HQ.out g1 g2 g3, v3, rfl⟩
            case measure => simp [intOf]; omega
          · obtain rfl : K = 0 := by omega
            go_wp2_with (refine wpList_fbin .f64 _ _ rfl rfl rfl rfl ?_; intro o no ho wo)
            go_ret
            exact retF _ (by rw [neg_cl, ho, HQ.out, sin_true HB.out (show cl .f64 t4 = _ from by rw [h4, h3, red_tt HB.out h2 hzg hf]; congr 1) h5]) (neg_wf wo)
      | false =>
        have HG := Lib.hid hG
        clear hG
        go_enter Try.func75, Try.ntmps75
        have tok0 : True := trivial
        have tok1 : True := trivial
        have tok2 : True := trivial
        have tok3 : True := trivial
        have tok4 : True := trivial
        go_wp2_with (first | (simp only [hc]) | (have _t := tok0; refine wpList_fbin .f64 _ _ rfl rfl rfl rfl ?_; intro t0 n0 h0 w0; clear tok0; have hz0 := ne_of_zero (h0.trans HSS.out)) | (have _t := tok1; refine wpList_fbin .f64 _ _ rfl rfl rfl rfl ?_; intro t1 n1 h1 w1; clear tok1; have hz1 : (FloatKind.f64.format.order t1 0 == some .lt) = false := (by rw [order_f64, h1, HCB.out, HCI.out, cl_zero]; exact HN.out); have hf : cl .f64 t1 = F := (by rw [h1, HCB.out, HCI.out]; exact HF.out.symm); have hzb : (FloatKind.f64.format.order t1 4602678819172646912 == some .gt || FloatKind.f64.format.order t1 4602678819172646912 == some .eq) = true := (by rw [order_f64, hf, cl_half]; exact HB.out)) | (have _t := tok2; refine wpList_fbin .f64 _ _ rfl rfl rfl rfl ?_; intro t2 n2 h2 w2; clear tok2; have hzg : (FloatKind.f64.format.order t2 4598175219545276416 == some .gt) = false := (by rw [order_f64, h2, hf, cl_half, cl_quarter]; exact HG.out)) | (have _t := tok3; refine wpList_fbin .f64 _ _ rfl rfl rfl rfl ?_; intro t3 n3 h3 w3; clear tok3) | (have _t := tok4; refine wpList_fbin .f64 _ _ rfl rfl rfl rfl ?_; intro t4 n4 h4 w4; clear tok4))
        go_loopw [7, 8] (fun p k wr => ∃ K d q : Nat, K ≤ 8 ∧ k = .int .i64 K ∧ p = .float .f64 q ∧ cl .f64 q = pF (cl .f64 t4) (8 - K) ∧ (Lit.float .f64 q).wf = true ∧ wr = w.drewN d) (fun _ k _ => (intOf k).toNat)
        case atStart => exact ⟨8, _, _, Nat.le_refl _, rfl, rfl, cl_one, by decide, rfl⟩
        case round =>
          obtain ⟨K, d, q, hK, rfl, rfl, hq, hwq, rfl⟩ := hrel
          have HQ := Lib.hid hq
          clear hq
          by_cases hK1 : 1 ≤ K
          · have hwr := wrap_steps K hK1 hK
            have tok97 : True := trivial
            have tok98 : True := trivial
            have tok99 : True := trivial
            go_wp2_with (first | (have _t := tok97; refine wpList_fbin .f64 _ _ rfl rfl rfl rfl ?_; intro a1 m1 g1 v1; clear tok97) | (have _t := tok98; refine wpList_fbin .f64 _ _ rfl rfl rfl rfl ?_; intro a2 m2 g2 v2; clear tok98) | (have _t := tok99; refine wpList_fbin .f64 _ _ rfl rfl rfl rfl ?_; intro a3 m3 g3 v3; clear tok99))
            go_roundw
            case rel => exact ⟨K - 1, _, a3, by omega, by go_num, rfl, p_step hK1 hK HQ.out g1 g2 g3, v3, rfl⟩
            case measure => simp [intOf]; omega
          · obtain rfl : K = 0 := by omega
            go_wp2_with (refine wpList_fbin .f64 _ _ rfl rfl rfl rfl ?_; intro o no ho wo)
            go_ret
            exact retF _ (by rw [neg_cl, ho, HQ.out, sin_true HB.out (show cl .f64 t3 = _ from by rw [h3, red_tf HB.out h2 hzg hf]; congr 1) h4]) (neg_wf wo)
    | false =>
      have HB := Lib.hid hB
      clear hB
      cases hG : fgt (F) (some 4598175219545276416) with
      | true =>
        have HG := Lib.hid hG
        clear hG
        go_enter Try.func75, Try.ntmps75
        have tok0 : True := trivial
        have tok1 : True := trivial
        have tok2 : True := trivial
        have tok3 : True := trivial
        have tok4 : True := trivial
        go_wp2_with (first | (simp only [hc]) | (have _t := tok0; refine wpList_fbin .f64 _ _ rfl rfl rfl rfl ?_; intro t0 n0 h0 w0; clear tok0; have hz0 := ne_of_zero (h0.trans HSS.out)) | (have _t := tok1; refine wpList_fbin .f64 _ _ rfl rfl rfl rfl ?_; intro t1 n1 h1 w1; clear tok1; have hz1 : (FloatKind.f64.format.order t1 0 == some .lt) = false := (by rw [order_f64, h1, HCB.out, HCI.out, cl_zero]; exact HN.out); have hf : cl .f64 t1 = F := (by rw [h1, HCB.out, HCI.out]; exact HF.out.symm); have hzb : (FloatKind.f64.format.order t1 4602678819172646912 == some .gt || FloatKind.f64.format.order t1 4602678819172646912 == some .eq) = false := (by rw [order_f64, hf, cl_half]; exact HB.out); have hzg : (FloatKind.f64.format.order t1 4598175219545276416 == some .gt) = true := (by rw [order_f64, hf, cl_quarter]; exact HG.out)) | (have _t := tok2; refine wpList_fbin .f64 _ _ rfl rfl rfl rfl ?_; intro t2 n2 h2 w2; clear tok2) | (have _t := tok3; refine wpList_fbin .f64 _ _ rfl rfl rfl rfl ?_; intro t3 n3 h3 w3; clear tok3) | (have _t := tok4; refine wpList_fbin .f64 _ _ rfl rfl rfl rfl ?_; intro t4 n4 h4 w4; clear tok4))
        go_loopw [7, 8] (fun p k wr => ∃ K d q : Nat, K ≤ 8 ∧ k = .int .i64 K ∧ p = .float .f64 q ∧ cl .f64 q = pF (cl .f64 t4) (8 - K) ∧ (Lit.float .f64 q).wf = true ∧ wr = w.drewN d) (fun _ k _ => (intOf k).toNat)
        case atStart => exact ⟨8, _, _, Nat.le_refl _, rfl, rfl, cl_one, by decide, rfl⟩
        case round =>
          obtain ⟨K, d, q, hK, rfl, rfl, hq, hwq, rfl⟩ := hrel
          have HQ := Lib.hid hq
          clear hq
          by_cases hK1 : 1 ≤ K
          · have hwr := wrap_steps K hK1 hK
            have tok97 : True := trivial
            have tok98 : True := trivial
            have tok99 : True := trivial
            go_wp2_with (first | (have _t := tok97; refine wpList_fbin .f64 _ _ rfl rfl rfl rfl ?_; intro a1 m1 g1 v1; clear tok97) | (have _t := tok98; refine wpList_fbin .f64 _ _ rfl rfl rfl rfl ?_; intro a2 m2 g2 v2; clear tok98) | (have _t := tok99; refine wpList_fbin .f64 _ _ rfl rfl rfl rfl ?_; intro a3 m3 g3 v3; clear tok99))
            go_roundw
            case rel => exact ⟨K - 1, _, a3, by omega, by go_num, rfl, p_step hK1 hK HQ.out g1 g2 g3, v3, rfl⟩
            case measure => simp [intOf]; omega
          · obtain rfl : K = 0 := by omega
            go_wp2_with (refine wpList_fbin .f64 _ _ rfl rfl rfl rfl ?_; intro o no ho wo)
            go_ret
            exact retF _ (by rw [ho, HQ.out, sin_false HB.out (show cl .f64 t3 = _ from by rw [h3, h2, red_ft HB.out hzg hf]; congr 1) h4]) wo
      | false =>
        have HG := Lib.hid hG
        clear hG
        go_enter Try.func75, Try.ntmps75
        have tok0 : True := trivial
        have tok1 : True := trivial
        have tok2 : True := trivial
        have tok3 : True := trivial
        go_wp2_with (first | (simp only [hc]) | (have _t := tok0; refine wpList_fbin .f64 _ _ rfl rfl rfl rfl ?_; intro t0 n0 h0 w0; clear tok0; have hz0 := ne_of_zero (h0.trans HSS.out)) | (have _t := tok1; refine wpList_fbin .f64 _ _ rfl rfl rfl rfl ?_; intro t1 n1 h1 w1; clear tok1; have hz1 : (FloatKind.f64.format.order t1 0 == some .lt) = false := (by rw [order_f64, h1, HCB.out, HCI.out, cl_zero]; exact HN.out); have hf : cl .f64 t1 = F := (by rw [h1, HCB.out, HCI.out]; exact HF.out.symm); have hzb : (FloatKind.f64.format.order t1 4602678819172646912 == some .gt || FloatKind.f64.format.order t1 4602678819172646912 == some .eq) = false := (by rw [order_f64, hf, cl_half]; exact HB.out); have hzg : (FloatKind.f64.format.order t1 4598175219545276416 == some .gt) = false := (by rw [order_f64, hf, cl_quarter]; exact HG.out)) | (have _t := tok2; refine wpList_fbin .f64 _ _ rfl rfl rfl rfl ?_; intro t2 n2 h2 w2; clear tok2) | (have _t := tok3; refine wpList_fbin .f64 _ _ rfl rfl rfl rfl ?_; intro t3 n3 h3 w3; clear tok3))
        go_loopw [7, 8] (fun p k wr => ∃ K d q : Nat, K ≤ 8 ∧ k = .int .i64 K ∧ p = .float .f64 q ∧ cl .f64 q = pF (cl .f64 t3) (8 - K) ∧ (Lit.float .f64 q).wf = true ∧ wr = w.drewN d) (fun _ k _ => (intOf k).toNat)
        case atStart => exact ⟨8, _, _, Nat.le_refl _, rfl, rfl, cl_one, by decide, rfl⟩
        case round =>
          obtain ⟨K, d, q, hK, rfl, rfl, hq, hwq, rfl⟩ := hrel
          have HQ := Lib.hid hq
          clear hq
          by_cases hK1 : 1 ≤ K
          · have hwr := wrap_steps K hK1 hK
            have tok97 : True := trivial
            have tok98 : True := trivial
            have tok99 : True := trivial
            go_wp2_with (first | (have _t := tok97; refine wpList_fbin .f64 _ _ rfl rfl rfl rfl ?_; intro a1 m1 g1 v1; clear tok97) | (have _t := tok98; refine wpList_fbin .f64 _ _ rfl rfl rfl rfl ?_; intro a2 m2 g2 v2; clear tok98) | (have _t := tok99; refine wpList_fbin .f64 _ _ rfl rfl rfl rfl ?_; intro a3 m3 g3 v3; clear tok99))
            go_roundw
            case rel => exact ⟨K - 1, _, a3, by omega, by go_num, rfl, p_step hK1 hK HQ.out g1 g2 g3, v3, rfl⟩
            case measure => simp [intOf]; omega
          · obtain rfl : K = 0 := by omega
            go_wp2_with (refine wpList_fbin .f64 _ _ rfl rfl rfl rfl ?_; intro o no ho wo)
            go_ret
            exact retF _ (by rw [ho, HQ.out, sin_false HB.out (show cl .f64 t2 = _ from by rw [h2, red_ff HB.out hzg hf]; congr 1) h3]) wo
end Go.Proofs.Ytemolaojjnpfnaa
