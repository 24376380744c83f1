/-
  The walks of the points of the unit circle. No condition.
-/
import Derived.Test.YtemolaojjnpfnaaWkS3
import Derived.Test.YtemolaojjnpfnaaPha
namespace Go.Proofs.Ytemolaojjnpfnaa
set_option linter.unusedVariables false
open Go.RowKit Ieee

theorem run_cconv {P : Program} (w : World) {s k : FloatKind} (hne : s ≠ k) (a b : Nat) (ha : Narrows s k a) (hb : Narrows s k b) :
    ∃ r i n, (Conv.complexToComplex s a b k).run P w = .ok (.complex k r i) (w.drewN n) ∧ cl k r = fconv s k (cl s a) ∧ cl k i = fconv s k (cl s b) := by
  obtain ⟨r, n, h1, h2, _⟩ := run_fconv (P := P) w hne a ha
  obtain ⟨i, m, h3, h4, _⟩ := run_fconv (P := P) (w.drewN n) hne b hb
  refine ⟨r, i, n + m, ?_, h2, h4⟩
  unfold Conv.complexToComplex
  simp only [Sem.run_bind, h1, h3, Result.andThen_ok, Sem.run_pure, World.drewN_drewN]

theorem wpList_cwiden {P : Program} {ops : Array Oper} {rest : List Oper} {a : Act} {w : World} {Q : Exit → Act → World → Prop} {d : Option Tmp} {src dst rt : TypeId} {x : Operand} {pos : String} {aft : Array Edge} {g : Option (Nat × Bool)}
    (xa xb : Nat) (hx : a.eval x = .complex .f32 xa xb) (hs : P.underlying src = some (.complex .f32)) (hd : P.underlying dst = some (.complex .f64))
    (hg : Region.wanted ⟨d, .convert src dst x, rt, pos, aft, g⟩ (yielded ops a.tmps) = true)
    (h : ∀ r i n, cl .f64 r = fconv .f32 .f64 (cl .f32 xa) → cl .f64 i = fconv .f32 .f64 (cl .f32 xb) → wpList P ops Q rest (a.put d (.complex .f64 r i)) (w.drewN n)) :
    wpList P ops Q (⟨d, .convert src dst x, rt, pos, aft, g⟩ :: rest) a w := by
  obtain ⟨r, i, n, hr, hc, hi⟩ := run_cconv (P := P) w (s := .f32) (k := .f64) (by decide) xa xb (widen_ok xa) (widen_ok xb)
  refine wpList_val hg (v := .complex .f64 r i) (w' := w.drewN n) ?_ (h r i n hc hi)
  unfold execOp
  simp only [hx]
  simp only [convert, Sem.run_bind, run_underlying hs, run_underlying hd, Result.andThen_ok, hr, Sem.run_pure]

/-- It returns a complex number of these classes. -/
def RetC (w : World) (x y : Option Nat) (e : Ending) (w' : World) : Prop := ∃ r i n, e = .returned (.complex .f32 r i) ∧ cl .f32 r = x ∧ cl .f32 i = y ∧ w' = w.drewN n

theorem narrow_120 {b : Nat} {a : Option Nat} (h : cl .f64 b = a) (hm : Mag a 121) : Narrows .f64 .f32 b := narrow_mag h (mag_mono hm (by decide))

theorem sameComplex_c (a b c d : Nat) (w : World) (h1 : cl .f64 a = cl .f64 c) (h2 : cl .f64 b = cl .f64 d) : Calls Try.prog 22 #[.complex .f64 a b, .complex .f64 c d] w fun e w' => RetB w true e w' := by
  go_enter Try.func22, Try.ntmps22
  go_wp2_with fail
  refine (sameFloat_c _ _ _ h1).mono ?_; rintro e w' ⟨rfl, m, rfl⟩
  go_wp2_with fail
  refine (sameFloat_c _ _ _ h2).mono ?_; rintro e w' ⟨rfl, n, rfl⟩
  go_wp2
  go_ret
  exact retB _ rfl

theorem finite64_c (x : Nat) (w : World) : Calls Try.prog 50 #[.float .f64 x] w fun e w' => RetB w (decide (x % 9223372036854775808 < 9218868437227405312)) e w' := by
  go_enter Try.func50, Try.ntmps50
  go_wp2_with (refine wpList_fbin .f64 _ _ rfl rfl rfl rfl ?_; intro r n hr hw)
  go_ret
  refine retB _ ?_
  by_cases h : x % 9223372036854775808 < 9218868437227405312
  · rw [order_f64, hr, sub_self_fin h, cl_zero, decide_eq_true h]; decide +kernel
  · rw [order_f64, hr, sub_self_bad (Nat.le_of_not_lt h), decide_eq_false h]; rfl

theorem sine_facts {F : Option Nat} {j : Nat} (h : Lvl F j) {q : Nat} (hq : cl .f64 q = iterF F j) (hw : (Lit.float .f64 q).wf = true) :
    q % 9223372036854775808 < R 52 ∧ sinP F j = sinF (fracF q) ∧ Mag (sinP F j) 120 := by
  have hm := mag_mono (lvl_mag h) (show (0 : Int) ≤ 1 by decide)
  obtain ⟨h1, h2⟩ := mag_near hm hq (wf_sound hw)
  have h3 : sinP F j = sinF (fracF q) := h2
  exact ⟨h1, h3, by rw [h3]; exact mag_sin (frac_F2 h1)⟩
theorem cosine_facts {F : Option Nat} {j : Nat} (h : Lvl F j) {q t : Nat} (hq : cl .f64 q = iterF F j) (ht : cl .f64 t = fbin .sub .f64 (cl .f64 4598175219545276416) (cl .f64 q)) (hw : (Lit.float .f64 t).wf = true) :
    t % 9223372036854775808 < R 52 ∧ cosP F j = sinF (fracF t) ∧ Mag (cosP F j) 120 := by
  rw [hq, cl_quarter] at ht
  have hm : Mag (fbin .sub .f64 (some 4598175219545276416) (iterF F j)) 1 := mag_sub ⟨_, rfl, read_mag (by decide) (by decide) (by decide +kernel)⟩ (lvl_mag h) (by decide) (by decide)
  obtain ⟨h1, h2⟩ := mag_near hm ht (wf_sound hw)
  have h3 : cosP F j = sinF (fracF t) := h2
  exact ⟨h1, h3, by rw [h3]; exact mag_sin (frac_F2 h1)⟩

theorem neg_facts {x : Option Nat} {a t : Nat} (hm : Mag x 120) (ha : cl .f64 a = x) (ht : cl .f64 t = fbin .sub .f64 (cl .f64 0) (cl .f64 a)) : cl .f64 t = negV x ∧ Narrows .f64 .f32 t := by
  have e : cl .f64 t = negV x := by rw [ht, ha, cl_zero]; rfl
  exact ⟨e, narrow_120 e (mag_negV hm)⟩

theorem wrap_four {j : Nat} (h : j ≤ 3) : wrap64 ((j : Int) + 1) = ((j + 1 : Nat) : Int) := by unfold wrap64; omega

theorem all_below {F : Option Nat} {j : Nat} (h : ∀ i, i < j → fge (iterF F i) (some 4598175219545276416) = true) (hg : fge (iterF F j) (some 4598175219545276416) = true) : ∀ i, i < j + 1 → fge (iterF F i) (some 4598175219545276416) = true := by
  intro i hi
  rcases Nat.lt_or_eq_of_le (Nat.le_of_lt_succ hi) with h1 | rfl
  · exact h i h1
  · exact hg

set_option maxHeartbeats 4000000 in
theorem implPhasor_c (b : Nat) (hwf : (Lit.float .f64 b).wf = true) (w : World) : Calls Try.prog 21 #[.float .f64 b] w fun e w' => ∃ x y, phOut b x y ∧ RetC w x y e w' := by
  have hR : R 52 = 1075 * 4503599627370496 := rfl
  have hb : b < 18446744073709551616 := wf_sound hwf
  by_cases hfin : b % 9223372036854775808 < 9218868437227405312
  · have hd := decide_eq_true hfin
    by_cases hn : b % 9223372036854775808 < R 52
    · have hge : (FloatKind.f64.format.order (b % 9223372036854775808) 4841369599423283200 == some .gt || FloatKind.f64.format.order (b % 9223372036854775808) 4841369599423283200 == some .eq) = false := by
        rw [order_f64, cl64_of (by omega), cl64_of (by decide), ge_pos (by omega) (by decide)]; exact decide_eq_false (by omega)
      have hnear := Lib.hid hn
      have hlz := Lib.hid (lvl_zero hb hn)
      have FR := Lib.hid (fraction_c b hn hwf)
      have AB := Lib.hid (abs64_c b hwf)
      have HD := Lib.hid hd
      clear hn hfin hR hb hd
      go_enter Try.func21, Try.ntmps21
      go_wp2_with fail
      refine (finite64_c _ _).mono ?_; rintro e w' ⟨rfl, n, rfl⟩
      rw [HD.out]
      go_wp2_with fail
      refine (AB.out _).mono ?_; rintro e w' ⟨rfl, rfl⟩
      go_wp2_with fail
      refine (FR.out _).mono ?_; rintro e w' ⟨f, n2, rfl, hf, hwff, rfl⟩
      obtain ⟨F, HF⟩ : ∃ F, Hid (fracF b = F) := ⟨_, Lib.hid rfl⟩
      rw [HF.out] at hf hlz
      have Hf := Lib.hid hf
      clear hf hge
      go_wp2
      go_loopw [3, 4] (fun p k wr => ∃ j d q : Nat, k = .int .i64 (j : Nat) ∧ p = .float .f64 q ∧ cl .f64 q = iterF F j ∧ (Lit.float .f64 q).wf = true ∧ Hid (Lvl F j) ∧ Hid (∀ i, i < j → fge (iterF F i) (some 4598175219545276416) = true) ∧ wr = w.drewN d) (fun _ k _ => 4 - (intOf k).toNat)
      case atStart => exact ⟨0, _, f, rfl, rfl, Hf.out, hwff, hlz, Lib.hid (fun i hi => absurd hi (Nat.not_lt_zero i)), rfl⟩
      case round =>
        obtain ⟨j, d, q, rfl, rfl, hq, hwq, HL, HA, rfl⟩ := hrel
        have HQ := Lib.hid hq
        clear hq
        cases hg : fge (iterF F j) (some 4598175219545276416) with
        | true =>
          obtain ⟨hj, hL1⟩ := lvl_step HL.out hg
          have HL1 := Lib.hid hL1
          have HA1 := Lib.hid (all_below HA.out hg)
          have ho : (FloatKind.f64.format.order q 4598175219545276416 == some .gt || FloatKind.f64.format.order q 4598175219545276416 == some .eq) = true := by rw [order_f64, HQ.out, cl_quarter]; exact hg
          have hwr := wrap_four hj
          clear hg hL1
          go_wp2_with (refine wpList_fbin .f64 _ _ rfl rfl rfl rfl ?_; intro a1 m1 g1 v1)
          go_roundw
          case rel => exact ⟨j + 1, _, a1, rfl, rfl, by rw [g1, HQ.out, cl_quarter]; rfl, v1, HL1, HA1, rfl⟩
          case measure => simp [intOf]; omega
        | false =>
          have HS := Lib.hid (show Stops F j from ⟨HA.out, hg⟩)
          have ho : (FloatKind.f64.format.order q 4598175219545276416 == some .gt || FloatKind.f64.format.order q 4598175219545276416 == some .eq) = false := by rw [order_f64, HQ.out, cl_quarter]; exact hg
          obtain ⟨hs1, hs2, hs3⟩ := sine_facts HL.out HQ.out hwq
          have HS2 := Lib.hid hs2
          have HS3 := Lib.hid hs3
          have SI := Lib.hid (sine_c q hs1 hwq)
          clear hg hs1 hs2 hs3
          have hj4 := HL.out.1
          go_wp2_with (refine wpList_fbin .f64 _ _ rfl rfl rfl rfl ?_; intro t m1 g1 v1)
          obtain ⟨hc1, hc2, hc3⟩ := cosine_facts HL.out HQ.out g1 v1
          refine (sine_c t hc1 v1 _).mono ?_; rintro e w2 ⟨co, n2, rfl, hco, hwco, rfl⟩
          go_wp2_with fail
          refine (SI.out _).mono ?_; rintro e w2 ⟨si, n3, rfl, hsi, hwsi, rfl⟩
          have HC := Lib.hid (hco.trans hc2.symm)
          have HI := Lib.hid (hsi.trans HS2.out.symm)
          have HC3 := Lib.hid hc3
          have NC := narrow_120 HC.out (mag_mono HC3.out (by decide))
          have NS := narrow_120 HI.out (mag_mono HS3.out (by decide))
          clear hco hsi hc1 hc2 hc3 ho g1
          have FIN : ∀ (r i n : Nat), cl .f32 r = phRe F j → cl .f32 i = phIm F j → ∃ x y, phOut b x y ∧ RetC w x y (.returned (.complex .f32 r i)) (w.drewN n) := fun r i n h1 h2 => ⟨_, _, .inl ⟨hnear.out, j, by rw [HF.out]; exact HS.out, by rw [HF.out], by rw [HF.out]⟩, r, i, n, rfl, h1, h2, rfl⟩
          have FIN := Lib.hid FIN
          obtain rfl | rfl | rfl | hj0 : j = 1 ∨ j = 2 ∨ j = 3 ∨ (j ≠ 1 ∧ j ≠ 2 ∧ j ≠ 3) := by omega
          · have tok0 : True := trivial
            have tok1 : True := trivial
            have tok2 : True := trivial
            have tok3 : True := trivial
            go_wp2_with (first | (have _t := tok0; refine wpList_fbin .f64 _ _ rfl rfl rfl rfl ?_; intro t0 m0 g0 v0; have nf0 := neg_facts HS3.out HI.out g0; have na0 := nf0.2; clear tok0) | (have _t := tok1; refine wpList_narrow t0 rfl Try.underlying25 Try.underlying22 rfl na0 ?_; intro x0 k0 p0 u0; clear tok1) | (have _t := tok3; refine wpList_narrow co rfl Try.underlying25 Try.underlying22 rfl NC ?_; intro x1 k1 p1 u1; clear tok3))
            go_ret
            exact FIN.out _ _ _ (by rw [p0, nf0.1]; rfl) (by rw [p1, HC.out]; rfl)
          · have tok0 : True := trivial
            have tok1 : True := trivial
            have tok2 : True := trivial
            have tok3 : True := trivial
            go_wp2_with (first | (have _t := tok0; refine wpList_fbin .f64 _ _ rfl rfl rfl rfl ?_; intro t0 m0 g0 v0; have nf0 := neg_facts HC3.out HC.out g0; have na0 := nf0.2; clear tok0) | (have _t := tok1; refine wpList_narrow t0 rfl Try.underlying25 Try.underlying22 rfl na0 ?_; intro x0 k0 p0 u0; clear tok1) | (have _t := tok2; refine wpList_fbin .f64 _ _ rfl rfl rfl rfl ?_; intro t1 m1 g1 v1; have nf1 := neg_facts HS3.out HI.out g1; have na1 := nf1.2; clear tok2) | (have _t := tok3; refine wpList_narrow t1 rfl Try.underlying25 Try.underlying22 rfl na1 ?_; intro x1 k1 p1 u1; clear tok3))
            go_ret
            exact FIN.out _ _ _ (by rw [p0, nf0.1]; rfl) (by rw [p1, nf1.1]; rfl)
          · have tok0 : True := trivial
            have tok1 : True := trivial
            have tok2 : True := trivial
            have tok3 : True := trivial
            go_wp2_with (first | (have _t := tok1; refine wpList_narrow si rfl Try.underlying25 Try.underlying22 rfl NS ?_; intro x0 k0 p0 u0; clear tok1) | (have _t := tok2; refine wpList_fbin .f64 _ _ rfl rfl rfl rfl ?_; intro t1 m1 g1 v1; have nf1 := neg_facts HC3.out HC.out g1; have na1 := nf1.2; clear tok2) | (have _t := tok3; refine wpList_narrow t1 rfl Try.underlying25 Try.underlying22 rfl na1 ?_; intro x1 k1 p1 u1; clear tok3))
            go_ret
            exact FIN.out _ _ _ (by rw [p0, HI.out]; rfl) (by rw [p1, nf1.1]; rfl)
          · have e1 : ((j : Int) == 1) = false := by rw [beq_eq_false_iff_ne]; omega
            have e2 : ((j : Int) == 2) = false := by rw [beq_eq_false_iff_ne]; omega
            have e3 : ((j : Int) == 3) = false := by rw [beq_eq_false_iff_ne]; omega
            have tok0 : True := trivial
            have tok1 : True := trivial
            have tok2 : True := trivial
            have tok3 : True := trivial
            go_wp2_with (first | (have _t := tok1; refine wpList_narrow co rfl Try.underlying25 Try.underlying22 rfl NC ?_; intro x0 k0 p0 u0; clear tok1) | (have _t := tok3; refine wpList_narrow si rfl Try.underlying25 Try.underlying22 rfl NS ?_; intro x1 k1 p1 u1; clear tok3))
            go_ret
            exact FIN.out _ _ _ (by rw [p0, HC.out]; unfold phRe; rw [if_neg hj0.1, if_neg hj0.2.1, if_neg hj0.2.2]) (by rw [p1, HI.out]; unfold phIm; rw [if_neg hj0.1, if_neg hj0.2.1, if_neg hj0.2.2])
    · have hge : (FloatKind.f64.format.order (b % 9223372036854775808) 4841369599423283200 == some .gt || FloatKind.f64.format.order (b % 9223372036854775808) 4841369599423283200 == some .eq) = true := by
        rw [order_f64, cl64_of (by omega), cl64_of (by decide), ge_pos (by omega) (by decide)]; exact decide_eq_true (by omega)
      have HP := Lib.hid (show phOut b (some 1065353216) (some 0) from .inr (.inl ⟨Nat.le_of_not_lt hn, hfin, rfl, rfl⟩))
      have AB := Lib.hid (abs64_c b hwf)
      have HD := Lib.hid hd
      clear hn hfin hR hb hd
      go_enter Try.func21, Try.ntmps21
      go_wp2_with fail
      refine (finite64_c _ _).mono ?_; rintro e w' ⟨rfl, n, rfl⟩
      rw [HD.out]
      go_wp2_with fail
      refine (AB.out _).mono ?_; rintro e w' ⟨rfl, rfl⟩
      go_wp2
      go_ret
      exact ⟨_, _, HP.out, _, _, _, rfl, by decide +kernel, by decide +kernel, rfl⟩
  · have HP := Lib.hid (show phOut b none none from .inr (.inr ⟨Nat.le_of_not_lt hfin, rfl, rfl⟩))
    have HD := Lib.hid (decide_eq_false hfin)
    clear hfin hR hb
    go_enter Try.func21, Try.ntmps21
    go_wp2_with fail
    refine (finite64_c _ _).mono ?_; rintro e w' ⟨rfl, n, rfl⟩
    rw [HD.out]
    go_wp2_with fail
    refine (nan32_c _).mono ?_; rintro e w' ⟨r1, n1, rfl, h1, hw1, rfl⟩
    go_wp2_with fail
    refine (nan32_c _).mono ?_; rintro e w' ⟨r2, n2, rfl, h2, hw2, rfl⟩
    go_wp2
    go_ret
    exact ⟨_, _, HP.out, _, _, _, rfl, h1, h2, rfl⟩

theorem l01From_c (n : Nat) (h : n < 4294967296) (w : World) : Calls Try.prog 78 #[.int .i64 n] w fun e w' => e = .returned (.float .f32 n) ∧ w = w' := by
  have e1 : IntKind.u32.wrap (n : Int) = n := by rw [IntKind.wrap_u32]; omega
  go_enter Try.func78, Try.ntmps78
  go_wp2
  go_ret
  exact ⟨rfl, rfl⟩

set_option maxHeartbeats 4000000 in
theorem specPhasor_c (b : Nat) (hwf : (Lit.float .f64 b).wf = true) (w : World) : Calls Try.prog 20 #[.float .f64 b] w fun e w' => ∃ x y, phOut b x y ∧ RetC w x y e w' := by
  have hR : R 52 = 1075 * 4503599627370496 := rfl
  have hb : b < 18446744073709551616 := wf_sound hwf
  by_cases hfin : b % 9223372036854775808 < 9218868437227405312
  · have HSS := Lib.hid (sub_self_fin hfin)
    by_cases hn : b % 9223372036854775808 < R 52
    · have og := far_ge hn
      have ol := far_le hn
      have hnear := Lib.hid hn
      have hlz := Lib.hid (lvl_zero hb hn)
      have hsf := spec_frac hb hn
      have hc : ∀ w, (convert 25 2 (.float .f64 b)).run Try.prog w = .ok (.int .i64 (wholeI b)) w := fun w => run_convert_float_int w _ _ .f64 .i64 b _ (by rw [Try.underlying25]; rfl) Try.underlying2 (whole_int hn).1
      have HCB := Lib.hid (cl_finite hfin)
      have HCI := Lib.hid (cl_int (wholeI b))
      clear hn hfin hR hb
      obtain ⟨F, HF⟩ : ∃ F, Hid (fracF b = F) := ⟨_, Lib.hid rfl⟩
      rw [HF.out] at hsf hlz
      cases hN : flt (fbin .sub .f64 (some b) (some (floatOfInt .f64 (wholeI b)))) (some 0) with
      | true =>
        have HN := Lib.hid hN
        have HG := Lib.hid (hsf.trans (if_pos hN))
        clear hN hsf
        go_enter Try.func20, Try.ntmps20
        have tok0 : True := trivial
        have tok1 : True := trivial
        have tok2 : True := trivial
        go_wp2_with (first | (go_at_call 49; go_in) | (simp only [hc]) | (have _t := tok0; refine wpList_fbin .f64 _ _ rfl rfl rfl rfl ?_; intro t0 n0 h0 w0; clear tok0; have hz0 := ne_of_zero (h0.trans HSS.out)) | (have _t := tok1; refine wpList_fbin .f64 _ _ rfl rfl rfl rfl ?_; intro t1 n1 h1 w1; clear tok1; have hz1 : (FloatKind.f64.format.order t1 0 == some .lt) = true := (by rw [order_f64, h1, HCB.out, HCI.out, cl_zero]; exact HN.out)) | (have _t := tok2; refine wpList_fbin .f64 _ _ rfl rfl rfl rfl ?_; intro t2 n2 h2 w2; clear tok2))
        have Hf : Hid (cl .f64 t2 = F) := by rw [h2, h1, HCB.out, HCI.out, cl_one]; exact HG.out.symm
        clear hz0 hz1 og ol hc
        go_loopw [3, 4] (fun p k wr => ∃ j d q : Nat, k = .int .i64 (j : Nat) ∧ p = .float .f64 q ∧ cl .f64 q = iterF F j ∧ (Lit.float .f64 q).wf = true ∧ Hid (Lvl F j) ∧ Hid (∀ i, i < j → fge (iterF F i) (some 4598175219545276416) = true) ∧ wr = w.drewN d) (fun _ k _ => 4 - (intOf k).toNat)
        case atStart => exact ⟨0, _, t2, rfl, rfl, Hf.out, w2, hlz, Lib.hid (fun i hi => absurd hi (Nat.not_lt_zero i)), rfl⟩
        case round =>
          obtain ⟨j, d, q, rfl, rfl, hq, hwq, HL, HA, rfl⟩ := hrel
          have HQ := Lib.hid hq
          clear hq
          cases hg : fge (iterF F j) (some 4598175219545276416) with
          | true =>
            obtain ⟨hj, hL1⟩ := lvl_step HL.out hg
            have HL1 := Lib.hid hL1
            have HA1 := Lib.hid (all_below HA.out hg)
            have ho : (FloatKind.f64.format.order q 4598175219545276416 == some .gt || FloatKind.f64.format.order q 4598175219545276416 == some .eq) = true := by rw [order_f64, HQ.out, cl_quarter]; exact hg
            have hwr := wrap_four hj
            clear hg hL1
            go_wp2_with (refine wpList_fbin .f64 _ _ rfl rfl rfl rfl ?_; intro a1 m1 g1 v1)
            go_roundw
            case rel => exact ⟨j + 1, _, a1, rfl, rfl, by rw [g1, HQ.out, cl_quarter]; rfl, v1, HL1, HA1, rfl⟩
            case measure => simp [intOf]; omega
          | false =>
            have HS := Lib.hid (show Stops F j from ⟨HA.out, hg⟩)
            have ho : (FloatKind.f64.format.order q 4598175219545276416 == some .gt || FloatKind.f64.format.order q 4598175219545276416 == some .eq) = false := by rw [order_f64, HQ.out, cl_quarter]; exact hg
            obtain ⟨hs1, hs2, hs3⟩ := sine_facts HL.out HQ.out hwq
            have HS2 := Lib.hid hs2
            have HS3 := Lib.hid hs3
            have SI := Lib.hid (l01SineWide_c q hs1 hwq)
            clear hg hs1 hs2 hs3
            have hj4 := HL.out.1
            go_wp2_with (refine wpList_fbin .f64 _ _ rfl rfl rfl rfl ?_; intro t m1 g1 v1)
            obtain ⟨hc1, hc2, hc3⟩ := cosine_facts HL.out HQ.out g1 v1
            refine (l01SineWide_c t hc1 v1 _).mono ?_; rintro e w2 ⟨co, n2, rfl, hco, hwco, rfl⟩
            go_wp2_with fail
            refine (SI.out _).mono ?_; rintro e w2 ⟨si, n3, rfl, hsi, hwsi, rfl⟩
            have HC := Lib.hid (hco.trans hc2.symm)
            have HI := Lib.hid (hsi.trans HS2.out.symm)
            have HC3 := Lib.hid hc3
            have NC := narrow_120 HC.out (mag_mono HC3.out (by decide))
            have NS := narrow_120 HI.out (mag_mono HS3.out (by decide))
            clear hco hsi hc1 hc2 hc3 ho g1
            have FIN : ∀ (r i n : Nat), cl .f32 r = phRe F j → cl .f32 i = phIm F j → ∃ x y, phOut b x y ∧ RetC w x y (.returned (.complex .f32 r i)) (w.drewN n) := fun r i n h1 h2 => ⟨_, _, .inl ⟨hnear.out, j, by rw [HF.out]; exact HS.out, by rw [HF.out], by rw [HF.out]⟩, r, i, n, rfl, h1, h2, rfl⟩
            have FIN := Lib.hid FIN
            obtain rfl | rfl | rfl | hj0 : j = 1 ∨ j = 2 ∨ j = 3 ∨ (j ≠ 1 ∧ j ≠ 2 ∧ j ≠ 3) := by omega
            · go_wp2_with (refine wpList_fbin .f64 _ _ rfl rfl rfl rfl ?_; intro t0 m0 g0 v0)
              have nf0 := neg_facts HS3.out HI.out g0
              refine (l01Narrow_c _ nf0.2 _).mono ?_; rintro e w2 ⟨x0, k0, rfl, p0, u0, rfl⟩
              go_wp2_with fail
              refine (l01Narrow_c _ NC _).mono ?_; rintro e w2 ⟨x1, k1, rfl, p1, u1, rfl⟩
              go_wp2
              go_ret
              exact FIN.out _ _ _ (by rw [p0, nf0.1]; rfl) (by rw [p1, HC.out]; rfl)
            · go_wp2_with (refine wpList_fbin .f64 _ _ rfl rfl rfl rfl ?_; intro t0 m0 g0 v0)
              have nf0 := neg_facts HC3.out HC.out g0
              refine (l01Narrow_c _ nf0.2 _).mono ?_; rintro e w2 ⟨x0, k0, rfl, p0, u0, rfl⟩
              go_wp2_with (refine wpList_fbin .f64 _ _ rfl rfl rfl rfl ?_; intro t1 m1 g1 v1)
              have nf1 := neg_facts HS3.out HI.out g1
              refine (l01Narrow_c _ nf1.2 _).mono ?_; rintro e w2 ⟨x1, k1, rfl, p1, u1, rfl⟩
              go_wp2
              go_ret
              exact FIN.out _ _ _ (by rw [p0, nf0.1]; rfl) (by rw [p1, nf1.1]; rfl)
            · go_wp2_with fail
              refine (l01Narrow_c _ NS _).mono ?_; rintro e w2 ⟨x0, k0, rfl, p0, u0, rfl⟩
              go_wp2_with (refine wpList_fbin .f64 _ _ rfl rfl rfl rfl ?_; intro t1 m1 g1 v1)
              have nf1 := neg_facts HC3.out HC.out g1
              refine (l01Narrow_c _ nf1.2 _).mono ?_; rintro e w2 ⟨x1, k1, rfl, p1, u1, rfl⟩
              go_wp2
              go_ret
              exact FIN.out _ _ _ (by rw [p0, HI.out]; rfl) (by rw [p1, nf1.1]; rfl)
            · have e1 : ((j : Int) == 1) = false := by rw [beq_eq_false_iff_ne]; omega
              have e2 : ((j : Int) == 2) = false := by rw [beq_eq_false_iff_ne]; omega
              have e3 : ((j : Int) == 3) = false := by rw [beq_eq_false_iff_ne]; omega
              go_wp2_with fail
              refine (l01Narrow_c _ NC _).mono ?_; rintro e w2 ⟨x0, k0, rfl, p0, u0, rfl⟩
              go_wp2_with fail
              refine (l01Narrow_c _ NS _).mono ?_; rintro e w2 ⟨x1, k1, rfl, p1, u1, rfl⟩
              go_wp2
              go_ret
              exact FIN.out _ _ _ (by rw [p0, HC.out]; unfold phRe; rw [if_neg hj0.1, if_neg hj0.2.1, if_neg hj0.2.2]) (by rw [p1, HI.out]; unfold phIm; rw [if_neg hj0.1, if_neg hj0.2.1, if_neg hj0.2.2])
      | false =>
        have HN := Lib.hid hN
        have HG := Lib.hid (hsf.trans (if_neg (by rw [hN]; simp)))
        clear hN hsf
        go_enter Try.func20, Try.ntmps20
        have tok0 : True := trivial
        have tok1 : True := trivial
        go_wp2_with (first | (go_at_call 49; go_in) | (simp only [hc]) | (have _t := tok0; refine wpList_fbin .f64 _ _ rfl rfl rfl rfl ?_; intro t0 n0 h0 w0; clear tok0; have hz0 := ne_of_zero (h0.trans HSS.out)) | (have _t := tok1; refine wpList_fbin .f64 _ _ rfl rfl rfl rfl ?_; intro t1 n1 h1 w1; clear tok1; have hz1 : (FloatKind.f64.format.order t1 0 == some .lt) = false := (by rw [order_f64, h1, HCB.out, HCI.out, cl_zero]; exact HN.out)))
        have Hf : Hid (cl .f64 t1 = F) := by rw [h1, HCB.out, HCI.out]; exact HG.out.symm
        clear hz0 hz1 og ol hc
        go_loopw [3, 4] (fun p k wr => ∃ j d q : Nat, k = .int .i64 (j : Nat) ∧ p = .float .f64 q ∧ cl .f64 q = iterF F j ∧ (Lit.float .f64 q).wf = true ∧ Hid (Lvl F j) ∧ Hid (∀ i, i < j → fge (iterF F i) (some 4598175219545276416) = true) ∧ wr = w.drewN d) (fun _ k _ => 4 - (intOf k).toNat)
        case atStart => exact ⟨0, _, t1, rfl, rfl, Hf.out, w1, hlz, Lib.hid (fun i hi => absurd hi (Nat.not_lt_zero i)), rfl⟩
        case round =>
          obtain ⟨j, d, q, rfl, rfl, hq, hwq, HL, HA, rfl⟩ := hrel
          have HQ := Lib.hid hq
          clear hq
          cases hg : fge (iterF F j) (some 4598175219545276416) with
          | true =>
            obtain ⟨hj, hL1⟩ := lvl_step HL.out hg
            have HL1 := Lib.hid hL1
            have HA1 := Lib.hid (all_below HA.out hg)
            have ho : (FloatKind.f64.format.order q 4598175219545276416 == some .gt || FloatKind.f64.format.order q 4598175219545276416 == some .eq) = true := by rw [order_f64, HQ.out, cl_quarter]; exact hg
            have hwr := wrap_four hj
            clear hg hL1
            go_wp2_with (refine wpList_fbin .f64 _ _ rfl rfl rfl rfl ?_; intro a1 m1 g1 v1)
            go_roundw
            case rel => exact ⟨j + 1, _, a1, rfl, rfl, by rw [g1, HQ.out, cl_quarter]; rfl, v1, HL1, HA1, rfl⟩
            case measure => simp [intOf]; omega
          | false =>
            have HS := Lib.hid (show Stops F j from ⟨HA.out, hg⟩)
            have ho : (FloatKind.f64.format.order q 4598175219545276416 == some .gt || FloatKind.f64.format.order q 4598175219545276416 == some .eq) = false := by rw [order_f64, HQ.out, cl_quarter]; exact hg
            obtain ⟨hs1, hs2, hs3⟩ := sine_facts HL.out HQ.out hwq
            have HS2 := Lib.hid hs2
            have HS3 := Lib.hid hs3
            have SI := Lib.hid (l01SineWide_c q hs1 hwq)
            clear hg hs1 hs2 hs3
            have hj4 := HL.out.1
            go_wp2_with (refine wpList_fbin .f64 _ _ rfl rfl rfl rfl ?_; intro t m1 g1 v1)
            obtain ⟨hc1, hc2, hc3⟩ := cosine_facts HL.out HQ.out g1 v1
            refine (l01SineWide_c t hc1 v1 _).mono ?_; rintro e w2 ⟨co, n2, rfl, hco, hwco, rfl⟩
            go_wp2_with fail
            refine (SI.out _).mono ?_; rintro e w2 ⟨si, n3, rfl, hsi, hwsi, rfl⟩
            have HC := Lib.hid (hco.trans hc2.symm)
            have HI := Lib.hid (hsi.trans HS2.out.symm)
            have HC3 := Lib.hid hc3
            have NC := narrow_120 HC.out (mag_mono HC3.out (by decide))
            have NS := narrow_120 HI.out (mag_mono HS3.out (by decide))
            clear hco hsi hc1 hc2 hc3 ho g1
            have FIN : ∀ (r i n : Nat), cl .f32 r = phRe F j → cl .f32 i = phIm F j → ∃ x y, phOut b x y ∧ RetC w x y (.returned (.complex .f32 r i)) (w.drewN n) := fun r i n h1 h2 => ⟨_, _, .inl ⟨hnear.out, j, by rw [HF.out]; exact HS.out, by rw [HF.out], by rw [HF.out]⟩, r, i, n, rfl, h1, h2, rfl⟩
            have FIN := Lib.hid FIN
            obtain rfl | rfl | rfl | hj0 : j = 1 ∨ j = 2 ∨ j = 3 ∨ (j ≠ 1 ∧ j ≠ 2 ∧ j ≠ 3) := by omega
            · go_wp2_with (refine wpList_fbin .f64 _ _ rfl rfl rfl rfl ?_; intro t0 m0 g0 v0)
              have nf0 := neg_facts HS3.out HI.out g0
              refine (l01Narrow_c _ nf0.2 _).mono ?_; rintro e w2 ⟨x0, k0, rfl, p0, u0, rfl⟩
              go_wp2_with fail
              refine (l01Narrow_c _ NC _).mono ?_; rintro e w2 ⟨x1, k1, rfl, p1, u1, rfl⟩
              go_wp2
              go_ret
              exact FIN.out _ _ _ (by rw [p0, nf0.1]; rfl) (by rw [p1, HC.out]; rfl)
            · go_wp2_with (refine wpList_fbin .f64 _ _ rfl rfl rfl rfl ?_; intro t0 m0 g0 v0)
              have nf0 := neg_facts HC3.out HC.out g0
              refine (l01Narrow_c _ nf0.2 _).mono ?_; rintro e w2 ⟨x0, k0, rfl, p0, u0, rfl⟩
              go_wp2_with (refine wpList_fbin .f64 _ _ rfl rfl rfl rfl ?_; intro t1 m1 g1 v1)
              have nf1 := neg_facts HS3.out HI.out g1
              refine (l01Narrow_c _ nf1.2 _).mono ?_; rintro e w2 ⟨x1, k1, rfl, p1, u1, rfl⟩
              go_wp2
              go_ret
              exact FIN.out _ _ _ (by rw [p0, nf0.1]; rfl) (by rw [p1, nf1.1]; rfl)
            · go_wp2_with fail
              refine (l01Narrow_c _ NS _).mono ?_; rintro e w2 ⟨x0, k0, rfl, p0, u0, rfl⟩
              go_wp2_with (refine wpList_fbin .f64 _ _ rfl rfl rfl rfl ?_; intro t1 m1 g1 v1)
              have nf1 := neg_facts HC3.out HC.out g1
              refine (l01Narrow_c _ nf1.2 _).mono ?_; rintro e w2 ⟨x1, k1, rfl, p1, u1, rfl⟩
              go_wp2
              go_ret
              exact FIN.out _ _ _ (by rw [p0, HI.out]; rfl) (by rw [p1, nf1.1]; rfl)
            · have e1 : ((j : Int) == 1) = false := by rw [beq_eq_false_iff_ne]; omega
              have e2 : ((j : Int) == 2) = false := by rw [beq_eq_false_iff_ne]; omega
              have e3 : ((j : Int) == 3) = false := by rw [beq_eq_false_iff_ne]; omega
              go_wp2_with fail
              refine (l01Narrow_c _ NC _).mono ?_; rintro e w2 ⟨x0, k0, rfl, p0, u0, rfl⟩
              go_wp2_with fail
              refine (l01Narrow_c _ NS _).mono ?_; rintro e w2 ⟨x1, k1, rfl, p1, u1, rfl⟩
              go_wp2
              go_ret
              exact FIN.out _ _ _ (by rw [p0, HC.out]; unfold phRe; rw [if_neg hj0.1, if_neg hj0.2.1, if_neg hj0.2.2]) (by rw [p1, HI.out]; unfold phIm; rw [if_neg hj0.1, if_neg hj0.2.1, if_neg hj0.2.2])
    · have HP := Lib.hid (show phOut b (some 1065353216) (some 0) from .inr (.inl ⟨Nat.le_of_not_lt hn, hfin, rfl, rfl⟩))
      cases hg : (FloatKind.f64.format.order b 4841369599423283200 == some .gt || FloatKind.f64.format.order b 4841369599423283200 == some .eq) with
      | true =>
        clear hR hn hfin hwf hb
        go_enter Try.func20, Try.ntmps20
        go_wp2_with (first | (go_at_call 49; go_in) | (refine wpList_fbin .f64 _ _ rfl rfl rfl rfl ?_; intro t0 n0 h0 w0; have hz0 := ne_of_zero (h0.trans HSS.out)))
        go_ret
        exact ⟨_, _, HP.out, _, _, _, rfl, by decide +kernel, by decide +kernel, rfl⟩
      | false =>
        have hl := far_le' (Nat.le_of_not_lt hn) hfin hg
        clear hR hn hfin hwf hb
        go_enter Try.func20, Try.ntmps20
        go_wp2_with (first | (go_at_call 49; go_in) | (refine wpList_fbin .f64 _ _ rfl rfl rfl rfl ?_; intro t0 n0 h0 w0; have hz0 := ne_of_zero (h0.trans HSS.out)))
        go_ret
        exact ⟨_, _, HP.out, _, _, _, rfl, by decide +kernel, by decide +kernel, rfl⟩
  · have HP := Lib.hid (show phOut b none none from .inr (.inr ⟨Nat.le_of_not_lt hfin, rfl, rfl⟩))
    have HSS := Lib.hid (sub_self_bad (Nat.le_of_not_lt hfin))
    clear hR hfin hwf hb
    go_enter Try.func20, Try.ntmps20
    go_wp2_with (first | (go_at_call 49; go_in) | (go_at_call 78; refine (l01From_c 2143289344 (by decide) _).mono ?_; rintro e w' ⟨rfl, rfl⟩) | (refine wpList_fbin .f64 _ _ rfl rfl rfl rfl ?_; intro t0 n0 h0 w0; have hz0 := ne_of_none (h0.trans HSS.out)))
    go_ret
    exact ⟨_, _, HP.out, _, _, _, rfl, by decide +kernel, by decide +kernel, rfl⟩

theorem law_PhasorOf (x : Nat) (w : World) (hw : (Lit.float .f64 x).wf = true) : Calls Try.prog 6 #[.float .f64 x] w fun e w' => e = .returned (.bool true) ∧ Below w.heap.size w w' := by
  have SP := Lib.hid (specPhasor_c x hw)
  have IM := Lib.hid (implPhasor_c x hw)
  go_enter Try.func6, Try.ntmps6
  go_wp2_with fail
  refine (SP.out _).mono ?_; rintro e w' ⟨x1, y1, h1, r1, i1, n1, rfl, hr1, hi1, rfl⟩
  go_wp2_with fail
  refine (IM.out _).mono ?_; rintro e w' ⟨x2, y2, h2, r2, i2, n2, rfl, hr2, hi2, rfl⟩
  have H1 := Lib.hid h1
  have H2 := Lib.hid h2
  clear h1 h2
  have tok1 : True := trivial
  have tok2 : True := trivial
  go_wp2_with (first | (have _t := tok1; refine wpList_cwiden _ _ rfl Try.underlying27 Try.underlying30 rfl ?_; intro u1 v1 m1 g1 k1; clear tok1) | (have _t := tok2; refine wpList_cwiden _ _ rfl Try.underlying27 Try.underlying30 rfl ?_; intro u2 v2 m2 g2 k2; clear tok2))
  refine (sameComplex_c _ _ _ _ _ (by rw [g1, g2, hr2, hr1, (phOut_one H1.out H2.out).1]) (by rw [k1, k2, hi2, hi1, (phOut_one H1.out H2.out).2])).mono ?_
  rintro e w' ⟨rfl, m, rfl⟩
  go_wp2_with fail
  go_ret
  exact lawOk _
end Go.Proofs.Ytemolaojjnpfnaa
