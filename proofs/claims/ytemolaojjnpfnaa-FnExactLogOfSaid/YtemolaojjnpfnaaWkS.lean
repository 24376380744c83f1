/-
  The walks of the sine and what it calls. No condition.
-/
import Derived.Test.YtemolaojjnpfnaaCmn
import Derived.Test.YtemolaojjnpfnaaSin
namespace Go.Proofs.Ytemolaojjnpfnaa
set_option linter.unusedVariables false
open Go.RowKit Ieee

theorem order_f64 (x y : Nat) : FloatKind.f64.format.order x y = ford .f64 (cl .f64 x) (cl .f64 y) := order_cl .f64 x y

theorem run_toIntegral {P : Program} {name : String} {way : Toward} {b : Nat} (h : b % 9223372036854775808 < 9218868437227405312) (w : World) :
    (Extern.MathFloor.toIntegral name way #[.float .f64 b]).run P w = .ok (.float .f64 (Ieee.double.write ((Ieee.double.read b).integral way))) w := by
  obtain ⟨s, m, e, hd⟩ := read_number (k := .f64) (b := b) (by show b % Ieee.double.signWeight < Ieee.double.infRung; rw [dbl_sign, dbl_inf]; exact h)
  have hd' : Ieee.double.read b = .number s m e := hd
  have e1 : Extern.MathFloor.toIntegral name way #[.float .f64 b] = (match FloatKind.f64.decode b with
    | .nan s t => if FloatKind.f64.format.quiet t = t then pure (.float .f64 b) else do
      let kept ← choose (.extern "math.Floor,Ceil,Trunc,RoundToEven.signallingNaN kept" 2)
      pure (.float .f64 (if kept == 1 then b else FloatKind.f64.encode (.nan s (FloatKind.f64.format.quiet t))))
    | d => pure (.float .f64 (FloatKind.f64.encode (d.integral way)))) := rfl
  rw [e1, show FloatKind.f64.decode b = .number s m e from hd, hd']
  rfl

theorem trunc_c (b : Nat) (h : b % 9223372036854775808 < R 52) (w : World) : Calls Try.prog 79 #[.float .f64 b] w fun e w' => e = .returned (.float .f64 (wholeB b)) ∧ w = w' := by
  have hcall : ∀ w, (callFunc 90 #[.float .f64 b]).run Try.prog w = .ok (.value (.float .f64 (wholeB b))) w := by
    intro w
    rw [run_callFunc_extern (e := Extern.MathFloor.toIntegral "math.archTrunc" .zero) Try.func90 (by kernel_rfl) (by kernel_rfl) (by kernel_rfl) (by kernel_rfl), run_toIntegral (by have : R 52 = 1075 * 4503599627370496 := rfl; omega)]; rfl
  clear h
  go_enter Try.func79, Try.ntmps79
  go_wp2
  go_ret
  exact ⟨rfl, rfl⟩

theorem wf_sound {b : Nat} (h : (Lit.float .f64 b).wf = true) : b < 18446744073709551616 := by simpa [Lit.wf] using h

/-- A class of a number that is known: the bits are the class's. -/
theorem cl_finite {b : Nat} (h : b % 9223372036854775808 < 9218868437227405312) : cl .f64 b = some b := cl64_of (by omega)

theorem ne_zero_iff {t : Nat} (h : t % 9223372036854775808 < 9218868437227405312) : (ford .f64 (some t) (some 0) != some .eq) = decide (t % 9223372036854775808 ≠ 0) := by
  rw [ford_sr .f64 t 0 (cl_finite h) (cl_zero _), show sr .f64 0 = 0 from by decide +kernel, sr64, int_compare]
  by_cases h0 : t % 9223372036854775808 = 0
  · rw [h0]; simp
  · rw [decide_eq_true (by exact h0)]
    split
    · rw [if_pos (by omega)]; rfl
    · rw [if_neg (by omega), if_neg (by omega)]; rfl

theorem whole_zero {b : Nat} (h : b % 9223372036854775808 < R 52) : (ford .f64 (some (wholeB b)) (some 0) != some .eq) = decide (wholeI b ≠ 0) ∧ wholeB b % 9223372036854775808 < 9218868437227405312 := by
  obtain ⟨s, m, d, hd, h1, h2, hb, hi, hw⟩ := whole_parts h
  have hlt : m / 2 ^ d < 9007199254740992 := Nat.lt_of_le_of_lt (Nat.div_le_self _ _) h2
  have hfin : wholeB b % 9223372036854775808 < 9218868437227405312 := by
    have hm := nearest_mag (s := s) (m := m / 2 ^ d) (e := 0) (i := 53) (by decide) (by decide) (.inr ⟨53, by generalize m / 2 ^ d = c at *; omega, by decide⟩)
    rw [← hb] at hm
    have hR53 : R 53 = 1076 * 4503599627370496 := rfl
    rw [hR53] at hm
    clear hlt hi hw hb hd
    omega
  refine ⟨?_, hfin⟩
  rw [ne_zero_iff hfin]
  apply decide_eq_decide.2
  obtain ⟨_, w1, w2⟩ := whole_int h
  constructor
  · intro hne h0
    exact hne (w2 h0)
  · intro hne h0
    apply hne
    rw [hw, signed_zero]
    by_cases hc : m / 2 ^ d = 0
    · rw [hc]; simp
    · exfalso
      have hlow := nearest_low (s := s) (m := m / 2 ^ d) (e := 0) (i := 0) (by decide) (by decide) (k := 0) (Nat.pos_of_ne_zero hc) (by decide)
      rw [← hb, h0] at hlow
      have : R 0 = 1023 * 4503599627370496 := rfl
      omega

theorem fraction_c (b : Nat) (h : b % 9223372036854775808 < R 52) (hwf : (Lit.float .f64 b).wf = true) (w : World) : Calls Try.prog 51 #[.float .f64 b] w fun e w' => RetF .f64 w (fracF b) e w' := by
  have hR : R 52 = 1075 * 4503599627370496 := rfl
  have hcb : cl .f64 b = some b := cl_finite (by omega)
  obtain ⟨hz, hzf⟩ := whole_zero h
  have hcw : cl .f64 (wholeB b) = some (wholeB b) := cl_finite hzf
  have T := Lib.hid (trunc_c b h)
  have o1 : (FloatKind.f64.format.order (wholeB b) 0 != some .eq) = decide (wholeI b ≠ 0) := by rw [order_f64, hcw, cl_zero, hz]
  have HCB := Lib.hid hcb
  have HCW := Lib.hid hcw
  clear h hR hz hzf hcw hcb
  by_cases hw0 : wholeI b = 0
  · have o2 : (FloatKind.f64.format.order (wholeB b) 0 != some .eq) = false := by rw [o1, hw0]; rfl
    clear o1
    cases hl : flt (some b) (some 0) with
    | true =>
      have o3 : (FloatKind.f64.format.order b 0 == some .lt) = true := by rw [order_f64, HCB.out, cl_zero]; exact hl
      have HF := Lib.hid (show fracF b = fbin .add .f64 (some b) (some c1) by unfold fracF; dsimp only; rw [if_pos hw0, if_pos hl])
      clear hl hw0
      go_enter Try.func51, Try.ntmps51
      go_wp2_with fail
      refine (T.out _).mono ?_; rintro e w' ⟨rfl, rfl⟩
      go_wp2_with (refine wpList_fbin .f64 _ _ rfl rfl rfl rfl ?_; intro r n hr hwr)
      go_ret
      exact retF _ (by rw [hr, HF.out, HCB.out]; congr 1) hwr
    | false =>
      have o3 : (FloatKind.f64.format.order b 0 == some .lt) = false := by rw [order_f64, HCB.out, cl_zero]; exact hl
      have HF := Lib.hid (show fracF b = some b by unfold fracF; dsimp only; rw [if_pos hw0, if_neg (by rw [hl]; simp)])
      clear hl hw0
      go_enter Try.func51, Try.ntmps51
      go_wp2_with fail
      refine (T.out _).mono ?_; rintro e w' ⟨rfl, rfl⟩
      go_wp2_with fail
      go_ret
      exact retF0 (by rw [HF.out, HCB.out]) hwf
  · have o2 : (FloatKind.f64.format.order (wholeB b) 0 != some .eq) = true := by rw [o1]; simpa using hw0
    clear o1
    go_enter Try.func51, Try.ntmps51
    go_wp2_with fail
    refine (T.out _).mono ?_; rintro e w' ⟨rfl, rfl⟩
    go_wp2_with (refine wpList_fbin .f64 _ _ rfl rfl rfl rfl ?_; intro r n hr hwr)
    · rename_i r0 n0 hr0 hwr0 hlt
      go_ret
      refine retF _ ?_ hwr
      rw [order_f64, cl_zero, hr0, HCB.out, HCW.out] at hlt
      unfold fracF
      dsimp only
      rw [if_neg hw0, if_pos (show flt _ _ = true from hlt), hr, hr0, HCB.out, HCW.out]
      congr 1
    · rename_i hlt
      go_ret
      refine retF _ ?_ hwr
      rw [order_f64, cl_zero, hr, HCB.out, HCW.out] at hlt
      unfold fracF
      dsimp only
      rw [if_neg hw0, if_neg (by rw [flt, hlt]; simp), hr, HCB.out, HCW.out]

theorem cl_one : cl .f64 4607182418800017408 = some c1 := cl64_of (by decide)
theorem cl_half : cl .f64 4602678819172646912 = some 4602678819172646912 := cl64_of (by decide)
theorem cl_quarter : cl .f64 4598175219545276416 = some 4598175219545276416 := cl64_of (by decide)
theorem cl_turn : cl .f64 4618760256179416344 = some 4618760256179416344 := cl64_of (by decide)

theorem wrap_steps (K : Nat) (h1 : 1 ≤ K) (h2 : K ≤ 8) : wrap64 (2 * (K : Int) * (2 * (K : Int) + 1)) = 2 * (K : Int) * (2 * (K : Int) + 1) := by
  obtain rfl | rfl | rfl | rfl | rfl | rfl | rfl | rfl : K = 1 ∨ K = 2 ∨ K = 3 ∨ K = 4 ∨ K = 5 ∨ K = 6 ∨ K = 7 ∨ K = 8 := by omega
  all_goals (unfold wrap64; omega)

theorem cl_int (n : Int) : cl .f64 (floatOfInt .f64 n) = some (floatOfInt .f64 n) := cl_write .f64 (d := .number (n < 0) n.natAbs 0) rfl

theorem p_step {K q a1 a2 a3 u : Nat} (h1 : 1 ≤ K) (h2 : K ≤ 8) (hq : cl .f64 q = pF (cl .f64 u) (8 - K)) (g1 : cl .f64 a1 = fbin .mul .f64 (cl .f64 u) (cl .f64 q))
    (g2 : cl .f64 a2 = fbin .quo .f64 (cl .f64 a1) (cl .f64 (floatOfInt .f64 (2 * (K : Int) * (2 * (K : Int) + 1))))) (g3 : cl .f64 a3 = fbin .sub .f64 (cl .f64 4607182418800017408) (cl .f64 a2)) :
    cl .f64 a3 = pF (cl .f64 u) (8 - (K - 1)) := by
  obtain ⟨j, hj, rfl⟩ : ∃ j, j < 8 ∧ K = 8 - j := ⟨8 - K, by omega, by omega⟩
  rw [show 8 - (8 - j - 1) = j + 1 by omega]
  rw [show 8 - (8 - j) = j by omega] at hq
  rw [show (((8 - j : Nat) : Int)) = 8 - (j : Int) by omega] at g2
  rw [g3, g2, g1, hq, cl_one, cl_int]
  rfl

theorem red_tt {F : Option Nat} {f f2 : Nat} (hb : fge F (some 4602678819172646912) = true) (h1 : cl .f64 f2 = fbin .sub .f64 (cl .f64 f) (cl .f64 4602678819172646912)) (hg : (FloatKind.f64.format.order f2 4598175219545276416 == some .gt) = true) (hf : cl .f64 f = F) :
    fbin .sub .f64 (cl .f64 4602678819172646912) (cl .f64 f2) = redF F := by
  rw [order_f64, h1, hf, cl_half, cl_quarter] at hg
  unfold redF
  dsimp only
  rw [if_pos hb, if_pos (show fgt _ _ = true from hg), h1, hf, cl_half]
theorem red_tf {F : Option Nat} {f f2 : Nat} (hb : fge F (some 4602678819172646912) = true) (h1 : cl .f64 f2 = fbin .sub .f64 (cl .f64 f) (cl .f64 4602678819172646912)) (hg : (FloatKind.f64.format.order f2 4598175219545276416 == some .gt) = false) (hf : cl .f64 f = F) :
    cl .f64 f2 = redF F := by
  rw [order_f64, h1, hf, cl_half, cl_quarter] at hg
  unfold redF
  dsimp only
  rw [if_pos hb, if_neg (show ¬ (fgt _ _ = true) from by unfold fgt; rw [hg]; simp), h1, hf, cl_half]
theorem red_ft {F : Option Nat} {f : Nat} (hb : fge F (some 4602678819172646912) = false) (hg : (FloatKind.f64.format.order f 4598175219545276416 == some .gt) = true) (hf : cl .f64 f = F) :
    fbin .sub .f64 (cl .f64 4602678819172646912) (cl .f64 f) = redF F := by
  rw [order_f64, hf, cl_quarter] at hg
  unfold redF
  dsimp only
  have hb' : ¬ (fge F (some 4602678819172646912) = true) := by rw [hb]; simp
  rw [if_neg hb', if_pos (show fgt _ _ = true from hg), hf, cl_half]
theorem red_ff {F : Option Nat} {f : Nat} (hb : fge F (some 4602678819172646912) = false) (hg : (FloatKind.f64.format.order f 4598175219545276416 == some .gt) = false) (hf : cl .f64 f = F) :
    cl .f64 f = redF F := by
  rw [order_f64, hf, cl_quarter] at hg
  unfold redF
  dsimp only
  have hb' : ¬ (fge F (some 4602678819172646912) = true) := by rw [hb]; simp
  have hg' : ¬ (fgt F (some 4598175219545276416) = true) := by unfold fgt; rw [hg]; simp
  rw [if_neg hb', if_neg hg', hf]
theorem sin_true {F cz cu : Option Nat} (hb : fge F (some 4602678819172646912) = true) (hz : cz = fbin .mul .f64 (redF F) (some 4618760256179416344)) (hu : cu = fbin .mul .f64 cz cz) :
    fneg .f64 (fbin .mul .f64 cz (pF cu 8)) = sinF F := by
  subst hu; subst hz
  unfold sinF
  dsimp only
  rw [if_pos hb]
theorem sin_false {F cz cu : Option Nat} (hb : fge F (some 4602678819172646912) = false) (hz : cz = fbin .mul .f64 (redF F) (some 4618760256179416344)) (hu : cu = fbin .mul .f64 cz cz) :
    fbin .mul .f64 cz (pF cu 8) = sinF F := by
  subst hu; subst hz
  unfold sinF
  dsimp only
  rw [if_neg (by rw [hb]; simp)]

theorem neg_val {P : Program} (r : Nat) (w : World) : (Op.unary .neg (.float .f64 r)).run P w = .ok (.float .f64 (Op.negFloat .f64 r)) w := rfl

set_option maxHeartbeats 1000000 in
theorem sine_c (b : Nat) (h : b % 9223372036854775808 < R 52) (hwf : (Lit.float .f64 b).wf = true) (w : World) : Calls Try.prog 48 #[.float .f64 b] w fun e w' => RetF .f64 w (sinF (fracF b)) e w' := by
  have FR := Lib.hid (fraction_c b h hwf)
  clear h hwf
  generalize fracF b = F at *
  have hneg := fun r w => neg_val (P := Try.prog) r w
  go_enter Try.func48, Try.ntmps48
  go_wp2_with fail
  refine (FR.out _).mono ?_
  rintro e w1 ⟨f, n, rfl, hf, hwf, rfl⟩
  cases hB : fge F (some 4602678819172646912) with
  | true =>
    have HB := Lib.hid hB
    have o5 : (FloatKind.f64.format.order f 4602678819172646912 == some .gt || FloatKind.f64.format.order f 4602678819172646912 == some .eq) = true := by rw [order_f64, hf, cl_half]; exact hB
    clear hB
    have tok1 : True := trivial
    have tok2 : True := trivial
    have tok3 : True := trivial
    have tok4 : True := trivial
    go_wp2_with (first | (have _t := tok1; refine wpList_fbin .f64 _ _ rfl rfl rfl rfl ?_; intro t1 n1 h1 w1; clear tok1) | (have _t := tok2; refine wpList_fbin .f64 _ _ rfl rfl rfl rfl ?_; intro t2 n2 h2 w2; clear tok2) | (have _t := tok3; refine wpList_fbin .f64 _ _ rfl rfl rfl rfl ?_; intro t3 n3 h3 w3; clear tok3) | (have _t := tok4; refine wpList_fbin .f64 _ _ rfl rfl rfl rfl ?_; intro t4 n4 h4 w4; clear tok4))
    · go_loopw [7, 8] (fun p k wr => ∃ K d q : Nat, K ≤ 8 ∧ k = .int .i64 K ∧ p = .float .f64 q ∧ cl .f64 q = pF (cl .f64 t4) (8 - K) ∧ (Lit.float .f64 q).wf = true ∧ wr = w.drewN d) (fun _ k _ => (intOf k).toNat)
      case atStart => exact ⟨8, _, _, Nat.le_refl _, rfl, rfl, cl_one, by decide, rfl⟩
      case round =>
        obtain ⟨K, d, q, hK, rfl, rfl, hq, hwq, rfl⟩ := hrel
        have HQ := Lib.hid hq
        clear hq
        by_cases hK1 : 1 ≤ K
        · have hwr := wrap_steps K hK1 hK
          have tok7 : True := trivial
          have tok8 : True := trivial
          have tok9 : True := trivial
          go_wp2_with (first | (have _t := tok7; refine wpList_fbin .f64 _ _ rfl rfl rfl rfl ?_; intro a1 m1 g1 v1; clear tok7) | (have _t := tok8; refine wpList_fbin .f64 _ _ rfl rfl rfl rfl ?_; intro a2 m2 g2 v2; clear tok8) | (have _t := tok9; refine wpList_fbin .f64 _ _ rfl rfl rfl rfl ?_; intro a3 m3 g3 v3; clear tok9))
          go_roundw
          case rel => exact ⟨K - 1, _, a3, by omega, by go_num, rfl, p_step hK1 hK HQ.out g1 g2 g3, v3, rfl⟩
          case measure => simp [intOf]; omega
        · obtain rfl : K = 0 := by omega
          go_wp2_with (refine wpList_fbin .f64 _ _ rfl rfl rfl rfl ?_; intro o no ho wo)
          go_ret
          exact retF _ (by rw [neg_cl, ho, HQ.out, sin_true HB.out (show cl .f64 t3 = _ from by rw [h3, h2, red_tt HB.out h1 (by assumption) hf]; congr 1) h4]) (neg_wf wo)
    · go_loopw [7, 8] (fun p k wr => ∃ K d q : Nat, K ≤ 8 ∧ k = .int .i64 K ∧ p = .float .f64 q ∧ cl .f64 q = pF (cl .f64 t3) (8 - K) ∧ (Lit.float .f64 q).wf = true ∧ wr = w.drewN d) (fun _ k _ => (intOf k).toNat)
      case atStart => exact ⟨8, _, _, Nat.le_refl _, rfl, rfl, cl_one, by decide, rfl⟩
      case round =>
        obtain ⟨K, d, q, hK, rfl, rfl, hq, hwq, rfl⟩ := hrel
        have HQ := Lib.hid hq
        clear hq
        by_cases hK1 : 1 ≤ K
        · have hwr := wrap_steps K hK1 hK
          have tok7 : True := trivial
          have tok8 : True := trivial
          have tok9 : True := trivial
          go_wp2_with (first | (have _t := tok7; refine wpList_fbin .f64 _ _ rfl rfl rfl rfl ?_; intro a1 m1 g1 v1; clear tok7) | (have _t := tok8; refine wpList_fbin .f64 _ _ rfl rfl rfl rfl ?_; intro a2 m2 g2 v2; clear tok8) | (have _t := tok9; refine wpList_fbin .f64 _ _ rfl rfl rfl rfl ?_; intro a3 m3 g3 v3; clear tok9))
          go_roundw
          case rel => exact ⟨K - 1, _, a3, by omega, by go_num, rfl, p_step hK1 hK HQ.out g1 g2 g3, v3, rfl⟩
          case measure => simp [intOf]; omega
        · obtain rfl : K = 0 := by omega
          go_wp2_with (refine wpList_fbin .f64 _ _ rfl rfl rfl rfl ?_; intro o no ho wo)
          go_ret
          exact retF _ (by rw [neg_cl, ho, HQ.out, sin_true HB.out (show cl .f64 t2 = _ from by rw [h2, red_tf HB.out h1 (by assumption) hf]; congr 1) h3]) (neg_wf wo)
  | false =>
    have HB := Lib.hid hB
    have o5 : (FloatKind.f64.format.order f 4602678819172646912 == some .gt || FloatKind.f64.format.order f 4602678819172646912 == some .eq) = false := by rw [order_f64, hf, cl_half]; exact hB
    clear hB
    have tok1 : True := trivial
    have tok2 : True := trivial
    have tok3 : True := trivial
    go_wp2_with (first | (have _t := tok1; refine wpList_fbin .f64 _ _ rfl rfl rfl rfl ?_; intro t1 n1 h1 w1; clear tok1) | (have _t := tok2; refine wpList_fbin .f64 _ _ rfl rfl rfl rfl ?_; intro t2 n2 h2 w2; clear tok2) | (have _t := tok3; refine wpList_fbin .f64 _ _ rfl rfl rfl rfl ?_; intro t3 n3 h3 w3; clear tok3))
    · go_loopw [7, 8] (fun p k wr => ∃ K d q : Nat, K ≤ 8 ∧ k = .int .i64 K ∧ p = .float .f64 q ∧ cl .f64 q = pF (cl .f64 t3) (8 - K) ∧ (Lit.float .f64 q).wf = true ∧ wr = w.drewN d) (fun _ k _ => (intOf k).toNat)
      case atStart => exact ⟨8, _, _, Nat.le_refl _, rfl, rfl, cl_one, by decide, rfl⟩
      case round =>
        obtain ⟨K, d, q, hK, rfl, rfl, hq, hwq, rfl⟩ := hrel
        have HQ := Lib.hid hq
        clear hq
        by_cases hK1 : 1 ≤ K
        · have hwr := wrap_steps K hK1 hK
          have tok7 : True := trivial
          have tok8 : True := trivial
          have tok9 : True := trivial
          go_wp2_with (first | (have _t := tok7; refine wpList_fbin .f64 _ _ rfl rfl rfl rfl ?_; intro a1 m1 g1 v1; clear tok7) | (have _t := tok8; refine wpList_fbin .f64 _ _ rfl rfl rfl rfl ?_; intro a2 m2 g2 v2; clear tok8) | (have _t := tok9; refine wpList_fbin .f64 _ _ rfl rfl rfl rfl ?_; intro a3 m3 g3 v3; clear tok9))
          go_roundw
          case rel => exact ⟨K - 1, _, a3, by omega, by go_num, rfl, p_step hK1 hK HQ.out g1 g2 g3, v3, rfl⟩
          case measure => simp [intOf]; omega
        · obtain rfl : K = 0 := by omega
          go_wp2_with (refine wpList_fbin .f64 _ _ rfl rfl rfl rfl ?_; intro o no ho wo)
          go_ret
          exact retF _ (by rw [ho, HQ.out, sin_false HB.out (show cl .f64 t2 = _ from by rw [h2, h1, red_ft HB.out (by assumption) hf]; congr 1) h3]) wo
    · go_loopw [7, 8] (fun p k wr => ∃ K d q : Nat, K ≤ 8 ∧ k = .int .i64 K ∧ p = .float .f64 q ∧ cl .f64 q = pF (cl .f64 t2) (8 - K) ∧ (Lit.float .f64 q).wf = true ∧ wr = w.drewN d) (fun _ k _ => (intOf k).toNat)
      case atStart => exact ⟨8, _, _, Nat.le_refl _, rfl, rfl, cl_one, by decide, rfl⟩
      case round =>
        obtain ⟨K, d, q, hK, rfl, rfl, hq, hwq, rfl⟩ := hrel
        have HQ := Lib.hid hq
        clear hq
        by_cases hK1 : 1 ≤ K
        · have hwr := wrap_steps K hK1 hK
          have tok7 : True := trivial
          have tok8 : True := trivial
          have tok9 : True := trivial
          go_wp2_with (first | (have _t := tok7; refine wpList_fbin .f64 _ _ rfl rfl rfl rfl ?_; intro a1 m1 g1 v1; clear tok7) | (have _t := tok8; refine wpList_fbin .f64 _ _ rfl rfl rfl rfl ?_; intro a2 m2 g2 v2; clear tok8) | (have _t := tok9; refine wpList_fbin .f64 _ _ rfl rfl rfl rfl ?_; intro a3 m3 g3 v3; clear tok9))
          go_roundw
          case rel => exact ⟨K - 1, _, a3, by omega, by go_num, rfl, p_step hK1 hK HQ.out g1 g2 g3, v3, rfl⟩
          case measure => simp [intOf]; omega
        · obtain rfl : K = 0 := by omega
          go_wp2_with (refine wpList_fbin .f64 _ _ rfl rfl rfl rfl ?_; intro o no ho wo)
          go_ret
          exact retF _ (by rw [ho, HQ.out, sin_false HB.out (show cl .f64 t1 = _ from by rw [h1, red_ff HB.out (by assumption) hf]; congr 1) h2]) wo
end Go.Proofs.Ytemolaojjnpfnaa
