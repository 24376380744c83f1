/-
  The walks of the logarithm and of its law. No condition.
-/
import Derived.Test.YtemolaojjnpfnaaLgp
namespace Go.Proofs.Ytemolaojjnpfnaa
set_option linter.unusedVariables false
open Go.RowKit Ieee

theorem order_self64 {b : Nat} (h : b % 9223372036854775808 ≤ 9218868437227405312) : (FloatKind.f64.format.order b b != some .eq) = false := by
  have e := ne_self .f64 b
  rw [order_f64, e, cl64_of h]; rfl

theorem bits_of {t c : Nat} {a : Option Nat} (h : cl .f64 t = a) (ha : a = some c) : t = c := by rw [ha] at h; exact (cl64_some h).1.symm

theorem ge15 {q : Nat} (h : q < 9218868437227405312) : (FloatKind.f64.format.order q 4609434218613702656 == some .gt || FloatKind.f64.format.order q 4609434218613702656 == some .eq) = decide (4609434218613702656 ≤ q) := by
  rw [order_f64, cl64_of (by omega), cl64_of (by decide), ge_pos (by omega) (by decide)]
theorem lt075 {q : Nat} (h : q < 9218868437227405312) : (FloatKind.f64.format.order q 4604930618986332160 == some .lt) = decide (q < 4604930618986332160) := by
  rw [order_f64, cl64_of (by omega), cl64_of (by decide), lt_pos (by omega) (by decide)]

theorem wrap_up {j : Nat} (h : j ≤ 2000) : wrap64 ((j : Int) + 1) = ((j + 1 : Nat) : Int) := by unfold wrap64; omega
theorem wrap_down {e : Int} (h1 : -3000 ≤ e) (h2 : e ≤ 3000) : wrap64 (e - 1) = e - 1 := by unfold wrap64; omega
theorem wrap_two {e : Int} (h1 : -3000 ≤ e) (h2 : e ≤ 3000) : wrap64 (e - 2) = e - 2 := by unfold wrap64; omega

theorem start_q (b : Nat) : b = b - 0 * 4503599627370496 := by rw [Nat.zero_mul, Nat.sub_zero]
theorem start_r {y q : Nat} (h : q = y) : q = y + 0 * 4503599627370496 := by rw [Nat.zero_mul, Nat.add_zero]; exact h
theorem start_e (j : Nat) : (j : Int) = (j : Int) - ((0 : Nat) : Int) := by omega
theorem next_e {e : Int} {j i : Nat} (h : e = (j : Int) - (i : Nat)) : e - 1 = (j : Int) - ((i + 1 : Nat) : Int) := by omega

theorem loop1_facts {b j q : Nat} (h1 : 4503599627370496 ≤ b) (h2 : b < 9218868437227405312) (hj : j = 0 ∨ 4609434218613702656 + j * 4503599627370496 ≤ b + 4503599627370496) (hq : q = b - j * 4503599627370496) :
    (FloatKind.f64.format.order q 4609434218613702656 == some .gt || FloatKind.f64.format.order q 4609434218613702656 == some .eq) = decide (4609434218613702656 ≤ q) ∧
    ((4609434218613702656 ≤ q → ∃ q2, fbin .quo .f64 (cl .f64 q) (cl .f64 4611686018427387904) = some q2 ∧ (j + 1 = 0 ∨ 4609434218613702656 + (j + 1) * 4503599627370496 ≤ b + 4503599627370496) ∧ q2 = b - (j + 1) * 4503599627370496 ∧ j ≤ 2000) ∧
     (¬ 4609434218613702656 ≤ q → j = K1 b ∧ q = Y1 b ∧ j ≤ 1024)) := by
  refine ⟨ge15 (by omega), fun h => ⟨q - 4503599627370496, ?_, ?_, ?_, ?_⟩, fun h => ?_⟩
  · rw [cl64_of (b := q) (by omega), cl64_of (b := 4611686018427387904) (by decide)]
    exact half_of (by omega) (by omega)
  · right; omega
  · omega
  · omega
  · have hk := k1_stop hj (by omega)
    obtain ⟨_, _, h3⟩ := y1_range h1 h2
    exact ⟨hk, by unfold Y1; rw [← hk]; exact hq, by rw [hk]; exact h3⟩

theorem loop2_facts {b i r : Nat} (h1 : 4503599627370496 ≤ b) (h2 : b < 9218868437227405312) (hi : i = 0 ∨ Y1 b + i * 4503599627370496 < 4609434218613702656) (hr : r = Y1 b + i * 4503599627370496) :
    (FloatKind.f64.format.order r 4604930618986332160 == some .lt) = decide (r < 4604930618986332160) ∧
    ((r < 4604930618986332160 → ∃ r2, fbin .mul .f64 (cl .f64 r) (cl .f64 4611686018427387904) = some r2 ∧ (i + 1 = 0 ∨ Y1 b + (i + 1) * 4503599627370496 < 4609434218613702656) ∧ r2 = Y1 b + (i + 1) * 4503599627370496 ∧ i ≤ 2000) ∧
     (¬ r < 4604930618986332160 → i = K2 (Y1 b) ∧ r = YL b ∧ cl .f64 r = some r)) := by
  obtain ⟨hy1, hy2, _⟩ := y1_range h1 h2
  refine ⟨lt075 (by omega), fun h => ⟨r + 4503599627370496, ?_, ?_, ?_, ?_⟩, fun h => ?_⟩
  · rw [cl64_of (b := r) (by omega), cl64_of (b := 4611686018427387904) (by decide)]
    exact double_of (by omega) (by omega)
  · right; omega
  · omega
  · omega
  · have hk := k2_stop (y := Y1 b) (i := i) (by omega) (by omega)
    exact ⟨hk, by unfold YL; rw [← hk]; exact hr, cl64_of (by omega)⟩

theorem q_step {u a1 a2 a3 q : Nat} {j : Nat} (hq : cl .f64 q = qL (cl .f64 u) j) (g1 : cl .f64 a1 = fbin .quo .f64 (cl .f64 4607182418800017408) (cl .f64 (floatOfInt .f64 (25 - 2 * (j : Int)))))
    (g2 : cl .f64 a2 = fbin .mul .f64 (cl .f64 u) (cl .f64 q)) (g3 : cl .f64 a3 = fbin .add .f64 (cl .f64 a1) (cl .f64 a2)) : cl .f64 a3 = qL (cl .f64 u) (j + 1) := by
  rw [g3, g1, g2, hq, cl_one, cl_int]; rfl

theorem log_end {b q t1 t2 s u z o1 o2 o3 o4 : Nat} {e : Int} (hq : q = YL b) (hqc : cl .f64 q = some q) (he : e = EL b) (h1 : cl .f64 t1 = fbin .sub .f64 (cl .f64 q) (cl .f64 4607182418800017408)) (h2 : cl .f64 t2 = fbin .add .f64 (cl .f64 q) (cl .f64 4607182418800017408))
    (h3 : cl .f64 s = fbin .quo .f64 (cl .f64 t1) (cl .f64 t2)) (h4 : cl .f64 u = fbin .mul .f64 (cl .f64 s) (cl .f64 s)) (hz : cl .f64 z = qL (cl .f64 u) 13)
    (g1 : cl .f64 o1 = fbin .mul .f64 (cl .f64 s) (cl .f64 z)) (g2 : cl .f64 o2 = fbin .mul .f64 (cl .f64 4611686018427387904) (cl .f64 o1)) (g3 : cl .f64 o3 = fbin .mul .f64 (cl .f64 (floatOfInt .f64 e)) (cl .f64 4604418534313441775))
    (g4 : cl .f64 o4 = fbin .add .f64 (cl .f64 o2) (cl .f64 o3)) : cl .f64 o4 = logF b := by
  have hs : cl .f64 s = sL (some (YL b)) := by rw [h3, h1, h2, hqc, cl_one, hq]; rfl
  rw [g4, g2, g3, g1, hz, h4, hs, cl_int, he, cl64_of (b := 4611686018427387904) (by decide), cl64_of (b := 4604418534313441775) (by decide)]
  rfl

set_option maxHeartbeats 4000000 in
theorem implLog_c (b : Nat) (h1 : 4503599627370496 ≤ b) (h2 : b < 9218868437227405312) (w : World) : Calls Try.prog 45 #[.float .f64 b] w fun e w' => RetF .f64 w (logF b) e w' := by
  have H1 := Lib.hid h1
  have H2 := Lib.hid h2
  clear h1 h2
  go_enter Try.func45, Try.ntmps45
  go_wp2
  go_loopw [0, 3] (fun p k wr => ∃ j d q : Nat, Hid (j = 0 ∨ 4609434218613702656 + j * 4503599627370496 ≤ b + 4503599627370496) ∧ Hid (q = b - j * 4503599627370496) ∧ k = .int .i64 (j : Nat) ∧ p = .float .f64 q ∧ wr = w.drewN d) (fun _ k _ => 3000 - (intOf k).toNat)
  case atStart => exact ⟨0, 0, b, Lib.hid (.inl rfl), Lib.hid (start_q b), rfl, rfl, by first | rfl | simp⟩
  case round =>
    obtain ⟨j, d, q, hj, hq, rfl, rfl, rfl⟩ := hrel
    obtain ⟨o15, hnext⟩ := loop1_facts H1.out H2.out hj.out hq.out
    by_cases hge : 4609434218613702656 ≤ q
    · rw [decide_eq_true hge] at o15
      obtain ⟨q2, hh, hj1, hq2, hjm⟩ := hnext.1 hge
      have HH := Lib.hid hh
      have HJ1 := Lib.hid hj1
      have HQ2 := Lib.hid hq2
      have hwr := wrap_up hjm
      clear hge hnext hh hj1 hq2
      go_wp2_with (refine wpList_fbin .f64 _ _ rfl rfl rfl rfl ?_; intro a1 m1 g1 v1)
      go_roundw
      case rel => exact ⟨j + 1, _, q2, HJ1, HQ2, rfl, by rw [bits_of g1 HH.out], rfl⟩
      case measure => simp [intOf]; omega
    · rw [decide_eq_false hge] at o15
      obtain ⟨hk, hy, hj3⟩ := hnext.2 hge
      have HK := Lib.hid hk
      have HY := Lib.hid hy
      clear hge hnext hk hy
      go_wp2
      go_loopw [0, 3] (fun p k wr => ∃ (i d r : Nat) (e : Int), Hid (i = 0 ∨ Y1 b + i * 4503599627370496 < 4609434218613702656) ∧ Hid (r = Y1 b + i * 4503599627370496) ∧ Hid (e = (j : Int) - (i : Nat)) ∧ -3000 ≤ e ∧ e ≤ 3000 ∧ k = .int .i64 e ∧ p = .float .f64 r ∧ wr = w.drewN d) (fun _ k _ => (4000 + intOf k).toNat)
      case atStart => exact ⟨0, _, q, _, Lib.hid (.inl rfl), Lib.hid (start_r HY.out), Lib.hid (start_e j), by omega, by omega, rfl, rfl, rfl⟩
      case round =>
        obtain ⟨i, d2, r, e, hi, hr, he, hem, hep, rfl, rfl, rfl⟩ := hrel
        obtain ⟨o75, hnext⟩ := loop2_facts H1.out H2.out hi.out hr.out
        by_cases hlt : r < 4604930618986332160
        · rw [decide_eq_true hlt] at o75
          obtain ⟨r2, hh, hi1, hr2, him⟩ := hnext.1 hlt
          have HH := Lib.hid hh
          have HI1 := Lib.hid hi1
          have HR2 := Lib.hid hr2
          have HE2 := Lib.hid (next_e he.out)
          have hem2 : -3000 ≤ e - 1 := by have := he.out; omega
          have hwr := wrap_down hem hep
          clear hlt hnext hh hi1 hr2
          go_wp2_with (refine wpList_fbin .f64 _ _ rfl rfl rfl rfl ?_; intro a1 m1 g1 v1)
          go_roundw
          case rel => exact ⟨i + 1, _, r2, e - 1, HI1, HR2, HE2, hem2, by omega, rfl, by rw [bits_of g1 HH.out], rfl⟩
          case measure => simp [intOf]; omega
        · rw [decide_eq_false hlt] at o75
          obtain ⟨hk2, hrl, hrc⟩ := hnext.2 hlt
          have HQ := Lib.hid hrl
          have HE : Hid (e = EL b) := by show _ = _; rw [he.out]; unfold EL; rw [← HK.out, ← hk2]
          have HC := Lib.hid hrc
          clear hlt hnext hk2 hrl hrc
          have tok1 : True := trivial
          have tok2 : True := trivial
          have tok3 : True := trivial
          have tok4 : True := trivial
          go_wp2_with (first | (have _t := tok1; refine wpList_fbin .f64 _ _ rfl rfl rfl rfl ?_; intro t1 nt1 ht1 wt1; clear tok1) | (have _t := tok2; refine wpList_fbin .f64 _ _ rfl rfl rfl rfl ?_; intro t2 nt2 ht2 wt2; clear tok2) | (have _t := tok3; refine wpList_fbin .f64 _ _ rfl rfl rfl rfl ?_; intro s ns hs ws; clear tok3) | (have _t := tok4; refine wpList_fbin .f64 _ _ rfl rfl rfl rfl ?_; intro u nu hu wu; clear tok4))
          go_loopw [6, 7] (fun p k wr => ∃ m d z : Nat, m ≤ 13 ∧ k = .int .i64 (25 - 2 * (m : Nat)) ∧ p = .float .f64 z ∧ cl .f64 z = qL (cl .f64 u) m ∧ wr = w.drewN d) (fun _ k _ => (3000 + intOf k).toNat)
          case atStart => exact ⟨0, _, 0, by decide, by simp, rfl, cl_zero _, rfl⟩
          case round =>
            obtain ⟨m, d3, z, hm, rfl, rfl, hz, rfl⟩ := hrel
            have HZ := Lib.hid hz
            clear hz
            by_cases hm1 : m ≤ 12
            · have hwr := wrap_two (e := 25 - 2 * (m : Int)) (by omega) (by omega)
              have tok97 : True := trivial
              have tok98 : True := trivial
              have tok99 : True := trivial
              go_wp2_with (first | (have _t := tok97; refine wpList_fbin .f64 _ _ rfl rfl rfl rfl ?_; intro a1 na1 ha1 wa1; clear tok97) | (have _t := tok98; refine wpList_fbin .f64 _ _ rfl rfl rfl rfl ?_; intro a2 na2 ha2 wa2; clear tok98) | (have _t := tok99; refine wpList_fbin .f64 _ _ rfl rfl rfl rfl ?_; intro a3 na3 ha3 wa3; clear tok99))
              go_roundw
              case rel => exact ⟨m + 1, _, a3, by omega, by congr 1; omega, rfl, q_step HZ.out ha1 ha2 ha3, rfl⟩
              case measure => simp [intOf]; omega
            · obtain rfl : m = 13 := by omega
              have tok97 : True := trivial
              have tok98 : True := trivial
              have tok99 : True := trivial
              have tok96 : True := trivial
              go_wp2_with (first | (have _t := tok96; refine wpList_fbin .f64 _ _ rfl rfl rfl rfl ?_; intro o1 no1 ho1 wo1; clear tok96) | (have _t := tok97; refine wpList_fbin .f64 _ _ rfl rfl rfl rfl ?_; intro o2 no2 ho2 wo2; clear tok97) | (have _t := tok98; refine wpList_fbin .f64 _ _ rfl rfl rfl rfl ?_; intro o3 no3 ho3 wo3; clear tok98) | (have _t := tok99; refine wpList_fbin .f64 _ _ rfl rfl rfl rfl ?_; intro o4 no4 ho4 wo4; clear tok99))
              go_ret
              exact retF _ (log_end HQ.out HC.out HE.out ht1 ht2 hs hu HZ.out ho1 ho2 ho3 ho4) wo4

theorem negInf_c (w : World) : Calls Try.prog 73 #[.int .i64 (-1)] w fun e w' => e = .returned (.float .f64 18442240474082181120) ∧ w = w' := by
  go_enter Try.func73, Try.ntmps73
  go_wp2
  go_ret
  exact ⟨rfl, rfl⟩

theorem gt_max {b : Nat} (hw : b ≤ 9218868437227405312) : (FloatKind.f64.format.order b 9218868437227405311 == some .gt) = decide (b = 9218868437227405312) := by
  rw [order_f64, cl64_of (by omega), cl64_of (by decide), ford_pos hw (by decide), int_compare]
  by_cases h : b = 9218868437227405312
  · rw [decide_eq_true h, if_neg (by omega), if_neg (by omega)]; rfl
  · rw [decide_eq_false h]
    split
    · rfl
    · split
      · rfl
      · exfalso; omega

theorem isInf_c (b : Nat) (hw : b ≤ 9218868437227405312) (w : World) : Calls Try.prog 88 #[.float .f64 b, .int .i64 1] w fun e w' => e = .returned (.bool (decide (b = 9218868437227405312))) ∧ w = w' := by
  have h := gt_max hw
  go_enter Try.func88, Try.ntmps88
  go_wp2
  go_ret
  exact ⟨rfl, rfl⟩

set_option maxHeartbeats 4000000 in
theorem specLog_c (b : Nat) (hw : b < 18446744073709551616) (hn : b % 9223372036854775808 ≠ 0 → 4503599627370496 ≤ b % 9223372036854775808) (w : World) : Calls Try.prog 74 #[.float .f64 b] w fun e w' => RetF .f64 w (logW b) e w' := by
  have oe := eq0_64 b
  have ol := lt0_64 hw
  unfold logW
  by_cases h1 : 9218868437227405312 < b % 9223372036854775808
  · rw [if_pos h1]
    have on : (FloatKind.f64.format.order b b != some .eq) = true := by rw [order_f64, cl64, if_pos h1]; rfl
    clear h1 hn hw oe ol
    go_enter Try.func74, Try.ntmps74
    go_wp2_with fail
    refine (nan64_c _).mono ?_; rintro e w' ⟨r, n, rfl, hr, hwr, rfl⟩
    go_wp2
    go_ret
    exact retF _ hr hwr
  · rw [if_neg h1]
    have on := order_self64 (Nat.le_of_not_lt h1)
    by_cases h2 : b % 9223372036854775808 = 0
    · rw [if_pos h2]
      rw [decide_eq_true h2] at oe
      rw [decide_eq_false (by omega)] at ol
      clear h1 h2 hn hw
      go_enter Try.func74, Try.ntmps74
      go_wp2_with fail
      refine (negInf_c _).mono ?_; rintro e w' ⟨rfl, rfl⟩
      go_wp2
      go_ret
      exact retF0 (by decide +kernel) (by decide)
    · rw [if_neg h2]
      rw [decide_eq_false h2] at oe
      by_cases h3 : 9223372036854775808 ≤ b
      · rw [if_pos h3]
        rw [decide_eq_true (by omega)] at ol
        clear h1 h2 h3 hn hw
        go_enter Try.func74, Try.ntmps74
        go_wp2_with fail
        refine (nan64_c _).mono ?_; rintro e w' ⟨r, n, rfl, hr, hwr, rfl⟩
        go_wp2
        go_ret
        exact retF _ hr hwr
      · rw [if_neg h3]
        rw [decide_eq_false (by omega)] at ol
        have hle : b ≤ 9218868437227405312 := by omega
        have II := Lib.hid (isInf_c b hle)
        by_cases h4 : b = 9218868437227405312
        · rw [if_pos h4]
          have hd := Lib.hid (decide_eq_true h4)
          have HB := Lib.hid h4
          clear h1 h2 h3 h4 hn hw hle
          go_enter Try.func74, Try.ntmps74
          go_wp2_with fail
          refine (II.out _).mono ?_; rintro e w' ⟨rfl, rfl⟩
          rw [hd.out]
          go_wp2
          go_ret
          exact retF0 (by rw [HB.out]; decide +kernel) (by rw [HB.out]; decide)
        · rw [if_neg h4]
          have hd := Lib.hid (decide_eq_false h4)
          have H1 : Hid (4503599627370496 ≤ b) := by show _ ≤ _; have := hn h2; omega
          have H2 : Hid (b < 9218868437227405312) := by show _ < _; omega
          clear h1 h2 h3 h4 hn hw hle
          go_enter Try.func74, Try.ntmps74
          go_wp2_with fail
          refine (II.out _).mono ?_; rintro e w' ⟨rfl, rfl⟩
          rw [hd.out]
          go_wp2
          go_loopw [0, 3] (fun p k wr => ∃ j d q : Nat, Hid (j = 0 ∨ 4609434218613702656 + j * 4503599627370496 ≤ b + 4503599627370496) ∧ Hid (q = b - j * 4503599627370496) ∧ k = .int .i64 (j : Nat) ∧ p = .float .f64 q ∧ wr = w.drewN d) (fun _ k _ => 3000 - (intOf k).toNat)
          case atStart => exact ⟨0, 0, b, Lib.hid (.inl rfl), Lib.hid (start_q b), rfl, rfl, by first | rfl | simp⟩
          case round =>
            obtain ⟨j, d, q, hj, hq, rfl, rfl, rfl⟩ := hrel
            obtain ⟨o15, hnext⟩ := loop1_facts H1.out H2.out hj.out hq.out
            by_cases hge : 4609434218613702656 ≤ q
            · rw [decide_eq_true hge] at o15
              obtain ⟨q2, hh, hj1, hq2, hjm⟩ := hnext.1 hge
              have HH := Lib.hid hh
              have HJ1 := Lib.hid hj1
              have HQ2 := Lib.hid hq2
              have hwr := wrap_up hjm
              clear hge hnext hh hj1 hq2
              go_wp2_with (refine wpList_fbin .f64 _ _ rfl rfl rfl rfl ?_; intro a1 m1 g1 v1)
              go_roundw
              case rel => exact ⟨j + 1, _, q2, HJ1, HQ2, rfl, by rw [bits_of g1 HH.out], rfl⟩
              case measure => simp [intOf]; omega
            · rw [decide_eq_false hge] at o15
              obtain ⟨hk, hy, hj3⟩ := hnext.2 hge
              have HK := Lib.hid hk
              have HY := Lib.hid hy
              clear hge hnext hk hy
              go_wp2
              go_loopw [0, 3] (fun p k wr => ∃ (i d r : Nat) (e : Int), Hid (i = 0 ∨ Y1 b + i * 4503599627370496 < 4609434218613702656) ∧ Hid (r = Y1 b + i * 4503599627370496) ∧ Hid (e = (j : Int) - (i : Nat)) ∧ -3000 ≤ e ∧ e ≤ 3000 ∧ k = .int .i64 e ∧ p = .float .f64 r ∧ wr = w.drewN d) (fun _ k _ => (4000 + intOf k).toNat)
              case atStart => exact ⟨0, _, q, _, Lib.hid (.inl rfl), Lib.hid (start_r HY.out), Lib.hid (start_e j), by omega, by omega, rfl, rfl, rfl⟩
              case round =>
                obtain ⟨i, d2, r, e, hi, hr, he, hem, hep, rfl, rfl, rfl⟩ := hrel
                obtain ⟨o75, hnext⟩ := loop2_facts H1.out H2.out hi.out hr.out
                by_cases hlt : r < 4604930618986332160
                · rw [decide_eq_true hlt] at o75
                  obtain ⟨r2, hh, hi1, hr2, him⟩ := hnext.1 hlt
                  have HH := Lib.hid hh
                  have HI1 := Lib.hid hi1
                  have HR2 := Lib.hid hr2
                  have HE2 := Lib.hid (next_e he.out)
                  have hem2 : -3000 ≤ e - 1 := by have := he.out; omega
                  have hwr := wrap_down hem hep
                  clear hlt hnext hh hi1 hr2
                  go_wp2_with (refine wpList_fbin .f64 _ _ rfl rfl rfl rfl ?_; intro a1 m1 g1 v1)
                  go_roundw
                  case rel => exact ⟨i + 1, _, r2, e - 1, HI1, HR2, HE2, hem2, by omega, rfl, by rw [bits_of g1 HH.out], rfl⟩
                  case measure => simp [intOf]; omega
                · rw [decide_eq_false hlt] at o75
                  obtain ⟨hk2, hrl, hrc⟩ := hnext.2 hlt
                  have HQ := Lib.hid hrl
                  have HE : Hid (e = EL b) := by show _ = _; rw [he.out]; unfold EL; rw [← HK.out, ← hk2]
                  have HC := Lib.hid hrc
                  clear hlt hnext hk2 hrl hrc
                  have tok1 : True := trivial
                  have tok2 : True := trivial
                  have tok3 : True := trivial
                  have tok4 : True := trivial
                  go_wp2_with (first | (have _t := tok1; refine wpList_fbin .f64 _ _ rfl rfl rfl rfl ?_; intro t1 nt1 ht1 wt1; clear tok1) | (have _t := tok2; refine wpList_fbin .f64 _ _ rfl rfl rfl rfl ?_; intro t2 nt2 ht2 wt2; clear tok2) | (have _t := tok3; refine wpList_fbin .f64 _ _ rfl rfl rfl rfl ?_; intro s ns hs ws; clear tok3) | (have _t := tok4; refine wpList_fbin .f64 _ _ rfl rfl rfl rfl ?_; intro u nu hu wu; clear tok4))
                  go_loopw [6, 7] (fun p k wr => ∃ m d z : Nat, m ≤ 13 ∧ k = .int .i64 (25 - 2 * (m : Nat)) ∧ p = .float .f64 z ∧ cl .f64 z = qL (cl .f64 u) m ∧ wr = w.drewN d) (fun _ k _ => (3000 + intOf k).toNat)
                  case atStart => exact ⟨0, _, 0, by decide, by simp, rfl, cl_zero _, rfl⟩
                  case round =>
                    obtain ⟨m, d3, z, hm, rfl, rfl, hz, rfl⟩ := hrel
                    have HZ := Lib.hid hz
                    clear hz
                    by_cases hm1 : m ≤ 12
                    · have hwr := wrap_two (e := 25 - 2 * (m : Int)) (by omega) (by omega)
                      have tok97 : True := trivial
                      have tok98 : True := trivial
                      have tok99 : True := trivial
                      go_wp2_with (first | (have _t := tok97; refine wpList_fbin .f64 _ _ rfl rfl rfl rfl ?_; intro a1 na1 ha1 wa1; clear tok97) | (have _t := tok98; refine wpList_fbin .f64 _ _ rfl rfl rfl rfl ?_; intro a2 na2 ha2 wa2; clear tok98) | (have _t := tok99; refine wpList_fbin .f64 _ _ rfl rfl rfl rfl ?_; intro a3 na3 ha3 wa3; clear tok99))
                      go_roundw
                      case rel => exact ⟨m + 1, _, a3, by omega, by congr 1; omega, rfl, q_step HZ.out ha1 ha2 ha3, rfl⟩
                      case measure => simp [intOf]; omega
                    · obtain rfl : m = 13 := by omega
                      have tok97 : True := trivial
                      have tok98 : True := trivial
                      have tok99 : True := trivial
                      have tok96 : True := trivial
                      go_wp2_with (first | (have _t := tok96; refine wpList_fbin .f64 _ _ rfl rfl rfl rfl ?_; intro o1 no1 ho1 wo1; clear tok96) | (have _t := tok97; refine wpList_fbin .f64 _ _ rfl rfl rfl rfl ?_; intro o2 no2 ho2 wo2; clear tok97) | (have _t := tok98; refine wpList_fbin .f64 _ _ rfl rfl rfl rfl ?_; intro o3 no3 ho3 wo3; clear tok98) | (have _t := tok99; refine wpList_fbin .f64 _ _ rfl rfl rfl rfl ?_; intro o4 no4 ho4 wo4; clear tok99))
                      go_ret
                      exact retF _ (log_end HQ.out HC.out HE.out ht1 ht2 hs hu HZ.out ho1 ho2 ho3 ho4) wo4

/-- The narrowed logarithm of a float32. -/
def logT (x : Nat) (r : Option Nat) : Prop := ∃ v, cl .f64 v = fconv .f32 .f64 (cl .f32 x) ∧ (Lit.float .f64 v).wf = true ∧ r = fconv .f64 .f32 (logW v)
theorem logT_one {x : Nat} {a b : Option Nat} (ha : logT x a) (hb : logT x b) : a = b := by
  obtain ⟨v, hv, _, rfl⟩ := ha
  obtain ⟨u, hu, _, rfl⟩ := hb
  rw [logW_cl (hv.trans hu.symm)]
theorem widened (x : Nat) (w : World) : ∃ v, cl .f64 v = fconv .f32 .f64 (cl .f32 x) ∧ (Lit.float .f64 v).wf = true := by
  obtain ⟨v, _, _, hv, hwv⟩ := run_widen_op (P := Try.prog) w (ρ := fun _ => .float .f32 x) (d := none) (src := 22) (dst := 25) (rt := 0) (x := .tmp 0) (pos := "") (aft := #[]) (g := none) x rfl Try.underlying22 Try.underlying25
  exact ⟨v, hv, hwv⟩

theorem narrow_inf {b : Nat} (hf : b % 9223372036854775808 = 9218868437227405312) : Narrows .f64 .f32 b := by
  intro s m e hd
  obtain ⟨sg, hi⟩ := read_infinity (k := .f64) (b := b) (by show b % Ieee.double.signWeight = Ieee.double.infRung; rw [dbl_sign, dbl_inf]; exact hf)
  rw [show FloatKind.f64.decode b = .infinity sg from hi] at hd; cases hd

theorem narrow_log {b r : Nat} (hw : b < 18446744073709551616) (hn : b % 9223372036854775808 ≠ 0 → 4503599627370496 ≤ b % 9223372036854775808) (h : cl .f64 r = logW b) : Narrows .f64 .f32 r := by
  unfold logW at h
  split at h
  · exact narrow_nan h
  · split at h
    · rw [bits_of h rfl]; exact narrow_inf (by decide)
    · split at h
      · exact narrow_nan h
      · split at h
        · rw [bits_of h rfl]; exact narrow_inf (by decide)
        · exact narrow_mag h (mag_mono (mag_logF (by omega) (by omega)) (by decide))

theorem norm_of {x v : Nat} (hx : x < 4294967296) (hv : cl .f64 v = fconv .f32 .f64 (cl .f32 x)) : v % 9223372036854775808 ≠ 0 → 4503599627370496 ≤ v % 9223372036854775808 := by
  rcases widen_all hx hv with ⟨_, h⟩ | ⟨_, _, _, h1, _, _, h2⟩
  · intro _; omega
  · intro h0
    have := h2 (fun h3 => h0 (h1.2 h3))
    omega

theorem specLogT_c (x : Nat) (hx : x < 4294967296) (w : World) : Calls Try.prog 16 #[.float .f32 x] w fun e w' => ∃ c, logT x c ∧ RetF .f32 w c e w' := by
  go_enter Try.func16, Try.ntmps16
  go_wp2_with (first | (go_at_call 43; go_in) | (refine wpList_widen _ rfl Try.underlying22 Try.underlying25 rfl ?_; intro v n hv hwv))
  refine (specLog_c _ (wf_sound hwv) (norm_of hx hv) _).mono ?_; rintro e w' ⟨r, n2, rfl, hr, hwr, rfl⟩
  go_wp2_with fail
  refine (l01Narrow_c _ (narrow_log (wf_sound hwv) (norm_of hx hv) hr) _).mono ?_; rintro e w' ⟨g, n3, rfl, hg, hwg, rfl⟩
  go_wp2
  go_ret
  exact ⟨_, ⟨v, hv, hwv, rfl⟩, retF _ (by rw [hg, hr]) hwg⟩

theorem negInf32_c (w : World) : Calls Try.prog 42 #[.int .i64 (-1)] w fun e w' => RetF .f32 w (fconv .f64 .f32 (some 18442240474082181120)) e w' := by
  go_enter Try.func42, Try.ntmps42
  go_wp2_with fail
  refine (negInf_c _).mono ?_; rintro e w' ⟨rfl, rfl⟩
  go_wp2_with (refine wpList_narrow _ rfl Try.underlying25 Try.underlying22 rfl (narrow_inf (by decide)) ?_; intro r2 n2 hr2 hwr2)
  go_ret
  exact retF _ (by rw [hr2, cl64_of (by decide)]) hwr2

theorem implLogT_c (x : Nat) (hx : x < 4294967296) (w : World) : Calls Try.prog 17 #[.float .f32 x] w fun e w' => ∃ c, logT x c ∧ RetF .f32 w c e w' := by
  have oe := eq0_32 x
  have ol := lt0_32 hx
  obtain ⟨v0, hv0, hwv0⟩ := widened x w
  have HA := Lib.hid (widen_all hx hv0)
  by_cases h1 : x % 2147483648 = 0
  · rw [decide_eq_true h1] at oe
    have HT : Hid (logT x (fconv .f64 .f32 (some 18442240474082181120))) := by
      refine ⟨v0, hv0, hwv0, ?_⟩
      have hA := HA.out
      unfold logW
      rw [if_neg (by omega), if_pos (by omega)]
    clear h1 ol hx hv0 hwv0 HA
    go_enter Try.func17, Try.ntmps17
    go_wp2_with fail
    refine (negInf32_c _).mono ?_; rintro e w' ⟨r, n, rfl, hr, hwr, rfl⟩
    go_wp2
    go_ret
    exact ⟨_, HT.out, retF _ hr hwr⟩
  · rw [decide_eq_false h1] at oe
    by_cases h2 : 2139095040 < x % 2147483648
    · have hn : Hid ((cl .f32 x).isNone = true) := by show _ = _; rw [cl32, if_pos h2]; rfl
      have HT : Hid (logT x none) := by
        refine ⟨v0, hv0, hwv0, ?_⟩
        have hA := HA.out
        unfold logW
        rw [if_pos (by omega)]; rfl
      clear h1 h2 ol hx hv0 hwv0 HA
      go_enter Try.func17, Try.ntmps17
      go_wp2_with fail
      refine (isNaN_c _ _).mono ?_; rintro e w' ⟨rfl, n, rfl⟩
      rw [hn.out]
      go_wp2_with fail
      refine (nan32_c _).mono ?_; rintro e w' ⟨r, n2, rfl, hr, hwr, rfl⟩
      go_wp2
      go_ret
      exact ⟨_, HT.out, retF _ hr hwr⟩
    · have hcx : cl .f32 x = some x := by rw [cl32, if_neg h2]
      have hn : Hid ((cl .f32 x).isNone = false) := by show _ = _; rw [hcx]; rfl
      by_cases h3 : 2147483648 < x
      · rw [decide_eq_true ⟨by omega, h3⟩] at ol
        have HT : Hid (logT x none) := by
          refine ⟨v0, hv0, hwv0, ?_⟩
          have hA := HA.out
          unfold logW
          rw [if_neg (by omega), if_neg (by omega), if_pos (by omega)]; rfl
        clear h1 h2 h3 hx hv0 hwv0 HA hcx
        go_enter Try.func17, Try.ntmps17
        go_wp2_with fail
        refine (isNaN_c _ _).mono ?_; rintro e w' ⟨rfl, n, rfl⟩
        rw [hn.out]
        go_wp2_with fail
        refine (nan32_c _).mono ?_; rintro e w' ⟨r, n2, rfl, hr, hwr, rfl⟩
        go_wp2
        go_ret
        exact ⟨_, HT.out, retF _ hr hwr⟩
      · rw [decide_eq_false (by omega)] at ol
        by_cases h4 : x % 2147483648 = 2139095040
        · have hf : Hid (fin .f32 (cl .f32 x) = false) := by
            show _ = _
            rw [hcx]
            show decide (x % Ieee.single.signWeight < Ieee.single.infRung) = false
            rw [sng_sign, sng_inf]; exact decide_eq_false (by omega)
          have HX : Hid (x = 2139095040) := by show _ = _; omega
          have HT : Hid (logT x (some 2139095040)) := by
            refine ⟨v0, hv0, hwv0, ?_⟩
            have hA := HA.out
            unfold logW
            rw [if_neg (by omega), if_neg (by omega), if_neg (by omega), if_pos (by omega)]
            decide +kernel
          clear h1 h2 h3 h4 hx hv0 hwv0 HA hcx
          go_enter Try.func17, Try.ntmps17
          go_wp2_with fail
          refine (isNaN_c _ _).mono ?_; rintro e w' ⟨rfl, n, rfl⟩
          rw [hn.out]
          go_wp2_with fail
          refine (implIsFinite_c _ _).mono ?_; rintro e w' ⟨rfl, n2, rfl⟩
          rw [hf.out]
          go_wp2
          go_ret
          exact ⟨_, HT.out, retF _ (by rw [HX.out]; decide +kernel) (by rw [HX.out]; decide)⟩
        · have hf : Hid (fin .f32 (cl .f32 x) = true) := by
            show _ = _
            rw [hcx]
            show decide (x % Ieee.single.signWeight < Ieee.single.infRung) = true
            rw [sng_sign, sng_inf]; exact decide_eq_true (by omega)
          have HV : Hid (∀ v, cl .f64 v = fconv .f32 .f64 (cl .f32 x) → 4503599627370496 ≤ v ∧ v < 9218868437227405312 ∧ logW v = logF v) := by
            show ∀ v, _
            intro v hv
            have hA := widen_all hx hv
            have hr : 4503599627370496 ≤ v ∧ v < 9218868437227405312 := by omega
            refine ⟨hr.1, hr.2, ?_⟩
            unfold logW
            rw [if_neg (by omega), if_neg (by omega), if_neg (by omega), if_neg (by omega)]
          clear h1 h2 h3 h4 hx hv0 hwv0 HA hcx
          go_enter Try.func17, Try.ntmps17
          go_wp2_with fail
          refine (isNaN_c _ _).mono ?_; rintro e w' ⟨rfl, n, rfl⟩
          rw [hn.out]
          go_wp2_with fail
          refine (implIsFinite_c _ _).mono ?_; rintro e w' ⟨rfl, n2, rfl⟩
          rw [hf.out]
          go_wp2_with (refine wpList_widen _ rfl Try.underlying22 Try.underlying25 rfl ?_; intro v n3 hv hwv)
          obtain ⟨k1, k2, k3⟩ := HV.out v hv
          refine (implLog_c _ k1 k2 _).mono ?_; rintro e w' ⟨r, n4, rfl, hr, hwr, rfl⟩
          go_wp2_with (refine wpList_narrow _ rfl Try.underlying25 Try.underlying22 rfl (narrow_mag hr (mag_mono (mag_logF k1 k2) (by decide))) ?_; intro g n5 hg hwg)
          go_ret
          exact ⟨_, ⟨v, hv, hwv, rfl⟩, retF _ (by rw [hg, hr, k3]) hwg⟩

theorem law_LogNumber (x : Nat) (w : World) (hw : (Lit.float .f32 x).wf = true) : Calls Try.prog 4 #[.float .f32 x] w fun e w' => e = .returned (.bool true) ∧ Below w.heap.size w w' := by
  have hx : x < 4294967296 := by simpa [Lit.wf] using hw
  have S := Lib.hid (specLogT_c x hx)
  have I := Lib.hid (implLogT_c x hx)
  clear hx hw
  go_enter Try.func4, Try.ntmps4
  go_wp2_with fail
  refine (S.out _).mono ?_; rintro e w' ⟨c1, s1, a, n1, rfl, ha, hwa, rfl⟩
  go_wp2_with fail
  refine (I.out _).mono ?_; rintro e w' ⟨c2, s2, b, n2, rfl, hb, hwb, rfl⟩
  have tok1 : True := trivial
  have tok2 : True := trivial
  go_wp2_with (first | (have _t := tok1; refine wpList_widen _ rfl Try.underlying22 Try.underlying25 rfl ?_; intro u1 m1 g1 v1; clear tok1) | (have _t := tok2; refine wpList_widen _ rfl Try.underlying22 Try.underlying25 rfl ?_; intro u2 m2 g2 v2; clear tok2))
  refine (sameFloat_c _ _ _ (by rw [g1, g2, ha, hb, logT_one s1 s2])).mono ?_
  rintro e w' ⟨rfl, m, rfl⟩
  go_wp2_with fail
  go_ret
  exact lawOk _
end Go.Proofs.Ytemolaojjnpfnaa
