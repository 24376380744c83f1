/-
  Plain laws: the logarithm, told as a function of bits, and how great it can be. No condition.
-/
import Derived.Test.YtemolaojjnpfnaaPha
import Derived.Test.YtemolaojjnpfnaaWkS3
namespace Go.Proofs.Ytemolaojjnpfnaa
set_option linter.unusedVariables false
open Ieee

/-! ### halved and doubled into place -/
def K1 (b : Nat) : Nat := if b < 4609434218613702656 then 0 else (b - 4609434218613702656) / 4503599627370496 + 1
def Y1 (b : Nat) : Nat := b - K1 b * 4503599627370496
def K2 (y : Nat) : Nat := if 4604930618986332160 ≤ y then 0 else (4604930618986332160 - y - 1) / 4503599627370496 + 1
def YL (b : Nat) : Nat := Y1 b + K2 (Y1 b) * 4503599627370496
def EL (b : Nat) : Int := (K1 b : Int) - (K2 (Y1 b) : Int)

theorem k1_stop {b j : Nat} (h0 : j = 0 ∨ 4609434218613702656 + j * 4503599627370496 ≤ b + 4503599627370496) (h1 : b - j * 4503599627370496 < 4609434218613702656) : j = K1 b := by
  unfold K1
  split <;> omega
theorem k2_stop {y i : Nat} (h0 : i = 0 ∨ y + i * 4503599627370496 < 4604930618986332160 + 4503599627370496) (h1 : 4604930618986332160 ≤ y + i * 4503599627370496) : i = K2 y := by
  unfold K2
  split <;> omega
theorem y1_range {b : Nat} (h1 : 4503599627370496 ≤ b) (h2 : b < 9218868437227405312) : 4503599627370496 ≤ Y1 b ∧ Y1 b < 4609434218613702656 ∧ K1 b ≤ 1024 := by
  unfold Y1 K1
  split <;> omega
theorem yl_range {b : Nat} (h1 : 4503599627370496 ≤ b) (h2 : b < 9218868437227405312) : 4604930618986332160 ≤ YL b ∧ YL b < 4609434218613702656 ∧ K2 (Y1 b) ≤ 1024 := by
  obtain ⟨h3, h4, h5⟩ := y1_range h1 h2
  unfold YL K2
  generalize Y1 b = y at *
  split <;> omega

/-! ### the series -/
def qL (u : Option Nat) : Nat → Option Nat
  | 0 => some 0
  | j + 1 => fbin .add .f64 (fbin .quo .f64 (some c1) (some (floatOfInt .f64 (25 - 2 * (j : Int))))) (fbin .mul .f64 u (qL u j))
def sL (y : Option Nat) : Option Nat := fbin .quo .f64 (fbin .sub .f64 y (some c1)) (fbin .add .f64 y (some c1))
def logV (y : Option Nat) (e : Int) : Option Nat :=
  fbin .add .f64 (fbin .mul .f64 (some 4611686018427387904) (fbin .mul .f64 (sL y) (qL (fbin .mul .f64 (sL y) (sL y)) 13))) (fbin .mul .f64 (some (floatOfInt .f64 e)) (some 4604418534313441775))
def logF (b : Nat) : Option Nat := logV (some (YL b)) (EL b)

theorem sum_diff {m n : Nat} {e f i : Int} (hm : m = 0 ∨ ∃ k : Nat, m ≤ 2 ^ k ∧ (k : Int) + e ≤ i) (hn : n = 0 ∨ ∃ k : Nat, n ≤ 2 ^ k ∧ (k : Int) + f ≤ i) :
    ∃ d, (Datum.number false m e).sum (.number true n f) = some d ∧ MagD d i := by
  refine ⟨_, rfl, _, _, _, rfl, ?_⟩
  have hA : m <<< (e - min e f).toNat = 0 ∨ m <<< (e - min e f).toNat ≤ 2 ^ (i - min e f).toNat ∧ min e f ≤ i := by
    rcases hm with rfl | ⟨k, h1, h2⟩
    · left; rw [Nat.zero_shiftLeft]
    · right; exact ⟨shift_le h1 h2 (by omega), by omega⟩
  have hB : n <<< (f - min e f).toNat = 0 ∨ n <<< (f - min e f).toNat ≤ 2 ^ (i - min e f).toNat ∧ min e f ≤ i := by
    rcases hn with rfl | ⟨k, h1, h2⟩
    · left; rw [Nat.zero_shiftLeft]
    · right; exact ⟨shift_le h1 h2 (by omega), by omega⟩
  unfold signed
  simp only [Bool.false_eq_true, if_false, if_true]
  generalize m <<< (e - min e f).toNat = A at *
  generalize n <<< (f - min e f).toNat = B at *
  by_cases h0 : A = 0 ∧ B = 0
  · left; omega
  · right
    refine ⟨(i - min e f).toNat, by omega, by omega⟩

theorem nn_sub {a b : Option Nat} {i : Int} (ha : Nn a i) (hb : Nn b i) (hi : -1022 ≤ i) (hu : i ≤ 1023) : Mag (fbin .sub .f64 a b) i := by
  obtain ⟨x, m, e, rfl, hx, hm⟩ := ha
  obtain ⟨y, n, f, rfl, hy, hn⟩ := hb
  rw [fbin_sub, hx, hy]
  obtain ⟨d, hd, hM⟩ := sum_diff hm hn
  show Mag (((Datum.number false m e).sum (.number true n f)).map Ieee.double.write) i
  rw [hd]
  exact write_mag hi hu hM

theorem low_odd : ∀ j : Nat, j < 13 → Low (some (floatOfInt .f64 (25 - 2 * (j : Int)))) 0 := by
  intro j hj
  have key : ∀ n : Nat, 1 ≤ n → n < 9007199254740992 → Low (some (floatOfInt .f64 (n : Int))) 0 := by
    intro n h1 h2
    have hw : floatOfInt .f64 (n : Int) = Ieee.double.write (.number false n 0) := by
      show FloatKind.f64.encode (.number (decide ((n : Int) < 0)) (n : Int).natAbs 0) = _
      rw [decide_eq_false (by omega), Int.natAbs_natCast]; rfl
    rw [hw]
    exact write_low (by decide) (by decide) ⟨_, _, _, rfl, 0, by omega, by decide⟩ (j := 53) (by decide) (by decide) ⟨_, _, _, rfl, .inr ⟨53, by omega, by decide⟩⟩
  have := key (25 - 2 * j) (by omega) (by omega)
  rwa [show (((25 - 2 * j : Nat)) : Int) = 25 - 2 * (j : Int) by omega] at this

theorem mag_qL {u : Option Nat} (hu : Mag u 2) : ∀ j : Nat, j ≤ 13 → Mag (qL u j) (3 * j) := by
  intro j
  induction j with
  | zero => intro _; exact mag_zero _ (by decide)
  | succ j ih =>
    intro hj
    have h1 := mag_mul hu (ih (by omega)) (by omega) (by omega)
    have h2 := mag_quo mag_c1 (low_odd j (by omega)) (by decide) (by decide)
    have h3 := mag_add (mag_mono h2 (show (0 : Int) - 0 ≤ 2 + 3 * j by omega)) h1 (by omega) (by omega)
    exact mag_mono h3 (by omega)

theorem mag_int {e : Int} (h1 : -2048 ≤ e) (h2 : e ≤ 2048) : Mag (some (floatOfInt .f64 e)) 11 :=
  write_mag (d := .number (e < 0) e.natAbs 0) (by decide) (by decide) ⟨_, _, _, rfl, .inr ⟨11, by omega, by decide⟩⟩

theorem mag_ln2 : Mag (some 4604418534313441775) 0 := ⟨_, rfl, read_mag (by decide) (by decide) (by decide +kernel)⟩
theorem mag_two : Mag (some 4611686018427387904) 1 := ⟨_, rfl, read_mag (by decide) (by decide) (by decide +kernel)⟩

theorem mag_logF {b : Nat} (h1 : 4503599627370496 ≤ b) (h2 : b < 9218868437227405312) : Mag (logF b) 42 := by
  obtain ⟨h3, h4, h5⟩ := yl_range h1 h2
  obtain ⟨_, _, h6⟩ := y1_range h1 h2
  have hy : Nn (some (YL b)) 1 := nn_bits (by decide) (by decide) (by rw [show R 1 = 4611686018427387904 from rfl]; omega)
  have ho : Nn (some c1) 1 := nn_mono nn_one (by decide)
  have hs : Mag (sL (some (YL b))) 1 := mag_quo (nn_sub hy ho (by decide) (by decide)) (low_add_one hy (by decide) (by decide)) (by decide) (by decide)
  have hu := mag_mul hs hs (by decide) (by decide)
  have hq := mag_qL hu 13 (by decide)
  have hp := mag_mul mag_two (mag_mul hs hq (by decide) (by decide)) (by decide) (by decide)
  have he := mag_mul (mag_int (e := EL b) (by unfold EL; omega) (by unfold EL; omega)) mag_ln2 (by decide) (by decide)
  exact mag_mono (mag_add hp (mag_mono he (by decide)) (by decide) (by decide)) (by decide)

/-- The logarithm of a widened number, for every class. -/
def logW (b : Nat) : Option Nat :=
  if 9218868437227405312 < b % 9223372036854775808 then none
  else if b % 9223372036854775808 = 0 then some 18442240474082181120
  else if 9223372036854775808 ≤ b then none
  else if b = 9218868437227405312 then some 9218868437227405312
  else logF b

theorem logW_cl {a b : Nat} (h : cl .f64 a = cl .f64 b) : logW a = logW b := by
  cases h1 : cl .f64 a with
  | none =>
    have ha := cl64_none h1
    rw [h1] at h
    have hb := cl64_none h.symm
    unfold logW
    rw [if_pos ha, if_pos hb]
  | some c =>
    rw [h1] at h
    rw [← (cl64_some h1).1, (cl64_some h.symm).1]

/-! ### a widened float32 -/
theorem widen_all {x v : Nat} (hx : x < 4294967296) (hv : cl .f64 v = fconv .f32 .f64 (cl .f32 x)) :
    (2139095040 < x % 2147483648 ∧ 9218868437227405312 < v % 9223372036854775808) ∨
    (x % 2147483648 ≤ 2139095040 ∧ v < 18446744073709551616 ∧ (v < 9223372036854775808 ↔ x < 2147483648) ∧ (v % 9223372036854775808 = 0 ↔ x % 2147483648 = 0) ∧
      (v % 9223372036854775808 < 9218868437227405312 ↔ x % 2147483648 < 2139095040) ∧ v % 9223372036854775808 ≤ 9218868437227405312 ∧ (x % 2147483648 ≠ 0 → 3936146074321813504 ≤ v % 9223372036854775808)) := by
  cases hc : cl .f32 x with
  | none =>
    left
    rw [hc] at hv
    exact ⟨cl32_none hc, cl64_none hv⟩
  | some c =>
    right
    obtain ⟨rfl, hle⟩ := cl32_some hc
    rw [hc] at hv
    have hv' : cl .f64 v = some (FloatKind.f64.encode (FloatKind.f32.decode c)) := hv
    obtain ⟨e, hn⟩ := cl64_some hv'
    obtain ⟨r, hr, h1, h2, _⟩ := widen_parts hle
    rw [e] at hr
    have hr2 : r < 9218868437227405312 ↔ c % 2147483648 < 2139095040 := by
      rcases Nat.lt_or_eq_of_le hle with h3 | h3
      · have hf : fin .f32 (cl .f32 c) = true := by
          rw [hc]
          show decide (c % Ieee.single.signWeight < Ieee.single.infRung) = true
          rw [sng_sign, sng_inf]; exact decide_eq_true h3
        have := widen_fin (by rw [hc]; exact hv) hf
        rw [hr] at this
        split at this <;> omega
      · have e1 := widen_inf h3
        rw [e, hr] at e1
        omega
    have hlow : c % 2147483648 ≠ 0 → 3936146074321813504 ≤ r := by
      intro h0
      rcases Nat.lt_or_eq_of_le hle with h3 | h3
      · obtain ⟨s, m, ee, hd⟩ : ∃ s m e, Ieee.single.read c = .number s m e := read_number (k := .f32) (by show c % Ieee.single.signWeight < Ieee.single.infRung; rw [sng_sign, sng_inf]; exact h3)
        obtain ⟨k1, k2, k3, k4⟩ := read32_number hd
        have hm0 : 1 ≤ m := by
          rcases Nat.eq_zero_or_pos m with rfl | h
          · exfalso
            have hw : FloatKind.f64.encode (FloatKind.f32.decode c) = Ieee.double.write (.number s 0 ee) := by
              show Ieee.double.write (Ieee.single.read c) = _
              rw [hd]
            have hz : Ieee.double.write (.number s 0 ee) = Ieee.double.word s 0 := by
              show Ieee.double.nearest s 0 ee = _
              unfold Format.nearest
              simp
            rw [e, hr, hz, word_dbl] at hw
            have : r % 9223372036854775808 = 0 := by
              have h8 : (if s = true then 9223372036854775808 else 0) = 0 ∨ (if s = true then 9223372036854775808 else 0) = 9223372036854775808 := by cases s <;> simp
              generalize (if s = true then 9223372036854775808 else 0) = g at *
              split at hw <;> omega
            omega
          · exact h
        have hlw := nearest_low (s := s) (m := m) (e := ee) (i := -149) (by decide) (by decide) (k := 0) hm0 (by omega)
        have hw : FloatKind.f64.encode (FloatKind.f32.decode c) = Ieee.double.nearest s m ee := by
          show Ieee.double.write (Ieee.single.read c) = _
          rw [hd]; rfl
        rw [← hw, e, hr] at hlw
        have hR : R (-149) = 3936146074321813504 := rfl
        split at hlw <;> omega
      · omega
    rw [hr]
    generalize hsg : (if c / 2147483648 % 2 = 1 then 9223372036854775808 else 0) = sg at *
    have hsg2 : (sg = 0 ∧ c < 2147483648) ∨ (sg = 9223372036854775808 ∧ 2147483648 ≤ c) := by
      rw [← hsg]
      split
      · right; omega
      · left; omega
    refine ⟨hle, ?_, ?_, ?_, ?_, ?_, ?_⟩
    all_goals (rcases hsg2 with ⟨rfl, h5⟩ | ⟨rfl, h5⟩ <;> omega)

/-! ### tests against nought -/
theorem eq0_32 (x : Nat) : (FloatKind.f32.format.order x 0 == some .eq) = decide (x % 2147483648 = 0) := by
  rw [show FloatKind.f32.format.order x 0 = ford .f32 (cl .f32 x) (cl .f32 0) from order_cl .f32 x 0]
  cases hc : cl .f32 x with
  | none =>
    have := cl32_none hc
    rw [decide_eq_false (by omega)]; rfl
  | some c =>
    obtain ⟨rfl, hle⟩ := cl32_some hc
    rw [cl_zero, ford_sr .f32 c 0 hc (cl_zero _), show sr .f32 0 = 0 from by decide +kernel, sr32, int_compare]
    by_cases h0 : c % 2147483648 = 0
    · rw [h0]; simp
    · rw [decide_eq_false h0]
      split
      · rw [if_pos (by omega)]; rfl
      · rw [if_neg (by omega), if_neg (by omega)]; rfl
theorem lt0_32 {x : Nat} (hx : x < 4294967296) : (FloatKind.f32.format.order x 0 == some .lt) = decide (x % 2147483648 ≤ 2139095040 ∧ 2147483648 < x) := by
  rw [show FloatKind.f32.format.order x 0 = ford .f32 (cl .f32 x) (cl .f32 0) from order_cl .f32 x 0]
  cases hc : cl .f32 x with
  | none =>
    have := cl32_none hc
    rw [decide_eq_false (by omega)]; rfl
  | some c =>
    obtain ⟨rfl, hle⟩ := cl32_some hc
    rw [cl_zero, ford_sr .f32 c 0 hc (cl_zero _), show sr .f32 0 = 0 from by decide +kernel, sr32, int_compare]
    by_cases h0 : 2147483648 < c
    · rw [decide_eq_true ⟨hle, h0⟩]
      rw [if_pos (by omega)]; rfl
    · rw [decide_eq_false (by omega)]
      split
      · rw [if_neg (by omega), if_pos (by omega)]; rfl
      · rw [if_neg (by omega)]
        split <;> rfl
theorem eq0_64 (x : Nat) : (FloatKind.f64.format.order x 0 == some .eq) = decide (x % 9223372036854775808 = 0) := by
  rw [show FloatKind.f64.format.order x 0 = ford .f64 (cl .f64 x) (cl .f64 0) from order_cl .f64 x 0]
  cases hc : cl .f64 x with
  | none =>
    have := cl64_none hc
    rw [decide_eq_false (by omega)]; rfl
  | some c =>
    obtain ⟨rfl, hle⟩ := cl64_some hc
    rw [cl_zero, ford_sr .f64 c 0 hc (cl_zero _), show sr .f64 0 = 0 from by decide +kernel, sr64, int_compare]
    by_cases h0 : c % 9223372036854775808 = 0
    · rw [h0]; simp
    · rw [decide_eq_false h0]
      split
      · rw [if_pos (by omega)]; rfl
      · rw [if_neg (by omega), if_neg (by omega)]; rfl
theorem lt0_64 {x : Nat} (hx : x < 18446744073709551616) : (FloatKind.f64.format.order x 0 == some .lt) = decide (x % 9223372036854775808 ≤ 9218868437227405312 ∧ 9223372036854775808 < x) := by
  rw [show FloatKind.f64.format.order x 0 = ford .f64 (cl .f64 x) (cl .f64 0) from order_cl .f64 x 0]
  cases hc : cl .f64 x with
  | none =>
    have := cl64_none hc
    rw [decide_eq_false (by omega)]; rfl
  | some c =>
    obtain ⟨rfl, hle⟩ := cl64_some hc
    rw [cl_zero, ford_sr .f64 c 0 hc (cl_zero _), show sr .f64 0 = 0 from by decide +kernel, sr64, int_compare]
    by_cases h0 : 9223372036854775808 < c
    · rw [decide_eq_true ⟨hle, h0⟩]
      rw [if_pos (by omega)]; rfl
    · rw [decide_eq_false (by omega)]
      split
      · rw [if_neg (by omega), if_pos (by omega)]; rfl
      · rw [if_neg (by omega)]
        split <;> rfl
end Go.Proofs.Ytemolaojjnpfnaa
