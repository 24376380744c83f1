/-
  The contract of math.Ldexp at positive normal numbers with a normal answer, and at nought. No condition.
-/
import Derived.Test.YtpjonajpgidjfaaCmn
import Derived.Test.YtpjonajpgidjfaaVal
namespace Go.Proofs.Ytpjonajpgidjfaa
set_option linter.unusedVariables false
open Go.RowKit Ieee

theorem order_f64l (x y : Nat) : FloatKind.f64.format.order x y = ford .f64 (cl .f64 x) (cl .f64 y) := order_cl .f64 x y

theorem eq0_pos {b : Nat} (h1 : 0 < b) (h : b < 9218868437227405312) : (FloatKind.f64.format.order b 0 == some .eq) = false := by
  rw [order_f64l, cl64_of (by omega), cl_zero, ford_pos (by omega) (by decide), int_compare, if_neg (by omega), if_neg (by omega)]; rfl

theorem gt_fin {b : Nat} (h : b < 9218868437227405312) : (FloatKind.f64.format.order b 9218868437227405311 == some .gt) = false := by
  rw [order_f64l, cl64_of (by omega), cl64_of (by decide), ford_pos (by omega) (by decide), int_compare]
  split
  · rfl
  · split
    · rfl
    · exfalso; omega

theorem lt_norm {b : Nat} (h1 : 4503599627370496 ≤ b) (h : b < 9218868437227405312) : (FloatKind.f64.format.order b 4503599627370496 == some .lt) = false := by
  rw [order_f64l, cl64_of (by omega), cl64_of (by decide), lt_pos (by omega) (by decide)]; exact decide_eq_false (by omega)

/-- One times a number. -/
theorem one_times {b : Nat} (h1 : 4503599627370496 ≤ b) (h2 : b < 9218868437227405312) : fbin .mul .f64 (some 4607182418800017408) (some b) = some b := by
  have ro : Ieee.double.read 4607182418800017408 = .number false 4503599627370496 (-52) := by decide +kernel
  rw [fbin_mul, ro, read_normal h1 (by omega)]
  have hc := sum_split b
  have hm := Nat.mod_lt b (show 0 < 4503599627370496 by decide)
  have e : ∀ (M : Nat) (E : Int), (Datum.number false 4503599627370496 (-52)).product (.number false M E) = some (.number false (M * 2 ^ 52) (-52 + E)) := by
    intro M E
    have e0 : (4503599627370496 : Nat) * M = M * 2 ^ 52 := by
      rw [show (2 : Nat) ^ 52 = 4503599627370496 from by decide +kernel, Nat.mul_comm]
    show some (Datum.number (false ^^ false) (4503599627370496 * M) (-52 + E)) = _
    rw [e0]; rfl
  rw [e, Option.map_some]
  refine congrArg some ?_
  show Ieee.double.nearest false ((4503599627370496 + b % 4503599627370496) * 2 ^ 52) (-52 + (-1075 + (b / 4503599627370496 : Nat))) = b
  rw [nearest_53 false 52 (by omega) (by omega) (by omega) (by omega), word_pos]
  have : (-52 + (-1075 + ((b / 4503599627370496 : Nat) : Int)) + ((52 : Nat) : Int) + 1074).toNat = b / 4503599627370496 - 1 := by omega
  rw [this]
  omega

theorem and_7ff (n : Nat) : n &&& 2047 = n % 2048 := by
  rw [show (2047 : Nat) = 2 ^ 11 - 1 from rfl, Nat.and_two_pow_sub_one_eq_mod]

/-- The bits of a mantissa. -/
theorem clear_exp {b : Nat} (h : b < 9218868437227405312) : bits .andNot .u64 (b : Int) 9218868437227405312 = ((b % 4503599627370496 : Nat) : Int) := by
  have := u64_andNot_nat b 9218868437227405312 (by omega) (by omega)
  rw [show ((9218868437227405312 : Nat) : Int) = (9218868437227405312 : Int) from rfl] at this
  rw [this]
  have e : b &&& (18446744073709551615 - 9218868437227405312) = b % 4503599627370496 := by
    apply Nat.eq_of_testBit_eq
    intro i
    rw [Nat.testBit_and, show (4503599627370496 : Nat) = 2 ^ 52 from by decide +kernel, Nat.testBit_mod_two_pow]
    by_cases hi : i < 52
    · have hm : Nat.testBit (18446744073709551615 - 9218868437227405312) i = true := by
        have : ∀ j, j < 52 → Nat.testBit (18446744073709551615 - 9218868437227405312) j = true := by decide +kernel
        exact this i hi
      rw [hm]; simp [hi]
    · by_cases h63 : i < 63
      · have hm : Nat.testBit (18446744073709551615 - 9218868437227405312) i = false := by
          have : ∀ j, j < 63 → 52 ≤ j → Nat.testBit (18446744073709551615 - 9218868437227405312) j = false := by decide +kernel
          exact this i h63 (by omega)
        rw [hm]; simp [hi]
      · have hb : b.testBit i = false := by
          apply Nat.testBit_lt_two_pow
          exact Nat.lt_of_lt_of_le (show b < 2 ^ 63 by rw [show (2 : Nat) ^ 63 = 9223372036854775808 from by decide +kernel]; omega) (Nat.pow_le_pow_right (by decide) (by omega))
        rw [hb]; simp
  rw [e]

theorem or_exp {f p : Nat} (hf : f < 4503599627370496) (hp : p < 2048) : bits .or .u64 (f : Int) ((p * 4503599627370496 : Nat) : Int) = ((p * 4503599627370496 + f : Nat) : Int) := by
  rw [u64_or_nat f (p * 4503599627370496) (by omega) (by omega)]
  have e : f ||| p * 4503599627370496 = p * 4503599627370496 + f := by
    rw [Nat.or_comm, Nat.mul_comm, show (4503599627370496 : Nat) = 2 ^ 52 from by decide +kernel]
    exact (Nat.two_pow_add_eq_or_of_lt (by rw [show (2 : Nat) ^ 52 = 4503599627370496 from by decide +kernel]; exact hf) p).symm
  rw [e]

theorem absL_c (x : Nat) (hw : (Lit.float .f64 x).wf = true) (w : World) : Calls Try.prog 110 #[.float .f64 x] w fun e w' => e = .returned (.float .f64 (x % 9223372036854775808)) ∧ w = w' := by
  have hx : x < 18446744073709551616 := by simpa [Lit.wf] using hw
  have hb := abs_bits x hx
  clear hx hw
  go_enter Try.func110, Try.ntmps110
  go_wp2
  go_ret
  exact ⟨rfl, rfl⟩
theorem isInf0_c (b : Nat) (h : b < 9218868437227405312) (w : World) : Calls Try.prog 104 #[.float .f64 b, .int .i64 0] w fun e w' => e = .returned (.bool false) ∧ w = w' := by
  have hg := gt_fin h
  have A := Lib.hid (absL_c b (by simp [Lit.wf]; omega))
  have hm : Hid (b % 9223372036854775808 = b) := Nat.mod_eq_of_lt (by omega)
  clear h
  go_enter Try.func104, Try.ntmps104
  go_wp2_with fail
  refine (A.out _).mono ?_; rintro e w' ⟨rfl, rfl⟩
  rw [hm.out]
  go_wp2
  go_ret
  exact ⟨rfl, rfl⟩
theorem isNaN64_c (b : Nat) (h : b < 9218868437227405312) (w : World) : Calls Try.prog 105 #[.float .f64 b] w fun e w' => e = .returned (.bool false) ∧ w = w' := by
  have hg : (FloatKind.f64.format.order b b != some .eq) = false := by
    rw [order_f64l, ne_self, cl64_of (by omega)]; rfl
  clear h
  go_enter Try.func105, Try.ntmps105
  go_wp2
  go_ret
  exact ⟨rfl, rfl⟩
theorem normalize_c (b : Nat) (h1 : 4503599627370496 ≤ b) (h : b < 9218868437227405312) (w : World) : Calls Try.prog 106 #[.float .f64 b] w fun e w' => e = .returned (.tuple #[.float .f64 b, .int .i64 0]) ∧ w = w' := by
  have hg := lt_norm h1 h
  have A := Lib.hid (absL_c b (by simp [Lit.wf]; omega))
  have hm : Hid (b % 9223372036854775808 = b) := Nat.mod_eq_of_lt (by omega)
  clear h h1
  go_enter Try.func106, Try.ntmps106
  go_wp2_with fail
  refine (A.out _).mono ?_; rintro e w' ⟨rfl, rfl⟩
  rw [hm.out]
  go_wp2
  go_ret2
  exact ⟨rfl, rfl⟩

/-- What the exponents come to. -/
theorem exp_facts {b : Nat} {ex : Int} (h2 : b < 9218868437227405312) (h3 : 1 ≤ ((b / 4503599627370496 : Nat) : Int) + ex) (h4 : ((b / 4503599627370496 : Nat) : Int) + ex ≤ 2046) :
    wrap64 ex = ex ∧ bits .and .i64 (wrap64 ((b : Int) / 4503599627370496)) 2047 = ((b / 4503599627370496 : Nat) : Int) ∧ wrap64 (((b / 4503599627370496 : Nat) : Int) - 1023) = ((b / 4503599627370496 : Nat) : Int) - 1023 ∧
      wrap64 (ex + (((b / 4503599627370496 : Nat) : Int) - 1023)) = ex + (((b / 4503599627370496 : Nat) : Int) - 1023) := by
  have hq : b / 4503599627370496 < 2047 := by omega
  refine ⟨by unfold wrap64; omega, ?_, by unfold wrap64; omega, by unfold wrap64; omega⟩
  have e1 : wrap64 ((b : Int) / 4503599627370496) = ((b / 4503599627370496 : Nat) : Int) := by unfold wrap64; omega
  rw [e1]
  have := i64_and_nat (b / 4503599627370496) 2047 (by omega) (by omega)
  rw [show ((2047 : Nat) : Int) = 2047 from rfl] at this
  rw [this, and_7ff, Nat.mod_eq_of_lt (by omega)]

theorem or_pack {q f r : Nat} {ex : Int} (hf : f < 4503599627370496) (h3 : 1 ≤ (q : Int) + ex) (h4 : (q : Int) + ex ≤ 2046) (hr : (r : Int) = q * 4503599627370496 + f + ex * 4503599627370496) :
    bits .or .u64 (f : Int) ((ex + ((q : Int) - 1023) + 1023) * 4503599627370496) = (r : Int) ∧ 4503599627370496 ≤ r ∧ r < 9218868437227405312 := by
  obtain ⟨p, hp⟩ : ∃ p : Nat, (p : Int) = (q : Int) + ex := ⟨((q : Int) + ex).toNat, Int.toNat_of_nonneg (by omega)⟩
  have er : p * 4503599627370496 + f = r := by omega
  have hp1 : 1 ≤ p := by omega
  have hp2 : p ≤ 2046 := by omega
  have e2 : (ex + ((q : Int) - 1023) + 1023) * 4503599627370496 = ((p * 4503599627370496 : Nat) : Int) := by omega
  rw [e2, or_exp hf (by omega), er]
  refine ⟨rfl, ?_, ?_⟩ <;> omega

theorem or_facts {b r : Nat} {ex : Int} (h3 : 1 ≤ ((b / 4503599627370496 : Nat) : Int) + ex) (h4 : ((b / 4503599627370496 : Nat) : Int) + ex ≤ 2046) (hr : (r : Int) = b + ex * 4503599627370496) :
    bits .or .u64 ((b : Int) % 4503599627370496) ((ex + (((b / 4503599627370496 : Nat) : Int) - 1023) + 1023) * 4503599627370496) = (r : Int) ∧ 4503599627370496 ≤ r ∧ r < 9218868437227405312 := by
  have e1 : (b : Int) % 4503599627370496 = ((b % 4503599627370496 : Nat) : Int) := rfl
  rw [e1]
  have hf : b % 4503599627370496 < 4503599627370496 := Nat.mod_lt _ (by decide)
  have hb : b = b / 4503599627370496 * 4503599627370496 + b % 4503599627370496 := by omega
  have hr' : (r : Int) = ((b / 4503599627370496 : Nat) : Int) * 4503599627370496 + ((b % 4503599627370496 : Nat) : Int) + ex * 4503599627370496 := by
    rw [hr]; omega
  exact or_pack hf h3 h4 hr'

theorem ldexp_c (b r : Nat) (ex : Int) (h1 : 4503599627370496 ≤ b) (h2 : b < 9218868437227405312) (h3 : 1 ≤ ((b / 4503599627370496 : Nat) : Int) + ex) (h4 : ((b / 4503599627370496 : Nat) : Int) + ex ≤ 2046) (hr : (r : Int) = b + ex * 4503599627370496) (w : World) :
    Calls Try.prog 100 #[.float .f64 b, .int .i64 ex] w fun e w' => ∃ n, e = .returned (.float .f64 r) ∧ w' = w.drewN n := by
  have oe := eq0_pos (b := b) (by omega) h2
  have I := Lib.hid (isInf0_c b h2)
  have N := Lib.hid (isNaN64_c b h2)
  have Z := Lib.hid (normalize_c b h1 h2)
  obtain ⟨w1, w2, w3, w4⟩ := exp_facts h2 h3 h4
  obtain ⟨o1, o2, o3⟩ := or_facts h3 h4 hr
  have HM := Lib.hid (one_times o2 o3)
  have HC := Lib.hid (cl64_of (b := r) (by omega))
  have ca := clear_exp h2
  have x3 : ¬ ex + (((b / 4503599627370496 : Nat) : Int) - 1023) < -1075 := by omega
  have x4 : ¬ 1023 < ex + (((b / 4503599627370496 : Nat) : Int) - 1023) := by omega
  have x5 : ¬ ex + (((b / 4503599627370496 : Nat) : Int) - 1023) < -1022 := by omega
  have w5 : wrap64 (ex + (((b / 4503599627370496 : Nat) : Int) - 1023) + 1023) = ex + (((b / 4503599627370496 : Nat) : Int) - 1023) + 1023 := by unfold wrap64; omega
  clear h1 h2 h3 h4 hr o2 o3
  generalize hE : ((b / 4503599627370496 : Nat) : Int) = E at *
  clear hE
  go_enter Try.func100, Try.ntmps100
  go_wp2_with fail
  refine (I.out _).mono ?_; rintro e w' ⟨rfl, rfl⟩
  go_wp2_with fail
  refine (N.out _).mono ?_; rintro e w' ⟨rfl, rfl⟩
  go_wp2_with fail
  refine (Z.out _).mono ?_; rintro e w' ⟨rfl, rfl⟩
  go_wp2_with (refine wpList_fbin .f64 _ r rfl rfl (by first | rfl | simp [*]) rfl ?_; intro q n hq hwq)
  go_ret
  have e : q = r := by
    rw [HC.out, cl64_of (b := 4607182418800017408) (by decide), HM.out] at hq
    exact (cl64_some hq).1.symm
  subst e
  exact ⟨_, rfl, rfl⟩
/-- What math.Ldexp is asked for, and what it gives: nought, or a normal number with a normal answer. -/
def Scaled (b : Nat) (ex : Int) (r : Nat) : Prop :=
  ((b = 0 ∨ b = 9223372036854775808) ∧ r = b) ∨ (4503599627370496 ≤ b ∧ b < 9218868437227405312 ∧ 1 ≤ ((b / 4503599627370496 : Nat) : Int) + ex ∧ ((b / 4503599627370496 : Nat) : Int) + ex ≤ 2046 ∧ (r : Int) = b + ex * 4503599627370496)

theorem Ldexp_c (b r : Nat) (ex : Int) (h : Scaled b ex r) (w : World) :
    Calls Try.prog 85 #[.float .f64 b, .int .i64 ex] w fun e w' => ∃ n, e = .returned (.float .f64 r) ∧ w' = w.drewN n := by
  rcases h with ⟨hb, rfl⟩ | ⟨h1, h2, h3, h4, hr⟩
  · have oe : (FloatKind.f64.format.order r 0 == some .eq) = true := by rcases hb with rfl | rfl <;> decide +kernel
    clear hb
    go_enter Try.func85, Try.ntmps85
    go_wp2_with go_in
    go_ret
    exact ⟨0, rfl, rfl⟩
  · have C := Lib.hid (ldexp_c b r ex h1 h2 h3 h4 hr)
    clear h1 h2 h3 h4 hr
    go_enter Try.func85, Try.ntmps85
    go_wp2_with fail
    refine (C.out _).mono ?_; rintro e w' ⟨n, rfl, rfl⟩
    go_wp2
    go_ret
    exact ⟨n, rfl, rfl⟩
end Go.Proofs.Ytpjonajpgidjfaa
