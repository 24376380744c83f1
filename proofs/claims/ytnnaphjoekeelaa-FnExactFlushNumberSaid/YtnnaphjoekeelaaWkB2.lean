/-
  The walk of the law of flushed numbers. No condition.
-/
import Derived.Test.YtnnaphjoekeelaaCmn
import Derived.Test.YtnnaphjoekeelaaMag
namespace Go.Proofs.Ytnnaphjoekeelaa
set_option linter.unusedVariables false
open Go.RowKit Ieee

theorem and_top31 (n : Nat) (h : n < 4294967296) : n &&& 2147483648 = n / 2147483648 * 2147483648 := by
  have e1 : (2147483648 : Nat) = 1 <<< 31 := by decide
  have e2 : n / 2147483648 * 2147483648 = ((n >>> 31) &&& 1) <<< 31 := by
    rw [Nat.shiftLeft_eq, Nat.shiftRight_eq_div_pow, show (1 : Nat) = 2 ^ 1 - 1 from rfl, Nat.and_two_pow_sub_one_eq_mod]
    have : n / 2147483648 < 2 := by omega
    have e : (2 : Nat) ^ 31 = 2147483648 := by decide
    rw [e, Nat.mod_eq_of_lt (by omega)]
  rw [e2]
  conv => lhs; rw [e1]
  apply Nat.eq_of_testBit_eq
  intro i
  simp only [Nat.testBit_and, Nat.testBit_shiftLeft, Nat.testBit_shiftRight]
  by_cases h : i ≥ 31
  · simp [h]
  · simp [h]
theorem and_top63 (n : Nat) (h : n < 18446744073709551616) : n &&& 9223372036854775808 = n / 9223372036854775808 * 9223372036854775808 := by
  have e1 : (9223372036854775808 : Nat) = 1 <<< 63 := by decide
  have e2 : n / 9223372036854775808 * 9223372036854775808 = ((n >>> 63) &&& 1) <<< 63 := by
    rw [Nat.shiftLeft_eq, Nat.shiftRight_eq_div_pow, show (1 : Nat) = 2 ^ 1 - 1 from rfl, Nat.and_two_pow_sub_one_eq_mod]
    have : n / 9223372036854775808 < 2 := by omega
    have e : (2 : Nat) ^ 63 = 9223372036854775808 := by decide
    rw [e, Nat.mod_eq_of_lt (by omega)]
  rw [e2]
  conv => lhs; rw [e1]
  apply Nat.eq_of_testBit_eq
  intro i
  simp only [Nat.testBit_and, Nat.testBit_shiftLeft, Nat.testBit_shiftRight]
  by_cases h : i ≥ 63
  · simp [h]
  · simp [h]

/-- The class of a flushed number. -/
def flushed (x : Nat) : Option Nat := if (bits .and .i64 (bitsI (cl .f32 x)) 2139095040 == 0) = true then some (x / 2147483648 * 2147483648) else cl .f32 x

theorem l01From_c (n : Nat) (h : n < 4294967296) (w : World) : Calls Try.prog 30 #[.int .i64 n] w fun e w' => e = .returned (.float .f32 n) ∧ w = w' := by
  have e1 : IntKind.u32.wrap (n : Int) = n := by rw [IntKind.wrap_u32]; omega
  go_enter Try.func30, Try.ntmps30
  go_wp2
  go_ret
  exact ⟨rfl, rfl⟩

theorem top_wf {x : Nat} (h : x < 4294967296) : (Lit.float .f32 (x / 2147483648 * 2147483648)).wf = true := by
  simp only [Lit.wf, decide_eq_true_eq]; omega
theorem top_cl {x : Nat} (h : x < 4294967296) : cl .f32 (x / 2147483648 * 2147483648) = some (x / 2147483648 * 2147483648) := by
  rw [cl32, if_neg]; omega

theorem specFlush_c (x : Nat) (hw : (Lit.float .f32 x).wf = true) (w : World) : Calls Try.prog 14 #[.float .f32 x] w fun e w' => RetF .f32 w (flushed x) e w' := by
  have hx : x < 4294967296 := by simpa [Lit.wf] using hw
  cases hm : (bits .and .i64 (bitsI (cl .f32 x)) 2139095040 == 0) with
  | true =>
    have hs : ∃ c, cl .f32 x = some c := by
      cases h : cl .f32 x with
      | none => rw [h] at hm; exact absurd hm (by decide)
      | some c => exact ⟨c, rfl⟩
    obtain ⟨c, hc⟩ := hs
    obtain ⟨rfl, _⟩ := cl32_some hc
    have e1 : bits .and .i64 (bitsI (cl .f32 c)) 2147483648 = ((c / 2147483648 * 2147483648 : Nat) : Int) := by
      rw [hc]
      show bits .and .i64 (c : Int) ((2147483648 : Nat) : Int) = _
      rw [i64_and_nat c 2147483648 hx (by omega), and_top31 c hx]
    have hlt : c / 2147483648 * 2147483648 < 4294967296 := by omega
    have hf : flushed c = some (c / 2147483648 * 2147483648) := by unfold flushed; rw [if_pos hm]
    have HF := Lib.hid hf
    clear hf hc hx
    go_enter Try.func14, Try.ntmps14
    go_wp2_with (first | (go_at_call 22; go_in) | (go_at_call 29; refine (l01Bits_c _ hw _).mono ?_; rintro e w' ⟨rfl, n, rfl⟩))
    refine (l01From_c _ hlt _).mono ?_
    rintro e w' ⟨rfl, rfl⟩
    go_wp2_with fail
    go_ret
    exact retF _ (by rw [HF.out]; exact top_cl (by omega)) (by simp only [Lit.wf, decide_eq_true_eq]; omega)
  | false =>
    have hf : flushed x = cl .f32 x := by unfold flushed; rw [if_neg (by rw [hm]; simp)]
    have HF := Lib.hid hf
    clear hf hx
    go_enter Try.func14, Try.ntmps14
    go_wp2_with (first | (go_at_call 22; go_in) | (go_at_call 29; refine (l01Bits_c _ hw _).mono ?_; rintro e w' ⟨rfl, n, rfl⟩))
    go_ret
    exact retF _ HF.out.symm hw

theorem copysign_c (r : Nat) (hw : (Lit.float .f64 r).wf = true) (w : World) : Calls Try.prog 24 #[.float .f64 0, .float .f64 r] w fun e w' => e = .returned (.float .f64 (r / 9223372036854775808 * 9223372036854775808)) ∧ w = w' := by
  have hr : r < 18446744073709551616 := by simpa [Lit.wf] using hw
  have hA : bits .andNot .u64 0 9223372036854775808 = 0 := by decide +kernel
  have hB : bits .and .u64 (r : Int) 9223372036854775808 = ((r / 9223372036854775808 * 9223372036854775808 : Nat) : Int) := by
    have := u64_and_nat r 9223372036854775808 hr (by omega)
    rw [show ((9223372036854775808 : Nat) : Int) = (9223372036854775808 : Int) from rfl] at this
    rw [this, and_top63 r hr]
  have hC : bits .or .u64 0 ((r / 9223372036854775808 * 9223372036854775808 : Nat) : Int) = ((r / 9223372036854775808 * 9223372036854775808 : Nat) : Int) := by
    have := u64_or_nat 0 (r / 9223372036854775808 * 9223372036854775808) (by omega) (by omega)
    rw [show ((0 : Nat) : Int) = (0 : Int) from rfl] at this
    rw [this, Nat.zero_or]
  clear hr hw
  generalize r / 9223372036854775808 * 9223372036854775808 = q at *
  go_enter Try.func24, Try.ntmps24
  go_wp2
  go_ret
  exact ⟨rfl, rfl⟩

theorem narrow_zero (b : Nat) : Narrows .f64 .f32 (b % 2 * 9223372036854775808) ∧ fconv .f64 .f32 (cl .f64 (b % 2 * 9223372036854775808)) = some (b % 2 * 2147483648) := by
  have h : b % 2 = 0 ∨ b % 2 = 1 := by omega
  rcases h with h | h <;> rw [h]
  · constructor
    · intro s m e hd
      have : FloatKind.f64.decode (0 * 9223372036854775808) = .number false 0 (-1074) := by decide +kernel
      rw [this] at hd; cases hd; decide +kernel
    · decide +kernel
  · constructor
    · intro s m e hd
      have : FloatKind.f64.decode (1 * 9223372036854775808) = .number true 0 (-1074) := by decide +kernel
      rw [this] at hd; cases hd; decide +kernel
    · decide +kernel

theorem implFlush_c (x : Nat) (hw : (Lit.float .f32 x).wf = true) (w : World) : Calls Try.prog 15 #[.float .f32 x] w fun e w' => RetF .f32 w (flushed x) e w' := by
  have hx : x < 4294967296 := by simpa [Lit.wf] using hw
  have C := Lib.hid (implIsSubnormal_c x hw)
  cases hs : subn x with
  | false =>
    rw [hs] at C
    have hf : flushed x = cl .f32 x := by
      unfold flushed
      split
      · rename_i hm
        unfold subn at hs
        rw [hm, Bool.and_true] at hs
        have h0 : FloatKind.f32.format.order x 0 = some .eq := by simpa using hs
        rw [order_cl, cl_zero] at h0
        cases hc : cl .f32 x with
        | none => rw [hc] at h0; cases h0
        | some c =>
          rw [hc] at h0
          obtain ⟨rfl, _⟩ := cl32_some hc
          rw [ford_sr .f32 c 0 hc (cl_zero _), int_compare] at h0
          have h1 := icmp_eq (Option.some.inj h0)
          have h2 : sr .f32 0 = 0 := by decide +kernel
          rw [h2, sr32] at h1
          congr 1
          split at h1 <;> omega
      · rfl
    have HF := Lib.hid hf
    clear hf hx hs
    go_enter Try.func15, Try.ntmps15
    go_wp2_with fail
    refine (C.out _).mono ?_; rintro e w' ⟨rfl, n, rfl⟩
    go_wp2_with fail
    go_ret
    exact retF _ HF.out.symm hw
  | true =>
    rw [hs] at C
    unfold subn at hs
    have hm : (bits .and .i64 (bitsI (cl .f32 x)) 2139095040 == 0) = true := by simp only [Bool.and_eq_true] at hs; exact hs.2
    have hsome : ∃ c, cl .f32 x = some c := by
      cases h : cl .f32 x with
      | none => rw [h] at hm; exact absurd hm (by decide)
      | some c => exact ⟨c, rfl⟩
    obtain ⟨c, hc⟩ := hsome
    obtain ⟨rfl, hle⟩ := cl32_some hc
    have hf : flushed c = some (c / 2147483648 * 2147483648) := by unfold flushed; rw [if_pos hm]
    obtain ⟨q, hq, q1, _, _⟩ := widen_parts hle
    have hsign : ∀ r, cl .f64 r = fconv .f32 .f64 (cl .f32 c) → r / 9223372036854775808 * 9223372036854775808 = c / 2147483648 % 2 * 9223372036854775808 := by
      intro r hr
      rw [hc] at hr
      have hcr : cl .f64 r = some (FloatKind.f64.encode (FloatKind.f32.decode c)) := hr
      obtain ⟨er, _⟩ := of_cl_some hcr
      rw [hq] at er
      split at er <;> omega
    obtain ⟨z1, z2⟩ := narrow_zero (c / 2147483648)
    have z3 : c / 2147483648 % 2 * 2147483648 = c / 2147483648 * 2147483648 := by omega
    rw [z3] at z2
    have HF := Lib.hid hf
    have HS := Lib.hid hsign
    have Z1 := Lib.hid z1
    have Z2 := Lib.hid z2
    clear hf hx hs hm hc hle hq q1 hsign z1 z2 z3
    go_enter Try.func15, Try.ntmps15
    go_wp2_with fail
    refine (C.out _).mono ?_; rintro e w' ⟨rfl, n, rfl⟩
    go_wp2_with (refine wpList_widen _ rfl Try.underlying23 Try.underlying28 rfl ?_; intro v n hv hwv)
    refine (copysign_c _ hwv _).mono ?_; rintro e w' ⟨rfl, rfl⟩
    rw [HS.out v hv]
    go_wp2_with (refine wpList_narrow _ rfl Try.underlying28 Try.underlying23 rfl Z1.out ?_; intro g n5 hg hwg)
    go_ret
    exact retF _ (by rw [hg, HF.out, Z2.out]) hwg

theorem law_FlushNumber (x : Nat) (w : World) (hw : (Lit.float .f32 x).wf = true) : Calls Try.prog 5 #[.float .f32 x] w fun e w' => e = .returned (.bool true) ∧ Below w.heap.size w w' := by
  go_enter Try.func5, Try.ntmps5
  go_wp2_with (first | (go_at_call 14; refine (specFlush_c _ hw _).mono ?_; rintro e w' ⟨g, n, rfl, hg, hwg, rfl⟩) | (go_at_call 15; refine (implFlush_c _ hw _).mono ?_; rintro e w' ⟨g', n', rfl, hg', hwg', rfl⟩) | (refine wpList_widen _ rfl Try.underlying23 Try.underlying28 rfl ?_; intro u n6 hu hwu))
  refine (sameFloat_c _ _ _ (by rw [hu, hg, ← hg']; assumption)).mono ?_
  rintro e w' ⟨rfl, m, rfl⟩
  go_wp2_with fail
  go_ret
  exact lawOk _
end Go.Proofs.Ytnnaphjoekeelaa
