/-
  Walks of the small functions on numbers that many laws reach: what each returns, as a function of its arguments' classes. No condition.
-/
import Derived.Test.YtpjonajpgidjfaaWid
import Derived.Test.YtpjonajpgidjfaaRows
import Derived.Outline
import Derived.Lib.Hide
namespace Go.Proofs.Ytpjonajpgidjfaa
set_option linter.unusedVariables false
open Go.RowKit Ieee

theorem fin_spec (b : Nat) : (ford .f32 (fbin .sub .f32 (cl .f32 b) (cl .f32 b)) (some 0) == some .eq) = fin .f32 (cl .f32 b) := by
  rw [sub_self]
  cases fin .f32 (cl .f32 b)
  · rfl
  · decide +kernel

/-! ### bits -/
theorem call_f32bits (b : Nat) (w : World) : (callFunc 111 #[.float .f32 b]).run Try.prog w = .ok (.value (.int .u32 b)) w := by
  rw [run_callFunc_extern (e := Extern.MathFloatBits.float32bits) Try.func111 (by kernel_rfl) (by kernel_rfl) (by kernel_rfl) (by kernel_rfl)]; rfl
attribute [go_sem] call_f32bits
theorem call_f64bits (b : Nat) (w : World) : (callFunc 107 #[.float .f64 b]).run Try.prog w = .ok (.value (.int .u64 b)) w := by
  rw [run_callFunc_extern (e := Extern.MathFloatBits.float64bits) Try.func107 (by kernel_rfl) (by kernel_rfl) (by kernel_rfl) (by kernel_rfl)]; rfl
attribute [go_sem] call_f64bits
theorem call_f64from (b : Int) (w : World) : (callFunc 103 #[.int .u64 b]).run Try.prog w = .ok (.value (.float .f64 b.toNat)) w := by
  rw [run_callFunc_extern (e := Extern.MathFloatBits.float64frombits) Try.func103 (by kernel_rfl) (by kernel_rfl) (by kernel_rfl) (by kernel_rfl)]; rfl
attribute [go_sem] call_f64from

theorem isNaN_c (x : Nat) (w : World) : Calls Try.prog 90 #[.float .f32 x] w fun e w' => RetB w (cl .f32 x).isNone e w' := by
  go_enter Try.func90, Try.ntmps90
  go_wp2
  go_ret
  exact retB0 (by rw [order_cl, ne_self])

theorem l01Finite_c (x : Nat) (w : World) : Calls Try.prog 67 #[.float .f32 x] w fun e w' => RetB w (fin .f32 (cl .f32 x)) e w' := by
  go_enter Try.func67, Try.ntmps67
  go_wp2_with (first | (refine wpList_fbin .f32 _ _ rfl rfl rfl rfl ?_; intro r n hr hw))
  go_ret
  exact retB n (by rw [order_cl, hr, cl_zero, fin_spec])


theorem implIsFinite_c (x : Nat) (w : World) : Calls Try.prog 70 #[.float .f32 x] w fun e w' => RetB w (fin .f32 (cl .f32 x)) e w' := by
  go_enter Try.func70, Try.ntmps70
  go_wp2_with (first | (refine wpList_fbin .f32 _ _ rfl rfl rfl rfl ?_; intro r n hr hw) | (go_at_call 90; refine (isNaN_c _ _).mono ?_; rintro e w' ⟨rfl, m, rfl⟩))
  go_ret
  exact retB _ (by rw [sub_self]; cases fin .f32 (cl .f32 x) <;> rfl)

/-! ### sameFloat: true where the classes are one -/
theorem order_refl_ne (x : Nat) {c : Nat} (h : cl .f64 x = some c) : (ford .f64 (cl .f64 x) (cl .f64 x) == some .eq) = true := by
  rw [ford_self, h]; rfl

theorem sameFloat_c (a b : Nat) (w : World) (h : cl .f64 a = cl .f64 b) : Calls Try.prog 23 #[.float .f64 a, .float .f64 b] w fun e w' => RetB w true e w' := by
  have ea : FloatKind.f64.format.order a a = (cl .f64 b).map fun _ => .eq := by rw [order_cl, ford_self, h]
  have eb : FloatKind.f64.format.order b b = (cl .f64 b).map fun _ => .eq := by rw [order_cl, ford_self]
  have eab : FloatKind.f64.format.order a b = (cl .f64 b).map fun _ => .eq := by rw [order_cl, h, ford_self]
  have ea0 : FloatKind.f64.format.order a 0 = ford .f64 (cl .f64 b) (some 0) := by rw [order_cl, h, cl_zero]
  have eb0 : FloatKind.f64.format.order b 0 = ford .f64 (cl .f64 b) (some 0) := by rw [order_cl, cl_zero]
  cases hb : cl .f64 b with
  | none =>
    rw [hb] at ea eb
    clear ea0 eb0 eab h hb
    go_enter Try.func23, Try.ntmps23
    go_wp2
    go_ret
    exact retB0 rfl
  | some c =>
    rw [hb] at ea eb eab ea0 eb0
    by_cases hz : ford .f64 (some c) (some 0) = some .eq
    · rw [hz] at ea0 eb0
      go_enter Try.func23, Try.ntmps23
      go_wp2_with (refine wpList_fbin .f64 _ _ rfl rfl rfl rfl ?_; intro r n hr hw)
      rename_i r1 n1 hr1 hw1
      go_ret
      exact retB _ (by rw [order_cl, order_cl, hr1, hr, h, hb]; exact beq_self_eq_true _)
    · have za : (FloatKind.f64.format.order a 0 == some .eq) = false := by rw [ea0]; simpa using hz
      have zb : (FloatKind.f64.format.order b 0 == some .eq) = false := by rw [eb0]; simpa using hz
      clear ea0 eb0 h hb hz
      go_enter Try.func23, Try.ntmps23
      go_wp2
      go_ret
      exact retB0 rfl


/-- The bits of a class: all not-a-numbers have one. -/
def bitsI (a : Option Nat) : Int := match a with | none => 2143289344 | some b => (b : Int)

theorem l01Bits_c (x : Nat) (hw : (Lit.float .f32 x).wf = true) (w : World) : Calls Try.prog 109 #[.float .f32 x] w fun e w' => RetI .i64 w (bitsI (cl .f32 x)) e w' := by
  have hx : x < 4294967296 := by simpa [Lit.wf] using hw
  have hs := ne_self .f32 x
  rw [← order_cl] at hs
  cases h : cl .f32 x with
  | none =>
    rw [h] at hs
    go_enter Try.func109, Try.ntmps109
    go_wp2
    go_ret
    exact retI0 rfl
  | some c =>
    obtain ⟨rfl, _⟩ := of_cl_some h
    rw [h] at hs
    go_enter Try.func109, Try.ntmps109
    go_wp2
    go_ret
    exact retI0 rfl

theorem abs_nonzero {x : Nat} (h : (FloatKind.f32.format.order x 0 != some .eq) = true) {c : Nat} (hc : cl .f32 x = some c) : x % 2147483648 ≠ 0 := by
  intro h0
  rw [order_cl, cl_zero, hc] at h
  obtain ⟨rfl, _⟩ := of_cl_some hc
  rw [ford_sr .f32 _ 0 hc (cl_zero _)] at h
  have e1 : sr .f32 c = 0 := by rw [sr32, h0]; simp
  have e2 : sr .f32 0 = 0 := by decide +kernel
  rw [e1, e2] at h
  exact absurd h (by decide)

/-- A float32 is below 2^-126 in size just where its exponent's bits are nought. -/
theorem subnormal_law (x r : Nat) (hx : x < 4294967296) (hr : cl .f64 r = fconv .f32 .f64 (cl .f32 x)) (_ : r < 18446744073709551616) (hz : (FloatKind.f32.format.order x 0 != some .eq) = true) :
    (FloatKind.f64.format.order (r % 9223372036854775808) 4039728865751334912 == some .lt) = (bits .and .i64 (bitsI (cl .f32 x)) 2139095040 == 0) := by
  have hlim : cl .f64 4039728865751334912 = some 4039728865751334912 := by decide +kernel
  rw [order_cl, hlim]
  cases hc : cl .f32 x with
  | none =>
    rw [hc] at hr
    have hn := cl64_none hr
    have : cl .f64 (r % 9223372036854775808) = none := by
      rw [cl64, if_pos]; omega
    rw [this]
    decide +kernel
  | some c =>
    have h0 := abs_nonzero hz hc
    obtain ⟨rfl, hle⟩ := cl32_some hc
    rw [hc] at hr
    obtain ⟨q, hq, q1, q2, q3⟩ := widen_parts hle
    have hcr : cl .f64 r = some (FloatKind.f64.encode (FloatKind.f32.decode c)) := hr
    obtain ⟨er, _⟩ := of_cl_some hcr
    have hrm : r % 9223372036854775808 = q := by rw [← er, hq]; split <;> omega
    rw [hrm]
    have hcq : cl .f64 q = some q := by rw [cl64, if_neg]; omega
    rw [hcq, ford_sr .f64 _ _ hcq hlim]
    have s1 : sr .f64 q = q := by rw [sr64, if_neg (by omega), Nat.mod_eq_of_lt (by omega)]
    have s2 : sr .f64 4039728865751334912 = 4039728865751334912 := by decide +kernel
    rw [s1, s2]
    have e3 : bits .and .i64 (bitsI (some c)) 2139095040 = ((c / 8388608 % 256 * 8388608 : Nat) : Int) := by
      show bits .and .i64 (c : Int) ((2139095040 : Nat) : Int) = _
      rw [i64_and_nat c 2139095040 hx (by omega), and_mask23]
    rw [e3, int_compare]
    by_cases hs : c % 2147483648 < 8388608
    · have : q < 4039728865751334912 := q3.2 hs
      rw [if_pos (by omega)]
      have e4 : c / 8388608 % 256 = 0 := by omega
      rw [e4]; decide
    · have : ¬ q < 4039728865751334912 := fun h => hs (q3.1 h)
      rw [if_neg (by omega)]
      have e4 : c / 8388608 % 256 ≠ 0 := by omega
      have e5 : ((c / 8388608 % 256 * 8388608 : Nat) : Int) ≠ 0 := by omega
      rw [beq_eq_false_iff_ne.2 e5]
      split <;> rfl

/-- Is it subnormal? -/
def subn (x : Nat) : Bool := (FloatKind.f32.format.order x 0 != some .eq) && (bits .and .i64 (bitsI (cl .f32 x)) 2139095040 == 0)



theorem u64_sign (r : Nat) (h : r < 18446744073709551616) : (wrap64 (r : Int) < 0) = (9223372036854775808 ≤ r) := by
  unfold wrap64
  apply propext
  constructor <;> intro <;> omega

set_option maxRecDepth 8000 in
/-- Has the number a sign? -/
theorem sign_c (x : Nat) (c : Nat) (hc : cl .f32 x = some c) (hw : (Lit.float .f32 x).wf = true) (w : World) : Calls Try.prog 91 #[.float .f32 x] w fun e w' => RetB w (decide (2147483648 ≤ x)) e w' := by
  have hx : x < 4294967296 := by simpa [Lit.wf] using hw
  obtain ⟨rfl, hle⟩ := cl32_some hc
  obtain ⟨q, hq, q1, _, _⟩ := widen_parts hle
  have hfin : ∀ r, cl .f64 r = fconv .f32 .f64 (some c) → (9223372036854775808 ≤ r) = (2147483648 ≤ c) := by
    intro r hr
    have hcr : cl .f64 r = some (FloatKind.f64.encode (FloatKind.f32.decode c)) := hr
    obtain ⟨er, _⟩ := of_cl_some hcr
    rw [hq] at er
    apply propext
    split at er <;> constructor <;> intro <;> omega
  have Hf := Lib.hid hfin
  clear hfin hq q1 hle hx
  go_enter Try.func91, Try.ntmps91
  go_wp2_with (first | (refine wpList_widen _ rfl Try.underlying32 Try.underlying36 rfl ?_; intro r n hr hwr) | go_in)
  go_ret
  exact retB _ (decide_eq_decide.2 (iff_of_eq ((u64_sign r (by simpa [Lit.wf] using hwr)).trans (Hf.out r (by rw [hr, hc])))))

/-- Are two numbers the same? -/
def same32 (a b : Nat) : Bool := bitsI (cl .f32 a) == bitsI (cl .f32 b)

theorem l01Same_c (a b : Nat) (ha : (Lit.float .f32 a).wf = true) (hb : (Lit.float .f32 b).wf = true) (w : World) : Calls Try.prog 101 #[.float .f32 a, .float .f32 b] w fun e w' => RetB w (same32 a b) e w' := by
  unfold same32
  go_enter Try.func101, Try.ntmps101
  go_wp2_with (go_at_call 109; refine (l01Bits_c _ (by assumption) _).mono ?_; rintro e w' ⟨rfl, n, rfl⟩)
  go_ret
  exact retB _ rfl

theorem icmp_eq {x y : Int} (h : (if x < y then Ordering.lt else if x = y then .eq else .gt) = .eq) : x = y := by
  by_cases h1 : x < y
  · rw [if_pos h1] at h; cases h
  · rw [if_neg h1] at h
    by_cases h2 : x = y
    · exact h2
    · rw [if_neg h2] at h; cases h

theorem nan_ne {b c : Nat} (h : cl .f32 b = some c) : ((2143289344 : Int) == (c : Int)) = false := by
  obtain ⟨rfl, h1⟩ := cl32_some h
  rw [beq_eq_false_iff_ne]; omega

theorem eq_same {a b : Nat} (ha : a < 4294967296) (hb : b < 4294967296) (hca : cl .f32 a = some a) (hcb : cl .f32 b = some b) :
    ((ford .f32 (some a) (some b) == some .eq) && (decide (2147483648 ≤ a) == decide (2147483648 ≤ b))) = (bitsI (some a) == bitsI (some b)) := by
  rw [ford_sr .f32 a b hca hcb, sr32, sr32, int_compare]
  show _ = ((a : Int) == (b : Int))
  by_cases hab : a = b
  · subst hab
    rw [if_neg (Int.lt_irrefl _), if_pos rfl]
    simp
  · rw [beq_eq_false_iff_ne.2 (by omega : (a : Int) ≠ b)]
    by_cases hs : (2147483648 ≤ a) = (2147483648 ≤ b)
    · rw [beq_eq_false_iff_ne.2]
      · rfl
      · intro he
        have he' := icmp_eq (Option.some.inj he)
        have hs' : (2147483648 ≤ a) ↔ (2147483648 ≤ b) := iff_of_eq hs
        split at he' <;> split at he' <;> omega
    · have : (decide (2147483648 ≤ a) == decide (2147483648 ≤ b)) = false := by
        rw [beq_eq_false_iff_ne]
        intro h
        exact hs (propext (decide_eq_decide.1 h))
      rw [this, Bool.and_false]

theorem implSame_c (a b : Nat) (ha : (Lit.float .f32 a).wf = true) (hb : (Lit.float .f32 b).wf = true) (w : World) : Calls Try.prog 51 #[.float .f32 a, .float .f32 b] w fun e w' => RetB w (same32 a b) e w' := by
  have ha' : a < 4294967296 := by simpa [Lit.wf] using ha
  have hb' : b < 4294967296 := by simpa [Lit.wf] using hb
  have hab : FloatKind.f32.format.order a b = ford .f32 (cl .f32 a) (cl .f32 b) := order_cl _ _ _
  have C1 := Lib.hid (isNaN_c a)
  have C2 := Lib.hid (isNaN_c b)
  unfold same32
  cases hca : cl .f32 a with
  | none =>
    rw [hca] at C1
    have h1 : (FloatKind.f32.format.order a b == some .eq) = false := by rw [hab, hca]; rfl
    clear hab hca
    cases hcb : cl .f32 b with
    | none =>
      rw [hcb] at C2
      clear hcb ha' hb'
      go_enter Try.func51, Try.ntmps51
      go_wp2_with fail
      refine (C1.out _).mono ?_; rintro e w' ⟨rfl, n, rfl⟩
      go_wp2_with fail
      refine (C2.out _).mono ?_; rintro e w' ⟨rfl, m, rfl⟩
      go_wp2_with fail
      go_ret
      exact retB _ rfl
    | some c =>
      rw [hcb] at C2
      have hf : ((2143289344 : Int) == (c : Int)) = false := nan_ne hcb
      have HF := Lib.hid hf
      clear hcb ha' hb' hf
      go_enter Try.func51, Try.ntmps51
      go_wp2_with fail
      refine (C1.out _).mono ?_; rintro e w' ⟨rfl, n, rfl⟩
      go_wp2_with fail
      refine (C2.out _).mono ?_; rintro e w' ⟨rfl, m, rfl⟩
      go_wp2_with fail
      go_ret
      exact retB _ HF.out.symm
  | some c =>
    have hca1 := hca
    obtain ⟨rfl, _⟩ := cl32_some hca
    rw [hca] at C1 hab
    cases hcb : cl .f32 b with
    | none =>
      have h1 : (FloatKind.f32.format.order c b == some .eq) = false := by rw [hab, hcb]; rfl
      have hf : ((c : Int) == (2143289344 : Int)) = false := by have := nan_ne hca1; rw [beq_eq_false_iff_ne] at this ⊢; exact fun h => this h.symm
      have HF := Lib.hid hf
      clear hcb ha' hb' hf hab hca hca1
      go_enter Try.func51, Try.ntmps51
      go_wp2_with fail
      refine (C1.out _).mono ?_; rintro e w' ⟨rfl, n, rfl⟩
      go_wp2_with fail
      go_ret
      exact retB _ HF.out.symm
    | some d =>
      have hcb1 := hcb
      obtain ⟨rfl, _⟩ := cl32_some hcb
      rw [hcb] at C2 hab
      have HE := Lib.hid (eq_same ha' hb' hca1 hcb1)
      have S1 := Lib.hid (sign_c c c hca1 ha)
      have S2 := Lib.hid (sign_c d d hcb1 hb)
      cases he : (ford .f32 (some c) (some d) == some .eq) with
      | false =>
        have h1 : (FloatKind.f32.format.order c d == some .eq) = false := by rw [hab]; exact he
        rw [he, Bool.false_and] at HE
        clear hcb ha' hb' hab hca hca1 hcb1 he ha hb
        go_enter Try.func51, Try.ntmps51
        go_wp2_with fail
        refine (C1.out _).mono ?_; rintro e w' ⟨rfl, n, rfl⟩
        go_wp2_with fail
        go_ret
        exact retB _ HE.out
      | true =>
        have h1 : (FloatKind.f32.format.order c d == some .eq) = true := by rw [hab]; exact he
        rw [he, Bool.true_and] at HE
        clear hcb ha' hb' hab hca hca1 hcb1 he ha hb
        go_enter Try.func51, Try.ntmps51
        go_wp2_with fail
        refine (C1.out _).mono ?_; rintro e w' ⟨rfl, n, rfl⟩
        go_wp2_with fail
        refine (S1.out _).mono ?_; rintro e w' ⟨rfl, m, rfl⟩
        go_wp2_with fail
        refine (S2.out _).mono ?_; rintro e w' ⟨rfl, k, rfl⟩
        go_wp2_with fail
        go_ret
        exact retB _ HE.out
end Go.Proofs.Ytpjonajpgidjfaa
