/-
  The walks of shared exponents: tests, parts, the greatest light. No condition.
-/
import Derived.Test.YtpjonajpgidjfaaShf
import Derived.Test.YtpjonajpgidjfaaWkF
namespace Go.Proofs.Ytpjonajpgidjfaa
set_option linter.unusedVariables false
open Go.RowKit Ieee

theorem srS {x : Nat} (h : okS x = true) : cl .f32 x = some x ∧ sr .f32 x = (valS x : Int) := by
  rcases of_decide_eq_true h with h | rfl
  · refine ⟨by rw [cl32, if_neg (by omega)], ?_⟩
    unfold valS
    rw [sr32, if_neg (by omega), if_neg (by omega), Nat.mod_eq_of_lt (by omega)]
  · exact ⟨by decide +kernel, by decide +kernel⟩
theorem ordS {x y : Nat} (hx : okS x = true) (hy : okS y = true) : FloatKind.f32.format.order x y = some (compare (valS x : Int) (valS y : Int)) := by
  obtain ⟨h1, h2⟩ := srS hx
  obtain ⟨h3, h4⟩ := srS hy
  rw [show FloatKind.f32.format.order x y = ford .f32 (cl .f32 x) (cl .f32 y) from order_cl .f32 x y, h1, h3, ford_sr .f32 x y h1 h3, h2, h4]

/-- The two tests of a light. -/
theorem geS {x : Nat} (hx : x < 4294967296) : (FloatKind.f32.format.order x 0 == some .gt || FloatKind.f32.format.order x 0 == some .eq) = decide (x ≤ 2139095040 ∨ x = 2147483648) := by
  rw [show FloatKind.f32.format.order x 0 = ford .f32 (cl .f32 x) (cl .f32 0) from order_cl .f32 x 0]
  cases hc : cl .f32 x with
  | none =>
    have := cl32_none hc
    rw [decide_eq_false (by omega)]; rfl
  | some c =>
    obtain ⟨rfl, hle⟩ := cl32_some hc
    rw [cl_zero, ford_sr .f32 c 0 hc (cl_zero _), show sr .f32 0 = 0 from by decide +kernel]
    by_cases h0 : c < 2147483648
    · have e2 : sr .f32 c = (c : Int) := by rw [sr32, if_neg (by omega), Nat.mod_eq_of_lt h0]
      rw [e2, int_compare, decide_eq_true (show c ≤ 2139095040 ∨ c = 2147483648 by omega), if_neg (show ¬ (c : Int) < 0 by omega)]
      split <;> rfl
    · have e2 : sr .f32 c = -((c % 2147483648 : Nat) : Int) := by rw [sr32, if_pos (by omega)]
      rw [e2, int_compare]
      by_cases h1 : c = 2147483648
      · subst h1; decide +kernel
      · rw [decide_eq_false (show ¬ (c ≤ 2139095040 ∨ c = 2147483648) by omega), if_pos (show -((c % 2147483648 : Nat) : Int) < 0 by omega)]; rfl
theorem leS {x : Nat} (h : x ≤ 2139095040 ∨ x = 2147483648) : (FloatKind.f32.format.order x 1199538176 == some .lt || FloatKind.f32.format.order x 1199538176 == some .eq) = okS x := by
  rcases h with h | rfl
  · have h1 : cl .f32 x = some x := by rw [cl32, if_neg (by omega)]
    have h2 : cl .f32 1199538176 = some 1199538176 := by decide +kernel
    rw [show FloatKind.f32.format.order x 1199538176 = ford .f32 (cl .f32 x) (cl .f32 1199538176) from order_cl .f32 x _, h1, h2, ford_sr .f32 x _ h1 h2, show sr .f32 1199538176 = 1199538176 from by decide +kernel, sr32, if_neg (by omega), Nat.mod_eq_of_lt (by omega), int_compare]
    unfold okS
    by_cases h3 : x ≤ 1199538176
    · rw [decide_eq_true (.inl h3)]
      split
      · rfl
      · rw [if_pos (by omega)]; rfl
    · rw [decide_eq_false (by omega), if_neg (by omega), if_neg (by omega)]; rfl
  · decide +kernel

/-- The test as the program spells it. -/
theorem testS {x : Nat} (hx : x < 4294967296) : ((FloatKind.f32.format.order x 0 == some .gt || FloatKind.f32.format.order x 0 == some .eq) = true ∧ (FloatKind.f32.format.order x 1199538176 == some .lt || FloatKind.f32.format.order x 1199538176 == some .eq) = true ∧ okS x = true) ∨
    ((FloatKind.f32.format.order x 0 == some .gt || FloatKind.f32.format.order x 0 == some .eq) = true ∧ (FloatKind.f32.format.order x 1199538176 == some .lt || FloatKind.f32.format.order x 1199538176 == some .eq) = false ∧ okS x = false) ∨
    ((FloatKind.f32.format.order x 0 == some .gt || FloatKind.f32.format.order x 0 == some .eq) = false ∧ okS x = false) := by
  rw [geS hx]
  by_cases h : x ≤ 2139095040 ∨ x = 2147483648
  · rw [leS h, decide_eq_true h]
    cases hk : okS x
    · exact .inr (.inl ⟨rfl, rfl, rfl⟩)
    · exact .inl ⟨rfl, rfl, rfl⟩
  · rw [decide_eq_false h]
    refine .inr (.inr ⟨rfl, ?_⟩)
    unfold okS
    exact decide_eq_false (by omega)

/-- The greatest of the first k lights. -/
def topF (x : Nat → Nat) : Nat → Nat
  | 0 => 0
  | k + 1 => max (topF x k) (valS (x k))
theorem valS_le {x : Nat} (h : okS x = true) : valS x ≤ 1199538176 := by
  unfold valS
  rcases of_decide_eq_true h with h | rfl
  · split <;> omega
  · rw [if_pos rfl]; exact Nat.zero_le _
theorem topF_le {x : Nat → Nat} {k : Nat} (h : ∀ j, j < k → okS (x j) = true) : topF x k ≤ 1199538176 := by
  induction k with
  | zero => exact Nat.zero_le _
  | succ k ih => exact Nat.max_le.2 ⟨ih (fun j hj => h j (by omega)), valS_le (h k (by omega))⟩
theorem okS_small {x : Nat} (h : x ≤ 1199538176) : okS x = true ∧ valS x = x := ⟨decide_eq_true (.inl h), by unfold valS; rw [if_neg (by omega)]⟩

def tri (r g b : Nat) (i : Nat) : Nat := if i = 0 then r else if i = 1 then g else b
def allS (r g b : Nat) : Bool := okS r && (okS g && okS b)

theorem run_toIntegralS {P : Program} {name : String} {way : Toward} {b : Nat} (h : b % 9223372036854775808 < 9218868437227405312) (w : World) :
    (Extern.MathFloor.toIntegral name way #[.float .f64 b]).run P w = .ok (.float .f64 (Ieee.double.write ((Ieee.double.read b).integral way))) w := by
  obtain ⟨s, m, e, hd⟩ := read_number (k := .f64) (b := b) (by show b % Ieee.double.signWeight < Ieee.double.infRung; rw [dbl_sign, dbl_inf]; exact h)
  have hd' : Ieee.double.read b = .number s m e := hd
  have e1 : Extern.MathFloor.toIntegral name way #[.float .f64 b] = (match FloatKind.f64.decode b with
    | .nan s t => if FloatKind.f64.format.quiet t = t then pure (.float .f64 b) else do
      let kept ← choose (.extern "math.Floor,Ceil,Trunc,RoundToEven.signallingNaN kept" 2)
      pure (.float .f64 (if kept == 1 then b else FloatKind.f64.encode (.nan s (FloatKind.f64.format.quiet t))))
    | d => pure (.float .f64 (FloatKind.f64.encode (d.integral way)))) := rfl
  rw [e1, show FloatKind.f64.decode b = .number s m e from hd, hd']
  rfl

theorem call_even (b : Nat) (h : MagD (Ieee.double.read b) 52) (w : World) : (callFunc 98 #[.float .f64 b]).run Try.prog w = .ok (.value (.float .f64 (partB .even b))) w := by
  obtain ⟨s, m, e, hd, _⟩ := h
  have hlt : b % 9223372036854775808 < 9218868437227405312 := by
    have h1 := read_dbl b
    rw [hd] at h1
    split at h1
    · omega
    · split at h1
      · assumption
      · split at h1 <;> cases h1
  rw [run_callFunc_extern (e := Extern.MathFloor.toIntegral "math.RoundToEven" .even) Try.func98 (by kernel_rfl) (by kernel_rfl) (by kernel_rfl) (by kernel_rfl), run_toIntegralS hlt]; rfl

theorem sNear_c (b : Nat) (n : Int) (h : MagD (Ieee.double.read b) 52) (hn : floatToIntVal .f64 (partB .even b) .i64 = some n) (w : World) : Calls Try.prog 96 #[.float .f64 b] w fun e w' => e = .returned (.int .i64 n) ∧ w = w' := by
  have hcall := call_even b h
  have hc : ∀ w, (convert 36 2 (.float .f64 (partB .even b))).run Try.prog w = .ok (.int .i64 n) w := fun w => run_convert_float_int w _ _ .f64 .i64 _ _ (by rw [Try.underlying36]; rfl) Try.underlying2 hn
  clear h hn
  go_enter Try.func96, Try.ntmps96
  go_wp2
  go_ret
  exact ⟨rfl, rfl⟩
theorem iNear_c (b : Nat) (n : Int) (h : MagD (Ieee.double.read b) 52) (hn : floatToIntVal .f64 (partB .even b) .i64 = some n) (w : World) : Calls Try.prog 84 #[.float .f64 b] w fun e w' => e = .returned (.int .i64 n) ∧ w = w' := by
  have hcall := call_even b h
  have hc : ∀ w, (convert 36 2 (.float .f64 (partB .even b))).run Try.prog w = .ok (.int .i64 n) w := fun w => run_convert_float_int w _ _ .f64 .i64 _ _ (by rw [Try.underlying36]; rfl) Try.underlying2 hn
  clear h hn
  go_enter Try.func84, Try.ntmps84
  go_wp2
  go_ret
  exact ⟨rfl, rfl⟩

theorem sPart_c (x e : Nat) (h : okS x = true) (he : e ≤ 33) (w : World) : Calls Try.prog 79 #[.float .f32 x, .int .i64 e] w fun en w' => RetI .i64 w (PN x e) en w' := by
  obtain ⟨h1, h2, h3⟩ := widS_ok h
  obtain ⟨p1, p2, p3, _, _, _⟩ := part_S h1 he
  have L := Lib.hid (fun w => Ldexp_c _ _ _ p1 w)
  have N := Lib.hid (fun w => sNear_c _ _ p2 p3 w)
  have H3 := Lib.hid h3
  have PNe : Hid (partI (widS x) e = PN x e) := by show _ = _; rfl
  clear h1 h2 h3 p1 p2 p3
  go_enter Try.func79, Try.ntmps79
  go_wp2_with (refine wpList_widen _ rfl Try.underlying32 Try.underlying36 rfl ?_; intro v n hv hwv)
  obtain rfl := H3.out v hv
  clear hv hwv
  refine (L.out _).mono ?_; rintro en w1 ⟨m, rfl, rfl⟩
  go_wp2_with fail
  refine (N.out _).mono ?_; rintro en w1 ⟨rfl, rfl⟩
  go_wp2_with fail
  go_ret
  exact retI _ PNe.out

theorem iPart_c (v e p : Nat) (h : VS v) (he : e ≤ 33) (w : World) (hp : w.cell? ⟨p, 0, none⟩ = some (.int .i64 e)) : Calls Try.prog 83 #[.float .f64 v, .pointer (some ⟨p, 0, none⟩)] w fun en w' => RetI .i64 w (partI v e) en w' := by
  obtain ⟨p1, p2, p3, _, _, _⟩ := part_S h he
  have L := Lib.hid (fun w => Ldexp_c _ _ _ p1 w)
  have N := Lib.hid (fun w => iNear_c _ _ p2 p3 w)
  clear h p1 p2 p3
  generalize partI v e = R at N ⊢
  go_enter Try.func83, Try.ntmps83
  go_wp2_with fail
  refine (L.out _).mono ?_; rintro en w1 ⟨m, rfl, rfl⟩
  go_wp2_with fail
  refine (N.out _).mono ?_; rintro en w1 ⟨rfl, rfl⟩
  go_wp2_with fail
  go_ret
  exact retI _ rfl
end Go.Proofs.Ytpjonajpgidjfaa
