/-
  The walk of the law of halves, read. No condition.
-/
import Derived.Test.YtpjonajpgidjfaaShr
namespace Go.Proofs.Ytpjonajpgidjfaa
set_option linter.unusedVariables false
open Go.RowKit Ieee

theorem run_neg_float (P : Program) (w : World) (k : FloatKind) (b : Nat) : (Op.unary .neg (.float k b)).run P w = .ok (.float k (Op.negFloat k b)) w := rfl
attribute [go_sem] run_neg_float

theorem neg_mod (b : Nat) : Op.negFloat .f64 b % 9223372036854775808 = b % 9223372036854775808 := by
  show (b ^^^ 2 ^ 63) % 9223372036854775808 = _
  rw [show (9223372036854775808 : Nat) = 2 ^ 63 from by decide +kernel, Nat.xor_mod_two_pow, Nat.mod_self, Nat.xor_zero]

theorem bad_narrows {b : Nat} (h : 9218868437227405312 ≤ b % 9223372036854775808) : Narrows .f64 .f32 b := by
  intro s m e hd
  have h1 := read_dbl b
  rw [show Ieee.double.read b = .number s m e from hd] at h1
  split at h1
  · omega
  · split at h1
    · omega
    · split at h1 <;> cases h1

/-- The number of a half, without its sign. -/
def halfX (k f : Nat) : Nat := if k = 0 then sc f (-24) else if k = 31 then (if f = 0 then 9218868437227405312 else 9221120237041090561) else sc (1024 + f) ((k : Int) - 25)
def halfY (c : Nat) : Nat := if 32768 ≤ c then Op.negFloat .f64 (halfX (c % 32768 / 1024) (c % 1024)) else halfX (c % 32768 / 1024) (c % 1024)

theorem halfX_narrows {k f : Nat} (hk : k < 32) (hf : f < 1024) : (halfX k f) % 9223372036854775808 ≤ 5174635971848699904 ∨ 9218868437227405312 ≤ (halfX k f) % 9223372036854775808 := by
  unfold halfX
  split
  · left; have := (sc_ok (n := f) (by omega) (e := -24) (by decide) (by decide)).2; omega
  · split
    · right; split <;> decide
    · left; have := (sc_ok (n := 1024 + f) (by omega) (e := (k : Int) - 25) (by omega) (by omega)).2; omega

theorem halfY_narrows (c : Nat) : Narrows .f64 .f32 (halfY c) := by
  have hm : halfY c % 9223372036854775808 = halfX (c % 32768 / 1024) (c % 1024) % 9223372036854775808 := by
    unfold halfY; split
    · exact neg_mod _
    · rfl
  rcases halfX_narrows (k := c % 32768 / 1024) (f := c % 1024) (by omega) (by omega) with h | h
  · exact small_narrows (by rw [hm]; exact h)
  · exact bad_narrows (by rw [hm]; exact h)

theorem add_1024 : ∀ f : Nat, f < 1024 → fbin .add .f64 (some 4652218415073722368) (some (floatOfInt .f64 (f : Int))) = some (floatOfInt .f64 (1024 + (f : Int))) := by decide +kernel
theorem eq_zero_f : ∀ f : Nat, f < 1024 → (FloatKind.f64.format.order (floatOfInt .f64 (f : Int)) 0 == some .eq) = ((f : Int) == 0) := by decide +kernel

/-- The calls of math.Ldexp. -/
theorem ldexp_one {k f : Nat} {E : Int} (hE : E = (k : Int) - 25) (hk : k < 32) (hf : f < 1024) (w : World) : Calls Try.prog 85 #[.float .f64 (floatOfInt .f64 (1024 + (f : Int))), .int .i64 E] w fun e w' => ∃ n, e = .returned (.float .f64 (sc (1024 + f) E)) ∧ w' = w.drewN n := by
  have e1 : (1024 + (f : Int)) = ((1024 + f : Nat) : Int) := by omega
  rw [e1]
  exact Ldexp_c _ _ _ (sc_ok (n := 1024 + f) (by omega) (by omega) (by omega)).1 w
theorem ldexp_low {f : Nat} (hf : f < 1024) (w : World) : Calls Try.prog 85 #[.float .f64 (floatOfInt .f64 (f : Int)), .int .i64 (-24)] w fun e w' => ∃ n, e = .returned (.float .f64 (sc f (-24))) ∧ w' = w.drewN n :=
  Ldexp_c _ _ _ (sc_ok (n := f) (by omega) (by decide) (by decide)).1 w

def HalfR (w : World) (c : Nat) (e : Ending) (w' : World) : Prop := RetF .f32 w (fconv .f64 .f32 (cl .f64 (halfY c))) e w'

theorem halfY_pos {c X : Nat} (hs : 32768 ≤ c) (hX : halfX (c % 32768 / 1024) (c % 1024) = X) : halfY c = Op.negFloat .f64 X ∧ Narrows .f64 .f32 (Op.negFloat .f64 X) := by
  have e : halfY c = Op.negFloat .f64 X := by unfold halfY; rw [if_pos hs, hX]
  exact ⟨e, e ▸ halfY_narrows c⟩
theorem halfY_neg {c X : Nat} (hs : ¬ 32768 ≤ c) (hX : halfX (c % 32768 / 1024) (c % 1024) = X) : halfY c = X ∧ Narrows .f64 .f32 X := by
  have e : halfY c = X := by unfold halfY; rw [if_neg hs, hX]
  exact ⟨e, e ▸ halfY_narrows c⟩
set_option maxRecDepth 10000 in
theorem specHalf_zero (c k f : Nat) (hc : c ≤ 65535) (hk : (c : Int) % 32768 / 1024 = 0) (hf : (c : Int) % 1024 = f) (hX : halfX (c % 32768 / 1024) (c % 1024) = sc f (-24)) (w : World) : Calls Try.prog 77 #[.int .i64 c] w (HalfR w c) := by
  have hf1 : f < 1024 := by omega
  have L1 := Lib.hid (fun w => ldexp_one (E := -25) (k := 0) (f := f) rfl (by omega) hf1 w)
  have L2 := Lib.hid (fun w => ldexp_low hf1 w)
  rcases Nat.lt_or_ge c 32768 with hs | hs
  rotate_left
  · have hsd : decide ((32768 : Int) ≤ (c : Int)) = true := by simp; omega
    obtain ⟨hy, hn⟩ := halfY_pos hs hX
    have HY := Lib.hid hy
    have HN := Lib.hid hn
    clear hy hn hX hs hf1
    go_enter Try.func77, Try.ntmps77
    go_wp2_with fail
    refine (L1.out _).mono ?_; rintro e w1 ⟨n1, rfl, rfl⟩
    go_wp2_with fail
    refine (L2.out _).mono ?_; rintro e w1 ⟨n2, rfl, rfl⟩
    go_wp2_with (refine wpList_narrow _ rfl Try.underlying36 Try.underlying32 rfl HN.out ?_; intro r n hr hwr)
    go_ret
    exact retF _ (by rw [hr, HY.out]) hwr
  
  · have hsd : decide ((32768 : Int) ≤ (c : Int)) = false := by simp; omega
    obtain ⟨hy, hn⟩ := halfY_neg (by omega) hX
    have HY := Lib.hid hy
    have HN := Lib.hid hn
    clear hy hn hX hs hf1
    go_enter Try.func77, Try.ntmps77
    go_wp2_with fail
    refine (L1.out _).mono ?_; rintro e w1 ⟨n1, rfl, rfl⟩
    go_wp2_with fail
    refine (L2.out _).mono ?_; rintro e w1 ⟨n2, rfl, rfl⟩
    go_wp2_with (refine wpList_narrow _ rfl Try.underlying36 Try.underlying32 rfl HN.out ?_; intro r n hr hwr)
    go_ret
    exact retF _ (by rw [hr, HY.out]) hwr
set_option maxRecDepth 10000 in
theorem specHalf_norm (c k f : Nat) (hc : c ≤ 65535) (hk : (c : Int) % 32768 / 1024 = k) (hkl : k < 32) (hk0 : ((k : Int) == 0) = false) (hk31 : ((k : Int) == 31) = false)  (hf : (c : Int) % 1024 = f) (hX : halfX (c % 32768 / 1024) (c % 1024) = sc (1024 + f) ((k : Int) - 25)) (w : World) : Calls Try.prog 77 #[.int .i64 c] w (HalfR w c) := by
  have hf1 : f < 1024 := by omega
  have L1 := Lib.hid (fun w => ldexp_one (E := (k : Int) - 25) (k := k) (f := f) rfl (by omega) hf1 w)
  rcases Nat.lt_or_ge c 32768 with hs | hs
  rotate_left
  · have hsd : decide ((32768 : Int) ≤ (c : Int)) = true := by simp; omega
    obtain ⟨hy, hn⟩ := halfY_pos hs hX
    have HY := Lib.hid hy
    have HN := Lib.hid hn
    clear hy hn hX hs hf1
    go_enter Try.func77, Try.ntmps77
    go_wp2_with fail
    refine (L1.out _).mono ?_; rintro e w1 ⟨n1, rfl, rfl⟩
    go_wp2_with (refine wpList_narrow _ rfl Try.underlying36 Try.underlying32 rfl HN.out ?_; intro r n hr hwr)
    go_ret
    exact retF _ (by rw [hr, HY.out]) hwr
  
  · have hsd : decide ((32768 : Int) ≤ (c : Int)) = false := by simp; omega
    obtain ⟨hy, hn⟩ := halfY_neg (by omega) hX
    have HY := Lib.hid hy
    have HN := Lib.hid hn
    clear hy hn hX hs hf1
    go_enter Try.func77, Try.ntmps77
    go_wp2_with fail
    refine (L1.out _).mono ?_; rintro e w1 ⟨n1, rfl, rfl⟩
    go_wp2_with (refine wpList_narrow _ rfl Try.underlying36 Try.underlying32 rfl HN.out ?_; intro r n hr hwr)
    go_ret
    exact retF _ (by rw [hr, HY.out]) hwr
set_option maxRecDepth 10000 in
theorem specHalf_inf (c k f : Nat) (hc : c ≤ 65535) (hk : (c : Int) % 32768 / 1024 = 31) (hf0 : ((f : Int) != 0) = false) (hf : (c : Int) % 1024 = f) (hX : halfX (c % 32768 / 1024) (c % 1024) = 9218868437227405312) (w : World) : Calls Try.prog 77 #[.int .i64 c] w (HalfR w c) := by
  have hf1 : f < 1024 := by omega
  have L1 := Lib.hid (fun w => ldexp_one (E := 6) (k := 31) (f := f) rfl (by omega) hf1 w)
  rcases Nat.lt_or_ge c 32768 with hs | hs
  rotate_left
  · have hsd : decide ((32768 : Int) ≤ (c : Int)) = true := by simp; omega
    obtain ⟨hy, hn⟩ := halfY_pos hs hX
    have HY := Lib.hid hy
    have HN := Lib.hid hn
    clear hy hn hX hs hf1
    go_enter Try.func77, Try.ntmps77
    go_wp2_with fail
    refine (L1.out _).mono ?_; rintro e w1 ⟨n1, rfl, rfl⟩
    go_wp2_with (first | (go_at_call 93; go_in) | (go_at_call 103; go_in) | (refine wpList_narrow _ rfl Try.underlying36 Try.underlying32 rfl HN.out ?_; intro r n hr hwr))
    go_ret
    exact retF _ (by rw [hr, HY.out]) hwr
  
  · have hsd : decide ((32768 : Int) ≤ (c : Int)) = false := by simp; omega
    obtain ⟨hy, hn⟩ := halfY_neg (by omega) hX
    have HY := Lib.hid hy
    have HN := Lib.hid hn
    clear hy hn hX hs hf1
    go_enter Try.func77, Try.ntmps77
    go_wp2_with fail
    refine (L1.out _).mono ?_; rintro e w1 ⟨n1, rfl, rfl⟩
    go_wp2_with (first | (go_at_call 93; go_in) | (go_at_call 103; go_in) | (refine wpList_narrow _ rfl Try.underlying36 Try.underlying32 rfl HN.out ?_; intro r n hr hwr))
    go_ret
    exact retF _ (by rw [hr, HY.out]) hwr
set_option maxRecDepth 10000 in
theorem specHalf_nan (c k f : Nat) (hc : c ≤ 65535) (hk : (c : Int) % 32768 / 1024 = 31) (hf0 : ((f : Int) != 0) = true) (hf : (c : Int) % 1024 = f) (hX : halfX (c % 32768 / 1024) (c % 1024) = 9221120237041090561) (w : World) : Calls Try.prog 77 #[.int .i64 c] w (HalfR w c) := by
  have hf1 : f < 1024 := by omega
  have L1 := Lib.hid (fun w => ldexp_one (E := 6) (k := 31) (f := f) rfl (by omega) hf1 w)
  rcases Nat.lt_or_ge c 32768 with hs | hs
  rotate_left
  · have hsd : decide ((32768 : Int) ≤ (c : Int)) = true := by simp; omega
    obtain ⟨hy, hn⟩ := halfY_pos hs hX
    have HY := Lib.hid hy
    have HN := Lib.hid hn
    clear hy hn hX hs hf1
    go_enter Try.func77, Try.ntmps77
    go_wp2_with fail
    refine (L1.out _).mono ?_; rintro e w1 ⟨n1, rfl, rfl⟩
    go_wp2_with (first | (go_at_call 93; go_in) | (go_at_call 94; go_in) | (go_at_call 103; go_in) | (refine wpList_narrow _ rfl Try.underlying36 Try.underlying32 rfl HN.out ?_; intro r n hr hwr))
    go_ret
    exact retF _ (by rw [hr, HY.out]) hwr
  
  · have hsd : decide ((32768 : Int) ≤ (c : Int)) = false := by simp; omega
    obtain ⟨hy, hn⟩ := halfY_neg (by omega) hX
    have HY := Lib.hid hy
    have HN := Lib.hid hn
    clear hy hn hX hs hf1
    go_enter Try.func77, Try.ntmps77
    go_wp2_with fail
    refine (L1.out _).mono ?_; rintro e w1 ⟨n1, rfl, rfl⟩
    go_wp2_with (first | (go_at_call 93; go_in) | (go_at_call 94; go_in) | (go_at_call 103; go_in) | (refine wpList_narrow _ rfl Try.underlying36 Try.underlying32 rfl HN.out ?_; intro r n hr hwr))
    go_ret
    exact retF _ (by rw [hr, HY.out]) hwr

theorem cl_fl (n : Int) : cl .f64 (floatOfInt .f64 n) = some (floatOfInt .f64 n) := cl_write .f64 (d := .number (n < 0) n.natAbs 0) rfl
theorem add_v {v f : Nat} (hf : f < 1024) (hv : cl .f64 v = fbin .add .f64 (cl .f64 4652218415073722368) (cl .f64 (floatOfInt .f64 (f : Int)))) : v = floatOfInt .f64 (1024 + (f : Int)) := by
  rw [cl64_of (b := 4652218415073722368) (by decide), cl_fl, add_1024 f hf] at hv
  exact (cl64_some hv).1.symm

theorem nan_narrows : Narrows .f64 .f32 9221120237041090561 := bad_narrows (by decide)
theorem implNan_c (w : World) : Calls Try.prog 95 #[] w (RetF .f32 w none) := by
  have HN := Lib.hid nan_narrows
  have HC : Hid (cl .f64 9221120237041090561 = none) := by show _ = _; rw [cl64, if_pos (by decide)]
  go_enter Try.func95, Try.ntmps95
  go_wp2_with (first | (go_at_call 94; go_in) | (go_at_call 103; go_in) | (refine wpList_narrow _ rfl Try.underlying36 Try.underlying32 rfl HN.out ?_; intro r n hr hwr))
  go_ret
  exact retF _ (by rw [hr, HC.out]; rfl) hwr

theorem halfY_nan {c : Nat} (hX : halfX (c % 32768 / 1024) (c % 1024) = 9221120237041090561) : fconv .f64 .f32 (cl .f64 (halfY c)) = none := by
  have : cl .f64 (halfY c) = none := by
    unfold halfY; rw [hX]
    split
    · rw [cl64, neg_mod, if_pos (by decide)]
    · rw [cl64, if_pos (by decide)]
  rw [this]; rfl

set_option maxRecDepth 10000 in
theorem implHalf_zero (c k f : Nat) (hc : c ≤ 65535) (hk : (c : Int) % 32768 / 1024 = 0) (hf : (c : Int) % 1024 = f) (hX : halfX (c % 32768 / 1024) (c % 1024) = sc f (-24)) (w : World) : Calls Try.prog 78 #[.int .i64 c] w (HalfR w c) := by
  have hf1 : f < 1024 := by omega
  have HA := Lib.hid (fun v hv => add_v (v := v) hf1 hv)
  have L1 := Lib.hid (fun w => ldexp_one (E := -25) (k := 0) (f := f) rfl (by omega) hf1 w)
  have L2 := Lib.hid (fun w => ldexp_low hf1 w)
  rcases Nat.lt_or_ge c 32768 with hs | hs
  rotate_left
  · have hsd : decide ((32768 : Int) ≤ (c : Int)) = true := by simp; omega
    obtain ⟨hy, hn⟩ := halfY_pos hs hX
    have HY := Lib.hid hy
    have HN := Lib.hid hn
    clear hy hn hX hs hf1
    go_enter Try.func78, Try.ntmps78
    go_wp2_with (refine wpList_fbin .f64 _ _ rfl rfl rfl rfl ?_; intro v n0 hv hwv)
    obtain rfl := HA.out v hv
    clear hv hwv
    refine (L1.out _).mono ?_; rintro e w1 ⟨n1, rfl, rfl⟩
    go_wp2_with fail
    refine (L2.out _).mono ?_; rintro e w1 ⟨n2, rfl, rfl⟩
    go_wp2_with (refine wpList_narrow _ rfl Try.underlying36 Try.underlying32 rfl HN.out ?_; intro r n hr hwr)
    go_ret
    exact retF _ (by rw [hr, HY.out]) hwr
  
  · have hsd : decide ((32768 : Int) ≤ (c : Int)) = false := by simp; omega
    obtain ⟨hy, hn⟩ := halfY_neg (by omega) hX
    have HY := Lib.hid hy
    have HN := Lib.hid hn
    clear hy hn hX hs hf1
    go_enter Try.func78, Try.ntmps78
    go_wp2_with (refine wpList_fbin .f64 _ _ rfl rfl rfl rfl ?_; intro v n0 hv hwv)
    obtain rfl := HA.out v hv
    clear hv hwv
    refine (L1.out _).mono ?_; rintro e w1 ⟨n1, rfl, rfl⟩
    go_wp2_with fail
    refine (L2.out _).mono ?_; rintro e w1 ⟨n2, rfl, rfl⟩
    go_wp2_with (refine wpList_narrow _ rfl Try.underlying36 Try.underlying32 rfl HN.out ?_; intro r n hr hwr)
    go_ret
    exact retF _ (by rw [hr, HY.out]) hwr
set_option maxRecDepth 10000 in
theorem implHalf_norm (c k f : Nat) (hc : c ≤ 65535) (hk : (c : Int) % 32768 / 1024 = k) (hkl : k < 32) (hk0 : ((k : Int) == 0) = false) (hk31 : ((k : Int) == 31) = false)  (hf : (c : Int) % 1024 = f) (hX : halfX (c % 32768 / 1024) (c % 1024) = sc (1024 + f) ((k : Int) - 25)) (w : World) : Calls Try.prog 78 #[.int .i64 c] w (HalfR w c) := by
  have hf1 : f < 1024 := by omega
  have HA := Lib.hid (fun v hv => add_v (v := v) hf1 hv)
  have L1 := Lib.hid (fun w => ldexp_one (E := (k : Int) - 25) (k := k) (f := f) rfl (by omega) hf1 w)
  rcases Nat.lt_or_ge c 32768 with hs | hs
  rotate_left
  · have hsd : decide ((32768 : Int) ≤ (c : Int)) = true := by simp; omega
    obtain ⟨hy, hn⟩ := halfY_pos hs hX
    have HY := Lib.hid hy
    have HN := Lib.hid hn
    clear hy hn hX hs hf1
    go_enter Try.func78, Try.ntmps78
    go_wp2_with (refine wpList_fbin .f64 _ _ rfl rfl rfl rfl ?_; intro v n0 hv hwv)
    obtain rfl := HA.out v hv
    clear hv hwv
    refine (L1.out _).mono ?_; rintro e w1 ⟨n1, rfl, rfl⟩
    go_wp2_with (refine wpList_narrow _ rfl Try.underlying36 Try.underlying32 rfl HN.out ?_; intro r n hr hwr)
    go_ret
    exact retF _ (by rw [hr, HY.out]) hwr
  
  · have hsd : decide ((32768 : Int) ≤ (c : Int)) = false := by simp; omega
    obtain ⟨hy, hn⟩ := halfY_neg (by omega) hX
    have HY := Lib.hid hy
    have HN := Lib.hid hn
    clear hy hn hX hs hf1
    go_enter Try.func78, Try.ntmps78
    go_wp2_with (refine wpList_fbin .f64 _ _ rfl rfl rfl rfl ?_; intro v n0 hv hwv)
    obtain rfl := HA.out v hv
    clear hv hwv
    refine (L1.out _).mono ?_; rintro e w1 ⟨n1, rfl, rfl⟩
    go_wp2_with (refine wpList_narrow _ rfl Try.underlying36 Try.underlying32 rfl HN.out ?_; intro r n hr hwr)
    go_ret
    exact retF _ (by rw [hr, HY.out]) hwr
set_option maxRecDepth 10000 in
theorem implHalf_inf (c k f : Nat) (hc : c ≤ 65535) (hk : (c : Int) % 32768 / 1024 = 31) (hf0 : ((f : Int) == 0) = true) (hf : (c : Int) % 1024 = f) (hX : halfX (c % 32768 / 1024) (c % 1024) = 9218868437227405312) (w : World) : Calls Try.prog 78 #[.int .i64 c] w (HalfR w c) := by
  have hf1 : f < 1024 := by omega
  have HA := Lib.hid (fun v hv => add_v (v := v) hf1 hv)
  have L1 := Lib.hid (fun w => ldexp_one (E := 6) (k := 31) (f := f) rfl (by omega) hf1 w)
  have hfz := eq_zero_f f hf1
  rw [hf0] at hfz
  rcases Nat.lt_or_ge c 32768 with hs | hs
  rotate_left
  · have hsd : decide ((32768 : Int) ≤ (c : Int)) = true := by simp; omega
    obtain ⟨hy, hn⟩ := halfY_pos hs hX
    have HY := Lib.hid hy
    have HN := Lib.hid hn
    clear hy hn hX hs hf1
    go_enter Try.func78, Try.ntmps78
    go_wp2_with (refine wpList_fbin .f64 _ _ rfl rfl rfl rfl ?_; intro v n0 hv hwv)
    obtain rfl := HA.out v hv
    clear hv hwv
    refine (L1.out _).mono ?_; rintro e w1 ⟨n1, rfl, rfl⟩
    go_wp2_with (first | (go_at_call 93; go_in) | (go_at_call 103; go_in) | (refine wpList_narrow _ rfl Try.underlying36 Try.underlying32 rfl HN.out ?_; intro r n hr hwr))
    go_ret
    exact retF _ (by rw [hr, HY.out]) hwr
  
  · have hsd : decide ((32768 : Int) ≤ (c : Int)) = false := by simp; omega
    obtain ⟨hy, hn⟩ := halfY_neg (by omega) hX
    have HY := Lib.hid hy
    have HN := Lib.hid hn
    clear hy hn hX hs hf1
    go_enter Try.func78, Try.ntmps78
    go_wp2_with (refine wpList_fbin .f64 _ _ rfl rfl rfl rfl ?_; intro v n0 hv hwv)
    obtain rfl := HA.out v hv
    clear hv hwv
    refine (L1.out _).mono ?_; rintro e w1 ⟨n1, rfl, rfl⟩
    go_wp2_with (first | (go_at_call 93; go_in) | (go_at_call 103; go_in) | (refine wpList_narrow _ rfl Try.underlying36 Try.underlying32 rfl HN.out ?_; intro r n hr hwr))
    go_ret
    exact retF _ (by rw [hr, HY.out]) hwr
set_option maxRecDepth 10000 in
theorem implHalf_nan (c k f : Nat) (hc : c ≤ 65535) (hk : (c : Int) % 32768 / 1024 = 31) (hf0 : ((f : Int) == 0) = false) (hf : (c : Int) % 1024 = f) (hX : halfX (c % 32768 / 1024) (c % 1024) = 9221120237041090561) (w : World) : Calls Try.prog 78 #[.int .i64 c] w (HalfR w c) := by
  have hf1 : f < 1024 := by omega
  have HA := Lib.hid (fun v hv => add_v (v := v) hf1 hv)
  have L1 := Lib.hid (fun w => ldexp_one (E := 6) (k := 31) (f := f) rfl (by omega) hf1 w)
  have hfz := eq_zero_f f hf1
  rw [hf0] at hfz
  have HY := Lib.hid (halfY_nan hX)
  clear hX hf1
  go_enter Try.func78, Try.ntmps78
  go_wp2_with (refine wpList_fbin .f64 _ _ rfl rfl rfl rfl ?_; intro v n0 hv hwv)
  obtain rfl := HA.out v hv
  clear hv hwv
  refine (L1.out _).mono ?_; rintro e w1 ⟨n1, rfl, rfl⟩
  go_wp2_with fail
  refine (implNan_c _).mono ?_; rintro e w1 ⟨r, n2, rfl, hr, hwr, rfl⟩
  go_wp2_with fail
  go_ret
  exact retF _ (by rw [hr, HY.out]) hwr

theorem both_half (c : Nat) (hc : c ≤ 65535) (w : World) : Calls Try.prog 77 #[.int .i64 c] w (HalfR w c) ∧ Calls Try.prog 78 #[.int .i64 c] w (HalfR w c) := by
  have hk : (c : Int) % 32768 / 1024 = ((c % 32768 / 1024 : Nat) : Int) := rfl
  have hf : (c : Int) % 1024 = ((c % 1024 : Nat) : Int) := rfl
  generalize hK : c % 32768 / 1024 = k at hk
  generalize hF : c % 1024 = f at hf
  have hkl : k < 32 := by omega
  have hX : halfX (c % 32768 / 1024) (c % 1024) = halfX k f := by rw [hK, hF]
  by_cases h0 : k = 0
  · have e : halfX k f = sc f (-24) := by unfold halfX; rw [if_pos h0]
    have hk' : (c : Int) % 32768 / 1024 = 0 := by rw [hk, h0]; rfl
    exact ⟨specHalf_zero c k f hc hk' hf (hX.trans e) w, implHalf_zero c k f hc hk' hf (hX.trans e) w⟩
  · by_cases h31 : k = 31
    · have hk' : (c : Int) % 32768 / 1024 = 31 := by rw [hk, h31]; rfl
      by_cases hf0 : f = 0
      · have e : halfX k f = 9218868437227405312 := by unfold halfX; rw [if_neg h0, if_pos h31, if_pos hf0]
        exact ⟨specHalf_inf c k f hc hk' (by rw [hf0]; rfl) hf (hX.trans e) w, implHalf_inf c k f hc hk' (by rw [hf0]; rfl) hf (hX.trans e) w⟩
      · have e : halfX k f = 9221120237041090561 := by unfold halfX; rw [if_neg h0, if_pos h31, if_neg hf0]
        exact ⟨specHalf_nan c k f hc hk' (by simp; exact hf0) hf (hX.trans e) w, implHalf_nan c k f hc hk' (by simp; exact hf0) hf (hX.trans e) w⟩
    · have e : halfX k f = sc (1024 + f) ((k : Int) - 25) := by unfold halfX; rw [if_neg h0, if_neg h31]
      have t0 : ((k : Int) == 0) = false := by rw [beq_eq_false_iff_ne]; omega
      have t31 : ((k : Int) == 31) = false := by rw [beq_eq_false_iff_ne]; omega
      exact ⟨specHalf_norm c k f hc hk hkl t0 t31 hf (hX.trans e) w, implHalf_norm c k f hc hk hkl t0 t31 hf (hX.trans e) w⟩

def HalfP (C : Option Nat) (ok : Bool) (w : World) (e : Ending) (w' : World) : Prop := ∃ r k, e = .returned (.tuple #[.float .f32 r, .bool ok]) ∧ cl .f32 r = C ∧ w' = w.drewN k

theorem both_FromHalf (n : Int) : ∃ C : Option Nat, ∃ ok : Bool,
    (∀ w, Calls Try.prog 36 #[.int .i64 n] w (HalfP C ok w)) ∧
    (∀ w, Calls Try.prog 37 #[.int .i64 n] w (HalfP C ok w)) := by
  by_cases h : n < 0 ∨ 65535 < n
  · refine ⟨cl .f32 0, false, fun w => ?_, fun w => ?_⟩
    · by_cases h0 : 0 ≤ n
      · have h1 : ¬ n ≤ 65535 := by omega
        clear h
        go_enter Try.func36, Try.ntmps36
        go_wp2_with (first | (go_at_call 76; go_in))
        go_ret2
        exact ⟨_, 0, rfl, rfl, rfl⟩
      · clear h
        go_enter Try.func36, Try.ntmps36
        go_wp2_with (first | (go_at_call 76; go_in))
        go_ret2
        exact ⟨_, 0, rfl, rfl, rfl⟩
    · by_cases h0 : 0 ≤ n
      · have h1 : ¬ n ≤ 65535 := by omega
        clear h
        go_enter Try.func37, Try.ntmps37
        go_wp2_with (first | (go_at_call 45; go_in))
        go_ret2
        exact ⟨_, 0, rfl, rfl, rfl⟩
      · clear h
        go_enter Try.func37, Try.ntmps37
        go_wp2_with (first | (go_at_call 45; go_in))
        go_ret2
        exact ⟨_, 0, rfl, rfl, rfl⟩
  · obtain ⟨c, rfl⟩ : ∃ c : Nat, n = c := ⟨n.toNat, by omega⟩
    have hc : c ≤ 65535 := by omega
    have hin : decide ((c : Int) ≤ 65535) = true := decide_eq_true (by omega)
    refine ⟨fconv .f64 .f32 (cl .f64 (halfY c)), true, fun w => ?_, fun w => ?_⟩
    · have H := Lib.hid (fun w => (both_half c hc w).1)
      clear h
      go_enter Try.func36, Try.ntmps36
      go_wp2_with (first | (go_at_call 76; go_in))
      refine (H.out _).mono ?_; rintro e w1 ⟨r, n2, rfl, hr, hwr, rfl⟩
      go_wp2_with fail
      go_ret2
      exact ⟨_, _, rfl, hr, rfl⟩
    · have H := Lib.hid (fun w => (both_half c hc w).2)
      clear h
      go_enter Try.func37, Try.ntmps37
      go_wp2_with (first | (go_at_call 45; go_in))
      refine (H.out _).mono ?_; rintro e w1 ⟨r, n2, rfl, hr, hwr, rfl⟩
      go_wp2_with fail
      go_ret2
      exact ⟨_, _, rfl, hr, rfl⟩

theorem law_FromHalf (n : Int) (w : World) (hw : (Lit.int .i64 n).wf = true) : Calls Try.prog 11 #[.int .i64 n] w fun e w' => e = .returned (.bool true) ∧ Below w.heap.size w w' := by
  obtain ⟨C, ok, hs, hi⟩ := both_FromHalf n
  have HS := Lib.hid hs
  have HI := Lib.hid hi
  clear hs hi
  go_enter Try.func11, Try.ntmps11
  go_wp2_with fail
  refine (HS.out _).mono ?_; rintro e w1 ⟨r, k1, rfl, ht, rfl⟩
  go_wp2_with fail
  refine (HI.out _).mono ?_; rintro e w2 ⟨r', k2, rfl, ht', rfl⟩
  have Q := Lib.hid (ht'.trans ht.symm)
  clear ht ht'
  go_wp2_with (refine wpList_widen _ rfl Try.underlying32 Try.underlying36 rfl ?_; intro v n hv hwv)
  refine (sameFloat_c _ _ _ (by rw [‹cl .f64 _ = fconv .f32 .f64 (cl .f32 r')›, ‹cl .f64 _ = fconv .f32 .f64 (cl .f32 r)›, Q.out])).mono ?_; rintro e w3 ⟨rfl, m, rfl⟩
  go_wp2_with fail
  go_ret
  exact lawOk _
end Go.Proofs.Ytpjonajpgidjfaa
