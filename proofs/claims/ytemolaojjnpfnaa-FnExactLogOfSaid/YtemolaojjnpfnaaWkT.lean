/-
  The walk of the law of tenths of decibels. No condition.
-/
import Derived.Test.YtemolaojjnpfnaaWkL
import Derived.Test.YtemolaojjnpfnaaFlr
namespace Go.Proofs.Ytemolaojjnpfnaa
set_option linter.unusedVariables false
open Go.RowKit Ieee

theorem floor_c (b : Nat) (h : MagD (Ieee.double.read b) 52) (w : World) : Calls Try.prog 56 #[.float .f64 b] w fun e w' => e = .returned (.float .f64 (partB .down b)) ∧ w = w' := by
  have hcall : ∀ w, (callFunc 82 #[.float .f64 b]).run Try.prog w = .ok (.value (.float .f64 (partB .down b))) w := by
    intro w
    obtain ⟨s, m, e, hd, _⟩ := h
    have hlt : b % 9223372036854775808 < 9218868437227405312 := by
      have h1 := read_dbl b
      rw [hd] at h1
      split at h1
      · omega
      · split at h1
        · assumption
        · split at h1 <;> cases h1
    rw [run_callFunc_extern (e := Extern.MathFloor.toIntegral "math.archFloor" .down) Try.func82 (by kernel_rfl) (by kernel_rfl) (by kernel_rfl) (by kernel_rfl), run_toIntegral hlt]; rfl
  clear h
  go_enter Try.func56, Try.ntmps56
  go_wp2
  go_ret
  exact ⟨rfl, rfl⟩

/-- What is rounded down: hundredths of a class of bits. -/
def tenV (b : Nat) : Option Nat := fbin .add .f64 (fbin .mul .f64 (logF b) (some 4631308968768463603)) (some 4602678819172646912)
theorem mag_ten {b : Nat} (h1 : 4503599627370496 ≤ b) (h2 : b < 9218868437227405312) : Mag (tenV b) 49 :=
  mag_add (mag_mul (mag_logF h1 h2) (show Mag (some 4631308968768463603) 6 from ⟨_, rfl, read_mag (by decide) (by decide) (by decide +kernel)⟩) (by decide) (by decide)) (mag_mono mag_half (by decide)) (by decide) (by decide)

def tenI (b : Nat) : Int := ((tenV b).bind fun t => floatToIntVal .f64 (partB .down t) .i64).getD 0

theorem ten_facts {b t : Nat} (h1 : 4503599627370496 ≤ b) (h2 : b < 9218868437227405312) (ht : cl .f64 t = tenV b) : MagD (Ieee.double.read t) 52 ∧ floatToIntVal .f64 (partB .down t) .i64 = some (tenI b) := by
  have hm := mag_ten h1 h2
  have hd := mag_bits (mag_mono hm (show (49 : Int) ≤ 52 by decide)) ht
  refine ⟨hd, ?_⟩
  obtain ⟨n, hn, _⟩ := part_int .down hd
  obtain ⟨c, hc, _⟩ := hm
  have e : t = c := bits_of ht hc
  unfold tenI
  rw [hc, Option.bind_some, ← e, hn, Option.getD_some]

theorem le0_32 {x : Nat} (hx : x < 4294967296) : (FloatKind.f32.format.order x 0 == some .lt || FloatKind.f32.format.order x 0 == some .eq) = decide (x % 2147483648 ≤ 2139095040 ∧ (2147483648 < x ∨ x % 2147483648 = 0)) := by
  rw [lt0_32 hx, eq0_32, ← Bool.decide_or]
  apply decide_eq_decide.2
  omega

/-- What a positive finite float32 becomes. -/
theorem pos_facts {x : Nat} (hx : x < 4294967296) (hp : ¬ (x % 2147483648 ≤ 2139095040 ∧ (2147483648 < x ∨ x % 2147483648 = 0))) (hf : fin .f32 (cl .f32 x) = true) {v : Nat} (hv : cl .f64 v = fconv .f32 .f64 (cl .f32 x)) :
    4503599627370496 ≤ v ∧ v < 9218868437227405312 ∧ logW v = logF v := by
  have hA := widen_all hx hv
  have hlt : x % 2147483648 < 2139095040 := by
    unfold fin at hf
    cases hc : cl .f32 x with
    | none => rw [hc] at hf; cases hf
    | some c =>
      obtain ⟨rfl, _⟩ := cl32_some hc
      rw [hc] at hf
      have h2 : decide (c % Ieee.single.signWeight < Ieee.single.infRung) = true := hf
      rw [sng_sign, sng_inf] at h2
      exact of_decide_eq_true h2
  have hr : 4503599627370496 ≤ v ∧ v < 9218868437227405312 := by omega
  refine ⟨hr.1, hr.2, ?_⟩
  unfold logW
  rw [if_neg (by omega), if_neg (by omega), if_neg (by omega), if_neg (by omega)]

def posT (x : Nat) : Bool := fin .f32 (cl .f32 x) && !decide (x % 2147483648 ≤ 2139095040 ∧ (2147483648 < x ∨ x % 2147483648 = 0))

def tenT (x : Nat) (n : Int) (ok : Bool) : Prop := ok = posT x ∧ ((posT x = false ∧ n = 0) ∨ (posT x = true ∧ ∃ v, cl .f64 v = fconv .f32 .f64 (cl .f32 x) ∧ v < 9218868437227405312 ∧ n = tenI v))

theorem tenT_one {x : Nat} {n m : Int} {p q : Bool} (h : tenT x n p) (h' : tenT x m q) : n = m ∧ p = q := by
  obtain ⟨rfl, h⟩ := h
  obtain ⟨rfl, h'⟩ := h'
  refine ⟨?_, rfl⟩
  rcases h with ⟨hf, rfl⟩ | ⟨ht, v, hv, hl, rfl⟩
  · rcases h' with ⟨_, rfl⟩ | ⟨ht', _⟩
    · rfl
    · rw [hf] at ht'; cases ht'
  · rcases h' with ⟨hf, _⟩ | ⟨_, u, hu, _, rfl⟩
    · rw [hf] at ht; cases ht
    · have e := hv.trans hu.symm
      rw [cl64_of (b := v) (by omega)] at e
      rw [(cl64_some e.symm).1]

theorem specTen_c (x : Nat) (hx : x < 4294967296) (w : World) : Calls Try.prog 25 #[.float .f32 x] w fun e w' => ∃ n ok d, tenT x n ok ∧ e = .returned (.tuple #[.int .i64 n, .bool ok]) ∧ w' = w.drewN d := by
  have ole := le0_32 hx
  cases hf : fin .f32 (cl .f32 x) with
  | false =>
    have HT : Hid (tenT x 0 false) := by
      have hp : posT x = false := by unfold posT; rw [hf]; rfl
      exact ⟨hp.symm, .inl ⟨hp, rfl⟩⟩
    have HF := Lib.hid hf
    clear hf ole hx
    go_enter Try.func25, Try.ntmps25
    go_wp2_with fail
    refine (l01Finite_c _ _).mono ?_; rintro e w' ⟨rfl, n, rfl⟩
    rw [HF.out]
    go_wp2
    go_ret2
    exact ⟨_, _, _, HT.out, rfl, rfl⟩
  | true =>
    by_cases hp : x % 2147483648 ≤ 2139095040 ∧ (2147483648 < x ∨ x % 2147483648 = 0)
    · rw [decide_eq_true hp] at ole
      have HT : Hid (tenT x 0 false) := by
        have hp : posT x = false := by unfold posT; rw [hf, decide_eq_true hp]; rfl
        exact ⟨hp.symm, .inl ⟨hp, rfl⟩⟩
      have HF := Lib.hid hf
      clear hf hx hp
      go_enter Try.func25, Try.ntmps25
      go_wp2_with fail
      refine (l01Finite_c _ _).mono ?_; rintro e w' ⟨rfl, n, rfl⟩
      rw [HF.out]
      go_wp2
      go_ret2
      exact ⟨_, _, _, HT.out, rfl, rfl⟩
    · rw [decide_eq_false hp] at ole
      have HV := Lib.hid (fun v hv => pos_facts (v := v) hx hp hf hv)
      have HN := Lib.hid (fun v hv => norm_of (v := v) hx hv)
      have hpt : Hid (posT x = true) := by show _ = _; unfold posT; rw [hf, decide_eq_false hp]; rfl
      have HF := Lib.hid hf
      clear hf hx hp
      go_enter Try.func25, Try.ntmps25
      go_wp2_with fail
      refine (l01Finite_c _ _).mono ?_; rintro e w' ⟨rfl, n, rfl⟩
      rw [HF.out]
      go_wp2_with (first | (go_at_call 55; go_in) | (refine wpList_widen _ rfl Try.underlying22 Try.underlying25 rfl ?_; intro v n3 hv hwv))
      obtain ⟨k1, k2, k3⟩ := HV.out v hv
      refine (specLog_c _ (wf_sound hwv) (HN.out v hv) _).mono ?_; rintro e w' ⟨r, n4, rfl, hr, hwr, rfl⟩
      have tok1 : True := trivial
      have tok2 : True := trivial
      go_wp2_with (first | (have _t := tok1; refine wpList_fbin .f64 _ _ rfl rfl rfl rfl ?_; intro a1 m1 g1 v1; clear tok1) | (have _t := tok2; refine wpList_fbin .f64 _ _ rfl rfl rfl rfl ?_; intro a2 m2 g2 v2; clear tok2))
      have ht : cl .f64 a2 = tenV v := by rw [g2, g1, hr, k3, cl_half, cl64_of (b := 4631308968768463603) (by decide)]; rfl
      obtain ⟨f1, f2⟩ := ten_facts k1 k2 ht
      refine (floor_c _ f1 _).mono ?_; rintro e w' ⟨rfl, rfl⟩
      have hc : ∀ w, (convert 25 2 (.float .f64 (partB .down a2))).run Try.prog w = .ok (.int .i64 (tenI v)) w := fun w => run_convert_float_int w _ _ .f64 .i64 _ _ (by rw [Try.underlying25]; rfl) Try.underlying2 f2
      have KV : Hid (cl .f64 v = fconv .f32 .f64 (cl .f32 x) ∧ v < 9218868437227405312) := ⟨hv, k2⟩
      clear f1 f2 ht g1 g2 hr hv k1 k2 k3
      go_wp2
      go_ret2
      exact ⟨_, _, _, ⟨hpt.out.symm, .inr ⟨hpt.out, v, KV.out.1, KV.out.2, rfl⟩⟩, rfl, rfl⟩

theorem implTen_c (x : Nat) (hx : x < 4294967296) (w : World) : Calls Try.prog 26 #[.float .f32 x] w fun e w' => ∃ n ok d, tenT x n ok ∧ e = .returned (.tuple #[.int .i64 n, .bool ok]) ∧ w' = w.drewN d := by
  have ole := le0_32 hx
  cases hf : fin .f32 (cl .f32 x) with
  | false =>
    have HT : Hid (tenT x 0 false) := by
      have hp : posT x = false := by unfold posT; rw [hf]; rfl
      exact ⟨hp.symm, .inl ⟨hp, rfl⟩⟩
    have HF := Lib.hid hf
    clear hf ole hx
    go_enter Try.func26, Try.ntmps26
    go_wp2_with fail
    refine (implIsFinite_c _ _).mono ?_; rintro e w' ⟨rfl, n, rfl⟩
    rw [HF.out]
    go_wp2
    go_ret2
    exact ⟨_, _, _, HT.out, rfl, rfl⟩
  | true =>
    by_cases hp : x % 2147483648 ≤ 2139095040 ∧ (2147483648 < x ∨ x % 2147483648 = 0)
    · rw [decide_eq_true hp] at ole
      have HT : Hid (tenT x 0 false) := by
        have hp : posT x = false := by unfold posT; rw [hf, decide_eq_true hp]; rfl
        exact ⟨hp.symm, .inl ⟨hp, rfl⟩⟩
      have HF := Lib.hid hf
      clear hf hx hp
      go_enter Try.func26, Try.ntmps26
      go_wp2_with fail
      refine (implIsFinite_c _ _).mono ?_; rintro e w' ⟨rfl, n, rfl⟩
      rw [HF.out]
      go_wp2
      go_ret2
      exact ⟨_, _, _, HT.out, rfl, rfl⟩
    · rw [decide_eq_false hp] at ole
      have HV := Lib.hid (fun v hv => pos_facts (v := v) hx hp hf hv)
      have hpt : Hid (posT x = true) := by show _ = _; unfold posT; rw [hf, decide_eq_false hp]; rfl
      have HF := Lib.hid hf
      clear hf hx hp
      go_enter Try.func26, Try.ntmps26
      go_wp2_with fail
      refine (implIsFinite_c _ _).mono ?_; rintro e w' ⟨rfl, n, rfl⟩
      rw [HF.out]
      go_wp2_with (refine wpList_widen _ rfl Try.underlying22 Try.underlying25 rfl ?_; intro v n3 hv hwv)
      obtain ⟨k1, k2, k3⟩ := HV.out v hv
      refine (implLog_c _ k1 k2 _).mono ?_; rintro e w' ⟨r, n4, rfl, hr, hwr, rfl⟩
      have tok1 : True := trivial
      have tok2 : True := trivial
      go_wp2_with (first | (have _t := tok1; refine wpList_fbin .f64 _ _ rfl rfl rfl rfl ?_; intro a1 m1 g1 v1; clear tok1) | (have _t := tok2; refine wpList_fbin .f64 _ _ rfl rfl rfl rfl ?_; intro a2 m2 g2 v2; clear tok2))
      have ht : cl .f64 a2 = tenV v := by rw [g2, g1, hr, cl_half, cl64_of (b := 4631308968768463603) (by decide)]; rfl
      obtain ⟨f1, f2⟩ := ten_facts k1 k2 ht
      refine (floor_c _ f1 _).mono ?_; rintro e w' ⟨rfl, rfl⟩
      have hc : ∀ w, (convert 25 2 (.float .f64 (partB .down a2))).run Try.prog w = .ok (.int .i64 (tenI v)) w := fun w => run_convert_float_int w _ _ .f64 .i64 _ _ (by rw [Try.underlying25]; rfl) Try.underlying2 f2
      have KV : Hid (cl .f64 v = fconv .f32 .f64 (cl .f32 x) ∧ v < 9218868437227405312) := ⟨hv, k2⟩
      clear f1 f2 ht g1 g2 hr hv k1 k2 k3
      go_wp2
      go_ret2
      exact ⟨_, _, _, ⟨hpt.out.symm, .inr ⟨hpt.out, v, KV.out.1, KV.out.2, rfl⟩⟩, rfl, rfl⟩

theorem law_TenthsOf (x : Nat) (w : World) (hw : (Lit.float .f32 x).wf = true) : Calls Try.prog 8 #[.float .f32 x] w fun e w' => e = .returned (.bool true) ∧ Below w.heap.size w w' := by
  have hx : x < 4294967296 := by simpa [Lit.wf] using hw
  have S := Lib.hid (specTen_c x hx)
  have I := Lib.hid (implTen_c x hx)
  clear hx hw
  go_enter Try.func8, Try.ntmps8
  go_wp2_with fail
  refine (S.out _).mono ?_; rintro e w' ⟨n1, k1, d1, s1, rfl, rfl⟩
  go_wp2_with fail
  refine (I.out _).mono ?_; rintro e w' ⟨n2, k2, d2, s2, rfl, rfl⟩
  obtain ⟨rfl, rfl⟩ := tenT_one s1 s2
  clear s1 s2
  go_wp2
  go_ret
  exact lawOk _
end Go.Proofs.Ytemolaojjnpfnaa
