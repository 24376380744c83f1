/-
  Plain laws: a light times a power of two, rounded to the even one of two integers. No condition.
-/
import Derived.Test.YtpjonajpgidjfaaFlr
import Derived.Test.YtpjonajpgidjfaaLdx
namespace Go.Proofs.Ytpjonajpgidjfaa
set_option linter.unusedVariables false
open Ieee

/-- A number that may be shared: from 0 to 65408. -/
def okS (x : Nat) : Bool := decide (x ≤ 1199538176 ∨ x = 2147483648)
def valS (x : Nat) : Nat := if x = 2147483648 then 0 else x

/-- What a light becomes as a float64. -/
theorem wid_S {x v : Nat} (h : x ≤ 1199538176) (hv : cl .f64 v = fconv .f32 .f64 (cl .f32 x)) : v = 0 ∧ x = 0 ∨ 4503599627370496 ≤ v ∧ 3901234567890123456 ≤ v ∧ v ≤ R 16 := by
  have hc : cl .f32 x = some x := by rw [cl32, if_neg (by omega)]
  rw [hc] at hv
  have hv' : cl .f64 v = some (FloatKind.f64.encode (FloatKind.f32.decode x)) := hv
  obtain ⟨e, hn⟩ := cl64_some hv'
  have hR : R 16 = 4679240012837945344 := by decide +kernel
  rw [hR]
  rcases Nat.lt_or_ge (x % 2147483648) 8388608 with h1 | h1
  · rcases Nat.eq_zero_or_pos (x % 2147483648) with h0 | h0
    · left
      have := widen_zero h0
      rw [e] at this
      have hx : x = 0 := by omega
      subst hx
      exact ⟨by simpa using this, rfl⟩
    · right
      obtain ⟨r, hr, a, b⟩ := widen_subnormal h0 h1
      rw [e, if_neg (by omega)] at hr
      have hd : Ieee.single.read x = .number (x / 2147483648 % 2 == 1) x (-149) := by
        unfold Format.read
        rw [sng_sign, sng_binade, sng_inf, sng_least]
        dsimp only
        rw [if_pos h1, show x % 2147483648 = x by omega]
      have hw : FloatKind.f64.encode (FloatKind.f32.decode x) = Ieee.double.nearest (x / 2147483648 % 2 == 1) x (-149) := by
        show Ieee.double.write (Ieee.single.read x) = _
        rw [hd]; rfl
      have hlw := nearest_low (s := (x / 2147483648 % 2 == 1)) (m := x) (e := -149) (i := -149) (by decide) (by decide) (k := 0) (by rw [Nat.pow_zero]; omega) (by decide)
      rw [← hw, e, show R (-149) = 3936146074321813504 from rfl] at hlw
      omega
  · right
    have := widen_normal h1 (by omega)
    rw [e, if_neg (by omega)] at this
    omega

/-- Scaled by two to the power 24 - e. -/
def pS (v e : Nat) : Nat := if v % 9223372036854775808 = 0 then v else ((v : Int) + (24 - (e : Int)) * 4503599627370496).toNat

theorem pS_ok {v e : Nat} (h : v = 0 ∨ v = 9223372036854775808 ∨ 4503599627370496 ≤ v ∧ 3901234567890123456 ≤ v ∧ v ≤ R 16) (he : e ≤ 33) : Scaled v (24 - (e : Int)) (pS v e) ∧ pS v e % 9223372036854775808 ≤ R (40 - (e : Int)) := by
  have hR : R 16 = 4679240012837945344 := by decide +kernel
  have hRe : R (40 - (e : Int)) = (40 - (e : Int) + 1023).toNat * 4503599627370496 := rfl
  rw [hR] at h
  rcases h with rfl | rfl | ⟨h1, h2, h3⟩
  · refine ⟨.inl ⟨.inl rfl, ?_⟩, ?_⟩
    · unfold pS; rw [if_pos (by decide)]
    · unfold pS; rw [if_pos (by decide)]; exact Nat.zero_le _
  · refine ⟨.inl ⟨.inr rfl, ?_⟩, ?_⟩
    · unfold pS; rw [if_pos (by decide)]
    · unfold pS; rw [if_pos (by decide)]; exact Nat.zero_le _
  · have hp : pS v e = ((v : Int) + (24 - (e : Int)) * 4503599627370496).toNat := by unfold pS; rw [if_neg (by omega)]
    have hq : 866 ≤ v / 4503599627370496 ∧ v / 4503599627370496 ≤ 1039 := by omega
    rw [hp, hRe]
    exact ⟨.inr ⟨h1, by omega, by omega, by omega, Int.toNat_of_nonneg (by omega)⟩, by omega⟩

theorem part_mag_i {b : Nat} (i : Nat) (hi : i ≤ 52) (h : MagD (Ieee.double.read b) i) : MagD (Ieee.double.read (partB .even b)) (i + 1 : Nat) := by
  obtain ⟨s, m, e, hd, hm⟩ := h
  unfold partB
  rw [hd]
  have hc := cut_small .even s (i := i) hm
  have h2 : 2 ^ i + 1 ≤ 2 ^ (i + 1) := by
    have := Nat.one_le_two_pow (n := i)
    rw [Nat.pow_succ]; omega
  have hw := write_mag (d := .number s (Toward.even.cut s (m <<< e.toNat) (-e).toNat) 0) (i := ((i + 1 : Nat) : Int)) (by omega) (by omega) ⟨_, _, _, rfl, .inr ⟨i + 1, Nat.le_trans hc h2, by omega⟩⟩
  obtain ⟨c, hc, hd⟩ := hw
  cases hc
  exact hd

theorem to_int_i {w : Nat} (j : Nat) (hj : j ≤ 53) (h : MagD (Ieee.double.read w) j) : ∃ n, floatToIntVal .f64 w .i64 = some n ∧ -((2 ^ j + 1 : Nat) : Int) ≤ n ∧ n ≤ ((2 ^ j + 1 : Nat) : Int) := by
  obtain ⟨s, m, e, hd, hm⟩ := h
  have hc := cut_small .zero s (i := j) hm
  have hi : (FloatKind.f64.decode w).toInt .zero = some (signed s (Toward.zero.cut s (m <<< e.toNat) (-e).toNat) 0) := by
    show (Ieee.double.read w).toInt .zero = _
    rw [hd]; rfl
  have hp : 2 ^ j ≤ 2 ^ 53 := Nat.pow_le_pow_right (by decide) hj
  rw [show (2 : Nat) ^ 53 = 9007199254740992 from by decide +kernel] at hp
  generalize 2 ^ j = q at *
  refine ⟨signed s (Toward.zero.cut s (m <<< e.toNat) (-e).toNat) 0, ?_, ?_, ?_⟩
  · unfold floatToIntVal
    rw [hi]
    generalize Toward.zero.cut s (m <<< e.toNat) (-e).toNat = c at *
    have hb : IntKind.i64.min ≤ signed s c 0 ∧ signed s c 0 ≤ IntKind.i64.max := by
      rw [signed_zero, show IntKind.i64.min = -9223372036854775808 from by decide +kernel, show IntKind.i64.max = 9223372036854775807 from by decide +kernel]
      cases s
      · simp only [Bool.false_eq_true, if_false]; omega
      · simp only [if_true]; omega
    show (if _ then _ else _) = _
    rw [if_pos hb]
  · rw [signed_zero]; split <;> omega
  · rw [signed_zero]; split <;> omega

/-- The nearest integer. -/
def partI (v e : Nat) : Int := (floatToIntVal .f64 (partB .even (pS v e)) .i64).getD 0

def VS (v : Nat) : Prop := v = 0 ∨ v = 9223372036854775808 ∨ 4503599627370496 ≤ v ∧ 3901234567890123456 ≤ v ∧ v ≤ R 16

theorem part_S {v e : Nat} (h : VS v) (he : e ≤ 33) : Scaled v (24 - (e : Int)) (pS v e) ∧ MagD (Ieee.double.read (pS v e)) 52 ∧ floatToIntVal .f64 (partB .even (pS v e)) .i64 = some (partI v e) ∧ -2199023255553 ≤ partI v e ∧ partI v e ≤ 2199023255553 ∧ (e = 33 → partI v e ≤ 257) := by
  obtain ⟨h1, h2⟩ := pS_ok h he
  have hi : ((40 - e : Nat) : Int) = 40 - (e : Int) := by omega
  rw [← hi] at h2
  have hm := read_mag (i := ((40 - e : Nat) : Int)) (by omega) (by omega) h2
  have hmm : MagD (Ieee.double.read (pS v e)) 52 := by
    obtain ⟨s, m, ee, hd, hh⟩ := hm
    exact ⟨s, m, ee, hd, hh.imp id fun ⟨k, h1, h2⟩ => ⟨k, h1, by omega⟩⟩
  have hm2 := part_mag_i (40 - e) (by omega) hm
  obtain ⟨n, hn, n1, n2⟩ := to_int_i (40 - e + 1) (by omega) hm2
  have hp : partI v e = n := by unfold partI; rw [hn]; rfl
  rw [hp]
  have hb : 2 ^ (40 - e + 1) ≤ 2 ^ 41 := Nat.pow_le_pow_right (by decide) (by omega)
  rw [show (2 : Nat) ^ 41 = 2199023255552 from by decide +kernel] at hb
  refine ⟨h1, hmm, hn, ?_, ?_, ?_⟩
  · generalize 2 ^ (40 - e + 1) = q at *; omega
  · generalize 2 ^ (40 - e + 1) = q at *; omega
  · rintro rfl
    have : (2 : Nat) ^ (40 - 33 + 1) = 256 := by decide +kernel
    rw [this] at n2
    omega

theorem partI_neg (e : Nat) : partI 9223372036854775808 e = partI 0 e := by
  have h1 : pS 9223372036854775808 e = 9223372036854775808 := by unfold pS; rw [if_pos (by decide)]
  have h2 : pS 0 e = 0 := by unfold pS; rw [if_pos (by decide)]
  unfold partI
  rw [h1, h2]
  decide +kernel

/-- A light's float64. -/
def widS (x : Nat) : Nat := (fconv .f32 .f64 (cl .f32 x)).getD 0
theorem widS_ok {x : Nat} (h : okS x = true) : VS (widS x) ∧ cl .f64 (widS x) = fconv .f32 .f64 (cl .f32 x) ∧ ∀ v, cl .f64 v = fconv .f32 .f64 (cl .f32 x) → v = widS x := by
  rcases of_decide_eq_true h with h | rfl
  · have hc : cl .f32 x = some x := by rw [cl32, if_neg (by omega)]
    have hw : fconv .f32 .f64 (cl .f32 x) = some (FloatKind.f64.encode (FloatKind.f32.decode x)) := by rw [hc]; rfl
    have hn : cl .f64 (widS x) = fconv .f32 .f64 (cl .f32 x) := by
      unfold widS
      rw [hw, Option.getD_some]
      exact cl_write .f64 (d := Ieee.single.read x) (by
        have : (Ieee.single.read x).isNaN = false := by
          obtain ⟨s, m, e, hd⟩ := read_number (k := .f32) (b := x) (by show x % Ieee.single.signWeight < Ieee.single.infRung; rw [sng_sign, sng_inf]; omega)
          rw [show Ieee.single.read x = .number s m e from hd]; rfl
        exact this)
    refine ⟨?_, hn, fun v hv => ?_⟩
    · rcases wid_S h hn with ⟨h0, _⟩ | h0
      · exact .inl h0
      · exact .inr (.inr h0)
    · rw [← hn] at hv
      have hs := hw
      rw [← hn] at hs
      rw [hs] at hv
      exact ((cl64_some hv).1.symm.trans (cl64_some hs).1)
  · have hw : fconv .f32 .f64 (cl .f32 2147483648) = some 9223372036854775808 := by decide +kernel
    have hs : widS 2147483648 = 9223372036854775808 := by unfold widS; rw [hw]; rfl
    rw [hs, hw]
    refine ⟨.inr (.inl rfl), by decide +kernel, fun v hv => (cl64_some hv).1.symm⟩

/-- The part of a light. -/
def PN (x e : Nat) : Int := partI (widS x) e
theorem PN_val {x : Nat} (e : Nat) : PN x e = PN (valS x) e := by
  unfold valS
  split
  · rename_i h
    subst h
    unfold PN
    rw [show widS 2147483648 = 9223372036854775808 from by decide +kernel, show widS 0 = 0 from by decide +kernel]
    exact partI_neg e
  · rfl

/-- The first power at which the greatest light's part is small. -/
def StopE (x e : Nat) : Prop := (∀ j, j < e → 511 < PN x j) ∧ PN x e ≤ 511
theorem stopE_one {x i j : Nat} (hi : StopE x i) (hj : StopE x j) : i = j := by
  rcases Nat.lt_trichotomy i j with h | h | h
  · have := hj.1 i h; have := hi.2; omega
  · exact h
  · have := hi.1 j h; have := hj.2; omega
end Go.Proofs.Ytpjonajpgidjfaa
