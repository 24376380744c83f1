/-
  Plain laws on how great a float64 can be: bounds by powers of two go through products, sums, differences, quotients and roots, and a number of at most 2^126 can be narrowed. No condition.
-/
import Derived.Test.YtpjonajpgidjfaaWid
namespace Go.Proofs.Ytpjonajpgidjfaa
set_option linter.unusedVariables false
open Ieee

/-- A number of size at most 2^i. -/
def MagD (d : Datum) (i : Int) : Prop := ∃ s m e, d = .number s m e ∧ (m = 0 ∨ ∃ k : Nat, m ≤ 2 ^ k ∧ (k : Int) + e ≤ i)
/-- A number of size at least 2^i. -/
def LowD (d : Datum) (i : Int) : Prop := ∃ s m e, d = .number s m e ∧ ∃ k : Nat, 2 ^ k ≤ m ∧ i ≤ (k : Int) + e

/-- The rung of 2^i, i from -1022 on. -/
def R (i : Int) : Nat := (i + 1023).toNat * 4503599627370496

/-- A float64's class is a number of size at most 2^i. -/
def Mag (a : Option Nat) (i : Int) : Prop := ∃ b, a = some b ∧ MagD (Ieee.double.read b) i
def Low (a : Option Nat) (i : Int) : Prop := ∃ b, a = some b ∧ LowD (Ieee.double.read b) i

theorem nearest_mag {s : Bool} {m : Nat} {e : Int} {i : Int} (hi : -1022 ≤ i) (hu : i ≤ 1023) (h : m = 0 ∨ ∃ k : Nat, m ≤ 2 ^ k ∧ (k : Int) + e ≤ i) :
    Ieee.double.nearest s m e % 9223372036854775808 ≤ R i := by
  have h7 : Ieee.double.fractionBits = 52 := rfl
  unfold Format.nearest
  dsimp only
  have key : (if m = 0 then Ieee.double.word s 0 else Ieee.double.word s (min ((max (e + (m.log2 : Int) - (Ieee.double.fractionBits : Int)) Ieee.double.leastPlace - Ieee.double.leastPlace).toNat * Ieee.double.binade + Toward.even.cut s (m <<< (e - max (e + (m.log2 : Int) - (Ieee.double.fractionBits : Int)) Ieee.double.leastPlace).toNat) (max (e + (m.log2 : Int) - (Ieee.double.fractionBits : Int)) Ieee.double.leastPlace - e).toNat) Ieee.double.infRung)) % Ieee.double.signWeight ≤ R i := by
    split
    · rw [word_rung _ _ (Nat.two_pow_pos _)]; exact Nat.zero_le _
    · rename_i hm0
      rw [word_rung _ _ (Nat.lt_of_le_of_lt (Nat.min_le_right ..) Ieee.double.infRung_lt)]
      refine Nat.le_trans (Nat.min_le_left ..) ?_
      rw [dbl_binade, dbl_least, h7]
      obtain ⟨k, hk, hki⟩ := h.resolve_left hm0
      have hR : ∀ p : Nat, (p : Int) ≤ i + 1023 → p * 4503599627370496 ≤ R i := fun p hp => Nat.mul_le_mul_right _ (by omega)
      have hlk : m.log2 ≤ k := by
        rcases Nat.lt_or_ge k m.log2 with h1 | h1
        · exfalso
          have h2 : 2 ^ m.log2 ≤ m := Nat.log2_self_le hm0
          have h3 : 2 ^ k < 2 ^ m.log2 := Nat.pow_lt_pow_right (by decide) h1
          omega
        · exact h1
      have hm1 : m < 2 ^ (m.log2 + 1) := (Nat.log2_lt hm0).1 (Nat.lt_succ_self _)
      -- the digits that are kept
      by_cases hsub : e + (m.log2 : Int) - 52 ≤ -1074
      · -- a subnormal result, or the least normal one
        have hmax : max (e + (m.log2 : Int) - ((52 : Nat) : Int)) (-1074) = -1074 := by omega
        rw [hmax]
        have hz : ((-1074 : Int) - -1074).toNat = 0 := by omega
        rw [hz, Nat.zero_mul, Nat.zero_add]
        by_cases he : e ≤ -1074
        · have e1 : (e - -1074).toNat = 0 := by omega
          rw [e1, Nat.shiftLeft_zero]
          have hc := cut_le m (-1074 - e).toNat s
          have hd : m / 2 ^ (-1074 - e).toNat < 2 ^ 53 := by
            apply (Nat.div_lt_iff_lt_mul (Nat.two_pow_pos _)).2
            rw [← Nat.pow_add]
            exact Nat.lt_of_lt_of_le hm1 (Nat.pow_le_pow_right (by decide) (by omega))
          by_cases hlt : e + (m.log2 : Int) - 52 < -1074
          · have hd : m / 2 ^ (-1074 - e).toNat < 2 ^ 52 := by
              apply (Nat.div_lt_iff_lt_mul (Nat.two_pow_pos _)).2
              rw [← Nat.pow_add]
              exact Nat.lt_of_lt_of_le hm1 (Nat.pow_le_pow_right (by decide) (by omega))
            have := hR 1 (by omega)
            omega
          · -- log2 m + e = -1022
            by_cases hp : m = 2 ^ k
            · subst hp
              have hl : (2 ^ k : Nat).log2 = k := Nat.log2_two_pow
              rw [hl] at hlt hsub
              have hek : (-1074 - e).toNat = k - 52 := by omega
              rw [hek]
              rcases Nat.lt_or_ge k 52 with hk5 | hk5
              · rw [show k - 52 = 0 by omega, cut_zero]
                have : (2 : Nat) ^ k ≤ 2 ^ 52 := Nat.pow_le_pow_right (by decide) (by omega)
                have := hR 1 (by omega)
                omega
              · have hcut : Toward.even.cut s (2 ^ k) (k - 52) ≤ 2 ^ 52 := by
                  unfold Toward.cut
                  dsimp only
                  rw [Nat.log2_two_pow, Nat.min_eq_left (by omega), Nat.one_shiftLeft]
                  have hmod : 2 ^ k % 2 ^ (k - 52) = 0 := Nat.mod_eq_zero_of_dvd (Nat.pow_dvd_pow 2 (by omega))
                  have hdiv : 2 ^ k / 2 ^ (k - 52) = 2 ^ 52 := by
                    rw [Nat.pow_div (by omega) (by decide)]; congr 1; omega
                  have hg : 0 < 2 ^ (k - 52) := Nat.two_pow_pos _
                  rw [hmod, hdiv, Nat.mul_zero]
                  have : (decide (2 ^ (k - 52) < 0) || (2 ^ (k - 52) == 0 && 2 ^ 52 % 2 == 1)) = false := by simp
                  rw [this]; simp
                have := hR 1 (by omega)
                omega
            · -- m < 2^k: then k = log2 m + 1 at least
              have hlt2 : m.log2 < k := by
                rcases Nat.lt_or_ge m.log2 k with h1 | h1
                · exact h1
                · exfalso
                  have h2 : 2 ^ k ≤ m := Nat.le_trans (Nat.pow_le_pow_right (by decide) h1) (Nat.log2_self_le hm0)
                  omega
              have := hR 2 (by omega)
              omega
        · have e1 : (-1074 - e).toNat = 0 := by omega
          rw [e1, cut_zero, Nat.shiftLeft_eq]
          have hb : m * 2 ^ (e - -1074).toNat ≤ 2 ^ (k + (e - -1074).toNat) := by
            rw [Nat.pow_add]; exact Nat.mul_le_mul_right _ hk
          rcases Nat.lt_or_ge (k + (e - -1074).toNat) 53 with h5 | h5
          · have : (2 : Nat) ^ (k + (e - -1074).toNat) ≤ 2 ^ 52 := Nat.pow_le_pow_right (by decide) (by omega)
            have := hR 1 (by omega)
            omega
          · have hlt : m * 2 ^ (e - -1074).toNat < 2 ^ 53 := by
              calc m * 2 ^ (e - -1074).toNat < 2 ^ (m.log2 + 1) * 2 ^ (e - -1074).toNat := Nat.mul_lt_mul_of_pos_right hm1 (Nat.two_pow_pos _)
                _ = 2 ^ (m.log2 + 1 + (e - -1074).toNat) := by rw [← Nat.pow_add]
                _ ≤ 2 ^ 53 := Nat.pow_le_pow_right (by decide) (by omega)
            have := hR 2 (by omega)
            omega
      · have hmax : max (e + (m.log2 : Int) - ((52 : Nat) : Int)) (-1074) = e + m.log2 - 52 := by omega
        rw [hmax]
        have ht : (e + (m.log2 : Int) - 52 - -1074).toNat = (e + (m.log2 : Int) + 1022).toNat := by omega
        rw [ht]
        by_cases hp : m = 2 ^ k
        · subst hp
          have hl : (2 ^ k : Nat).log2 = k := Nat.log2_two_pow
          rw [hl] at hsub ⊢
          have hcut : Toward.even.cut s (2 ^ k <<< (e - (e + (k : Int) - 52)).toNat) (e + (k : Int) - 52 - e).toNat = 2 ^ 52 := by
            rcases Nat.lt_or_ge k 52 with hk5 | hk5
            · rw [show (e + (k : Int) - 52 - e).toNat = 0 by omega, cut_zero, show (e - (e + (k : Int) - 52)).toNat = 52 - k by omega, Nat.shiftLeft_eq, ← Nat.pow_add]
              congr 1; omega
            · rw [show (e + (k : Int) - 52 - e).toNat = k - 52 by omega, show (e - (e + (k : Int) - 52)).toNat = 0 by omega, Nat.shiftLeft_zero]
              unfold Toward.cut
              dsimp only
              rw [Nat.log2_two_pow, Nat.min_eq_left (by omega), Nat.one_shiftLeft]
              have hmod : 2 ^ k % 2 ^ (k - 52) = 0 := Nat.mod_eq_zero_of_dvd (Nat.pow_dvd_pow 2 (by omega))
              have hdiv : 2 ^ k / 2 ^ (k - 52) = 2 ^ 52 := by
                rw [Nat.pow_div (by omega) (by decide)]; congr 1; omega
              have hg : 0 < 2 ^ (k - 52) := Nat.two_pow_pos _
              rw [hmod, hdiv, Nat.mul_zero]
              have : (decide (2 ^ (k - 52) < 0) || (2 ^ (k - 52) == 0 && 2 ^ 52 % 2 == 1)) = false := by simp
              rw [this]; simp
          rw [hcut]
          have := hR ((e + (k : Int) + 1022).toNat + 1) (by omega)
          omega
        · have hlt2 : m.log2 < k := by
            rcases Nat.lt_or_ge m.log2 k with h1 | h1
            · exact h1
            · exfalso
              have h2 : 2 ^ k ≤ m := Nat.le_trans (Nat.pow_le_pow_right (by decide) h1) (Nat.log2_self_le hm0)
              omega
          have hc := cut_le (m <<< (e - (e + (m.log2 : Int) - 52)).toNat) (e + (m.log2 : Int) - 52 - e).toNat s
          have hd : (m <<< (e - (e + (m.log2 : Int) - 52)).toNat) / 2 ^ (e + (m.log2 : Int) - 52 - e).toNat < 2 ^ 53 := by
            apply (Nat.div_lt_iff_lt_mul (Nat.two_pow_pos _)).2
            rw [Nat.shiftLeft_eq, ← Nat.pow_add]
            calc m * 2 ^ (e - (e + (m.log2 : Int) - 52)).toNat < 2 ^ (m.log2 + 1) * 2 ^ (e - (e + (m.log2 : Int) - 52)).toNat := Nat.mul_lt_mul_of_pos_right hm1 (Nat.two_pow_pos _)
              _ = 2 ^ (m.log2 + 1 + (e - (e + (m.log2 : Int) - 52)).toNat) := by rw [← Nat.pow_add]
              _ ≤ _ := Nat.pow_le_pow_right (by decide) (by omega)
          have := hR ((e + (m.log2 : Int) + 1022).toNat + 2) (by omega)
          generalize Toward.even.cut s _ _ = c at *
          omega
  rw [dbl_sign] at key
  exact key

theorem read_mag {b : Nat} {i : Int} (hi : -1022 ≤ i) (hu : i ≤ 1023) (h : b % 9223372036854775808 ≤ R i) : MagD (Ieee.double.read b) i := by
  have hR : R i ≤ 2046 * 4503599627370496 := Nat.mul_le_mul_right _ (by omega)
  have hRe : R i = (i + 1023).toNat * 4503599627370496 := rfl
  unfold Format.read
  rw [dbl_sign, dbl_binade, dbl_inf, dbl_least]
  dsimp only
  generalize b % 9223372036854775808 = r at *
  split
  · exact ⟨_, _, _, rfl, .inr ⟨52, by omega, by omega⟩⟩
  · rename_i h1
    rw [if_pos (by omega)]
    refine ⟨_, _, _, rfl, .inr ?_⟩
    have hpi : ((i + 1023).toNat : Int) = i + 1023 := by omega
    generalize (i + 1023).toNat = p at *
    have hq : r / 4503599627370496 ≤ p := by omega
    rcases Nat.lt_or_eq_of_le hq with h2 | h2
    · exact ⟨53, by omega, by omega⟩
    · exact ⟨52, by omega, by omega⟩

theorem mag_rung {b : Nat} {i : Int} (hi : -1022 ≤ i) (hu : i ≤ 1023) (h : b % 9223372036854775808 ≤ R i) : Mag (cl .f64 b) i := by
  obtain ⟨s, m, e, hd, hm⟩ := read_mag hi hu h
  refine ⟨b, cl_some (k := .f64) ?_, s, m, e, hd, hm⟩
  show (Ieee.double.read b).isNaN = false
  rw [hd]; rfl

/-- Where the exact result is at most 2^i, so is the rounded one. -/
theorem write_mag {d : Datum} {i : Int} (hi : -1022 ≤ i) (hu : i ≤ 1023) (h : MagD d i) : Mag (some (Ieee.double.write d)) i := by
  obtain ⟨s, m, e, rfl, hm⟩ := h
  exact ⟨_, rfl, read_mag hi hu (nearest_mag hi hu hm)⟩

theorem mag_mono {a : Option Nat} {i j : Int} (h : Mag a i) (hij : i ≤ j) : Mag a j := by
  obtain ⟨b, rfl, s, m, e, hd, hm⟩ := h
  exact ⟨b, rfl, s, m, e, hd, hm.imp id fun ⟨k, h1, h2⟩ => ⟨k, h1, by omega⟩⟩

theorem mag_mul {a b : Option Nat} {i j : Int} (ha : Mag a i) (hb : Mag b j) (hi : -1022 ≤ i + j) (hu : i + j ≤ 1023) : Mag (fbin .mul .f64 a b) (i + j) := by
  obtain ⟨x, rfl, s, m, e, hx, hm⟩ := ha
  obtain ⟨y, rfl, t, n, f, hy, hn⟩ := hb
  show Mag (((Ieee.double.read x).product (Ieee.double.read y)).map Ieee.double.write) _
  rw [hx, hy]
  refine write_mag hi hu ⟨_, _, _, rfl, ?_⟩
  rcases hm with rfl | ⟨k, h1, h2⟩
  · left; simp
  · rcases hn with rfl | ⟨l, h3, h4⟩
    · left; simp
    · right; exact ⟨k + l, by rw [Nat.pow_add]; exact Nat.mul_le_mul h1 h3, by omega⟩

theorem shift_le {m k : Nat} {e base i : Int} (h1 : m ≤ 2 ^ k) (h2 : (k : Int) + e ≤ i) (h3 : base ≤ e) : m <<< (e - base).toNat ≤ 2 ^ (i - base).toNat := by
  rw [Nat.shiftLeft_eq]
  calc m * 2 ^ (e - base).toNat ≤ 2 ^ k * 2 ^ (e - base).toNat := Nat.mul_le_mul_right _ h1
    _ = 2 ^ (k + (e - base).toNat) := by rw [← Nat.pow_add]
    _ ≤ _ := Nat.pow_le_pow_right (by decide) (by omega)

theorem signed_abs (s : Bool) (m u : Nat) : (signed s m u).natAbs = m <<< u := by
  unfold signed
  split
  · rw [Int.natAbs_neg]; exact Int.natAbs_natCast _
  · exact Int.natAbs_natCast _

theorem mag_sum {x y : Datum} {i : Int} (hx : MagD x i) (hy : MagD y i) : ∃ d, x.sum y = some d ∧ MagD d (i + 1) := by
  obtain ⟨s, m, e, rfl, hm⟩ := hx
  obtain ⟨t, n, f, rfl, hn⟩ := hy
  refine ⟨_, rfl, _, _, _, rfl, ?_⟩
  have ha := signed_abs s m (e - min e f).toNat
  have hb := signed_abs t n (f - min e f).toNat
  have hadd := Int.natAbs_add_le (signed s m (e - min e f).toNat) (signed t n (f - min e f).toNat)
  rw [ha, hb] at hadd
  by_cases hz : m = 0
  · subst hz
    rw [Nat.zero_shiftLeft, Nat.zero_add] at hadd
    rcases hn with rfl | ⟨l, h3, h4⟩
    · left; rw [Nat.zero_shiftLeft] at hadd; omega
    · right
      refine ⟨(i - min e f).toNat, Nat.le_trans hadd (shift_le h3 h4 (by omega)), ?_⟩
      omega
  · obtain ⟨k, h1, h2⟩ := hm.resolve_left hz
    have hk := shift_le h1 h2 (base := min e f) (by omega)
    by_cases hz2 : n = 0
    · subst hz2
      rw [Nat.zero_shiftLeft, Nat.add_zero] at hadd
      right
      exact ⟨(i - min e f).toNat, Nat.le_trans hadd hk, by omega⟩
    · obtain ⟨l, h3, h4⟩ := hn.resolve_left hz2
      have hl := shift_le h3 h4 (base := min e f) (by omega)
      right
      refine ⟨(i - min e f).toNat + 1, ?_, by omega⟩
      rw [Nat.pow_succ]
      omega

theorem mag_opp {d : Datum} {i : Int} (h : MagD d i) : MagD d.opposite i := by
  obtain ⟨s, m, e, rfl, hm⟩ := h
  exact ⟨_, _, _, rfl, hm⟩

theorem mag_add {a b : Option Nat} {i : Int} (ha : Mag a i) (hb : Mag b i) (hi : -1023 ≤ i) (hu : i ≤ 1022) : Mag (fbin .add .f64 a b) (i + 1) := by
  obtain ⟨x, rfl, hx⟩ := ha
  obtain ⟨y, rfl, hy⟩ := hb
  obtain ⟨d, hd, hm⟩ := mag_sum hx hy
  show Mag (((Ieee.double.read x).sum (Ieee.double.read y)).map Ieee.double.write) _
  rw [hd]
  exact write_mag (by omega) (by omega) hm

theorem mag_sub {a b : Option Nat} {i : Int} (ha : Mag a i) (hb : Mag b i) (hi : -1023 ≤ i) (hu : i ≤ 1022) : Mag (fbin .sub .f64 a b) (i + 1) := by
  obtain ⟨x, rfl, hx⟩ := ha
  obtain ⟨y, rfl, hy⟩ := hb
  obtain ⟨d, hd, hm⟩ := mag_sum hx (mag_opp hy)
  show Mag (((Ieee.double.read x).sum (Ieee.double.read y).opposite).map Ieee.double.write) _
  rw [hd]
  exact write_mag (by omega) (by omega) hm

/-- A quotient by a number that is not too small. -/
theorem mag_quo {a b : Option Nat} {i j : Int} (ha : Mag a i) (hb : Low b j) (hi : -1022 ≤ i - j) (hu : i - j ≤ 1023) : Mag (fbin .quo .f64 a b) (i - j) := by
  obtain ⟨x, rfl, s, m, e, hx, hm⟩ := ha
  obtain ⟨y, rfl, t, n, f, hy, l, h3, h4⟩ := hb
  show Mag (((Ieee.double.read x).quotient 54 (Ieee.double.read y)).map Ieee.double.write) _
  rw [hx, hy]
  have hn : n ≠ 0 := by have := Nat.two_pow_pos l; omega
  simp only [Datum.quotient, if_neg hn, Option.map_some]
  refine write_mag hi hu ⟨_, _, _, rfl, ?_⟩
  generalize hmore : 54 + n.log2 - m.log2 = more
  by_cases hm0 : m = 0
  · subst hm0; left; rw [Nat.zero_shiftLeft]; simp
  · right
    obtain ⟨k, h1, h2⟩ := hm.resolve_left hm0
    have hb : ∀ x : Bool, x.toNat ≤ 1 := by intro x; cases x <;> decide
    have hD : m <<< more ≤ 2 ^ (k + more) := by rw [Nat.shiftLeft_eq, Nat.pow_add]; exact Nat.mul_le_mul_right _ h1
    by_cases hkl : l ≤ k + more
    · refine ⟨k + more - l + 1, ?_, by omega⟩
      have hq : m <<< more ≤ 2 ^ (k + more - l) * n := by
        refine Nat.le_trans hD ?_
        calc 2 ^ (k + more) = 2 ^ (k + more - l) * 2 ^ l := by rw [← Nat.pow_add]; congr 1; omega
          _ ≤ _ := Nat.mul_le_mul_left _ h3
      rw [Nat.pow_succ]
      have hd := Nat.div_add_mod (m <<< more) n
      rcases Nat.lt_or_ge (m <<< more / n) (2 ^ (k + more - l)) with h5 | h5
      · have := hb (m <<< more % n != 0); omega
      · have h6 : n * 2 ^ (k + more - l) ≤ n * (m <<< more / n) := Nat.mul_le_mul_left _ h5
        rw [Nat.mul_comm (2 ^ (k + more - l)) n] at hq
        have h7 : m <<< more % n = 0 := by omega
        have h8 : m <<< more / n ≤ 2 ^ (k + more - l) := by
          apply Nat.div_le_of_le_mul
          exact hq
        rw [h7]; simp; omega
    · -- the quotient is below one unit: only the odd digit is left
      have hlt : m <<< more < n := Nat.lt_of_le_of_lt hD (Nat.lt_of_lt_of_le (Nat.pow_lt_pow_right (by decide) (by omega)) h3)
      rw [Nat.div_eq_of_lt hlt]
      refine ⟨0, by have := hb (m <<< more % n != 0); simp; omega, ?_⟩
      exfalso
      have a1 : 2 ^ m.log2 ≤ m := Nat.log2_self_le hm0
      have a2 : m <<< more ≥ 2 ^ (m.log2 + more) := by rw [Nat.shiftLeft_eq, Nat.pow_add]; exact Nat.mul_le_mul_right _ a1
      have a3 : n < 2 ^ (n.log2 + 1) := (Nat.log2_lt hn).1 (Nat.lt_succ_self _)
      have a4 : 2 ^ (n.log2 + 1) ≤ 2 ^ (m.log2 + more) := Nat.pow_le_pow_right (by decide) (by omega)
      omega

theorem rootFrom_le (n : Nat) : ∀ (todo root : Nat), root * root ≤ n → Datum.rootFrom n todo root * Datum.rootFrom n todo root ≤ n := by
  intro todo
  induction todo with
  | zero => intro root h; exact h
  | succ t ih =>
    intro root h
    unfold Datum.rootFrom
    dsimp only
    split
    · exact ih _ (by assumption)
    · exact ih _ h

theorem mag_sqrt {b : Nat} {i : Int} (hd : MagD (Ieee.double.read b) (2 * i)) (hs : ∀ s m e, Ieee.double.read b = .number s m e → m ≠ 0 → s = false) (hi : -1022 ≤ i) (hu : i ≤ 1023) : Mag (fsqrt (some b)) i := by
  obtain ⟨s, m, e, hx, hm⟩ := hd
  have hsg := hs s m e hx
  show Mag (((Ieee.double.read b).root 54).map Ieee.double.write) _
  rw [hx]
  by_cases hm0 : m = 0
  · subst hm0
    simp only [Datum.root, if_true, Option.map_some]
    exact write_mag hi hu ⟨_, _, _, rfl, .inl rfl⟩
  · rw [hsg hm0]
    simp only [Datum.root, if_neg hm0, Bool.false_eq_true, if_false, Option.map_some]
    refine write_mag hi hu ⟨_, _, _, rfl, .inr ?_⟩
    obtain ⟨k, h1, h2⟩ := hm.resolve_left hm0
    generalize hmo : (2 * 54 - m.log2 + ((e - ((2 * 54 - m.log2 : Nat) : Int)) % 2).toNat) = more
    have hev : (e - (more : Int)) % 2 = 0 := by omega
    generalize hw : Datum.rootFrom (m <<< more) ((m <<< more).log2 / 2 + 1) 0 = whole
    have hle : whole * whole ≤ m <<< more := by rw [← hw]; exact rootFrom_le _ _ _ (Nat.zero_le _)
    have hD : m <<< more ≤ 2 ^ (k + more) := by rw [Nat.shiftLeft_eq, Nat.pow_add]; exact Nat.mul_le_mul_right _ h1
    have hb : ∀ x : Bool, x.toNat ≤ 1 := by intro x; cases x <;> decide
    -- the half of the exponent, rounded up
    have hh : whole ≤ 2 ^ ((k + more + 1) / 2) := by
      rcases Nat.lt_or_ge (2 ^ ((k + more + 1) / 2)) whole with h5 | h5
      · exfalso
        have h6 : 2 ^ ((k + more + 1) / 2) * 2 ^ ((k + more + 1) / 2) < whole * whole := Nat.mul_lt_mul'' h5 h5
        rw [← Nat.pow_add] at h6
        have h7 : 2 ^ (k + more) ≤ 2 ^ ((k + more + 1) / 2 + (k + more + 1) / 2) := Nat.pow_le_pow_right (by decide) (by omega)
        omega
      · exact h5
    refine ⟨(k + more + 1) / 2 + 1, ?_, by omega⟩
    rw [Nat.pow_succ]
    rcases Nat.lt_or_eq_of_le hh with h5 | h5
    · have := hb (whole * whole != m <<< more); omega
    · have h6 : whole * whole = m <<< more := by
        apply Nat.le_antisymm hle
        refine Nat.le_trans hD ?_
        rw [h5, ← Nat.pow_add]
        exact Nat.pow_le_pow_right (by decide) (by omega)
      rw [h6]; simp; omega

theorem mag_widen {x c : Nat} (h : cl .f32 x = some c) (hf : x % 2147483648 < 2139095040) : Mag (fconv .f32 .f64 (cl .f32 x)) 128 := by
  obtain ⟨rfl, hle⟩ := cl32_some h
  rw [h]
  show Mag (some (Ieee.double.write (Ieee.single.read c))) 128
  have hr : (∃ s m e, Ieee.single.read c = .number s m e) := read_number (k := .f32) (by show c % Ieee.single.signWeight < Ieee.single.infRung; rw [sng_sign, sng_inf]; exact hf)
  obtain ⟨s, m, e, hd⟩ := hr
  rw [hd]
  obtain ⟨h1, h2, h3, _⟩ := read32_number hd
  exact write_mag (by decide) (by decide) ⟨_, _, _, rfl, .inr ⟨24, Nat.le_of_lt h1, by omega⟩⟩

/-- Whatever is at most 2^126 can be narrowed. -/
theorem narrow_mag {b : Nat} {a : Option Nat} (h : cl .f64 b = a) (hm : Mag a 126) : Narrows .f64 .f32 b := by
  obtain ⟨c, rfl, hd⟩ := hm
  obtain ⟨rfl, _⟩ := of_cl_some h
  intro s m e hr
  have hr' : Ieee.double.read c = .number s m e := hr
  obtain ⟨s', m', e', hd', hm⟩ := hd
  rw [hr'] at hd'
  cases hd'
  have hrung : Ieee.single.nearest s m e % Ieee.single.signWeight < Ieee.single.infRung := by
    have h7 : Ieee.single.fractionBits = 23 := rfl
    unfold Format.nearest
    dsimp only
    split
    · rw [word_rung _ _ (Nat.two_pow_pos _), sng_inf]; omega
    · rename_i hm0
      rw [word_rung _ _ (Nat.lt_of_le_of_lt (Nat.min_le_right ..) Ieee.single.infRung_lt)]
      refine Nat.lt_of_le_of_lt (Nat.min_le_left ..) ?_
      obtain ⟨k, hk, hki⟩ := hm.resolve_left hm0
      have hlk : m.log2 ≤ k := by
        rcases Nat.lt_or_ge k m.log2 with h1 | h1
        · exfalso
          have h2 : 2 ^ m.log2 ≤ m := Nat.log2_self_le hm0
          have h3 : 2 ^ k < 2 ^ m.log2 := Nat.pow_lt_pow_right (by decide) h1
          omega
        · exact h1
      have hm1 : m < 2 ^ (m.log2 + 1) := (Nat.log2_lt hm0).1 (Nat.lt_succ_self _)
      rw [h7, sng_binade, sng_least, sng_inf]
      have hc := cut_le (m <<< (e - max (e + (m.log2 : Int) - ((23 : Nat) : Int)) (-149)).toNat) (max (e + (m.log2 : Int) - ((23 : Nat) : Int)) (-149) - e).toNat s
      have hd : (m <<< (e - max (e + (m.log2 : Int) - ((23 : Nat) : Int)) (-149)).toNat) / 2 ^ (max (e + (m.log2 : Int) - ((23 : Nat) : Int)) (-149) - e).toNat < 2 ^ 24 := by
        apply (Nat.div_lt_iff_lt_mul (Nat.two_pow_pos _)).2
        rw [Nat.shiftLeft_eq, ← Nat.pow_add]
        calc m * 2 ^ (e - max (e + (m.log2 : Int) - ((23 : Nat) : Int)) (-149)).toNat < 2 ^ (m.log2 + 1) * 2 ^ (e - max (e + (m.log2 : Int) - ((23 : Nat) : Int)) (-149)).toNat := Nat.mul_lt_mul_of_pos_right hm1 (Nat.two_pow_pos _)
          _ = 2 ^ (m.log2 + 1 + (e - max (e + (m.log2 : Int) - ((23 : Nat) : Int)) (-149)).toNat) := by rw [← Nat.pow_add]
          _ ≤ _ := Nat.pow_le_pow_right (by decide) (by omega)
      have ht : (max (e + (m.log2 : Int) - ((23 : Nat) : Int)) (-149) - -149).toNat ≤ 252 := by omega
      generalize Toward.even.cut s _ _ = c at *
      omega
  show (Ieee.single.read (Ieee.single.nearest s m e)).isInfinity = false
  unfold Format.read
  dsimp only
  split
  · rfl
  · rfl
end Go.Proofs.Ytpjonajpgidjfaa
