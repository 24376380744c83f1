/-
  Plain laws: 255 times a float32 between 0 and 1, rounded; tests on float32. No condition.
-/
import Derived.Test.YtemolaojjnpfnaaFlr
import Derived.Test.YtemolaojjnpfnaaWkL
import Derived.Test.YtemolaojjnpfnaaWkF
namespace Go.Proofs.Ytemolaojjnpfnaa
set_option linter.unusedVariables false
open Ieee

theorem sr32_pos {x : Nat} (h : x < 2147483648) : sr .f32 x = (x : Int) := by
  rw [sr32, if_neg (by omega), Nat.mod_eq_of_lt h]

theorem gt0_32 {x : Nat} (hx : x < 4294967296) : (FloatKind.f32.format.order x 0 == some .gt) = decide (x ≤ 2139095040 ∧ x ≠ 0) := by
  rw [show FloatKind.f32.format.order x 0 = ford .f32 (cl .f32 x) (cl .f32 0) from order_cl .f32 x 0]
  cases hc : cl .f32 x with
  | none =>
    have := cl32_none hc
    rw [decide_eq_false (by omega)]; rfl
  | some c =>
    obtain ⟨rfl, hle⟩ := cl32_some hc
    rw [cl_zero, ford_sr .f32 c 0 hc (cl_zero _), show sr .f32 0 = 0 from by decide +kernel, int_compare]
    by_cases h0 : c ≤ 2139095040 ∧ c ≠ 0
    · rw [sr32_pos (by omega), decide_eq_true h0, if_neg (by omega), if_neg (by omega)]; rfl
    · rw [decide_eq_false h0]
      by_cases hz : c < 2147483648
      · rw [sr32_pos hz, if_neg (by omega), if_pos (by omega)]; rfl
      · have e2 : sr .f32 c = -((c % 2147483648 : Nat) : Int) := by rw [sr32, if_pos (by omega)]
        rw [e2]
        by_cases h2 : c % 2147483648 = 0
        · rw [if_neg (by omega), if_pos (by omega)]; rfl
        · rw [if_pos (by omega)]; rfl

theorem ge0_32 {x : Nat} (hx : x < 4294967296) : (FloatKind.f32.format.order x 0 == some .gt || FloatKind.f32.format.order x 0 == some .eq) = decide (x ≤ 2139095040 ∨ x = 2147483648) := by
  rw [gt0_32 hx, eq0_32, ← Bool.decide_or]
  apply decide_eq_decide.2
  omega

theorem ge1_32 {x : Nat} (h0 : x ≤ 2139095040) : (FloatKind.f32.format.order x 1065353216 == some .gt || FloatKind.f32.format.order x 1065353216 == some .eq) = decide (1065353216 ≤ x) := by
  have hc : cl .f32 x = some x := by rw [cl32, if_neg (by omega)]
  have hc1 : cl .f32 1065353216 = some 1065353216 := by decide +kernel
  rw [show FloatKind.f32.format.order x 1065353216 = ford .f32 (cl .f32 x) (cl .f32 1065353216) from order_cl .f32 x _, hc, hc1, ford_sr .f32 x _ hc hc1, show sr .f32 1065353216 = 1065353216 from by decide +kernel, sr32_pos (by omega), int_compare]
  by_cases h : 1065353216 ≤ x
  · rw [decide_eq_true h, if_neg (by omega)]
    split <;> rfl
  · rw [decide_eq_false h, if_pos (by omega)]; rfl

theorem single_small {s : Bool} {m : Nat} {e : Int} (hm : m = 0 ∨ ∃ k : Nat, m ≤ 2 ^ k ∧ (k : Int) + e ≤ 8) : Ieee.single.nearest s m e % 2147483648 ≤ 1149239296 := by
  have h7 : Ieee.single.fractionBits = 23 := rfl
  have hs : Ieee.single.signWeight = 2147483648 := sng_sign
  rw [← hs]
  unfold Format.nearest
  dsimp only
  split
  · rw [word_rung _ _ (Nat.two_pow_pos _)]; omega
  · rename_i hm0
    rw [word_rung _ _ (Nat.lt_of_le_of_lt (Nat.min_le_right ..) Ieee.single.infRung_lt)]
    refine Nat.le_trans (Nat.min_le_left ..) ?_
    obtain ⟨k, hk, hki⟩ := hm.resolve_left hm0
    have hlk : m.log2 ≤ k := by
      rcases Nat.lt_or_ge k m.log2 with h1 | h1
      · exfalso
        have h2 : 2 ^ m.log2 ≤ m := Nat.log2_self_le hm0
        have h3 : 2 ^ k < 2 ^ m.log2 := Nat.pow_lt_pow_right (by decide) h1
        omega
      · exact h1
    have hm1 : m < 2 ^ (m.log2 + 1) := (Nat.log2_lt hm0).1 (Nat.lt_succ_self _)
    rw [h7, sng_binade, sng_least]
    have hc := cut_le (m <<< (e - max (e + (m.log2 : Int) - ((23 : Nat) : Int)) (-149)).toNat) (max (e + (m.log2 : Int) - ((23 : Nat) : Int)) (-149) - e).toNat s
    have hd : (m <<< (e - max (e + (m.log2 : Int) - ((23 : Nat) : Int)) (-149)).toNat) / 2 ^ (max (e + (m.log2 : Int) - ((23 : Nat) : Int)) (-149) - e).toNat < 2 ^ 24 := by
      apply (Nat.div_lt_iff_lt_mul (Nat.two_pow_pos _)).2
      rw [Nat.shiftLeft_eq, ← Nat.pow_add]
      calc m * 2 ^ (e - max (e + (m.log2 : Int) - ((23 : Nat) : Int)) (-149)).toNat < 2 ^ (m.log2 + 1) * 2 ^ (e - max (e + (m.log2 : Int) - ((23 : Nat) : Int)) (-149)).toNat := Nat.mul_lt_mul_of_pos_right hm1 (Nat.two_pow_pos _)
        _ = 2 ^ (m.log2 + 1 + (e - max (e + (m.log2 : Int) - ((23 : Nat) : Int)) (-149)).toNat) := by rw [← Nat.pow_add]
        _ ≤ _ := Nat.pow_le_pow_right (by decide) (by omega)
    have ht : (max (e + (m.log2 : Int) - ((23 : Nat) : Int)) (-149) - -149).toNat ≤ 134 := by omega
    generalize Toward.even.cut s _ _ = c at *
    omega

theorem read_unit {u : Nat} (h : u < 1065353216) : ∃ m e, Ieee.single.read u = .number false m e ∧ m ≤ 2 ^ 24 ∧ e ≤ -24 := by
  unfold Format.read
  rw [sng_sign, sng_binade, sng_inf, sng_least]
  dsimp only
  have hu : u % 2147483648 = u := by omega
  rw [hu, show u / 2147483648 % 2 = 0 by omega]
  split
  · exact ⟨_, _, rfl, by rw [show (2 : Nat) ^ 24 = 16777216 from by decide +kernel]; omega, by decide⟩
  · rw [if_pos (by omega)]
    exact ⟨_, _, rfl, by rw [show (2 : Nat) ^ 24 = 16777216 from by decide +kernel]; omega, by omega⟩

theorem small_widen {r : Nat} (h : r % 2147483648 ≤ 1149239296) {v : Nat} (hr : cl .f32 r = some r) (hv : cl .f64 v = fconv .f32 .f64 (some r)) : MagD (Ieee.double.read v) 52 := by
  have hv' : cl .f64 v = some (FloatKind.f64.encode (FloatKind.f32.decode r)) := hv
  obtain ⟨e, hn⟩ := cl64_some hv'
  have hb : v % 9223372036854775808 ≤ R 52 := by
    have hR : R 52 = 1075 * 4503599627370496 := rfl
    rw [← e]
    rcases Nat.lt_or_ge (r % 2147483648) 8388608 with h1 | h1
    · rcases Nat.eq_zero_or_pos (r % 2147483648) with h0 | h0
      · rw [widen_zero h0]; split <;> omega
      · obtain ⟨q, hq, _, hq2⟩ := widen_subnormal h0 h1
        rw [hq]; split <;> omega
    · rw [widen_normal h1 (by omega)]
      split <;> omega
  exact read_mag (by decide) (by decide) hb

theorem prod_unit {u : Nat} (h : u < 1065353216) {a v : Nat} (ha : cl .f32 a = fbin .mul .f32 (some 1132396544) (some u)) (hv : cl .f64 v = fconv .f32 .f64 (cl .f32 a)) : MagD (Ieee.double.read v) 52 := by
  obtain ⟨m, e, hd, h1, h2⟩ := read_unit h
  have e255 : Ieee.single.read 1132396544 = .number false 16711680 (-16) := by decide +kernel
  have hp : fbin .mul .f32 (some 1132396544) (some u) = some (Ieee.single.nearest false (16711680 * m) (-16 + e)) := by
    show ((Ieee.single.read 1132396544).product (Ieee.single.read u)).map Ieee.single.write = _
    rw [e255, hd]; rfl
  rw [hp] at ha
  obtain ⟨ea, _⟩ := of_cl_some ha
  rw [ha] at hv
  have hs := single_small (s := false) (m := 16711680 * m) (e := -16 + e) (.inr ⟨48, by
    have : 16711680 * m ≤ 16777216 * 2 ^ 24 := Nat.mul_le_mul (by decide) h1
    rw [show (16777216 : Nat) = 2 ^ 24 from by decide +kernel, ← Nat.pow_add] at this
    exact this, by omega⟩)
  rw [ea] at hs hv
  exact small_widen hs (by rw [ea] at ha; exact ha) hv

/-- 255 times a number, rounded to an integer. -/
def nearV (U : Option Nat) : Int := ((fconv .f32 .f64 (fbin .mul .f32 (some 1132396544) U)).bind fun v => floatToIntVal .f64 (partB .even v) .i64).getD 0

theorem near_facts {u a v : Nat} (h : u < 1065353216) (hu : cl .f32 u = some u) (ha : cl .f32 a = fbin .mul .f32 (cl .f32 1132396544) (cl .f32 u)) (hv : cl .f64 v = fconv .f32 .f64 (cl .f32 a)) :
    MagD (Ieee.double.read v) 52 ∧ floatToIntVal .f64 (partB .even v) .i64 = some (nearV (cl .f32 u)) := by
  have e255 : cl .f32 1132396544 = some 1132396544 := by decide +kernel
  rw [e255, hu] at ha
  have hd := prod_unit h ha hv
  refine ⟨hd, ?_⟩
  obtain ⟨n, hn, _⟩ := part_int .even hd
  have hcv : cl .f64 v = some v := by
    apply cl_some
    obtain ⟨s, m, e, hd, _⟩ := hd
    rw [show FloatKind.f64.format.read v = .number s m e from hd]; rfl
  unfold nearV
  rw [hu, ← ha, ← hv, hcv, Option.bind_some, hn, Option.getD_some]

theorem fin_32 {x : Nat} : fin .f32 (cl .f32 x) = decide (x % 2147483648 < 2139095040) := by
  unfold fin
  rw [cl32]
  split
  · rw [decide_eq_false (by omega)]; rfl
  · show decide (x % Ieee.single.signWeight < Ieee.single.infRung) = _
    rw [sng_sign, sng_inf]

/-- Finite and more than nought; finite and at least nought. -/
def above (x : Nat) : Bool := decide (x < 2139095040 ∧ x ≠ 0)
def least (x : Nat) : Bool := decide (x < 2139095040 ∨ x = 2147483648)
def lofOk (x low stops : Nat) : Bool := least x && (above low && above stops)

/-- The share of a light's logarithm. -/
def lofU (x low stops : Nat) (U : Option Nat) : Prop := ∃ q c, cl .f32 q = fbin .quo .f32 (cl .f32 x) (cl .f32 low) ∧ logT q c ∧ U = fbin .quo .f32 c (fbin .mul .f32 (cl .f32 stops) (some 1060205080))
theorem lofU_one {x low stops : Nat} {U V : Option Nat} (h : lofU x low stops U) (h' : lofU x low stops V) : U = V := by
  obtain ⟨q, c, hq, ⟨v, hv, _, rfl⟩, rfl⟩ := h
  obtain ⟨q', c', hq', ⟨v', hv', _, rfl⟩, rfl⟩ := h'
  rw [hq] at hv
  rw [hq'] at hv'
  rw [logW_cl (hv.trans hv'.symm)]

def lofN (U : Option Nat) : Int :=
  cond (ford .f32 U (some 0) == some .gt) (cond (ford .f32 U (some 1065353216) == some .gt || ford .f32 U (some 1065353216) == some .eq) 255 (nearV U)) 0

def lofT (x low stops : Nat) (n : Int) (ok : Bool) : Prop := ok = lofOk x low stops ∧ ((lofOk x low stops = false ∧ n = 0) ∨ (lofOk x low stops = true ∧ ∃ U, lofU x low stops U ∧ n = lofN U))
theorem lofT_one {x low stops : Nat} {n m : Int} {p q : Bool} (h : lofT x low stops n p) (h' : lofT x low stops m q) : n = m ∧ p = q := by
  obtain ⟨rfl, h⟩ := h
  obtain ⟨rfl, h'⟩ := h'
  refine ⟨?_, rfl⟩
  rcases h with ⟨hf, rfl⟩ | ⟨ht, U, hU, rfl⟩
  · rcases h' with ⟨_, rfl⟩ | ⟨ht', _⟩
    · rfl
    · rw [hf] at ht'; cases ht'
  · rcases h' with ⟨hf, _⟩ | ⟨_, V, hV, rfl⟩
    · rw [hf] at ht; cases ht
    · rw [lofU_one hU hV]
end Go.Proofs.Ytemolaojjnpfnaa
