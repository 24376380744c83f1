/-
  Plain laws: how two floats stand to each other is how their rungs stand, with their signs (the infinities among them; not-a-numbers apart). No condition.
-/
import Derived.Test.YtpjonajpgidjfaaFlw
namespace Go.Proofs.Ytpjonajpgidjfaa
set_option linter.unusedVariables false
open Ieee

/-- The rung with its sign. -/
def sr (k : FloatKind) (b : Nat) : Int := if b / k.format.signWeight % 2 = 1 then -((b % k.format.signWeight : Nat) : Int) else ((b % k.format.signWeight : Nat) : Int)

def sgn (s : Bool) (n : Nat) : Int := if s then -(n : Int) else n

/-- A rung's magnitude in units of the least place. -/
def sv (k : FloatKind) (r : Nat) : Nat := if r < k.format.binade then r else (k.format.binade + r % k.format.binade) <<< (r / k.format.binade - 1)

theorem sv_lt (k : FloatKind) {r r' : Nat} (h : r < r') : sv k r < sv k r' := by
  have hB : 0 < k.format.binade := binade_pos _
  generalize hb : k.format.binade = B at hB
  unfold sv
  rw [hb]
  simp only [Nat.shiftLeft_eq]
  by_cases h1 : r' < B
  · rw [if_pos h1, if_pos (by omega)]; exact h
  · rw [if_neg h1]
    have hp : 0 < 2 ^ (r' / B - 1) := Nat.two_pow_pos _
    by_cases h2 : r < B
    · rw [if_pos h2]
      calc r < B := h2
        _ ≤ B + r' % B := Nat.le_add_right ..
        _ ≤ _ := Nat.le_mul_of_pos_right _ hp
    · rw [if_neg h2]
      have hq : r / B ≤ r' / B := Nat.div_le_div_right (Nat.le_of_lt h)
      have q1 : 1 ≤ r / B := (Nat.one_le_div_iff hB).2 (by omega)
      have m1 : r % B < B := Nat.mod_lt _ hB
      have e1 := Nat.div_add_mod r B
      have e2 := Nat.div_add_mod r' B
      rcases Nat.lt_or_eq_of_le hq with hlt | heq
      · have : 2 ^ (r / B) ≤ 2 ^ (r' / B - 1) := Nat.pow_le_pow_right (by decide) (by omega)
        have e3 : 2 ^ (r / B) = 2 * 2 ^ (r / B - 1) := by rw [← Nat.pow_succ']; congr 1; omega
        have hp1 : 0 < 2 ^ (r / B - 1) := Nat.two_pow_pos _
        calc (B + r % B) * 2 ^ (r / B - 1) < (2 * B) * 2 ^ (r / B - 1) := Nat.mul_lt_mul_of_pos_right (by omega) hp1
          _ = B * 2 ^ (r / B) := by rw [e3, Nat.mul_comm 2 B, Nat.mul_assoc]
          _ ≤ B * 2 ^ (r' / B - 1) := Nat.mul_le_mul_left _ this
          _ ≤ _ := Nat.mul_le_mul_right _ (Nat.le_add_right ..)
      · rw [← heq]
        rw [← heq] at e2
        exact Nat.mul_lt_mul_of_pos_right (by omega) (Nat.two_pow_pos _)

theorem sv_zero (k : FloatKind) : sv k 0 = 0 := by unfold sv; rw [if_pos (binade_pos _)]

theorem int_compare (a b : Int) : compare a b = if a < b then .lt else if a = b then .eq else .gt := rfl
theorem nat_compare (a b : Nat) : compare a b = if a < b then .lt else if a = b then .eq else .gt := rfl

theorem sgn_mono {f : Nat → Nat} (h0 : f 0 = 0) (hf : ∀ {r r'}, r < r' → f r < f r') (s t : Bool) (x y : Nat) : compare (sgn s (f x)) (sgn t (f y)) = compare (sgn s x) (sgn t y) := by
  have hx : (x = 0 ∧ f x = 0) ∨ (0 < x ∧ 0 < f x) := by
    rcases Nat.eq_zero_or_pos x with h | h
    · subst h; exact .inl ⟨rfl, h0⟩
    · right; have := hf h; omega
  have hy : (y = 0 ∧ f y = 0) ∨ (0 < y ∧ 0 < f y) := by
    rcases Nat.eq_zero_or_pos y with h | h
    · subst h; exact .inl ⟨rfl, h0⟩
    · right; have := hf h; omega
  have hxy : (x < y ∧ f x < f y) ∨ (x = y ∧ f x = f y) ∨ (y < x ∧ f y < f x) := by
    rcases Nat.lt_trichotomy x y with h | h | h
    · exact .inl ⟨h, hf h⟩
    · exact .inr (.inl ⟨h, by rw [h]⟩)
    · exact .inr (.inr ⟨h, hf h⟩)
  rw [int_compare, int_compare]
  generalize f x = a at *
  generalize f y = b at *
  cases s <;> cases t <;> simp only [sgn, if_true, if_false, Bool.false_eq_true] <;> (repeat' split) <;> first | rfl | omega

/-- The magnitude of a number that was read, from the least place up. -/
theorem read_sv {k : FloatKind} {b : Nat} {s : Bool} {m : Nat} {e : Int} (h : k.format.read b = .number s m e) :
    s = (b / k.format.signWeight % 2 == 1) ∧ k.format.leastPlace ≤ e ∧ m <<< (e - k.format.leastPlace).toNat = sv k (b % k.format.signWeight) ∧ b % k.format.signWeight < k.format.infRung := by
  unfold Format.read at h
  dsimp only at h
  have hb : 0 < k.format.binade := binade_pos _
  have hbi : k.format.binade ≤ k.format.infRung := by rcases fnums k with ⟨_, h1, h2, _⟩ | ⟨_, h1, h2, _⟩ <;> omega
  split at h
  · rename_i h1
    cases h
    refine ⟨rfl, Int.le_refl _, ?_, by omega⟩
    rw [Int.sub_self, Int.toNat_zero, Nat.shiftLeft_zero, sv, if_pos h1]
  · rename_i h1
    split at h
    · rename_i h2
      cases h
      refine ⟨rfl, by omega, ?_, h2⟩
      rw [sv, if_neg h1]
      congr 1
      omega
    · split at h <;> cases h

theorem signed_scale (s : Bool) (m i j : Nat) : signed s m (i + j) = signed s m i * (2 ^ j : Nat) := by
  unfold signed
  rw [Nat.shiftLeft_eq, Nat.shiftLeft_eq, Nat.pow_add, ← Nat.mul_assoc]
  split <;> simp [Int.natCast_mul, Int.neg_mul]

theorem compare_scale (a b : Int) (c : Nat) (hc : 0 < c) : compare (a * c) (b * c) = compare a b := by
  rw [int_compare, int_compare]
  have hc' : (0 : Int) < (c : Int) := by omega
  have h1 : (a * c < b * c) = (a < b) := propext ⟨fun h => Int.lt_of_mul_lt_mul_right h (by omega), fun h => Int.mul_lt_mul_of_pos_right h hc'⟩
  have h2 : (a * (c : Int) = b * c) = (a = b) := propext ⟨fun h => Int.eq_of_mul_eq_mul_right (by omega) h, fun h => by rw [h]⟩
  simp only [h1, h2]

theorem signed_sgn (s : Bool) (m i : Nat) : signed s m i = sgn s (m <<< i) := rfl
theorem sr_sgn (k : FloatKind) (b : Nat) : sr k b = sgn (b / k.format.signWeight % 2 == 1) (b % k.format.signWeight) := by
  unfold sr sgn; simp only [beq_iff_eq]

theorem order_sr (k : FloatKind) (x y : Nat) (hx : (k.format.read x).isNaN = false) (hy : (k.format.read y).isNaN = false) : k.format.order x y = some (compare (sr k x) (sr k y)) := by
  have infp : 0 < k.format.infRung := by rcases fnums k with ⟨_, h1, h2, _⟩ | ⟨_, h1, h2, _⟩ <;> omega
  rw [sr_sgn, sr_sgn]
  have nx := hx
  have ny := hy
  rw [read_nan] at nx ny
  simp only [decide_eq_false_iff_not, Nat.not_lt] at nx ny
  have inf_of : ∀ {b : Nat} {s : Bool}, k.format.read b = .infinity s → s = (b / k.format.signWeight % 2 == 1) ∧ b % k.format.signWeight = k.format.infRung := by
    intro b s h
    unfold Format.read at h
    dsimp only at h
    split at h
    · cases h
    · split at h
      · cases h
      · split at h
        · cases h; exact ⟨rfl, by assumption⟩
        · cases h
  show (k.format.read x).order (k.format.read y) = _
  cases hdx : k.format.read x with
  | nan s t => rw [hdx] at hx; cases hx
  | infinity s =>
    obtain ⟨es, er⟩ := inf_of hdx
    cases hdy : k.format.read y with
    | nan s t => rw [hdy] at hy; cases hy
    | infinity t =>
      obtain ⟨et, er2⟩ := inf_of hdy
      rw [← es, ← et, er, er2]
      simp only [Datum.order]
      congr 1
      clear er er2 es et nx ny hdx hdy hx hy inf_of
      generalize k.format.infRung = I at infp ⊢
      rw [int_compare, nat_compare]
      cases s <;> cases t <;> simp only [sgn, if_true, if_false, Bool.false_eq_true, Bool.toNat_true, Bool.toNat_false] <;> (repeat' split) <;> first | rfl | omega
    | number t n j =>
      obtain ⟨et, _, _, hr⟩ := read_sv hdy
      rw [← es, ← et, er]
      simp only [Datum.order]
      congr 1
      rw [int_compare]
      generalize y % k.format.signWeight = r at hr ⊢
      cases s <;> cases t <;> simp only [sgn, if_true, if_false, Bool.false_eq_true] <;> (repeat' split) <;> first | rfl | omega
  | number s m i =>
    obtain ⟨es, li, sx, hrx⟩ := read_sv hdx
    cases hdy : k.format.read y with
    | nan s t => rw [hdy] at hy; cases hy
    | infinity t =>
      obtain ⟨et, er2⟩ := inf_of hdy
      rw [← es, ← et, er2]
      simp only [Datum.order]
      congr 1
      rw [int_compare]
      generalize x % k.format.signWeight = r at hrx ⊢
      cases s <;> cases t <;> simp only [sgn, if_true, if_false, Bool.false_eq_true] <;> (repeat' split) <;> first | rfl | omega
    | number t n j =>
      obtain ⟨et, lj, sy, hry⟩ := read_sv hdy
      simp only [Datum.order]
      congr 1
      have e1 : (i - k.format.leastPlace).toNat = (i - min i j).toNat + (min i j - k.format.leastPlace).toNat := by omega
      have e2 : (j - k.format.leastPlace).toNat = (j - min i j).toNat + (min i j - k.format.leastPlace).toNat := by omega
      rw [← compare_scale _ _ (2 ^ (min i j - k.format.leastPlace).toNat) (Nat.two_pow_pos _), ← signed_scale, ← signed_scale, ← e1, ← e2, signed_sgn, signed_sgn, sx, sy, es, et]
      exact sgn_mono (sv_zero k) (sv_lt k) _ _ _ _

/-- How two classes stand, by their rungs. -/
theorem ford_sr (k : FloatKind) (x y : Nat) (hx : cl k x = some x) (hy : cl k y = some y) : ford k (some x) (some y) = some (compare (sr k x) (sr k y)) :=
  order_sr k x y (of_cl_some hx).2 (of_cl_some hy).2
end Go.Proofs.Ytpjonajpgidjfaa
