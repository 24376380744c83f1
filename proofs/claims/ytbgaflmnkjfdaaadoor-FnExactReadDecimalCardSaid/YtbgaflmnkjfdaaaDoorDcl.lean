/-
  Plain law: the program's own decimal numeral (l01Dec) is the library's (Lib.itoa). No condition beyond the range of an int64.
-/
import Derived.Test.YtbgaflmnkjfdaaaDoorQ0
import Derived.Lib.ItoaNum
namespace Go.Proofs.YtbgaflmnkjfdaaaDoor.Q
open Go Go.RowKit
set_option linter.unusedVariables false

/-- The digits of a number as numbers. -/
def digs (u : Nat) : List Int := (Lib.decDigits u).map fun b => (b.toNat : Int)

theorem digs_small {u : Nat} (h : u < 10) : digs u = [((48 + u : Nat) : Int)] := by
  unfold digs
  rw [Lib.decDigits, dif_pos h]
  simp only [List.map_cons, List.map_nil, List.cons.injEq, and_true]
  have : (UInt8.ofNat (48 + u)).toNat = 48 + u := by simp; omega
  rw [this]

theorem digs_big {u : Nat} (h : ¬ u < 10) : digs u = digs (u / 10) ++ [((48 + u % 10 : Nat) : Int)] := by
  unfold digs
  rw [Lib.decDigits, dif_neg h]
  simp only [List.map_append, List.map_cons, List.map_nil, List.append_cancel_left_eq, List.cons.injEq, and_true]
  have : (UInt8.ofNat (48 + u % 10)).toNat = 48 + u % 10 := by simp; omega
  rw [this]

theorem digs_len : ∀ (k u : Nat), u < 10 ^ k → (digs u).length ≤ k + 1
  | 0, u, h => by
    rw [digs_small (by simp at h; omega)]; simp
  | k + 1, u, h => by
    by_cases hu : u < 10
    · rw [digs_small hu]; simp
    · rw [digs_big hu]
      have := digs_len k (u / 10) (by rw [Nat.pow_succ] at h; omega)
      simp; omega

theorem digs_back (u : Nat) : strOfNums (digs u) = ⟨(Lib.decDigits u).toArray⟩ := by
  unfold strOfNums digs
  congr 1
  rw [List.map_map, show ((fun n : Int => UInt8.ofNat n.toNat) ∘ fun b : UInt8 => (b.toNat : Int)) = id by funext b; simp, List.map_id]

/-- The number with a sign. -/
def sg (neg : Bool) (u : Nat) : Int := if neg then -(u : Int) else (u : Int)

theorem sg_tdiv (neg : Bool) (u : Nat) : Int.tdiv (sg neg u) 10 = sg neg (u / 10) := by
  cases neg
  · simp only [sg]; rfl
  · simp only [sg, if_true, Int.neg_tdiv]; rfl
theorem sg_tmod (neg : Bool) (u : Nat) : Int.tmod (sg neg u) 10 = sg neg (u % 10) := by
  cases neg
  · simp only [sg]; rfl
  · simp only [sg, if_true, Int.neg_tmod]; rfl

theorem j_round (m : Nat) (x0 : Int) (neg : Bool) (u : Nat) (hu : u ≤ 9223372036854775808) (hu' : neg = false → u ≤ 9223372036854775807) (xs : List Int) (hl : xs.length < 100) :
    spec_l01Dec.j1 (m + 1) x0 xs (sg neg u) true = spec_l01Dec.l0 m x0 (((48 + u % 10 : Nat) : Int) :: xs) (sg neg (u / 10)) := by
  have hw : wrap64 (sg neg (u / 10)) = sg neg (u / 10) := by
    cases neg <;> simp [sg] <;> unfold wrap64 <;> omega
  have hlen : ([((48 + u % 10 : Nat) : Int)] : List Int).length + xs.length < 140737488355328 := by simp; omega
  unfold spec_l01Dec.j1
  rw [if_pos rfl, sg_tmod, sg_tdiv, hw]
  by_cases h : sg neg (u % 10) < 0
  · rw [if_pos h]
    have e : wrap64 (48 + wrap64 (-sg neg (u % 10))) % 256 = ((48 + u % 10 : Nat) : Int) := by
      cases neg <;> simp [sg] at h ⊢ <;> unfold wrap64 <;> omega
    rw [e, Option.bind_some, if_pos hlen]
    rfl
  · rw [if_neg h]
    have e : wrap64 (48 + sg neg (u % 10)) % 256 = ((48 + u % 10 : Nat) : Int) := by
      cases neg <;> simp [sg] at h ⊢ <;> unfold wrap64 <;> omega
    rw [e, Option.bind_some, if_pos hlen]
    rfl

theorem l_round (m : Nat) (x0 : Int) (neg : Bool) (u : Nat) (hu : u ≤ 9223372036854775808) (hu' : neg = false → u ≤ 9223372036854775807) (xs : List Int) (hl : xs.length < 100) (h : xs = [] ∨ 0 < u) :
    spec_l01Dec.l0 (m + 2) x0 xs (sg neg u) = spec_l01Dec.l0 m x0 (((48 + u % 10 : Nat) : Int) :: xs) (sg neg (u / 10)) := by
  rw [← j_round m x0 neg u hu hu' xs hl]
  conv => lhs; unfold spec_l01Dec.l0
  by_cases hx : (xs.length : Int) = 0
  · rw [if_pos hx]
  · rw [if_neg hx]
    have hu : 0 < u := by
      rcases h with rfl | h
      · simp at hx
      · exact h
    have : (sg neg u != 0) = true := by
      cases neg <;> simp [sg] <;> omega
    rw [this]

theorem dec_loop (x0 : Int) (neg : Bool) : ∀ (k u : Nat), u < 10 ^ k → u ≤ 9223372036854775808 → (neg = false → u ≤ 9223372036854775807) → ∀ xs : List Int, (xs = [] ∨ 0 < u) → xs.length + k < 90 →
    ∀ m r, spec_l01Dec.l0 m x0 (digs u ++ xs) 0 = some r → ∃ m', spec_l01Dec.l0 m' x0 xs (sg neg u) = some r
  | 0, u, hk, hu, hu', xs, h0, hl, m, r, h => by
    have hz : u = 0 := by simpa using hk
    subst hz
    refine ⟨m + 2, ?_⟩
    rw [l_round m x0 neg 0 hu hu' xs (by omega) h0]
    rw [digs_small (by decide)] at h
    have : sg neg (0 / 10) = 0 := by cases neg <;> rfl
    rw [this]
    exact h
  | k + 1, u, hk, hu, hu', xs, h0, hl, m, r, h => by
    by_cases hs : u < 10
    · refine ⟨m + 2, ?_⟩
      rw [l_round m x0 neg u hu hu' xs (by omega) h0]
      rw [digs_small hs] at h
      have : sg neg (u / 10) = 0 := by
        rw [Nat.div_eq_of_lt hs]; cases neg <;> rfl
      rw [this, Nat.mod_eq_of_lt hs]
      exact h
    · rw [digs_big hs, List.append_assoc] at h
      obtain ⟨m1, h1⟩ := dec_loop x0 neg k (u / 10) (by rw [Nat.pow_succ] at hk; omega) (by omega) (fun e => by have := hu' e; omega) (((48 + u % 10 : Nat) : Int) :: xs) (.inr (by omega)) (by simp; omega) m r h
      refine ⟨m1 + 2, ?_⟩
      rw [l_round m1 x0 neg u hu hu' xs (by omega) h0]
      exact h1

theorem end_round (m : Nat) (x0 : Int) (xs : List Int) (h : xs ≠ []) (hl : xs.length < 100) :
    spec_l01Dec.l0 (m + 2) x0 xs 0 = some (strOfNums (if x0 < 0 then 45 :: xs else xs)) := by
  conv => lhs; unfold spec_l01Dec.l0
  have hx : ¬ (xs.length : Int) = 0 := by
    intro e; exact h (List.eq_nil_of_length_eq_zero (by omega))
  rw [if_neg hx]
  conv => lhs; unfold spec_l01Dec.j1
  have hlen : ([45] : List Int).length + xs.length < 140737488355328 := by simp; omega
  simp only [bne_self_eq_false, Bool.false_eq_true, if_false, Option.bind_some]
  by_cases h0 : x0 < 0
  · rw [if_pos h0, if_pos h0, if_pos hlen]; rfl
  · rw [if_neg h0, if_neg h0]

theorem digs_ne (u : Nat) : digs u ≠ [] := by
  by_cases h : u < 10
  · rw [digs_small h]; simp
  · rw [digs_big h]; simp

theorem dec_law (n : Int) (h0 : -9223372036854775808 ≤ n) (h1 : n ≤ 9223372036854775807) : ∃ k, spec_l01Dec.f k n = some ⟨(Lib.itoa n).toArray⟩ := by
  have hp : (9223372036854775808 : Nat) < 10 ^ 20 := by decide
  unfold Lib.itoa
  by_cases hn : n < 0
  · rw [if_pos hn]
    have hsg : sg true n.natAbs = n := by simp [sg]; omega
    obtain ⟨m, hm⟩ := dec_loop n true 20 n.natAbs (by omega) (by omega) (fun e => by cases e) [] (.inl rfl) (by simp) 2 (strOfNums (45 :: digs n.natAbs)) (by
      rw [List.append_nil]
      have := end_round 0 n (digs n.natAbs) (digs_ne _) (by have := digs_len 20 n.natAbs (by omega); omega)
      rw [if_pos hn] at this
      exact this)
    rw [hsg] at hm
    refine ⟨m, ?_⟩
    unfold spec_l01Dec.f
    rw [hm]
    congr 1
    have := congrArg (fun s : ByteArray => (⟨(45 :: s.data.toList).toArray⟩ : ByteArray)) (digs_back n.natAbs)
    simpa [strOfNums] using this
  · rw [if_neg hn]
    have hsg : sg false n.toNat = n := by simp [sg]; omega
    obtain ⟨m, hm⟩ := dec_loop n false 20 n.toNat (by omega) (by omega) (fun _ => by omega) [] (.inl rfl) (by simp) 2 (strOfNums (digs n.toNat)) (by
      rw [List.append_nil]
      have := end_round 0 n (digs n.toNat) (digs_ne _) (by have := digs_len 20 n.toNat (by omega); omega)
      rw [if_neg hn] at this
      exact this)
    rw [hsg] at hm
    refine ⟨m, ?_⟩
    unfold spec_l01Dec.f
    rw [hm, digs_back]

end Go.Proofs.YtbgaflmnkjfdaaaDoor.Q
