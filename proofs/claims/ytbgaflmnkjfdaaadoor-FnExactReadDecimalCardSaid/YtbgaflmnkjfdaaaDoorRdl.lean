/-
  Plain laws: a text is read back as the number whose decimal numeral it is, on both sides. No condition beyond the sizes.
-/
import Derived.Test.YtbgaflmnkjfdaaaDoorDcl
import Derived.Test.YtbgaflmnkjfdaaaDoorQ1
import Derived.Lib.ParseIntBCases
import Derived.Laws.Strings
namespace Go.Proofs.YtbgaflmnkjfdaaaDoor.Q
open Go Go.RowKit Go.Proofs.YtbgaflmnkjfdaaaDoorW.PrintWords
set_option linter.unusedVariables false

/-- The one answer of a reading of a text as a number of the program's range. -/
def RD (s : ByteArray) (n : Int) (ok : Bool) : Prop :=
  (ok = true ∧ -1000000000000000 ≤ n ∧ n ≤ 1000000000000000 ∧ s.data.toList = Lib.itoa n) ∨
  (ok = false ∧ n = 0 ∧ ∀ m : Int, -1000000000000000 ≤ m → m ≤ 1000000000000000 → s.data.toList ≠ Lib.itoa m)

theorem decDigits_digit : ∀ (k u : Nat), u < 10 ^ k → ∀ b ∈ Lib.decDigits u, 48 ≤ b.toNat ∧ b.toNat ≤ 57
  | 0, u, h, b, hb => by
    have : u = 0 := by simpa using h
    subst this
    rw [Lib.decDigits, dif_pos (by decide)] at hb
    simp at hb
    subst hb
    decide
  | k + 1, u, h, b, hb => by
    by_cases hu : u < 10
    · rw [Lib.decDigits, dif_pos hu] at hb
      simp only [List.mem_singleton] at hb
      subst hb
      have : (UInt8.ofNat (48 + u)).toNat = 48 + u := by simp; omega
      omega
    · rw [Lib.decDigits, dif_neg hu] at hb
      rcases List.mem_append.mp hb with h1 | h1
      · exact decDigits_digit k (u / 10) (by rw [Nat.pow_succ] at h; omega) b h1
      · simp only [List.mem_singleton] at h1
        subst h1
        have : (UInt8.ofNat (48 + u % 10)).toNat = 48 + u % 10 := by simp; omega
        omega

theorem decDigits_ne (u : Nat) : Lib.decDigits u ≠ [] := by
  rw [Lib.decDigits]
  split <;> simp

theorem decDigits_len : ∀ (k u : Nat), u < 10 ^ (k + 1) → (Lib.decDigits u).length ≤ k + 1
  | 0, u, h => by
    rw [Lib.decDigits, dif_pos (by simpa using h)]; simp
  | k + 1, u, h => by
    by_cases hu : u < 10
    · rw [Lib.decDigits, dif_pos hu]; simp
    · rw [Lib.decDigits, dif_neg hu]
      have := decDigits_len k (u / 10) (by rw [Nat.pow_succ] at h; omega)
      simp; omega

/-! ### The library's reading -/

theorem parseUintM_append (M : Nat) : ∀ (l1 l2 : List UInt8) (acc v : Nat), Lib.parseUintM M acc l1 = .ok v → Lib.parseUintM M acc (l1 ++ l2) = Lib.parseUintM M v l2
  | [], l2, acc, v, h => by
    simp only [Lib.parseUintM, Lib.NumEnd.ok.injEq] at h
    subst h; rfl
  | c :: r, l2, acc, v, h => by
    simp only [List.cons_append, Lib.parseUintM] at h ⊢
    split at h
    · rename_i hc
      rw [if_pos hc]
      split at h
      · cases h
      · rename_i h2
        rw [if_neg h2]
        split at h
        · cases h
        · rename_i h3
          rw [if_neg h3]
          exact parseUintM_append M r l2 _ v h
    · cases h

theorem parseUintM_dec (M : Nat) : ∀ (k u : Nat), u < 10 ^ k → u ≤ M → u ≤ 9223372036854775808 → Lib.parseUintM M 0 (Lib.decDigits u) = .ok u
  | 0, u, h, hM, hu => by
    have : u = 0 := by simpa using h
    subst this
    rw [Lib.decDigits, dif_pos (by decide)]
    simp [Lib.parseUintM]
  | k + 1, u, h, hM, hu => by
    by_cases hs : u < 10
    · rw [Lib.decDigits, dif_pos hs]
      have e : (UInt8.ofNat (48 + u)).toNat = 48 + u := by simp; omega
      simp only [Lib.parseUintM, e]
      rw [if_pos (by omega), if_neg (by omega), if_neg (by omega)]
      congr 1; omega
    · rw [Lib.decDigits, dif_neg hs]
      rw [parseUintM_append M _ _ 0 (u / 10) (parseUintM_dec M k (u / 10) (by rw [Nat.pow_succ] at h; omega) (by omega) (by omega))]
      have e : (UInt8.ofNat (48 + u % 10)).toNat = 48 + u % 10 := by simp; omega
      simp only [Lib.parseUintM, e]
      rw [if_pos (by omega), if_neg (by omega), if_neg (by omega)]
      congr 1; omega

theorem parse_itoa (m : Int) (h0 : -1000000000000000 ≤ m) (h1 : m ≤ 1000000000000000) : Lib.parseIntB 64 (Lib.itoa m) = .ok m := by
  have hp : (1000000000000000 : Nat) < 10 ^ 16 := by decide
  have pu : ∀ u : Nat, u ≤ 1000000000000000 → Lib.parseUintB 64 (Lib.decDigits u) = .ok u := by
    intro u hu
    unfold Lib.parseUintB
    rw [if_neg (decDigits_ne u)]
    exact parseUintM_dec _ 16 u (by omega) (by omega) (by omega)
  unfold Lib.itoa
  by_cases hm : m < 0
  · rw [if_pos hm, Lib.parseIntB_minus, pu _ (by omega)]
    simp only [Lib.signedC]
    rw [if_neg (by simp; omega)]
    congr 1; omega
  · rw [if_neg hm]
    have h := pu m.toNat (by omega)
    cases hd : Lib.decDigits m.toNat with
    | nil => exact absurd hd (decDigits_ne _)
    | cons c r =>
      have hc := decDigits_digit 16 m.toNat (by omega) c (by rw [hd]; simp)
      rw [hd] at h
      rw [Lib.parseIntB_plain 64 c r (by omega) (by omega), h]
      simp only [Lib.signlessC]
      rw [if_neg (by simp; omega)]
      congr 1; omega

theorem itoa_inj {m n : Int} (h0 : -1000000000000000 ≤ m) (h1 : m ≤ 1000000000000000) (h2 : -1000000000000000 ≤ n) (h3 : n ≤ 1000000000000000) (h : Lib.itoa m = Lib.itoa n) : m = n := by
  have a := parse_itoa m h0 h1
  have b := parse_itoa n h2 h3
  rw [h, b] at a
  injection a with a
  exact a.symm

theorem RD.one {s : ByteArray} {n m : Int} {a b : Bool} (h : RD s n a) (h' : RD s m b) : n = m ∧ a = b := by
  rcases h with ⟨rfl, h1, h2, h3⟩ | ⟨rfl, rfl, h1⟩ <;> rcases h' with ⟨rfl, g1, g2, g3⟩ | ⟨rfl, rfl, g1⟩
  · exact ⟨itoa_inj h1 h2 g1 g2 (h3.symm.trans g3), rfl⟩
  · exact absurd h3 (g1 n h1 h2)
  · exact absurd g3 (h1 m g1 g2)
  · exact ⟨rfl, rfl⟩

theorem itoa_len (m : Int) (h0 : -1000000000000000 ≤ m) (h1 : m ≤ 1000000000000000) : 1 ≤ (Lib.itoa m).length ∧ (Lib.itoa m).length ≤ 17 := by
  have hp : (1000000000000000 : Nat) < 10 ^ (15 + 1) := by decide
  unfold Lib.itoa
  split
  · have := decDigits_len 15 m.natAbs (by omega)
    simp; omega
  · have := decDigits_len 15 m.toNat (by omega)
    have h := decDigits_ne m.toNat
    have : (Lib.decDigits m.toNat).length ≠ 0 := fun e => h (List.eq_nil_of_length_eq_zero e)
    omega

/-! ### The program's own reading -/

/-- One letter's share in the number. -/
def dstep (n : Nat) (b : UInt8) : Nat := if 48 ≤ b.toNat then if b.toNat ≤ 57 then 10 * n + (b.toNat - 48) else n else n

def dval (l : List UInt8) : Nat := l.foldl dstep 0

theorem dval_snoc (l : List UInt8) (b : UInt8) : dval (l ++ [b]) = dstep (dval l) b := by
  unfold dval; rw [List.foldl_append]; rfl

theorem dstep_lt (n : Nat) (b : UInt8) (k : Nat) (h : n < 10 ^ k) : dstep n b < 10 ^ (k + 1) := by
  unfold dstep
  rw [Nat.pow_succ]
  split
  · split <;> omega
  · omega

theorem dval_lt (l : List UInt8) : ∀ k, k ≤ l.length → dval (l.take k) < 10 ^ k
  | 0, _ => by simp [dval]
  | k + 1, h => by
    rw [List.take_succ_eq_append_getElem (by omega), dval_snoc]
    exact dstep_lt _ _ _ (dval_lt l k (by omega))

theorem dval_dec : ∀ (k u : Nat), u < 10 ^ k → dval (Lib.decDigits u) = u
  | 0, u, h => by
    have : u = 0 := by simpa using h
    subst this
    rw [Lib.decDigits, dif_pos (by decide)]
    decide
  | k + 1, u, h => by
    by_cases hs : u < 10
    · rw [Lib.decDigits, dif_pos hs]
      have e : (UInt8.ofNat (48 + u)).toNat = 48 + u := by simp; omega
      simp only [dval, List.foldl_cons, List.foldl_nil, dstep, e]
      rw [if_pos (by omega), if_pos (by omega)]; omega
    · rw [Lib.decDigits, dif_neg hs, dval_snoc, dval_dec k (u / 10) (by rw [Nat.pow_succ] at h; omega)]
      have e : (UInt8.ofNat (48 + u % 10)).toNat = 48 + u % 10 := by simp; omega
      simp only [dstep, e]
      rw [if_pos (by omega), if_pos (by omega)]; omega

/-- The number that the program's own reading makes of a text. -/
def nval (l : List UInt8) : Int := if l.head? = some 45 then -(dval l : Int) else (dval l : Int)

theorem nval_itoa (m : Int) (h0 : -1000000000000000 ≤ m) (h1 : m ≤ 1000000000000000) : nval (Lib.itoa m) = m := by
  have hp : (1000000000000000 : Nat) < 10 ^ 16 := by decide
  unfold Lib.itoa
  by_cases hm : m < 0
  · rw [if_pos hm]
    unfold nval
    rw [if_pos (by rfl)]
    have : dval (45 :: Lib.decDigits m.natAbs) = dval (Lib.decDigits m.natAbs) := by
      unfold dval
      rw [List.foldl_cons]
      congr 1
    rw [this, dval_dec 16 _ (by omega)]
    omega
  · rw [if_neg hm]
    unfold nval
    have : ¬ (Lib.decDigits m.toNat).head? = some 45 := by
      intro e
      have := decDigits_digit 16 m.toNat (by omega) 45 (List.mem_of_head? e)
      simp at this
    rw [if_neg this, dval_dec 16 _ (by omega)]
    omega

end Go.Proofs.YtbgaflmnkjfdaaaDoor.Q
