/-
  Plain laws on the model's floats, for every seat: every bit pattern has a class ('cl': none for a not-a-number, else the bits), each operation's class is a function of the operands' classes, and what the operation draws from the tape changes nothing else. No condition.
-/
import Derived.WalkKit
import Derived.WalkLawsBesides
import Derived.Deep.Draws
namespace Go.Proofs.Ytpjonajpgidjfaa
set_option linter.unusedVariables false
open Ieee

/-! ### classes -/
theorem binade_pos (f : Format) : 0 < f.binade := Nat.two_pow_pos _
theorem fnums (k : FloatKind) : (k = .f32 ∧ k.format.binade = 8388608 ∧ k.format.infRung = 2139095040 ∧ k.format.signWeight = 2147483648 ∧ 2 ^ k.format.width = 4294967296) ∨
    (k = .f64 ∧ k.format.binade = 4503599627370496 ∧ k.format.infRung = 9218868437227405312 ∧ k.format.signWeight = 9223372036854775808 ∧ 2 ^ k.format.width = 18446744073709551616) := by
  cases k
  · left; decide +kernel
  · right; decide +kernel

/-- The class of a bit pattern: none for a not-a-number. -/
def cl (k : FloatKind) (b : Nat) : Option Nat := if k.format.infRung < b % k.format.signWeight then none else some b

theorem read_nan (k : FloatKind) (b : Nat) : (k.format.read b).isNaN = decide (k.format.infRung < b % k.format.signWeight) := by
  unfold Format.read
  dsimp only
  rcases fnums k with ⟨_, h1, h2, h3, _⟩ | ⟨_, h1, h2, h3, _⟩ <;> rw [h1, h2, h3] <;> (repeat' split) <;> simp [Datum.isNaN] <;> omega

theorem cl_none {k : FloatKind} {b : Nat} (h : (k.format.read b).isNaN = true) : cl k b = none := by
  rw [read_nan] at h; unfold cl; rw [if_pos (by simpa using h)]
theorem cl_some {k : FloatKind} {b : Nat} (h : (k.format.read b).isNaN = false) : cl k b = some b := by
  rw [read_nan] at h; unfold cl; rw [if_neg (by simpa using h)]
theorem of_cl_some {k : FloatKind} {b c : Nat} (h : cl k b = some c) : c = b ∧ (k.format.read b).isNaN = false := by
  unfold cl at h
  split at h
  · cases h
  · rename_i hn; cases h; exact ⟨rfl, by rw [read_nan]; exact decide_eq_false hn⟩
theorem of_cl_none {k : FloatKind} {b : Nat} (h : cl k b = none) : (k.format.read b).isNaN = true := by
  unfold cl at h
  split at h
  · rename_i hn; rw [read_nan]; exact decide_eq_true hn
  · cases h

theorem word_rung (f : Format) (neg : Bool) {rung : Nat} (h : rung < f.signWeight) : f.word neg rung % f.signWeight = rung := by
  unfold Format.word
  split
  · rw [Nat.add_mod_left, Nat.mod_eq_of_lt h]
  · exact Nat.mod_eq_of_lt h

theorem nearest_rung (f : Format) (neg : Bool) (mag : Nat) (place : Int) : f.nearest neg mag place % f.signWeight ≤ f.infRung := by
  unfold Format.nearest
  dsimp only
  split
  · rw [word_rung _ _ (Nat.two_pow_pos _)]; exact Nat.zero_le _
  · rw [word_rung _ _ (Nat.lt_of_le_of_lt (Nat.min_le_right ..) f.infRung_lt)]; exact Nat.min_le_right ..

theorem cl_write (k : FloatKind) {d : Datum} (h : d.isNaN = false) : cl k (k.format.write d) = some (k.format.write d) := by
  unfold cl
  rw [if_neg]
  cases d with
  | number neg mag place => exact Nat.not_lt.2 (nearest_rung _ _ _ _)
  | infinity neg =>
    show ¬ _ < k.format.word neg _ % _
    rw [word_rung _ _ k.format.infRung_lt]; exact Nat.lt_irrefl _
  | nan => cases h

theorem sum_ok {x y d : Datum} (h : x.sum y = some d) : x.isNaN = false ∧ y.isNaN = false ∧ d.isNaN = false := by
  cases x <;> cases y <;> simp only [Datum.sum] at h <;> first | (cases h; done) | skip
  · cases h; exact ⟨rfl, rfl, rfl⟩
  · cases h; exact ⟨rfl, rfl, rfl⟩
  · cases h; exact ⟨rfl, rfl, rfl⟩
  · split at h
    · cases h; exact ⟨rfl, rfl, rfl⟩
    · cases h
theorem prod_ok {x y d : Datum} (h : x.product y = some d) : x.isNaN = false ∧ y.isNaN = false ∧ d.isNaN = false := by
  cases x <;> cases y <;> simp only [Datum.product] at h <;> first | (cases h; done) | skip
  · cases h; exact ⟨rfl, rfl, rfl⟩
  · split at h <;> first | (cases h; done) | (cases h; exact ⟨rfl, rfl, rfl⟩)
  · split at h <;> first | (cases h; done) | (cases h; exact ⟨rfl, rfl, rfl⟩)
  · cases h; exact ⟨rfl, rfl, rfl⟩
theorem quo_ok {n : Nat} {x y d : Datum} (h : x.quotient n y = some d) : x.isNaN = false ∧ y.isNaN = false ∧ d.isNaN = false := by
  cases x <;> cases y <;> simp only [Datum.quotient] at h <;> first | (cases h; done) | skip
  · split at h
    · split at h
      · cases h
      · cases h; exact ⟨rfl, rfl, rfl⟩
    · cases h; exact ⟨rfl, rfl, rfl⟩
  · cases h; exact ⟨rfl, rfl, rfl⟩
  · cases h; exact ⟨rfl, rfl, rfl⟩
theorem root_ok {n : Nat} {x d : Datum} (h : x.root n = some d) : x.isNaN = false ∧ d.isNaN = false := by
  cases x <;> simp only [Datum.root] at h <;> first | (cases h; done) | skip
  · split at h
    · cases h; exact ⟨rfl, rfl⟩
    · split at h
      · cases h
      · cases h; exact ⟨rfl, rfl⟩
  · split at h
    · cases h
    · cases h; exact ⟨rfl, rfl⟩
theorem order_ok {x y : Datum} {o : Ordering} (h : x.order y = some o) : x.isNaN = false ∧ y.isNaN = false := by
  cases x <;> cases y <;> simp only [Datum.order] at h <;> first | (cases h; done) | exact ⟨rfl, rfl⟩
theorem opp_nan (x : Datum) : x.opposite.isNaN = x.isNaN := by cases x <;> rfl

theorem map_ok {k : FloatKind} {o : Option Datum} {r : Nat} (h : o.map k.format.write = some r) : ∃ d, o = some d ∧ k.format.write d = r := by
  cases o with
  | none => cases h
  | some d => exact ⟨d, rfl, by simpa using h⟩

theorem floatBits_ok {op : BinOp} {k : FloatKind} {x y r : Nat} (h : floatBits op k x y = some r) : cl k x = some x ∧ cl k y = some y ∧ cl k r = some r := by
  unfold floatBits at h
  split at h
  · obtain ⟨d, hd, rfl⟩ := map_ok h
    obtain ⟨a, b, c⟩ := sum_ok hd
    exact ⟨cl_some a, cl_some b, cl_write k c⟩
  · obtain ⟨d, hd, rfl⟩ := map_ok h
    obtain ⟨a, b, c⟩ := sum_ok hd
    exact ⟨cl_some a, cl_some (by rwa [opp_nan] at b), cl_write k c⟩
  · obtain ⟨d, hd, rfl⟩ := map_ok h
    obtain ⟨a, b, c⟩ := prod_ok hd
    exact ⟨cl_some a, cl_some b, cl_write k c⟩
  · obtain ⟨d, hd, rfl⟩ := map_ok h
    obtain ⟨a, b, c⟩ := quo_ok hd
    exact ⟨cl_some a, cl_some b, cl_write k c⟩
  · cases h

/-! ### operations on classes -/
/-- The class of a sum, difference, product, quotient. -/
def fbin (op : BinOp) (k : FloatKind) (a b : Option Nat) : Option Nat := a.bind fun x => b.bind fun y => floatBits op k x y
/-- How two classes stand to each other. -/
def ford (k : FloatKind) (a b : Option Nat) : Option Ordering := a.bind fun x => b.bind fun y => k.format.order x y
/-- The class of the opposite. -/
def fneg (k : FloatKind) (a : Option Nat) : Option Nat := a.map (Op.negFloat k)
/-- The class of the other kind's nearest number. -/
def fconv (s k : FloatKind) (a : Option Nat) : Option Nat := a.map fun x => k.encode (s.decode x)
/-- The class of a square root. -/
def fsqrt (a : Option Nat) : Option Nat := a.bind fun x => FloatKind.f64.format.sqrt x

theorem fbin_cl (op : BinOp) (k : FloatKind) (x y : Nat) : fbin op k (cl k x) (cl k y) = floatBits op k x y := by
  cases h : floatBits op k x y with
  | some r => obtain ⟨a, b, _⟩ := floatBits_ok h; rw [a, b]; exact h
  | none =>
    cases hx : cl k x with
    | none => rfl
    | some a =>
      cases hy : cl k y with
      | none => rfl
      | some b => rw [(of_cl_some hx).1, (of_cl_some hy).1]; exact h

theorem order_cl (k : FloatKind) (x y : Nat) : k.format.order x y = ford k (cl k x) (cl k y) := by
  cases hx : cl k x with
  | none =>
    have := of_cl_none hx
    show (k.format.read x).order _ = none
    cases h : k.format.read x <;> rw [h] at this <;> first | (cases this; done) | rfl
  | some a =>
    cases hy : cl k y with
    | none =>
      have := of_cl_none hy
      show Datum.order _ (k.format.read y) = none
      cases h : k.format.read y <;> rw [h] at this <;> first | (cases this; done) | skip
      cases k.format.read x <;> rfl
    | some b => rw [(of_cl_some hx).1, (of_cl_some hy).1]; rfl

/-! ### what is drawn for a not-a-number -/
theorem nan_cut32 (t : Nat) : cl .f32 ((t % 2) * 2 ^ 31 + 0x7f800000 + 1 + (t / 2) % (2 ^ 23 - 1)) = none ∧ (Lit.float .f32 ((t % 2) * 2 ^ 31 + 0x7f800000 + 1 + (t / 2) % (2 ^ 23 - 1))).wf = true := by
  have h1 : t / 2 % (2 ^ 23 - 1) < 8388607 := Nat.mod_lt _ (by decide)
  have h2 : t % 2 < 2 := Nat.mod_lt _ (by decide)
  generalize t / 2 % (2 ^ 23 - 1) = a at h1 ⊢
  generalize t % 2 = c at h2 ⊢
  unfold cl
  rcases fnums .f32 with ⟨_, _, h3, h4, _⟩ | ⟨h, _⟩
  · rw [h3, h4]; simp only [Lit.wf, decide_eq_true_eq]; constructor
    · rw [if_pos]; omega
    · omega
  · cases h
theorem nan_cut64 (t : Nat) : cl .f64 ((t % 2) * 2 ^ 63 + 0x7ff0000000000000 + 1 + (t / 2) % (2 ^ 52 - 1)) = none ∧ (Lit.float .f64 ((t % 2) * 2 ^ 63 + 0x7ff0000000000000 + 1 + (t / 2) % (2 ^ 52 - 1))).wf = true := by
  have h1 : t / 2 % (2 ^ 52 - 1) < 4503599627370495 := Nat.mod_lt _ (by decide)
  have h2 : t % 2 < 2 := Nat.mod_lt _ (by decide)
  generalize t / 2 % (2 ^ 52 - 1) = a at h1 ⊢
  generalize t % 2 = c at h2 ⊢
  unfold cl
  rcases fnums .f64 with ⟨h, _⟩ | ⟨_, _, h3, h4, _⟩
  · cases h
  · rw [h3, h4]; simp only [Lit.wf, decide_eq_true_eq]; constructor
    · rw [if_pos]; omega
    · omega

theorem run_choose_drew {P : Program} (w : World) (q : Question) (h : q.forced = false) : (choose q).run P w = .ok (q.cut (w.tape w.drawn q)) (w.drewN 1) := by
  simp [choose, Sem.run, h]
  rfl

theorem cut_nanBits (k : FloatKind) (x y t : Nat) : cl k ((Question.nanBits k x y).cut t) = none ∧ (Lit.float k ((Question.nanBits k x y).cut t)).wf = true := by
  cases k
  · exact nan_cut32 t
  · exact nan_cut64 t
theorem cut_nanConv (k : FloatKind) (x t : Nat) : cl k ((Question.nanConv k x).cut t) = none ∧ (Lit.float k ((Question.nanConv k x).cut t)).wf = true := by
  cases k
  · exact nan_cut32 t
  · exact nan_cut64 t

section
variable {P : Program} (w : World)
/-- Is it '+', '-', '*' or '/'? -/
def arithOp : BinOp → Bool
  | .add | .sub | .mul | .quo => true
  | _ => false
theorem arith_or {op : BinOp} (h : arithOp op = true) : op = .add ∨ op = .sub ∨ op = .mul ∨ op = .quo := by
  cases op <;> first | (cases h; done) | simp

/-- '+', '-', '*', '/' on floats: a result of the class that the operands' classes tell; nothing but draws. -/
theorem run_fbin {op : BinOp} (hop : arithOp op = true) (t : TypeId) (k : FloatKind) (x y : Nat) :
    ∃ r n, (binOp op t (.float k x) (.float k y)).run P w = .ok (.float k r) (w.drewN n) ∧ cl k r = fbin op k (cl k x) (cl k y) ∧ (Lit.float k r).wf = true := by
  rw [fbin_cl]
  cases h : floatBits op k x y with
  | some r => exact ⟨r, 0, run_float_arith w op t k x y r h, (floatBits_ok h).2.2, floatBits_wf h⟩
  | none =>
    refine ⟨_, 1, ?_, cut_nanBits k x y (w.tape w.drawn (.nanBits k x y))⟩
    rcases arith_or hop with rfl | rfl | rfl | rfl <;> simp only [floatBits] at h <;> simp [binOp, Op.floatArith, h, Question.forced] <;> rfl
end
end Go.Proofs.Ytpjonajpgidjfaa
