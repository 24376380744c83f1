/-
  Steps of a walk over floats, for every seat: '+', '-', '*', '/', a conversion, math.Float64bits and its kin, each with a result of the class that Flt's laws tell. A narrowing conversion asks that the number does not outgrow the narrower kind.
-/
import Derived.Test.YtpjonajpgidjfaaFlt
namespace Go.Proofs.Ytpjonajpgidjfaa
set_option linter.unusedVariables false
open Ieee Go.RowKit

/-- An operation that is carried out and gives a value. -/
theorem wpList_val {P : Program} {ops : Array Oper} {rest : List Oper} {o : Oper} {a : Act} {w : World} {Q : Exit → Act → World → Prop}
    (hg : Region.wanted o (yielded ops a.tmps) = true) {v : Value} {w' : World} (hr : (execOp a.eval o).run P w = .ok (.value v) w') (h : wpList P ops Q rest (a.put o.dst v) w') : wpList P ops Q (o :: rest) a w :=
  wpList_step fun K hK => by
    rw [if_pos hg]
    unfold Oper.wp
    rw [hr]
    exact hK _ _ h

theorem wpList_fbin {P : Program} {ops : Array Oper} {rest : List Oper} {a : Act} {w : World} {Q : Exit → Act → World → Prop} {d : Option Tmp} {op : BinOp} {t ty rt : TypeId} {x y : Operand} {pos : String} {aft : Array Edge} {g : Option (Nat × Bool)}
    (k : FloatKind) (xb yb : Nat) (hop : arithOp op = true) (hx : a.eval x = .float k xb) (hy : a.eval y = .float k yb)
    (hg : Region.wanted ⟨d, .binOp op t x y ty, rt, pos, aft, g⟩ (yielded ops a.tmps) = true)
    (h : ∀ r n, cl k r = fbin op k (cl k xb) (cl k yb) → (Lit.float k r).wf = true → wpList P ops Q rest (a.put d (.float k r)) (w.drewN n)) :
    wpList P ops Q (⟨d, .binOp op t x y ty, rt, pos, aft, g⟩ :: rest) a w := by
  obtain ⟨r, n, hr, hc, hw⟩ := run_fbin (P := P) w hop t k xb yb
  have hq : (eqGuard op t x y (a.eval x) (a.eval y)).run P w = .ok () w := by
    rcases arith_or hop with rfl | rfl | rfl | rfl <;> rfl
  refine wpList_val hg (v := .float k r) (w' := w.drewN n) ?_ (h r n hc hw)
  unfold execOp
  simp only [hx, hy] at hq ⊢
  simp only [Sem.run_bind, hq, Result.andThen_ok, hr, Sem.run_pure]

/-- A conversion of floats: the class, under the condition that the number does not outgrow the kind. -/
def Narrows (s k : FloatKind) (b : Nat) : Prop := ∀ sg m e, s.decode b = .number sg m e → (k.decode (k.encode (.number sg m e))).isInfinity = false

theorem run_fconv {P : Program} (w : World) {s k : FloatKind} (hne : s ≠ k) (b : Nat) (hn : Narrows s k b) :
    ∃ r n, (Conv.floatToFloat s b k).run P w = .ok (.float k r) (w.drewN n) ∧ cl k r = fconv s k (cl s b) ∧ (Lit.float k r).wf = true := by
  unfold Conv.floatToFloat
  rw [if_neg hne]
  cases hd : s.decode b with
  | nan sg t =>
    refine ⟨_, 1, ?_, ?_, (cut_nanConv k b (w.tape w.drawn (.nanConv k b))).2⟩
    · simp [Question.forced]; rfl
    · rw [(cut_nanConv k b _).1, cl_none (k := s) (b := b) (by show (s.decode b).isNaN = true; rw [hd]; rfl)]; rfl
  | infinity sg =>
    refine ⟨_, 0, rfl, ?_, encode_wf k _⟩
    rw [cl_some (k := s) (b := b) (by show (s.decode b).isNaN = false; rw [hd]; rfl)]
    show cl k _ = some (k.encode (s.decode b))
    rw [hd]
    exact cl_write k rfl
  | number sg m e =>
    refine ⟨k.encode (.number sg m e), 0, ?_, ?_, encode_wf k _⟩
    · simp [hn sg m e hd]; rfl
    · rw [cl_some (k := s) (b := b) (by show (s.decode b).isNaN = false; rw [hd]; rfl)]
      show cl k _ = some (k.encode (s.decode b))
      rw [hd]
      exact cl_write k rfl

theorem wpList_fconv {P : Program} {ops : Array Oper} {rest : List Oper} {a : Act} {w : World} {Q : Exit → Act → World → Prop} {d : Option Tmp} {src dst rt : TypeId} {x : Operand} {pos : String} {aft : Array Edge} {g : Option (Nat × Bool)}
    (s k : FloatKind) (xb : Nat) (hx : a.eval x = .float s xb) (hs : P.underlying src = some (.float s)) (hd : P.underlying dst = some (.float k)) (hne : s ≠ k)
    (hg : Region.wanted ⟨d, .convert src dst x, rt, pos, aft, g⟩ (yielded ops a.tmps) = true) (hn : Narrows s k xb)
    (h : ∀ r n, cl k r = fconv s k (cl s xb) → (Lit.float k r).wf = true → wpList P ops Q rest (a.put d (.float k r)) (w.drewN n)) :
    wpList P ops Q (⟨d, .convert src dst x, rt, pos, aft, g⟩ :: rest) a w := by
  obtain ⟨r, n, hr, hc, hw⟩ := run_fconv (P := P) w hne xb hn
  refine wpList_val hg (v := .float k r) (w' := w.drewN n) ?_ (h r n hc hw)
  unfold execOp
  simp only [hx]
  simp only [convert, Sem.run_bind, run_underlying hs, run_underlying hd, Result.andThen_ok, hr, Sem.run_pure]

theorem wpList_narrow {P : Program} {ops : Array Oper} {rest : List Oper} {a : Act} {w : World} {Q : Exit → Act → World → Prop} {d : Option Tmp} {src dst rt : TypeId} {x : Operand} {pos : String} {aft : Array Edge} {g : Option (Nat × Bool)}
    (xb : Nat) (hx : a.eval x = .float .f64 xb) (hs : P.underlying src = some (.float .f64)) (hd : P.underlying dst = some (.float .f32))
    (hg : Region.wanted ⟨d, .convert src dst x, rt, pos, aft, g⟩ (yielded ops a.tmps) = true) (hn : Narrows .f64 .f32 xb)
    (h : ∀ r n, cl .f32 r = fconv .f64 .f32 (cl .f64 xb) → (Lit.float .f32 r).wf = true → wpList P ops Q rest (a.put d (.float .f32 r)) (w.drewN n)) :
    wpList P ops Q (⟨d, .convert src dst x, rt, pos, aft, g⟩ :: rest) a w :=
  wpList_fconv .f64 .f32 xb hx hs hd (by decide) hg hn h

/-! ### a float32 never outgrows a float64 -/
theorem read32_number {b : Nat} {sg : Bool} {m : Nat} {e : Int} (h : Ieee.single.read b = .number sg m e) : m < 2 ^ 24 ∧ -149 ≤ e ∧ e ≤ 104 ∧ (e = -149 ∨ 2 ^ 23 ≤ m) := by
  unfold Format.read at h
  dsimp only at h
  have h1 : Ieee.single.binade = 8388608 := by decide +kernel
  have h2 : Ieee.single.infRung = 2139095040 := by decide +kernel
  have h3 : Ieee.single.signWeight = 2147483648 := by decide +kernel
  have h4 : Ieee.single.leastPlace = -149 := by decide +kernel
  rw [h1, h2, h3, h4] at h
  split at h
  · cases h; omega
  · split at h
    · cases h; omega
    · split at h <;> cases h

theorem cut_le (n drop : Nat) (neg : Bool) : Toward.even.cut neg n drop ≤ n / 2 ^ drop + 1 := by
  unfold Toward.cut
  dsimp only
  have hb : ∀ x : Bool, x.toNat ≤ 1 := by intro x; cases x <;> decide
  refine Nat.add_le_add ?_ (hb _)
  rw [Nat.one_shiftLeft]
  by_cases hd : drop ≤ n.log2 + 2
  · rw [Nat.min_eq_left hd]; exact Nat.le_refl _
  · rw [Nat.min_eq_right (by omega)]
    rw [Nat.div_eq_of_lt]
    · exact Nat.zero_le _
    · rcases Nat.eq_zero_or_pos n with rfl | h0
      · exact Nat.two_pow_pos _
      · exact Nat.lt_of_lt_of_le ((Nat.log2_lt (by omega)).1 (Nat.lt_succ_self _)) (Nat.pow_le_pow_right (by decide) (by omega))

theorem widen_ok (b : Nat) : Narrows .f32 .f64 b := by
  intro sg m e h
  obtain ⟨hm, h1, h2, _⟩ := read32_number h
  have hr : Ieee.double.nearest sg m e % Ieee.double.signWeight < Ieee.double.infRung := by
    have h3 : Ieee.double.infRung = 9218868437227405312 := by decide +kernel
    have h4 : Ieee.double.binade = 4503599627370496 := by decide +kernel
    have h5 : Ieee.double.leastPlace = -1074 := by decide +kernel
    have h7 : Ieee.double.fractionBits = 52 := rfl
    unfold Format.nearest
    dsimp only
    split
    · rw [word_rung _ _ (Nat.two_pow_pos _), h3]; omega
    · rename_i hm0
      rw [word_rung _ _ (Nat.lt_of_le_of_lt (Nat.min_le_right ..) Ieee.double.infRung_lt)]
      refine Nat.lt_of_le_of_lt (Nat.min_le_left ..) ?_
      have hl : m.log2 < 24 := (Nat.log2_lt hm0).2 hm
      have hl2 : max (e + (m.log2 : Int) - (Ieee.double.fractionBits : Int)) Ieee.double.leastPlace = e + m.log2 - 52 := by rw [h5, h7]; omega
      rw [hl2, h3, h4, h5]
      have hc := cut_le (m <<< (e - (e + (m.log2 : Int) - 52)).toNat) (e + (m.log2 : Int) - 52 - e).toNat sg
      have hz : (e + (m.log2 : Int) - 52 - e).toNat = 0 := by omega
      rw [hz, Nat.pow_zero, Nat.div_one] at hc
      rw [hz]
      have hs : (e - (e + (m.log2 : Int) - 52)).toNat = 52 - m.log2 := by omega
      rw [hs] at hc ⊢
      have hb : m <<< (52 - m.log2) < 2 ^ 53 := by
        rw [Nat.shiftLeft_eq]
        have hlt : m < 2 ^ (m.log2 + 1) := (Nat.log2_lt hm0).1 (Nat.lt_succ_self _)
        calc m * 2 ^ (52 - m.log2) < 2 ^ (m.log2 + 1) * 2 ^ (52 - m.log2) := Nat.mul_lt_mul_of_pos_right hlt (Nat.two_pow_pos _)
          _ = 2 ^ 53 := by rw [← Nat.pow_add]; congr 1; omega
      have ht : (e + (m.log2 : Int) - 52 - -1074).toNat ≤ 1149 := by omega
      generalize Toward.even.cut sg _ _ = c at hc ⊢
      generalize m <<< (52 - m.log2) = q at *
      generalize (e + (m.log2 : Int) - 52 - -1074).toNat = p at *
      omega
  have hn : (FloatKind.f64.decode (FloatKind.f64.encode (.number sg m e))).isInfinity = false := by
    show (Ieee.double.read (Ieee.double.nearest sg m e)).isInfinity = false
    unfold Format.read
    dsimp only
    split
    · rfl
    · rfl
  exact hn

theorem wpList_widen {P : Program} {ops : Array Oper} {rest : List Oper} {a : Act} {w : World} {Q : Exit → Act → World → Prop} {d : Option Tmp} {src dst rt : TypeId} {x : Operand} {pos : String} {aft : Array Edge} {g : Option (Nat × Bool)}
    (xb : Nat) (hx : a.eval x = .float .f32 xb) (hs : P.underlying src = some (.float .f32)) (hd : P.underlying dst = some (.float .f64))
    (hg : Region.wanted ⟨d, .convert src dst x, rt, pos, aft, g⟩ (yielded ops a.tmps) = true)
    (h : ∀ r n, cl .f64 r = fconv .f32 .f64 (cl .f32 xb) → (Lit.float .f64 r).wf = true → wpList P ops Q rest (a.put d (.float .f64 r)) (w.drewN n)) :
    wpList P ops Q (⟨d, .convert src dst x, rt, pos, aft, g⟩ :: rest) a w :=
  wpList_fconv .f32 .f64 xb hx hs hd (by decide) hg (widen_ok xb) h

/-- The operation that widens, whatever evaluates its operand. -/
theorem run_widen_op {P : Program} (w : World) {ρ : Operand → Value} {d : Option Tmp} {src dst rt : TypeId} {x : Operand} {pos : String} {aft : Array Edge} {g : Option (Nat × Bool)} (xb : Nat) (hx : ρ x = .float .f32 xb)
    (hs : P.underlying src = some (.float .f32)) (hd : P.underlying dst = some (.float .f64)) :
    ∃ r n, (execOp ρ ⟨d, .convert src dst x, rt, pos, aft, g⟩).run P w = .ok (.value (.float .f64 r)) (w.drewN n) ∧ cl .f64 r = fconv .f32 .f64 (cl .f32 xb) ∧ (Lit.float .f64 r).wf = true := by
  obtain ⟨r, n, hr, hc, hw⟩ := run_fconv (P := P) w (s := .f32) (k := .f64) (by decide) xb (widen_ok xb)
  refine ⟨r, n, ?_, hc, hw⟩
  unfold execOp
  simp only [hx]
  simp only [convert, Sem.run_bind, run_underlying hs, run_underlying hd, Result.andThen_ok, hr, Sem.run_pure]
/-- The operation '+', '-', '*', '/', whatever evaluates its operands. -/
theorem run_fbin_op {P : Program} (w : World) {ρ : Operand → Value} {d : Option Tmp} {op : BinOp} {t ty rt : TypeId} {x y : Operand} {pos : String} {aft : Array Edge} {g : Option (Nat × Bool)} (k : FloatKind) (xb yb : Nat)
    (hop : arithOp op = true) (hx : ρ x = .float k xb) (hy : ρ y = .float k yb) :
    ∃ r n, (execOp ρ ⟨d, .binOp op t x y ty, rt, pos, aft, g⟩).run P w = .ok (.value (.float k r)) (w.drewN n) ∧ cl k r = fbin op k (cl k xb) (cl k yb) ∧ (Lit.float k r).wf = true := by
  obtain ⟨r, n, hr, hc, hw⟩ := run_fbin (P := P) w hop t k xb yb
  have hq : (eqGuard op t x y (ρ x) (ρ y)).run P w = .ok () w := by
    rcases arith_or hop with rfl | rfl | rfl | rfl <;> rfl
  refine ⟨r, n, ?_, hc, hw⟩
  unfold execOp
  simp only [hx, hy] at hq ⊢
  simp only [Sem.run_bind, hq, Result.andThen_ok, hr, Sem.run_pure]

/-! ### a float stored -/
theorem run_store_float (P : Program) (w : World) (a : Addr) (m : Mode) (k : FloatKind) (b : Nat) : (store a (.float k b) m).run P w = stored P w a (.float k b) m := run_store P w a _ m rfl
theorem run_store_complex (P : Program) (w : World) (a : Addr) (m : Mode) (k : FloatKind) (x y : Nat) : (store a (.complex k x y) m).run P w = stored P w a (.complex k x y) m := run_store P w a _ m rfl
attribute [go_sem] run_store_float run_store_complex

/-! ### what a call gives -/
/-- It returns this bool, and nothing but draws has happened. -/
def RetB (w : World) (b : Bool) (e : Ending) (w' : World) : Prop := e = .returned (.bool b) ∧ ∃ n, w' = w.drewN n
/-- It returns a float of this class, and nothing but draws has happened. -/
def RetF (k : FloatKind) (w : World) (c : Option Nat) (e : Ending) (w' : World) : Prop := ∃ r n, e = .returned (.float k r) ∧ cl k r = c ∧ (Lit.float k r).wf = true ∧ w' = w.drewN n
/-- It returns this integer, and nothing but draws has happened. -/
def RetI (k : IntKind) (w : World) (i : Int) (e : Ending) (w' : World) : Prop := e = .returned (.int k i) ∧ ∃ n, w' = w.drewN n

theorem retB {w : World} {a b : Bool} (n : Nat) (h : a = b) : RetB w b (.returned (.bool a)) (w.drewN n) := ⟨by rw [h], n, rfl⟩
theorem retB0 {w : World} {a b : Bool} (h : a = b) : RetB w b (.returned (.bool a)) w := ⟨by rw [h], 0, rfl⟩
theorem retF {k : FloatKind} {w : World} {r : Nat} {c : Option Nat} (n : Nat) (h : cl k r = c) (hw : (Lit.float k r).wf = true) : RetF k w c (.returned (.float k r)) (w.drewN n) := ⟨r, n, rfl, h, hw, rfl⟩
theorem retF0 {k : FloatKind} {w : World} {r : Nat} {c : Option Nat} (h : cl k r = c) (hw : (Lit.float k r).wf = true) : RetF k w c (.returned (.float k r)) w := ⟨r, 0, rfl, h, hw, rfl⟩
theorem retI {k : IntKind} {w : World} {i j : Int} (n : Nat) (h : i = j) : RetI k w j (.returned (.int k i)) (w.drewN n) := ⟨by rw [h], n, rfl⟩
theorem retI0 {k : IntKind} {w : World} {i j : Int} (h : i = j) : RetI k w j (.returned (.int k i)) w := ⟨by rw [h], 0, rfl⟩

/-- What a law's walk ends in: it returned true, and nothing that was there has turned. -/
def LawOk (w : World) (e : Ending) (w' : World) : Prop := e = .returned (.bool true) ∧ Below w.heap.size w w'
theorem lawOk {w : World} (n : Nat) : LawOk w (.returned (.bool true)) (w.drewN n) := ⟨rfl, below_drewN (Below.refl _ _) n⟩
theorem lawOk0 {w : World} : LawOk w (.returned (.bool true)) w := ⟨rfl, Below.refl _ _⟩
theorem lawOk_of {w : World} {e : Ending} {w' : World} (h : RetB w true e w') : LawOk w e w' := by
  obtain ⟨rfl, n, rfl⟩ := h; exact lawOk n

/-! ### comparisons of classes -/
theorem cl_zero (k : FloatKind) : cl k 0 = some 0 := by cases k <;> decide +kernel
theorem cl_none_of {k : FloatKind} {b : Nat} (h : (k.format.read b).isNaN = true) : cl k b = none := cl_none h

theorem datum_order_self {d : Datum} (h : d.isNaN = false) : d.order d = some .eq := by
  cases d with
  | number => simp [Datum.order, Std.ReflCmp.compare_self]
  | infinity => simp [Datum.order, Std.ReflCmp.compare_self]
  | nan => cases h
theorem ford_self (k : FloatKind) (b : Nat) : ford k (cl k b) (cl k b) = (cl k b).map fun _ => .eq := by
  cases h : cl k b with
  | none => rfl
  | some c =>
    obtain ⟨rfl, h2⟩ := of_cl_some h
    exact datum_order_self h2
/-- x != x -/
theorem ne_self (k : FloatKind) (b : Nat) : (ford k (cl k b) (cl k b) != some .eq) = (cl k b).isNone := by
  rw [ford_self]; cases cl k b <;> rfl

/-- A class is a finite number's. -/
def fin (k : FloatKind) (a : Option Nat) : Bool := a.any fun x => x % k.format.signWeight < k.format.infRung

theorem read_number {k : FloatKind} {b : Nat} (h : b % k.format.signWeight < k.format.infRung) : ∃ s m e, k.format.read b = .number s m e := by
  unfold Format.read
  dsimp only
  split
  · exact ⟨_, _, _, rfl⟩
  · exact ⟨_, _, _, rfl⟩
theorem read_infinity {k : FloatKind} {b : Nat} (h : b % k.format.signWeight = k.format.infRung) : ∃ s, k.format.read b = .infinity s := by
  unfold Format.read
  dsimp only
  rw [if_neg, if_neg, if_pos h]
  · exact ⟨_, rfl⟩
  · omega
  · rcases fnums k with ⟨_, h1, h2, _⟩ | ⟨_, h1, h2, _⟩ <;> omega

theorem sub_self (k : FloatKind) (b : Nat) : fbin .sub k (cl k b) (cl k b) = if fin k (cl k b) then some 0 else none := by
  rw [fbin_cl]
  show (((k.format.read b).sum (k.format.read b).opposite).map k.format.write) = _
  unfold cl fin
  by_cases h1 : k.format.infRung < b % k.format.signWeight
  · rw [if_pos h1]
    have : (k.format.read b).isNaN = true := by rw [read_nan]; simpa using h1
    cases hd : k.format.read b <;> rw [hd] at this <;> first | (cases this; done) | rfl
  · rw [if_neg h1]
    by_cases h2 : b % k.format.signWeight < k.format.infRung
    · obtain ⟨s, m, e, hd⟩ := read_number h2
      rw [hd]
      simp only [Option.any_some, decide_eq_true h2, if_true, Datum.opposite, Datum.sum, Int.min_self, Int.sub_self, Int.toNat_zero]
      have hz : signed s m 0 + signed (!s) m 0 = 0 := by cases s <;> simp [signed] <;> omega
      rw [hz]
      simp only [if_true, Int.natAbs_zero, Option.map_some]
      have : (s && !s) = false := by cases s <;> rfl
      rw [this]
      show some (k.format.nearest false 0 e) = some 0
      unfold Format.nearest
      simp [Format.word]
    · obtain ⟨s, hd⟩ := read_infinity (k := k) (b := b) (by omega)
      rw [hd]
      simp only [Option.any_some, decide_eq_false h2, Datum.opposite, Datum.sum]
      cases s <;> rfl

/-! ### bits -/
theorem run_float32bits {P : Program} (w : World) (b : Nat) : (Extern.MathFloatBits.float32bits #[.float .f32 b]).run P w = .ok (.int .u32 b) w := rfl
theorem run_float64bits {P : Program} (w : World) (b : Nat) : (Extern.MathFloatBits.float64bits #[.float .f64 b]).run P w = .ok (.int .u64 b) w := rfl
end Go.Proofs.Ytpjonajpgidjfaa
