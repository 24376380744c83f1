/-
  A picture that comes in as an argument, opened. No condition.
-/
import Derived.Test.YtpjonajpgidjfaaPic
import Derived.Lib.SmallJoins
namespace Go.Proofs.Ytpjonajpgidjfaa
set_option linter.unusedVariables false
open Go.RowKit Go.WideShapes Go.Joins Go.ChangeShapes

theorem open_pic {H : Type} {enc : TypeId × Value → H} {w : World} {base : Nat} {spare : Nat → Bool} {held : Bool} {v : Value} {d : DataW H} {p : List MemPlace} {r : Reach} {b0 : Nat} (hv : Value.okWide Try.prog w r b0 24 v)
    (h : DataW.Trod enc Try.prog w base spare held 24 v d p) :
    ∃ (wi hi : Int) (a : Option Addr) (n c : Nat) (f : Nat → Nat), v = picV wi hi a n c ∧ Row w a n c (fun i => .float .f32 (f i)) ∧ n ≤ 9223372036854775807 ∧ (∀ i, i < n → (Lit.float .f32 (f i)).wf = true) ∧ (Lit.int .i64 wi).wf = true ∧ (Lit.int .i64 hi).wf = true := by
  obtain ⟨v0, v1, v2, y0, y1, y2, k, rfl, rfl, rfl, h0, h1, h2⟩ := open_agg3 Try.underlying24 (by kernel_rfl) (by kernel_rfl) hv h
  obtain ⟨wi, rfl, w0⟩ := trod_int' (d := y0.1) (ps := y0.2) Try.underlying2 h0
  obtain ⟨hi, rfl, w1⟩ := trod_int' (d := y1.1) (ps := y1.2) Try.underlying2 h1
  have hs : ∃ a n c, v2 = .slice a n c ∧ n ≤ 9223372036854775807 := by
    rcases Go.Deep.open_slice1 Try.underlying22 (by kernel_rfl) h2 with ⟨hcs, _⟩ | ⟨x, l, c, m, n, V, D, Pl, hcs, _, hl, hm, hmm, _, hV⟩
    · exact ⟨none, 0, 0, by simpa using hcs, by omega⟩
    · exact ⟨some x, l, c, by simpa using hcs, by unfold maxLen at hm; omega⟩
  obtain ⟨a, n, c, rfl, hn⟩ := hs
  obtain ⟨z, hz, hw⟩ := open_row (α := Nat) 0 (Value.float .f32) (fun b => (Lit.float .f32 b).wf = true) Try.underlying22 (by kernel_rfl) (fun h => trod_float Try.underlying32 h) ⟨k, by simpa [Value.cells] using h2⟩
  exact ⟨wi, hi, a, n, c, z, rfl, hz, hn, hw, w0, w1⟩
end Go.Proofs.Ytpjonajpgidjfaa
