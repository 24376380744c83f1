/-
  The walk of the law Decimal: both sides print the library's decimal numeral. No condition; the table of powers is what the program's text lays.
-/
import Derived.Test.YtbgaflmnkjfdaaaDoorDcl
import Derived.Test.YtbgaflmnkjfdaaaDoorSfi
import Derived.Lib.AppendIntMem
import Derived.Lib.SmallJoins
import Derived.LaidMore
import Derived.Stop.LaidErr
import Derived.Test.YtbgaflmnkjfdaaaDoorRows
namespace Go.Proofs.YtbgaflmnkjfdaaaDoor
set_option linter.unusedVariables false
open Go.RowKit Go.Proofs.YtbgaflmnkjfdaaaDoor.Q

theorem below_trans {a w w' : World} (h : Below a.heap.size a w) (h' : Below w.heap.size w w') : Below a.heap.size a w' := h.trans (h'.mono h.size)

/-- The table of powers of ten, as the program's text lays it. -/
def Pow (w : World) : Prop := Lib.TabIs Tryd.prog w "internal/strconv.uint64pow10" .u64 Lib.pow10Tab

theorem Pow.stays {w w' : World} {B : Nat} (h : Pow w) (hb : Below B w w') (hB : w.heap.size ≤ B) : Pow w' :=
  Joins.tab_stays (g := 0) (by kernel_rfl) h hb hB

theorem implDecimal_c (n : Int) (h0 : -9223372036854775808 ≤ n) (h1 : n ≤ 9223372036854775807) (w : World) (ht : Pow w) :
    Calls Tryd.prog 8 #[.int .i64 n] w fun e w' => e = .returned (.string ⟨(Lib.itoa n).toArray⟩) ∧ Below w.heap.size w w' := by
  have F := Lib.hid (fun w ht => Tryd.strconv_FormatInt_10 n h0 h1 w ht)
  have T := Lib.hid ht
  clear h0 h1 ht
  go_enter Tryd.func8, Tryd.ntmps8
  go_wp2_with fail
  refine (F.out _ T.out).mono ?_; rintro e w' ⟨rfl, k, os, rfl⟩
  go_wp2_with fail
  go_ret
  exact ⟨rfl, Lib.below_grow _ _ (Nat.le_refl _) _ _⟩

theorem specDecimal_c (n : Int) (h0 : -9223372036854775808 ≤ n) (h1 : n ≤ 9223372036854775807) (w : World) :
    Calls Tryd.prog 7 #[.int .i64 n] w fun e w' => e = .returned (.string ⟨(Lib.itoa n).toArray⟩) ∧ Below w.heap.size w w' := by
  obtain ⟨k, hk⟩ := dec_law n h0 h1
  exact spec_Decimal.calls k n _ w (by unfold spec_Decimal.f; rw [hk]; rfl)

/-- What the row's condition gives. -/
theorem pow_of_laid {W : World} (h : laidMetH Tryd.prog Rows.fnExactDecimalRow.laid W) : Pow W := by
  rw [MakeChecks.laidMetH_plain _ _ _ (by kernel_rfl)] at h
  exact Lib.tabIs_of_head (g := 0) (t := 77) (by kernel_rfl) (by kernel_rfl) Tryd.underlying77 Tryd.underlying55 (by kernel_rfl) (by kernel_rfl) h.tail.tail

theorem law_Decimal (n : Int) (w : World) (wn : (Lit.int .i64 n).wf = true) (ht : Pow w) :
    Calls Tryd.prog 3 #[.int .i64 n] w fun e w' => e = .returned (.bool true) ∧ Below w.heap.size w w' := by
  have hr : -9223372036854775808 ≤ n ∧ n ≤ 9223372036854775807 := by have h1 := of_decide_eq_true ((Bool.and_eq_true _ _).mp wn).1; have h2 := of_decide_eq_true ((Bool.and_eq_true _ _).mp wn).2; exact ⟨h1, h2⟩
  have S := Lib.hid (fun w => specDecimal_c n hr.1 hr.2 w)
  have I := Lib.hid (fun w ht => implDecimal_c n hr.1 hr.2 w ht)
  have T := Lib.hid ht
  clear wn ht hr
  go_enter Tryd.func3, Tryd.ntmps3
  go_wp2_with fail
  refine (S.out _).mono ?_; rintro e w1 ⟨rfl, b1⟩
  have B1 := Lib.hid b1
  have T1 := Lib.hid (T.out.stays b1 (Nat.le_refl _))
  clear b1
  go_wp2_with fail
  refine (I.out _ T1.out).mono ?_; rintro e w2 ⟨rfl, b2⟩
  have B2 := Lib.hid (below_trans B1.out b2)
  clear b2
  go_wp2_with fail
  go_ret
  exact ⟨rfl, B2.out⟩
end Go.Proofs.YtbgaflmnkjfdaaaDoor
