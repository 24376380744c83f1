/-
  The walk of impl.ReadDecimal: the one answer of a reading. No condition beyond the sizes; the listed variables read as the text lays them.
-/
import Derived.Test.YtbgaflmnkjfdaaaDoorRdm
import Derived.Test.YtbgaflmnkjfdaaaDoorWdd
import Derived.Test.YtbgaflmnkjfdaaaDoorSpi
import Derived.Lib.ParseIntBTie
import Derived.Lib.AtoiErrMem
import Derived.WalkSmall
namespace Go.Proofs.YtbgaflmnkjfdaaaDoor
set_option linter.unusedVariables false
open Go.RowKit Go.Proofs.YtbgaflmnkjfdaaaDoor.Q Go.Proofs.YtbgaflmnkjfdaaaDoorW.PrintWords

/-- What the walks want of the listed variables. -/
def Vars (w : World) : Prop := Pow w ∧ (∃ tp p, w.var? Tryd.prog "strconv.ErrSyntax" = some #[.iface tp p]) ∧ ∃ tp p, w.var? Tryd.prog "strconv.ErrRange" = some #[.iface tp p]

theorem Vars.stays {w w' : World} {B : Nat} (h : Vars w) (hb : Below B w w') (hB : w.heap.size ≤ B) : Vars w' := by
  obtain ⟨h1, ⟨t1, p1, e1⟩, t2, p2, e2⟩ := h
  exact ⟨h1.stays hb hB, ⟨t1, p1, Joins.var_stays (g := 1) (by kernel_rfl) e1 hb hB⟩, t2, p2, Joins.var_stays (g := 2) (by kernel_rfl) e2 hb hB⟩

/-- What the library's reading hands back. -/
theorem parse_c (s : ByteArray) (hs : s.size ≤ 1048576) (w : World) (hv : Vars w) :
    Calls Tryd.prog 22 #[.string s, .int .i64 10, .int .i64 64] w fun e w' => ∃ n er, e = .returned (.tuple #[.int .i64 n, er]) ∧ Below w.heap.size w w' ∧
      ((er = .nilIface ∧ Lib.parseIntB 64 s.data.toList = .ok n) ∨ (∃ t p, er = .iface t p ∧ ∀ m : Int, -1000000000000000 ≤ m → m ≤ 1000000000000000 → s.data.toList ≠ Lib.itoa m)) := by
  obtain ⟨h1, ⟨t1, p1, e1⟩, t2, p2, e2⟩ := hv
  match hp : Lib.parseIntB 64 s.data.toList with
  | .ok v =>
    refine (Tryd.strconv_ParseInt_10_at64_ok s (by omega) v hp w).mono ?_
    rintro e w' ⟨rfl, hw⟩
    refine ⟨v, _, rfl, ?_, .inl ⟨rfl, rfl⟩⟩
    rcases hw with rfl | ⟨t, rfl⟩
    · exact Below.refl _ _
    · exact Lib.bytesWorld_below _ _ _
  | .syntax =>
    refine (Tryd.strconv_ParseInt_10_at64_syntax_var s (by omega) hp t1 p1 w e1).mono ?_
    rintro e w' ⟨N, rfl, _, _, hb⟩
    exact ⟨_, _, rfl, hb, .inr ⟨_, _, rfl, fun m h0 h1 e => by rw [e, parse_itoa m h0 h1] at hp; cases hp⟩⟩
  | .range =>
    refine (Tryd.strconv_ParseInt_10_at64_range_var s (by omega) hp t2 p2 w e2).mono ?_
    rintro e w' ⟨N, rfl, _, _, hb⟩
    exact ⟨_, _, rfl, hb, .inr ⟨_, _, rfl, fun m h0 h1 e => by rw [e, parse_itoa m h0 h1] at hp; cases hp⟩⟩

theorem isValue_c (n : Int) (w : World) : Calls Tryd.prog 23 #[.int .i64 n] w fun e w' => e = .returned (.bool (decide (-1000000000000000 ≤ n ∧ n ≤ 1000000000000000))) ∧ Below w.heap.size w w' := by
  refine (impl_isValue.calls n (decide (-1000000000000000 ≤ n ∧ n ≤ 1000000000000000)) w ?_).mono ?_
  · unfold impl_isValue.f impl_between.f
    by_cases h : n ≥ -1000000000000000
    · rw [if_pos h, Option.bind_some]
      congr 1
      exact decide_eq_decide.2 ⟨fun g => ⟨h, g⟩, fun g => g.2⟩
    · rw [if_neg h, Option.bind_some]
      congr 1
      exact (decide_eq_false (fun g => h g.1)).symm
  · rintro e w' ⟨rfl, h⟩
    exact ⟨rfl, h.below⟩

/-- What a reading of a text hands back. -/
def ReadQ (s : ByteArray) (w : World) (e : Ending) (w' : World) : Prop := ∃ n ok, e = .returned (.tuple #[.int .i64 n, .bool ok]) ∧ RD s n ok ∧ Below w.heap.size w w'

theorem specReadDecimal_c (s : ByteArray) (w : World) : Calls Tryd.prog 9 #[.string s] w (ReadQ s w) := by
  obtain ⟨k, n, ok, hk, hR⟩ := value_law s
  refine (spec_ReadDecimal.calls k s n ok w (by unfold spec_ReadDecimal.f; rw [hk]; rfl)).mono ?_
  rintro e w' ⟨rfl, hb⟩
  exact ⟨n, ok, rfl, hR, hb⟩

theorem implReadDecimal_c (s : ByteArray) (hs : s.size ≤ 1048576) (w : World) (hv : Vars w) : Calls Tryd.prog 10 #[.string s] w (ReadQ s w) := by
  have PC := Lib.hid (parse_c s hs w hv)
  have V := Lib.hid hv
  have IV := Lib.hid isValue_c
  clear hs hv
  go_enter Tryd.func10, Tryd.ntmps10
  go_wp2_with fail
  refine PC.out.mono ?_; rintro e w1 ⟨n, er, rfl, b1, h1⟩
  have B1 := Lib.hid b1
  have V1 := Lib.hid (V.out.stays b1 (Nat.le_refl _))
  clear b1
  rcases h1 with ⟨rfl, hp⟩ | ⟨t, p, rfl, hno⟩
  · have hn := Lib.hid (Lib.parseIntB_bounds hp)
    have HP := Lib.hid hp
    clear hp
    by_cases hr : -1000000000000000 ≤ n ∧ n ≤ 1000000000000000
    · have hd : decide (-1000000000000000 ≤ n ∧ n ≤ 1000000000000000) = true := decide_eq_true hr
      have D := Lib.hid (fun w ht => implDecimal_c n (by omega) (by omega) w ht)
      have HR := Lib.hid hr
      clear hr
      go_wp2_with fail
      refine (IV.out n _).mono ?_; rintro e w2 ⟨rfl, b2⟩
      rw [hd]
      have B2 := Lib.hid (below_trans B1.out b2)
      have V2 := Lib.hid (V1.out.stays b2 (Nat.le_refl _))
      clear b2
      go_wp2_with fail
      refine (D.out _ V2.out.1).mono ?_; rintro e w3 ⟨rfl, b3⟩
      have B3 := Lib.hid (below_trans B2.out b3)
      clear b3 hd
      by_cases he : s.data.toList = Lib.itoa n
      · have c0 : (Lib.itoa n == s.toList) = true := by rw [ByteArray.toList_eq]; exact beq_iff_eq.2 he.symm
        have c1 : (Lib.itoa n != s.toList) = false := by rw [ByteArray.toList_eq]; exact bne_eq_false_iff_eq.2 he.symm
        have HE := Lib.hid he
        clear he
        go_wp2_with fail
        go_ret2
        exact ⟨n, true, rfl, .inl ⟨rfl, HR.out.1, HR.out.2, HE.out⟩, B3.out⟩
      · have c0 : (Lib.itoa n == s.toList) = false := by rw [ByteArray.toList_eq]; exact beq_eq_false_iff_ne.2 (fun e => he e.symm)
        have c1 : (Lib.itoa n != s.toList) = true := by rw [ByteArray.toList_eq]; exact bne_iff_ne.2 (fun e => he e.symm)
        have HE := Lib.hid he
        clear he
        go_wp2_with fail
        go_ret2
        refine ⟨0, false, rfl, .inr ⟨rfl, rfl, fun m h0 h1 e => ?_⟩, B3.out⟩
        have := HP.out
        rw [e, parse_itoa m h0 h1] at this
        injection this with this
        subst this
        exact HE.out e
    · have hd : decide (-1000000000000000 ≤ n ∧ n ≤ 1000000000000000) = false := decide_eq_false hr
      have HR := Lib.hid hr
      clear hr
      go_wp2_with fail
      refine (IV.out n _).mono ?_; rintro e w2 ⟨rfl, b2⟩
      rw [hd]
      have B2 := Lib.hid (below_trans B1.out b2)
      clear b2
      go_wp2_with fail
      go_ret2
      refine ⟨0, false, rfl, .inr ⟨rfl, rfl, fun m h0 h1 e => ?_⟩, B2.out⟩
      have := HP.out
      rw [e, parse_itoa m h0 h1] at this
      injection this with this
      subst this
      exact HR.out ⟨h0, h1⟩
  · have HN := Lib.hid hno
    clear hno
    go_wp2_with fail
    go_ret2
    exact ⟨0, false, rfl, .inr ⟨rfl, rfl, HN.out⟩, B1.out⟩

theorem law_ReadDecimal (s : ByteArray) (w : World) (ws : s.size ≤ maxLen) (hv : Vars w) :
    Calls Tryd.prog 4 #[.string s] w fun e w' => e = .returned (.bool true) ∧ Below w.heap.size w w' := by
  by_cases hs : (1048576 : Int) < (s.size : Int)
  · clear ws hv
    have hd : decide ((1048576 : Int) < (s.size : Int)) = true := decide_eq_true hs
    go_enter Tryd.func4, Tryd.ntmps4
    go_wp2_with fail
    go_ret
    exact ⟨rfl, Below.refl _ _⟩
  · have hd : decide ((1048576 : Int) < (s.size : Int)) = false := decide_eq_false hs
    have S := Lib.hid (fun w => specReadDecimal_c s w)
    have I := Lib.hid (fun w hv => implReadDecimal_c s (by omega) w hv)
    have V := Lib.hid hv
    clear ws hv
    go_enter Tryd.func4, Tryd.ntmps4
    go_wp2_with fail
    refine (S.out _).mono ?_; rintro e w1 ⟨n, ok, rfl, r1, b1⟩
    have B1 := Lib.hid b1
    have V1 := Lib.hid (V.out.stays b1 (Nat.le_refl _))
    have R1 := Lib.hid r1
    clear b1 r1
    go_wp2_with fail
    refine (I.out _ V1.out).mono ?_; rintro e w2 ⟨n2, ok2, rfl, r2, b2⟩
    obtain ⟨h1, h2⟩ := R1.out.one r2
    subst h1
    subst h2
    have B2 := Lib.hid (below_trans B1.out b2)
    clear b2 r2
    cases ok
    all_goals
      go_wp2_with fail
      all_goals go_ret
      all_goals exact ⟨rfl, B2.out⟩

theorem star : "*" ++ "errors.errorString" = "*errors.errorString" := by decide
theorem row91 (u : TypeId) (h : Tryd.prog.typeName? 3 u = some "*errors.errorString") : u = 91 :=
  typeName_ptr_named (nm := "errors.errorString") (by rw [star]; kernel_rfl) (by kernel_rfl) (by decide) u (by rw [star]; exact h)

/-- What the row's condition gives. -/
theorem vars_of_laid {W : World} (h : laidMetH Tryd.prog Rows.fnExactReadDecimalRow.laid W) : Vars W := by
  rw [MakeChecks.laidMetH_plain _ _ _ (by kernel_rfl)] at h
  have h2 : laidMet Tryd.prog [("internal/strconv.uint64pow10", Rows.laid_internal_strconv_uint64pow10), ("strconv.ErrRange", Rows.laid_strconv_ErrRange), ("strconv.ErrSyntax", Rows.laid_strconv_ErrSyntax)] W := h.tail.tail
  refine ⟨Lib.tabIs_of_head (g := 0) (t := 77) (by kernel_rfl) (by kernel_rfl) Tryd.underlying77 Tryd.underlying55 (by kernel_rfl) (by kernel_rfl) h2, ?_, ?_⟩
  · obtain ⟨a, s, hv, _⟩ := laid_sentinel (g := 1) h2.tail.tail (by kernel_rfl) (by kernel_rfl) Tryd.underlying38 row91 Tryd.underlying91 Tryd.underlying93 rfl rfl Tryd.underlying9 (by kernel_rfl) (by kernel_rfl)
    exact ⟨_, _, hv⟩
  · obtain ⟨a, s, hv, _⟩ := laid_sentinel (g := 2) h2.tail (by kernel_rfl) (by kernel_rfl) Tryd.underlying38 row91 Tryd.underlying91 Tryd.underlying93 rfl rfl Tryd.underlying9 (by kernel_rfl) (by kernel_rfl)
    exact ⟨_, _, hv⟩
end Go.Proofs.YtbgaflmnkjfdaaaDoor
