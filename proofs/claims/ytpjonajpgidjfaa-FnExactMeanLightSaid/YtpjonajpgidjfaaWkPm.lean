/-
  The walk of the law MeanLight. No condition.
-/
import Derived.Test.YtpjonajpgidjfaaMea
namespace Go.Proofs.Ytpjonajpgidjfaa
set_option linter.unusedVariables false
open Go.RowKit Ieee

set_option maxRecDepth 10000 in
theorem law_MeanLight (wi hi : Int) (a : Option Addr) (n c : Nat) (f : Nat → Nat) (w : World) (hr : Row w a n c (fun i => .float .f32 (f i))) (hn : n ≤ 9223372036854775807) (hz : ∀ i, i < n → (Lit.float .f32 (f i)).wf = true) :
    Calls Try.prog 6 #[picV wi hi a n c] w fun e w' => e = .returned (.bool true) ∧ Below w.heap.size w w' := by
  have HR := Lib.hid hr
  have Z := Lib.hid (szPic_c wi hi a n c 1048576 (by omega) (by omega) hn)
  by_cases hlt : (1048576 : Int) < n
  · rw [if_pos hlt] at Z
    clear hr hn hlt hz
    unfold picV at Z ⊢
    go_enter Try.func6, Try.ntmps6
    go_wp2_with fail
    refine (Z.out _).mono ?_; rintro e w1 ⟨rfl, b1⟩
    go_wp2_with fail
    go_ret
    exact ⟨rfl, ((Below.refl _ _).alloc (Nat.le_refl _) _).trans (b1.mono (by simp))⟩
  · have hn1 : n ≤ 1048576 := by omega
    have hge : ¬ (1048576 : Int) - n < 0 := by omega
    rw [if_neg hlt] at Z
    have T := Lib.hid (fun w hr => toPic_c wi hi a n c f w hr hn1)
    have s0 := (fun b w hr => specMean_c wi hi b n n f w hn1 hr)
    have i0 := (fun b w hr => implMeanLight_c wi hi b n n f w hn1 hr)
    unfold MeanR at s0 i0
    generalize meanK wi hi n f = K at s0 i0
    generalize meanC f n = C at s0 i0
    have S := Lib.hid s0
    have I := Lib.hid i0
    have E := Lib.hid (fun b1 b2 w h1 h2 => eqPic_c wi hi b1 b2 n n n f f w hn1 h1 h2 (fun _ _ => rfl))
    clear hr hn hlt hz s0 i0
    unfold picV at Z T S I E ⊢
    go_enter Try.func6, Try.ntmps6
    go_wp2_with fail
    have B0 : Hid (∀ v, Below w.heap.size w (w.alloc v)) := fun v => (Below.refl _ _).alloc (Nat.le_refl _) _
    refine (Z.out _).mono ?_; rintro e w1 ⟨rfl, b1⟩
    have C1 := bcell b1
    have c1 := C1 w.heap.size 0 (by simp)
    go_wp2_with fail
    refine (T.out _ (row_mono HR.out ((B0.out _).trans (b1.mono (by simp))))).mono ?_; rintro e w2 ⟨P1, rfl, l1, g1, b2, r1⟩
    unfold picV
    go_wp2_with fail
    refine (S.out _ _ ⟨g1, r1⟩).mono ?_; rintro e w3 ⟨y0, rfl, q0, b3⟩; have Q0 := Lib.hid q0; clear q0
    have z1 := b1.size
    have z2 := b2.size
    have z3 := b3.size
    simp at z1
    have c3 : w3.cell? ⟨w.heap.size, 0, none⟩ = some (.int .i64 wi) := by rw [bcell b3 _ _ (by omega), bcell b2 _ _ (by omega), c1]; simp [go_sem]
    have c4 : w3.cell? ⟨w.heap.size, 1, none⟩ = some (.int .i64 hi) := by rw [bcell b3 _ _ (by omega), bcell b2 _ _ (by omega), C1 _ _ (by simp)]; simp [go_sem]
    have c5 : w3.cell? ⟨w.heap.size, 2, none⟩ = some (.slice a n c) := by rw [bcell b3 _ _ (by omega), bcell b2 _ _ (by omega), C1 _ _ (by simp)]; simp [go_sem]
    clear c1 C1
    go_wp2_with fail
    refine (T.out _ (row_mono HR.out ((((B0.out _).trans (b1.mono (by simp))).trans (b2.mono (by omega))).trans (b3.mono (by omega))))).mono ?_; rintro e w4 ⟨P2, rfl, l2, g2, b4, r2⟩
    have R2 := Lib.hid r2
    have z4 := b4.size
    have c6 : w4.cell? ⟨w.heap.size, 0, none⟩ = some (.int .i64 wi) := by rw [bcell b4 _ _ (by omega), c3]
    have c7 : w4.cell? ⟨w.heap.size, 1, none⟩ = some (.int .i64 hi) := by rw [bcell b4 _ _ (by omega), c4]
    have c8 : w4.cell? ⟨w.heap.size, 2, none⟩ = some (.slice a n c) := by rw [bcell b4 _ _ (by omega), c5]
    clear c3 c4 c5 r1 r2
    unfold picV
    go_wp2_with fail
    refine (I.out _ _ (rowAt_mono ⟨g2, R2.out⟩ ((Below.refl _ _).alloc (Nat.le_refl _) _))).mono ?_; rintro e w5 ⟨y1, rfl, q1, b5⟩; have EQ0 := Lib.hid (q1.trans Q0.out.symm); clear q1
    have z5 := b5.size
    simp at z5
    have d0 : w5.cell? ⟨w.heap.size, 0, none⟩ = some (.int .i64 wi) := by rw [bcell b5 _ _ (by simp; omega), World.cell?_alloc_past (hn := by omega), c6]
    have d1 : w5.cell? ⟨w.heap.size, 1, none⟩ = some (.int .i64 hi) := by rw [bcell b5 _ _ (by simp; omega), World.cell?_alloc_past (hn := by omega), c7]
    have d2 : w5.cell? ⟨w.heap.size, 2, none⟩ = some (.slice a n c) := by rw [bcell b5 _ _ (by simp; omega), World.cell?_alloc_past (hn := by omega), c8]
    have e0 : w5.cell? ⟨w4.heap.size, 0, none⟩ = some (.int .i64 wi) := by rw [bcell b5 _ _ (by simp)]; simp [go_sem]
    have e1 : w5.cell? ⟨w4.heap.size, 1, none⟩ = some (.int .i64 hi) := by rw [bcell b5 _ _ (by simp)]; simp [go_sem]
    have e2 : w5.cell? ⟨w4.heap.size, 2, none⟩ = some (.slice (some ⟨P2, 0, none⟩) n n) := by rw [bcell b5 _ _ (by simp)]; simp [go_sem]
    clear c6 c7 c8
    have bb4 := below_trans (below_trans (below_trans (below_trans (B0.out _) b1) b2) b3) b4
    have bb5 := below_trans (below_trans bb4 ((Below.refl _ _).alloc (Nat.le_refl _) _)) b5
    have RW := row_mono HR.out bb5
    have R5 : RowAt w5 P2 n f := rowAt_mono (rowAt_mono ⟨g2, R2.out⟩ ((Below.refl _ _).alloc (Nat.le_refl _) _)) b5
    have ta : True := trivial
    have tb : True := trivial
    go_wp2_with (first | (have _t := ta; refine wpList_widen _ rfl Try.underlying32 Try.underlying36 rfl ?_; intro va0 ma0 ha0 wa0; clear ta) | (have _t := tb; refine wpList_widen _ rfl Try.underlying32 Try.underlying36 rfl ?_; intro vb0 mb0 hb0 wb0; clear tb))
    refine (sameFloat_c _ _ _ (ha0.trans (by first | exact hb0.symm | (rw [EQ0.out]; exact hb0.symm)))).mono ?_; rintro e w9 ⟨rfl, m0, rfl⟩
    clear ha0 hb0 wa0 wb0
    go_wp2_with fail
    refine wp_region_grow_lit (fun w' => Below w5.heap.size w5 w') (EqV (.agg #[.int .i64 wi, .int .i64 hi, .slice (some ⟨P2, 0, none⟩) n n]) (.agg #[.int .i64 wi, .int .i64 hi, .slice a n c]) wi hi n f) (eqV_stays _ _ _ _ _ _ _) (by kernel_rfl) (by kernel_rfl) (by first | exact below_drewN (Below.refl _ _) 1 | exact below_drewN (below_drewN (Below.refl _ _) _) 1) ⟨?_, ?_, ?_, ?_, ?_, trivial⟩ ?_
    · intro ρ w' hb hx hd ho
      have q : ρ (.tmp 6) = _ := ho 6 (out_of (by kernel_rfl))
      have f0 := (bcell hb _ _ (heap_lt e0)).trans e0
      have f1 := (bcell hb _ _ (heap_lt e1)).trans e1
      have f2 := (bcell hb _ _ (heap_lt e2)).trans e2
      simp [execOp, q, YieldsG, go_sem, Act.eval, f0, f1, f2, EqV]
      exact Below.refl _ _
    · intro ρ w' hb hx hd ho
      have q : ρ (.tmp 1) = _ := ho 1 (out_of (by kernel_rfl))
      have f0 := (bcell hb _ _ (heap_lt d0)).trans d0
      have f1 := (bcell hb _ _ (heap_lt d1)).trans d1
      have f2 := (bcell hb _ _ (heap_lt d2)).trans d2
      simp [execOp, q, YieldsG, go_sem, Act.eval, f0, f1, f2, EqV]
      exact Below.refl _ _
    · intro ρ w' hb hx hd ho
      have q : ρ (.tmp 39) = (.agg #[.int .i64 wi, .int .i64 hi, .slice a n c]) := hd ⟨1, .data⟩ (by simp)
      have q2 : ρ (.func 16) = .func (.func 16) #[] #[] := hx _ (by simp)
      simp [execOp, q, q2, YieldsG, go_sem]
      refine (T.out _ (row_mono RW hb)).mono ?_
      rintro e w'' ⟨B, rfl, l3, g3, b3, r3⟩
      exact ⟨_, rfl, ⟨B, rfl, g3, r3⟩, b3⟩
    · intro ρ w' hb hx hd ho
      have q : ρ (.tmp 38) = (.agg #[.int .i64 wi, .int .i64 hi, .slice (some ⟨P2, 0, none⟩) n n]) := hd ⟨0, .data⟩ (by simp)
      obtain ⟨B, q1, hB⟩ : ∃ B, ρ (.tmp 40) = .agg #[.int .i64 wi, .int .i64 hi, .slice (some ⟨B, 0, none⟩) n n] ∧ RowAt w' B n f := hd ⟨2, .data⟩ (by simp)
      have q2 : ρ (.func 18) = .func (.func 18) #[] #[] := hx _ (by simp)
      simp [execOp, q, q1, q2, YieldsG, go_sem]
      refine (E.out _ _ _ (rowAt_mono R5 hb) hB).mono ?_
      rintro e w'' ⟨rfl, b3⟩
      exact ⟨_, rfl, rfl, b3⟩
    · intro ρ w' hb hx hd ho
      have q : ρ (.tmp 41) = .bool true := hd ⟨3, .data⟩ (by simp)
      simp [execOp, q, YieldsG, go_sem, Op.unary, EqV]
      exact Below.refl _ _
    intro vs w6 hvs b6
    have h4 : vs 4 = .bool false := hvs 4 (by decide)
    clear hvs
    simp [putN, Act.put, h4]
    clear h4
    go_wp2_with fail
    go_ret
    exact ⟨rfl, below_trans bb5 b6⟩
end Go.Proofs.Ytpjonajpgidjfaa
