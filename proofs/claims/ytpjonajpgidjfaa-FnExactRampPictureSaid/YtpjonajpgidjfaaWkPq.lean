/-
  The walk of the law RampPicture. No condition.
-/
import Derived.Test.YtpjonajpgidjfaaRmq
namespace Go.Proofs.Ytpjonajpgidjfaa
set_option linter.unusedVariables false
open Go.RowKit Ieee

set_option maxRecDepth 10000 in
set_option maxHeartbeats 1000000 in
theorem law_RampPicture (wi hi : Int) (x y : Nat) (w : World) (_ : (Lit.int .i64 wi).wf = true) (_ : (Lit.int .i64 hi).wf = true) (hw : (Lit.float .f32 x).wf = true) (_ : (Lit.float .f32 y).wf = true) :
    Calls Try.prog 8 #[.int .i64 wi, .int .i64 hi, .float .f32 x, .float .f32 y] w fun e w' => e = .returned (.bool true) ∧ Below w.heap.size w w' := by
  obtain ⟨N, hN⟩ : ∃ N, N = (wi * hi).toNat := ⟨_, rfl⟩
  obtain ⟨P, cls, hT, s0, i0⟩ := ramp_both wi hi x y N hN hw
  have HT := Lib.hid hT
  clear hT hN
  cases hP : P with
  | false =>
    rw [hP] at s0 i0
    have S := Lib.hid (fun w => (s0 w).mono fun e w' h => outF h)
    have I := Lib.hid (fun w => (i0 w).mono fun e w' h => outF h)
    clear s0 i0 hP HT
    have EQ := Lib.hid eqN_c
    have MK := Lib.hid markN_c
    have HL := Lib.hid heldN_c
    unfold noPic at S I EQ MK HL
    go_enter Try.func8, Try.ntmps8
    go_wp2_with fail
    refine (S.out _).mono ?_; rintro e w1 ⟨rfl, b1⟩
    go_wp2_with fail
    have ba := (Below.refl w1.heap.size w1).alloc (Nat.le_refl _) (Obj.cells #[.int .i64 0, .int .i64 0, .slice none 0 0] 27)
    have h1 := Lib.hid (Has.ofAlloc w1 27 #[.int .i64 0, .int .i64 0, .slice none 0 0])
    have B1 := Lib.hid (below_trans b1 ba)
    clear b1 ba
    refine (I.out _).mono ?_; rintro e w2 ⟨rfl, b2⟩
    have ba := (Below.refl w2.heap.size w2).alloc (Nat.le_refl _) (Obj.cells #[.int .i64 0, .int .i64 0, .slice none 0 0] 27)
    have h2 := Lib.hid ((h1.out.low b2 h1.out.inside).low ba (h1.out.low b2 h1.out.inside).inside)
    have h3 := Lib.hid (Has.ofAlloc w2 27 #[.int .i64 0, .int .i64 0, .slice none 0 0])
    have B2 := Lib.hid (below_trans (below_trans B1.out b2) ba)
    clear b2 ba
    have c0 := h2.out.at 0
    have c1 := h2.out.at 1
    have c2 := h2.out.at 2
    simp at c0 c1 c2
    have d0 := h3.out.at 0
    have d1 := h3.out.at 1
    have d2 := h3.out.at 2
    simp at d0 d1 d2
    go_wp2_with fail
    refine (EQ.out _).mono ?_; rintro e w3 ⟨rfl, b3⟩
    have h4 := Lib.hid (h2.out.low b3 h2.out.inside)
    have h5 := Lib.hid (h3.out.low b3 h3.out.inside)
    have B3 := Lib.hid (below_trans B2.out b3)
    clear b3 c0 c1 c2 d0 d1 d2
    have d0 := h5.out.at 0
    have d1 := h5.out.at 1
    have d2 := h5.out.at 2
    simp at d0 d1 d2
    go_wp2_with fail
    refine (MK.out _).mono ?_; rintro e w4 ⟨rfl, b4⟩
    have h6 := Lib.hid (h4.out.low b4 h4.out.inside)
    have h7 := Lib.hid (h5.out.low b4 h5.out.inside)
    have B4 := Lib.hid (below_trans B3.out b4)
    clear b4 d0 d1 d2
    have d0 := h7.out.at 0
    have d1 := h7.out.at 1
    have d2 := h7.out.at 2
    simp at d0 d1 d2
    go_wp2_with fail
    refine (HL.out _).mono ?_; rintro e w5 ⟨rfl, b5⟩
    have h8 := Lib.hid (h6.out.low b5 h6.out.inside)
    have h9 := Lib.hid (h7.out.low b5 h7.out.inside)
    have B5 := Lib.hid (below_trans B4.out b5)
    clear b5 d0 d1 d2
    go_wp2_with fail
    refine (I.out _).mono ?_; rintro e w6 ⟨rfl, b6⟩
    have ba := (Below.refl w6.heap.size w6).alloc (Nat.le_refl _) (Obj.cells #[.int .i64 0, .int .i64 0, .slice none 0 0] 27)
    have h10 := Lib.hid ((h8.out.low b6 h8.out.inside).low ba (h8.out.low b6 h8.out.inside).inside)
    have h11 := Lib.hid ((h9.out.low b6 h9.out.inside).low ba (h9.out.low b6 h9.out.inside).inside)
    have B6 := Lib.hid (below_trans (below_trans B5.out b6) ba)
    clear b6 ba
    have c0 := h10.out.at 0
    have c1 := h10.out.at 1
    have c2 := h10.out.at 2
    simp at c0 c1 c2
    go_wp2_with fail
    refine (EQ.out _).mono ?_; rintro e w7 ⟨rfl, b7⟩
    have h12 := Lib.hid (h11.out.low b7 h11.out.inside)
    have B7 := Lib.hid (below_trans B6.out b7)
    clear b7 c0 c1 c2
    have d0 := h12.out.at 0
    have d1 := h12.out.at 1
    have d2 := h12.out.at 2
    simp at d0 d1 d2
    go_wp2_with fail
    refine (HL.out _).mono ?_; rintro e w8 ⟨rfl, b8⟩
    go_wp2_with fail
    go_ret
    exact ⟨rfl, below_trans B7.out b8⟩
  | true =>
    rw [hP] at s0 i0
    obtain ⟨h0, hN4⟩ := HT.out hP
    have S := Lib.hid (fun w => (s0 w).mono fun e w' h => outT h h0)
    have I := Lib.hid (fun w => (i0 w).mono fun e w' h => outT h h0)
    clear s0 i0 hP HT h0
    have EQ := Lib.hid (fun b1 b2 c1 c2 f1 f2 w h1 h2 h3 => eqPic_c wi hi b1 b2 N c1 c2 f1 f2 w (by omega) h1 h2 h3)
    have MK := Lib.hid (fun g c w h => markP_c wi hi g N c w (by omega) h)
    have HL := Lib.hid (fun g c w h => heldP_c wi hi g N c w (by omega) h)
    have hge : ¬ ((((1 + N : Nat)) : Int) < 0) := by omega
    unfold picV at EQ
    go_enter Try.func8, Try.ntmps8
    go_wp2_with fail
    refine (S.out _).mono ?_; rintro e w1 ⟨g0, c0, f0, rfl, l0, r0, q0, _, b1⟩
    have ba := (Below.refl w1.heap.size w1).alloc (Nat.le_refl _) (Obj.cells #[.int .i64 wi, .int .i64 hi, .slice (some ⟨g0, 0, none⟩) N c0] 27)
    have h1 := Lib.hid (Has.ofAlloc w1 27 #[.int .i64 wi, .int .i64 hi, .slice (some ⟨g0, 0, none⟩) N c0])
    have R1 := Lib.hid (rowAt_mono r0 ba)
    have Q0 := Lib.hid q0
    have B1 := Lib.hid (below_trans b1 ba)
    have K1 := Lib.hid r0.1
    clear b1 ba r0 q0 l0
    go_wp2_with fail
    refine (I.out _).mono ?_; rintro e w2 ⟨g1, c1, f1, rfl, l1, r1, q1, m1, b2⟩
    have ba := (Below.refl w2.heap.size w2).alloc (Nat.le_refl _) (Obj.cells #[.int .i64 wi, .int .i64 hi, .slice (some ⟨g1, 0, none⟩) N c1] 27)
    have h2 := Lib.hid ((h1.out.low b2 h1.out.inside).low ba (h1.out.low b2 h1.out.inside).inside)
    have h3 := Lib.hid (Has.ofAlloc w2 27 #[.int .i64 wi, .int .i64 hi, .slice (some ⟨g1, 0, none⟩) N c1])
    have R2 := Lib.hid (rowAt_mono (rowAt_mono R1.out b2) ba)
    have S2 := Lib.hid (rowAt_mono r1 ba)
    have M2 := Lib.hid (m1.low ba)
    have Q1 := Lib.hid q1
    have B2 := Lib.hid (below_trans (below_trans B1.out b2) ba)
    have ne01 : Hid (g0 ≠ g1) := by show g0 ≠ g1; have := K1.out; simp at l1; omega
    have neb : Hid (w1.heap.size ≠ g1 ∧ w2.heap.size ≠ g1) := by
      show _ ∧ _
      have := r1.1; simp at l1; omega
    have LW : Hid (w.heap.size ≤ g1) := by
      show _ ≤ _
      have := B1.out.size; omega
    clear b2 ba r1 q1 m1 l1
    have u0 := h2.out.at 0
    have u1 := h2.out.at 1
    have u2 := h2.out.at 2
    simp at u0 u1 u2
    have v0 := h3.out.at 0
    have v1 := h3.out.at 1
    have v2 := h3.out.at 2
    simp at v0 v1 v2
    go_wp2_with fail
    refine (EQ.out _ _ _ _ _ _ _ S2.out R2.out (fun i hi => by rw [Q1.out i hi, Q0.out i hi])).mono ?_; rintro e w3 ⟨rfl, b3⟩
    have h4 := Lib.hid (h2.out.low b3 h2.out.inside)
    have h5 := Lib.hid (h3.out.low b3 h3.out.inside)
    have R3 := Lib.hid (rowAt_mono R2.out b3)
    have M3 := Lib.hid (M2.out.low b3)
    have B3 := Lib.hid (below_trans B2.out b3)
    clear b3 u0 u1 u2 v0 v1 v2
    have v0 := h5.out.at 0
    have v1 := h5.out.at 1
    have v2 := h5.out.at 2
    simp at v0 v1 v2
    go_wp2_with fail
    refine (MK.out _ _ _ M3.out).mono ?_; rintro e w4 ⟨rfl, m4, g4⟩
    have h6 := Lib.hid (h4.out.kept g4 (fun h => neb.out.1 (Option.some.inj h)))
    have h7 := Lib.hid (h5.out.kept g4 (fun h => neb.out.2 (Option.some.inj h)))
    have R4 := Lib.hid (rowAt_kept R3.out g4 (fun h => ne01.out (Option.some.inj h)))
    have M4 := Lib.hid m4
    have B4 := Lib.hid (B3.out.grown g4 B3.out.size (fun q hq => by cases hq; exact LW.out))
    clear g4 m4 v0 v1 v2
    have v0 := h7.out.at 0
    have v1 := h7.out.at 1
    have v2 := h7.out.at 2
    simp at v0 v1 v2
    go_wp2_with fail
    refine (HL.out _ _ _ M4.out).mono ?_; rintro e w5 ⟨rfl, b5⟩
    have h8 := Lib.hid (h6.out.low b5 h6.out.inside)
    have h9 := Lib.hid (h7.out.low b5 h7.out.inside)
    have R5 := Lib.hid (rowAt_mono R4.out b5)
    have M5 := Lib.hid (M4.out.low b5)
    have B5 := Lib.hid (below_trans B4.out b5)
    clear b5 v0 v1 v2
    go_wp2_with fail
    refine (I.out _).mono ?_; rintro e w6 ⟨g2, c2, f2, rfl, l2, r2, q2, _, b6⟩
    have ba := (Below.refl w6.heap.size w6).alloc (Nat.le_refl _) (Obj.cells #[.int .i64 wi, .int .i64 hi, .slice (some ⟨g2, 0, none⟩) N c2] 27)
    have h10 := Lib.hid ((h8.out.low b6 h8.out.inside).low ba (h8.out.low b6 h8.out.inside).inside)
    have h11 := Lib.hid ((h9.out.low b6 h9.out.inside).low ba (h9.out.low b6 h9.out.inside).inside)
    have R6 := Lib.hid (rowAt_mono (rowAt_mono R5.out b6) ba)
    have M6 := Lib.hid ((M5.out.low b6).low ba)
    have S6 := Lib.hid (rowAt_mono r2 ba)
    have Q2 := Lib.hid q2
    have B6 := Lib.hid (below_trans (below_trans B5.out b6) ba)
    clear b6 ba r2 q2 l2
    have u0 := h10.out.at 0
    have u1 := h10.out.at 1
    have u2 := h10.out.at 2
    simp at u0 u1 u2
    go_wp2_with fail
    refine (EQ.out _ _ _ _ _ _ _ S6.out R6.out (fun i hi => by rw [Q2.out i hi, Q0.out i hi])).mono ?_; rintro e w7 ⟨rfl, b7⟩
    have h12 := Lib.hid (h11.out.low b7 h11.out.inside)
    have M7 := Lib.hid (M6.out.low b7)
    have B7 := Lib.hid (below_trans B6.out b7)
    clear b7 u0 u1 u2
    have v0 := h12.out.at 0
    have v1 := h12.out.at 1
    have v2 := h12.out.at 2
    simp at v0 v1 v2
    go_wp2_with fail
    refine (HL.out _ _ _ M7.out).mono ?_; rintro e w8 ⟨rfl, b8⟩
    go_wp2_with fail
    go_ret
    exact ⟨rfl, below_trans B7.out b8⟩
end Go.Proofs.Ytpjonajpgidjfaa
