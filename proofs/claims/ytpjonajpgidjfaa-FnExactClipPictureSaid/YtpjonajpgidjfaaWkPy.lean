/-
  The walk of the law ClipPicture. No condition.
-/
import Derived.Test.YtpjonajpgidjfaaBot
namespace Go.Proofs.Ytpjonajpgidjfaa
set_option linter.unusedVariables false
open Go.RowKit Ieee

set_option maxRecDepth 20000 in
set_option maxHeartbeats 8000000 in
theorem law_ClipPicture (wi hi : Int) (a : Option Addr) (n c : Nat) (f : Nat → Nat) (y z : Nat) (w : World) (hr : Row w a n c (fun i => .float .f32 (f i))) (hn : n ≤ 9223372036854775807) (hz : ∀ i, i < n → (Lit.float .f32 (f i)).wf = true) (wy : (Lit.float .f32 y).wf = true) (wz : (Lit.float .f32 z).wf = true) :
    Calls Try.prog 10 #[picV wi hi a n c, .float .f32 y, .float .f32 z] w fun e w' => e = .returned (.bool true) ∧ Below w.heap.size w w' := by
  have HR := Lib.hid hr
  have Z := Lib.hid (szPic_c wi hi a n c 1048576 (by omega) (by omega) hn)
  by_cases hlt : (1048576 : Int) < n
  · rw [if_pos hlt] at Z
    clear hr hn hlt hz wy wz
    unfold picV at Z ⊢
    go_enter Try.func10, Try.ntmps10
    go_wp2_with fail
    refine (Z.out _).mono ?_; rintro e w1 ⟨rfl, b1⟩
    go_wp2_with fail
    go_ret
    exact ⟨rfl, ((Below.refl _ _).alloc (Nat.le_refl _) _).trans (b1.mono (by simp))⟩
  have hn1 : n ≤ 1048576 := by omega
  have hge : ¬ (1048576 : Int) - n < 0 := by omega
  rw [if_neg hlt] at Z
  have T := Lib.hid (fun w hr => toPicM_c wi hi a n c f w hr hn1)
  have TT := Lib.hid (fun w hr => toPic_c wi hi a n c f w hr hn1)
  have E := Lib.hid (fun b1 b2 w h1 h2 => eqPic_c wi hi b1 b2 n n n f f w hn1 h1 h2 (fun _ _ => rfl))
  obtain ⟨P, cls, hT, s0, i0⟩ := clip_both wi hi n f y z hn1 hz wy wz
  have HT := Lib.hid hT
  clear hT wy wz
  unfold picV at TT
  cases hP : P with
  | false =>
    rw [hP] at s0 i0
    have S := Lib.hid (fun b w hr => (s0 b w hr).mono fun e w' h => outF h)
    have I := Lib.hid (fun b w hr => (i0 b w hr).mono fun e w' h => outF h)
    have EQ := Lib.hid eqN_c
    have MK0 := Lib.hid markN_c
    have HL := Lib.hid heldN_c
    have MK := Lib.hid (fun g c w h => markP_c wi hi g n c w hn1 h)
    have hge2 : ¬ ((((1 + n : Nat)) : Int) < 0) := by omega
    clear hr hn hlt hz s0 i0 hP HT
    unfold picV at Z T E  ⊢
    unfold noPic at S I EQ MK0 HL
    go_enter Try.func10, Try.ntmps10
    go_wp2_with fail
    refine (Z.out _).mono ?_; rintro e w1 ⟨rfl, b1⟩
    have p_1 := Lib.hid (Has.low (Has.ofAlloc w 24 #[.int .i64 wi, .int .i64 hi, .slice a n c]) b1 (by simp))
    have BB_2 := Lib.hid (below_trans ((Below.refl w.heap.size w).alloc (Nat.le_refl _) _) b1)
    clear b1
    have u0 := p_1.out.at 0
    have u1 := p_1.out.at 1
    have u2 := p_1.out.at 2
    simp at u0 u1 u2
    go_wp2_with fail
    refine (T.out _ (row_mono HR.out BB_2.out)).mono ?_; rintro e w2 ⟨P1, rfl, l_P1, g_P1, b_P1, r_P1, m_P1⟩
    clear u0 u1 u2
    have R1 := Lib.hid (show RowAt w2 P1 n f from ⟨g_P1, r_P1⟩)
    have p_3 := Lib.hid (p_1.out.low b_P1 p_1.out.inside)
    have BB_4 := Lib.hid (below_trans BB_2.out b_P1)
    clear l_P1 g_P1 b_P1 r_P1 m_P1
    unfold picV
    go_wp2_with fail
    refine (S.out _ _ R1.out).mono ?_; rintro e w3 ⟨rfl, b0⟩
    have p_5 := Lib.hid (p_3.out.low b0 p_3.out.inside)
    have BB_6 := Lib.hid (below_trans BB_4.out b0)
    clear b0
    have ba := (Below.refl w3.heap.size w3).alloc (Nat.le_refl _) (Obj.cells #[.int .i64 0, .int .i64 0, .slice none 0 0] 27)
    have p_7 := Lib.hid (p_5.out.low ba p_5.out.inside)
    have BB_8 := Lib.hid (below_trans BB_6.out ba)
    have b0_9 := Lib.hid (Has.ofAlloc w3 27 #[.int .i64 0, .int .i64 0, .slice none 0 0])
    clear ba
    have u0 := p_7.out.at 0
    have u1 := p_7.out.at 1
    have u2 := p_7.out.at 2
    simp at u0 u1 u2
    go_wp2_with fail
    refine (T.out _ (row_mono HR.out BB_8.out)).mono ?_; rintro e w4 ⟨P2, rfl, l_P2, g_P2, b_P2, r_P2, m_P2⟩
    clear u0 u1 u2
    have NE_p_P2 : Hid (w.heap.size ≠ P2) := by show _ ≠ _; have := p_7.out.inside; omega
    have NE_b0_P2 : Hid (w3.heap.size ≠ P2) := by show _ ≠ _; have := b0_9.out.inside; omega
    have LW_P2 : Hid (w.heap.size ≤ P2) := by show _ ≤ _; have := BB_8.out.size; omega
    have p_10 := Lib.hid (p_7.out.low b_P2 p_7.out.inside)
    have BB_11 := Lib.hid (below_trans BB_8.out b_P2)
    have b0_12 := Lib.hid (b0_9.out.low b_P2 b0_9.out.inside)
    have rx_13 := Lib.hid (show RowAt w4 P2 n f from ⟨g_P2, r_P2⟩)
    have mx_14 := Lib.hid (m_P2)
    clear l_P2 g_P2 b_P2 r_P2 m_P2
    unfold picV
    go_wp2_with fail
    have ba := (Below.refl w4.heap.size w4).alloc (Nat.le_refl _) (Obj.cells #[.int .i64 wi, .int .i64 hi, .slice (some ⟨P2, 0, none⟩) n n] 27)
    have NE_bx_P2 : Hid (w4.heap.size ≠ P2) := by show _ ≠ _; have := rx_13.out.1; omega
    have p_15 := Lib.hid (p_10.out.low ba p_10.out.inside)
    have BB_16 := Lib.hid (below_trans BB_11.out ba)
    have b0_17 := Lib.hid (b0_12.out.low ba b0_12.out.inside)
    have rx_18 := Lib.hid (rowAt_mono rx_13.out ba)
    have mx_19 := Lib.hid (mx_14.out.low ba)
    have bx_20 := Lib.hid (Has.ofAlloc w4 27 #[.int .i64 wi, .int .i64 hi, .slice (some ⟨P2, 0, none⟩) n n])
    clear ba
    refine (I.out _ _ rx_18.out).mono ?_; rintro e w5 ⟨rfl, b1⟩
    have p_21 := Lib.hid (p_15.out.low b1 p_15.out.inside)
    have BB_22 := Lib.hid (below_trans BB_16.out b1)
    have b0_23 := Lib.hid (b0_17.out.low b1 b0_17.out.inside)
    have rx_24 := Lib.hid (rowAt_mono rx_18.out b1)
    have mx_25 := Lib.hid (mx_19.out.low b1)
    have bx_26 := Lib.hid (bx_20.out.low b1 bx_20.out.inside)
    clear b1
    have ba := (Below.refl w5.heap.size w5).alloc (Nat.le_refl _) (Obj.cells #[.int .i64 0, .int .i64 0, .slice none 0 0] 27)
    have NE_b1_P2 : Hid (w5.heap.size ≠ P2) := by show _ ≠ _; have := rx_24.out.1; omega
    have p_27 := Lib.hid (p_21.out.low ba p_21.out.inside)
    have BB_28 := Lib.hid (below_trans BB_22.out ba)
    have b0_29 := Lib.hid (b0_23.out.low ba b0_23.out.inside)
    have rx_30 := Lib.hid (rowAt_mono rx_24.out ba)
    have mx_31 := Lib.hid (mx_25.out.low ba)
    have bx_32 := Lib.hid (bx_26.out.low ba bx_26.out.inside)
    have b1_33 := Lib.hid (Has.ofAlloc w5 27 #[.int .i64 0, .int .i64 0, .slice none 0 0])
    clear ba
    have u0 := b1_33.out.at 0
    have u1 := b1_33.out.at 1
    have u2 := b1_33.out.at 2
    simp at u0 u1 u2
    have v0 := b0_29.out.at 0
    have v1 := b0_29.out.at 1
    have v2 := b0_29.out.at 2
    simp at v0 v1 v2
    go_wp2_with fail
    refine (EQ.out _).mono ?_; rintro e w6 ⟨rfl, bq⟩
    clear u0 u1 u2 v0 v1 v2
    have p_34 := Lib.hid (p_27.out.low bq p_27.out.inside)
    have BB_35 := Lib.hid (below_trans BB_28.out bq)
    have b0_36 := Lib.hid (b0_29.out.low bq b0_29.out.inside)
    have rx_37 := Lib.hid (rowAt_mono rx_30.out bq)
    have mx_38 := Lib.hid (mx_31.out.low bq)
    have bx_39 := Lib.hid (bx_32.out.low bq bx_32.out.inside)
    have b1_40 := Lib.hid (b1_33.out.low bq b1_33.out.inside)
    clear bq
    have e0 := bx_39.out.at 0
    have e1 := bx_39.out.at 1
    have e2 := bx_39.out.at 2
    simp at e0 e1 e2
    have d0 := p_34.out.at 0
    have d1 := p_34.out.at 1
    have d2 := p_34.out.at 2
    simp at d0 d1 d2
    have RW := row_mono HR.out BB_35.out
    have RX := rx_37.out
    go_wp2_with fail
    refine wp_region_grow_lit (fun w' => Below w6.heap.size w6 w') (EqV (.agg #[.int .i64 wi, .int .i64 hi, .slice (some ⟨P2, 0, none⟩) n n]) (.agg #[.int .i64 wi, .int .i64 hi, .slice a n c]) wi hi n f) (eqV_stays _ _ _ _ _ _ _) (by kernel_rfl) (by kernel_rfl) (by first | exact below_drewN (Below.refl _ _) 1 | exact below_drewN (below_drewN (Below.refl _ _) _) 1) ⟨?_, ?_, ?_, ?_, ?_, trivial⟩ ?_
    · intro ρ w' hb hx hd ho
      have q : ρ (.tmp 10) = _ := ho 10 (out_of (by kernel_rfl))
      have f0 := (bcell hb _ _ (heap_lt e0)).trans e0
      have f1 := (bcell hb _ _ (heap_lt e1)).trans e1
      have f2 := (bcell hb _ _ (heap_lt e2)).trans e2
      simp [execOp, q, YieldsG, go_sem, Act.eval, f0, f1, f2, EqV]
      exact Below.refl _ _
    · intro ρ w' hb hx hd ho
      have q : ρ (.tmp 3) = _ := ho 3 (out_of (by kernel_rfl))
      have f0 := (bcell hb _ _ (heap_lt d0)).trans d0
      have f1 := (bcell hb _ _ (heap_lt d1)).trans d1
      have f2 := (bcell hb _ _ (heap_lt d2)).trans d2
      simp [execOp, q, YieldsG, go_sem, Act.eval, f0, f1, f2, EqV]
      exact Below.refl _ _
    · intro ρ w' hb hx hd ho
      have q : ρ (.tmp 50) = (.agg #[.int .i64 wi, .int .i64 hi, .slice a n c]) := hd ⟨1, .data⟩ (by simp)
      have q2 : ρ (.func 16) = .func (.func 16) #[] #[] := hx _ (by simp)
      simp [execOp, q, q2, YieldsG, go_sem]
      refine (TT.out _ (row_mono RW hb)).mono ?_
      rintro e w'' ⟨B, rfl, l3, g3, b3, r3⟩
      exact ⟨_, rfl, ⟨B, rfl, g3, r3⟩, b3⟩
    · intro ρ w' hb hx hd ho
      have q : ρ (.tmp 49) = (.agg #[.int .i64 wi, .int .i64 hi, .slice (some ⟨P2, 0, none⟩) n n]) := hd ⟨0, .data⟩ (by simp)
      obtain ⟨B, q1, hB⟩ : ∃ B, ρ (.tmp 51) = .agg #[.int .i64 wi, .int .i64 hi, .slice (some ⟨B, 0, none⟩) n n] ∧ RowAt w' B n f := hd ⟨2, .data⟩ (by simp)
      have q2 : ρ (.func 18) = .func (.func 18) #[] #[] := hx _ (by simp)
      simp [execOp, q, q1, q2, YieldsG, go_sem]
      refine (E.out _ _ _ (rowAt_mono RX hb) hB).mono ?_
      rintro e w'' ⟨rfl, b3⟩
      exact ⟨_, rfl, rfl, b3⟩
    · intro ρ w' hb hx hd ho
      have q : ρ (.tmp 52) = .bool true := hd ⟨3, .data⟩ (by simp)
      simp [execOp, q, YieldsG, go_sem, Op.unary, EqV]
      exact Below.refl _ _
    intro vs w7 hvs b7
    have h4 : vs 4 = .bool false := hvs 4 (by decide)
    clear hvs
    simp [putN, Act.put, h4]
    clear h4
    clear RW RX
    clear e0 e1 e2 d0 d1 d2
    have p_41 := Lib.hid (p_34.out.low b7 p_34.out.inside)
    have BB_42 := Lib.hid (below_trans BB_35.out b7)
    have b0_43 := Lib.hid (b0_36.out.low b7 b0_36.out.inside)
    have rx_44 := Lib.hid (rowAt_mono rx_37.out b7)
    have mx_45 := Lib.hid (mx_38.out.low b7)
    have bx_46 := Lib.hid (bx_39.out.low b7 bx_39.out.inside)
    have b1_47 := Lib.hid (b1_40.out.low b7 b1_40.out.inside)
    clear b7
    have u0 := bx_46.out.at 0
    have u1 := bx_46.out.at 1
    have u2 := bx_46.out.at 2
    simp at u0 u1 u2
    go_wp2_with fail
    refine (MK.out _ _ _ mx_45.out).mono ?_; rintro e w8 ⟨rfl, _, gm⟩
    clear u0 u1 u2
    have p_48 := Lib.hid (p_41.out.kept gm (fun h => NE_p_P2.out (Option.some.inj h)))
    have BB_49 := Lib.hid (BB_42.out.grown gm BB_42.out.size (fun q hq => by cases hq; exact LW_P2.out))
    have b0_50 := Lib.hid (b0_43.out.kept gm (fun h => NE_b0_P2.out (Option.some.inj h)))
    have bx_51 := Lib.hid (bx_46.out.kept gm (fun h => NE_bx_P2.out (Option.some.inj h)))
    have b1_52 := Lib.hid (b1_47.out.kept gm (fun h => NE_b1_P2.out (Option.some.inj h)))
    clear gm
    have u0 := b1_52.out.at 0
    have u1 := b1_52.out.at 1
    have u2 := b1_52.out.at 2
    simp at u0 u1 u2
    have v0 := b0_50.out.at 0
    have v1 := b0_50.out.at 1
    have v2 := b0_50.out.at 2
    simp at v0 v1 v2
    go_wp2_with fail
    refine (EQ.out _).mono ?_; rintro e w9 ⟨rfl, bq⟩
    clear u0 u1 u2 v0 v1 v2
    have p_53 := Lib.hid (p_48.out.low bq p_48.out.inside)
    have BB_54 := Lib.hid (below_trans BB_49.out bq)
    have b0_55 := Lib.hid (b0_50.out.low bq b0_50.out.inside)
    have bx_56 := Lib.hid (bx_51.out.low bq bx_51.out.inside)
    have b1_57 := Lib.hid (b1_52.out.low bq b1_52.out.inside)
    clear bq
    have u0 := b1_57.out.at 0
    have u1 := b1_57.out.at 1
    have u2 := b1_57.out.at 2
    simp at u0 u1 u2
    go_wp2_with fail
    refine (MK0.out _).mono ?_; rintro e w10 ⟨rfl, bq⟩
    clear u0 u1 u2
    have p_58 := Lib.hid (p_53.out.low bq p_53.out.inside)
    have BB_59 := Lib.hid (below_trans BB_54.out bq)
    have b0_60 := Lib.hid (b0_55.out.low bq b0_55.out.inside)
    have bx_61 := Lib.hid (bx_56.out.low bq bx_56.out.inside)
    have b1_62 := Lib.hid (b1_57.out.low bq b1_57.out.inside)
    clear bq
    have u0 := b1_62.out.at 0
    have u1 := b1_62.out.at 1
    have u2 := b1_62.out.at 2
    simp at u0 u1 u2
    go_wp2_with fail
    refine (HL.out _).mono ?_; rintro e w11 ⟨rfl, bq⟩
    clear u0 u1 u2
    have p_63 := Lib.hid (p_58.out.low bq p_58.out.inside)
    have BB_64 := Lib.hid (below_trans BB_59.out bq)
    have b0_65 := Lib.hid (b0_60.out.low bq b0_60.out.inside)
    have bx_66 := Lib.hid (bx_61.out.low bq bx_61.out.inside)
    have b1_67 := Lib.hid (b1_62.out.low bq b1_62.out.inside)
    clear bq
    have u0 := p_63.out.at 0
    have u1 := p_63.out.at 1
    have u2 := p_63.out.at 2
    simp at u0 u1 u2
    go_wp2_with fail
    refine (T.out _ (row_mono HR.out BB_64.out)).mono ?_; rintro e w12 ⟨P3, rfl, l_P3, g_P3, b_P3, r_P3, m_P3⟩
    clear u0 u1 u2
    have R3 := Lib.hid (show RowAt w12 P3 n f from ⟨g_P3, r_P3⟩)
    have p_68 := Lib.hid (p_63.out.low b_P3 p_63.out.inside)
    have BB_69 := Lib.hid (below_trans BB_64.out b_P3)
    have b0_70 := Lib.hid (b0_65.out.low b_P3 b0_65.out.inside)
    have bx_71 := Lib.hid (bx_66.out.low b_P3 bx_66.out.inside)
    have b1_72 := Lib.hid (b1_67.out.low b_P3 b1_67.out.inside)
    clear l_P3 g_P3 b_P3 r_P3 m_P3
    unfold picV
    go_wp2_with fail
    refine (I.out _ _ R3.out).mono ?_; rintro e w13 ⟨rfl, b2⟩
    have p_73 := Lib.hid (p_68.out.low b2 p_68.out.inside)
    have BB_74 := Lib.hid (below_trans BB_69.out b2)
    have b0_75 := Lib.hid (b0_70.out.low b2 b0_70.out.inside)
    have bx_76 := Lib.hid (bx_71.out.low b2 bx_71.out.inside)
    have b1_77 := Lib.hid (b1_72.out.low b2 b1_72.out.inside)
    clear b2
    have ba := (Below.refl w13.heap.size w13).alloc (Nat.le_refl _) (Obj.cells #[.int .i64 0, .int .i64 0, .slice none 0 0] 27)
    have p_78 := Lib.hid (p_73.out.low ba p_73.out.inside)
    have BB_79 := Lib.hid (below_trans BB_74.out ba)
    have b0_80 := Lib.hid (b0_75.out.low ba b0_75.out.inside)
    have bx_81 := Lib.hid (bx_76.out.low ba bx_76.out.inside)
    have b1_82 := Lib.hid (b1_77.out.low ba b1_77.out.inside)
    have b2_83 := Lib.hid (Has.ofAlloc w13 27 #[.int .i64 0, .int .i64 0, .slice none 0 0])
    clear ba
    have u0 := b2_83.out.at 0
    have u1 := b2_83.out.at 1
    have u2 := b2_83.out.at 2
    simp at u0 u1 u2
    have v0 := b0_80.out.at 0
    have v1 := b0_80.out.at 1
    have v2 := b0_80.out.at 2
    simp at v0 v1 v2
    go_wp2_with fail
    refine (EQ.out _).mono ?_; rintro e w14 ⟨rfl, bq⟩
    clear u0 u1 u2 v0 v1 v2
    have p_84 := Lib.hid (p_78.out.low bq p_78.out.inside)
    have BB_85 := Lib.hid (below_trans BB_79.out bq)
    have b0_86 := Lib.hid (b0_80.out.low bq b0_80.out.inside)
    have bx_87 := Lib.hid (bx_81.out.low bq bx_81.out.inside)
    have b1_88 := Lib.hid (b1_82.out.low bq b1_82.out.inside)
    have b2_89 := Lib.hid (b2_83.out.low bq b2_83.out.inside)
    clear bq
    have u0 := b1_88.out.at 0
    have u1 := b1_88.out.at 1
    have u2 := b1_88.out.at 2
    simp at u0 u1 u2
    go_wp2_with fail
    refine (HL.out _).mono ?_; rintro e w15 ⟨rfl, bq⟩
    clear u0 u1 u2
    have p_90 := Lib.hid (p_84.out.low bq p_84.out.inside)
    have BB_91 := Lib.hid (below_trans BB_85.out bq)
    have b0_92 := Lib.hid (b0_86.out.low bq b0_86.out.inside)
    have bx_93 := Lib.hid (bx_87.out.low bq bx_87.out.inside)
    have b1_94 := Lib.hid (b1_88.out.low bq b1_88.out.inside)
    have b2_95 := Lib.hid (b2_89.out.low bq b2_89.out.inside)
    clear bq
    go_wp2_with fail
    go_ret
    exact ⟨rfl, BB_91.out⟩
  | true =>
    rw [hP] at s0 i0
    obtain ⟨h0, hN4⟩ := HT.out hP
    have S := Lib.hid (fun b w hr => (s0 b w hr).mono fun e w' h => outT h h0)
    have I := Lib.hid (fun b w hr => (i0 b w hr).mono fun e w' h => outT h h0)
    have EQ := Lib.hid (fun b1 b2 c1 c2 f1 f2 w h1 h2 h3 => eqPic_c wi hi b1 b2 n c1 c2 f1 f2 w hn1 h1 h2 h3)
    have HL := Lib.hid (fun g c w h => heldP_c wi hi g n c w hn1 h)
    have MK := Lib.hid (fun g c w h => markP_c wi hi g n c w hn1 h)
    have hge2 : ¬ ((((1 + n : Nat)) : Int) < 0) := by omega
    clear hr hn hlt hz s0 i0 hP HT
    unfold picV at Z T E EQ ⊢
    go_enter Try.func10, Try.ntmps10
    go_wp2_with fail
    refine (Z.out _).mono ?_; rintro e w1 ⟨rfl, b1⟩
    have p_1 := Lib.hid (Has.low (Has.ofAlloc w 24 #[.int .i64 wi, .int .i64 hi, .slice a n c]) b1 (by simp))
    have BB_2 := Lib.hid (below_trans ((Below.refl w.heap.size w).alloc (Nat.le_refl _) _) b1)
    clear b1
    have u0 := p_1.out.at 0
    have u1 := p_1.out.at 1
    have u2 := p_1.out.at 2
    simp at u0 u1 u2
    go_wp2_with fail
    refine (T.out _ (row_mono HR.out BB_2.out)).mono ?_; rintro e w2 ⟨P1, rfl, l_P1, g_P1, b_P1, r_P1, m_P1⟩
    clear u0 u1 u2
    have R1 := Lib.hid (show RowAt w2 P1 n f from ⟨g_P1, r_P1⟩)
    have p_3 := Lib.hid (p_1.out.low b_P1 p_1.out.inside)
    have BB_4 := Lib.hid (below_trans BB_2.out b_P1)
    clear l_P1 g_P1 b_P1 r_P1 m_P1
    unfold picV
    go_wp2_with fail
    refine (S.out _ _ R1.out).mono ?_; rintro e w3 ⟨g0, k0, f0, rfl, l0, r0, q0, _, b0⟩
    have p_5 := Lib.hid (p_3.out.low b0 p_3.out.inside)
    have BB_6 := Lib.hid (below_trans BB_4.out b0)
    have r0_7 := Lib.hid (r0)
    have Q0 := Lib.hid q0
    clear l0 r0 q0 b0
    have ba := (Below.refl w3.heap.size w3).alloc (Nat.le_refl _) (Obj.cells #[.int .i64 wi, .int .i64 hi, .slice (some ⟨g0, 0, none⟩) n k0] 27)
    have p_8 := Lib.hid (p_5.out.low ba p_5.out.inside)
    have BB_9 := Lib.hid (below_trans BB_6.out ba)
    have r0_10 := Lib.hid (rowAt_mono r0_7.out ba)
    have b0_11 := Lib.hid (Has.ofAlloc w3 27 #[.int .i64 wi, .int .i64 hi, .slice (some ⟨g0, 0, none⟩) n k0])
    clear ba
    have u0 := p_8.out.at 0
    have u1 := p_8.out.at 1
    have u2 := p_8.out.at 2
    simp at u0 u1 u2
    go_wp2_with fail
    refine (T.out _ (row_mono HR.out BB_9.out)).mono ?_; rintro e w4 ⟨P2, rfl, l_P2, g_P2, b_P2, r_P2, m_P2⟩
    clear u0 u1 u2
    have NE_p_P2 : Hid (w.heap.size ≠ P2) := by show _ ≠ _; have := p_8.out.inside; omega
    have NE_r0_P2 : Hid (g0 ≠ P2) := by show _ ≠ _; have := r0_10.out.1; omega
    have NE_b0_P2 : Hid (w3.heap.size ≠ P2) := by show _ ≠ _; have := b0_11.out.inside; omega
    have LW_P2 : Hid (w.heap.size ≤ P2) := by show _ ≤ _; have := BB_9.out.size; omega
    have p_12 := Lib.hid (p_8.out.low b_P2 p_8.out.inside)
    have BB_13 := Lib.hid (below_trans BB_9.out b_P2)
    have r0_14 := Lib.hid (rowAt_mono r0_10.out b_P2)
    have b0_15 := Lib.hid (b0_11.out.low b_P2 b0_11.out.inside)
    have rx_16 := Lib.hid (show RowAt w4 P2 n f from ⟨g_P2, r_P2⟩)
    have mx_17 := Lib.hid (m_P2)
    clear l_P2 g_P2 b_P2 r_P2 m_P2
    unfold picV
    go_wp2_with fail
    have ba := (Below.refl w4.heap.size w4).alloc (Nat.le_refl _) (Obj.cells #[.int .i64 wi, .int .i64 hi, .slice (some ⟨P2, 0, none⟩) n n] 27)
    have NE_bx_P2 : Hid (w4.heap.size ≠ P2) := by show _ ≠ _; have := rx_16.out.1; omega
    have p_18 := Lib.hid (p_12.out.low ba p_12.out.inside)
    have BB_19 := Lib.hid (below_trans BB_13.out ba)
    have r0_20 := Lib.hid (rowAt_mono r0_14.out ba)
    have b0_21 := Lib.hid (b0_15.out.low ba b0_15.out.inside)
    have rx_22 := Lib.hid (rowAt_mono rx_16.out ba)
    have mx_23 := Lib.hid (mx_17.out.low ba)
    have bx_24 := Lib.hid (Has.ofAlloc w4 27 #[.int .i64 wi, .int .i64 hi, .slice (some ⟨P2, 0, none⟩) n n])
    clear ba
    refine (I.out _ _ rx_22.out).mono ?_; rintro e w5 ⟨g1, k1, f1, rfl, l1, r1, q1, m1, b1⟩
    have NE_p_g1 : Hid (w.heap.size ≠ g1) := by show _ ≠ _; have := p_18.out.inside; omega
    have NE_r0_g1 : Hid (g0 ≠ g1) := by show _ ≠ _; have := r0_20.out.1; omega
    have NE_b0_g1 : Hid (w3.heap.size ≠ g1) := by show _ ≠ _; have := b0_21.out.inside; omega
    have NE_rx_g1 : Hid (P2 ≠ g1) := by show _ ≠ _; have := rx_22.out.1; omega
    have NE_bx_g1 : Hid (w4.heap.size ≠ g1) := by show _ ≠ _; have := bx_24.out.inside; omega
    have NE_g1_P2 : Hid (g1 ≠ P2) := by show _ ≠ _; have := rx_22.out.1; omega
    have NE_r1_P2 := NE_g1_P2
    have NE_m1_P2 := NE_g1_P2
    have LW_g1 : Hid (w.heap.size ≤ g1) := by show _ ≤ _; have := BB_19.out.size; omega
    have p_25 := Lib.hid (p_18.out.low b1 p_18.out.inside)
    have BB_26 := Lib.hid (below_trans BB_19.out b1)
    have r0_27 := Lib.hid (rowAt_mono r0_20.out b1)
    have b0_28 := Lib.hid (b0_21.out.low b1 b0_21.out.inside)
    have rx_29 := Lib.hid (rowAt_mono rx_22.out b1)
    have mx_30 := Lib.hid (mx_23.out.low b1)
    have bx_31 := Lib.hid (bx_24.out.low b1 bx_24.out.inside)
    have r1_32 := Lib.hid (r1)
    have m1_33 := Lib.hid (m1)
    have Q1 := Lib.hid q1
    clear l1 r1 q1 m1 b1
    have ba := (Below.refl w5.heap.size w5).alloc (Nat.le_refl _) (Obj.cells #[.int .i64 wi, .int .i64 hi, .slice (some ⟨g1, 0, none⟩) n k1] 27)
    have NE_b1_P2 : Hid (w5.heap.size ≠ P2) := by show _ ≠ _; have := rx_29.out.1; omega
    have NE_b1_g1 : Hid (w5.heap.size ≠ g1) := by show _ ≠ _; have := r1_32.out.1; omega
    have p_34 := Lib.hid (p_25.out.low ba p_25.out.inside)
    have BB_35 := Lib.hid (below_trans BB_26.out ba)
    have r0_36 := Lib.hid (rowAt_mono r0_27.out ba)
    have b0_37 := Lib.hid (b0_28.out.low ba b0_28.out.inside)
    have rx_38 := Lib.hid (rowAt_mono rx_29.out ba)
    have mx_39 := Lib.hid (mx_30.out.low ba)
    have bx_40 := Lib.hid (bx_31.out.low ba bx_31.out.inside)
    have r1_41 := Lib.hid (rowAt_mono r1_32.out ba)
    have m1_42 := Lib.hid (m1_33.out.low ba)
    have b1_43 := Lib.hid (Has.ofAlloc w5 27 #[.int .i64 wi, .int .i64 hi, .slice (some ⟨g1, 0, none⟩) n k1])
    clear ba
    have u0 := b1_43.out.at 0
    have u1 := b1_43.out.at 1
    have u2 := b1_43.out.at 2
    simp at u0 u1 u2
    have v0 := b0_37.out.at 0
    have v1 := b0_37.out.at 1
    have v2 := b0_37.out.at 2
    simp at v0 v1 v2
    go_wp2_with fail
    refine (EQ.out _ _ _ _ _ _ _ r1_41.out r0_36.out (fun i hi => by rw [Q1.out i hi, Q0.out i hi])).mono ?_; rintro e w6 ⟨rfl, bq⟩
    clear u0 u1 u2 v0 v1 v2
    have p_44 := Lib.hid (p_34.out.low bq p_34.out.inside)
    have BB_45 := Lib.hid (below_trans BB_35.out bq)
    have r0_46 := Lib.hid (rowAt_mono r0_36.out bq)
    have b0_47 := Lib.hid (b0_37.out.low bq b0_37.out.inside)
    have rx_48 := Lib.hid (rowAt_mono rx_38.out bq)
    have mx_49 := Lib.hid (mx_39.out.low bq)
    have bx_50 := Lib.hid (bx_40.out.low bq bx_40.out.inside)
    have r1_51 := Lib.hid (rowAt_mono r1_41.out bq)
    have m1_52 := Lib.hid (m1_42.out.low bq)
    have b1_53 := Lib.hid (b1_43.out.low bq b1_43.out.inside)
    clear bq
    have e0 := bx_50.out.at 0
    have e1 := bx_50.out.at 1
    have e2 := bx_50.out.at 2
    simp at e0 e1 e2
    have d0 := p_44.out.at 0
    have d1 := p_44.out.at 1
    have d2 := p_44.out.at 2
    simp at d0 d1 d2
    have RW := row_mono HR.out BB_45.out
    have RX := rx_48.out
    go_wp2_with fail
    refine wp_region_grow_lit (fun w' => Below w6.heap.size w6 w') (EqV (.agg #[.int .i64 wi, .int .i64 hi, .slice (some ⟨P2, 0, none⟩) n n]) (.agg #[.int .i64 wi, .int .i64 hi, .slice a n c]) wi hi n f) (eqV_stays _ _ _ _ _ _ _) (by kernel_rfl) (by kernel_rfl) (by first | exact below_drewN (Below.refl _ _) 1 | exact below_drewN (below_drewN (Below.refl _ _) _) 1) ⟨?_, ?_, ?_, ?_, ?_, trivial⟩ ?_
    · intro ρ w' hb hx hd ho
      have q : ρ (.tmp 10) = _ := ho 10 (out_of (by kernel_rfl))
      have f0 := (bcell hb _ _ (heap_lt e0)).trans e0
      have f1 := (bcell hb _ _ (heap_lt e1)).trans e1
      have f2 := (bcell hb _ _ (heap_lt e2)).trans e2
      simp [execOp, q, YieldsG, go_sem, Act.eval, f0, f1, f2, EqV]
      exact Below.refl _ _
    · intro ρ w' hb hx hd ho
      have q : ρ (.tmp 3) = _ := ho 3 (out_of (by kernel_rfl))
      have f0 := (bcell hb _ _ (heap_lt d0)).trans d0
      have f1 := (bcell hb _ _ (heap_lt d1)).trans d1
      have f2 := (bcell hb _ _ (heap_lt d2)).trans d2
      simp [execOp, q, YieldsG, go_sem, Act.eval, f0, f1, f2, EqV]
      exact Below.refl _ _
    · intro ρ w' hb hx hd ho
      have q : ρ (.tmp 50) = (.agg #[.int .i64 wi, .int .i64 hi, .slice a n c]) := hd ⟨1, .data⟩ (by simp)
      have q2 : ρ (.func 16) = .func (.func 16) #[] #[] := hx _ (by simp)
      simp [execOp, q, q2, YieldsG, go_sem]
      refine (TT.out _ (row_mono RW hb)).mono ?_
      rintro e w'' ⟨B, rfl, l3, g3, b3, r3⟩
      exact ⟨_, rfl, ⟨B, rfl, g3, r3⟩, b3⟩
    · intro ρ w' hb hx hd ho
      have q : ρ (.tmp 49) = (.agg #[.int .i64 wi, .int .i64 hi, .slice (some ⟨P2, 0, none⟩) n n]) := hd ⟨0, .data⟩ (by simp)
      obtain ⟨B, q1, hB⟩ : ∃ B, ρ (.tmp 51) = .agg #[.int .i64 wi, .int .i64 hi, .slice (some ⟨B, 0, none⟩) n n] ∧ RowAt w' B n f := hd ⟨2, .data⟩ (by simp)
      have q2 : ρ (.func 18) = .func (.func 18) #[] #[] := hx _ (by simp)
      simp [execOp, q, q1, q2, YieldsG, go_sem]
      refine (E.out _ _ _ (rowAt_mono RX hb) hB).mono ?_
      rintro e w'' ⟨rfl, b3⟩
      exact ⟨_, rfl, rfl, b3⟩
    · intro ρ w' hb hx hd ho
      have q : ρ (.tmp 52) = .bool true := hd ⟨3, .data⟩ (by simp)
      simp [execOp, q, YieldsG, go_sem, Op.unary, EqV]
      exact Below.refl _ _
    intro vs w7 hvs b7
    have h4 : vs 4 = .bool false := hvs 4 (by decide)
    clear hvs
    simp [putN, Act.put, h4]
    clear h4
    clear RW RX
    clear e0 e1 e2 d0 d1 d2
    have p_54 := Lib.hid (p_44.out.low b7 p_44.out.inside)
    have BB_55 := Lib.hid (below_trans BB_45.out b7)
    have r0_56 := Lib.hid (rowAt_mono r0_46.out b7)
    have b0_57 := Lib.hid (b0_47.out.low b7 b0_47.out.inside)
    have rx_58 := Lib.hid (rowAt_mono rx_48.out b7)
    have mx_59 := Lib.hid (mx_49.out.low b7)
    have bx_60 := Lib.hid (bx_50.out.low b7 bx_50.out.inside)
    have r1_61 := Lib.hid (rowAt_mono r1_51.out b7)
    have m1_62 := Lib.hid (m1_52.out.low b7)
    have b1_63 := Lib.hid (b1_53.out.low b7 b1_53.out.inside)
    clear b7
    have u0 := bx_60.out.at 0
    have u1 := bx_60.out.at 1
    have u2 := bx_60.out.at 2
    simp at u0 u1 u2
    go_wp2_with fail
    refine (MK.out _ _ _ mx_59.out).mono ?_; rintro e w8 ⟨rfl, _, gm⟩
    clear u0 u1 u2
    have p_64 := Lib.hid (p_54.out.kept gm (fun h => NE_p_P2.out (Option.some.inj h)))
    have BB_65 := Lib.hid (BB_55.out.grown gm BB_55.out.size (fun q hq => by cases hq; exact LW_P2.out))
    have r0_66 := Lib.hid (rowAt_kept r0_56.out gm (fun h => NE_r0_P2.out (Option.some.inj h)))
    have b0_67 := Lib.hid (b0_57.out.kept gm (fun h => NE_b0_P2.out (Option.some.inj h)))
    have bx_68 := Lib.hid (bx_60.out.kept gm (fun h => NE_bx_P2.out (Option.some.inj h)))
    have r1_69 := Lib.hid (rowAt_kept r1_61.out gm (fun h => NE_r1_P2.out (Option.some.inj h)))
    have m1_70 := Lib.hid (m1_62.out.kept gm (fun h => NE_m1_P2.out (Option.some.inj h)))
    have b1_71 := Lib.hid (b1_63.out.kept gm (fun h => NE_b1_P2.out (Option.some.inj h)))
    clear gm
    have u0 := b1_71.out.at 0
    have u1 := b1_71.out.at 1
    have u2 := b1_71.out.at 2
    simp at u0 u1 u2
    have v0 := b0_67.out.at 0
    have v1 := b0_67.out.at 1
    have v2 := b0_67.out.at 2
    simp at v0 v1 v2
    go_wp2_with fail
    refine (EQ.out _ _ _ _ _ _ _ r1_69.out r0_66.out (fun i hi => by rw [Q1.out i hi, Q0.out i hi])).mono ?_; rintro e w9 ⟨rfl, bq⟩
    clear u0 u1 u2 v0 v1 v2
    have p_72 := Lib.hid (p_64.out.low bq p_64.out.inside)
    have BB_73 := Lib.hid (below_trans BB_65.out bq)
    have r0_74 := Lib.hid (rowAt_mono r0_66.out bq)
    have b0_75 := Lib.hid (b0_67.out.low bq b0_67.out.inside)
    have bx_76 := Lib.hid (bx_68.out.low bq bx_68.out.inside)
    have r1_77 := Lib.hid (rowAt_mono r1_69.out bq)
    have m1_78 := Lib.hid (m1_70.out.low bq)
    have b1_79 := Lib.hid (b1_71.out.low bq b1_71.out.inside)
    clear bq
    have u0 := b1_79.out.at 0
    have u1 := b1_79.out.at 1
    have u2 := b1_79.out.at 2
    simp at u0 u1 u2
    go_wp2_with fail
    refine (MK.out _ _ _ m1_78.out).mono ?_; rintro e w10 ⟨rfl, mm, gm⟩
    clear u0 u1 u2
    have p_80 := Lib.hid (p_72.out.kept gm (fun h => NE_p_g1.out (Option.some.inj h)))
    have BB_81 := Lib.hid (BB_73.out.grown gm BB_73.out.size (fun q hq => by cases hq; exact LW_g1.out))
    have r0_82 := Lib.hid (rowAt_kept r0_74.out gm (fun h => NE_r0_g1.out (Option.some.inj h)))
    have b0_83 := Lib.hid (b0_75.out.kept gm (fun h => NE_b0_g1.out (Option.some.inj h)))
    have bx_84 := Lib.hid (bx_76.out.kept gm (fun h => NE_bx_g1.out (Option.some.inj h)))
    have b1_85 := Lib.hid (b1_79.out.kept gm (fun h => NE_b1_g1.out (Option.some.inj h)))
    have m1_86 := Lib.hid (mm)
    clear gm mm
    have u0 := b1_85.out.at 0
    have u1 := b1_85.out.at 1
    have u2 := b1_85.out.at 2
    simp at u0 u1 u2
    go_wp2_with fail
    refine (HL.out _ _ _ m1_86.out).mono ?_; rintro e w11 ⟨rfl, bq⟩
    clear u0 u1 u2
    have p_87 := Lib.hid (p_80.out.low bq p_80.out.inside)
    have BB_88 := Lib.hid (below_trans BB_81.out bq)
    have r0_89 := Lib.hid (rowAt_mono r0_82.out bq)
    have b0_90 := Lib.hid (b0_83.out.low bq b0_83.out.inside)
    have bx_91 := Lib.hid (bx_84.out.low bq bx_84.out.inside)
    have b1_92 := Lib.hid (b1_85.out.low bq b1_85.out.inside)
    have m1_93 := Lib.hid (m1_86.out.low bq)
    clear bq
    have u0 := p_87.out.at 0
    have u1 := p_87.out.at 1
    have u2 := p_87.out.at 2
    simp at u0 u1 u2
    go_wp2_with fail
    refine (T.out _ (row_mono HR.out BB_88.out)).mono ?_; rintro e w12 ⟨P3, rfl, l_P3, g_P3, b_P3, r_P3, m_P3⟩
    clear u0 u1 u2
    have R3 := Lib.hid (show RowAt w12 P3 n f from ⟨g_P3, r_P3⟩)
    have p_94 := Lib.hid (p_87.out.low b_P3 p_87.out.inside)
    have BB_95 := Lib.hid (below_trans BB_88.out b_P3)
    have r0_96 := Lib.hid (rowAt_mono r0_89.out b_P3)
    have b0_97 := Lib.hid (b0_90.out.low b_P3 b0_90.out.inside)
    have bx_98 := Lib.hid (bx_91.out.low b_P3 bx_91.out.inside)
    have b1_99 := Lib.hid (b1_92.out.low b_P3 b1_92.out.inside)
    have m1_100 := Lib.hid (m1_93.out.low b_P3)
    clear l_P3 g_P3 b_P3 r_P3 m_P3
    unfold picV
    go_wp2_with fail
    refine (I.out _ _ R3.out).mono ?_; rintro e w13 ⟨g2, k2, f2, rfl, l2, r2, q2, _, b2⟩
    have p_101 := Lib.hid (p_94.out.low b2 p_94.out.inside)
    have BB_102 := Lib.hid (below_trans BB_95.out b2)
    have r0_103 := Lib.hid (rowAt_mono r0_96.out b2)
    have b0_104 := Lib.hid (b0_97.out.low b2 b0_97.out.inside)
    have bx_105 := Lib.hid (bx_98.out.low b2 bx_98.out.inside)
    have b1_106 := Lib.hid (b1_99.out.low b2 b1_99.out.inside)
    have m1_107 := Lib.hid (m1_100.out.low b2)
    have r2_108 := Lib.hid (r2)
    have Q2 := Lib.hid q2
    clear l2 r2 q2 b2
    have ba := (Below.refl w13.heap.size w13).alloc (Nat.le_refl _) (Obj.cells #[.int .i64 wi, .int .i64 hi, .slice (some ⟨g2, 0, none⟩) n k2] 27)
    have p_109 := Lib.hid (p_101.out.low ba p_101.out.inside)
    have BB_110 := Lib.hid (below_trans BB_102.out ba)
    have r0_111 := Lib.hid (rowAt_mono r0_103.out ba)
    have b0_112 := Lib.hid (b0_104.out.low ba b0_104.out.inside)
    have bx_113 := Lib.hid (bx_105.out.low ba bx_105.out.inside)
    have b1_114 := Lib.hid (b1_106.out.low ba b1_106.out.inside)
    have m1_115 := Lib.hid (m1_107.out.low ba)
    have r2_116 := Lib.hid (rowAt_mono r2_108.out ba)
    have b2_117 := Lib.hid (Has.ofAlloc w13 27 #[.int .i64 wi, .int .i64 hi, .slice (some ⟨g2, 0, none⟩) n k2])
    clear ba
    have u0 := b2_117.out.at 0
    have u1 := b2_117.out.at 1
    have u2 := b2_117.out.at 2
    simp at u0 u1 u2
    have v0 := b0_112.out.at 0
    have v1 := b0_112.out.at 1
    have v2 := b0_112.out.at 2
    simp at v0 v1 v2
    go_wp2_with fail
    refine (EQ.out _ _ _ _ _ _ _ r2_116.out r0_111.out (fun i hi => by rw [Q2.out i hi, Q0.out i hi])).mono ?_; rintro e w14 ⟨rfl, bq⟩
    clear u0 u1 u2 v0 v1 v2
    have p_118 := Lib.hid (p_109.out.low bq p_109.out.inside)
    have BB_119 := Lib.hid (below_trans BB_110.out bq)
    have r0_120 := Lib.hid (rowAt_mono r0_111.out bq)
    have b0_121 := Lib.hid (b0_112.out.low bq b0_112.out.inside)
    have bx_122 := Lib.hid (bx_113.out.low bq bx_113.out.inside)
    have b1_123 := Lib.hid (b1_114.out.low bq b1_114.out.inside)
    have m1_124 := Lib.hid (m1_115.out.low bq)
    have r2_125 := Lib.hid (rowAt_mono r2_116.out bq)
    have b2_126 := Lib.hid (b2_117.out.low bq b2_117.out.inside)
    clear bq
    have u0 := b1_123.out.at 0
    have u1 := b1_123.out.at 1
    have u2 := b1_123.out.at 2
    simp at u0 u1 u2
    go_wp2_with fail
    refine (HL.out _ _ _ m1_124.out).mono ?_; rintro e w15 ⟨rfl, bq⟩
    clear u0 u1 u2
    have p_127 := Lib.hid (p_118.out.low bq p_118.out.inside)
    have BB_128 := Lib.hid (below_trans BB_119.out bq)
    have r0_129 := Lib.hid (rowAt_mono r0_120.out bq)
    have b0_130 := Lib.hid (b0_121.out.low bq b0_121.out.inside)
    have bx_131 := Lib.hid (bx_122.out.low bq bx_122.out.inside)
    have b1_132 := Lib.hid (b1_123.out.low bq b1_123.out.inside)
    have m1_133 := Lib.hid (m1_124.out.low bq)
    have r2_134 := Lib.hid (rowAt_mono r2_125.out bq)
    have b2_135 := Lib.hid (b2_126.out.low bq b2_126.out.inside)
    clear bq
    go_wp2_with fail
    go_ret
    exact ⟨rfl, BB_128.out⟩
end Go.Proofs.Ytpjonajpgidjfaa
