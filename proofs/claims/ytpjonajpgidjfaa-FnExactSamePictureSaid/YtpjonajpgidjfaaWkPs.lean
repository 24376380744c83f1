/-
  The walk of the law of pictures that are the same. No condition.
-/
import Derived.Test.YtpjonajpgidjfaaSam
namespace Go.Proofs.Ytpjonajpgidjfaa
set_option linter.unusedVariables false
open Go.RowKit Ieee

/-- What a region gives that compares new copies of two pictures. -/
def SamV (p1 p2 : Value) (wi hi wj hj : Int) (n m : Nat) (f g : Nat → Nat) (K : Bool) : Nat → Value → World → Prop
  | 0, v, _ => v = p1
  | 1, v, w => ∃ B, v = .agg #[.int .i64 wi, .int .i64 hi, .slice (some ⟨B, 0, none⟩) n n] ∧ RowAt w B n f
  | 2, v, _ => v = p2
  | 3, v, w => ∃ B, v = .agg #[.int .i64 wj, .int .i64 hj, .slice (some ⟨B, 0, none⟩) m m] ∧ RowAt w B m g
  | _, v, _ => v = .bool K
theorem samV_stays (W : World) (p1 p2 : Value) (wi hi wj hj : Int) (n m : Nat) (f g : Nat → Nat) (K : Bool) : Stays (SamV p1 p2 wi hi wj hj n m f g K) (fun w' => Below W.heap.size W w') := by
  refine ⟨?_, fun w w' h h' => below_trans h h'⟩
  intro j v w w' hv hb
  match j with
  | 0 => exact hv
  | 1 => obtain ⟨B, hv, hr⟩ := hv; exact ⟨B, hv, rowAt_mono hr hb⟩
  | 2 => exact hv
  | 3 => obtain ⟨B, hv, hr⟩ := hv; exact ⟨B, hv, rowAt_mono hr hb⟩
  | _ + 4 => exact hv

set_option maxRecDepth 10000 in
set_option maxHeartbeats 2000000 in
theorem law_SamePicture (wi hi : Int) (a : Option Addr) (n c : Nat) (f : Nat → Nat) (wj hj : Int) (a2 : Option Addr) (m c2 : Nat) (g : Nat → Nat) (w : World) (hr : Row w a n c (fun i => .float .f32 (f i))) (hn : n ≤ 9223372036854775807) (hz : ∀ i, i < n → (Lit.float .f32 (f i)).wf = true)
    (hr2 : Row w a2 m c2 (fun i => .float .f32 (g i))) (hm : m ≤ 9223372036854775807) (hz2 : ∀ i, i < m → (Lit.float .f32 (g i)).wf = true) :
    Calls Try.prog 4 #[picV wi hi a n c, picV wj hj a2 m c2] w fun e w' => e = .returned (.bool true) ∧ Below w.heap.size w w' := by
  have HR := Lib.hid hr
  have HR2 := Lib.hid hr2
  have Z := Lib.hid (szPic_c wi hi a n c 1048576 (by omega) (by omega) hn)
  have B0 : Hid (∀ v v', Below w.heap.size w ((w.alloc v).alloc v')) := fun v v' => ((Below.refl _ _).alloc (Nat.le_refl _) v).alloc (by simp) v'
  by_cases hlt : (1048576 : Int) < n
  · rw [if_pos hlt] at Z
    clear hr hn hlt hz hr2 hm hz2
    unfold picV at Z ⊢
    go_enter Try.func4, Try.ntmps4
    go_wp2_with fail
    refine (Z.out _).mono ?_; rintro e w1 ⟨rfl, b1⟩
    go_wp2_with fail
    go_ret
    exact ⟨rfl, below_trans (B0.out _ _) b1⟩
  · have hn1 : n ≤ 1048576 := by omega
    have hge : ¬ (1048576 : Int) - n < 0 := by omega
    rw [if_neg hlt] at Z
    have Y := Lib.hid (szPic_c wj hj a2 m c2 (1048576 - n) (by omega) (by omega) hm)
    by_cases hlt2 : (1048576 : Int) - n < m
    · rw [if_pos hlt2] at Y
      clear hr hn hlt hz hr2 hm hz2 hlt2
      unfold picV at Z Y ⊢
      go_enter Try.func4, Try.ntmps4
      go_wp2_with fail
      refine (Z.out _).mono ?_; rintro e w1 ⟨rfl, b1⟩
      have z1 := b1.size
      simp at z1
      have d0 : w1.cell? ⟨w.heap.size + 1, 0, none⟩ = some (.int .i64 wj) := by rw [bcell b1 _ _ (by simp)]; simp [go_sem]
      have d1 : w1.cell? ⟨w.heap.size + 1, 1, none⟩ = some (.int .i64 hj) := by rw [bcell b1 _ _ (by simp)]; simp [go_sem]
      have d2 : w1.cell? ⟨w.heap.size + 1, 2, none⟩ = some (.slice a2 m c2) := by rw [bcell b1 _ _ (by simp)]; simp [go_sem]
      go_wp2_with fail
      refine (Y.out _).mono ?_; rintro e w2 ⟨rfl, b2⟩
      go_wp2_with fail
      go_ret
      exact ⟨rfl, below_trans (below_trans (B0.out _ _) b1) b2⟩
    have hm1 : m ≤ 1048576 := by omega
    have hge2 : ¬ (1048576 : Int) - n - m < 0 := by omega
    rw [if_neg hlt2] at Y
    have T := Lib.hid (fun w hr => toPic_c wi hi a n c f w hr hn1)
    have T2 := Lib.hid (fun w hr => toPic_c wj hj a2 m c2 g w hr hm1)
    have S := Lib.hid (fun b1 b2 w r1 r2 => specSame2_c wi hi wj hj b1 b2 n m n m f g w hn1 hm1 hz hz2 r1 r2)
    have I := Lib.hid (fun b1 b2 w r1 r2 => implSame2_c wi hi wj hj b1 b2 n m n m f g w hn1 hm1 hz hz2 r1 r2)
    have E := Lib.hid (fun b1 b2 w h1 h2 => eqPic_c wi hi b1 b2 n n n f f w hn1 h1 h2 (fun _ _ => rfl))
    have EB := Lib.hid (fun b1 b2 w h1 h2 => eqPic_c wj hj b1 b2 m m m g g w hm1 h1 h2 (fun _ _ => rfl))
    generalize samePB wi hi wj hj f g n m = K at S I
    clear hr hn hlt hz hr2 hm hz2 hlt2
    unfold picV at Z Y T T2 S I E EB ⊢
    go_enter Try.func4, Try.ntmps4
    go_wp2_with fail
    refine (Z.out _).mono ?_; rintro e w1 ⟨rfl, b1⟩
    have z1 := b1.size
    simp at z1
    have o0 : w1.cell? ⟨w.heap.size + 1, 0, none⟩ = some (.int .i64 wj) := by rw [bcell b1 _ _ (by simp)]; simp [go_sem]
    have o1 : w1.cell? ⟨w.heap.size + 1, 1, none⟩ = some (.int .i64 hj) := by rw [bcell b1 _ _ (by simp)]; simp [go_sem]
    have o2 : w1.cell? ⟨w.heap.size + 1, 2, none⟩ = some (.slice a2 m c2) := by rw [bcell b1 _ _ (by simp)]; simp [go_sem]
    have g0 : w1.cell? ⟨w.heap.size, 0, none⟩ = some (.int .i64 wi) := by rw [bcell b1 _ _ (by simp; omega)]; simp [go_sem]
    have g1 : w1.cell? ⟨w.heap.size, 1, none⟩ = some (.int .i64 hi) := by rw [bcell b1 _ _ (by simp; omega)]; simp [go_sem]
    have g2 : w1.cell? ⟨w.heap.size, 2, none⟩ = some (.slice a n c) := by rw [bcell b1 _ _ (by simp; omega)]; simp [go_sem]
    go_wp2_with fail
    refine (Y.out _).mono ?_; rintro e w2 ⟨rfl, b2⟩
    have z2 := b2.size
    have d0 : w2.cell? ⟨w.heap.size, 0, none⟩ = some (.int .i64 wi) := by rw [bcell b2 _ _ (by omega), g0]
    have d1 : w2.cell? ⟨w.heap.size, 1, none⟩ = some (.int .i64 hi) := by rw [bcell b2 _ _ (by omega), g1]
    have d2 : w2.cell? ⟨w.heap.size, 2, none⟩ = some (.slice a n c) := by rw [bcell b2 _ _ (by omega), g2]
    have d3 : w2.cell? ⟨w.heap.size + 1, 0, none⟩ = some (.int .i64 wj) := by rw [bcell b2 _ _ (by omega), o0]
    have d4 : w2.cell? ⟨w.heap.size + 1, 1, none⟩ = some (.int .i64 hj) := by rw [bcell b2 _ _ (by omega), o1]
    have d5 : w2.cell? ⟨w.heap.size + 1, 2, none⟩ = some (.slice a2 m c2) := by rw [bcell b2 _ _ (by omega), o2]
    clear o0 o1 o2 g0 g1 g2
    have bb2 := below_trans (below_trans (B0.out _ _) b1) b2
    have RW := row_mono HR.out bb2
    have RW2 := row_mono HR2.out bb2
    go_wp2_with fail
    refine wp_region_grow_lit (fun w' => Below w2.heap.size w2 w') (SamV (.agg #[.int .i64 wi, .int .i64 hi, .slice a n c]) (.agg #[.int .i64 wj, .int .i64 hj, .slice a2 m c2]) wi hi wj hj n m f g K) (samV_stays _ _ _ _ _ _ _ _ _ _ _ _) (by kernel_rfl) (by kernel_rfl) (below_drewN (Below.refl _ _) 1) ⟨?_, ?_, ?_, ?_, ?_, ?_, trivial⟩ ?_
    · intro ρ w' hb hx hd ho
      have q : ρ (.tmp 2) = _ := ho 2 (out_of (by kernel_rfl))
      have f0 := (bcell hb _ _ (heap_lt d0)).trans d0
      have f1 := (bcell hb _ _ (heap_lt d1)).trans d1
      have f2 := (bcell hb _ _ (heap_lt d2)).trans d2
      simp [execOp, q, YieldsG, go_sem, Act.eval, f0, f1, f2, SamV]
      exact Below.refl _ _
    · intro ρ w' hb hx hd ho
      have q : ρ (.tmp 20) = (.agg #[.int .i64 wi, .int .i64 hi, .slice a n c]) := hd ⟨0, .data⟩ (by simp)
      have q2 : ρ (.func 16) = .func (.func 16) #[] #[] := hx _ (by simp)
      simp [execOp, q, q2, YieldsG, go_sem]
      refine (T.out _ (row_mono RW hb)).mono ?_
      rintro e w'' ⟨B, rfl, l3, g3, b3, r3⟩
      exact ⟨_, rfl, ⟨B, rfl, g3, r3⟩, b3⟩
    · intro ρ w' hb hx hd ho
      have q : ρ (.tmp 3) = _ := ho 3 (out_of (by kernel_rfl))
      have f0 := (bcell hb _ _ (heap_lt d3)).trans d3
      have f1 := (bcell hb _ _ (heap_lt d4)).trans d4
      have f2 := (bcell hb _ _ (heap_lt d5)).trans d5
      simp [execOp, q, YieldsG, go_sem, Act.eval, f0, f1, f2, SamV]
      exact Below.refl _ _
    · intro ρ w' hb hx hd ho
      have q : ρ (.tmp 22) = (.agg #[.int .i64 wj, .int .i64 hj, .slice a2 m c2]) := hd ⟨2, .data⟩ (by simp)
      have q2 : ρ (.func 16) = .func (.func 16) #[] #[] := hx _ (by simp)
      simp [execOp, q, q2, YieldsG, go_sem]
      refine (T2.out _ (row_mono RW2 hb)).mono ?_
      rintro e w'' ⟨B, rfl, l3, g3, b3, r3⟩
      exact ⟨_, rfl, ⟨B, rfl, g3, r3⟩, b3⟩
    · intro ρ w' hb hx hd ho
      obtain ⟨B, q1, hB⟩ : ∃ B, ρ (.tmp 21) = .agg #[.int .i64 wi, .int .i64 hi, .slice (some ⟨B, 0, none⟩) n n] ∧ RowAt w' B n f := hd ⟨1, .data⟩ (by simp)
      obtain ⟨B', q3, hB'⟩ : ∃ B, ρ (.tmp 23) = .agg #[.int .i64 wj, .int .i64 hj, .slice (some ⟨B, 0, none⟩) m m] ∧ RowAt w' B m g := hd ⟨3, .data⟩ (by simp)
      have q2 : ρ (.func 19) = .func (.func 19) #[] #[] := hx _ (by simp)
      simp [execOp, q1, q2, q3, YieldsG, go_sem]
      refine (S.out _ _ _ hB hB').mono ?_
      rintro e w'' ⟨rfl, b3⟩
      exact ⟨_, rfl, rfl, b3⟩
    · intro ρ w' hb hx hd ho
      have q : ρ (.tmp 24) = .bool K := hd ⟨4, .data⟩ (by simp)
      simp [execOp, q, YieldsG, go_sem, SamV]
      exact Below.refl _ _
    intro vs w3 hvs b3
    have h5 : vs 5 = .bool K := hvs 5 (by decide)
    clear hvs
    simp [putN, Act.put, h5]
    clear h5
    have z3 := b3.size
    have g0 : w3.cell? ⟨w.heap.size, 0, none⟩ = some (.int .i64 wi) := by rw [bcell b3 _ _ (by omega), d0]
    have g1 : w3.cell? ⟨w.heap.size, 1, none⟩ = some (.int .i64 hi) := by rw [bcell b3 _ _ (by omega), d1]
    have g2 : w3.cell? ⟨w.heap.size, 2, none⟩ = some (.slice a n c) := by rw [bcell b3 _ _ (by omega), d2]
    have g3 : w3.cell? ⟨w.heap.size + 1, 0, none⟩ = some (.int .i64 wj) := by rw [bcell b3 _ _ (by omega), d3]
    have g4 : w3.cell? ⟨w.heap.size + 1, 1, none⟩ = some (.int .i64 hj) := by rw [bcell b3 _ _ (by omega), d4]
    have g5 : w3.cell? ⟨w.heap.size + 1, 2, none⟩ = some (.slice a2 m c2) := by rw [bcell b3 _ _ (by omega), d5]
    have D0 := Lib.hid d0
    have D1 := Lib.hid d1
    have D2 := Lib.hid d2
    have D3 := Lib.hid d3
    have D4 := Lib.hid d4
    have D5 := Lib.hid d5
    clear d0 d1 d2 d3 d4 d5
    have bb3 := below_trans bb2 b3
    go_wp2_with fail
    refine (T.out _ (row_mono HR.out bb3)).mono ?_; rintro e w4 ⟨P1, rfl, l4, p4, b4, r4⟩
    have R4 := Lib.hid (show RowAt w4 P1 n f from ⟨p4, r4⟩)
    have z4 := b4.size
    have k3 := (bcell b4 _ _ (show w.heap.size + 1 < w3.heap.size by omega)).trans g3
    have kk3 : ∀ v, (w4.alloc v).cell? ⟨w.heap.size + 1, 0, none⟩ = _ := fun v => (World.cell?_alloc_past _ _ _ (by omega)).trans k3
    have k4 := (bcell b4 _ _ (show w.heap.size + 1 < w3.heap.size by omega)).trans g4
    have kk4 : ∀ v, (w4.alloc v).cell? ⟨w.heap.size + 1, 1, none⟩ = _ := fun v => (World.cell?_alloc_past _ _ _ (by omega)).trans k4
    have k5 := (bcell b4 _ _ (show w.heap.size + 1 < w3.heap.size by omega)).trans g5
    have kk5 : ∀ v, (w4.alloc v).cell? ⟨w.heap.size + 1, 2, none⟩ = _ := fun v => (World.cell?_alloc_past _ _ _ (by omega)).trans k5
    clear r4 g0 g1 g2 g3 g4 g5
    unfold picV
    go_wp2_with fail
    have ba := (Below.refl w4.heap.size w4).alloc (Nat.le_refl _) (Obj.cells #[.int .i64 wi, .int .i64 hi, .slice (some ⟨P1, 0, none⟩) n n] 27)
    have bb4 := below_trans (below_trans bb3 b4) ba
    refine (T2.out _ (row_mono HR2.out bb4)).mono ?_; rintro e w5 ⟨P2, rfl, l5, p5, b5, r5⟩
    have R5 := Lib.hid (show RowAt w5 P2 m g from ⟨p5, r5⟩)
    have z5 := b5.size
    simp at z5
    have R45 := Lib.hid (rowAt_mono (rowAt_mono R4.out ba) b5)
    have x0 : w5.cell? ⟨w4.heap.size, 0, none⟩ = some (.int .i64 wi) := by rw [bcell b5 _ _ (by simp)]; simp [go_sem]
    have x1 : w5.cell? ⟨w4.heap.size, 1, none⟩ = some (.int .i64 hi) := by rw [bcell b5 _ _ (by simp)]; simp [go_sem]
    have x2 : w5.cell? ⟨w4.heap.size, 2, none⟩ = some (.slice (some ⟨P1, 0, none⟩) n n) := by rw [bcell b5 _ _ (by simp)]; simp [go_sem]
    have xx0 : ∀ v, (w5.alloc v).cell? ⟨w4.heap.size, 0, none⟩ = _ := fun v => (World.cell?_alloc_past _ _ _ (by omega)).trans x0
    have xx1 : ∀ v, (w5.alloc v).cell? ⟨w4.heap.size, 1, none⟩ = _ := fun v => (World.cell?_alloc_past _ _ _ (by omega)).trans x1
    have xx2 : ∀ v, (w5.alloc v).cell? ⟨w4.heap.size, 2, none⟩ = _ := fun v => (World.cell?_alloc_past _ _ _ (by omega)).trans x2
    clear r5
    have bb5 := below_trans bb4 b5
    unfold picV
    go_wp2_with fail
    have bc := (Below.refl w5.heap.size w5).alloc (Nat.le_refl _) (Obj.cells #[.int .i64 wj, .int .i64 hj, .slice (some ⟨P2, 0, none⟩) m m] 27)
    refine (I.out _ _ _ (rowAt_mono R45.out bc) (rowAt_mono R5.out bc)).mono ?_; rintro e w6 ⟨rfl, b6⟩
    have z6 := b6.size
    simp at z6
    have bb6 := below_trans (below_trans bb5 bc) b6
    have b26 := below_trans (below_trans (below_trans (below_trans (below_trans b3 b4) ba) b5) bc) b6
    have b56 := below_trans bc b6
    have e0 : w6.cell? ⟨w4.heap.size, 0, none⟩ = some (.int .i64 wi) := by rw [bcell b56 _ _ (by omega), x0]
    have e1 : w6.cell? ⟨w4.heap.size, 1, none⟩ = some (.int .i64 hi) := by rw [bcell b56 _ _ (by omega), x1]
    have e2 : w6.cell? ⟨w4.heap.size, 2, none⟩ = some (.slice (some ⟨P1, 0, none⟩) n n) := by rw [bcell b56 _ _ (by omega), x2]
    have y0 : w6.cell? ⟨w5.heap.size, 0, none⟩ = some (.int .i64 wj) := by rw [bcell b6 _ _ (by simp)]; simp [go_sem]
    have y1 : w6.cell? ⟨w5.heap.size, 1, none⟩ = some (.int .i64 hj) := by rw [bcell b6 _ _ (by simp)]; simp [go_sem]
    have y2 : w6.cell? ⟨w5.heap.size, 2, none⟩ = some (.slice (some ⟨P2, 0, none⟩) m m) := by rw [bcell b6 _ _ (by simp)]; simp [go_sem]
    have d0 := (bcell b26 _ _ (heap_lt D0.out)).trans D0.out
    have d1 := (bcell b26 _ _ (heap_lt D1.out)).trans D1.out
    have d2 := (bcell b26 _ _ (heap_lt D2.out)).trans D2.out
    have d3 := (bcell b26 _ _ (heap_lt D3.out)).trans D3.out
    have d4 := (bcell b26 _ _ (heap_lt D4.out)).trans D4.out
    have d5 := (bcell b26 _ _ (heap_lt D5.out)).trans D5.out
    clear x0 x1 x2 xx0 xx1 xx2 k3 k4 k5 kk3 kk4 kk5
    have RA := row_mono HR.out bb6
    have RB := rowAt_mono R45.out b56
    have RC := rowAt_mono R5.out b56
    go_wp2_with fail
    refine wp_region_grow_lit (fun w' => Below w6.heap.size w6 w') (EqV (.agg #[.int .i64 wi, .int .i64 hi, .slice (some ⟨P1, 0, none⟩) n n]) (.agg #[.int .i64 wi, .int .i64 hi, .slice a n c]) wi hi n f) (eqV_stays _ _ _ _ _ _ _) (by kernel_rfl) (by kernel_rfl) (by first | exact below_drewN (Below.refl _ _) 1 | exact below_drewN (below_drewN (Below.refl _ _) _) 1) ⟨?_, ?_, ?_, ?_, ?_, trivial⟩ ?_
    · intro ρ w' hb hx hd ho
      have q : ρ (.tmp 7) = _ := ho 7 (out_of (by kernel_rfl))
      have f0 := (bcell hb _ _ (heap_lt e0)).trans e0
      have f1 := (bcell hb _ _ (heap_lt e1)).trans e1
      have f2 := (bcell hb _ _ (heap_lt e2)).trans e2
      simp [execOp, q, YieldsG, go_sem, Act.eval, f0, f1, f2, EqV]
      exact Below.refl _ _
    · intro ρ w' hb hx hd ho
      have q : ρ (.tmp 2) = _ := ho 2 (out_of (by kernel_rfl))
      have f0 := (bcell hb _ _ (heap_lt d0)).trans d0
      have f1 := (bcell hb _ _ (heap_lt d1)).trans d1
      have f2 := (bcell hb _ _ (heap_lt d2)).trans d2
      simp [execOp, q, YieldsG, go_sem, Act.eval, f0, f1, f2, EqV]
      exact Below.refl _ _
    · intro ρ w' hb hx hd ho
      have q : ρ (.tmp 36) = (.agg #[.int .i64 wi, .int .i64 hi, .slice a n c]) := hd ⟨1, .data⟩ (by simp)
      have q2 : ρ (.func 16) = .func (.func 16) #[] #[] := hx _ (by simp)
      simp [execOp, q, q2, YieldsG, go_sem]
      refine (T.out _ (row_mono RA hb)).mono ?_
      rintro e w'' ⟨B, rfl, l3, g3, b3, r3⟩
      exact ⟨_, rfl, ⟨B, rfl, g3, r3⟩, b3⟩
    · intro ρ w' hb hx hd ho
      have q : ρ (.tmp 35) = (.agg #[.int .i64 wi, .int .i64 hi, .slice (some ⟨P1, 0, none⟩) n n]) := hd ⟨0, .data⟩ (by simp)
      obtain ⟨B, q1, hB⟩ : ∃ B, ρ (.tmp 37) = .agg #[.int .i64 wi, .int .i64 hi, .slice (some ⟨B, 0, none⟩) n n] ∧ RowAt w' B n f := hd ⟨2, .data⟩ (by simp)
      have q2 : ρ (.func 18) = .func (.func 18) #[] #[] := hx _ (by simp)
      simp [execOp, q, q1, q2, YieldsG, go_sem]
      refine (E.out _ _ _ (rowAt_mono RB hb) hB).mono ?_
      rintro e w'' ⟨rfl, b3⟩
      exact ⟨_, rfl, rfl, b3⟩
    · intro ρ w' hb hx hd ho
      have q : ρ (.tmp 38) = .bool true := hd ⟨3, .data⟩ (by simp)
      simp [execOp, q, YieldsG, go_sem, Op.unary, EqV]
      exact Below.refl _ _
    intro vs w7 hvs b7
    have h4 : vs 4 = .bool false := hvs 4 (by decide)
    clear hvs
    simp [putN, Act.put, h4]
    clear h4
    have bb7 := below_trans bb6 b7
    have E0 := (bcell b7 _ _ (heap_lt d3)).trans d3
    have E1 := (bcell b7 _ _ (heap_lt d4)).trans d4
    have E2 := (bcell b7 _ _ (heap_lt d5)).trans d5
    have Y0 := (bcell b7 _ _ (heap_lt y0)).trans y0
    have Y1 := (bcell b7 _ _ (heap_lt y1)).trans y1
    have Y2 := (bcell b7 _ _ (heap_lt y2)).trans y2
    have RD := row_mono HR2.out bb7
    have RE := rowAt_mono RC b7
    clear d0 d1 d2 d3 d4 d5 e0 e1 e2 y0 y1 y2
    go_wp2_with fail
    refine wp_region_grow_lit (fun w' => Below w7.heap.size w7 w') (EqV (.agg #[.int .i64 wj, .int .i64 hj, .slice (some ⟨P2, 0, none⟩) m m]) (.agg #[.int .i64 wj, .int .i64 hj, .slice a2 m c2]) wj hj m g) (eqV_stays _ _ _ _ _ _ _) (by kernel_rfl) (by kernel_rfl) (by first | exact below_drewN (Below.refl _ _) 1 | exact below_drewN (below_drewN (Below.refl _ _) _) 1) ⟨?_, ?_, ?_, ?_, ?_, trivial⟩ ?_
    · intro ρ w' hb hx hd ho
      have q : ρ (.tmp 8) = _ := ho 8 (out_of (by kernel_rfl))
      have f0 := (bcell hb _ _ (heap_lt Y0)).trans Y0
      have f1 := (bcell hb _ _ (heap_lt Y1)).trans Y1
      have f2 := (bcell hb _ _ (heap_lt Y2)).trans Y2
      simp [execOp, q, YieldsG, go_sem, Act.eval, f0, f1, f2, EqV]
      exact Below.refl _ _
    · intro ρ w' hb hx hd ho
      have q : ρ (.tmp 3) = _ := ho 3 (out_of (by kernel_rfl))
      have f0 := (bcell hb _ _ (heap_lt E0)).trans E0
      have f1 := (bcell hb _ _ (heap_lt E1)).trans E1
      have f2 := (bcell hb _ _ (heap_lt E2)).trans E2
      simp [execOp, q, YieldsG, go_sem, Act.eval, f0, f1, f2, EqV]
      exact Below.refl _ _
    · intro ρ w' hb hx hd ho
      have q : ρ (.tmp 41) = (.agg #[.int .i64 wj, .int .i64 hj, .slice a2 m c2]) := hd ⟨1, .data⟩ (by simp)
      have q2 : ρ (.func 16) = .func (.func 16) #[] #[] := hx _ (by simp)
      simp [execOp, q, q2, YieldsG, go_sem]
      refine (T2.out _ (row_mono RD hb)).mono ?_
      rintro e w'' ⟨B, rfl, l3, g3, b3, r3⟩
      exact ⟨_, rfl, ⟨B, rfl, g3, r3⟩, b3⟩
    · intro ρ w' hb hx hd ho
      have q : ρ (.tmp 40) = (.agg #[.int .i64 wj, .int .i64 hj, .slice (some ⟨P2, 0, none⟩) m m]) := hd ⟨0, .data⟩ (by simp)
      obtain ⟨B, q1, hB⟩ : ∃ B, ρ (.tmp 42) = .agg #[.int .i64 wj, .int .i64 hj, .slice (some ⟨B, 0, none⟩) m m] ∧ RowAt w' B m g := hd ⟨2, .data⟩ (by simp)
      have q2 : ρ (.func 18) = .func (.func 18) #[] #[] := hx _ (by simp)
      simp [execOp, q, q1, q2, YieldsG, go_sem]
      refine (EB.out _ _ _ (rowAt_mono RE hb) hB).mono ?_
      rintro e w'' ⟨rfl, b3⟩
      exact ⟨_, rfl, rfl, b3⟩
    · intro ρ w' hb hx hd ho
      have q : ρ (.tmp 43) = .bool true := hd ⟨3, .data⟩ (by simp)
      simp [execOp, q, YieldsG, go_sem, Op.unary, EqV]
      exact Below.refl _ _
    intro vs w8 hvs b8
    have h4 : vs 4 = .bool false := hvs 4 (by decide)
    clear hvs
    simp [putN, Act.put, h4]
    clear h4
    go_wp2_with fail
    go_ret
    exact ⟨rfl, below_trans bb7 b8⟩
end Go.Proofs.Ytpjonajpgidjfaa
