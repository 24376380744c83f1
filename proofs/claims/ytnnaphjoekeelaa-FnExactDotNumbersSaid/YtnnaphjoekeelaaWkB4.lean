/-
  The walks of the law of dot products of float32. No condition.
-/
import Derived.Test.YtnnaphjoekeelaaWkB3
namespace Go.Proofs.Ytnnaphjoekeelaa
set_option linter.unusedVariables false
open Go.RowKit Ieee

theorem l01Dot_c (b1 b2 n c1 c2 : Nat) (f g : Nat → Nat) (w : World) (hn : n ≤ 1048576) (h1 : ∀ i, i < n → w.cell? ⟨b1, i, none⟩ = some (.float .f32 (f i))) (h2 : ∀ i, i < n → w.cell? ⟨b2, i, none⟩ = some (.float .f32 (g i))) :
    Calls Try.prog 21 #[.slice (some ⟨b1, 0, none⟩) n c1, .slice (some ⟨b2, 0, none⟩) n c2] w fun e w' => RetF .f32 w (fdot f g n) e w' := by
  have H1 := Lib.hid h1
  have H2 := Lib.hid h2
  clear h1 h2
  go_enter Try.func21, Try.ntmps21
  go_wp2
  go_loopw [5, 6] (fun s i wr => ∃ k d r : Nat, k ≤ n ∧ i = .int .i64 k ∧ s = .float .f32 r ∧ cl .f32 r = fdot f g k ∧ (Lit.float .f32 r).wf = true ∧ wr = w.drewN d) (fun _ i _ => n - (intOf i).toNat)
  case atStart => exact ⟨0, 0, 0, Nat.zero_le _, rfl, rfl, cl_zero _, wf0, rfl⟩
  case round =>
    obtain ⟨k, d, r, hk, rfl, rfl, hr, hwr, rfl⟩ := hrel
    by_cases hlt : k < n
    · have x1 := H1.out k hlt
      have x2 := H2.out k hlt
      go_wp2_with fail
      refine wp_region_free_lit (fun w' => ∃ d', w' = w.drewN d') (fun j v => match j with
        | 0 => v = .float .f32 r | 1 => v = .slice (some ⟨b1, 0, none⟩) n c1 | 2 => v = .int .i64 k | 3 => v = .pointer (some ⟨b1, k, none⟩) | 4 => v = .float .f32 (f k)
        | 5 => v = .slice (some ⟨b2, 0, none⟩) n c2 | 6 => v = .int .i64 k | 7 => v = .pointer (some ⟨b2, k, none⟩) | 8 => v = .float .f32 (g k) | 9 => ∃ q, v = .float .f32 q ∧ cl .f32 q = fbin .mul .f32 (cl .f32 (f k)) (cl .f32 (g k))
        | _ => ∃ q, v = .float .f32 q ∧ cl .f32 q = fdot f g (k + 1) ∧ (Lit.float .f32 q).wf = true) (by kernel_rfl) (by kernel_rfl) ⟨_, World.drewN_drewN _ _ _⟩ ⟨?_, ?_, ?_, ?_, ?_, ?_, ?_, ?_, ?_, ?_, ?_, ?_, trivial⟩ ?_
      · intro ρ w' ⟨m, hw⟩ hx hd ho; subst hw
        have e : ρ (.tmp 5) = _ := ho 5 (out_of (by kernel_rfl))
        simp [execOp, e, Yields, Act.eval]
        exact ⟨m, rfl⟩
      · intro ρ w' ⟨m, hw⟩ hx hd ho; subst hw
        have e : ρ (.tmp 0) = _ := ho 0 (out_of (by kernel_rfl))
        simp [execOp, e, Yields, Act.eval]
        exact ⟨m, rfl⟩
      · intro ρ w' ⟨m, hw⟩ hx hd ho; subst hw
        have e : ρ (.tmp 6) = _ := ho 6 (out_of (by kernel_rfl))
        simp [execOp, e, Yields, Act.eval]
        exact ⟨m, rfl⟩
      · intro ρ w' ⟨m, hw⟩ hx hd ho; subst hw
        have e0 : ρ (.tmp 14) = .slice (some ⟨b1, 0, none⟩) n c1 := hd ⟨1, .data⟩ (by simp)
        have e1 : ρ (.tmp 15) = .int .i64 k := hd ⟨2, .data⟩ (by simp)
        simp [execOp, e0, e1, Yields, go_sem, hlt]
        exact ⟨m, rfl⟩
      · intro ρ w' ⟨m, hw⟩ hx hd ho; subst hw
        have e0 : ρ (.tmp 16) = .pointer (some ⟨b1, k, none⟩) := hd ⟨3, .data⟩ (by simp)
        simp [execOp, e0, Yields, go_sem, x1]
        exact ⟨m, rfl⟩
      · intro ρ w' ⟨m, hw⟩ hx hd ho; subst hw
        have e : ρ (.tmp 1) = _ := ho 1 (out_of (by kernel_rfl))
        simp [execOp, e, Yields, Act.eval]
        exact ⟨m, rfl⟩
      · intro ρ w' ⟨m, hw⟩ hx hd ho; subst hw
        have e : ρ (.tmp 6) = _ := ho 6 (out_of (by kernel_rfl))
        simp [execOp, e, Yields, Act.eval]
        exact ⟨m, rfl⟩
      · intro ρ w' ⟨m, hw⟩ hx hd ho; subst hw
        have e0 : ρ (.tmp 18) = .slice (some ⟨b2, 0, none⟩) n c2 := hd ⟨5, .data⟩ (by simp)
        have e1 : ρ (.tmp 19) = .int .i64 k := hd ⟨6, .data⟩ (by simp)
        simp [execOp, e0, e1, Yields, go_sem, hlt]
        exact ⟨m, rfl⟩
      · intro ρ w' ⟨m, hw⟩ hx hd ho; subst hw
        have e0 : ρ (.tmp 20) = .pointer (some ⟨b2, k, none⟩) := hd ⟨7, .data⟩ (by simp)
        simp [execOp, e0, Yields, go_sem, x2]
        exact ⟨m, rfl⟩
      · intro ρ w' ⟨m, hw⟩ hx hd ho; subst hw
        have e0 : ρ (.tmp 17) = .float .f32 (f k) := hd ⟨4, .data⟩ (by simp)
        have e1 : ρ (.tmp 21) = .float .f32 (g k) := hd ⟨8, .data⟩ (by simp)
        obtain ⟨q, m2, hq, hc, _⟩ := run_fbin_op (P := Try.prog) (op := .mul) (w.drewN m) .f32 _ _ rfl e0 e1
        rw [hq]
        exact ⟨⟨q, rfl, hc⟩, _, World.drewN_drewN _ _ _⟩
      · intro ρ w' ⟨m, hw⟩ hx hd ho; subst hw
        have e0 : ρ (.tmp 13) = .float .f32 r := hd ⟨0, .data⟩ (by simp)
        obtain ⟨p, e1, hp⟩ : ∃ q, ρ (.tmp 22) = .float .f32 q ∧ cl .f32 q = fbin .mul .f32 (cl .f32 (f k)) (cl .f32 (g k)) := hd ⟨9, .data⟩ (by simp)
        obtain ⟨q, m2, hq, hc, hwq⟩ := run_fbin_op (P := Try.prog) (op := .add) (w.drewN m) .f32 _ _ rfl e0 e1
        rw [hq]
        exact ⟨⟨q, rfl, by rw [hc, hr, hp]; rfl, hwq⟩, _, World.drewN_drewN _ _ _⟩
      · intro ρ w' ⟨m, hw⟩ hx hd ho; subst hw
        obtain ⟨q, e1, hq⟩ : ∃ q, ρ (.tmp 23) = .float .f32 q ∧ cl .f32 q = fdot f g (k + 1) ∧ (Lit.float .f32 q).wf = true := hd ⟨10, .data⟩ (by simp)
        simp only [execOp, e1, Yields, Sem.run_pure]
        exact ⟨⟨q, rfl, hq⟩, m, rfl⟩
      · intro vs hvs w' ⟨m, hw⟩
        subst hw
        obtain ⟨q, h11, hq, hwq⟩ : ∃ q, vs 11 = .float .f32 q ∧ cl .f32 q = fdot f g (k + 1) ∧ (Lit.float .f32 q).wf = true := hvs 11 (by decide)
        clear hvs
        simp [putN, Act.put, h11]
        clear h11
        have HQ := Lib.hid hq
        clear hq
        go_wp2
        go_roundw
        case rel => exact ⟨k + 1, _, q, by omega, by go_num, rfl, HQ.out, hwq, rfl⟩
        case measure => simp [intOf]; omega
    · have hke : k = n := by omega
      have HE := Lib.hid hke
      clear hke
      go_wp2
      go_ret
      exact retF _ (by rw [hr, HE.out]) hwr

/-- What both dot products give. -/
def DotPost (n m : Nat) (f g : Nat → Nat) (w : World) (e : Ending) (w' : World) : Prop :=
  ∃ r, e = .returned (.tuple #[.float .f32 r, .bool (decide (n ≤ 256) && decide (n = m))]) ∧ cl .f32 r = (if n ≤ 256 ∧ n = m then fdot f g n else some 0) ∧ (Lit.float .f32 r).wf = true ∧ Below w.heap.size w w'

theorem specDot_c (b1 b2 n m c1 c2 : Nat) (f g : Nat → Nat) (w : World) (hn : n ≤ 1048576) (hm : m ≤ 1048576) (h1 : ∀ i, i < n → w.cell? ⟨b1, i, none⟩ = some (.float .f32 (f i))) (h2 : ∀ i, i < m → w.cell? ⟨b2, i, none⟩ = some (.float .f32 (g i))) :
    Calls Try.prog 12 #[.slice (some ⟨b1, 0, none⟩) n c1, .slice (some ⟨b2, 0, none⟩) m c2] w (DotPost n m f g w) := by
  by_cases hn2 : n ≤ 256
  · have e0 : decide ((n : Int) ≤ 256) = true := by simp; omega
    by_cases hnm : n = m
    · subst hnm
      have HS := Lib.hid (l01Dot_c b1 b2 n c1 c2 f g w hn h1 h2)
      have e1 : ((n : Int) != (n : Int)) = false := by simp
      clear h1 h2
      go_enter Try.func12, Try.ntmps12
      go_wp2_with (go_at_call 18; go_in)
      refine HS.out.mono ?_
      rintro e w' ⟨r, m, rfl, hr, hw, rfl⟩
      go_wp2_with fail
      go_ret2
      refine ⟨r, ?_, by rw [if_pos ⟨hn2, rfl⟩]; exact hr, hw, below_drewN (Below.refl _ _) _⟩
      rw [decide_eq_true hn2]; simp
    · have e1 : ((n : Int) != (m : Int)) = true := by rw [bne_iff_ne]; omega
      clear h1 h2
      go_enter Try.func12, Try.ntmps12
      go_wp2_with (go_at_call 18; go_in)
      go_ret2
      refine ⟨0, ?_, by rw [if_neg (fun h => hnm h.2)]; exact cl_zero _, wf0, Below.refl _ _⟩
      rw [decide_eq_false hnm, Bool.and_false]; rfl
  · have e0 : decide ((n : Int) ≤ 256) = false := by simp; omega
    clear h1 h2
    go_enter Try.func12, Try.ntmps12
    go_wp2_with (go_at_call 18; go_in)
    go_ret2
    refine ⟨0, ?_, by rw [if_neg (fun h => hn2 h.1)]; exact cl_zero _, wf0, Below.refl _ _⟩
    rw [decide_eq_false hn2, Bool.false_and]; rfl

theorem implDot_c (b1 b2 n m c1 c2 : Nat) (f g : Nat → Nat) (w : World) (hn : n ≤ 1048576) (hm : m ≤ 1048576) (h1 : ∀ i, i < n → w.cell? ⟨b1, i, none⟩ = some (.float .f32 (f i))) (h2 : ∀ i, i < m → w.cell? ⟨b2, i, none⟩ = some (.float .f32 (g i))) :
    Calls Try.prog 13 #[.slice (some ⟨b1, 0, none⟩) n c1, .slice (some ⟨b2, 0, none⟩) m c2] w (DotPost n m f g w) := by
  have H1 := Lib.hid h1
  have H2 := Lib.hid h2
  clear h1 h2
  have HA := Lib.hid (areFew2 n m w)
  have ed : (decide ((n : Int) ≤ 256) && decide ((n : Int) = (m : Int))) = (decide (n ≤ 256) && decide (n = m)) := by
    congr 1
    · exact decide_eq_decide.2 (by omega)
    · exact decide_eq_decide.2 (by omega)
  rw [ed] at HA
  clear ed
  cases hv : (decide (n ≤ 256) && decide (n = m)) with
  | true =>
    rw [hv] at HA
    have hv' : n ≤ 256 ∧ n = m := by simpa using hv
    obtain ⟨hn2, rfl⟩ := hv'
    clear hv
    go_enter Try.func13, Try.ntmps13
    go_wp2_with fail
    refine HA.out.mono ?_
    rintro e w1 ⟨rfl, hb⟩
    go_wp2_with fail
    have HB := Lib.hid hb
    clear hb
    go_loopw [6, 18] (fun s i wr => ∃ k d r : Nat, k ≤ n ∧ i = .int .i64 k ∧ s = .float .f32 r ∧ cl .f32 r = fdot f g k ∧ (Lit.float .f32 r).wf = true ∧ wr = w1.drewN d) (fun _ i _ => n - (intOf i).toNat)
    case atStart => exact ⟨0, 0, 0, Nat.zero_le _, rfl, rfl, cl_zero _, wf0, rfl⟩
    case round =>
      obtain ⟨k, d, r, hk, rfl, rfl, hr, hwr, rfl⟩ := hrel
      by_cases hlt : k < n
      · have x1 : w1.cell? ⟨b1, k, none⟩ = some (.float .f32 (f k)) := by
          rw [HB.out.cell (p := ⟨b1, k, none⟩) (heap_lt (H1.out k hlt))]; exact H1.out k hlt
        have x2 : w1.cell? ⟨b2, k, none⟩ = some (.float .f32 (g k)) := by
          rw [HB.out.cell (p := ⟨b2, k, none⟩) (heap_lt (H2.out k hlt))]; exact H2.out k hlt
        go_wp2_with (refine wpList_fbin .f32 _ _ rfl rfl rfl rfl ?_; intro q m hq hwq)
        go_roundw
        case rel => exact ⟨k + 1, _, q, by omega, by go_num, rfl, by rw [hq, hr]; show fbin .add .f32 _ _ = fbin .add .f32 _ _; congr 1, hwq, rfl⟩
        case measure => simp [intOf]; omega
      · have hke : k = n := by omega
        have HE := Lib.hid hke
        clear hke
        go_wp2
        go_ret2
        refine ⟨r, ?_, by rw [if_pos ⟨hn2, rfl⟩, hr, HE.out], hwr, below_drewN HB.out _⟩
        rw [decide_eq_true hn2]; simp
  | false =>
    rw [hv] at HA
    have hv' : ¬ (n ≤ 256 ∧ n = m) := by simpa using hv
    have HV := Lib.hid hv
    clear hv
    go_enter Try.func13, Try.ntmps13
    go_wp2_with fail
    refine HA.out.mono ?_
    rintro e w1 ⟨rfl, hb⟩
    go_wp2_with fail
    go_ret2
    refine ⟨0, ?_, by rw [if_neg hv']; exact cl_zero _, wf0, hb⟩
    rw [HV.out]; rfl

theorem law_DotNumbers (a : Option Addr) (n c : Nat) (f : Nat → Nat) (a' : Option Addr) (m c' : Nat) (g : Nat → Nat) (w : World) (hr : Row w a n c (fun i => .float .f32 (f i)) ∧ ∀ i, i < n → (Lit.float .f32 (f i)).wf = true)
    (hs : Row w a' m c' (fun i => .float .f32 (g i)) ∧ ∀ i, i < m → (Lit.float .f32 (g i)).wf = true) :
    Calls Try.prog 4 #[.slice a n c, .slice a' m c'] w fun e w' => e = .returned (.bool true) ∧ Below w.heap.size w w' := by
  by_cases hn : n ≤ 1048576
  · have e0 := wrap_gt hn
    by_cases hm : m ≤ 1048576
    · have e1 := wrap_gt hm
      have HR := Lib.hid hr.1
      have HS := Lib.hid hs.1
      clear hr hs
      go_enter Try.func4, Try.ntmps4
      go_wp2_with fail
      refine (toF_b a n c f _ HR.out hn).mono ?_
      rintro e w1 ⟨rfl, r1, b1⟩
      have R1 := Lib.hid r1
      have B1 := Lib.hid b1
      clear r1 b1
      go_wp2_with fail
      refine (toF_b a' m c' g _ (HS.out.below B1.out) hm).mono ?_
      rintro e w2 ⟨rfl, r2, b2⟩
      have R2 := Lib.hid r2
      have R1b := Lib.hid (row_below R1.out b2)
      have B2 := Lib.hid (B1.out.trans (b2.mono B1.out.size))
      clear r2 b2 R1 B1
      go_wp2_with fail
      refine (specDot_c _ _ n m n m f g _ hn hm R1b.out R2.out).mono ?_
      rintro e w3 ⟨r, rfl, hr, hwr, b3⟩
      have B3 := Lib.hid (B2.out.trans (b3.mono B2.out.size))
      clear b3 R1b R2 B2
      go_wp2_with fail
      refine (toF_b a n c f _ (HR.out.below B3.out) hn).mono ?_
      rintro e w4 ⟨rfl, r4, b4⟩
      have R4 := Lib.hid r4
      have B4 := Lib.hid (B3.out.trans (b4.mono B3.out.size))
      clear r4 b4
      go_wp2_with fail
      refine (toF_b a' m c' g _ (HS.out.below B4.out) hm).mono ?_
      rintro e w5 ⟨rfl, r5, b5⟩
      have R5 := Lib.hid r5
      have R4b := Lib.hid (row_below R4.out b5)
      have B5 := Lib.hid (B4.out.trans (b5.mono B4.out.size))
      clear r5 b5 R4
      go_wp2_with fail
      refine (implDot_c _ _ n m n m f g _ hn hm R4b.out R5.out).mono ?_
      rintro e w6 ⟨r', rfl, hr', hwr', b6⟩
      have R4c := Lib.hid (row_below R4b.out b6)
      have R5c := Lib.hid (row_below R5.out b6)
      have B6 := Lib.hid (B5.out.trans (b6.mono B5.out.size))
      clear b6 R4b R5 B5
      have HRR := Lib.hid hr
      have HRR' := Lib.hid hr'
      clear hr hr'
      go_wp2_with (refine wpList_widen _ rfl Try.underlying23 Try.underlying28 rfl ?_; intro u n6 hu hwu)
      refine (sameFloat_c _ _ _ (by rw [hu, HRR.out, ← HRR'.out]; assumption)).mono ?_
      rintro e w7 ⟨rfl, m7, rfl⟩
      go_wp2_with fail
      refine (toF_b a n c f _ (HR.out.below (below_drewN B6.out _)) hn).mono ?_
      rintro e w8 ⟨rfl, r8, b8⟩
      have R8 := Lib.hid r8
      have R4d := Lib.hid (row_below (w := w6.drewN _) R4c.out b8)
      have R5d := Lib.hid (row_below (w := w6.drewN _) R5c.out b8)
      have B8 := Lib.hid ((below_drewN B6.out _).trans (b8.mono (below_drewN B6.out _).size))
      clear r8 b8 R4c R5c
      go_wp2_with fail
      refine (eqFloat32S_c _ _ n n n f f _ hn R4d.out R8.out (fun _ _ => rfl)).mono ?_
      rintro e w9 ⟨rfl, m9, rfl⟩
      go_wp2_with fail
      refine (toF_b a' m c' g _ (HS.out.below (below_drewN B8.out _)) hm).mono ?_
      rintro e w10 ⟨rfl, r10, b10⟩
      have R10 := Lib.hid r10
      have R5e := Lib.hid (row_below (w := w8.drewN _) R5d.out b10)
      have B10 := Lib.hid ((below_drewN B8.out _).trans (b10.mono (below_drewN B8.out _).size))
      clear r10 b10
      go_wp2_with fail
      refine (eqFloat32S_c _ _ m m m g g _ hm R5e.out R10.out (fun _ _ => rfl)).mono ?_
      rintro e w11 ⟨rfl, m11, rfl⟩
      go_wp2_with fail
      go_ret
      exact ⟨rfl, below_drewN B10.out _⟩
    · have e1 : (1048576 : Int) < (m : Int) := by omega
      clear hr hs
      go_enter Try.func4, Try.ntmps4
      go_wp2_with fail
      go_ret
      exact lawOk0
  · have e0 : (1048576 : Int) < (n : Int) := by omega
    clear hr hs
    go_enter Try.func4, Try.ntmps4
    go_wp2_with fail
    go_ret
    exact lawOk0
end Go.Proofs.Ytnnaphjoekeelaa
