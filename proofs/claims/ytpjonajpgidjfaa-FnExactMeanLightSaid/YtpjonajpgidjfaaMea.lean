/-
  The contracts of the mean light of a picture. No condition.
-/
import Derived.Test.YtpjonajpgidjfaaRng
namespace Go.Proofs.Ytpjonajpgidjfaa
set_option linter.unusedVariables false
open Go.RowKit Ieee

theorem specSum_c (b n c : Nat) (f : Nat → Nat) (w : World) (hn : n ≤ 1048576) (h1 : ∀ i, i < n → w.cell? ⟨b, i, none⟩ = some (.float .f32 (f i))) :
    Calls Try.prog 55 #[.slice (some ⟨b, 0, none⟩) n c] w fun e w' => RetF .f32 w (fsum f n) e w' := by
  have H1 := Lib.hid h1
  clear h1
  go_enter Try.func55, Try.ntmps55
  go_wp2
  go_loopw [3, 4] (fun s i wr => ∃ k d r : Nat, k ≤ n ∧ i = .int .i64 k ∧ s = .float .f32 r ∧ Hid (cl .f32 r = fsum f k) ∧ (Lit.float .f32 r).wf = true ∧ wr = w.drewN d) (fun _ i _ => n - (intOf i).toNat)
  case atStart => exact ⟨0, 0, 0, Nat.zero_le _, rfl, rfl, Lib.hid (cl_zero .f32), rfl, rfl⟩
  case round =>
    obtain ⟨k, d, r, hk, rfl, rfl, hr, hw, rfl⟩ := hrel
    by_cases hlt : k < n
    · have x1 := H1.out k hlt
      go_wp2_with (refine wpList_fbin .f32 _ _ rfl rfl rfl rfl ?_; intro q m hq hwq)
      go_roundw
      case rel => exact ⟨k + 1, _, q, by omega, by go_num, rfl, Lib.hid (by rw [hq, hr.out]; rfl), hwq, rfl⟩
      case measure => simp [intOf]; omega
    · have hke : k = n := by omega
      subst hke
      go_wp2
      go_ret
      exact retF _ hr.out hw
theorem implSum_c (b n c : Nat) (f : Nat → Nat) (w : World) (hn : n ≤ 1048576) (h1 : ∀ i, i < n → w.cell? ⟨b, i, none⟩ = some (.float .f32 (f i))) :
    Calls Try.prog 92 #[.slice (some ⟨b, 0, none⟩) n c] w fun e w' => RetF .f32 w (fsum f n) e w' := by
  have H1 := Lib.hid h1
  clear h1
  go_enter Try.func92, Try.ntmps92
  go_wp2
  go_loopw [3, 8] (fun s i wr => ∃ k d r : Nat, k ≤ n ∧ i = .int .i64 k ∧ s = .float .f32 r ∧ Hid (cl .f32 r = fsum f k) ∧ (Lit.float .f32 r).wf = true ∧ wr = w.drewN d) (fun _ i _ => n - (intOf i).toNat)
  case atStart => exact ⟨0, 0, 0, Nat.zero_le _, rfl, rfl, Lib.hid (cl_zero .f32), rfl, rfl⟩
  case round =>
    obtain ⟨k, d, r, hk, rfl, rfl, hr, hw, rfl⟩ := hrel
    by_cases hlt : k < n
    · have x1 := H1.out k hlt
      go_wp2_with (refine wpList_fbin .f32 _ _ rfl rfl rfl rfl ?_; intro q m hq hwq)
      go_roundw
      case rel => exact ⟨k + 1, _, q, by omega, by go_num, rfl, Lib.hid (by rw [hq, hr.out]; rfl), hwq, rfl⟩
      case measure => simp [intOf]; omega
    · have hke : k = n := by omega
      subst hke
      go_wp2
      go_ret
      exact retF _ hr.out hw
/-- The class of the mean. -/
def meanC (f : Nat → Nat) (n : Nat) : Option Nat := fbin .quo .f32 (fsum f n) (cl .f32 (floatOfInt .f32 (n : Int)))

/-- A number with its flag: nought where it is not finite. -/
def NumR (C : Option Nat) (w : World) (e : Ending) (w' : World) : Prop := ∃ r, e = .returned (.tuple #[.float .f32 r, .bool (fin .f32 C)]) ∧ cl .f32 r = cond (fin .f32 C) C (some 0) ∧ ∃ d, w' = w.drewN d

theorem specNum_c (x : Nat) (w : World) : Calls Try.prog 54 #[.float .f32 x] w (NumR (cl .f32 x) w) := by
  cases h : fin .f32 (cl .f32 x) with
  | true =>
    have H := Lib.hid h
    clear h
    go_enter Try.func54, Try.ntmps54
    go_wp2_with fail
    refine (l01Finite_c _ _).mono ?_; rintro e w2 ⟨rfl, m, rfl⟩; rw [H.out]
    go_wp2_with fail
    go_ret2
    exact ⟨x, by rw [H.out]; rfl, by rw [H.out]; rfl, _, rfl⟩
  | false =>
    have H := Lib.hid h
    clear h
    go_enter Try.func54, Try.ntmps54
    go_wp2_with fail
    refine (l01Finite_c _ _).mono ?_; rintro e w2 ⟨rfl, m, rfl⟩; rw [H.out]
    go_wp2_with fail
    go_ret2
    exact ⟨0, by rw [H.out]; rfl, by rw [H.out]; exact cl_zero .f32, _, rfl⟩
theorem implNum_c (x : Nat) (w : World) : Calls Try.prog 56 #[.float .f32 x] w (NumR (cl .f32 x) w) := by
  cases h : fin .f32 (cl .f32 x) with
  | true =>
    have H := Lib.hid h
    clear h
    go_enter Try.func56, Try.ntmps56
    go_wp2_with fail
    refine (implIsFinite_c _ _).mono ?_; rintro e w2 ⟨rfl, m, rfl⟩; rw [H.out]
    go_wp2_with fail
    go_ret2
    exact ⟨x, by rw [H.out]; rfl, by rw [H.out]; rfl, _, rfl⟩
  | false =>
    have H := Lib.hid h
    clear h
    go_enter Try.func56, Try.ntmps56
    go_wp2_with fail
    refine (implIsFinite_c _ _).mono ?_; rintro e w2 ⟨rfl, m, rfl⟩; rw [H.out]
    go_wp2_with fail
    go_ret2
    exact ⟨0, by rw [H.out]; rfl, by rw [H.out]; exact cl_zero .f32, _, rfl⟩
theorem implMean_c (b n c : Nat) (f : Nat → Nat) (w : World) (hn : n ≤ 1048576) (h1 : ∀ i, i < n → w.cell? ⟨b, i, none⟩ = some (.float .f32 (f i))) :
    Calls Try.prog 57 #[.slice (some ⟨b, 0, none⟩) n c] w fun e w' => RetF .f32 w (meanC f n) e w' := by
  have S := Lib.hid (fun w h1 => implSum_c b n c f w hn h1)
  have H1 := Lib.hid h1
  clear h1
  go_enter Try.func57, Try.ntmps57
  go_wp2_with fail
  refine (S.out _ H1.out).mono ?_; rintro e w2 ⟨r, m, rfl, hr, hw, rfl⟩
  go_wp2_with (refine wpList_fbin .f32 _ _ rfl rfl rfl rfl ?_; intro q m hq hwq)
  go_ret
  exact retF _ (by rw [hq, hr]; rfl) hwq
/-- The mean with its flag. -/
def meanK (wi hi : Int) (n : Nat) (f : Nat → Nat) : Bool := picB wi hi n f && fin .f32 (meanC f n)
def MeanR (wi hi : Int) (n : Nat) (f : Nat → Nat) (w : World) (e : Ending) (w' : World) : Prop :=
  ∃ r, e = .returned (.tuple #[.float .f32 r, .bool (meanK wi hi n f)]) ∧ cl .f32 r = cond (meanK wi hi n f) (meanC f n) (some 0) ∧ Below w.heap.size w w'

theorem specMean_c (wi hi : Int) (b n c : Nat) (f : Nat → Nat) (w : World) (hn : n ≤ 1048576) (hr : RowAt w b n f) :
    Calls Try.prog 24 #[picV wi hi (some ⟨b, 0, none⟩) n c] w (MeanR wi hi n f w) := by
  have HR := Lib.hid hr
  have I := Lib.hid (fun p w => l02Is_c wi hi p b n c f w hn)
  have S := Lib.hid (fun w h1 => specSum_c b n c f w hn h1)
  clear hr
  unfold picV
  have MK : Hid (meanK wi hi n f = (picB wi hi n f && fin .f32 (meanC f n))) := by show _ = _; rfl
  cases hP : picB wi hi n f with
  | false =>
    have HP := Lib.hid hP
    clear hP
    go_enter Try.func24, Try.ntmps24
    go_wp2_with fail
    refine (I.out _ _ (by simp [go_sem]) (by simp [go_sem]) (by simp [go_sem]) (rowAt_mono HR.out ((Below.refl _ _).alloc (Nat.le_refl _) _)).2).mono ?_; rintro e w' ⟨rfl, m, rfl⟩
    rw [HP.out]
    go_wp2_with fail
    go_ret2
    exact ⟨0, by rw [MK.out, HP.out]; rfl, by rw [MK.out, HP.out]; exact cl_zero .f32, below_drewN ((Below.refl _ _).alloc (Nat.le_refl _) _) _⟩
  | true =>
    have HP := Lib.hid hP
    clear hP
    go_enter Try.func24, Try.ntmps24
    go_wp2_with fail
    refine (I.out _ _ (by simp [go_sem]) (by simp [go_sem]) (by simp [go_sem]) (rowAt_mono HR.out ((Below.refl _ _).alloc (Nat.le_refl _) _)).2).mono ?_; rintro e w' ⟨rfl, m, rfl⟩
    rw [HP.out]
    go_wp2_with fail
    have W0 := Lib.hid (rowAt_mono HR.out ((Below.refl _ _).alloc (Nat.le_refl _) (Obj.cells #[.int .i64 wi, .int .i64 hi, .slice (some ⟨b, 0, none⟩) n c] 27)))
    have BW := Lib.hid ((Below.refl w.heap.size w).alloc (Nat.le_refl _) (Obj.cells #[.int .i64 wi, .int .i64 hi, .slice (some ⟨b, 0, none⟩) n c] 27))
    have c2 : (w.alloc (Obj.cells #[.int .i64 wi, .int .i64 hi, .slice (some ⟨b, 0, none⟩) n c] 27)).cell? ⟨w.heap.size, 2, none⟩ = some (.slice (some ⟨b, 0, none⟩) n c) := by simp [go_sem]
    generalize w.alloc (Obj.cells #[.int .i64 wi, .int .i64 hi, .slice (some ⟨b, 0, none⟩) n c] 27) = w1 at W0 BW c2 ⊢
    obtain ⟨Y, hY⟩ : ∃ Y, Y = w.heap.size := ⟨_, rfl⟩
    rw [← hY] at c2 ⊢
    refine wp_region_free_lit (fun w' => ∃ d', w' = w1.drewN d') (fun j v => match j with
      | 0 => v = .pointer (some ⟨Y, 2, none⟩) | 1 => v = .slice (some ⟨b, 0, none⟩) n c | 2 => ∃ r, v = .float .f32 r ∧ cl .f32 r = fsum f n
      | 3 => v = .pointer (some ⟨Y, 2, none⟩) | 4 => v = .slice (some ⟨b, 0, none⟩) n c | 5 => v = .int .i64 n | 6 => v = .float .f32 (floatOfInt .f32 (n : Int))
      | 7 => ∃ r, v = .float .f32 r ∧ cl .f32 r = meanC f n | 8 => ∃ r, v = .tuple #[.float .f32 r, .bool (fin .f32 (meanC f n))] ∧ cl .f32 r = cond (fin .f32 (meanC f n)) (meanC f n) (some 0)
      | 9 => ∃ r, v = .float .f32 r ∧ cl .f32 r = cond (fin .f32 (meanC f n)) (meanC f n) (some 0) | 10 => v = .bool (fin .f32 (meanC f n))
      | 11 => ∃ r, v = .float .f32 r ∧ cl .f32 r = cond (fin .f32 (meanC f n)) (meanC f n) (some 0) | _ => v = .bool (fin .f32 (meanC f n))) (by kernel_rfl) (by kernel_rfl) ⟨_, World.drewN_drewN _ _ _⟩ ⟨?_, ?_, ?_, ?_, ?_, ?_, ?_, ?_, ?_, ?_, ?_, ?_, ?_, trivial⟩ ?_
    · intro ρ w' ⟨m, hw⟩ hx hd ho; subst hw
      have e : ρ (.tmp 1) = _ := ho 1 (out_of (by kernel_rfl))
      simp [execOp, e, Yields, Act.eval, go_sem]
      exact ⟨m, rfl⟩
    · intro ρ w' ⟨m, hw⟩ hx hd ho; subst hw
      have e : ρ (.tmp 6) = .pointer (some ⟨Y, 2, none⟩) := hd ⟨0, .data⟩ (by simp)
      simp [execOp, e, Yields, go_sem, c2]
      exact ⟨m, rfl⟩
    · intro ρ w' ⟨m, hw⟩ hx hd ho; subst hw
      have e : ρ (.tmp 7) = .slice (some ⟨b, 0, none⟩) n c := hd ⟨1, .data⟩ (by simp)
      have e2 : ρ (.func 55) = .func (.func 55) #[] #[] := hx _ (by simp)
      simp [execOp, e, e2, Yields, go_sem]
      refine (S.out _ (by intro i hi; rw [World.cell?_drewN]; exact W0.out.2 i hi)).mono ?_
      rintro e w'' ⟨r, m2, rfl, hr, hwr, rfl⟩
      exact ⟨_, rfl, ⟨r, rfl, hr⟩, _, World.drewN_drewN _ _ _⟩
    · intro ρ w' ⟨m, hw⟩ hx hd ho; subst hw
      have e : ρ (.tmp 1) = _ := ho 1 (out_of (by kernel_rfl))
      simp [execOp, e, Yields, Act.eval, go_sem]
      exact ⟨m, rfl⟩
    · intro ρ w' ⟨m, hw⟩ hx hd ho; subst hw
      have e : ρ (.tmp 9) = .pointer (some ⟨Y, 2, none⟩) := hd ⟨3, .data⟩ (by simp)
      simp [execOp, e, Yields, go_sem, c2]
      exact ⟨m, rfl⟩
    · intro ρ w' ⟨m, hw⟩ hx hd ho; subst hw
      have e : ρ (.tmp 10) = .slice (some ⟨b, 0, none⟩) n c := hd ⟨4, .data⟩ (by simp)
      simp [execOp, e, Yields, go_sem]
      exact ⟨m, rfl⟩
    · intro ρ w' ⟨m, hw⟩ hx hd ho; subst hw
      have e : ρ (.tmp 11) = .int .i64 n := hd ⟨5, .data⟩ (by simp)
      simp [execOp, e, Yields, go_sem]
      exact ⟨m, rfl⟩
    · intro ρ w' ⟨m, hw⟩ hx hd ho; subst hw
      obtain ⟨r, e0, hc0⟩ : ∃ r, ρ (.tmp 8) = .float .f32 r ∧ cl .f32 r = fsum f n := hd ⟨2, .data⟩ (by simp)
      have e1 : ρ (.tmp 12) = .float .f32 (floatOfInt .f32 (n : Int)) := hd ⟨6, .data⟩ (by simp)
      obtain ⟨q, k, hr, hc, _⟩ := run_fbin_op (P := Try.prog) (w1.drewN m) .f32 _ _ (show arithOp .quo = true from rfl) e0 e1
      rw [hr]
      exact ⟨⟨q, rfl, by rw [hc, hc0]; rfl⟩, _, World.drewN_drewN _ _ _⟩
    · intro ρ w' ⟨m, hw⟩ hx hd ho; subst hw
      obtain ⟨r, e0, hc0⟩ : ∃ r, ρ (.tmp 13) = .float .f32 r ∧ cl .f32 r = meanC f n := hd ⟨7, .data⟩ (by simp)
      have e2 : ρ (.func 54) = .func (.func 54) #[] #[] := hx _ (by simp)
      simp [execOp, e0, e2, Yields, go_sem]
      refine (specNum_c r _).mono ?_
      rintro e w'' ⟨q, rfl, hq, m2, rfl⟩
      rw [hc0] at hq ⊢
      exact ⟨_, rfl, ⟨q, rfl, hq⟩, _, World.drewN_drewN _ _ _⟩
    · intro ρ w' ⟨m, hw⟩ hx hd ho; subst hw
      obtain ⟨r, e0, hc0⟩ : ∃ r, ρ (.tmp 14) = .tuple #[.float .f32 r, .bool (fin .f32 (meanC f n))] ∧ cl .f32 r = cond (fin .f32 (meanC f n)) (meanC f n) (some 0) := hd ⟨8, .data⟩ (by simp)
      simp [execOp, e0, Yields, go_sem]
      exact ⟨hc0, m, rfl⟩
    · intro ρ w' ⟨m, hw⟩ hx hd ho; subst hw
      obtain ⟨r, e0, hc0⟩ : ∃ r, ρ (.tmp 14) = .tuple #[.float .f32 r, .bool (fin .f32 (meanC f n))] ∧ cl .f32 r = cond (fin .f32 (meanC f n)) (meanC f n) (some 0) := hd ⟨8, .data⟩ (by simp)
      simp [execOp, e0, Yields, go_sem]
      exact ⟨m, rfl⟩
    · intro ρ w' ⟨m, hw⟩ hx hd ho; subst hw
      obtain ⟨r, e0, hc0⟩ : ∃ r, ρ (.tmp 15) = .float .f32 r ∧ cl .f32 r = cond (fin .f32 (meanC f n)) (meanC f n) (some 0) := hd ⟨9, .data⟩ (by simp)
      simp [execOp, e0, Yields, go_sem]
      exact ⟨hc0, m, rfl⟩
    · intro ρ w' ⟨m, hw⟩ hx hd ho; subst hw
      have e0 : ρ (.tmp 16) = .bool (fin .f32 (meanC f n)) := hd ⟨10, .data⟩ (by simp)
      simp [execOp, e0, Yields, go_sem]
      exact ⟨m, rfl⟩
    · intro vs hvs w' ⟨m, hw⟩
      subst hw
      obtain ⟨r, h11, hr⟩ : ∃ r, vs 11 = .float .f32 r ∧ cl .f32 r = cond (fin .f32 (meanC f n)) (meanC f n) (some 0) := hvs 11 (by decide)
      have h12 : vs 12 = .bool (fin .f32 (meanC f n)) := hvs 12 (by decide)
      have HC := Lib.hid hr
      clear hvs hr
      simp [putN, Act.put, h11, h12]
      clear h11 h12
      go_wp2
      go_ret2
      exact ⟨r, by rw [MK.out, HP.out]; rfl, by rw [MK.out, HP.out]; exact HC.out, below_drewN BW.out _⟩
theorem implMeanLight_c (wi hi : Int) (b n c : Nat) (f : Nat → Nat) (w : World) (hn : n ≤ 1048576) (hr : RowAt w b n f) :
    Calls Try.prog 25 #[picV wi hi (some ⟨b, 0, none⟩) n c] w (MeanR wi hi n f w) := by
  have HR := Lib.hid hr
  have I := Lib.hid (fun w => implValid_c wi hi b n c f w hn)
  have S := Lib.hid (fun w h1 => implMean_c b n c f w hn h1)
  clear hr
  unfold picV at I ⊢
  have MK : Hid (meanK wi hi n f = (picB wi hi n f && fin .f32 (meanC f n))) := by show _ = _; rfl
  cases hP : picB wi hi n f with
  | false =>
    have HP := Lib.hid hP
    clear hP
    go_enter Try.func25, Try.ntmps25
    go_wp2_with fail
    refine (I.out _ (rowAt_mono HR.out ((Below.refl _ _).alloc (Nat.le_refl _) _))).mono ?_; rintro e w1 ⟨rfl, b1⟩
    rw [HP.out]
    go_wp2_with fail
    go_ret2
    exact ⟨0, by rw [MK.out, HP.out]; rfl, by rw [MK.out, HP.out]; exact cl_zero .f32, below_trans ((Below.refl _ _).alloc (Nat.le_refl _) _) b1⟩
  | true =>
    have HP := Lib.hid hP
    clear hP
    go_enter Try.func25, Try.ntmps25
    go_wp2_with fail
    refine (I.out _ (rowAt_mono HR.out ((Below.refl _ _).alloc (Nat.le_refl _) _))).mono ?_; rintro e w1 ⟨rfl, b1⟩
    have c2 : w1.cell? ⟨w.heap.size, 2, none⟩ = some (.slice (some ⟨b, 0, none⟩) n c) := by rw [bcell b1 _ _ (by simp)]; simp [go_sem]
    have B1 := Lib.hid (below_trans ((Below.refl _ _).alloc (Nat.le_refl _) _) b1)
    clear b1
    rw [HP.out]
    go_wp2_with fail
    refine (S.out _ (rowAt_mono HR.out B1.out).2).mono ?_; rintro e w' ⟨r, m2, rfl, hr, hwr, rfl⟩
    have HC := Lib.hid hr
    clear hr
    go_wp2_with fail
    refine (implNum_c _ _).mono ?_; rintro e w' ⟨q, rfl, hq, m3, rfl⟩
    rw [HC.out] at hq ⊢
    have HQ := Lib.hid hq
    clear hq
    go_wp2_with fail
    go_ret2
    exact ⟨q, by rw [MK.out, HP.out]; rfl, by rw [MK.out, HP.out]; exact HQ.out, below_drewN B1.out _⟩
end Go.Proofs.Ytpjonajpgidjfaa
