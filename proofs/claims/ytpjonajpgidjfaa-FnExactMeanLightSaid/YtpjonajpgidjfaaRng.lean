/-
  The contracts of the least and the greatest light of a picture. No condition.
-/
import Derived.Test.YtpjonajpgidjfaaPic
import Derived.OwnWalk
namespace Go.Proofs.Ytpjonajpgidjfaa
set_option linter.unusedVariables false
open Go.RowKit Ieee

def ltB (x y : Nat) : Bool := FloatKind.f32.format.order x y == some .lt
def gtB (x y : Nat) : Bool := FloatKind.f32.format.order x y == some .gt
def loF (f : Nat → Nat) : Nat → Nat
  | 0 => f 0
  | k + 1 => cond (ltB (f (k + 1)) (loF f k)) (f (k + 1)) (loF f k)
def hiF (f : Nat → Nat) : Nat → Nat
  | 0 => f 0
  | k + 1 => cond (gtB (f (k + 1)) (hiF f k)) (f (k + 1)) (hiF f k)

theorem lt_self (x : Nat) : (FloatKind.f32.format.order x x == some .lt) = false := by
  rw [order_cl, ford_self]; cases cl .f32 x <;> rfl
theorem gt_self (x : Nat) : (FloatKind.f32.format.order x x == some .gt) = false := by
  rw [order_cl, ford_self]; cases cl .f32 x <;> rfl

theorem specRange_c (b n c : Nat) (f : Nat → Nat) (w : World) (h0 : 0 < n) (hn : n ≤ 1048576) (h1 : ∀ i, i < n → w.cell? ⟨b, i, none⟩ = some (.float .f32 (f i))) :
    Calls Try.prog 52 #[.slice (some ⟨b, 0, none⟩) n c] w fun e w' => e = .returned (.tuple #[.float .f32 (loF f (n - 1)), .float .f32 (hiF f (n - 1))]) ∧ ∃ d, w' = w.drewN d := by
  have H1 := Lib.hid h1
  have x0 := h1 0 h0
  clear h1
  go_enter Try.func52, Try.ntmps52
  go_wp2
  go_loopw [4, 5, 6] (fun lo hi i wr => ∃ k d : Nat, k < n ∧ i = .int .i64 ((k + 1 : Nat) : Int) ∧ lo = .float .f32 (loF f k) ∧ hi = .float .f32 (hiF f k) ∧ wr = w.drewN d) (fun _ _ i _ => n - (intOf i).toNat)
  case atStart => exact ⟨0, 0, h0, rfl, rfl, rfl, rfl⟩
  case round =>
    obtain ⟨k, d, hk, rfl, rfl, rfl, rfl⟩ := hrel
    by_cases hlt : k + 1 < n
    · have x1 := H1.out (k + 1) hlt
      have dl : Hid (∀ b, (FloatKind.f32.format.order (f (k + 1)) (loF f k) == some .lt) = b → loF f (k + 1) = cond b (f (k + 1)) (loF f k)) := fun b hb => by rw [← hb]; rfl
      have dh : Hid (∀ b, (FloatKind.f32.format.order (f (k + 1)) (hiF f k) == some .gt) = b → hiF f (k + 1) = cond b (f (k + 1)) (hiF f k)) := fun b hb => by rw [← hb]; rfl
      cases hb1 : (FloatKind.f32.format.order (f (k + 1)) (loF f k) == some .lt) <;> cases hb2 : (FloatKind.f32.format.order (f (k + 1)) (hiF f k) == some .gt) <;>
      · have E1 := Lib.hid (dl.out _ hb1)
        have E2 := Lib.hid (dh.out _ hb2)
        clear dl dh
        go_wp2
        go_roundw
        case rel => exact ⟨k + 1, _, hlt, by go_num, by rw [E1.out]; rfl, by rw [E2.out]; rfl, rfl⟩
        case measure => simp [intOf]; omega
    · have hke : n - 1 = k := by omega
      have hd : ¬ ((k : Int) + 1 < (n : Int)) := by omega
      have HE := Lib.hid hke
      clear hke
      go_wp2
      go_ret2
      exact ⟨by rw [HE.out]; rfl, _, rfl⟩
theorem implRange_c (b n c : Nat) (f : Nat → Nat) (w : World) (h0 : 0 < n) (hn : n ≤ 1048576) (h1 : ∀ i, i < n → w.cell? ⟨b, i, none⟩ = some (.float .f32 (f i))) :
    Calls Try.prog 53 #[.slice (some ⟨b, 0, none⟩) n c] w fun e w' => e = .returned (.tuple #[.float .f32 (loF f (n - 1)), .float .f32 (hiF f (n - 1))]) ∧ ∃ d, w' = w.drewN d := by
  have H1 := Lib.hid h1
  have x0 := h1 0 h0
  clear h1
  go_enter Try.func53, Try.ntmps53
  go_wp2
  go_quiet (fail)
  go_wp2
  go_loopw [4, 5, 16] (fun lo hi i wr => ∃ k d : Nat, k ≤ n ∧ i = .int .i64 k ∧ lo = .float .f32 (loF f (k - 1)) ∧ hi = .float .f32 (hiF f (k - 1)) ∧ wr = w.drewN d) (fun _ _ i _ => n - (intOf i).toNat)
  case atStart => exact ⟨0, _, Nat.zero_le _, rfl, rfl, rfl, rfl⟩
  case round =>
    obtain ⟨k, d, hk, rfl, rfl, rfl, rfl⟩ := hrel
    by_cases hlt : k < n
    · have x1 := H1.out k hlt
      have dl : Hid (∀ b, (FloatKind.f32.format.order (f k) (loF f (k - 1)) == some .lt) = b → loF f (k + 1 - 1) = cond b (f k) (loF f (k - 1))) := fun b hb => by
        cases k with
        | zero => have := lt_self (f 0); rw [show (FloatKind.f32.format.order (f 0) (loF f (0 - 1)) == some .lt) = false from this] at hb; subst hb; rfl
        | succ j => rw [← hb]; rfl
      have dh : Hid (∀ b, (FloatKind.f32.format.order (f k) (hiF f (k - 1)) == some .gt) = b → hiF f (k + 1 - 1) = cond b (f k) (hiF f (k - 1))) := fun b hb => by
        cases k with
        | zero => have := gt_self (f 0); rw [show (FloatKind.f32.format.order (f 0) (hiF f (0 - 1)) == some .gt) = false from this] at hb; subst hb; rfl
        | succ j => rw [← hb]; rfl
      obtain ⟨L, hL⟩ : ∃ L, loF f (k - 1) = L := ⟨_, rfl⟩
      obtain ⟨G, hG⟩ : ∃ G, hiF f (k - 1) = G := ⟨_, rfl⟩
      rw [hL] at dl ⊢
      rw [hG] at dh ⊢
      clear hL hG
      cases hb1 : (FloatKind.f32.format.order (f k) L == some .lt) <;> cases hb2 : (FloatKind.f32.format.order (f k) G == some .gt) <;>
      · have E1 := Lib.hid (dl.out _ hb1)
        have E2 := Lib.hid (dh.out _ hb2)
        clear dl dh
        go_wp2
        go_roundw
        case rel => exact ⟨k + 1, _, hlt, by go_num, by rw [E1.out]; rfl, by rw [E2.out]; rfl, rfl⟩
        case measure => simp [intOf]; omega
    · have hke : n = k := by omega
      have HE := Lib.hid hke
      clear hke
      go_wp2
      go_ret2
      exact ⟨by rw [HE.out]; rfl, _, rfl⟩

theorem picB_pos {wi hi : Int} {n : Nat} {f : Nat → Nat} (h : picB wi hi n f = true) : 0 < n := by
  unfold picB at h
  simp only [Bool.and_eq_true, decide_eq_true_eq] at h
  have := prod_256 h.1
  omega

/-- What both say of a picture's range. -/
def RangeR (wi hi : Int) (n : Nat) (f : Nat → Nat) (w : World) (e : Ending) (w' : World) : Prop :=
  e = .returned (.tuple #[.float .f32 (cond (picB wi hi n f) (loF f (n - 1)) 0), .float .f32 (cond (picB wi hi n f) (hiF f (n - 1)) 0), .bool (picB wi hi n f)]) ∧ Below w.heap.size w w'

theorem specRangeOf_c (wi hi : Int) (b n c : Nat) (f : Nat → Nat) (w : World) (hn : n ≤ 1048576) (hr : RowAt w b n f) :
    Calls Try.prog 21 #[picV wi hi (some ⟨b, 0, none⟩) n c] w (RangeR wi hi n f w) := by
  have HR := Lib.hid hr
  have I := Lib.hid (fun p w => l02Is_c wi hi p b n c f w hn)
  clear hr
  unfold picV
  cases hP : picB wi hi n f with
  | false =>
    have HP := Lib.hid hP
    clear hP
    go_enter Try.func21, Try.ntmps21
    go_wp2_with fail
    refine (I.out _ _ (by simp [go_sem]) (by simp [go_sem]) (by simp [go_sem]) (rowAt_mono HR.out ((Below.refl _ _).alloc (Nat.le_refl _) _)).2).mono ?_; rintro e w' ⟨rfl, m, rfl⟩
    rw [HP.out]
    go_wp2_with fail
    go_ret3
    exact ⟨by rw [HP.out]; rfl, below_drewN ((Below.refl _ _).alloc (Nat.le_refl _) _) _⟩
  | true =>
    have h0 := picB_pos hP
    have R := Lib.hid (fun w h1 => specRange_c b n c f w h0 hn h1)
    have HP := Lib.hid hP
    clear hP
    go_enter Try.func21, Try.ntmps21
    go_wp2_with fail
    refine (I.out _ _ (by simp [go_sem]) (by simp [go_sem]) (by simp [go_sem]) (rowAt_mono HR.out ((Below.refl _ _).alloc (Nat.le_refl _) _)).2).mono ?_; rintro e w' ⟨rfl, m, rfl⟩
    rw [HP.out]
    go_wp2_with fail
    refine (R.out _ (rowAt_mono HR.out (below_drewN ((Below.refl _ _).alloc (Nat.le_refl _) _) _)).2).mono ?_; rintro e w' ⟨rfl, m2, rfl⟩
    go_wp2_with fail
    go_ret3
    exact ⟨by rw [HP.out]; rfl, below_drewN ((Below.refl _ _).alloc (Nat.le_refl _) _) _⟩
theorem implRangeOf_c (wi hi : Int) (b n c : Nat) (f : Nat → Nat) (w : World) (hn : n ≤ 1048576) (hr : RowAt w b n f) :
    Calls Try.prog 22 #[picV wi hi (some ⟨b, 0, none⟩) n c] w (RangeR wi hi n f w) := by
  have HR := Lib.hid hr
  have I := Lib.hid (fun w => implValid_c wi hi b n c f w hn)
  clear hr
  unfold picV at I ⊢
  cases hP : picB wi hi n f with
  | false =>
    have HP := Lib.hid hP
    clear hP
    go_enter Try.func22, Try.ntmps22
    go_wp2_with fail
    refine (I.out _ (rowAt_mono HR.out ((Below.refl _ _).alloc (Nat.le_refl _) _))).mono ?_; rintro e w1 ⟨rfl, b1⟩
    rw [HP.out]
    go_wp2_with fail
    go_ret3
    exact ⟨by rw [HP.out]; rfl, below_trans ((Below.refl _ _).alloc (Nat.le_refl _) _) b1⟩
  | true =>
    have h0 := picB_pos hP
    have R := Lib.hid (fun w h1 => implRange_c b n c f w h0 hn h1)
    have HP := Lib.hid hP
    clear hP
    go_enter Try.func22, Try.ntmps22
    go_wp2_with fail
    refine (I.out _ (rowAt_mono HR.out ((Below.refl _ _).alloc (Nat.le_refl _) _))).mono ?_; rintro e w1 ⟨rfl, b1⟩
    have c2 : w1.cell? ⟨w.heap.size, 2, none⟩ = some (.slice (some ⟨b, 0, none⟩) n c) := by rw [bcell b1 _ _ (by simp)]; simp [go_sem]
    have B1 := Lib.hid (below_trans ((Below.refl _ _).alloc (Nat.le_refl _) _) b1)
    clear b1
    rw [HP.out]
    go_wp2_with fail
    refine (R.out _ (rowAt_mono HR.out B1.out).2).mono ?_; rintro e w' ⟨rfl, m2, rfl⟩
    go_wp2_with fail
    go_ret3
    exact ⟨by rw [HP.out]; rfl, below_drewN B1.out _⟩
end Go.Proofs.Ytpjonajpgidjfaa
