/-
  Scaled and clipped pictures: what both give, whatever the picture; a copy whose block can be marked. No condition.
-/
import Derived.Test.YtpjonajpgidjfaaCli
namespace Go.Proofs.Ytpjonajpgidjfaa
set_option linter.unusedVariables false
open Go.RowKit Ieee

/-- A copy of a picture: its lights lie in a block of their own, which is known. -/
def CopiedM (w : World) (wi hi : Int) (n : Nat) (f : Nat → Nat) (e : Ending) (w' : World) : Prop :=
  ∃ B, e = .returned (picV wi hi (some ⟨B, 0, none⟩) n n) ∧ w.heap.size ≤ B ∧ B < w'.heap.size ∧ Below w.heap.size w w' ∧ (∀ i, i < n → w'.cell? ⟨B, i, none⟩ = some (.float .f32 (f i))) ∧ Marked w' B n 0

theorem toPicM_c (wi hi : Int) (a : Option Addr) (n c : Nat) (f : Nat → Nat) (w : World) (hr : Row w a n c (fun i => .float .f32 (f i))) (hn : n ≤ 1048576) :
    Calls Try.prog 16 #[picV wi hi a n c] w (CopiedM w wi hi n f) := by
  have T := Lib.hid (fun w hr => toFloat32S_c a n c f w hr hn)
  have HR := Lib.hid hr
  clear hr
  unfold picV
  go_enter Try.func16, Try.ntmps16
  go_wp2_with fail
  refine (T.out _ (row_mono HR.out ((((Below.refl _ _).alloc (Nat.le_refl _) _).alloc (by simp) _).alloc (by simp; omega) _))).mono ?_; rintro e w' ⟨rfl, rfl⟩
  go_wp2_with fail
  refine bodyPost_ret (v := picV wi hi (some ⟨w.heap.size + 1 + 1 + 1, 0, none⟩) n n) (by simp [results, Try.results16, go_sem, picV]) rfl ?_
  refine ⟨_, rfl, by omega, by simp, (((((Below.refl _ _).alloc (Nat.le_refl _) _).alloc (by simp) _).alloc (by simp; omega) _).alloc (by simp; omega) _), ?_, ?_⟩
  · intro i hi
    rw [World.cell?_alloc_at (hn := by simp), rowA_get _ hi]
  · refine ⟨rowA (fun i => .float .f32 (f i)) n, ?_, by rw [size_rowA]; exact Nat.le_refl _, fun i hi => absurd hi (Nat.not_lt_zero _)⟩
    have h := Has.ofAlloc (((w.alloc (.cells #[.int .i64 wi, .int .i64 hi, .slice a n c] 24)).alloc (.cells #[.int .i64 wi, .int .i64 hi, .slice (some ⟨w.heap.size + 1 + 1 + 1, 0, none⟩) n n] 27)).alloc (.cells #[.int .i64 wi, .int .i64 hi, .slice (some ⟨w.heap.size + 1 + 1 + 1, 0, none⟩) n n] 27)) 32 (rowA (fun i => .float .f32 (f i)) n)
    simpa using h

theorem pic_range {wi hi : Int} {n : Nat} {f : Nat → Nat} (h : picB wi hi n f = true) : 0 < n ∧ n ≤ 256 := by
  unfold picB at h
  simp only [Bool.and_eq_true, decide_eq_true_eq] at h
  have := prod_256 h.1
  omega

theorem scale_both (wi hi : Int) (n : Nat) (f : Nat → Nat) (y : Nat) (hn : n ≤ 1048576) (hz : ∀ i, i < n → (Lit.float .f32 (f i)).wf = true) : ∃ P cls, (P = true → 0 < n ∧ n ≤ 256) ∧
    (∀ b w, RowAt w b n f → Calls Try.prog 32 #[.agg #[.int .i64 wi, .int .i64 hi, .slice (some ⟨b, 0, none⟩) n n], .float .f32 y] w (OutR w P wi hi n cls)) ∧
    (∀ b w, RowAt w b n f → Calls Try.prog 33 #[.agg #[.int .i64 wi, .int .i64 hi, .slice (some ⟨b, 0, none⟩) n n], .float .f32 y] w (OutR w P wi hi n cls)) := by
  cases hP : picB wi hi n f with
  | false => exact ⟨false, fun _ => none, (fun h => by cases h), fun b w hr => specScale_p wi hi b n n f y _ hn w hr hP, fun b w hr => implScale_p wi hi b n n f y _ hn w hr hP⟩
  | true =>
    obtain ⟨h0, h2⟩ := pic_range hP
    cases hy : fin .f32 (cl .f32 y) with
    | false => exact ⟨false, fun _ => none, (fun h => by cases h), fun b w hr => specScale_y wi hi b n n f y _ hn w hr hP hy, fun b w hr => implScale_y wi hi b n n f y _ hn w hr hP hy⟩
    | true => exact ⟨_, scaleC f y, (fun _ => ⟨h0, h2⟩), fun b w hr => specScale_c wi hi b n n f y hn h0 h2 w hr hz hP hy _ rfl, fun b w hr => implScale_c wi hi b n n f y hn h0 h2 w hr hz hP hy _ rfl⟩

theorem clip_both (wi hi : Int) (n : Nat) (f : Nat → Nat) (y z : Nat) (hn : n ≤ 1048576) (hz : ∀ i, i < n → (Lit.float .f32 (f i)).wf = true) (wy : (Lit.float .f32 y).wf = true) (wz : (Lit.float .f32 z).wf = true) : ∃ P cls, (P = true → 0 < n ∧ n ≤ 256) ∧
    (∀ b w, RowAt w b n f → Calls Try.prog 34 #[.agg #[.int .i64 wi, .int .i64 hi, .slice (some ⟨b, 0, none⟩) n n], .float .f32 y, .float .f32 z] w (OutR w P wi hi n cls)) ∧
    (∀ b w, RowAt w b n f → Calls Try.prog 35 #[.agg #[.int .i64 wi, .int .i64 hi, .slice (some ⟨b, 0, none⟩) n n], .float .f32 y, .float .f32 z] w (OutR w P wi hi n cls)) := by
  cases hP : picB wi hi n f with
  | false => exact ⟨false, fun _ => none, (fun h => by cases h), fun b w hr => specClip_p wi hi b n n f y z _ hn w hr hP, fun b w hr => implClip_p wi hi b n n f y z _ hn w hr hP⟩
  | true =>
    obtain ⟨h0, h2⟩ := pic_range hP
    cases hy : fin .f32 (cl .f32 y) with
    | false => exact ⟨false, fun _ => none, (fun h => by cases h), fun b w hr => specClip_y wi hi b n n f y z _ hn w hr hP hy, fun b w hr => implClip_f wi hi b n n f y z _ hn w hr hP (by rw [hy]; rfl)⟩
    | true =>
      cases hv : fin .f32 (cl .f32 z) with
      | false => exact ⟨false, fun _ => none, (fun h => by cases h), fun b w hr => specClip_z wi hi b n n f y z _ hn w hr hP hy hv, fun b w hr => implClip_f wi hi b n n f y z _ hn w hr hP (by rw [hy, hv]; rfl)⟩
      | true =>
        cases hg : (FloatKind.f32.format.order y z == some .gt) with
        | true => exact ⟨false, fun _ => none, (fun h => by cases h), fun b w hr => specClip_g wi hi b n n f y z _ hn w hr hP hy hv hg, fun b w hr => implClip_g wi hi b n n f y z _ hn w hr hP hy hv hg⟩
        | false => exact ⟨true, clipC f y z, (fun _ => ⟨h0, h2⟩), fun b w hr => specClip_c wi hi b n n f y z hn h0 h2 w hr hz hP hy hv hg, fun b w hr => implClip_c wi hi b n n f y z hn h0 h2 w hr hz hP hy hv hg wy wz⟩
end Go.Proofs.Ytpjonajpgidjfaa
