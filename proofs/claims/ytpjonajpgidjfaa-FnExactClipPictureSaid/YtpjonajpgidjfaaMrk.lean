/-
  Pictures that are marked, held against their marks, and compared where they are none. No condition.
-/
import Derived.Test.YtpjonajpgidjfaaPla
namespace Go.Proofs.Ytpjonajpgidjfaa
set_option linter.unusedVariables false
open Go.RowKit Ieee

theorem cl_fl32 (n : Int) : cl .f32 (floatOfInt .f32 n) = some (floatOfInt .f32 n) := cl_write .f32 (d := .number (n < 0) n.natAbs 0) rfl
/-- The i-th mark. -/
def mk (i : Nat) : Nat := floatOfInt .f32 (((1 + i : Nat)) : Int)
theorem mk_self (i : Nat) : (FloatKind.f32.format.order (mk i) (mk i) != some .eq) = false := by
  rw [show FloatKind.f32.format.order (mk i) (mk i) = ford .f32 (cl .f32 (mk i)) (cl .f32 (mk i)) from order_cl .f32 _ _, ne_self]
  unfold mk
  rw [cl_fl32]; rfl

/-- The first k cells hold their marks. -/
def Marked (w : World) (g n k : Nat) : Prop := ∃ cur, Has w g 32 cur ∧ n ≤ cur.size ∧ ∀ i, i < k → cur[i]? = some (.float .f32 (mk i))
theorem Marked.kept {w w' : World} {g n k : Nat} {row : Option Nat} (h : Marked w g n k) (hg : w.grownBy w' row) (hne : some g ≠ row) : Marked w' g n k := by
  obtain ⟨cur, h1, h2, h3⟩ := h
  exact ⟨cur, h1.kept hg hne, h2, h3⟩
theorem Marked.low {w w' : World} {g n k : Nat} (h : Marked w g n k) (hb : Below w.heap.size w w') : Marked w' g n k := by
  obtain ⟨cur, h1, h2, h3⟩ := h
  exact ⟨cur, h1.low hb h1.inside, h2, h3⟩
theorem Marked.at {w : World} {g n k : Nat} (h : Marked w g n k) {i : Nat} (hi : i < k) : w.cell? ⟨g, i, none⟩ = some (.float .f32 (mk i)) := by
  obtain ⟨cur, h1, h2, h3⟩ := h
  rw [h1.at i]; exact h3 i hi

theorem markF_c (g n c : Nat) (w : World) (hn : n ≤ 1048576) (h : Marked w g n 0) :
    Calls Try.prog 65 #[.slice (some ⟨g, 0, none⟩) n c, .int .i64 1] w fun e w' => e = .returned (.int .i64 ((1 + n : Nat) : Int)) ∧ Marked w' g n n ∧ w.grownBy w' (some g) := by
  have H0 := Lib.hid h
  clear h
  go_enter Try.func65, Try.ntmps65
  go_wp2
  go_loopw [1, 5] (fun m i wr => ∃ k : Nat, k ≤ n ∧ i = .int .i64 k ∧ m = .int .i64 ((1 + k : Nat) : Int) ∧ Hid (Marked wr g n k) ∧ Hid (w.grownBy wr (some g))) (fun _ i _ => n - (intOf i).toNat)
  case atStart => exact ⟨0, Nat.zero_le _, rfl, rfl, H0, Lib.hid (World.grownBy.refl _ _)⟩
  case round =>
    obtain ⟨k, hk, rfl, rfl, hm, hg⟩ := hrel
    by_cases hlt : k < n
    · obtain ⟨cur, h1, h2, h3⟩ := hm.out
      have hc := h1.at k
      have hf := h1.free k
      rw [Array.getElem?_eq_getElem (by omega)] at hc
      have HH := Lib.hid h1
      have HS := Lib.hid h2
      have H3 := Lib.hid h3
      generalize cur[k]'(by omega) = u at hc
      have hcast : (((1 + k : Nat)) : Int) = 1 + (k : Int) := by omega
      have hmk : floatOfInt .f32 (1 + (k : Int)) = mk k := by unfold mk; rw [hcast]
      clear h1 h2 h3 hm hcast
      go_wp2
      go_roundw
      case rel =>
        refine ⟨k + 1, by omega, by go_num, by go_num, ?_, ?_⟩
        · refine Lib.hid ⟨cur.setIfInBounds k (.float .f32 (mk k)), HH.out.put k _, by simp; exact HS.out, ?_⟩
          intro i hi
          by_cases hik : k = i
          · subst hik
            exact Array.getElem?_setIfInBounds_self_of_lt (by have := HS.out; omega)
          · rw [Array.getElem?_setIfInBounds_ne hik]
            exact H3.out i (by omega)
        · exact Lib.hid (grownBy_trans hg.out (grownBy_set _ _ _ _))
      case measure => simp [intOf]; omega
    · have hke : n = k := by omega
      have HM := hm
      rw [show Marked _ g n k = Marked _ g n n by rw [← hke]] at HM
      have HE := Lib.hid hke
      clear hke hm
      go_wp2
      go_ret
      exact ⟨by rw [HE.out]; first | rfl | simp, HM.out, hg.out⟩

theorem heldF_c (g n c : Nat) (w : World) (hn : n ≤ 1048576) (h : Marked w g n n) :
    Calls Try.prog 66 #[.slice (some ⟨g, 0, none⟩) n c, .int .i64 1] w fun e w' => e = .returned (.int .i64 ((1 + n : Nat) : Int)) ∧ w = w' := by
  have H0 := Lib.hid h
  clear h
  go_enter Try.func66, Try.ntmps66
  go_wp2
  go_loop [1, 5] (fun m i => ∃ k : Nat, k ≤ n ∧ i = .int .i64 k ∧ m = .int .i64 ((1 + k : Nat) : Int)) (fun _ i => n - (intOf i).toNat)
  case atStart => exact ⟨0, Nat.zero_le _, rfl, rfl⟩
  case round =>
    obtain ⟨k, hk, rfl, rfl⟩ := hrel
    by_cases hlt : k < n
    · have hc := H0.out.at hlt
      have hs := mk_self k
      have hcast : (((1 + k : Nat)) : Int) = 1 + (k : Int) := by omega
      have hmk : floatOfInt .f32 (1 + (k : Int)) = mk k := by unfold mk; rw [hcast]
      clear hcast
      go_wp2
      go_round
      case rel => exact ⟨k + 1, by omega, by go_num, by go_num⟩
      case measure => simp [intOf]; omega
    · have hke : n = k := by omega
      have HE := Lib.hid hke
      clear hke
      go_wp2
      go_ret
      exact ⟨by rw [HE.out]; first | rfl | simp, rfl⟩

theorem markP_c (wi hi : Int) (g n c : Nat) (w : World) (hn : n ≤ 1048576) (h : Marked w g n 0) :
    Calls Try.prog 28 #[.agg #[.int .i64 wi, .int .i64 hi, .slice (some ⟨g, 0, none⟩) n c], .int .i64 1] w fun e w' => e = .returned (.int .i64 ((1 + n : Nat) : Int)) ∧ Marked w' g n n ∧ w.grownBy w' (some g) := by
  have M := Lib.hid (fun w h => markF_c g n c w hn h)
  have H := Lib.hid h
  clear h
  go_enter Try.func28, Try.ntmps28
  go_wp2_with fail
  refine (M.out _ (H.out.low ((Below.refl _ _).alloc (Nat.le_refl _) _))).mono ?_; rintro e w1 ⟨rfl, m1, g1⟩
  have M1 := Lib.hid m1
  have G1 := Lib.hid (grownBy_trans (grownBy_below ((Below.refl w.heap.size w).alloc (Nat.le_refl _) _) (some g)) g1)
  clear m1 g1
  go_wp2_with fail
  go_ret
  exact ⟨rfl, M1.out, G1.out⟩

theorem heldP_c (wi hi : Int) (g n c : Nat) (w : World) (hn : n ≤ 1048576) (h : Marked w g n n) :
    Calls Try.prog 29 #[.agg #[.int .i64 wi, .int .i64 hi, .slice (some ⟨g, 0, none⟩) n c], .int .i64 1] w fun e w' => e = .returned (.int .i64 ((1 + n : Nat) : Int)) ∧ Below w.heap.size w w' := by
  have M := Lib.hid (fun w h => heldF_c g n c w hn h)
  have H := Lib.hid h
  have hge : ¬ ((((1 + n : Nat)) : Int) < 0) := by omega
  clear h
  go_enter Try.func29, Try.ntmps29
  go_wp2_with fail
  refine (M.out _ (H.out.low ((Below.refl _ _).alloc (Nat.le_refl _) _))).mono ?_; rintro e w1 ⟨rfl, rfl⟩
  go_wp2_with fail
  go_ret
  exact ⟨rfl, (Below.refl _ _).alloc (Nat.le_refl _) _⟩

/-! ### where there is no picture -/
theorem markN_c (w : World) : Calls Try.prog 28 #[noPic, .int .i64 1] w fun e w' => e = .returned (.int .i64 1) ∧ Below w.heap.size w w' := by
  unfold noPic
  go_enter Try.func28, Try.ntmps28
  go_wp2_with go_in
  go_loop [1, 5] (fun m i => i = .int .i64 0 ∧ m = .int .i64 1) (fun _ i => 0)
  case atStart => exact ⟨rfl, rfl⟩
  case round =>
    obtain ⟨rfl, rfl⟩ := hrel
    go_wp2
    go_ret
    exact ⟨rfl, (Below.refl _ _).alloc (Nat.le_refl _) _⟩
theorem heldN_c (w : World) : Calls Try.prog 29 #[noPic, .int .i64 1] w fun e w' => e = .returned (.int .i64 1) ∧ Below w.heap.size w w' := by
  unfold noPic
  go_enter Try.func29, Try.ntmps29
  go_wp2_with go_in
  go_loop [1, 5] (fun m i => i = .int .i64 0 ∧ m = .int .i64 1) (fun _ i => 0)
  case atStart => exact ⟨rfl, rfl⟩
  case round =>
    obtain ⟨rfl, rfl⟩ := hrel
    go_wp2
    go_ret
    exact ⟨rfl, (Below.refl _ _).alloc (Nat.le_refl _) _⟩
theorem eqN_c (w : World) : Calls Try.prog 18 #[noPic, noPic] w (BoolB w true) := by
  unfold noPic
  go_enter Try.func18, Try.ntmps18
  go_wp2_with go_in
  go_loop [5] (fun i => i = .int .i64 0) (fun i => 0)
  case atStart => rfl
  case round =>
    obtain rfl := hrel
    go_wp2
    go_ret
    exact ⟨rfl, ((Below.refl _ _).alloc (Nat.le_refl _) _).alloc (by simp) _⟩

theorem rowAt_kept {w w' : World} {B n : Nat} {f : Nat → Nat} {row : Option Nat} (h : RowAt w B n f) (hg : w.grownBy w' row) (hne : some B ≠ row) : RowAt w' B n f :=
  ⟨Nat.lt_of_lt_of_le h.1 hg.size, fun i hi => hg.cell (h.2 i hi) hne⟩
theorem picC_pos {wi hi : Int} {n : Nat} {cls : Nat → Option Nat} (h : picC wi hi n cls = true) : 0 < n := by
  unfold picC at h
  simp only [Bool.and_eq_true, decide_eq_true_eq] at h
  have := prod_256 h.1
  omega
theorem picC_le {wi hi : Int} {n : Nat} {cls : Nat → Option Nat} (h : picC wi hi n cls = true) : n ≤ 256 := by
  unfold picC at h
  simp only [Bool.and_eq_true, decide_eq_true_eq] at h
  have := prod_256 h.1
  omega
theorem outF {w : World} {wi hi : Int} {n : Nat} {cls : Nat → Option Nat} {e : Ending} {w' : World} (h : OutR w false wi hi n cls e w') : e = .returned (.tuple #[noPic, .bool false]) ∧ Below w.heap.size w w' := by
  obtain ⟨A, c, rfl, _, hb⟩ := h
  exact ⟨rfl, hb⟩
/-- A picture that was made, told by its block. -/
def OutT (w : World) (wi hi : Int) (n : Nat) (cls : Nat → Option Nat) (e : Ending) (w' : World) : Prop :=
  ∃ g c f, e = .returned (.tuple #[.agg #[.int .i64 wi, .int .i64 hi, .slice (some ⟨g, 0, none⟩) n c], .bool true]) ∧ w.heap.size ≤ g ∧ RowAt w' g n f ∧ (∀ i, i < n → cl .f32 (f i) = cls i) ∧ Marked w' g n 0 ∧ Below w.heap.size w w'
theorem outT {w : World} {wi hi : Int} {n : Nat} {cls : Nat → Option Nat} {e : Ending} {w' : World} (h : OutR w true wi hi n cls e w') (h0 : 0 < n) : OutT w wi hi n cls e w' := by
  obtain ⟨A, c, rfl, ho, hb⟩ := h
  obtain ⟨g, cap, f, hv, h1, h2, h3, cur, h4, h5⟩ := (ho rfl).row h0
  obtain ⟨rfl, rfl⟩ : A = some ⟨g, 0, none⟩ ∧ c = cap := by injection hv with h1 _ h2; exact ⟨h1, h2⟩
  exact ⟨g, c, f, rfl, h1, h2, h3, ⟨cur, h4, h5, fun i hi => absurd hi (Nat.not_lt_zero _)⟩, hb⟩
end Go.Proofs.Ytpjonajpgidjfaa
