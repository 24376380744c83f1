/-
  The contracts of two pictures that are the same. No condition.
-/
import Derived.Test.YtpjonajpgidjfaaPic
namespace Go.Proofs.Ytpjonajpgidjfaa
set_option linter.unusedVariables false
open Go.RowKit Ieee

def WfAll (f : Nat → Nat) (n : Nat) : Prop := ∀ i, i < n → (Lit.float .f32 (f i)).wf = true
/-- Are two rows the same? -/
def sameAllB (f g : Nat → Nat) (n m : Nat) : Bool := decide (n = m ∧ ∀ i, i < n → same32 (f i) (g i) = true)

set_option maxRecDepth 10000 in
theorem specSameAll_c (b1 b2 n m c1 c2 : Nat) (f g : Nat → Nat) (w : World) (hn : n ≤ 1048576) (hm : m ≤ 1048576) (wf : WfAll f n) (wg : WfAll g m) (h1 : ∀ i, i < n → w.cell? ⟨b1, i, none⟩ = some (.float .f32 (f i))) (h2 : ∀ i, i < m → w.cell? ⟨b2, i, none⟩ = some (.float .f32 (g i))) :
    Calls Try.prog 89 #[.slice (some ⟨b1, 0, none⟩) n c1, .slice (some ⟨b2, 0, none⟩) m c2] w fun e w' => RetB w (sameAllB f g n m) e w' := by
  have H1 := Lib.hid h1
  have H2 := Lib.hid h2
  have WF := Lib.hid wf
  have WG := Lib.hid wg
  clear h1 h2 wf wg
  by_cases hnm : n = m
  · subst hnm
    clear hm
    go_enter Try.func89, Try.ntmps89
    go_wp2
    go_loopw [5] (fun i wr => ∃ k d : Nat, k ≤ n ∧ i = .int .i64 k ∧ Hid (∀ j, j < k → same32 (f j) (g j) = true) ∧ Hid (wr = w.drewN d)) (fun i _ => n - (intOf i).toNat)
    case atStart => exact ⟨0, 0, Nat.zero_le _, rfl, Lib.hid (fun j hj => absurd hj (Nat.not_lt_zero j)), Lib.hid rfl⟩
    case round =>
      obtain ⟨k, d, hk, rfl, hall, hd⟩ := hrel
      by_cases hlt : k < n
      · have x1 := (congrArg (fun W => W.cell? ⟨b1, k, none⟩) hd.out).trans ((World.cell?_drewN _ _ _).trans (H1.out k hlt))
        have x2 := (congrArg (fun W => W.cell? ⟨b2, k, none⟩) hd.out).trans ((World.cell?_drewN _ _ _).trans (H2.out k hlt))
        have S : Hid (∀ w, Calls Try.prog 101 #[.float .f32 (f k), .float .f32 (g k)] w fun e w' => e = .returned (.bool (same32 (f k) (g k))) ∧ ∃ j, w' = w.drewN j) := fun w => l01Same_c (f k) (g k) (WF.out k hlt) (WG.out k hlt) w
        cases hb : same32 (f k) (g k) with
        | true =>
          have HB := Lib.hid hb
          rw [hb] at S
          clear hb
          go_wp2
          go_quiet ((go_at_call 101; exact Calls.quiet_of (S.out _)))
          go_wp2
          go_roundw
          case rel => exact ⟨k + 1, _, by omega, by go_num, Lib.hid (fun j hj => by rcases Nat.lt_or_eq_of_le (Nat.le_of_lt_succ hj) with h | rfl; exact hall.out j h; exact HB.out), Lib.hid (by rw [hd.out]; exact World.drewN_drewN _ _ _)⟩
          case measure => simp [intOf]; omega
        | false =>
          have HB := Lib.hid hb
          rw [hb] at S
          clear hb
          go_wp2
          go_quiet ((go_at_call 101; exact Calls.quiet_of (S.out _)))
          go_wp2
          go_ret
          rw [hd.out]
          refine (World.drewN_drewN _ _ _).symm ▸ retB _ ?_
          have : sameAllB f g n n = false := decide_eq_false (fun h => by have := h.2 k hlt; rw [HB.out] at this; cases this)
          rw [this]
      · have hke : k = n := by omega
        have HE := Lib.hid hke
        clear hke
        go_wp2
        go_ret
        rw [hd.out]
        refine retB _ ?_
        have : sameAllB f g n n = true := decide_eq_true ⟨rfl, fun j hj => hall.out j (by rw [HE.out]; exact hj)⟩
        rw [this]
  · have hne : ((n : Int) != (m : Int)) = true := by simp; omega
    have HS : Hid (sameAllB f g n m = false) := decide_eq_false (fun h => hnm h.1)
    clear hnm
    go_enter Try.func89, Try.ntmps89
    go_wp2
    go_ret
    exact retB0 HS.out.symm
set_option maxRecDepth 10000 in
theorem equalFunc_c (b1 b2 n m c1 c2 : Nat) (f g : Nat → Nat) (w : World) (hn : n ≤ 1048576) (hm : m ≤ 1048576) (wf : WfAll f n) (wg : WfAll g m) (h1 : ∀ i, i < n → w.cell? ⟨b1, i, none⟩ = some (.float .f32 (f i))) (h2 : ∀ i, i < m → w.cell? ⟨b2, i, none⟩ = some (.float .f32 (g i))) :
    Calls Try.prog 50 #[.slice (some ⟨b1, 0, none⟩) n c1, .slice (some ⟨b2, 0, none⟩) m c2, .func (.func 51) #[] #[]] w fun e w' => RetB w (sameAllB f g n m) e w' := by
  have H1 := Lib.hid h1
  have H2 := Lib.hid h2
  have WF := Lib.hid wf
  have WG := Lib.hid wg
  clear h1 h2 wf wg
  by_cases hnm : n = m
  · subst hnm
    clear hm
    go_enter Try.func50, Try.ntmps50
    go_wp2
    go_loopw [17] (fun i wr => ∃ k d : Nat, k ≤ n ∧ i = .int .i64 k ∧ Hid (∀ j, j < k → same32 (f j) (g j) = true) ∧ wr = w.drewN d) (fun i _ => n - (intOf i).toNat)
    case atStart => exact ⟨0, 0, Nat.zero_le _, rfl, Lib.hid (fun j hj => absurd hj (Nat.not_lt_zero j)), rfl⟩
    case round =>
      obtain ⟨k, d, hk, rfl, hall, rfl⟩ := hrel
      by_cases hlt : k < n
      · have x1 := H1.out k hlt
        have x2 := H2.out k hlt
        have S := Lib.hid (fun w => implSame_c (f k) (g k) (WF.out k hlt) (WG.out k hlt) w)
        cases hb : same32 (f k) (g k) with
        | true =>
          have HB := Lib.hid hb
          rw [hb] at S
          clear hb
          go_wp2_with fail
          refine (S.out _).mono ?_; rintro e w2 ⟨rfl, q, rfl⟩
          go_wp2
          go_roundw
          case rel => exact ⟨k + 1, _, by omega, by go_num, Lib.hid (fun j hj => by rcases Nat.lt_or_eq_of_le (Nat.le_of_lt_succ hj) with h | rfl; exact hall.out j h; exact HB.out), rfl⟩
          case measure => simp [intOf]; omega
        | false =>
          have HB := Lib.hid hb
          rw [hb] at S
          clear hb
          go_wp2_with fail
          refine (S.out _).mono ?_; rintro e w2 ⟨rfl, q, rfl⟩
          go_wp2
          go_ret
          refine retB _ ?_
          have : sameAllB f g n n = false := decide_eq_false (fun h => by have := h.2 k hlt; rw [HB.out] at this; cases this)
          rw [this]
      · have hke : k = n := by omega
        have HE := Lib.hid hke
        clear hke
        go_wp2
        go_ret
        refine retB _ ?_
        have : sameAllB f g n n = true := decide_eq_true ⟨rfl, fun j hj => hall.out j (by rw [HE.out]; exact hj)⟩
        rw [this]
  · have hne : ((n : Int) != (m : Int)) = true := by simp; omega
    have HS : Hid (sameAllB f g n m = false) := decide_eq_false (fun h => hnm h.1)
    clear hnm
    go_enter Try.func50, Try.ntmps50
    go_wp2
    go_ret
    exact retB0 HS.out.symm
/-- Are two pictures the same? -/
def samePB (wi hi wj hj : Int) (f g : Nat → Nat) (n m : Nat) : Bool := decide (wi = wj) && (decide (hi = hj) && sameAllB f g n m)

theorem specSame2_c (wi hi wj hj : Int) (b1 b2 n m c1 c2 : Nat) (f g : Nat → Nat) (w : World) (hn : n ≤ 1048576) (hm : m ≤ 1048576) (wf : WfAll f n) (wg : WfAll g m) (r1 : RowAt w b1 n f) (r2 : RowAt w b2 m g) :
    Calls Try.prog 19 #[picV wi hi (some ⟨b1, 0, none⟩) n c1, picV wj hj (some ⟨b2, 0, none⟩) m c2] w (BoolB w (samePB wi hi wj hj f g n m)) := by
  have BW := Lib.hid (fun v v' => ((Below.refl w.heap.size w).alloc (Nat.le_refl _) v).alloc (by simp) v')
  have S0 : Hid (∀ v v' k, Calls Try.prog 89 #[.slice (some ⟨b1, 0, none⟩) n c1, .slice (some ⟨b2, 0, none⟩) m c2] (((w.alloc v).alloc v').drewN k) fun e w' => e = .returned (.bool (sameAllB f g n m)) ∧ ∃ j, w' = (((w.alloc v).alloc v').drewN k).drewN j) :=
    fun v v' k => specSameAll_c b1 b2 n m c1 c2 f g _ hn hm wf wg (by intro i hi; rw [World.cell?_drewN]; exact (rowAt_mono r1 (BW.out _ _)).2 i hi) (by intro i hi; rw [World.cell?_drewN]; exact (rowAt_mono r2 (BW.out _ _)).2 i hi)
  clear r1 r2 wf wg
  unfold picV samePB
  cases h1 : decide (wi = wj) with
  | false =>
    have t1 : (wi == wj) = false := by rw [beq_eq_false_iff_ne]; exact of_decide_eq_false h1
    clear h1
    go_enter Try.func19, Try.ntmps19
    go_wp2_with go_in
    go_quiet (fail)
    go_wp2
    go_ret
    exact ⟨rfl, below_drewN (BW.out _ _) _⟩
  | true =>
    have t1 : (wi == wj) = true := by rw [beq_iff_eq]; exact of_decide_eq_true h1
    clear h1
    cases h2 : decide (hi = hj) with
    | false =>
      have t2 : (hi == hj) = false := by rw [beq_eq_false_iff_ne]; exact of_decide_eq_false h2
      clear h2
      go_enter Try.func19, Try.ntmps19
      go_wp2_with go_in
      go_quiet (fail)
      go_wp2
      go_ret
      exact ⟨rfl, below_drewN (BW.out _ _) _⟩
    | true =>
      have t2 : (hi == hj) = true := by rw [beq_iff_eq]; exact of_decide_eq_true h2
      clear h2
      go_enter Try.func19, Try.ntmps19
      go_wp2_with go_in
      go_quiet ((go_at_call 89; exact Calls.quiet_of (S0.out _ _ _)))
      go_wp2
      go_ret
      exact ⟨rfl, below_drewN (BW.out _ _) _⟩
theorem implSame2_c (wi hi wj hj : Int) (b1 b2 n m c1 c2 : Nat) (f g : Nat → Nat) (w : World) (hn : n ≤ 1048576) (hm : m ≤ 1048576) (wf : WfAll f n) (wg : WfAll g m) (r1 : RowAt w b1 n f) (r2 : RowAt w b2 m g) :
    Calls Try.prog 20 #[picV wi hi (some ⟨b1, 0, none⟩) n c1, picV wj hj (some ⟨b2, 0, none⟩) m c2] w (BoolB w (samePB wi hi wj hj f g n m)) := by
  have BW := Lib.hid (fun v v' => ((Below.refl w.heap.size w).alloc (Nat.le_refl _) v).alloc (by simp) v')
  have S0 := Lib.hid (fun v v' => equalFunc_c b1 b2 n m c1 c2 f g ((w.alloc v).alloc v') hn hm wf wg (rowAt_mono r1 (BW.out _ _)).2 (rowAt_mono r2 (BW.out _ _)).2)
  clear r1 r2 wf wg
  unfold picV samePB
  cases h1 : decide (wi = wj) with
  | false =>
    have t1 : (wi == wj) = false := by rw [beq_eq_false_iff_ne]; exact of_decide_eq_false h1
    clear h1
    go_enter Try.func20, Try.ntmps20
    go_wp2_with fail
    go_ret
    exact ⟨rfl, BW.out _ _⟩
  | true =>
    have t1 : (wi == wj) = true := by rw [beq_iff_eq]; exact of_decide_eq_true h1
    clear h1
    cases h2 : decide (hi = hj) with
    | false =>
      have t2 : (hi == hj) = false := by rw [beq_eq_false_iff_ne]; exact of_decide_eq_false h2
      clear h2
      go_enter Try.func20, Try.ntmps20
      go_wp2_with fail
      go_ret
      exact ⟨rfl, BW.out _ _⟩
    | true =>
      have t2 : (hi == hj) = true := by rw [beq_iff_eq]; exact of_decide_eq_true h2
      clear h2
      go_enter Try.func20, Try.ntmps20
      go_wp2_with fail
      refine (S0.out _ _).mono ?_; rintro e w1 ⟨rfl, q, rfl⟩
      go_wp2_with fail
      go_ret
      exact ⟨rfl, below_drewN (BW.out _ _) _⟩
end Go.Proofs.Ytpjonajpgidjfaa
