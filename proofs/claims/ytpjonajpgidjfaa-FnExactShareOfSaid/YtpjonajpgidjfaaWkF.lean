/-
  The contract of impl.areFinite over a list that lies in memory. No condition.
-/
import Derived.Test.YtpjonajpgidjfaaRow
namespace Go.Proofs.Ytpjonajpgidjfaa
set_option linter.unusedVariables false
open Go.RowKit Ieee

theorem fin1_c (x : Nat) (w : World) : Calls Try.prog 88 #[.float .f32 x] w fun e w' => RetB w (!fin .f32 (cl .f32 x)) e w' := by
  go_enter Try.func88, Try.ntmps88
  go_wp2_with fail
  refine (implIsFinite_c _ _).mono ?_; rintro e w' ⟨rfl, n, rfl⟩
  go_wp2
  go_ret
  exact retB _ rfl

/-- All numbers of a list are finite. -/
def allFin (f : Nat → Nat) (n : Nat) : Bool := decide (∀ i, i < n → fin .f32 (cl .f32 (f i)) = true)

theorem indexFin_c (b n c : Nat) (f : Nat → Nat) (w : World) (hn : n ≤ 1048576) (h1 : ∀ i, i < n → w.cell? ⟨b, i, none⟩ = some (.float .f32 (f i))) :
    Calls Try.prog 97 #[.slice (some ⟨b, 0, none⟩) n c, .func (.func 88) #[] #[]] w fun e w' => ∃ k : Int, e = .returned (.int .i64 k) ∧ (decide (0 ≤ k) = !allFin f n) ∧ ∃ d, w' = w.drewN d := by
  have H1 := Lib.hid h1
  clear h1
  go_enter Try.func97, Try.ntmps97
  go_wp2
  go_loopw [5, 8] (fun s i wr => ∃ k d : Nat, k ≤ n ∧ i = .int .i64 k ∧ Hid (∀ j, j < k → fin .f32 (cl .f32 (f j)) = true) ∧ wr = w.drewN d) (fun _ i _ => n - (intOf i).toNat)
  case atStart => exact ⟨0, 0, Nat.zero_le _, rfl, Lib.hid (fun j hj => absurd hj (Nat.not_lt_zero j)), rfl⟩
  case round =>
    obtain ⟨k, d, hk, rfl, hall, rfl⟩ := hrel
    by_cases hlt : k < n
    · have x1 := H1.out k hlt
      cases hf : fin .f32 (cl .f32 (f k)) with
      | true =>
        have HF := Lib.hid hf
        clear hf
        go_wp2_with (go_at_call 88; refine (fin1_c _ _).mono ?_; rintro e w2 ⟨rfl, m, rfl⟩; rw [HF.out])
        go_roundw
        case rel => exact ⟨k + 1, _, by omega, by go_num, Lib.hid (fun j hj => by rcases Nat.lt_or_eq_of_le (Nat.le_of_lt_succ hj) with h | rfl; exact hall.out j h; exact HF.out), rfl⟩
        case measure => simp [intOf]; omega
      | false =>
        have HF := Lib.hid hf
        clear hf
        go_wp2_with (go_at_call 88; refine (fin1_c _ _).mono ?_; rintro e w2 ⟨rfl, m, rfl⟩; rw [HF.out])
        go_ret
        refine ⟨_, rfl, ?_, _, rfl⟩
        have : allFin f n = false := decide_eq_false (fun h => by have := h k hlt; rw [HF.out] at this; cases this)
        rw [this]; simp
    · have hke : k = n := by omega
      have HE := Lib.hid hke
      clear hke
      go_wp2
      go_ret
      refine ⟨_, rfl, ?_, _, rfl⟩
      have : allFin f n = true := decide_eq_true (fun j hj => hall.out j (by rw [HE.out]; exact hj))
      rw [this]; rfl

theorem areFinite_c (b n c : Nat) (f : Nat → Nat) (w : World) (hn : n ≤ 1048576) (h1 : ∀ i, i < n → w.cell? ⟨b, i, none⟩ = some (.float .f32 (f i))) :
    Calls Try.prog 47 #[.slice (some ⟨b, 0, none⟩) n c] w fun e w' => RetB w (allFin f n) e w' := by
  have I := Lib.hid (indexFin_c b n c f w hn h1)
  clear h1
  go_enter Try.func47, Try.ntmps47
  go_wp2_with (go_at_call 80; go_in)
  refine I.out.mono ?_
  rintro e w' ⟨k, rfl, hk, d, rfl⟩
  have HK := Lib.hid hk
  clear hk
  go_wp2_with fail
  go_ret
  refine retB _ ?_
  rw [HK.out]; simp
end Go.Proofs.Ytpjonajpgidjfaa
