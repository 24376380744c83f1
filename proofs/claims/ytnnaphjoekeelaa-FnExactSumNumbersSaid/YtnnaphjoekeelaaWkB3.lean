/-
  The walks of the laws of sums of float32. No condition.
-/
import Derived.Test.YtnnaphjoekeelaaRow
import Derived.Test.YtnnaphjoekeelaaFew
namespace Go.Proofs.Ytnnaphjoekeelaa
set_option linter.unusedVariables false
open Go.RowKit Ieee

theorem wf0 : (Lit.float .f32 0).wf = true := by decide

theorem l01Sum_c (b n c : Nat) (f : Nat → Nat) (w : World) (hn : n ≤ 1048576) (h1 : ∀ i, i < n → w.cell? ⟨b, i, none⟩ = some (.float .f32 (f i))) :
    Calls Try.prog 19 #[.slice (some ⟨b, 0, none⟩) n c] w fun e w' => RetF .f32 w (fsum f n) e w' := by
  have H1 := Lib.hid h1
  clear h1
  go_enter Try.func19, Try.ntmps19
  go_wp2
  go_loopw [3, 4] (fun s i wr => ∃ k d r : Nat, k ≤ n ∧ i = .int .i64 k ∧ s = .float .f32 r ∧ cl .f32 r = fsum f k ∧ (Lit.float .f32 r).wf = true ∧ wr = w.drewN d) (fun _ i _ => n - (intOf i).toNat)
  case atStart => exact ⟨0, 0, 0, Nat.zero_le _, rfl, rfl, cl_zero _, wf0, rfl⟩
  case round =>
    obtain ⟨k, d, r, hk, rfl, rfl, hr, hwr, rfl⟩ := hrel
    by_cases hlt : k < n
    · have x1 := H1.out k hlt
      go_wp2_with (refine wpList_fbin .f32 _ _ rfl rfl rfl rfl ?_; intro q m hq hwq)
      go_roundw
      case rel => exact ⟨k + 1, _, q, by omega, by go_num, rfl, by rw [hq, hr]; rfl, hwq, rfl⟩
      case measure => simp [intOf]; omega
    · have hke : k = n := by omega
      have HE := Lib.hid hke
      clear hke
      go_wp2
      go_ret
      exact retF _ (by rw [hr, HE.out]) hwr

theorem specSum_c (b n c : Nat) (f : Nat → Nat) (w : World) (hn : n ≤ 1048576) (h1 : ∀ i, i < n → w.cell? ⟨b, i, none⟩ = some (.float .f32 (f i))) :
    Calls Try.prog 7 #[.slice (some ⟨b, 0, none⟩) n c] w fun e w' => ∃ r, e = .returned (.tuple #[.float .f32 r, .bool (decide (n ≤ 256))]) ∧ cl .f32 r = (if n ≤ 256 then fsum f n else some 0) ∧ (Lit.float .f32 r).wf = true ∧ Below w.heap.size w w' := by
  have HS := Lib.hid (l01Sum_c b n c f w hn h1)
  clear h1
  by_cases hn2 : n ≤ 256
  · have hd : decide (n ≤ 256) = true := by simpa using hn2
    rw [hd, if_pos hn2]
    have e0 : decide ((n : Int) ≤ 256) = true := by simp; omega
    go_enter Try.func7, Try.ntmps7
    go_wp2_with (go_at_call 18; go_in)
    refine HS.out.mono ?_
    rintro e w' ⟨r, m, rfl, hr, hw, rfl⟩
    go_wp2_with fail
    go_ret2
    exact ⟨r, rfl, hr, hw, below_drewN (Below.refl _ _) _⟩
  · have hd : decide (n ≤ 256) = false := by simpa using hn2
    rw [hd, if_neg hn2]
    have e0 : decide ((n : Int) ≤ 256) = false := by simp; omega
    go_enter Try.func7, Try.ntmps7
    go_wp2_with (go_at_call 18; go_in)
    go_ret2
    exact ⟨0, rfl, cl_zero _, wf0, Below.refl _ _⟩

theorem implSum_c (b n c : Nat) (f : Nat → Nat) (w : World) (hn : n ≤ 1048576) (h1 : ∀ i, i < n → w.cell? ⟨b, i, none⟩ = some (.float .f32 (f i))) :
    Calls Try.prog 9 #[.slice (some ⟨b, 0, none⟩) n c] w fun e w' => ∃ r, e = .returned (.tuple #[.float .f32 r, .bool (decide (n ≤ 256))]) ∧ cl .f32 r = (if n ≤ 256 then fsum f n else some 0) ∧ (Lit.float .f32 r).wf = true ∧ Below w.heap.size w w' := by
  have H1 := Lib.hid h1
  clear h1
  by_cases hn2 : n ≤ 256
  · have hd : decide (n ≤ 256) = true := by simpa using hn2
    rw [hd, if_pos hn2]
    have e0 : decide ((n : Int) ≤ 256) = true := by simp; omega
    have HA := Lib.hid (areFew1 n w)
    rw [e0] at HA
    clear e0 hd
    go_enter Try.func9, Try.ntmps9
    go_wp2_with fail
    refine HA.out.mono ?_
    rintro e w1 ⟨rfl, hb⟩
    go_wp2_with fail
    have HB := Lib.hid hb
    clear hb
    go_loopw [4, 14] (fun s i wr => ∃ k d r : Nat, k ≤ n ∧ i = .int .i64 k ∧ s = .float .f32 r ∧ cl .f32 r = fsum f k ∧ (Lit.float .f32 r).wf = true ∧ wr = w1.drewN d) (fun _ i _ => n - (intOf i).toNat)
    case atStart => exact ⟨0, 0, 0, Nat.zero_le _, rfl, rfl, cl_zero _, wf0, rfl⟩
    case round =>
      obtain ⟨k, d, r, hk, rfl, rfl, hr, hwr, rfl⟩ := hrel
      by_cases hlt : k < n
      · have x1 : w1.cell? ⟨b, k, none⟩ = some (.float .f32 (f k)) := by
          rw [HB.out.cell (p := ⟨b, k, none⟩) (heap_lt (H1.out k hlt))]; exact H1.out k hlt
        go_wp2_with (refine wpList_fbin .f32 _ _ rfl rfl rfl rfl ?_; intro q m hq hwq)
        go_roundw
        case rel => exact ⟨k + 1, _, q, by omega, by go_num, rfl, by rw [hq, hr]; rfl, hwq, rfl⟩
        case measure => simp [intOf]; omega
      · have hke : k = n := by omega
        have HE := Lib.hid hke
        clear hke
        go_wp2
        go_ret2
        exact ⟨r, rfl, by rw [hr, HE.out], hwr, below_drewN HB.out _⟩
  · have hd : decide (n ≤ 256) = false := by simpa using hn2
    rw [hd, if_neg hn2]
    have e0 : decide ((n : Int) ≤ 256) = false := by simp; omega
    have HA := Lib.hid (areFew1 n w)
    rw [e0] at HA
    clear e0 hd
    go_enter Try.func9, Try.ntmps9
    go_wp2_with fail
    refine HA.out.mono ?_
    rintro e w1 ⟨rfl, hb⟩
    go_wp2_with fail
    go_ret2
    exact ⟨0, rfl, cl_zero _, wf0, hb⟩

theorem row_below {w w' : World} {b n : Nat} {f : Nat → Value} (h : ∀ i, i < n → w.cell? ⟨b, i, none⟩ = some (f i)) (hb : Below w.heap.size w w') : ∀ i, i < n → w'.cell? ⟨b, i, none⟩ = some (f i) := by
  intro i hi
  rw [hb.cell (p := ⟨b, i, none⟩) (heap_lt (h i hi))]; exact h i hi
theorem row_new (w : World) (T : TypeId) (f : Nat → Value) (n : Nat) : ∀ i, i < n → (w.alloc (.cells (rowA f n) T)).cell? ⟨w.heap.size, i, none⟩ = some (f i) := by
  intro i hi
  rw [World.cell?_alloc_at (hn := rfl), rowA_get _ hi]
theorem Row.below {w w' : World} {a : Option Addr} {n c : Nat} {f : Nat → Value} (h : Row w a n c f) (hb : Below w.heap.size w w') : Row w' a n c f := by
  rcases h with h0 | ⟨b, off, rfl, h1, h2, h3⟩
  · exact .inl h0
  · refine .inr ⟨b, off, rfl, Nat.lt_of_lt_of_le h1 hb.size, h2, fun i hi => ?_⟩
    rw [hb.cell (p := ⟨b, off + i, none⟩) h1]; exact h3 i hi
theorem below_new (w : World) (o : Obj) : Below w.heap.size w (w.alloc o) := (Below.refl _ _).alloc (Nat.le_refl _) _

/-- A copy, told by what it holds. -/
theorem toF_b (a : Option Addr) (n c : Nat) (f : Nat → Nat) (w : World) (hr : Row w a n c (fun i => .float .f32 (f i))) (hl : n ≤ 1048576) :
    Calls Try.prog 8 #[.slice a n c] w fun e w' => e = .returned (.slice (some ⟨w.heap.size, 0, none⟩) n n) ∧ (∀ i, i < n → w'.cell? ⟨w.heap.size, i, none⟩ = some (.float .f32 (f i))) ∧ Below w.heap.size w w' :=
  (toFloat32S_c a n c f w hr hl).mono fun e w' ⟨he, hw⟩ => by subst hw; exact ⟨he, row_new _ _ _ _, below_new _ _⟩

theorem wrap_gt {n : Nat} (h : n ≤ 1048576) : ¬ (1048576 : Int) < (n : Int) := by omega

theorem law_SumNumbers (a : Option Addr) (n c : Nat) (f : Nat → Nat) (w : World) (hr : Row w a n c (fun i => .float .f32 (f i)) ∧ ∀ i, i < n → (Lit.float .f32 (f i)).wf = true) :
    Calls Try.prog 3 #[.slice a n c] w fun e w' => e = .returned (.bool true) ∧ Below w.heap.size w w' := by
  by_cases hn : n ≤ 1048576
  · have e0 := wrap_gt hn
    have HR := Lib.hid hr.1
    clear hr
    go_enter Try.func3, Try.ntmps3
    go_wp2_with fail
    refine (toF_b a n c f _ HR.out hn).mono ?_
    rintro e w1 ⟨rfl, r1, b1⟩
    have R1 := Lib.hid r1
    have B1 := Lib.hid b1
    clear r1 b1
    go_wp2_with fail
    refine (specSum_c _ n n f _ hn R1.out).mono ?_
    rintro e w2 ⟨r, rfl, hr, hwr, b2⟩
    have B2 := Lib.hid (B1.out.trans (b2.mono B1.out.size))
    clear b2 R1 B1
    go_wp2_with fail
    refine (toF_b a n c f _ (HR.out.below B2.out) hn).mono ?_
    rintro e w3 ⟨rfl, r3, b3⟩
    have R3 := Lib.hid r3
    have B3 := Lib.hid (B2.out.trans (b3.mono B2.out.size))
    clear r3 b3
    go_wp2_with fail
    refine (implSum_c _ n n f _ hn R3.out).mono ?_
    rintro e w4 ⟨r', rfl, hr', hwr', b4⟩
    have R4 := Lib.hid (row_below R3.out b4)
    have B4 := Lib.hid (B3.out.trans (b4.mono B3.out.size))
    clear b4 R3 B3
    go_wp2_with (refine wpList_widen _ rfl Try.underlying23 Try.underlying28 rfl ?_; intro u n6 hu hwu)
    refine (sameFloat_c _ _ _ (by rw [hu, hr, ← hr']; assumption)).mono ?_
    rintro e w5 ⟨rfl, m, rfl⟩
    go_wp2_with fail
    refine (toF_b a n c f _ (HR.out.below (below_drewN B4.out _)) hn).mono ?_
    rintro e w6 ⟨rfl, r6, b6⟩
    have R6 := Lib.hid r6
    have R4' := Lib.hid (row_below (w := w4.drewN _) R4.out b6)
    have B6 := Lib.hid ((below_drewN B4.out _).trans (b6.mono (below_drewN B4.out _).size))
    clear r6 b6 R4
    go_wp2_with fail
    refine (eqFloat32S_c _ _ n n n f f _ hn R4'.out R6.out (fun _ _ => rfl)).mono ?_
    rintro e w7 ⟨rfl, m7, rfl⟩
    go_wp2_with fail
    go_ret
    exact ⟨rfl, below_drewN B6.out _⟩
  · have e0 : (1048576 : Int) < (n : Int) := by omega
    clear hr
    go_enter Try.func3, Try.ntmps3
    go_wp2_with fail
    go_ret
    exact lawOk0
end Go.Proofs.Ytnnaphjoekeelaa
