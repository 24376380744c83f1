/-
  Pictures: the laws' own helpers (size, copy) and the two tests of a picture. No condition.
-/
import Derived.Test.YtpjonajpgidjfaaWkF
import Derived.Test.YtpjonajpgidjfaaGrow
import Derived.BigQuiet
import Derived.IntWalk
import Derived.Deep.QuietTactic
namespace Go.Proofs.Ytpjonajpgidjfaa
set_option linter.unusedVariables false
open Go.RowKit Ieee

/-- A picture as it lies in a block of its own. -/
def picV (wi hi : Int) (a : Option Addr) (n c : Nat) : Value := .agg #[.int .i64 wi, .int .i64 hi, .slice a n c]

theorem bcell {W w1 : World} {B : Nat} (hb : Below B W w1) : (∀ b o, b < B → w1.cell? ⟨b, o, none⟩ = W.cell? ⟨b, o, none⟩) :=
  fun b o h => hb.cell (p := ⟨b, o, none⟩) h

theorem row_mono {w w' : World} {a : Option Addr} {n c : Nat} {f : Nat → Value} (h : Row w a n c f) (hb : Below w.heap.size w w') : Row w' a n c f := by
  rcases h with h0 | ⟨b, off, rfl, h1, h2, h3⟩
  · exact .inl h0
  · exact .inr ⟨b, off, rfl, Nat.lt_of_lt_of_le h1 hb.size, h2, fun i hi => by rw [bcell hb _ _ h1]; exact h3 i hi⟩

theorem szF_c (a : Option Addr) (n c : Nat) (left : Int) (h0 : 0 ≤ left) (h1 : left ≤ 1048576) (hn : n ≤ 9223372036854775807) (w : World) :
    Calls Try.prog 42 #[.slice a n c, .int .i64 left] w fun e w' => e = .returned (.int .i64 (if left < n then -1 else left - n)) ∧ w = w' := by
  have hw : wrap64 (left - (n : Int)) = left - n := by unfold wrap64; omega
  by_cases h : left < n
  · have hlt : left - (n : Int) < 0 := by omega
    rw [if_pos h]
    clear h hn
    go_enter Try.func42, Try.ntmps42
    go_wp2
    go_ret
    exact ⟨rfl, rfl⟩
  · have hlt : ¬ left - (n : Int) < 0 := by omega
    rw [if_neg h]
    clear h hn
    go_enter Try.func42, Try.ntmps42
    go_wp2
    go_ret
    exact ⟨rfl, rfl⟩

theorem szPic_c (wi hi : Int) (a : Option Addr) (n c : Nat) (left : Int) (h0 : 0 ≤ left) (h1 : left ≤ 1048576) (hn : n ≤ 9223372036854775807) (w : World) :
    Calls Try.prog 14 #[picV wi hi a n c, .int .i64 left] w fun e w' => e = .returned (.int .i64 (if left < n then -1 else left - n)) ∧ Below w.heap.size w w' := by
  have S := Lib.hid (szF_c a n c left h0 h1 hn)
  unfold picV
  by_cases h : left < n
  · rw [if_pos h] at S ⊢
    clear h hn h0 h1
    go_enter Try.func14, Try.ntmps14
    go_wp2_with fail
    refine (S.out _).mono ?_; rintro e w' ⟨rfl, rfl⟩
    go_wp2_with fail
    go_ret
    exact ⟨rfl, (Below.refl _ _).alloc (Nat.le_refl _) _⟩
  · have hlt : ¬ left - (n : Int) < 0 := by omega
    rw [if_neg h] at S ⊢
    clear h hn h0 h1
    go_enter Try.func14, Try.ntmps14
    go_wp2_with fail
    refine (S.out _).mono ?_; rintro e w' ⟨rfl, rfl⟩
    go_wp2_with fail
    go_ret
    exact ⟨rfl, (Below.refl _ _).alloc (Nat.le_refl _) _⟩

/-- A copy of a picture: its lights lie in a block of their own. -/
def Copied (w : World) (wi hi : Int) (n : Nat) (f : Nat → Nat) (e : Ending) (w' : World) : Prop :=
  ∃ B, e = .returned (picV wi hi (some ⟨B, 0, none⟩) n n) ∧ w.heap.size ≤ B ∧ B < w'.heap.size ∧ Below w.heap.size w w' ∧ ∀ i, i < n → w'.cell? ⟨B, i, none⟩ = some (.float .f32 (f i))

theorem toPic_c (wi hi : Int) (a : Option Addr) (n c : Nat) (f : Nat → Nat) (w : World) (hr : Row w a n c (fun i => .float .f32 (f i))) (hn : n ≤ 1048576) :
    Calls Try.prog 16 #[picV wi hi a n c] w (Copied w wi hi n f) := by
  have T := Lib.hid (fun w hr => toFloat32S_c a n c f w hr hn)
  have HR := Lib.hid hr
  clear hr
  unfold picV
  go_enter Try.func16, Try.ntmps16
  go_wp2_with fail
  refine (T.out _ (row_mono HR.out ((((Below.refl _ _).alloc (Nat.le_refl _) _).alloc (by simp) _).alloc (by simp; omega) _))).mono ?_; rintro e w' ⟨rfl, rfl⟩
  go_wp2_with fail
  refine bodyPost_ret (v := picV wi hi (some ⟨w.heap.size + 1 + 1 + 1, 0, none⟩) n n) (by simp [results, Try.results16, go_sem, picV]) rfl ?_
  refine ⟨_, rfl, by omega, by simp, (((((Below.refl _ _).alloc (Nat.le_refl _) _).alloc (by simp) _).alloc (by simp; omega) _).alloc (by simp; omega) _), ?_⟩
  intro i hi
  rw [World.cell?_alloc_at (hn := by simp), rowA_get _ hi]
def sidesB (wi hi : Int) : Bool := decide (1 ≤ wi ∧ wi ≤ 16 ∧ 1 ≤ hi ∧ hi ≤ 16)
theorem sides_c (wi hi : Int) (w : World) : Calls Try.prog 58 #[.int .i64 wi, .int .i64 hi] w fun e w' => e = .returned (.bool (sidesB wi hi)) ∧ w = w' := by
  go_enter Try.func58, Try.ntmps58
  go_wp2_with (first | (go_at_call 76; go_in))
  all_goals (go_ret; refine ⟨?_, rfl⟩; unfold sidesB; congr 2; first | (simp_all; done) | (simp; omega) | (simp_all; omega))
theorem l02Finite_c (b n c : Nat) (f : Nat → Nat) (w : World) (hn : n ≤ 1048576) (h1 : ∀ i, i < n → w.cell? ⟨b, i, none⟩ = some (.float .f32 (f i))) :
    Calls Try.prog 87 #[.slice (some ⟨b, 0, none⟩) n c] w fun e w' => RetB w (allFin f n) e w' := by
  have H1 := Lib.hid h1
  clear h1
  go_enter Try.func87, Try.ntmps87
  go_wp2
  go_loopw [3] (fun i wr => ∃ k d : Nat, k ≤ n ∧ i = .int .i64 k ∧ Hid (∀ j, j < k → fin .f32 (cl .f32 (f j)) = true) ∧ wr = w.drewN d) (fun i _ => n - (intOf i).toNat)
  case atStart => exact ⟨0, 0, Nat.zero_le _, rfl, Lib.hid (fun j hj => absurd hj (Nat.not_lt_zero j)), rfl⟩
  case round =>
    obtain ⟨k, d, hk, rfl, hall, rfl⟩ := hrel
    by_cases hlt : k < n
    · have x1 := H1.out k hlt
      cases hf : fin .f32 (cl .f32 (f k)) with
      | true =>
        have HF := Lib.hid hf
        clear hf
        go_wp2_with (go_at_call 67; refine (l01Finite_c _ _).mono ?_; rintro e w2 ⟨rfl, m, rfl⟩; rw [HF.out])
        go_roundw
        case rel => exact ⟨k + 1, _, by omega, by go_num, Lib.hid (fun j hj => by rcases Nat.lt_or_eq_of_le (Nat.le_of_lt_succ hj) with h | rfl; exact hall.out j h; exact HF.out), rfl⟩
        case measure => simp [intOf]; omega
      | false =>
        have HF := Lib.hid hf
        clear hf
        go_wp2_with (go_at_call 67; refine (l01Finite_c _ _).mono ?_; rintro e w2 ⟨rfl, m, rfl⟩; rw [HF.out])
        go_ret
        refine retB _ ?_
        have : allFin f n = false := decide_eq_false (fun h => by have := h k hlt; rw [HF.out] at this; cases this)
        rw [this]
    · have hke : k = n := by omega
      have HE := Lib.hid hke
      clear hke
      go_wp2
      go_ret
      refine retB _ ?_
      have : allFin f n = true := decide_eq_true (fun j hj => hall.out j (by rw [HE.out]; exact hj))
      rw [this]

/-- Is it a picture? -/
def picB (wi hi : Int) (n : Nat) (f : Nat → Nat) : Bool := sidesB wi hi && (decide ((n : Int) = wi * hi) && allFin f n)

theorem prod_256 {wi hi : Int} (h : sidesB wi hi = true) : 1 ≤ wi * hi ∧ wi * hi ≤ 256 := by
  obtain ⟨h1, h2, h3, h4⟩ := of_decide_eq_true h
  have a : ∀ i : Fin 16, ∀ j : Fin 16, 1 ≤ ((i.val : Int) + 1) * ((j.val : Int) + 1) ∧ ((i.val : Int) + 1) * ((j.val : Int) + 1) ≤ 256 := by decide +kernel
  have := a ⟨(wi - 1).toNat, by omega⟩ ⟨(hi - 1).toNat, by omega⟩
  have e1 : (((wi - 1).toNat : Nat) : Int) + 1 = wi := by omega
  have e2 : (((hi - 1).toNat : Nat) : Int) + 1 = hi := by omega
  rw [e1, e2] at this
  exact this

theorem l02Is_c (wi hi : Int) (p b n c : Nat) (f : Nat → Nat) (w : World) (hn : n ≤ 1048576) (hp0 : w.cell? ⟨p, 0, none⟩ = some (.int .i64 wi)) (hp1 : w.cell? ⟨p, 1, none⟩ = some (.int .i64 hi))
    (hp2 : w.cell? ⟨p, 2, none⟩ = some (.slice (some ⟨b, 0, none⟩) n c)) (h1 : ∀ i, i < n → w.cell? ⟨b, i, none⟩ = some (.float .f32 (f i))) :
    Calls Try.prog 43 #[.pointer (some ⟨p, 0, none⟩)] w fun e w' => RetB w (picB wi hi n f) e w' := by
  have S := Lib.hid (sides_c wi hi)
  have F := Lib.hid (fun w h1 => l02Finite_c b n c f w hn h1)
  have H1 := Lib.hid h1
  clear h1
  unfold picB
  cases hs : sidesB wi hi with
  | false =>
    have HS := Lib.hid hs
    clear hs
    go_enter Try.func43, Try.ntmps43
    go_wp2
    have S0 : Hid (∀ w, Calls Try.prog 58 #[.int .i64 wi, .int .i64 hi] w fun e w' => e = .returned (.bool false) ∧ w' = w) := fun w => (S.out w).mono fun e w' ⟨h1, h2⟩ => ⟨by rw [h1, HS.out], h2.symm⟩
    go_quiet ((go_at_call 58; exact Calls.quiet_of_same (S0.out _)))
    go_wp2
    go_ret
    exact retB _ rfl
  | true =>
    have HS := Lib.hid hs
    obtain ⟨q1, q2⟩ := prod_256 hs
    clear hs
    have S0 : Hid (∀ w, Calls Try.prog 58 #[.int .i64 wi, .int .i64 hi] w fun e w' => e = .returned (.bool true) ∧ w' = w) := fun w => (S.out w).mono fun e w' ⟨h1, h2⟩ => ⟨by rw [h1, HS.out], h2.symm⟩
    have hw : IntKind.i64.wrap (wi * hi) = wi * hi := IntWalk.i64_in _ (by omega)
    cases he : decide ((n : Int) = wi * hi) with
    | false =>
      have hb : ((n : Int) == IntKind.i64.wrap (wi * hi)) = false := by rw [hw, beq_eq_false_iff_ne]; exact of_decide_eq_false he
      clear he q1 q2 hw
      go_enter Try.func43, Try.ntmps43
      go_wp2
      go_quiet ((go_at_call 58; exact Calls.quiet_of_same (S0.out _)))
      go_wp2
      go_ret
      exact retB _ rfl
    | true =>
      have hb : ((n : Int) == IntKind.i64.wrap (wi * hi)) = true := by rw [hw, beq_iff_eq]; exact of_decide_eq_true he
      clear he q1 q2 hw
      have F0 : Hid (∀ m, Calls Try.prog 87 #[.slice (some ⟨b, 0, none⟩) n c] (w.drewN m) fun e w' => e = .returned (.bool (allFin f n)) ∧ ∃ k, w' = (w.drewN m).drewN k) := fun m => F.out (w.drewN m) (fun i hi => by rw [World.cell?_drewN]; exact H1.out i hi)
      go_enter Try.func43, Try.ntmps43
      go_wp2
      go_quiet (first | (go_at_call 58; exact Calls.quiet_of_same (S0.out _)) | (go_at_call 87; exact Calls.quiet_of (F0.out _)))
      go_wp2
      go_ret
      exact retB _ rfl

/-- A row of numbers in a block of its own. -/
def RowAt (w : World) (B n : Nat) (f : Nat → Nat) : Prop := B < w.heap.size ∧ ∀ i, i < n → w.cell? ⟨B, i, none⟩ = some (.float .f32 (f i))
theorem rowAt_mono {w w' : World} {B n : Nat} {f : Nat → Nat} (h : RowAt w B n f) (hb : Below w.heap.size w w') : RowAt w' B n f :=
  ⟨Nat.lt_of_lt_of_le h.1 hb.size, fun i hi => by rw [bcell hb _ _ h.1]; exact h.2 i hi⟩
theorem rowAt_base {w w' : World} {B n K : Nat} {f : Nat → Nat} (h : RowAt w B n f) (hK : B < K) (hb : Below K w w') : RowAt w' B n f :=
  ⟨Nat.lt_of_lt_of_le h.1 hb.size, fun i hi => by rw [bcell hb _ _ hK]; exact h.2 i hi⟩

def BoolB (w : World) (b : Bool) (e : Ending) (w' : World) : Prop := e = .returned (.bool b) ∧ Below w.heap.size w w'

theorem specValid_c (wi hi : Int) (b n c : Nat) (f : Nat → Nat) (w : World) (hn : n ≤ 1048576) (hr : RowAt w b n f) :
    Calls Try.prog 15 #[picV wi hi (some ⟨b, 0, none⟩) n c] w (BoolB w (picB wi hi n f)) := by
  have HR := Lib.hid hr
  have I := Lib.hid (fun p w => l02Is_c wi hi p b n c f w hn)
  clear hr
  unfold picV
  go_enter Try.func15, Try.ntmps15
  go_wp2_with fail
  refine (I.out _ _ (by simp [go_sem]) (by simp [go_sem]) (by simp [go_sem]) (rowAt_mono HR.out ((Below.refl _ _).alloc (Nat.le_refl _) _)).2).mono ?_; rintro e w' ⟨rfl, m, rfl⟩
  go_wp2_with fail
  go_ret
  exact ⟨rfl, below_drewN ((Below.refl _ _).alloc (Nat.le_refl _) _) _⟩
theorem betw_c (n lo hi : Int) (b : Bool) (h : decide (lo ≤ n ∧ n ≤ hi) = b) (w : World) : Calls Try.prog 45 #[.int .i64 n, .int .i64 lo, .int .i64 hi] w fun e w' => e = .returned (.bool b) ∧ w' = w := by
  subst h
  go_enter Try.func45, Try.ntmps45
  go_wp2
  all_goals (go_ret; refine ⟨?_, rfl⟩; congr 2; first | (simp_all; done) | (simp; omega) | (simp_all; omega))
theorem size_c (a : Option Addr) (n c : Nat) (w : World) : Calls Try.prog 46 #[.slice a n c] w fun e w' => e = .returned (.int .i64 n) ∧ w' = w := by
  go_enter Try.func46, Try.ntmps46
  go_wp2
  go_ret
  exact ⟨rfl, rfl⟩
theorem implValid_c (wi hi : Int) (b n c : Nat) (f : Nat → Nat) (w : World) (hn : n ≤ 1048576) (hr : RowAt w b n f) :
    Calls Try.prog 17 #[picV wi hi (some ⟨b, 0, none⟩) n c] w (BoolB w (picB wi hi n f)) := by
  have HR := Lib.hid hr
  clear hr
  unfold picV picB
  cases h1 : decide (1 ≤ wi ∧ wi ≤ 16) with
  | false =>
    have B1 := Lib.hid (betw_c wi 1 16 _ h1)
    have hs : sidesB wi hi = false := by unfold sidesB; rw [decide_eq_false_iff_not] at h1 ⊢; omega
    have HS := Lib.hid hs
    clear h1 hs
    go_enter Try.func17, Try.ntmps17
    go_wp2
    go_quiet ((go_at_call 45; exact Calls.quiet_of_same (B1.out _)))
    go_wp2
    go_ret
    exact ⟨by rw [HS.out]; rfl, below_drewN ((Below.refl _ _).alloc (Nat.le_refl _) _) _⟩
  | true =>
    cases h2 : decide (1 ≤ hi ∧ hi ≤ 16) with
    | false =>
      have B1 := Lib.hid (betw_c wi 1 16 _ h1)
      have B2 := Lib.hid (betw_c hi 1 16 _ h2)
      have hs : sidesB wi hi = false := by unfold sidesB; rw [decide_eq_false_iff_not] at h2 ⊢; omega
      have HS := Lib.hid hs
      clear h1 h2 hs
      go_enter Try.func17, Try.ntmps17
      go_wp2
      go_quiet (first | (go_at_call 45; with_reducible exact Calls.quiet_of_same (B1.out _)) | (go_at_call 45; exact Calls.quiet_of_same (B2.out _)))
      go_wp2
      go_ret
      exact ⟨by rw [HS.out]; rfl, below_drewN ((Below.refl _ _).alloc (Nat.le_refl _) _) _⟩
    | true =>
      have B1 := Lib.hid (betw_c wi 1 16 _ h1)
      have B2 := Lib.hid (betw_c hi 1 16 _ h2)
      have hs : sidesB wi hi = true := by unfold sidesB; rw [decide_eq_true_iff] at h1 h2 ⊢; omega
      obtain ⟨q1, q2⟩ := prod_256 hs
      have hw : IntKind.i64.wrap (wi * hi) = wi * hi := IntWalk.i64_in _ (by omega)
      have Z := Lib.hid (size_c (some ⟨b, 0, none⟩) n c)
      cases he : decide ((n : Int) = wi * hi) with
      | false =>
        have hb : ((n : Int) == IntKind.i64.wrap (wi * hi)) = false := by rw [hw, beq_eq_false_iff_ne]; exact of_decide_eq_false he
        have HS := Lib.hid hs
        clear h1 h2 hs he hw q1 q2
        go_enter Try.func17, Try.ntmps17
        go_wp2
        go_quiet (first | (go_at_call 45; with_reducible exact Calls.quiet_of_same (B1.out _)) | (go_at_call 45; exact Calls.quiet_of_same (B2.out _)) | (go_at_call 46; exact Calls.quiet_of_same (Z.out _)))
        go_wp2
        go_ret
        exact ⟨by rw [HS.out]; rfl, below_drewN ((Below.refl _ _).alloc (Nat.le_refl _) _) _⟩
      | true =>
        have hb : ((n : Int) == IntKind.i64.wrap (wi * hi)) = true := by rw [hw, beq_iff_eq]; exact of_decide_eq_true he
        have HS := Lib.hid hs
        have F0 : Hid (∀ m v, Calls Try.prog 47 #[.slice (some ⟨b, 0, none⟩) n c] ((w.alloc v).drewN m) fun e w' => e = .returned (.bool (allFin f n)) ∧ ∃ k, w' = ((w.alloc v).drewN m).drewN k) :=
          fun m v => areFinite_c b n c f _ hn (fun i hi => by rw [World.cell?_drewN]; exact (rowAt_mono HR.out ((Below.refl _ _).alloc (Nat.le_refl _) _)).2 i hi)
        clear h1 h2 hs he hw q1 q2
        go_enter Try.func17, Try.ntmps17
        go_wp2
        go_quiet (first | (go_at_call 45; with_reducible exact Calls.quiet_of_same (B1.out _)) | (go_at_call 45; exact Calls.quiet_of_same (B2.out _)) | (go_at_call 46; exact Calls.quiet_of_same (Z.out _)) | (go_at_call 47; exact Calls.quiet_of (F0.out _ _)))
        go_wp2
        go_ret
        exact ⟨by rw [HS.out]; rfl, below_drewN ((Below.refl _ _).alloc (Nat.le_refl _) _) _⟩
theorem eqPic_c (wi hi : Int) (b1 b2 n c1 c2 : Nat) (f g : Nat → Nat) (w : World) (hn : n ≤ 1048576) (h1 : RowAt w b1 n f) (h2 : RowAt w b2 n g) (hfg : ∀ i, i < n → cl .f32 (f i) = cl .f32 (g i)) :
    Calls Try.prog 18 #[picV wi hi (some ⟨b1, 0, none⟩) n c1, picV wi hi (some ⟨b2, 0, none⟩) n c2] w (BoolB w true) := by
  have H1 := Lib.hid h1
  have H2 := Lib.hid h2
  have E := Lib.hid (fun w a b => eqFloat32S_c b1 b2 n c1 c2 f g w hn a b hfg)
  clear h1 h2 hfg
  unfold picV
  go_enter Try.func18, Try.ntmps18
  go_wp2_with fail
  have HB : Hid (∀ v v', Below w.heap.size w ((w.alloc v).alloc v')) := fun v v' => ((Below.refl _ _).alloc (Nat.le_refl _) _).alloc (by simp) _
  refine (E.out _ (rowAt_mono H1.out (HB.out _ _)).2 (rowAt_mono H2.out (HB.out _ _)).2).mono ?_; rintro e w' ⟨rfl, m, rfl⟩
  go_wp2_with fail
  go_ret
  exact ⟨rfl, below_drewN (HB.out _ _) _⟩

/-- What a region gives that compares a picture with a new copy of another one. -/
def EqV (x0 ap : Value) (wi hi : Int) (n : Nat) (f : Nat → Nat) : Nat → Value → World → Prop
  | 0, v, _ => v = x0
  | 1, v, _ => v = ap
  | 2, v, w => ∃ B, v = .agg #[.int .i64 wi, .int .i64 hi, .slice (some ⟨B, 0, none⟩) n n] ∧ RowAt w B n f
  | 3, v, _ => v = .bool true
  | _, v, _ => v = .bool false
theorem eqV_stays (W : World) (x0 ap : Value) (wi hi : Int) (n : Nat) (f : Nat → Nat) : Stays (EqV x0 ap wi hi n f) (fun w' => Below W.heap.size W w') := by
  refine ⟨?_, fun w w' h h' => below_trans h h'⟩
  intro j v w w' hv hb
  match j with
  | 0 => exact hv
  | 1 => exact hv
  | 2 => obtain ⟨B, hv, hr⟩ := hv; exact ⟨B, hv, rowAt_mono hr hb⟩
  | 3 => exact hv
  | _ + 4 => exact hv
end Go.Proofs.Ytpjonajpgidjfaa
