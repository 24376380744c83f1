/-
  The contracts of impl's ramp. No condition.
-/
import Derived.Test.YtpjonajpgidjfaaRmp
namespace Go.Proofs.Ytpjonajpgidjfaa
set_option linter.unusedVariables false
open Go.RowKit Ieee

set_option maxRecDepth 10000 in
set_option maxHeartbeats 1000000 in
theorem implRamp_c (wN hN a b N : Nat) (hNN : N = hN * wN) (hsd : sidesB wN hN = true) (hN1 : 0 < N) (hN2 : N ≤ 256) (ha : fin .f32 (cl .f32 a) = true) (hb : fin .f32 (cl .f32 b) = true) (P : Bool) (hP : picC wN hN N (rampC wN a b) = P) (wa : (Lit.float .f32 a).wf = true) (w : World) :
    Calls Try.prog 31 #[.int .i64 wN, .int .i64 hN, .float .f32 a, .float .f32 b] w (OutR w P wN hN N (rampC wN a b)) := by
  have S := Lib.hid (areSides_c (wN : Int) (hN : Int))
  have GV := Lib.hid (fun base A c w ho => orFail_c (wN : Int) (hN : Int) base N A c (rampC wN a b) w ho hN1 (by omega))
  rw [hP] at GV
  have HS := Lib.hid hsd
  obtain ⟨s1, s2, s3, s4⟩ := of_decide_eq_true hsd
  have PL := Lib.hid (fun w caps hf => drawn_c wN hN N hNN hN2 (by omega) (by omega) 69 caps (rampC wN a b) w callRamp1 hf)
  have F := Lib.hid (fun b0 w h => areFinite_c b0 2 2 (two a b) w (by decide) h)
  have HF : Hid (allFin (two a b) 2 = true) := by show _ = _; rw [two_fin, ha, hb]; rfl
  have R1 := Lib.hid (fun x hx yv p1 p2 p3 w h1 h2 h3 => ramp1_c wN a b x hx (by omega) yv p1 p2 p3 wa w h1 h2 h3)
  have RC : Hid (∀ y x, x < wN → rampC wN a b (y * wN + x) = cond (decide ((1 : Int) < (wN : Int))) (fbin .add .f32 (cl .f32 a) (fbin .mul .f32 (fbin .sub .f32 (cl .f32 b) (cl .f32 a)) (fbin .quo .f32 (cl .f32 (floatOfInt .f32 (x : Int))) (cl .f32 (floatOfInt .f32 ((wN : Int) - 1)))))) (cl .f32 a)) := by
    intro y x hx
    unfold rampC
    rw [mul_mod_lt hx]
  generalize rampC wN a b = cls at GV PL RC ⊢
  clear hNN hsd hP ha hb s1 s2 s3 s4 wa
  cases P with
  | false =>
    go_enter Try.func31, Try.ntmps31
    go_wp2_with fail
    refine (S.out _).mono ?_; rintro e w1 ⟨rfl, rfl⟩
    rw [HS.out]
    go_wp2_with fail
    refine (F.out _ _ ?_).mono ?_
    · intro i hi
      match i, hi with
      | 0, _ => simp [go_sem, two]
      | 1, _ => simp [go_sem, two]
    rintro e w1 ⟨rfl, n1, rfl⟩
    rw [HF.out]
    go_wp2_with fail
    refine (PL.out _ #[.pointer (some ⟨w.heap.size, 0, none⟩), .pointer (some ⟨w.heap.size + 1, 0, none⟩), .pointer (some ⟨w.heap.size + 1 + 1, 0, none⟩)] ?_).mono ?_
    · intro x y w' hx hy hb
      rw [RC.out y x hx]
      exact R1.out x hx _ _ _ _ w' (by rw [bcell hb _ _ (by first | (simp; done) | (simp; omega) | omega)]; simp [go_sem]) (by rw [bcell hb _ _ (by first | (simp; done) | (simp; omega) | omega)]; simp [go_sem]) (by rw [bcell hb _ _ (by first | (simp; done) | (simp; omega) | omega)]; simp [go_sem])
    rintro e w1 ⟨A, c, rfl, ow, b1⟩
    have OW := Lib.hid (ow.base (b' := w.heap.size) (by first | (simp; done) | (simp; omega) | omega))
    have HR0 := (Has.ofAlloc (((w.alloc (.cells #[.int .i64 (wN : Int)] 2)).alloc (.cells #[.float .f32 a] 32)).alloc (.cells #[.float .f32 b] 32)) 27 #[.int .i64 0, .int .i64 0, .slice none 0 0]).past (.cells #[.float .f32 a, .float .f32 b] 32)
    have HR1 := Has.low (w := (((((w.alloc (.cells #[.int .i64 (wN : Int)] 2)).alloc (.cells #[.float .f32 a] 32)).alloc (.cells #[.float .f32 b] 32)).alloc (.cells #[.int .i64 0, .int .i64 0, .slice none 0 0] 27)).alloc (.cells #[.float .f32 a, .float .f32 b] 32)).drewN n1) HR0 b1 (by first | (simp; done) | (simp; omega) | omega)
    simp at HR1
    have HR := Lib.hid HR1
    have BB := Lib.hid (below_trans (below_drewN ((((((Below.refl w.heap.size w).alloc (Nat.le_refl _) _).alloc (by simp) _).alloc (by first | (simp; done) | (simp; omega) | omega) _).alloc (by first | (simp; done) | (simp; omega) | omega) _).alloc (by first | (simp; done) | (simp; omega) | omega) _) n1) b1)
    clear ow b1 HR0 HR1
    go_wp2_with fail
    refine (GV.out _ _ _ _ OW.out).mono ?_; rintro e w2 ⟨rfl, b2⟩
    simp only [cond_false, noPic]
    have hr := HR.out.low b2 HR.out.inside
    have O2 := Lib.hid (OW.out.low b2)
    have B2 := Lib.hid (below_trans BB.out b2)
    have H2 := Lib.hid hr
    have r0 := hr.at 0
    have r1 := hr.at 1
    have r2 := hr.at 2
    have f0 := hr.free 0
    have f1 := hr.free 1
    have f2 := hr.free 2
    simp at r0 r1 r2
    clear b2 hr
    go_wp2_with fail
    have q := has3 H2.out rfl (.int .i64 0) (.int .i64 0) (.slice none 0 0)
    have q0 := q.at 0
    have q1 := q.at 1
    have q2 := q.at 2
    simp at q0 q1 q2
    refine bodyPost_ret (v := .tuple #[noPic, .bool false]) (by simp [results, Try.results31, go_sem, noPic, q0, q1, q2]) rfl ?_
    exact ⟨none, 0, rfl, (fun h => by cases h), below3 (by first | (simp; done) | (simp; omega) | omega) B2.out _ _ _⟩
  | true =>
    go_enter Try.func31, Try.ntmps31
    go_wp2_with fail
    refine (S.out _).mono ?_; rintro e w1 ⟨rfl, rfl⟩
    rw [HS.out]
    go_wp2_with fail
    refine (F.out _ _ ?_).mono ?_
    · intro i hi
      match i, hi with
      | 0, _ => simp [go_sem, two]
      | 1, _ => simp [go_sem, two]
    rintro e w1 ⟨rfl, n1, rfl⟩
    rw [HF.out]
    go_wp2_with fail
    refine (PL.out _ #[.pointer (some ⟨w.heap.size, 0, none⟩), .pointer (some ⟨w.heap.size + 1, 0, none⟩), .pointer (some ⟨w.heap.size + 1 + 1, 0, none⟩)] ?_).mono ?_
    · intro x y w' hx hy hb
      rw [RC.out y x hx]
      exact R1.out x hx _ _ _ _ w' (by rw [bcell hb _ _ (by first | (simp; done) | (simp; omega) | omega)]; simp [go_sem]) (by rw [bcell hb _ _ (by first | (simp; done) | (simp; omega) | omega)]; simp [go_sem]) (by rw [bcell hb _ _ (by first | (simp; done) | (simp; omega) | omega)]; simp [go_sem])
    rintro e w1 ⟨A, c, rfl, ow, b1⟩
    have OW := Lib.hid (ow.base (b' := w.heap.size) (by first | (simp; done) | (simp; omega) | omega))
    have HR0 := (Has.ofAlloc (((w.alloc (.cells #[.int .i64 (wN : Int)] 2)).alloc (.cells #[.float .f32 a] 32)).alloc (.cells #[.float .f32 b] 32)) 27 #[.int .i64 0, .int .i64 0, .slice none 0 0]).past (.cells #[.float .f32 a, .float .f32 b] 32)
    have HR1 := Has.low (w := (((((w.alloc (.cells #[.int .i64 (wN : Int)] 2)).alloc (.cells #[.float .f32 a] 32)).alloc (.cells #[.float .f32 b] 32)).alloc (.cells #[.int .i64 0, .int .i64 0, .slice none 0 0] 27)).alloc (.cells #[.float .f32 a, .float .f32 b] 32)).drewN n1) HR0 b1 (by first | (simp; done) | (simp; omega) | omega)
    simp at HR1
    have HR := Lib.hid HR1
    have BB := Lib.hid (below_trans (below_drewN ((((((Below.refl w.heap.size w).alloc (Nat.le_refl _) _).alloc (by simp) _).alloc (by first | (simp; done) | (simp; omega) | omega) _).alloc (by first | (simp; done) | (simp; omega) | omega) _).alloc (by first | (simp; done) | (simp; omega) | omega) _) n1) b1)
    clear ow b1 HR0 HR1
    go_wp2_with fail
    refine (GV.out _ _ _ _ OW.out).mono ?_; rintro e w2 ⟨rfl, b2⟩
    simp only [cond_true, noPic]
    have hr := HR.out.low b2 HR.out.inside
    have O2 := Lib.hid (OW.out.low b2)
    have B2 := Lib.hid (below_trans BB.out b2)
    have H2 := Lib.hid hr
    have r0 := hr.at 0
    have r1 := hr.at 1
    have r2 := hr.at 2
    have f0 := hr.free 0
    have f1 := hr.free 1
    have f2 := hr.free 2
    simp at r0 r1 r2
    clear b2 hr
    go_wp2_with fail
    have q := has3 H2.out rfl (.int .i64 (wN : Int)) (.int .i64 (hN : Int)) (.slice A N c)
    have q0 := q.at 0
    have q1 := q.at 1
    have q2 := q.at 2
    simp at q0 q1 q2
    refine bodyPost_ret (v := .tuple #[.agg #[.int .i64 (wN : Int), .int .i64 (hN : Int), .slice A N c], .bool true]) (by simp [results, Try.results31, go_sem, q0, q1, q2]) rfl ?_
    exact ⟨A, c, rfl, (fun _ => own3 O2.out H2.out _ _ _), below3 (by first | (simp; done) | (simp; omega) | omega) B2.out _ _ _⟩

set_option maxRecDepth 10000 in
set_option maxHeartbeats 1000000 in
theorem implRamp_s (wi hi : Int) (a b N : Nat) (cls : Nat → Option Nat) (hsd : sidesB wi hi = false) (w : World) :
    Calls Try.prog 31 #[.int .i64 wi, .int .i64 hi, .float .f32 a, .float .f32 b] w (OutR w false wi hi N cls) := by
  have S := Lib.hid (areSides_c wi hi)
  have HS := Lib.hid hsd
  clear hsd
  have B4 := Lib.hid (fun v0 v1 v2 v3 => ((((Below.refl w.heap.size w).alloc (Nat.le_refl _) v0).alloc (by simp) v1).alloc (by first | (simp; done) | (simp; omega) | omega) v2).alloc (by first | (simp; done) | (simp; omega) | omega) v3)
  go_enter Try.func31, Try.ntmps31
  go_wp2_with fail
  refine (S.out _).mono ?_; rintro e w1 ⟨rfl, rfl⟩
  rw [HS.out]
  go_wp2_with fail
  refine bodyPost_ret (v := .tuple #[noPic, .bool false]) (by simp [results, Try.results31, go_sem, noPic]) rfl ?_
  refine ⟨none, 0, rfl, (fun h => by cases h), ?_⟩
  first | exact B4.out _ _ _ _ | exact below_drewN ((B4.out _ _ _ _).alloc (by first | (simp; done) | (simp; omega) | omega) _) _ | exact below3 (by first | (simp; done) | (simp; omega) | omega) (B4.out _ _ _ _) _ _ _ | exact below3 (by first | (simp; done) | (simp; omega) | omega) (below_drewN ((B4.out _ _ _ _).alloc (by first | (simp; done) | (simp; omega) | omega) _) _) _ _ _

set_option maxRecDepth 10000 in
set_option maxHeartbeats 1000000 in
theorem implRamp_f (wi hi : Int) (a b N : Nat) (cls : Nat → Option Nat) (hsd : sidesB wi hi = true) (hf : (fin .f32 (cl .f32 a) && fin .f32 (cl .f32 b)) = false) (w : World) :
    Calls Try.prog 31 #[.int .i64 wi, .int .i64 hi, .float .f32 a, .float .f32 b] w (OutR w false wi hi N cls) := by
  have S := Lib.hid (areSides_c wi hi)
  have HS := Lib.hid hsd
  have F := Lib.hid (fun b0 w h => areFinite_c b0 2 2 (two a b) w (by decide) h)
  have HF : Hid (allFin (two a b) 2 = false) := by show _ = _; rw [two_fin]; exact hf
  clear hsd hf
  have B4 := Lib.hid (fun v0 v1 v2 v3 => ((((Below.refl w.heap.size w).alloc (Nat.le_refl _) v0).alloc (by simp) v1).alloc (by first | (simp; done) | (simp; omega) | omega) v2).alloc (by first | (simp; done) | (simp; omega) | omega) v3)
  go_enter Try.func31, Try.ntmps31
  go_wp2_with fail
  refine (S.out _).mono ?_; rintro e w1 ⟨rfl, rfl⟩
  rw [HS.out]
  go_wp2_with fail
  refine (F.out _ _ ?_).mono ?_
  · intro i hi
    match i, hi with
    | 0, _ => simp [go_sem, two]
    | 1, _ => simp [go_sem, two]
  rintro e w1 ⟨rfl, n1, rfl⟩
  rw [HF.out]
  go_wp2_with fail
  refine bodyPost_ret (v := .tuple #[noPic, .bool false]) (by simp [results, Try.results31, go_sem, noPic]) rfl ?_
  refine ⟨none, 0, rfl, (fun h => by cases h), ?_⟩
  exact below3 (by omega) (below_drewN ((B4.out _ _ _ _).alloc (by simp; omega) _) _) _ _ _

/-- What both give, whatever the numbers. -/
theorem ramp_both (wi hi : Int) (a b N : Nat) (hN : N = (wi * hi).toNat) (wa : (Lit.float .f32 a).wf = true) : ∃ P cls, (P = true → 0 < N ∧ N ≤ 256) ∧
    (∀ w, Calls Try.prog 30 #[.int .i64 wi, .int .i64 hi, .float .f32 a, .float .f32 b] w (OutR w P wi hi N cls)) ∧ (∀ w, Calls Try.prog 31 #[.int .i64 wi, .int .i64 hi, .float .f32 a, .float .f32 b] w (OutR w P wi hi N cls)) := by
  cases hs : sidesB wi hi with
  | false => exact ⟨false, fun _ => none, (fun h => by cases h), specRamp_s wi hi a b N _ hs, implRamp_s wi hi a b N _ hs⟩
  | true =>
    cases ha : fin .f32 (cl .f32 a) with
    | false => exact ⟨false, fun _ => none, (fun h => by cases h), specRamp_a wi hi a b N _ hs ha, implRamp_f wi hi a b N _ hs (by rw [ha]; rfl)⟩
    | true =>
      cases hb : fin .f32 (cl .f32 b) with
      | false => exact ⟨false, fun _ => none, (fun h => by cases h), specRamp_b wi hi a b N _ hs ha hb, implRamp_f wi hi a b N _ hs (by rw [ha, hb]; rfl)⟩
      | true =>
        obtain ⟨p1, p2⟩ := prod_256 hs
        obtain ⟨s1, s2, s3, s4⟩ := of_decide_eq_true hs
        obtain ⟨wN, rfl⟩ : ∃ n : Nat, wi = n := ⟨wi.toNat, by omega⟩
        obtain ⟨hN2, rfl⟩ : ∃ n : Nat, hi = n := ⟨hi.toNat, by omega⟩
        have hNN : N = hN2 * wN := by rw [hN, Nat.mul_comm]; exact Int.toNat_natCast (wN * hN2)
        have hN0 : 0 < N := by omega
        have hN3 : N ≤ 256 := by omega
        exact ⟨_, rampC wN a b, (fun _ => ⟨hN0, hN3⟩), specRamp_c wN hN2 a b N hNN hs hN0 hN3 ha hb _ rfl wa, implRamp_c wN hN2 a b N hNN hs hN0 hN3 ha hb _ rfl wa⟩
end Go.Proofs.Ytpjonajpgidjfaa
