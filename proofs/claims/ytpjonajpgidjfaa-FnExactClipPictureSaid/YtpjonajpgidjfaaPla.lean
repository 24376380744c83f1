/-
  The contracts of a plain picture. No condition.
-/
import Derived.Test.YtpjonajpgidjfaaDr2
namespace Go.Proofs.Ytpjonajpgidjfaa
set_option linter.unusedVariables false
open Go.RowKit Ieee

/-- A picture that a function gives, with its flag. -/
def OutR (w : World) (P : Bool) (wi hi : Int) (n : Nat) (cls : Nat → Option Nat) (e : Ending) (w' : World) : Prop :=
  ∃ A c, e = .returned (.tuple #[cond P (.agg #[.int .i64 wi, .int .i64 hi, .slice A n c]) noPic, .bool P]) ∧ (P = true → Own w' w.heap.size (.slice A n c) n cls) ∧ Below w.heap.size w w'

theorem picC_no {wi hi : Int} {n : Nat} {cls : Nat → Option Nat} (h : sidesB wi hi = false) : picC wi hi n cls = false := by unfold picC; rw [h]; rfl

/-- Something stored over a block of a picture. -/
theorem has3 {w : World} {r : Nat} {cs : Array Value} (h : Has w r 27 cs) (hs : cs.size = 3) (u v x : Value) : Has (((w.setCell ⟨r, 0, none⟩ u).setCell ⟨r, 1, none⟩ v).setCell ⟨r, 2, none⟩ x) r 27 #[u, v, x] := by
  have h3 := ((h.put 0 u).put 1 v).put 2 x
  match cs, hs with
  | ⟨[a, b, c]⟩, _ => simpa using h3
theorem below3 {W w : World} {r : Nat} (hW : W.heap.size ≤ r) (h : Below W.heap.size W w) (u v x : Value) : Below W.heap.size W (((w.setCell ⟨r, 0, none⟩ u).setCell ⟨r, 1, none⟩ v).setCell ⟨r, 2, none⟩ x) := ((h.setCell hW _).setCell hW _).setCell hW _
theorem own3 {w : World} {base r k : Nat} {s : Value} {cls : Nat → Option Nat} {cs : Array Value} (h : Own w base s k cls) (hr : Has w r 27 cs) (u v x : Value) : Own (((w.setCell ⟨r, 0, none⟩ u).setCell ⟨r, 1, none⟩ v).setCell ⟨r, 2, none⟩ x) base s k cls :=
  ((h.kept (grownBy_set _ _ _ _) (h.apart hr f_ne_p)).kept (grownBy_set _ _ _ _) (h.apart hr f_ne_p)).kept (grownBy_set _ _ _ _) (h.apart hr f_ne_p)
theorem Own.base {w : World} {b b' k : Nat} {v : Value} {cls : Nat → Option Nat} (h : Own w b v k cls) (hb : b' ≤ b) : Own w b' v k cls := by
  obtain ⟨xs, h1, h2, h3, h4⟩ := h
  refine ⟨xs, h1, h2, h3, ?_⟩
  rcases h4 with h4 | ⟨g, cap, cur, h5, h6, h7⟩
  · exact .inl h4
  · exact .inr ⟨g, cap, cur, h5, by omega, h7⟩

set_option maxRecDepth 10000 in
theorem specPlain_c (wi hi : Int) (x N : Nat) (hN : N = (wi * hi).toNat) (w : World) : Calls Try.prog 26 #[.int .i64 wi, .int .i64 hi, .float .f32 x] w (OutR w (picC wi hi N (fun _ => cl .f32 x)) wi hi N (fun _ => cl .f32 x)) := by
  have S := Lib.hid (sides_c wi hi)
  cases hs : sidesB wi hi with
  | false =>
    have hP := picC_no (n := N) (cls := fun _ => cl .f32 x) hs
    rw [hP]
    have HS := Lib.hid hs
    clear hs hP hN
    go_enter Try.func26, Try.ntmps26
    go_wp2_with fail
    refine (S.out _).mono ?_; rintro e w1 ⟨rfl, rfl⟩
    rw [HS.out]
    go_wp2_with fail
    refine bodyPost_ret (v := .tuple #[noPic, .bool false]) (by simp [results, Try.results26, go_sem, noPic]) rfl ?_
    refine ⟨none, 0, rfl, (fun h => by cases h), ?_⟩
    first | exact (Below.refl _ _).alloc (Nat.le_refl _) _ | exact below3 (Nat.le_refl _) ((Below.refl _ _).alloc (Nat.le_refl _) _) _ _ _
  | true =>
    obtain ⟨p1, p2⟩ := prod_256 hs
    have hN' : (N : Int) = wi * hi := by omega
    have PL := Lib.hid (fun w => plain_c wi hi N x hN' (by omega) w)
    have GV := Lib.hid (fun base A c w ho => give_c wi hi base N A c (fun _ => cl .f32 x) w ho (by omega) (by omega))
    have HS := Lib.hid hs
    cases hP : picC wi hi N (fun _ => cl .f32 x)
    · rw [hP] at GV
      clear hs hN hN' p1 p2 hP
      go_enter Try.func26, Try.ntmps26
      go_wp2_with fail
      refine (S.out _).mono ?_; rintro e w1 ⟨rfl, rfl⟩
      rw [HS.out]
      go_wp2_with fail
      refine (PL.out _).mono ?_; rintro e w1 ⟨A, c, rfl, ow, b1⟩
      have OW := Lib.hid (ow.base (b' := w.heap.size) (by simp))
      have HR := Lib.hid (Has.low (Has.ofAlloc w 27 #[.int .i64 0, .int .i64 0, .slice none 0 0]) b1 (by simp))
      have BB := Lib.hid (below_trans ((Below.refl _ _).alloc (Nat.le_refl _) _) b1)
      clear ow b1
      go_wp2_with fail
      refine (GV.out _ _ _ _ OW.out).mono ?_; rintro e w2 ⟨rfl, b2⟩
      simp only [cond_false, noPic]
      have hr := HR.out.low b2 HR.out.inside
      have O2 := Lib.hid (OW.out.low b2)
      have B2 := Lib.hid (below_trans BB.out b2)
      have H2 := Lib.hid hr
      have r0 := hr.at 0
      have r1 := hr.at 1
      have r2 := hr.at 2
      have f0 := hr.free 0
      have f1 := hr.free 1
      have f2 := hr.free 2
      simp at r0 r1 r2
      clear b2 hr
      go_wp2_with fail
      have q := has3 H2.out rfl (.int .i64 0) (.int .i64 0) (.slice none 0 0)
      have q0 := q.at 0
      have q1 := q.at 1
      have q2 := q.at 2
      simp at q0 q1 q2
      refine bodyPost_ret (v := .tuple #[noPic, .bool false]) (by simp [results, Try.results26, go_sem, noPic, q0, q1, q2]) rfl ?_
      exact ⟨none, 0, rfl, (fun h => by cases h), below3 (Nat.le_refl _) B2.out _ _ _⟩
    · rw [hP] at GV
      clear hs hN hN' p1 p2 hP
      go_enter Try.func26, Try.ntmps26
      go_wp2_with fail
      refine (S.out _).mono ?_; rintro e w1 ⟨rfl, rfl⟩
      rw [HS.out]
      go_wp2_with fail
      refine (PL.out _).mono ?_; rintro e w1 ⟨A, c, rfl, ow, b1⟩
      have OW := Lib.hid (ow.base (b' := w.heap.size) (by simp))
      have HR := Lib.hid (Has.low (Has.ofAlloc w 27 #[.int .i64 0, .int .i64 0, .slice none 0 0]) b1 (by simp))
      have BB := Lib.hid (below_trans ((Below.refl _ _).alloc (Nat.le_refl _) _) b1)
      clear ow b1
      go_wp2_with fail
      refine (GV.out _ _ _ _ OW.out).mono ?_; rintro e w2 ⟨rfl, b2⟩
      simp only [cond_true, noPic]
      have hr := HR.out.low b2 HR.out.inside
      have O2 := Lib.hid (OW.out.low b2)
      have B2 := Lib.hid (below_trans BB.out b2)
      have H2 := Lib.hid hr
      have r0 := hr.at 0
      have r1 := hr.at 1
      have r2 := hr.at 2
      have f0 := hr.free 0
      have f1 := hr.free 1
      have f2 := hr.free 2
      simp at r0 r1 r2
      clear b2 hr
      go_wp2_with fail
      have q := has3 H2.out rfl (.int .i64 wi) (.int .i64 hi) (.slice A N c)
      have q0 := q.at 0
      have q1 := q.at 1
      have q2 := q.at 2
      simp at q0 q1 q2
      refine bodyPost_ret (v := .tuple #[.agg #[.int .i64 wi, .int .i64 hi, .slice A N c], .bool true]) (by simp [results, Try.results26, go_sem, q0, q1, q2]) rfl ?_
      exact ⟨A, c, rfl, (fun _ => own3 O2.out H2.out _ _ _), below3 (Nat.le_refl _) B2.out _ _ _⟩

theorem areSides_c (wi hi : Int) (w : World) : Calls Try.prog 61 #[.int .i64 wi, .int .i64 hi] w fun e w' => e = .returned (.bool (sidesB wi hi)) ∧ w = w' := by
  go_enter Try.func61, Try.ntmps61
  go_wp2_with (first | (go_at_call 45; go_in))
  all_goals (go_ret; refine ⟨?_, rfl⟩; unfold sidesB; congr 2; first | (simp_all; done) | (simp; omega) | (simp_all; omega))

theorem plain1_c (x : Nat) (a b : Value) (p : Nat) (w : World) (hx : w.cell? ⟨p, 0, none⟩ = some (.float .f32 x)) (hw : (Lit.float .f32 x).wf = true) : Calls Try.prog 64 #[a, b, .pointer (some ⟨p, 0, none⟩)] w fun e w' => RetF .f32 w (cl .f32 x) e w' := by
  go_enter Try.func64, Try.ntmps64
  go_wp2
  go_ret
  exact retF0 rfl hw

theorem callPlain1 (args : Array Value) (w : World) : (callFunc 64 args).run Try.prog w = .ok (.enter 64 args) w := by
  simp [go_sem]

set_option maxRecDepth 10000 in
theorem implPlain_c (wi hi : Int) (x N : Nat) (hN : N = (wi * hi).toNat) (hw : (Lit.float .f32 x).wf = true) (w : World) : Calls Try.prog 27 #[.int .i64 wi, .int .i64 hi, .float .f32 x] w (OutR w (picC wi hi N (fun _ => cl .f32 x)) wi hi N (fun _ => cl .f32 x)) := by
  have S := Lib.hid (areSides_c wi hi)
  cases hs : sidesB wi hi with
  | false =>
    have hP := picC_no (n := N) (cls := fun _ => cl .f32 x) hs
    rw [hP]
    have HS := Lib.hid hs
    clear hs hP hN
    go_enter Try.func27, Try.ntmps27
    go_wp2_with fail
    refine (S.out _).mono ?_; rintro e w1 ⟨rfl, rfl⟩
    rw [HS.out]
    go_wp2_with fail
    refine bodyPost_ret (v := .tuple #[noPic, .bool false]) (by simp [results, Try.results27, go_sem, noPic]) rfl ?_
    refine ⟨none, 0, rfl, (fun h => by cases h), ?_⟩
    first | exact ((Below.refl _ _).alloc (Nat.le_refl _) _).alloc (by simp) _ | exact below3 (by simp) (((Below.refl _ _).alloc (Nat.le_refl _) _).alloc (by simp) _) _ _ _
  | true =>
    obtain ⟨p1, p2⟩ := prod_256 hs
    obtain ⟨s1, s2, s3, s4⟩ := of_decide_eq_true hs
    obtain ⟨wN, rfl⟩ : ∃ n : Nat, wi = n := ⟨wi.toNat, by omega⟩
    obtain ⟨hN2, rfl⟩ : ∃ n : Nat, hi = n := ⟨hi.toNat, by omega⟩
    have hNN : N = hN2 * wN := by rw [hN, Nat.mul_comm]; exact Int.toNat_natCast (wN * hN2)
    have hN' : (N : Int) = (wN : Int) * (hN2 : Int) := by omega
    have PL := Lib.hid (fun w caps hf => drawn_c wN hN2 N hNN (by omega) (by omega) (by omega) 64 caps (fun _ => cl .f32 x) w callPlain1 hf)
    have GV := Lib.hid (fun base A c w ho => orFail_c (wN : Int) (hN2 : Int) base N A c (fun _ => cl .f32 x) w ho (by omega) (by omega))
    have HS := Lib.hid hs
    have HW := Lib.hid hw
    cases hP : picC (wN : Int) (hN2 : Int) N (fun _ => cl .f32 x)
    · rw [hP] at GV
      clear hs hN hNN hN' p1 p2 hP s1 s2 s3 s4 hw
      go_enter Try.func27, Try.ntmps27
      go_wp2_with fail
      refine (S.out _).mono ?_; rintro e w1 ⟨rfl, rfl⟩
      rw [HS.out]
      go_wp2_with fail
      refine (PL.out _ #[.pointer (some ⟨w.heap.size, 0, none⟩)] ?_).mono ?_
      · intro x1 y1 w' _ _ hb
        exact plain1_c x _ _ w.heap.size w' (by rw [bcell hb _ _ (by simp; omega)]; simp [go_sem]) HW.out
      rintro e w1 ⟨A, c, rfl, ow, b1⟩
      have OW := Lib.hid (ow.base (b' := w.heap.size) (by simp; omega))
      have HR0 := Has.low (Has.ofAlloc (w.alloc (.cells #[.float .f32 x] 32)) 27 #[.int .i64 0, .int .i64 0, .slice none 0 0]) b1 (by simp)
      simp at HR0
      have HR := Lib.hid HR0
      have BB := Lib.hid (below_trans (((Below.refl w.heap.size w).alloc (Nat.le_refl _) _).alloc (by simp) _) b1)
      clear ow b1 HR0
      go_wp2_with fail
      refine (GV.out _ _ _ _ OW.out).mono ?_; rintro e w2 ⟨rfl, b2⟩
      simp only [cond_false, noPic]
      have hr := HR.out.low b2 HR.out.inside
      have O2 := Lib.hid (OW.out.low b2)
      have B2 := Lib.hid (below_trans BB.out b2)
      have H2 := Lib.hid hr
      have r0 := hr.at 0
      have r1 := hr.at 1
      have r2 := hr.at 2
      have f0 := hr.free 0
      have f1 := hr.free 1
      have f2 := hr.free 2
      simp at r0 r1 r2
      clear b2 hr
      go_wp2_with fail
      have q := has3 H2.out rfl (.int .i64 0) (.int .i64 0) (.slice none 0 0)
      have q0 := q.at 0
      have q1 := q.at 1
      have q2 := q.at 2
      simp at q0 q1 q2
      refine bodyPost_ret (v := .tuple #[noPic, .bool false]) (by simp [results, Try.results27, go_sem, noPic, q0, q1, q2]) rfl ?_
      exact ⟨none, 0, rfl, (fun h => by cases h), below3 (by simp) B2.out _ _ _⟩
    · rw [hP] at GV
      clear hs hN hNN hN' p1 p2 hP s1 s2 s3 s4 hw
      go_enter Try.func27, Try.ntmps27
      go_wp2_with fail
      refine (S.out _).mono ?_; rintro e w1 ⟨rfl, rfl⟩
      rw [HS.out]
      go_wp2_with fail
      refine (PL.out _ #[.pointer (some ⟨w.heap.size, 0, none⟩)] ?_).mono ?_
      · intro x1 y1 w' _ _ hb
        exact plain1_c x _ _ w.heap.size w' (by rw [bcell hb _ _ (by simp; omega)]; simp [go_sem]) HW.out
      rintro e w1 ⟨A, c, rfl, ow, b1⟩
      have OW := Lib.hid (ow.base (b' := w.heap.size) (by simp; omega))
      have HR0 := Has.low (Has.ofAlloc (w.alloc (.cells #[.float .f32 x] 32)) 27 #[.int .i64 0, .int .i64 0, .slice none 0 0]) b1 (by simp)
      simp at HR0
      have HR := Lib.hid HR0
      have BB := Lib.hid (below_trans (((Below.refl w.heap.size w).alloc (Nat.le_refl _) _).alloc (by simp) _) b1)
      clear ow b1 HR0
      go_wp2_with fail
      refine (GV.out _ _ _ _ OW.out).mono ?_; rintro e w2 ⟨rfl, b2⟩
      simp only [cond_true, noPic]
      have hr := HR.out.low b2 HR.out.inside
      have O2 := Lib.hid (OW.out.low b2)
      have B2 := Lib.hid (below_trans BB.out b2)
      have H2 := Lib.hid hr
      have r0 := hr.at 0
      have r1 := hr.at 1
      have r2 := hr.at 2
      have f0 := hr.free 0
      have f1 := hr.free 1
      have f2 := hr.free 2
      simp at r0 r1 r2
      clear b2 hr
      go_wp2_with fail
      have q := has3 H2.out rfl (.int .i64 (wN : Int)) (.int .i64 (hN2 : Int)) (.slice A N c)
      have q0 := q.at 0
      have q1 := q.at 1
      have q2 := q.at 2
      simp at q0 q1 q2
      refine bodyPost_ret (v := .tuple #[.agg #[.int .i64 (wN : Int), .int .i64 (hN2 : Int), .slice A N c], .bool true]) (by simp [results, Try.results27, go_sem, q0, q1, q2]) rfl ?_
      exact ⟨A, c, rfl, (fun _ => own3 O2.out H2.out _ _ _), below3 (by simp) B2.out _ _ _⟩
end Go.Proofs.Ytpjonajpgidjfaa
