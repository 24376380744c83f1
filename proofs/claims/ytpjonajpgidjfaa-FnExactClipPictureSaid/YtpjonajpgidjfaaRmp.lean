/-
  The contracts of a ramp. No condition.
-/
import Derived.Test.YtpjonajpgidjfaaMrk
namespace Go.Proofs.Ytpjonajpgidjfaa
set_option linter.unusedVariables false
open Go.RowKit Ieee

/-- The class of the i-th light of a ramp. -/
def rampC (wN a b : Nat) (i : Nat) : Option Nat :=
  cond (decide ((1 : Int) < (wN : Int))) (fbin .add .f32 (cl .f32 a) (fbin .mul .f32 (fbin .sub .f32 (cl .f32 b) (cl .f32 a)) (fbin .quo .f32 (cl .f32 (floatOfInt .f32 (((i % wN : Nat)) : Int))) (cl .f32 (floatOfInt .f32 ((wN : Int) - 1)))))) (cl .f32 a)

def rampP (wi hi : Int) (a b N : Nat) (cls : Nat → Option Nat) : Bool := sidesB wi hi && (fin .f32 (cl .f32 a) && (fin .f32 (cl .f32 b) && picC wi hi N cls))

theorem ramp_step {wN a b x1 x2 x3 x4 : Nat} {k : Int} {C : Option Nat} (h : C = cond (decide ((1 : Int) < (wN : Int))) (fbin .add .f32 (cl .f32 a) (fbin .mul .f32 (fbin .sub .f32 (cl .f32 b) (cl .f32 a)) (fbin .quo .f32 (cl .f32 (floatOfInt .f32 k)) (cl .f32 (floatOfInt .f32 ((wN : Int) - 1)))))) (cl .f32 a)) (hw : decide ((1 : Int) < (wN : Int)) = true)
    (h1 : cl .f32 x1 = fbin .sub .f32 (cl .f32 b) (cl .f32 a)) (h2 : cl .f32 x2 = fbin .quo .f32 (cl .f32 (floatOfInt .f32 k)) (cl .f32 (floatOfInt .f32 ((wN : Int) - 1)))) (h3 : cl .f32 x3 = fbin .mul .f32 (cl .f32 x1) (cl .f32 x2)) (h4 : cl .f32 x4 = fbin .add .f32 (cl .f32 a) (cl .f32 x3)) : Hid (cl .f32 x4 = C) := by
  show _ = _
  rw [h, hw, h4, h3, h2, h1]; rfl
theorem low_da (w : World) (n : Nat) (o : Obj) : Below w.heap.size w ((w.drewN n).alloc o) := (below_drewN (Below.refl _ _) n).alloc (Nat.le_refl _) o

set_option maxRecDepth 10000 in
set_option maxHeartbeats 1000000 in
theorem specRamp_c (wN hN a b N : Nat) (hNN : N = hN * wN) (hsd : sidesB wN hN = true) (hN1 : 0 < N) (hN2 : N ≤ 256) (ha : fin .f32 (cl .f32 a) = true) (hb : fin .f32 (cl .f32 b) = true) (P : Bool) (hP : picC wN hN N (rampC wN a b) = P) (wa : (Lit.float .f32 a).wf = true) (w : World) :
    Calls Try.prog 30 #[.int .i64 wN, .int .i64 hN, .float .f32 a, .float .f32 b] w (OutR w P wN hN N (rampC wN a b)) := by
  have S := Lib.hid (sides_c (wN : Int) (hN : Int))
  have Bl := Lib.hid (blank_c (wN : Int) (hN : Int) (rampC wN a b))
  have GV := Lib.hid (fun base A c w ho => give_c (wN : Int) (hN : Int) base N A c (rampC wN a b) w ho hN1 (by omega))
  rw [hP] at GV
  have HS := Lib.hid hsd
  have HA := Lib.hid ha
  have HB := Lib.hid hb
  obtain ⟨s1, s2, s3, s4⟩ := of_decide_eq_true hsd
  have hw : wrap64 ((wN : Int) * hN) = N := by
    have : (N : Int) = (wN : Int) * hN := by rw [hNN, Nat.mul_comm]; exact Int.natCast_mul _ _
    rw [← this]; unfold wrap64; omega
  have hRC : Hid (∀ k, rampC wN a b k = cond (decide ((1 : Int) < (wN : Int))) (fbin .add .f32 (cl .f32 a) (fbin .mul .f32 (fbin .sub .f32 (cl .f32 b) (cl .f32 a)) (fbin .quo .f32 (cl .f32 (floatOfInt .f32 ((k : Int) % (wN : Int)))) (cl .f32 (floatOfInt .f32 ((wN : Int) - 1)))))) (cl .f32 a)) := fun k => rfl
  generalize rampC wN a b = cls at Bl GV hRC ⊢
  clear hNN hsd hP ha hb s4
  go_enter Try.func30, Try.ntmps30
  go_wp2_with fail
  refine (S.out _).mono ?_; rintro e w1 ⟨rfl, rfl⟩
  rw [HS.out]
  go_wp2_with fail
  refine (l01Finite_c _ _).mono ?_; rintro e w2 ⟨rfl, n1, rfl⟩
  rw [HA.out]
  go_wp2_with fail
  refine (l01Finite_c _ _).mono ?_; rintro e w2 ⟨rfl, n2, rfl⟩
  rw [HB.out]
  go_wp2_with fail
  refine (Bl.out _).mono ?_; rintro e w1 ⟨A, c, rfl, ow, b1⟩
  have z1 := b1.size
  simp at z1
  have OW := Lib.hid (ow.base (b' := w.heap.size) (by simp))
  have HR0 := Lib.hid (Has.low (w := (w.alloc (.cells #[.int .i64 0, .int .i64 0, .slice none 0 0] 27)).drewN (n1 + n2)) (Has.ofAlloc w 27 #[.int .i64 0, .int .i64 0, .slice none 0 0]) b1 (by simp))
  have BB := Lib.hid (below_trans (below_drewN ((Below.refl w.heap.size w).alloc (Nat.le_refl _) _) _) b1)
  clear ow b1
  go_wp2_with fail
  go_loopw [11] (fun i wr => ∃ k : Nat, k ≤ N ∧ i = .int .i64 k ∧ Mid w w1.heap.size w.heap.size wN hN cls k wr) (fun i _ => N - (intOf i).toNat)
  case atStart => exact ⟨0, Nat.zero_le _, rfl, A, c, Has.ofAlloc _ _ _, OW.out.low ((Below.refl _ _).alloc (Nat.le_refl _) _), HR0.out.past _, below_trans BB.out ((Below.refl _ _).alloc (Nat.le_refl _) _)⟩
  case round =>
    obtain ⟨k, hk, rfl, hm⟩ := hrel
    obtain ⟨A1, c3, hp, ho, hr, hb⟩ := hm
    have zr := hp.inside
    have c0 := hp.at 0
    have c1 := hp.at 1
    have c2 := hp.at 2
    simp at c0 c1 c2
    have HP := Lib.hid hp
    have HO := Lib.hid ho
    have HR := Lib.hid hr
    have HBb := Lib.hid hb
    clear hp ho hr hb
    by_cases hlt : k < N
    · cases hw1 : decide ((1 : Int) < (wN : Int)) with
      | false =>
        have hc : Hid (cl .f32 a = cls k) := by show _ = _; rw [hRC.out, hw1]; rfl
        go_wp2_with (at_builtin; refine wpList_snoc rfl (.tmp 56) (.tmp 58) rfl w.heap.size _ k _ (HO.out.low ((Below.refl _ _).alloc (Nat.le_refl _) _)) rfl _ a rfl (by simp [go_sem]) hc.out (by omega) (by have := HBb.out.size; simp; omega) ?_; intro A2 c4 w2 o2 g2; have hp2 := (HP.out.past _).kept g2 (fun h => (HO.out.apart HP.out (by decide)) h.symm); have c5 := hp2.at 2; have c6 := hp2.free 2; simp at c5; have O2 := Lib.hid o2; have G2 := Lib.hid g2; have HP2 := Lib.hid hp2; clear o2 g2 hp2)
        go_roundw
        case rel => exact ⟨k + 1, by omega, by go_num, mid_next (by omega) (by omega) HP.out HO.out HR.out HBb.out ((Below.refl _ _).alloc (Nat.le_refl _) _) O2.out G2.out⟩
        case measure => simp [intOf]; omega
      | true =>
        have ta : True := trivial
        have tb : True := trivial
        have tc : True := trivial
        have td : True := trivial
        have h0w : (0 : Int) < (wN : Int) := by omega
        go_wp2_with (first
          | (have _t := ta; refine wpList_fbin .f32 _ _ rfl rfl rfl rfl ?_; intro x1 n3 h1 v1; clear ta)
          | (have _t := tb; refine wpList_fbin .f32 _ _ rfl rfl rfl rfl ?_; intro x2 n4 h2 v2; clear tb)
          | (have _t := tc; refine wpList_fbin .f32 _ _ rfl rfl rfl rfl ?_; intro x3 n5 h3 v3; clear tc)
          | (have _t := td; refine wpList_fbin .f32 _ _ rfl rfl rfl rfl ?_; intro x4 n6 h4 v4; have hc := ramp_step (hRC.out k) hw1 h1 h2 h3 h4; clear td h1 h2 h3 h4 v1 v2 v3)
          | (at_builtin; refine wpList_snoc rfl (.tmp 56) (.tmp 58) rfl w.heap.size _ k _ (HO.out.low (low_da _ _ _)) rfl _ x4 rfl ((World.cell?_alloc_at _ _ _ _ rfl).trans rfl) hc.out (by omega) (Nat.le_trans HBb.out.size (low_da _ _ _).size) ?_; intro A2 c4 w2 o2 g2; have hp2 := (HP.out.low (low_da _ _ _) HP.out.inside).kept g2 (fun h => (HO.out.apart HP.out (by decide)) h.symm); have c5 := hp2.at 2; have c6 := hp2.free 2; simp at c5; have O2 := Lib.hid o2; have G2 := Lib.hid g2; have HP2 := Lib.hid hp2; clear o2 g2 hp2))
        go_roundw
        case rel => exact ⟨k + 1, by omega, by go_num, mid_next (by omega) (by omega) HP.out HO.out HR.out HBb.out (low_da _ _ _) O2.out G2.out⟩
        case measure => simp [intOf]; omega
    · have hke : k = N := by omega
      subst hke
      go_wp2_with fail
      refine (GV.out _ _ _ _ HO.out).mono ?_; rintro e w2 ⟨rfl, b2⟩
      have hr := HR.out.low b2 HR.out.inside
      have O2 := Lib.hid (HO.out.low b2)
      have B2 := Lib.hid (below_trans HBb.out b2)
      have H2 := Lib.hid hr
      have r0 := hr.at 0
      have r1 := hr.at 1
      have r2 := hr.at 2
      have f0 := hr.free 0
      have f1 := hr.free 1
      have f2 := hr.free 2
      simp at r0 r1 r2
      clear b2 hr
      cases P with
      | false =>
        simp only [cond_false, noPic]
        go_wp2_with fail
        have q := has3 H2.out rfl (.int .i64 0) (.int .i64 0) (.slice none 0 0)
        have q0 := q.at 0
        have q1 := q.at 1
        have q2 := q.at 2
        simp at q0 q1 q2
        refine bodyPost_ret (v := .tuple #[noPic, .bool false]) (by simp [results, Try.results30, go_sem, noPic, q0, q1, q2]) rfl ?_
        exact ⟨none, 0, rfl, (fun h => by cases h), below3 (Nat.le_refl _) B2.out _ _ _⟩
      | true =>
        simp only [cond_true]
        go_wp2_with fail
        have q := has3 H2.out rfl (.int .i64 wN) (.int .i64 hN) (.slice A1 k c3)
        have q0 := q.at 0
        have q1 := q.at 1
        have q2 := q.at 2
        simp at q0 q1 q2
        refine bodyPost_ret (v := .tuple #[.agg #[.int .i64 wN, .int .i64 hN, .slice A1 k c3], .bool true]) (by simp [results, Try.results30, go_sem, q0, q1, q2]) rfl ?_
        exact ⟨A1, c3, rfl, (fun _ => own3 O2.out H2.out _ _ _), below3 (Nat.le_refl _) B2.out _ _ _⟩

set_option maxRecDepth 10000 in
theorem specRamp_s (wi hi : Int) (a b N : Nat) (cls : Nat → Option Nat) (hsd : sidesB wi hi = false) (w : World) :
    Calls Try.prog 30 #[.int .i64 wi, .int .i64 hi, .float .f32 a, .float .f32 b] w (OutR w false wi hi N cls) := by
  have S := Lib.hid (sides_c wi hi)
  have HS := Lib.hid hsd
  clear hsd
  go_enter Try.func30, Try.ntmps30
  go_wp2_with fail
  refine (S.out _).mono ?_; rintro e w1 ⟨rfl, rfl⟩
  rw [HS.out]
  go_wp2_with fail
  refine bodyPost_ret (v := .tuple #[noPic, .bool false]) (by simp [results, Try.results30, go_sem, noPic]) rfl ?_
  refine ⟨none, 0, rfl, (fun h => by cases h), ?_⟩
  first | exact (Below.refl _ _).alloc (Nat.le_refl _) _ | exact below_drewN ((Below.refl _ _).alloc (Nat.le_refl _) _) _ | exact below3 (Nat.le_refl _) ((Below.refl _ _).alloc (Nat.le_refl _) _) _ _ _ | exact below3 (Nat.le_refl _) (below_drewN ((Below.refl _ _).alloc (Nat.le_refl _) _) _) _ _ _

set_option maxRecDepth 10000 in
theorem specRamp_a (wi hi : Int) (a b N : Nat) (cls : Nat → Option Nat) (hsd : sidesB wi hi = true) (ha : fin .f32 (cl .f32 a) = false) (w : World) :
    Calls Try.prog 30 #[.int .i64 wi, .int .i64 hi, .float .f32 a, .float .f32 b] w (OutR w false wi hi N cls) := by
  have S := Lib.hid (sides_c wi hi)
  have HS := Lib.hid hsd
  have HA := Lib.hid ha
  clear hsd ha
  go_enter Try.func30, Try.ntmps30
  go_wp2_with fail
  refine (S.out _).mono ?_; rintro e w1 ⟨rfl, rfl⟩
  rw [HS.out]
  go_wp2_with fail
  refine (l01Finite_c _ _).mono ?_; rintro e w2 ⟨rfl, n1, rfl⟩
  rw [HA.out]
  go_wp2_with fail
  refine bodyPost_ret (v := .tuple #[noPic, .bool false]) (by simp [results, Try.results30, go_sem, noPic]) rfl ?_
  refine ⟨none, 0, rfl, (fun h => by cases h), ?_⟩
  first | exact (Below.refl _ _).alloc (Nat.le_refl _) _ | exact below_drewN ((Below.refl _ _).alloc (Nat.le_refl _) _) _ | exact below3 (Nat.le_refl _) ((Below.refl _ _).alloc (Nat.le_refl _) _) _ _ _ | exact below3 (Nat.le_refl _) (below_drewN ((Below.refl _ _).alloc (Nat.le_refl _) _) _) _ _ _

set_option maxRecDepth 10000 in
theorem specRamp_b (wi hi : Int) (a b N : Nat) (cls : Nat → Option Nat) (hsd : sidesB wi hi = true) (ha : fin .f32 (cl .f32 a) = true) (hb : fin .f32 (cl .f32 b) = false) (w : World) :
    Calls Try.prog 30 #[.int .i64 wi, .int .i64 hi, .float .f32 a, .float .f32 b] w (OutR w false wi hi N cls) := by
  have S := Lib.hid (sides_c wi hi)
  have HS := Lib.hid hsd
  have HA := Lib.hid ha
  have HB := Lib.hid hb
  clear hsd ha hb
  go_enter Try.func30, Try.ntmps30
  go_wp2_with fail
  refine (S.out _).mono ?_; rintro e w1 ⟨rfl, rfl⟩
  rw [HS.out]
  go_wp2_with fail
  refine (l01Finite_c _ _).mono ?_; rintro e w2 ⟨rfl, n1, rfl⟩
  rw [HA.out]
  go_wp2_with fail
  refine (l01Finite_c _ _).mono ?_; rintro e w2 ⟨rfl, n2, rfl⟩
  rw [HB.out]
  go_wp2_with fail
  refine bodyPost_ret (v := .tuple #[noPic, .bool false]) (by simp [results, Try.results30, go_sem, noPic]) rfl ?_
  refine ⟨none, 0, rfl, (fun h => by cases h), ?_⟩
  first | exact (Below.refl _ _).alloc (Nat.le_refl _) _ | exact below_drewN ((Below.refl _ _).alloc (Nat.le_refl _) _) _ | exact below3 (Nat.le_refl _) ((Below.refl _ _).alloc (Nat.le_refl _) _) _ _ _ | exact below3 (Nat.le_refl _) (below_drewN ((Below.refl _ _).alloc (Nat.le_refl _) _) _) _ _ _

theorem ramp1_c (wN a b x : Nat) (hx : x < wN) (hw : wN ≤ 16) (yv : Value) (pw pf pt : Nat) (wa : (Lit.float .f32 a).wf = true) (w : World) (hpw : w.cell? ⟨pw, 0, none⟩ = some (.int .i64 wN)) (hpf : w.cell? ⟨pf, 0, none⟩ = some (.float .f32 a)) (hpt : w.cell? ⟨pt, 0, none⟩ = some (.float .f32 b)) :
    Calls Try.prog 69 #[.int .i64 x, yv, .pointer (some ⟨pw, 0, none⟩), .pointer (some ⟨pf, 0, none⟩), .pointer (some ⟨pt, 0, none⟩)] w fun e w' => RetF .f32 w (cond (decide ((1 : Int) < (wN : Int))) (fbin .add .f32 (cl .f32 a) (fbin .mul .f32 (fbin .sub .f32 (cl .f32 b) (cl .f32 a)) (fbin .quo .f32 (cl .f32 (floatOfInt .f32 (x : Int))) (cl .f32 (floatOfInt .f32 ((wN : Int) - 1)))))) (cl .f32 a)) e w' := by
  by_cases h1 : wN = 1
  · subst h1
    go_enter Try.func69, Try.ntmps69
    go_wp2
    go_ret
    exact retF0 rfl wa
  · have hd : decide ((1 : Int) < (wN : Int)) = true := decide_eq_true (by omega)
    have hne : (((wN : Int)) == 1) = false := by rw [beq_eq_false_iff_ne]; omega
    have HD := Lib.hid hd
    clear hd h1
    have ta : True := trivial
    have tb : True := trivial
    have tc : True := trivial
    have td : True := trivial
    go_enter Try.func69, Try.ntmps69
    go_wp2_with (first
      | (have _t := ta; refine wpList_fbin .f32 _ _ rfl rfl rfl rfl ?_; intro x1 n3 h1 v1; clear ta)
      | (have _t := tb; refine wpList_fbin .f32 _ _ rfl rfl rfl rfl ?_; intro x2 n4 h2 v2; clear tb)
      | (have _t := tc; refine wpList_fbin .f32 _ _ rfl rfl rfl rfl ?_; intro x3 n5 h3 v3; clear tc)
      | (have _t := td; refine wpList_fbin .f32 _ _ rfl rfl rfl rfl ?_; intro x4 n6 h4 v4; clear td))
    go_ret
    exact retF _ ((ramp_step (wN := wN) (a := a) (b := b) rfl HD.out h1 h2 h3 h4).out) v4

theorem callRamp1 (args : Array Value) (w : World) : (callFunc 69 args).run Try.prog w = .ok (.enter 69 args) w := by
  simp [go_sem]

/-- Two numbers, both finite? -/
def two (a b : Nat) (i : Nat) : Nat := if i = 0 then a else b
theorem two_fin (a b : Nat) : allFin (two a b) 2 = (fin .f32 (cl .f32 a) && fin .f32 (cl .f32 b)) := by
  unfold allFin
  rw [Bool.eq_iff_iff, decide_eq_true_iff, Bool.and_eq_true]
  constructor
  · intro h; exact ⟨h 0 (by decide), h 1 (by decide)⟩
  · rintro ⟨h1, h2⟩ i hi
    match i, hi with
    | 0, _ => exact h1
    | 1, _ => exact h2

theorem mul_mod_lt {x y wN : Nat} (hx : x < wN) : (y * wN + x) % wN = x := by
  rw [Nat.mul_comm, Nat.mul_add_mod, Nat.mod_eq_of_lt hx]
end Go.Proofs.Ytpjonajpgidjfaa
