/-
  The contract of spec.ClipPicture. No condition.
-/
import Derived.Test.YtpjonajpgidjfaaScl
namespace Go.Proofs.Ytpjonajpgidjfaa
set_option linter.unusedVariables false
open Go.RowKit Ieee

/-- A light within bounds. -/
def clipB (x y z : Nat) : Nat := cond (FloatKind.f32.format.order x y == some .lt) y (cond (FloatKind.f32.format.order x z == some .gt) z x)
def clipC (f : Nat → Nat) (y z : Nat) (i : Nat) : Option Nat := cl .f32 (clipB (f i) y z)
theorem l02Clip_c (x y z : Nat) (w : World) : Calls Try.prog 73 #[.float .f32 x, .float .f32 y, .float .f32 z] w fun e w' => e = .returned (.float .f32 (clipB x y z)) ∧ w = w' := by
  unfold clipB
  cases h1 : (FloatKind.f32.format.order x y == some .lt) <;> cases h2 : (FloatKind.f32.format.order x z == some .gt) <;>
  · go_enter Try.func73, Try.ntmps73
    go_wp2
    go_ret
    exact ⟨rfl, rfl⟩
theorem clip_c (x y z : Nat) (w : World) : Calls Try.prog 75 #[.float .f32 x, .float .f32 y, .float .f32 z] w fun e w' => e = .returned (.float .f32 (clipB x y z)) ∧ w = w' := by
  unfold clipB
  cases h1 : (FloatKind.f32.format.order x y == some .lt) <;> cases h2 : (FloatKind.f32.format.order x z == some .gt) <;>
  · go_enter Try.func75, Try.ntmps75
    go_wp2
    go_ret
    exact ⟨rfl, rfl⟩

set_option maxRecDepth 10000 in
set_option maxHeartbeats 2000000 in
theorem specClip_c (wi hi : Int) (b n cp : Nat) (f : Nat → Nat) (y z : Nat) (hn : n ≤ 1048576) (h0 : 0 < n) (hn2 : n ≤ 256) (w : World) (hrow : RowAt w b n f) (hz : ∀ i, i < n → (Lit.float .f32 (f i)).wf = true) (hP : picB wi hi n f = true) (hy : fin .f32 (cl .f32 y) = true) (hv : fin .f32 (cl .f32 z) = true) (hg : (FloatKind.f32.format.order y z == some .gt) = false)  :
    Calls Try.prog 34 #[.agg #[.int .i64 wi, .int .i64 hi, .slice (some ⟨b, 0, none⟩) n cp], .float .f32 y, .float .f32 z] w (OutR w true wi hi n (clipC f y z)) := by
  have I := Lib.hid (fun p w => l02Is_c wi hi p b n cp f w hn)
  have Bl := Lib.hid (blank_c wi hi (clipC f y z))
  have HP0 := Lib.hid hP
  have HY := Lib.hid hy
  have HV := Lib.hid hv
  have HW0 := Lib.hid hrow
  have HC : Hid (∀ k, k < n → True) := by
    intro k hk; trivial
  clear hP hrow hz hy hv 
  go_enter Try.func34, Try.ntmps34
  go_wp2_with fail
  refine (I.out _ _ (by simp [go_sem]) (by simp [go_sem]) (by simp [go_sem]) (rowAt_mono HW0.out (((Below.refl _ _).alloc (Nat.le_refl _) _).alloc (by simp) _)).2).mono ?_; rintro e w1 ⟨rfl, n1, rfl⟩
  rw [HP0.out]
  go_wp2_with fail
  refine (l01Finite_c _ _).mono ?_; rintro e w2 ⟨rfl, n2, rfl⟩
  rw [HY.out]
  go_wp2_with fail
  refine (l01Finite_c _ _).mono ?_; rintro e w2 ⟨rfl, n3, rfl⟩
  rw [HV.out]
  go_wp2_with fail
  have hbx := (Has.ofAlloc w 27 #[.int .i64 wi, .int .i64 hi, .slice (some ⟨b, 0, none⟩) n cp]).past (.cells #[.int .i64 0, .int .i64 0, .slice none 0 0] 27)
  have hrs := Has.ofAlloc (w.alloc (.cells #[.int .i64 wi, .int .i64 hi, .slice (some ⟨b, 0, none⟩) n cp] 27)) 27 #[.int .i64 0, .int .i64 0, .slice none 0 0]
  simp at hrs
  have hbe : Below w.heap.size w ((w.alloc (.cells #[.int .i64 wi, .int .i64 hi, .slice (some ⟨b, 0, none⟩) n cp] 27)).alloc (.cells #[.int .i64 0, .int .i64 0, .slice none 0 0] 27)) := ((Below.refl _ _).alloc (Nat.le_refl _) _).alloc (by simp) _
  have HX := Lib.hid (show Has (((w.alloc (.cells #[.int .i64 wi, .int .i64 hi, .slice (some ⟨b, 0, none⟩) n cp] 27)).alloc (.cells #[.int .i64 0, .int .i64 0, .slice none 0 0] 27)).drewN (n1 + n2 + n3)) w.heap.size _ _ from hbx)
  have HR0 := Lib.hid (show Has (((w.alloc (.cells #[.int .i64 wi, .int .i64 hi, .slice (some ⟨b, 0, none⟩) n cp] 27)).alloc (.cells #[.int .i64 0, .int .i64 0, .slice none 0 0] 27)).drewN (n1 + n2 + n3)) (w.heap.size + 1) _ _ from hrs)
  have BE := Lib.hid (below_drewN hbe (n1 + n2 + n3))
  clear hbx hrs hbe
  generalize hW1 : ((w.alloc (.cells #[.int .i64 wi, .int .i64 hi, .slice (some ⟨b, 0, none⟩) n cp] 27)).alloc (.cells #[.int .i64 0, .int .i64 0, .slice none 0 0] 27)).drewN (n1 + n2 + n3) = W1 at HX HR0 BE ⊢
  clear hW1
  have zW := HR0.out.inside
  have HW := Lib.hid (rowAt_mono HW0.out BE.out)
  refine (Bl.out _).mono ?_; rintro e w1 ⟨A, c, rfl, ow, b1⟩
  have z1 := b1.size
  have OW := Lib.hid ow
  have HR1 := Lib.hid (HR0.out.low b1 HR0.out.inside)
  have BB := Lib.hid b1
  clear ow b1
  go_wp2_with fail
  go_loopw [9] (fun i wr => ∃ k : Nat, k ≤ n ∧ i = .int .i64 k ∧ Mid W1 w1.heap.size (w.heap.size + 1) wi hi (clipC f y z) k wr) (fun i _ => n - (intOf i).toNat)
  case atStart => exact ⟨0, Nat.zero_le _, rfl, A, c, Has.ofAlloc _ _ _, OW.out.low ((Below.refl _ _).alloc (Nat.le_refl _) _), HR1.out.past _, below_trans BB.out ((Below.refl _ _).alloc (Nat.le_refl _) _)⟩
  case round =>
    obtain ⟨k, hk, rfl, hm⟩ := hrel
    obtain ⟨A, c, hp, ho, hr, hb⟩ := hm
    have hx2 := (HX.out.low hb HX.out.inside).at 2
    simp at hx2
    have HP := Lib.hid hp
    have HO := Lib.hid ho
    have HR := Lib.hid hr
    have HB := Lib.hid hb
    clear hp ho hr hb
    by_cases hlt : k < n
    · have hk1 := HC.out k hlt
      have HC1 := Lib.hid hk1
      clear hk1
      go_wp2
      refine wp_region_inv_lit 13 (ApC W1 w1.heap.size (w.heap.size + 1) wi hi (clipC f y z) k A c 11) (KV [.val (.pointer (some ⟨w1.heap.size, 2, none⟩)), .val (.slice A k c), .val (.pointer (some ⟨w.heap.size, 2, none⟩)), .val (.slice (some ⟨b, 0, none⟩) n cp), .val (.int .i64 k), .val (.pointer (some ⟨b, k, none⟩)), .val (.float .f32 (f k)), .val (.float .f32 y), .val (.float .f32 z), .flt, .new, .app, .val (.pointer (some ⟨w1.heap.size, 2, none⟩))] W1 (clipC f y z) k A c) rfl rfl (by kernel_rfl) (by kernel_rfl) ⟨HP.out, HR.out, below_drewN HB.out 1, fun _ => HO.out, fun q hq => (HO.out.lt q hq).2⟩ ⟨?_, ?_, ?_, ?_, ?_, ?_, ?_, ?_, ?_, ?_, ?_, ?_, ?_, trivial⟩ ?_
      · intro listed ρ w' hsz hC hl hx hd hal ho
        have q : ρ (.tmp 8) = _ := ho 8 (out_ofI (by kernel_rfl))
        simp [execOp, q, YieldsI, go_sem, Act.eval]
        exact ⟨rfl, hC.low (i := 0) (by decide) (Below.refl _ _)⟩
      · intro listed ρ w' hsz hC hl hx hd hal ho
        have q : ρ (.tmp 40) = .pointer (some ⟨w1.heap.size, 2, none⟩) := hd ⟨0, .data⟩ (by simp)
        have c2 := hC.1.at 2
        simp at c2
        simp [execOp, q, YieldsI, go_sem, c2]
        exact ⟨rfl, hC.low (i := 1) (by decide) (Below.refl _ _)⟩
      · intro listed ρ w' hsz hC hl hx hd hal ho
        have q : ρ (.tmp 3) = _ := ho 3 (out_ofI (by kernel_rfl))
        simp [execOp, q, YieldsI, go_sem, Act.eval]
        exact ⟨rfl, hC.low (i := 2) (by decide) (Below.refl _ _)⟩
      · intro listed ρ w' hsz hC hl hx hd hal ho
        have q : ρ (.tmp 42) = .pointer (some ⟨w.heap.size, 2, none⟩) := hd ⟨2, .data⟩ (by simp)
        have c2 := (HX.out.low hC.2.2.1 HX.out.inside).at 2
        simp at c2
        simp [execOp, q, YieldsI, go_sem, c2]
        exact ⟨rfl, hC.low (i := 3) (by decide) (Below.refl _ _)⟩
      · intro listed ρ w' hsz hC hl hx hd hal ho
        have q : ρ (.tmp 9) = _ := ho 9 (out_ofI (by kernel_rfl))
        simp [execOp, q, YieldsI, go_sem, Act.eval]
        exact ⟨rfl, hC.low (i := 4) (by decide) (Below.refl _ _)⟩
      · intro listed ρ w' hsz hC hl hx hd hal ho
        have q : ρ (.tmp 43) = .slice (some ⟨b, 0, none⟩) n cp := hd ⟨3, .data⟩ (by simp)
        have q1 : ρ (.tmp 44) = .int .i64 k := hd ⟨4, .data⟩ (by simp)
        simp [execOp, q, q1, YieldsI, go_sem, hlt]
        exact ⟨rfl, hC.low (i := 5) (by decide) (Below.refl _ _)⟩
      · intro listed ρ w' hsz hC hl hx hd hal ho
        have q : ρ (.tmp 45) = .pointer (some ⟨b, k, none⟩) := hd ⟨5, .data⟩ (by simp)
        have cc := (rowAt_mono HW.out hC.2.2.1).2 k hlt
        simp [execOp, q, YieldsI, go_sem, cc]
        exact ⟨rfl, hC.low (i := 6) (by decide) (Below.refl _ _)⟩
      · intro listed ρ w' hsz hC hl hx hd hal ho
        have q : ρ (.tmp 1) = _ := ho 1 (out_ofI (by kernel_rfl))
        simp [execOp, q, YieldsI, go_sem, Act.eval]
        exact ⟨rfl, hC.low (i := 7) (by decide) (Below.refl _ _)⟩
      · intro listed ρ w' hsz hC hl hx hd hal ho
        have q : ρ (.tmp 2) = _ := ho 2 (out_ofI (by kernel_rfl))
        simp [execOp, q, YieldsI, go_sem, Act.eval]
        exact ⟨rfl, hC.low (i := 8) (by decide) (Below.refl _ _)⟩
      · intro listed ρ w' hsz hC hl hx hd hal ho
        have q : ρ (.tmp 46) = .float .f32 (f k) := hd ⟨6, .data⟩ (by simp)
        have q1 : ρ (.tmp 47) = .float .f32 y := hd ⟨7, .data⟩ (by simp)
        have q2 : ρ (.tmp 48) = .float .f32 z := hd ⟨8, .data⟩ (by simp)
        have q3 : ρ (.func 73) = .func (.func 73) #[] #[] := hx _ (by simp)
        simp [execOp, q, q1, q2, q3, YieldsI, go_sem]
        refine (l02Clip_c (f k) y z w').mono ?_
        rintro e w'' ⟨rfl, rfl⟩
        exact ⟨_, rfl, ⟨_, rfl, rfl⟩, hC.low (by decide) (Below.refl _ _), fun j v' _ h => h⟩
      · intro listed ρ w' hsz hC hl hx hd hal ho
        obtain ⟨z, q, hz⟩ : ∃ r, ρ (.tmp 49) = .float .f32 r ∧ cl .f32 r = (clipC f y z) k := hd ⟨9, .data⟩ (by simp)
        have hba := (Below.refl w'.heap.size w').alloc (Nat.le_refl _) (Obj.cells #[.float .f32 z] 32)
        have hne : some w'.heap.size ≠ (Value.slice A k c).ownBlock := fun h => Nat.lt_irrefl _ (hC.2.2.2.2 _ h.symm)
        simp [execOp, q, YieldsI, go_sem]
        exact ⟨⟨_, z, rfl, by simp [go_sem], hz, hne⟩, hC.low (by decide) hba, fun j v' _ h => kv_low hba j v' h⟩
      · intro listed ρ w' hsz hC hl hx hd hal ho
        have q : ρ (.tmp 41) = .slice A k c := hd ⟨1, .data⟩ (by simp)
        have q1 : NewOne ((clipC f y z) k) (Value.slice A k c).ownBlock (ρ (.tmp 50)) w' := hd ⟨10, .data⟩ (by simp)
        obtain ⟨A', c', w'', hr, ho', hg⟩ := run_snoc_op (d := some 51) (rt := 22) (pos := "l02_pictures.go:215") q rfl (hC.2.2.2.1 hl) q1 (by omega) hC.2.2.1.size
        rw [hr]
        exact ⟨⟨A', c', rfl, ho'⟩, hC.app (by rw [hsz]; decide) hl hg, fun j v' hj h => kv_app (ia := 11) (by intro j; match j with | 0 | 1 | 2 | 3 | 4 | 5 | 6 | 7 | 8 | 9 | 10 | 12 => simp | 11 => simp | j + 13 => simp) hg j v' hj h⟩
      · intro listed ρ w' hsz hC hl hx hd hal ho
        have q : ρ (.tmp 8) = _ := ho 8 (out_ofI (by kernel_rfl))
        simp [execOp, q, YieldsI, go_sem, Act.eval]
        exact ⟨rfl, hC.low (i := 12) (by decide) (Below.refl _ _)⟩
      · intro vs listed w' hvs hall hC
        have t7 : ∃ A' c', vs 11 = .slice A' (k + 1) c' ∧ Own w' W1.heap.size (.slice A' (k + 1) c') (k + 1) (clipC f y z) := hvs 11 (by decide)
        have h8 : vs 12 = .pointer (some ⟨w1.heap.size, 2, none⟩) := hvs 12 (by decide)
        clear hvs hall
        refine t7.elim ?_
        intro A' t8
        refine t8.elim ?_
        intro c' t9
        have h7 := t9.1
        have ho' := t9.2
        have hp := hC.1
        have hr := hC.2.1
        have hb := hC.2.2.1
        clear t7 t8 t9 hC
        have c5 := hp.at 2
        have c6 := hp.free 2
        simp at c5
        have hm : Hid (Mid W1 w1.heap.size (w.heap.size + 1) wi hi (clipC f y z) (k + 1) (w'.setCell ⟨w1.heap.size, 2, none⟩ (.slice A' (k + 1) c'))) :=
          ⟨A', c', by simpa using hp.put 2 _, ho'.kept (grownBy_set _ _ _ _) (ho'.apart hp f_ne_p), hr.aside (by omega) _ _, hb.setCell (by omega) _⟩
        clear hp hr hb ho'
        unfold Oper.wp
        simp [execOp, putN, Act.put, Act.eval, h7, h8, go_sem, c5, c6]
        have HMM := Lib.hid hm.out
        clear hm c5 c6 h7 h8
        go_wp2
        go_roundw
        case rel => exact ⟨k + 1, by omega, by go_num, HMM.out⟩
        case measure => simp [intOf]; omega
    · have hke : k = n := by omega
      subst hke
      have p0 := HP.out.at 0
      have p1 := HP.out.at 1
      have p2 := HP.out.at 2
      simp at p0 p1 p2
      have hr := HR.out
      have O2 := Lib.hid (HO.out.base (show w.heap.size ≤ W1.heap.size by omega))
      have B2 := Lib.hid (below_trans BE.out HB.out)
      have H2 := Lib.hid hr
      have r0 := hr.at 0
      have r1 := hr.at 1
      have r2 := hr.at 2
      have f0 := hr.free 0
      have f1 := hr.free 1
      have f2 := hr.free 2
      simp at r0 r1 r2
      clear hr
      go_wp2_with fail
      have q := has3 H2.out rfl (.int .i64 wi) (.int .i64 hi) (.slice A k c)
      have q0 := q.at 0
      have q1 := q.at 1
      have q2 := q.at 2
      simp at q0 q1 q2
      refine bodyPost_ret (v := .tuple #[.agg #[.int .i64 wi, .int .i64 hi, .slice A k c], .bool true]) (by simp [results, Try.results34, go_sem, q0, q1, q2]) rfl ?_
      exact ⟨A, c, rfl, (fun _ => own3 O2.out H2.out _ _ _), below3 (by omega) B2.out _ _ _⟩

set_option maxRecDepth 10000 in
theorem specClip_p (wi hi : Int) (b n cp : Nat) (f : Nat → Nat) (y z : Nat) (cls : Nat → Option Nat) (hn : n ≤ 1048576) (w : World) (hrow : RowAt w b n f) (hP : picB wi hi n f = false) :
    Calls Try.prog 34 #[.agg #[.int .i64 wi, .int .i64 hi, .slice (some ⟨b, 0, none⟩) n cp], .float .f32 y, .float .f32 z] w (OutR w false wi hi n cls) := by
  have I := Lib.hid (fun p w => l02Is_c wi hi p b n cp f w hn)
  have HP0 := Lib.hid hP
  have HW0 := Lib.hid hrow
  clear hP hrow
  have B4 := Lib.hid (fun v0 v1 => ((Below.refl w.heap.size w).alloc (Nat.le_refl _) v0).alloc (by simp) v1)
  go_enter Try.func34, Try.ntmps34
  go_wp2_with fail
  refine (I.out _ _ (by simp [go_sem]) (by simp [go_sem]) (by simp [go_sem]) (rowAt_mono HW0.out (B4.out _ _)).2).mono ?_; rintro e w1 ⟨rfl, n1, rfl⟩
  rw [HP0.out]
  go_wp2_with fail
  refine bodyPost_ret (v := .tuple #[noPic, .bool false]) (by simp [results, Try.results34, go_sem, noPic]) rfl ?_
  refine ⟨none, 0, rfl, (fun h => by cases h), ?_⟩
  first | exact below_drewN (B4.out _ _) _ | exact below3 (by omega) (below_drewN (B4.out _ _) _) _ _ _

set_option maxRecDepth 10000 in
theorem specClip_y (wi hi : Int) (b n cp : Nat) (f : Nat → Nat) (y z : Nat) (cls : Nat → Option Nat) (hn : n ≤ 1048576) (w : World) (hrow : RowAt w b n f) (hP : picB wi hi n f = true) (hy : fin .f32 (cl .f32 y) = false) :
    Calls Try.prog 34 #[.agg #[.int .i64 wi, .int .i64 hi, .slice (some ⟨b, 0, none⟩) n cp], .float .f32 y, .float .f32 z] w (OutR w false wi hi n cls) := by
  have I := Lib.hid (fun p w => l02Is_c wi hi p b n cp f w hn)
  have HP0 := Lib.hid hP
  have HW0 := Lib.hid hrow
  have HY := Lib.hid hy
  clear hP hrow hy
  have B4 := Lib.hid (fun v0 v1 => ((Below.refl w.heap.size w).alloc (Nat.le_refl _) v0).alloc (by simp) v1)
  go_enter Try.func34, Try.ntmps34
  go_wp2_with fail
  refine (I.out _ _ (by simp [go_sem]) (by simp [go_sem]) (by simp [go_sem]) (rowAt_mono HW0.out (B4.out _ _)).2).mono ?_; rintro e w1 ⟨rfl, n1, rfl⟩
  rw [HP0.out]
  go_wp2_with fail
  refine (l01Finite_c _ _).mono ?_; rintro e w2 ⟨rfl, n2, rfl⟩
  rw [HY.out]
  go_wp2_with fail
  refine bodyPost_ret (v := .tuple #[noPic, .bool false]) (by simp [results, Try.results34, go_sem, noPic]) rfl ?_
  refine ⟨none, 0, rfl, (fun h => by cases h), ?_⟩
  first | exact below_drewN (B4.out _ _) _ | exact below3 (by omega) (below_drewN (B4.out _ _) _) _ _ _

set_option maxRecDepth 10000 in
theorem specClip_z (wi hi : Int) (b n cp : Nat) (f : Nat → Nat) (y z : Nat) (cls : Nat → Option Nat) (hn : n ≤ 1048576) (w : World) (hrow : RowAt w b n f) (hP : picB wi hi n f = true) (hy : fin .f32 (cl .f32 y) = true) (hv : fin .f32 (cl .f32 z) = false) :
    Calls Try.prog 34 #[.agg #[.int .i64 wi, .int .i64 hi, .slice (some ⟨b, 0, none⟩) n cp], .float .f32 y, .float .f32 z] w (OutR w false wi hi n cls) := by
  have I := Lib.hid (fun p w => l02Is_c wi hi p b n cp f w hn)
  have HP0 := Lib.hid hP
  have HW0 := Lib.hid hrow
  have HY := Lib.hid hy
  have HV := Lib.hid hv
  clear hP hrow hy hv
  have B4 := Lib.hid (fun v0 v1 => ((Below.refl w.heap.size w).alloc (Nat.le_refl _) v0).alloc (by simp) v1)
  go_enter Try.func34, Try.ntmps34
  go_wp2_with fail
  refine (I.out _ _ (by simp [go_sem]) (by simp [go_sem]) (by simp [go_sem]) (rowAt_mono HW0.out (B4.out _ _)).2).mono ?_; rintro e w1 ⟨rfl, n1, rfl⟩
  rw [HP0.out]
  go_wp2_with fail
  refine (l01Finite_c _ _).mono ?_; rintro e w2 ⟨rfl, n2, rfl⟩
  rw [HY.out]
  go_wp2_with fail
  refine (l01Finite_c _ _).mono ?_; rintro e w2 ⟨rfl, n3, rfl⟩
  rw [HV.out]
  go_wp2_with fail
  refine bodyPost_ret (v := .tuple #[noPic, .bool false]) (by simp [results, Try.results34, go_sem, noPic]) rfl ?_
  refine ⟨none, 0, rfl, (fun h => by cases h), ?_⟩
  first | exact below_drewN (B4.out _ _) _ | exact below3 (by omega) (below_drewN (B4.out _ _) _) _ _ _

set_option maxRecDepth 10000 in
theorem specClip_g (wi hi : Int) (b n cp : Nat) (f : Nat → Nat) (y z : Nat) (cls : Nat → Option Nat) (hn : n ≤ 1048576) (w : World) (hrow : RowAt w b n f) (hP : picB wi hi n f = true) (hy : fin .f32 (cl .f32 y) = true) (hv : fin .f32 (cl .f32 z) = true) (hg : (FloatKind.f32.format.order y z == some .gt) = true) :
    Calls Try.prog 34 #[.agg #[.int .i64 wi, .int .i64 hi, .slice (some ⟨b, 0, none⟩) n cp], .float .f32 y, .float .f32 z] w (OutR w false wi hi n cls) := by
  have I := Lib.hid (fun p w => l02Is_c wi hi p b n cp f w hn)
  have HP0 := Lib.hid hP
  have HW0 := Lib.hid hrow
  have HY := Lib.hid hy
  have HV := Lib.hid hv
  clear hP hrow hy hv
  have B4 := Lib.hid (fun v0 v1 => ((Below.refl w.heap.size w).alloc (Nat.le_refl _) v0).alloc (by simp) v1)
  go_enter Try.func34, Try.ntmps34
  go_wp2_with fail
  refine (I.out _ _ (by simp [go_sem]) (by simp [go_sem]) (by simp [go_sem]) (rowAt_mono HW0.out (B4.out _ _)).2).mono ?_; rintro e w1 ⟨rfl, n1, rfl⟩
  rw [HP0.out]
  go_wp2_with fail
  refine (l01Finite_c _ _).mono ?_; rintro e w2 ⟨rfl, n2, rfl⟩
  rw [HY.out]
  go_wp2_with fail
  refine (l01Finite_c _ _).mono ?_; rintro e w2 ⟨rfl, n3, rfl⟩
  rw [HV.out]
  go_wp2_with fail
  refine bodyPost_ret (v := .tuple #[noPic, .bool false]) (by simp [results, Try.results34, go_sem, noPic]) rfl ?_
  refine ⟨none, 0, rfl, (fun h => by cases h), ?_⟩
  first | exact below_drewN (B4.out _ _) _ | exact below3 (by omega) (below_drewN (B4.out _ _) _) _ _ _
end Go.Proofs.Ytpjonajpgidjfaa
