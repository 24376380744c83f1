/-
  Pictures that are made out of another picture's lights: impl's 'mapped'. No condition.
-/
import Derived.Test.YtpjonajpgidjfaaMrk
namespace Go.Proofs.Ytpjonajpgidjfaa
set_option linter.unusedVariables false
open Go.RowKit Ieee

/-- What is told of a value in a region that ends in an append. -/
inductive Tell where
  | val (x : Value)
  | flt
  | new
  | app
def KV (ks : List Tell) (W : World) (cls : Nat → Option Nat) (k : Nat) (A : Option Addr) (c : Nat) (j : Nat) (v : Value) (w : World) : Prop :=
  match ks[j]? with
  | some (.val x) => v = x
  | some .flt => ∃ r, v = .float .f32 r ∧ cl .f32 r = cls k
  | some .new => NewOne (cls k) (Value.slice A k c).ownBlock v w
  | some .app => ∃ A' c', v = .slice A' (k + 1) c' ∧ Own w W.heap.size (.slice A' (k + 1) c') (k + 1) cls
  | none => True
theorem kv_low {ks : List Tell} {W : World} {cls : Nat → Option Nat} {k : Nat} {A : Option Addr} {c : Nat} {w w' : World} (hb : Below w.heap.size w w') (j : Nat) (v : Value) (h : KV ks W cls k A c j v w) : KV ks W cls k A c j v w' := by
  unfold KV at h ⊢
  split at h
  · exact h
  · exact h
  · exact NewOne.kept h (grownBy_below hb _)
  · obtain ⟨A', c', h1, h2⟩ := h; exact ⟨A', c', h1, h2.low hb⟩
  · trivial
theorem kv_app {ks : List Tell} {W : World} {cls : Nat → Option Nat} {k : Nat} {A : Option Addr} {c ia : Nat} {w w' : World} (hks : ∀ j, ks[j]? = some .app → j = ia) (hg : w.grownBy w' (Value.slice A k c).ownBlock) (j : Nat) (v : Value) (hj : j ≠ ia) (h : KV ks W cls k A c j v w) : KV ks W cls k A c j v w' := by
  unfold KV at h ⊢
  split at h
  · exact h
  · exact h
  · exact NewOne.kept h hg
  · rename_i e; exact absurd (hks j e) hj
  · trivial

set_option maxRecDepth 10000 in
set_option maxHeartbeats 1000000 in
theorem mapped_c (wi hi : Int) (b n cp : Nat) (f : Nat → Nat) (hn : n ≤ 1048576) (K : Nat) (caps : Array Value) (cls : Nat → Option Nat) (w : World) (hrow : RowAt w b n f)
    (hK : ∀ args w, (callFunc K args).run Try.prog w = .ok (.enter K args) w) (hf : ∀ (i : Nat) w', i < n → Below w.heap.size w w' → Calls Try.prog K (#[.float .f32 (f i)] ++ caps) w' fun e w'' => RetF .f32 w' (cls i) e w'') :
    Calls Try.prog 71 #[.agg #[.int .i64 wi, .int .i64 hi, .slice (some ⟨b, 0, none⟩) n cp], .func (.func K) #[] caps] w (MadeR w wi hi n cls) := by
  have HF := Lib.hid hf
  have HK := Lib.hid hK
  have HW := Lib.hid hrow
  clear hf hK hrow
  go_enter Try.func71, Try.ntmps71
  go_wp2
  have h2 := Has.ofAlloc ((w.alloc (.cells #[.int .i64 wi, .int .i64 hi, .slice (some ⟨b, 0, none⟩) n cp] 27)).alloc (.cells #[.int .i64 0, .int .i64 0, .slice none 0 0] 27)) 27 #[.int .i64 wi, .int .i64 hi, .slice none 0 0]
  have h3 := (Has.ofAlloc (w.alloc (.cells #[.int .i64 wi, .int .i64 hi, .slice (some ⟨b, 0, none⟩) n cp] 27)) 27 #[.int .i64 0, .int .i64 0, .slice none 0 0]).past (.cells #[.int .i64 wi, .int .i64 hi, .slice none 0 0] 27)
  simp at h2 h3
  have HX := Lib.hid h2
  have HY := Lib.hid h3
  clear h2 h3
  go_loopw [16] (fun i wr => ∃ k : Nat, k ≤ n ∧ i = .int .i64 k ∧ Mid w (w.heap.size + 1 + 1) (w.heap.size + 1) wi hi cls k wr) (fun i _ => n - (intOf i).toNat)
  case atStart => exact ⟨0, Nat.zero_le _, rfl, none, 0, HX.out, Own.nil _ _ _, HY.out, (((Below.refl _ _).alloc (Nat.le_refl _) _).alloc (by simp) _).alloc (by simp; omega) _⟩
  case round =>
    obtain ⟨k, hk, rfl, hm⟩ := hrel
    by_cases hlt : k < n
    · obtain ⟨A, c, hp, ho, hr, hb⟩ := hm
      have hcell := (rowAt_mono HW.out hb).2 k hlt
      have HP := Lib.hid hp
      have HO := Lib.hid ho
      have HR := Lib.hid hr
      have HB := Lib.hid hb
      clear hp ho hr hb
      go_wp2
      refine wp_region_inv_lit 8 (ApC w (w.heap.size + 1 + 1) (w.heap.size + 1) wi hi cls k A c 6) (KV [.val (.pointer (some ⟨w.heap.size + 1 + 1, 2, none⟩)), .val (.slice A k c), .val (.func (.func K) #[] caps), .val (.float .f32 (f k)), .flt, .new, .app, .val (.pointer (some ⟨w.heap.size + 1 + 1, 2, none⟩))] w cls k A c) rfl rfl (by kernel_rfl) (by kernel_rfl) ⟨HP.out, HR.out, below_drewN HB.out 1, fun _ => HO.out, fun q hq => (HO.out.lt q hq).2⟩ ⟨?_, ?_, ?_, ?_, ?_, ?_, ?_, ?_, trivial⟩ ?_
      · intro listed ρ w' hsz hC hl hx hd hal ho
        have q : ρ (.tmp 5) = _ := ho 5 (out_ofI (by kernel_rfl))
        simp [execOp, q, YieldsI, go_sem, Act.eval]
        exact ⟨rfl, hC.low (i := 0) (by decide) (Below.refl _ _)⟩
      · intro listed ρ w' hsz hC hl hx hd hal ho
        have q : ρ (.tmp 20) = .pointer (some ⟨w.heap.size + 1 + 1, 2, none⟩) := hd ⟨0, .data⟩ (by simp)
        have c2 := hC.1.at 2
        simp at c2
        simp [execOp, q, YieldsI, go_sem, c2]
        exact ⟨rfl, hC.low (i := 1) (by decide) (Below.refl _ _)⟩
      · intro listed ρ w' hsz hC hl hx hd hal ho
        have q : ρ (.tmp 1) = _ := ho 1 (out_ofI (by kernel_rfl))
        simp [execOp, q, YieldsI, go_sem, Act.eval]
        exact ⟨rfl, hC.low (i := 2) (by decide) (Below.refl _ _)⟩
      · intro listed ρ w' hsz hC hl hx hd hal ho
        have q : ρ (.tmp 7) = _ := ho 7 (out_ofI (by kernel_rfl))
        simp [execOp, q, YieldsI, go_sem, Act.eval]
        exact ⟨rfl, hC.low (i := 3) (by decide) (Below.refl _ _)⟩
      · intro listed ρ w' hsz hC hl hx hd hal ho
        have q : ρ (.tmp 22) = .func (.func K) #[] caps := hd ⟨2, .data⟩ (by simp)
        have q1 : ρ (.tmp 23) = .float .f32 (f k) := hd ⟨3, .data⟩ (by simp)
        simp [execOp, q, q1, YieldsI, go_sem]
        rw [HK.out]
        refine (HF.out k w' hlt hC.2.2.1).mono ?_
        rintro e w'' ⟨z, m, rfl, hz, _, rfl⟩
        have hbd := below_drewN (Below.refl w'.heap.size w') m
        exact ⟨_, rfl, ⟨z, rfl, hz⟩, hC.low (by decide) hbd, fun j v' _ h => kv_low hbd j v' h⟩
      · intro listed ρ w' hsz hC hl hx hd hal ho
        obtain ⟨z, q, hz⟩ : ∃ r, ρ (.tmp 24) = .float .f32 r ∧ cl .f32 r = cls k := hd ⟨4, .data⟩ (by simp)
        have hba := (Below.refl w'.heap.size w').alloc (Nat.le_refl _) (Obj.cells #[.float .f32 z] 32)
        have hne : some w'.heap.size ≠ (Value.slice A k c).ownBlock := fun h => Nat.lt_irrefl _ (hC.2.2.2.2 _ h.symm)
        simp [execOp, q, YieldsI, go_sem]
        exact ⟨⟨_, z, rfl, by simp [go_sem], hz, hne⟩, hC.low (by decide) hba, fun j v' _ h => kv_low hba j v' h⟩
      · intro listed ρ w' hsz hC hl hx hd hal ho
        have q : ρ (.tmp 21) = .slice A k c := hd ⟨1, .data⟩ (by simp)
        have q1 : NewOne (cls k) (Value.slice A k c).ownBlock (ρ (.tmp 25)) w' := hd ⟨5, .data⟩ (by simp)
        obtain ⟨A', c', w'', hr, ho', hg⟩ := run_snoc_op (d := some 26) (rt := 22) (pos := "l02_pictures.go:69") q rfl (hC.2.2.2.1 hl) q1 (by omega) hC.2.2.1.size
        rw [hr]
        exact ⟨⟨A', c', rfl, ho'⟩, hC.app (by rw [hsz]; decide) hl hg, fun j v' hj h => kv_app (ia := 6) (by intro j; match j with | 0 | 1 | 2 | 3 | 4 | 5 | 7 => simp | 6 => simp | j + 8 => simp) hg j v' hj h⟩
      · intro listed ρ w' hsz hC hl hx hd hal ho
        have q : ρ (.tmp 5) = _ := ho 5 (out_ofI (by kernel_rfl))
        simp [execOp, q, YieldsI, go_sem, Act.eval]
        exact ⟨rfl, hC.low (i := 7) (by decide) (Below.refl _ _)⟩
      · intro vs listed w' hvs hall hC
        have t7 : ∃ A' c', vs 6 = .slice A' (k + 1) c' ∧ Own w' w.heap.size (.slice A' (k + 1) c') (k + 1) cls := hvs 6 (by decide)
        have h8 : vs 7 = .pointer (some ⟨w.heap.size + 1 + 1, 2, none⟩) := hvs 7 (by decide)
        clear hvs hall
        refine t7.elim ?_
        intro A' t8
        refine t8.elim ?_
        intro c' t9
        have h7 := t9.1
        have ho' := t9.2
        have hp := hC.1
        have hr := hC.2.1
        have hb := hC.2.2.1
        clear t7 t8 t9 hC
        have c5 := hp.at 2
        have c6 := hp.free 2
        simp at c5
        have hm : Hid (Mid w (w.heap.size + 1 + 1) (w.heap.size + 1) wi hi cls (k + 1) (w'.setCell ⟨w.heap.size + 1 + 1, 2, none⟩ (.slice A' (k + 1) c'))) :=
          ⟨A', c', by simpa using hp.put 2 _, ho'.kept (grownBy_set _ _ _ _) (ho'.apart hp f_ne_p), hr.aside (by omega) _ _, hb.setCell (by simp; omega) _⟩
        clear hp hr hb ho'
        unfold Oper.wp
        simp [execOp, putN, Act.put, Act.eval, h7, h8, go_sem, c5, c6]
        have HMM := Lib.hid hm.out
        clear hm c5 c6 h7 h8
        go_wp2
        go_roundw
        case rel => exact ⟨k + 1, by omega, by go_num, HMM.out⟩
        case measure => simp [intOf]; omega
    · have hke : k = n := by omega
      subst hke
      obtain ⟨A, c, hp, ho, hr, hb⟩ := hm
      have p0 := hp.at 0
      have p1 := hp.at 1
      have p2 := hp.at 2
      have r0 := hr.at 0
      have r1 := hr.at 1
      have r2 := hr.at 2
      have rf0 := hr.free 0
      have rf1 := hr.free 1
      have rf2 := hr.free 2
      simp at p0 p1 p2 r0 r1 r2
      have HO := Lib.hid ho
      have HR := Lib.hid hr
      have HB := Lib.hid hb
      clear hp ho hr hb
      go_wp2
      obtain ⟨m1, m2, m3⟩ := mid_end (by omega) HO.out HR.out HB.out (.int .i64 wi) (.int .i64 hi) (.slice A k c)
      have q0 := m1.at 0
      have q1 := m1.at 1
      have q2 := m1.at 2
      simp at q0 q1 q2
      refine bodyPost_ret (v := .agg #[.int .i64 wi, .int .i64 hi, .slice A k c]) (by simp [results, Try.results71, go_sem, q0, q1, q2]) rfl ?_
      exact ⟨_, _, rfl, m2, m3⟩
end Go.Proofs.Ytpjonajpgidjfaa
