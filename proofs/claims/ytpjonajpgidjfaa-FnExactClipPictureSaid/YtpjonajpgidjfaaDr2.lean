/-
  Pictures that are made light by light: impl's loops. No condition.
-/
import Derived.Test.YtpjonajpgidjfaaDrw
namespace Go.Proofs.Ytpjonajpgidjfaa
set_option linter.unusedVariables false
open Go.RowKit Ieee

/-- A new cell that holds the next number. -/
def NewOne (c : Option Nat) (own : Option Nat) (v : Value) (w : World) : Prop := ∃ B x, v = .slice (some ⟨B, 0, none⟩) 1 1 ∧ w.cell? ⟨B, 0, none⟩ = some (.float .f32 x) ∧ cl .f32 x = c ∧ some B ≠ own
theorem NewOne.kept {c own} {v : Value} {w w' : World} (h : NewOne c own v w) (hg : w.grownBy w' own) : NewOne c own v w' := by
  obtain ⟨B, x, h1, h2, h3, h4⟩ := h
  exact ⟨B, x, h1, hg.cell h2 h4, h3, h4⟩

/-- What the world keeps while a region appends to a picture's slice; ia: the append's number. -/
def ApC (W : World) (p r : Nat) (wi hi : Int) (cls : Nat → Option Nat) (k : Nat) (A : Option Addr) (c ia : Nat) (listed : Array Bool) (w : World) : Prop :=
  Has w p 27 #[.int .i64 wi, .int .i64 hi, .slice A k c] ∧ Has w r 27 #[.int .i64 0, .int .i64 0, .slice none 0 0] ∧ Below W.heap.size W w ∧ (listed.getD ia false = false → Own w W.heap.size (.slice A k c) k cls) ∧ ∀ q, (Value.slice A k c).ownBlock = some q → q < w.heap.size

theorem ApC.low {W : World} {p r : Nat} {wi hi : Int} {cls : Nat → Option Nat} {k : Nat} {A : Option Addr} {c ia i : Nat} {listed : Array Bool} {w w' : World} (h : ApC W p r wi hi cls k A c ia listed w) (hia : i ≠ ia) (hb : Below w.heap.size w w') :
    ApC W p r wi hi cls k A c ia (listed.setIfInBounds i true) w' := by
  obtain ⟨h1, h2, h3, h4, h5⟩ := h
  refine ⟨h1.low hb h1.inside, h2.low hb h2.inside, below_trans h3 hb, fun hl => ?_, fun q hq => Nat.lt_of_lt_of_le (h5 q hq) hb.size⟩
  rw [getD_set_ne _ _ _ hia] at hl
  exact (h4 hl).low hb

theorem ApC.app {W : World} {p r : Nat} {wi hi : Int} {cls : Nat → Option Nat} {k : Nat} {A : Option Addr} {c ia : Nat} {listed : Array Bool} {w w' : World} (h : ApC W p r wi hi cls k A c ia listed w) (hl : ia < listed.size) (hn : listed.getD ia false = false) (hg : w.grownBy w' (Value.slice A k c).ownBlock) :
    ApC W p r wi hi cls k A c ia (listed.setIfInBounds ia true) w' := by
  obtain ⟨h1, h2, h3, h4, h5⟩ := h
  have ho := h4 hn
  refine ⟨h1.kept hg (fun h => ho.apart h1 f_ne_p h.symm), h2.kept hg (fun h => ho.apart h2 f_ne_p h.symm), h3.grown hg h3.size (fun q hq => (ho.lt q hq).1), fun hl' => ?_, fun q hq => Nat.lt_of_lt_of_le (h5 q hq) hg.size⟩
  rw [getD_set_eq _ _ _ hl] at hl'
  cases hl'

/-- The append, whatever evaluates its operands. -/
theorem run_snoc_op {w : World} {ρ : Operand → Value} {d : Option Tmp} {rt : TypeId} {s x : Operand} {pos : String} {aft : Array Edge} {g : Option (Nat × Bool)} {base : Nat} {A : Option Addr} {k c : Nat} {cls : Nat → Option Nat} {y : Value}
    (hs : ρ s = .slice A k c) (hx : ρ x = y) (ho : Own w base (.slice A k c) k cls) (hy : NewOne (cls k) (Value.slice A k c).ownBlock y w) (hk : k < 1048576) (hb : base ≤ w.heap.size) :
    ∃ A' c' w', (execOp ρ ⟨d, .call { callee := .builtin .append, args := #[s, x], argTypes := #[22, 22] }, rt, pos, aft, g⟩).run Try.prog w = .ok (.value (.slice A' (k + 1) c')) w' ∧ Own w' base (.slice A' (k + 1) c') (k + 1) cls ∧ w.grownBy w' (Value.slice A k c).ownBlock := by
  obtain ⟨B, z, rfl, hc, hz, _⟩ := hy
  obtain ⟨v', w', hr, h1, h2⟩ := run_snoc w base _ k cls ho B z hc hz hk hb rt
  obtain ⟨A', c', rfl⟩ := h1.form
  refine ⟨A', c', w', ?_, h1, h2⟩
  unfold execOp
  simp only [resolve, invoke, builtin, Sem.run_bind, Sem.run_pure, Result.andThen_ok, List.map_toArray, List.map_cons, List.map_nil, hs, hx, hr]

/-- What a round of 'drawn' gives. -/
def DrV (W : World) (p : Nat) (fv : Value) (x y : Int) (cls : Nat → Option Nat) (k : Nat) (A : Option Addr) (c : Nat) : Nat → Value → World → Prop
  | 0, v, _ => v = .pointer (some ⟨p, 2, none⟩)
  | 1, v, _ => v = .slice A k c
  | 2, v, _ => v = fv
  | 3, v, _ => v = .int .i64 x
  | 4, v, _ => v = .int .i64 y
  | 5, v, _ => ∃ r, v = .float .f32 r ∧ cl .f32 r = cls k
  | 6, v, w => NewOne (cls k) (Value.slice A k c).ownBlock v w
  | 7, v, w => ∃ A' c', v = .slice A' (k + 1) c' ∧ Own w W.heap.size (.slice A' (k + 1) c') (k + 1) cls
  | _, v, _ => v = .pointer (some ⟨p, 2, none⟩)
theorem drV7 {W : World} {p : Nat} {fv : Value} {x y : Int} {cls : Nat → Option Nat} {k : Nat} {A : Option Addr} {c : Nat} {v : Value} {w : World} (h : DrV W p fv x y cls k A c 7 v w) : ∃ A' c', v = .slice A' (k + 1) c' ∧ Own w W.heap.size (.slice A' (k + 1) c') (k + 1) cls := h
theorem drV8 {W : World} {p : Nat} {fv : Value} {x y : Int} {cls : Nat → Option Nat} {k : Nat} {A : Option Addr} {c : Nat} {v : Value} {w : World} (h : DrV W p fv x y cls k A c 8 v w) : v = .pointer (some ⟨p, 2, none⟩) := h
theorem drV_low {W : World} {p : Nat} {fv : Value} {x y : Int} {cls : Nat → Option Nat} {k : Nat} {A : Option Addr} {c : Nat} {w w' : World} (hb : Below w.heap.size w w') (j : Nat) (v : Value) (h : DrV W p fv x y cls k A c j v w) : DrV W p fv x y cls k A c j v w' := by
  match j with
  | 0 => exact h
  | 1 => exact h
  | 2 => exact h
  | 3 => exact h
  | 4 => exact h
  | 5 => exact h
  | 6 => exact NewOne.kept h (grownBy_below hb _)
  | 7 => obtain ⟨A', c', h1, h2⟩ := h; exact ⟨A', c', h1, h2.low hb⟩
  | _ + 8 => exact h
theorem drV_app {W : World} {p : Nat} {fv : Value} {x y : Int} {cls : Nat → Option Nat} {k : Nat} {A : Option Addr} {c : Nat} {w w' : World} (hg : w.grownBy w' (Value.slice A k c).ownBlock) (j : Nat) (v : Value) (hj : j ≠ 7) (h : DrV W p fv x y cls k A c j v w) : DrV W p fv x y cls k A c j v w' := by
  match j, hj with
  | 0, _ => exact h
  | 1, _ => exact h
  | 2, _ => exact h
  | 3, _ => exact h
  | 4, _ => exact h
  | 5, _ => exact h
  | 6, _ => exact NewOne.kept h hg
  | _ + 8, _ => exact h

theorem dr_pure {W : World} {p r : Nat} {wi hi : Int} {cls : Nat → Option Nat} {k : Nat} {A : Option Addr} {c ia i : Nat} {listed : Array Bool} {w : World} {V : Nat → Value → World → Prop} (h : ApC W p r wi hi cls k A c ia listed w) (hia : i ≠ ia) :
    ApC W p r wi hi cls k A c ia (listed.setIfInBounds i true) w ∧ ∀ (j : Nat) (v' : Value), ¬ j = i → V j v' w → V j v' w := ⟨h.low hia (Below.refl _ _), fun _ _ _ h => h⟩

theorem mid_start (W : World) (wi hi : Int) (cls : Nat → Option Nat) : Mid W (W.heap.size + 1) W.heap.size wi hi cls 0 ((W.alloc (.cells #[.int .i64 0, .int .i64 0, .slice none 0 0] 27)).alloc (.cells #[.int .i64 wi, .int .i64 hi, .slice none 0 0] 27)) := by
  have h := Has.ofAlloc (W.alloc (.cells #[.int .i64 0, .int .i64 0, .slice none 0 0] 27)) 27 #[.int .i64 wi, .int .i64 hi, .slice none 0 0]
  simp at h
  exact ⟨none, 0, h, Own.nil _ _ _, (Has.ofAlloc _ _ _).past _, ((Below.refl _ _).alloc (Nat.le_refl _) _).alloc (by simp) _⟩

set_option maxRecDepth 10000 in
set_option maxHeartbeats 1000000 in
theorem drawn_c (wN hN N : Nat) (hN0 : N = hN * wN) (hN1 : N ≤ 256) (hw1 : wN ≤ 16) (hh1 : hN ≤ 16) (K : Nat) (caps : Array Value) (cls : Nat → Option Nat) (w : World)
    (hK : ∀ args w, (callFunc K args).run Try.prog w = .ok (.enter K args) w) (hf : ∀ (x y : Nat) w', x < wN → y < hN → Below w.heap.size w w' → Calls Try.prog K (#[.int .i64 x, .int .i64 y] ++ caps) w' fun e w'' => RetF .f32 w' (cls (y * wN + x)) e w'') :
    Calls Try.prog 63 #[.int .i64 wN, .int .i64 hN, .func (.func K) #[] caps] w (MadeR w wN hN N cls) := by
  have HF := Lib.hid hf
  have HN := Lib.hid hN0
  have HK := Lib.hid hK
  clear hf hN0 hK
  go_enter Try.func63, Try.ntmps63
  go_wp2
  go_loopw [14] (fun i wr => ∃ y : Nat, y ≤ hN ∧ i = .int .i64 y ∧ Mid w (w.heap.size + 1) w.heap.size wN hN cls (y * wN) wr) (fun i _ => hN - (intOf i).toNat)
  case atStart => exact ⟨0, Nat.zero_le _, rfl, by rw [Nat.zero_mul]; exact mid_start _ _ _ _⟩
  case round =>
    obtain ⟨y, hy, rfl, hm⟩ := hrel
    have HM := Lib.hid hm
    clear hm
    by_cases hlt : y < hN
    · obtain ⟨Y, hY⟩ : ∃ Y, y * wN = Y := ⟨_, rfl⟩
      have hYN : Y + wN ≤ N := by
        rw [HN.out, ← hY, ← Nat.succ_mul]
        exact Nat.mul_le_mul_right _ hlt
      have hYs : Hid ((y + 1) * wN = Y + wN) := by show _ = _; rw [← hY, Nat.succ_mul]
      rw [hY] at HM
      have HF2 : Hid (∀ (x : Nat) w', x < wN → Below w.heap.size w w' → Calls Try.prog K (#[.int .i64 x, .int .i64 y] ++ caps) w' fun e w'' => RetF .f32 w' (cls (Y + x)) e w'') := by
        intro x w' hx hb; rw [← hY]; exact HF.out x y w' hx hlt hb
      clear hY
      go_wp2
      go_loopw [18] (fun i wr => ∃ x : Nat, x ≤ wN ∧ i = .int .i64 x ∧ Mid w (w.heap.size + 1) w.heap.size wN hN cls (Y + x) wr) (fun i _ => wN - (intOf i).toNat)
      case atStart => exact ⟨0, Nat.zero_le _, rfl, HM.out⟩
      case round =>
        obtain ⟨x, hx, rfl, hm⟩ := hrel
        by_cases hlx : x < wN
        · obtain ⟨A, c, hp, ho, hr, hb⟩ := hm
          have HP := Lib.hid hp
          have HO := Lib.hid ho
          have HR := Lib.hid hr
          have HB := Lib.hid hb
          clear hp ho hr hb
          go_wp2
          refine wp_region_inv_lit 9 (ApC w (w.heap.size + 1) w.heap.size wN hN cls (Y + x) A c 7) (DrV w (w.heap.size + 1) (.func (.func K) #[] caps) x y cls (Y + x) A c) rfl rfl (by kernel_rfl) (by kernel_rfl) ⟨HP.out, HR.out, below_drewN HB.out 1, fun _ => HO.out, fun q hq => (HO.out.lt q hq).2⟩ ⟨?_, ?_, ?_, ?_, ?_, ?_, ?_, ?_, ?_, trivial⟩ ?_
          · intro listed ρ w' hsz hC hl hx hd hal ho
            have q : ρ (.tmp 7) = _ := ho 7 (out_ofI (by kernel_rfl))
            simp [execOp, q, YieldsI, go_sem, Act.eval]
            exact ⟨rfl, hC.low (i := 0) (by decide) (Below.refl _ _)⟩
          · intro listed ρ w' hsz hC hl hx hd hal ho
            have q : ρ (.tmp 21) = .pointer (some ⟨w.heap.size + 1, 2, none⟩) := hd ⟨0, .data⟩ (by simp)
            have c2 := hC.1.at 2
            simp at c2
            simp [execOp, q, YieldsI, go_sem, c2]
            exact ⟨rfl, hC.low (i := 1) (by decide) (Below.refl _ _)⟩
          · intro listed ρ w' hsz hC hl hx hd hal ho
            have q : ρ (.tmp 2) = _ := ho 2 (out_ofI (by kernel_rfl))
            simp [execOp, q, YieldsI, go_sem, Act.eval]
            exact ⟨rfl, hC.low (i := 2) (by decide) (Below.refl _ _)⟩
          · intro listed ρ w' hsz hC hl hx hd hal ho
            have q : ρ (.tmp 9) = _ := ho 9 (out_ofI (by kernel_rfl))
            simp [execOp, q, YieldsI, go_sem, Act.eval]
            exact ⟨rfl, hC.low (i := 3) (by decide) (Below.refl _ _)⟩
          · intro listed ρ w' hsz hC hl hx hd hal ho
            have q : ρ (.tmp 8) = _ := ho 8 (out_ofI (by kernel_rfl))
            simp [execOp, q, YieldsI, go_sem, Act.eval]
            exact ⟨rfl, hC.low (i := 4) (by decide) (Below.refl _ _)⟩
          · intro listed ρ w' hsz hC hl hx hd hal ho
            have q : ρ (.tmp 23) = .func (.func K) #[] caps := hd ⟨2, .data⟩ (by simp)
            have q1 : ρ (.tmp 24) = .int .i64 x := hd ⟨3, .data⟩ (by simp)
            have q2 : ρ (.tmp 25) = .int .i64 y := hd ⟨4, .data⟩ (by simp)
            simp [execOp, q, q1, q2, YieldsI, go_sem]
            rw [HK.out]
            refine (HF2.out x w' hlx hC.2.2.1).mono ?_
            rintro e w'' ⟨z, m, rfl, hz, _, rfl⟩
            have hbd := below_drewN (Below.refl w'.heap.size w') m
            exact ⟨_, rfl, ⟨z, rfl, hz⟩, hC.low (by decide) hbd, fun j v' _ h => drV_low hbd j v' h⟩
          · intro listed ρ w' hsz hC hl hx hd hal ho
            obtain ⟨z, q, hz⟩ : ∃ r, ρ (.tmp 26) = .float .f32 r ∧ cl .f32 r = cls (Y + x) := hd ⟨5, .data⟩ (by simp)
            have hba := (Below.refl w'.heap.size w').alloc (Nat.le_refl _) (Obj.cells #[.float .f32 z] 32)
            have hne : some w'.heap.size ≠ (Value.slice A (Y + x) c).ownBlock := fun h => Nat.lt_irrefl _ (hC.2.2.2.2 _ h.symm)
            simp [execOp, q, YieldsI, go_sem]
            exact ⟨⟨_, z, rfl, by simp [go_sem], hz, hne⟩, hC.low (by decide) hba, fun j v' _ h => drV_low hba j v' h⟩
          · intro listed ρ w' hsz hC hl hx hd hal ho
            have q : ρ (.tmp 22) = .slice A (Y + x) c := hd ⟨1, .data⟩ (by simp)
            have q1 : NewOne (cls (Y + x)) (Value.slice A (Y + x) c).ownBlock (ρ (.tmp 27)) w' := hd ⟨6, .data⟩ (by simp)
            obtain ⟨A', c', w'', hr, ho', hg⟩ := run_snoc_op (d := some 28) (rt := 22) (pos := "l02_pictures.go:54") q rfl (hC.2.2.2.1 hl) q1 (by omega) hC.2.2.1.size
            rw [hr]
            exact ⟨⟨A', c', rfl, ho'⟩, hC.app (by rw [hsz]; decide) hl hg, fun j v' hj h => drV_app hg j v' hj h⟩
          · intro listed ρ w' hsz hC hl hx hd hal ho
            have q : ρ (.tmp 7) = _ := ho 7 (out_ofI (by kernel_rfl))
            simp [execOp, q, YieldsI, go_sem, Act.eval]
            exact ⟨rfl, hC.low (i := 8) (by decide) (Below.refl _ _)⟩
          · intro vs listed w' hvs hall hC
            have t7 := drV7 (hvs 7 (by decide))
            have h8 := drV8 (hvs 8 (by decide))
            clear hvs hall
            refine t7.elim ?_
            intro A' t8
            refine t8.elim ?_
            intro c' t9
            have h7 := t9.1
            have ho' := t9.2
            have hp := hC.1
            have hr := hC.2.1
            have hb := hC.2.2.1
            clear t7 t8 t9 hC
            have c5 := hp.at 2
            have c6 := hp.free 2
            simp at c5
            have hm : Hid (Mid w (w.heap.size + 1) w.heap.size wN hN cls (Y + x + 1) (w'.setCell ⟨w.heap.size + 1, 2, none⟩ (.slice A' (Y + x + 1) c'))) :=
              ⟨A', c', by simpa using hp.put 2 _, ho'.kept (grownBy_set _ _ _ _) (ho'.apart hp f_ne_p), hr.aside (by omega) _ _, hb.setCell (by simp) _⟩
            clear hp hr hb ho'
            unfold Oper.wp
            simp [execOp, putN, Act.put, Act.eval, h7, h8, go_sem, c5, c6]
            have HMM := Lib.hid hm.out
            clear hm c5 c6 h7 h8
            go_wp2
            go_roundw
            case rel => exact ⟨x + 1, by omega, by go_num, HMM.out⟩
            case measure => simp [intOf]; omega
        · have hxe : x = wN := by omega
          subst hxe
          have e2 := hYs.out
          rw [← e2] at hm
          have HM2 := Lib.hid hm
          clear hm e2
          go_wp2
          go_roundw
          case rel => exact ⟨y + 1, by omega, by go_num, HM2.out⟩
          case measure => simp [intOf]; omega
    · have hye : y = hN := by omega
      subst hye
      have hm : Mid _ _ _ _ _ _ _ _ := HM.out
      rw [← HN.out] at hm
      clear HM
      obtain ⟨A, c, hp, ho, hr, hb⟩ := hm
      have p0 := hp.at 0
      have p1 := hp.at 1
      have p2 := hp.at 2
      have r0 := hr.at 0
      have r1 := hr.at 1
      have r2 := hr.at 2
      have rf0 := hr.free 0
      have rf1 := hr.free 1
      have rf2 := hr.free 2
      simp at p0 p1 p2 r0 r1 r2
      have HO := Lib.hid ho
      have HR := Lib.hid hr
      have HB := Lib.hid hb
      clear hp ho hr hb
      go_wp2
      obtain ⟨m1, m2, m3⟩ := mid_end (Nat.le_refl _) HO.out HR.out HB.out (.int .i64 wN) (.int .i64 y) (.slice A N c)
      have q0 := m1.at 0
      have q1 := m1.at 1
      have q2 := m1.at 2
      simp at q0 q1 q2
      refine bodyPost_ret (v := .agg #[.int .i64 wN, .int .i64 y, .slice A N c]) (by simp [results, Try.results63, go_sem, q0, q1, q2]) rfl ?_
      exact ⟨_, _, rfl, m2, m3⟩
end Go.Proofs.Ytpjonajpgidjfaa
