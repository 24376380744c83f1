/-
  The walk of impl's shared exponents. No condition.
-/
import Derived.Test.YtpjonajpgidjfaaShs
import Derived.OwnWalk
import Derived.IntWalk
import Derived.Test.YtpjonajpgidjfaaDrw
namespace Go.Proofs.Ytpjonajpgidjfaa
set_option linter.unusedVariables false
open Go.RowKit Ieee

theorem run_max2 (P : Program) (tys : Array TypeId) (ty : TypeId) (m y : Nat) (hm : okS m = true) (hy : okS y = true) (w : World) : ∃ z, (Builtin.max_ tys ty #[.float .f32 m, .float .f32 y]).run P w = .ok (.float .f32 z) w ∧ okS z = true ∧ valS z = max (valS m) (valS y) := by
  have ho := ordS hm hy
  rw [int_compare] at ho
  have e : Builtin.max_ tys ty #[.float .f32 m, .float .f32 y] = (Builtin.max2 (.float .f32 m) (.float .f32 y) >>= fun x => pure x) := rfl
  rw [e]
  by_cases h1 : (valS m : Int) < (valS y : Int)
  · rw [if_pos h1] at ho
    refine ⟨y, ?_, hy, by omega⟩
    simp [Builtin.max2, ho]
  · rw [if_neg h1] at ho
    by_cases h2 : (valS m : Int) = (valS y : Int)
    · rw [if_pos h2] at ho
      refine ⟨if (FloatKind.f32.decode m).neg then y else m, ?_, by split <;> assumption, by split <;> omega⟩
      simp [Builtin.max2, ho]
    · rw [if_neg h2] at ho
      refine ⟨m, ?_, hm, by omega⟩
      simp [Builtin.max2, ho]

theorem wpList_max {P : Program} {w : World} {ops : Array Oper} {rest : List Oper} {o : Oper} {a : Act} {Q : Exit → Act → World → Prop} (hgd : o.guard = none) (s x : Operand) (tys : Array TypeId)
    (ho : o.op = .call { callee := .builtin .max, args := #[s, x], argTypes := tys }) (m y : Nat) (hs : a.eval s = .float .f32 m) (hx : a.eval x = .float .f32 y) (hm : okS m = true) (hy : okS y = true)
    (hq : ∀ z, okS z = true → valS z = max (valS m) (valS y) → wpList P ops Q rest (a.put o.dst (.float .f32 z)) w) : wpList P ops Q (o :: rest) a w := by
  refine wpList_plain hgd fun _ hK => ?_
  obtain ⟨z, hr, h1, h2⟩ := run_max2 P tys o.type m y hm hy w
  unfold Oper.wp execOp
  simp only [ho, resolve, invoke, builtin, Sem.run_bind, Sem.run_pure, Result.andThen_ok, List.map_toArray, List.map_cons, List.map_nil, hs, hx, hr]
  exact hK _ _ (hq z h1 h2)

theorem share1_c (x : Nat) (hx : x < 4294967296) (w : World) : Calls Try.prog 81 #[.float .f32 x] w fun e w' => e = .returned (.bool (!okS x)) ∧ w = w' := by
  rcases testS hx with ⟨t1, t2, t3⟩ | ⟨t1, t2, t3⟩ | ⟨t1, t3⟩ <;>
  · have T3 := Lib.hid t3
    clear t3 hx
    go_enter Try.func81, Try.ntmps81
    go_wp2
    go_ret
    exact ⟨by rw [T3.out]; rfl, rfl⟩

/-- Are the first n lights in their bounds? -/
def allN (f : Nat → Nat) (n : Nat) : Bool := decide (∀ i, i < n → okS (f i) = true)

theorem indexS_c (b n c : Nat) (f : Nat → Nat) (w : World) (hn : n ≤ 1048576) (hf : ∀ i, i < n → f i < 4294967296) (h1 : ∀ i, i < n → w.cell? ⟨b, i, none⟩ = some (.float .f32 (f i))) :
    Calls Try.prog 97 #[.slice (some ⟨b, 0, none⟩) n c, .func (.func 81) #[] #[]] w fun e w' => ∃ k : Int, e = .returned (.int .i64 k) ∧ (decide (0 ≤ k) = !allN f n) ∧ w = w' := by
  have H1 := Lib.hid h1
  have HF := Lib.hid hf
  clear h1 hf
  go_enter Try.func97, Try.ntmps97
  go_wp2
  go_loop [5, 8] (fun s i => ∃ k : Nat, k ≤ n ∧ i = .int .i64 k ∧ Hid (∀ j, j < k → okS (f j) = true)) (fun _ i => n - (intOf i).toNat)
  case atStart => exact ⟨0, Nat.zero_le _, rfl, Lib.hid (fun j hj => absurd hj (Nat.not_lt_zero j))⟩
  case round =>
    obtain ⟨k, hk, rfl, hall⟩ := hrel
    by_cases hlt : k < n
    · have x1 := H1.out k hlt
      have C := Lib.hid (fun w => share1_c (f k) (HF.out k hlt) w)
      cases hf : okS (f k) with
      | true =>
        have HFk := Lib.hid hf
        rw [hf] at C
        clear hf
        go_wp2_with fail
        refine (C.out _).mono ?_; rintro e w2 ⟨rfl, rfl⟩
        go_wp2_with fail
        go_round
        case rel => exact ⟨k + 1, by omega, by go_num, Lib.hid (fun j hj => by rcases Nat.lt_or_eq_of_le (Nat.le_of_lt_succ hj) with h | rfl; exact hall.out j h; exact HFk.out)⟩
        case measure => simp [intOf]; omega
      | false =>
        have HFk := Lib.hid hf
        rw [hf] at C
        clear hf
        go_wp2_with fail
        refine (C.out _).mono ?_; rintro e w2 ⟨rfl, rfl⟩
        go_wp2_with fail
        go_ret
        refine ⟨_, rfl, ?_, rfl⟩
        have : allN f n = false := decide_eq_false (fun h => by have := h k hlt; rw [HFk.out] at this; cases this)
        rw [this]; simp
    · have hke : k = n := by omega
      have HE := Lib.hid hke
      clear hke
      go_wp2
      go_ret
      refine ⟨_, rfl, ?_, rfl⟩
      have : allN f n = true := decide_eq_true (fun j hj => hall.out j (by rw [HE.out]; exact hj))
      rw [this]; rfl

theorem containsS_c (b n c : Nat) (f : Nat → Nat) (w : World) (hn : n ≤ 1048576) (hf : ∀ i, i < n → f i < 4294967296) (h1 : ∀ i, i < n → w.cell? ⟨b, i, none⟩ = some (.float .f32 (f i))) :
    Calls Try.prog 80 #[.slice (some ⟨b, 0, none⟩) n c, .func (.func 81) #[] #[]] w fun e w' => e = .returned (.bool (!allN f n)) ∧ w = w' := by
  have I := Lib.hid (indexS_c b n c f w hn hf h1)
  clear hf h1
  go_enter Try.func80, Try.ntmps80
  go_wp2_with fail
  refine I.out.mono ?_
  rintro e w' ⟨k, rfl, hk, rfl⟩
  have HK := Lib.hid hk
  clear hk
  go_wp2_with fail
  go_ret
  exact ⟨by rw [← HK.out]; rfl, rfl⟩

set_option maxRecDepth 10000 in
theorem max_c (b : Nat) (f : Nat → Nat) (w : World) (hf : ∀ i, i < 3 → okS (f i) = true) (h1 : ∀ i, i < 3 → w.cell? ⟨b, i, none⟩ = some (.float .f32 (f i))) :
    Calls Try.prog 82 #[.slice (some ⟨b, 0, none⟩) 3 3] w fun e w' => ∃ z, e = .returned (.float .f32 z) ∧ okS z = true ∧ valS z = topF f 3 ∧ w = w' := by
  have H1 := Lib.hid h1
  have HF := Lib.hid hf
  have c0 := h1 0 (by decide)
  clear h1 hf
  go_enter Try.func82, Try.ntmps82
  go_wp2
  go_loop [3, 4] (fun m i => ∃ k z : Nat, 1 ≤ k ∧ k ≤ 3 ∧ i = .int .i64 k ∧ m = .float .f32 z ∧ Hid (okS z = true ∧ valS z = topF f k)) (fun _ i => 3 - (intOf i).toNat)
  case atStart => exact ⟨1, f 0, by decide, by decide, rfl, rfl, Lib.hid ⟨HF.out 0 (by decide), by show valS (f 0) = max 0 (valS (f 0)); omega⟩⟩
  case round =>
    obtain ⟨k, z, hk1, hk, rfl, rfl, hz⟩ := hrel
    by_cases hlt : k < 3
    · have c1 := H1.out k hlt
      go_wp2_with (refine wpList_max rfl (.tmp 18) (.tmp 22) _ rfl _ _ rfl rfl hz.out.1 (HF.out k hlt) ?_; intro z2 g1 g2; have GZ := Lib.hid (show okS z2 = true ∧ valS z2 = topF f (k + 1) from ⟨g1, by rw [g2, hz.out.2]; rfl⟩); clear g1 g2)
      go_round
      case rel => exact ⟨k + 1, z2, by omega, by omega, by go_num, rfl, GZ⟩
      case measure => simp [intOf]; omega
    · have hke : k = 3 := by omega
      subst hke
      have HZ := hz
      clear hz
      go_wp2
      go_ret
      exact ⟨z, rfl, HZ.out.1, HZ.out.2, rfl⟩

/-- Values that are known. -/
def LV (l : List Value) (j : Nat) (v : Value) : Prop := match l[j]? with | some x => v = x | none => True

set_option maxRecDepth 10000 in
set_option maxHeartbeats 4000000 in
theorem implShareOf_c (r g b : Nat) (hr : r < 4294967296) (hg : g < 4294967296) (hb : b < 4294967296) (w : World) : Calls Try.prog 39 #[.float .f32 r, .float .f32 g, .float .f32 b] w (ShareQ w r g b) := by
  have HC : Hid (∀ j, j < 3 → (w.alloc (.cells #[.float .f32 r, .float .f32 g, .float .f32 b] 32)).cell? ⟨w.heap.size, j, none⟩ = some (.float .f32 (tri r g b j))) := by
    intro j hj
    match j, hj with
    | 0, _ => simp [go_sem, tri]
    | 1, _ => simp [go_sem, tri]
    | 2, _ => simp [go_sem, tri]
  have HX : Hid (∀ j, j < 3 → tri r g b j < 4294967296) := by
    intro j hj
    match j, hj with
    | 0, _ => exact hr
    | 1, _ => exact hg
    | 2, _ => exact hb
  have BW := Lib.hid ((Below.refl w.heap.size w).alloc (Nat.le_refl _) (.cells #[.float .f32 r, .float .f32 g, .float .f32 b] 32))
  have CT := Lib.hid (containsS_c w.heap.size 3 3 (tri r g b) (w.alloc (.cells #[.float .f32 r, .float .f32 g, .float .f32 b] 32)) (by decide) HX.out HC.out)
  clear hr hg hb
  cases ha : allN (tri r g b) 3 with
  | false =>
    have HN : Hid (allS r g b = false) := by
      show _ = _
      cases h : allS r g b with
      | false => rfl
      | true => rw [show allN (tri r g b) 3 = true from decide_eq_true (fun i hi => tri_all h hi)] at ha; cases ha
    rw [ha] at CT
    clear ha
    go_enter Try.func39, Try.ntmps39
    go_wp2_with fail
    refine CT.out.mono ?_; rintro en w1 ⟨rfl, rfl⟩
    go_wp2_with fail
    go_ret2
    exact ⟨0, false, rfl, .inl ⟨HN.out, rfl, rfl⟩, BW.out⟩
  | true =>
    have hall : ∀ j, j < 3 → okS (tri r g b j) = true := of_decide_eq_true ha
    have HA := Lib.hid (tri_yes hall)
    rw [ha] at CT
    have MX := Lib.hid (max_c w.heap.size (tri r g b) (w.alloc (.cells #[.float .f32 r, .float .f32 g, .float .f32 b] 32)) hall HC.out)
    have h0r : okS r = true := hall 0 (by decide)
    have H0 := Lib.hid h0r
    have h1r : okS g = true := hall 1 (by decide)
    have H1 := Lib.hid h1r
    have h2r : okS b = true := hall 2 (by decide)
    have H2 := Lib.hid h2r
    have HTs := Lib.hid (okS_small (topF_le hall))
    clear ha hall HX h0r h1r h2r
    go_enter Try.func39, Try.ntmps39
    go_wp2_with fail
    refine CT.out.mono ?_; rintro en w1 ⟨rfl, rfl⟩
    go_wp2_with fail
    refine MX.out.mono ?_; rintro en w1 ⟨z, rfl, hz1, hz2, rfl⟩
    have HZ1 := Lib.hid hz1
    have HPZ : Hid (∀ e, PN z e = PN (topF (tri r g b) 3) e) := fun e => by rw [PN_val (x := z), hz2]
    have HWZ := Lib.hid (widS_ok hz1)
    clear hz1 hz2
    go_wp2_with (refine wpList_widen _ rfl Try.underlying32 Try.underlying36 rfl ?_; intro v n0 hv hwv; obtain rfl := HWZ.out.2.2 v hv; clear hv hwv)
    have hp0 := Has.ofAlloc ((w.alloc (.cells #[.float .f32 r, .float .f32 g, .float .f32 b] 32)).drewN n0) 3 #[.int .i64 0]
    have hbb := (below_drewN BW.out n0).alloc (by simp) (.cells #[.int .i64 0] 3)
    simp at hp0
    have HP0 := Lib.hid hp0
    have HB0 := Lib.hid hbb
    clear hp0 hbb
    obtain ⟨p, hpe⟩ : ∃ p, w.heap.size + 1 = p := ⟨_, rfl⟩
    have HLE : Hid (w.heap.size ≤ p) := by show _ ≤ _; omega
    rw [hpe] at HP0 ⊢
    clear hpe
    obtain ⟨vz, hvz⟩ : ∃ vz, widS z = vz := ⟨_, rfl⟩
    have HVS : Hid (VS vz) := by show VS vz; rw [← hvz]; exact HWZ.out.1
    have HPV : Hid (∀ e, partI vz e = PN (topF (tri r g b) 3) e) := fun e => by rw [← hvz]; exact HPZ.out e
    rw [hvz]
    clear hvz HWZ HPZ
    go_loopw [24] (fun _ wr => ∃ e : Nat, e ≤ 33 ∧ Has wr p 3 #[.int .i64 e] ∧ Hid (∀ j, j < e → 511 < PN (topF (tri r g b) 3) j) ∧ Below w.heap.size w wr) (fun _ wr => 34 - (intOf ((wr.cell? ⟨p, 0, none⟩).getD (.int .i64 0))).toNat)
    case atStart => exact ⟨0, by decide, HP0.out, Lib.hid (fun j hj => absurd hj (Nat.not_lt_zero j)), HB0.out⟩
    case round =>
      obtain ⟨e, he, hp, hst, hbb⟩ := hrel
      have c0 := hp.at 0
      have cf0 := hp.free 0
      simp at c0
      have S := Lib.hid (fun w h => iPart_c vz e p HVS.out he w h)
      obtain ⟨pb1, pb2, pb3⟩ := PN_bd (x := topF (tri r g b) 3) HTs.out.1 he
      have HPE := Lib.hid pb3
      rw [HPV.out e] at S
      have HP := Lib.hid hp
      have HBB := Lib.hid hbb
      have HE := Lib.hid c0
      clear hp hbb pb3
      by_cases hgt : 511 < PN (topF (tri r g b) 3) e
      · have HG := Lib.hid hgt
        have he2 : e ≠ 33 := fun h => by have := HPE.out h; omega
        obtain ⟨q, hq⟩ : ∃ q, PN (topF (tri r g b) 3) e = q := ⟨_, rfl⟩
        rw [hq] at S hgt pb1 pb2
        clear hq
        go_wp2_with fail
        refine (S.out _ (by first | exact HE.out | (rw [World.cell?_drewN]; exact HE.out))).mono ?_; rintro en w1 ⟨rfl, m, rfl⟩
        go_wp2_with fail
        have hn := (show Has (World.drewN _ m) p _ _ from HP.out).put 0 (.int .i64 ((e : Int) + 1))
        simp at hn
        have hcn := hn.at 0
        simp at hcn
        go_roundw
        case rel => exact ⟨e + 1, by omega, by first | exact hn | (simpa using hn), Lib.hid (fun j hj => by rcases Nat.lt_or_eq_of_le (Nat.le_of_lt_succ hj) with h | rfl; exact hst.out j h; exact HG.out), (below_drewN HBB.out m).setCell HLE.out _⟩
        case measure => first | (rw [hcn, HE.out]; simp [intOf]; omega) | (simp [hcn, HE.out, intOf]; omega) | (simp [intOf]; omega)
      · have HG : Hid (StopE (topF (tri r g b) 3) e) := by
          show StopE _ _
          exact ⟨hst.out, by omega⟩
        obtain ⟨w0, w1', w2'⟩ := widS_ok H0.out
        obtain ⟨w3, w4, w5⟩ := widS_ok H1.out
        obtain ⟨w6, w7, w8⟩ := widS_ok H2.out
        have WR := Lib.hid w2'
        have WG := Lib.hid w5
        have WB := Lib.hid w8
        have Sr := Lib.hid (fun w h => iPart_c (widS r) e p w0 he w h)
        have Sg := Lib.hid (fun w h => iPart_c (widS g) e p w3 he w h)
        have Sb := Lib.hid (fun w h => iPart_c (widS b) e p w6 he w h)
        obtain ⟨r1, r2, -⟩ := PN_bd H0.out he
        obtain ⟨g1, g2, -⟩ := PN_bd H1.out he
        obtain ⟨b1, b2, -⟩ := PN_bd H2.out he
        have HN : Hid (shareN r g b e = PN r e + 512 * PN g e + 262144 * PN b e + 134217728 * (e : Int)) := by show _ = _; rfl
        rw [show partI (widS r) e = PN r e from rfl] at Sr
        rw [show partI (widS g) e = PN g e from rfl] at Sg
        rw [show partI (widS b) e = PN b e from rfl] at Sb
        obtain ⟨q, hq⟩ : ∃ q, PN (topF (tri r g b) 3) e = q := ⟨_, rfl⟩
        rw [hq] at S hgt pb1 pb2
        obtain ⟨x1, hx1⟩ : ∃ q, PN r e = q := ⟨_, rfl⟩
        obtain ⟨x2, hx2⟩ : ∃ q, PN g e = q := ⟨_, rfl⟩
        obtain ⟨x3, hx3⟩ : ∃ q, PN b e = q := ⟨_, rfl⟩
        rw [hx1] at Sr r1 r2 HN
        rw [hx2] at Sg g1 g2 HN
        rw [hx3] at Sb b1 b2 HN
        clear hq hx1 hx2 hx3 w0 w1' w2' w3 w4 w5 w6 w7 w8
        go_wp2_with fail
        refine (S.out _ (by first | exact HE.out | (rw [World.cell?_drewN]; exact HE.out))).mono ?_; rintro en w1 ⟨rfl, m0, rfl⟩
        go_wp2_with fail
        have a1 : IntKind.i64.wrap (x2 * 512) = x2 * 512 := IntWalk.i64_in _ (by omega)
        have a2 : IntKind.i64.wrap (x1 + x2 * 512) = x1 + x2 * 512 := IntWalk.i64_in _ (by omega)
        have a3 : IntKind.i64.wrap (x3 * 262144) = x3 * 262144 := IntWalk.i64_in _ (by omega)
        have a4 : IntKind.i64.wrap (x1 + x2 * 512 + x3 * 262144) = x1 + x2 * 512 + x3 * 262144 := IntWalk.i64_in _ (by omega)
        have a5 : IntKind.i64.wrap ((e : Int) * 134217728) = (e : Int) * 134217728 := IntWalk.i64_in _ (by omega)
        have a6 : IntKind.i64.wrap (x1 + x2 * 512 + x3 * 262144 + (e : Int) * 134217728) = x1 + x2 * 512 + x3 * 262144 + (e : Int) * 134217728 := IntWalk.i64_in _ (by omega)
        have hfin : shareN r g b e = x1 + x2 * 512 + x3 * 262144 + (e : Int) * 134217728 := by rw [HN.out]; omega
        have HF := Lib.hid hfin
        clear hfin
        rename_i wr _ _ _ _ _ _
        refine wp_region_free_lit (fun w' => ∃ d', w' = wr.drewN d') (LV [.func (.func 83) #[] #[.pointer (some ⟨p, 0, none⟩)], .float .f32 r, .float .f64 (widS r), .int .i64 x1, .func (.func 83) #[] #[.pointer (some ⟨p, 0, none⟩)], .float .f32 g, .float .f64 (widS g), .int .i64 x2, .int .i64 (x2 * 512), .int .i64 (x1 + x2 * 512), .func (.func 83) #[] #[.pointer (some ⟨p, 0, none⟩)], .float .f32 b, .float .f64 (widS b), .int .i64 x3, .int .i64 (x3 * 262144), .int .i64 (x1 + x2 * 512 + x3 * 262144), .int .i64 (e : Int), .int .i64 ((e : Int) * 134217728), .int .i64 (x1 + x2 * 512 + x3 * 262144 + (e : Int) * 134217728), .int .i64 (x1 + x2 * 512 + x3 * 262144 + (e : Int) * 134217728), .bool true]) (by kernel_rfl) (by kernel_rfl) ⟨_, World.drewN_drewN _ _ _⟩ ⟨?_, ?_, ?_, ?_, ?_, ?_, ?_, ?_, ?_, ?_, ?_, ?_, ?_, ?_, ?_, ?_, ?_, ?_, ?_, ?_, ?_, trivial⟩ ?_
        · intro ρ w' ⟨m, hw⟩ hx hd ho; subst hw
          have q : ρ (.tmp 11) = _ := ho 11 (out_of (by kernel_rfl))
          simp [execOp, q, Yields, Act.eval, LV]
          exact ⟨m, rfl⟩
        · intro ρ w' ⟨m, hw⟩ hx hd ho; subst hw
          have q : ρ (.tmp 0) = _ := ho 0 (out_of (by kernel_rfl))
          simp [execOp, q, Yields, Act.eval, LV]
          exact ⟨m, rfl⟩
        · intro ρ w' ⟨m, hw⟩ hx hd ho; subst hw
          have q : ρ (.tmp 29) = .float .f32 r := hd ⟨1, .data⟩ (by simp)
          obtain ⟨v, k, hr, hc, _⟩ := run_widen_op (P := Try.prog) (wr.drewN m) _ q Try.underlying32 Try.underlying36
          rw [hr]
          have hv := WR.out v hc
          subst hv
          exact ⟨rfl, _, World.drewN_drewN _ _ _⟩
        · intro ρ w' ⟨m, hw⟩ hx hd ho; subst hw
          have q : ρ (.tmp 28) = .func (.func 83) #[] #[.pointer (some ⟨p, 0, none⟩)] := hd ⟨0, .data⟩ (by simp)
          have q1 : ρ (.tmp 30) = .float .f64 (widS r) := hd ⟨2, .data⟩ (by simp)
          simp [execOp, q, q1, Yields, go_sem]
          refine (Sr.out (wr.drewN m) (by rw [World.cell?_drewN]; exact HE.out)).mono ?_
          rintro en w'' ⟨rfl, k, rfl⟩
          exact ⟨_, rfl, rfl, _, World.drewN_drewN _ _ _⟩
        · intro ρ w' ⟨m, hw⟩ hx hd ho; subst hw
          have q : ρ (.tmp 11) = _ := ho 11 (out_of (by kernel_rfl))
          simp [execOp, q, Yields, Act.eval, LV]
          exact ⟨m, rfl⟩
        · intro ρ w' ⟨m, hw⟩ hx hd ho; subst hw
          have q : ρ (.tmp 1) = _ := ho 1 (out_of (by kernel_rfl))
          simp [execOp, q, Yields, Act.eval, LV]
          exact ⟨m, rfl⟩
        · intro ρ w' ⟨m, hw⟩ hx hd ho; subst hw
          have q : ρ (.tmp 33) = .float .f32 g := hd ⟨5, .data⟩ (by simp)
          obtain ⟨v, k, hr, hc, _⟩ := run_widen_op (P := Try.prog) (wr.drewN m) _ q Try.underlying32 Try.underlying36
          rw [hr]
          have hv := WG.out v hc
          subst hv
          exact ⟨rfl, _, World.drewN_drewN _ _ _⟩
        · intro ρ w' ⟨m, hw⟩ hx hd ho; subst hw
          have q : ρ (.tmp 32) = .func (.func 83) #[] #[.pointer (some ⟨p, 0, none⟩)] := hd ⟨4, .data⟩ (by simp)
          have q1 : ρ (.tmp 34) = .float .f64 (widS g) := hd ⟨6, .data⟩ (by simp)
          simp [execOp, q, q1, Yields, go_sem]
          refine (Sg.out (wr.drewN m) (by rw [World.cell?_drewN]; exact HE.out)).mono ?_
          rintro en w'' ⟨rfl, k, rfl⟩
          exact ⟨_, rfl, rfl, _, World.drewN_drewN _ _ _⟩
        · intro ρ w' ⟨m, hw⟩ hx hd ho; subst hw
          have q : ρ (.tmp 35) = .int .i64 (x2) := hd ⟨7, .data⟩ (by simp)
          simp [execOp, q, Yields, go_sem, LV, hx (.const (.int .i64 512)) (by simp), a1]
          exact ⟨m, rfl⟩
        · intro ρ w' ⟨m, hw⟩ hx hd ho; subst hw
          have q : ρ (.tmp 31) = .int .i64 (x1) := hd ⟨3, .data⟩ (by simp)
          have q1 : ρ (.tmp 36) = .int .i64 (x2 * 512) := hd ⟨8, .data⟩ (by simp)
          simp [execOp, q, Yields, go_sem, LV, q1, a2]
          exact ⟨m, rfl⟩
        · intro ρ w' ⟨m, hw⟩ hx hd ho; subst hw
          have q : ρ (.tmp 11) = _ := ho 11 (out_of (by kernel_rfl))
          simp [execOp, q, Yields, Act.eval, LV]
          exact ⟨m, rfl⟩
        · intro ρ w' ⟨m, hw⟩ hx hd ho; subst hw
          have q : ρ (.tmp 2) = _ := ho 2 (out_of (by kernel_rfl))
          simp [execOp, q, Yields, Act.eval, LV]
          exact ⟨m, rfl⟩
        · intro ρ w' ⟨m, hw⟩ hx hd ho; subst hw
          have q : ρ (.tmp 39) = .float .f32 b := hd ⟨11, .data⟩ (by simp)
          obtain ⟨v, k, hr, hc, _⟩ := run_widen_op (P := Try.prog) (wr.drewN m) _ q Try.underlying32 Try.underlying36
          rw [hr]
          have hv := WB.out v hc
          subst hv
          exact ⟨rfl, _, World.drewN_drewN _ _ _⟩
        · intro ρ w' ⟨m, hw⟩ hx hd ho; subst hw
          have q : ρ (.tmp 38) = .func (.func 83) #[] #[.pointer (some ⟨p, 0, none⟩)] := hd ⟨10, .data⟩ (by simp)
          have q1 : ρ (.tmp 40) = .float .f64 (widS b) := hd ⟨12, .data⟩ (by simp)
          simp [execOp, q, q1, Yields, go_sem]
          refine (Sb.out (wr.drewN m) (by rw [World.cell?_drewN]; exact HE.out)).mono ?_
          rintro en w'' ⟨rfl, k, rfl⟩
          exact ⟨_, rfl, rfl, _, World.drewN_drewN _ _ _⟩
        · intro ρ w' ⟨m, hw⟩ hx hd ho; subst hw
          have q : ρ (.tmp 41) = .int .i64 (x3) := hd ⟨13, .data⟩ (by simp)
          simp [execOp, q, Yields, go_sem, LV, hx (.const (.int .i64 262144)) (by simp), a3]
          exact ⟨m, rfl⟩
        · intro ρ w' ⟨m, hw⟩ hx hd ho; subst hw
          have q : ρ (.tmp 37) = .int .i64 (x1 + x2 * 512) := hd ⟨9, .data⟩ (by simp)
          have q1 : ρ (.tmp 42) = .int .i64 (x3 * 262144) := hd ⟨14, .data⟩ (by simp)
          simp [execOp, q, Yields, go_sem, LV, q1, a4]
          exact ⟨m, rfl⟩
        · intro ρ w' ⟨m, hw⟩ hx hd ho; subst hw
          have q : ρ (.tmp 10) = _ := ho 10 (out_of (by kernel_rfl))
          have c0 := HE.out
          simp [execOp, q, Yields, Act.eval, go_sem, c0, LV]
          exact ⟨m, rfl⟩
        · intro ρ w' ⟨m, hw⟩ hx hd ho; subst hw
          have q : ρ (.tmp 44) = .int .i64 ((e : Int)) := hd ⟨16, .data⟩ (by simp)
          simp [execOp, q, Yields, go_sem, LV, hx (.const (.int .i64 134217728)) (by simp), a5]
          exact ⟨m, rfl⟩
        · intro ρ w' ⟨m, hw⟩ hx hd ho; subst hw
          have q : ρ (.tmp 43) = .int .i64 (x1 + x2 * 512 + x3 * 262144) := hd ⟨15, .data⟩ (by simp)
          have q1 : ρ (.tmp 45) = .int .i64 ((e : Int) * 134217728) := hd ⟨17, .data⟩ (by simp)
          simp [execOp, q, Yields, go_sem, LV, q1, a6]
          exact ⟨m, rfl⟩
        · intro ρ w' ⟨m, hw⟩ hx hd ho; subst hw
          have q : ρ (.tmp 46) = .int .i64 (x1 + x2 * 512 + x3 * 262144 + (e : Int) * 134217728) := hd ⟨18, .data⟩ (by simp)
          simp [execOp, q, Yields, go_sem, LV]
          exact ⟨m, rfl⟩
        · intro ρ w' ⟨m, hw⟩ hx hd ho; subst hw
          simp [execOp, Yields, go_sem, LV, hx (.const (.bool true)) (by simp), Act.eval]
          exact ⟨m, rfl⟩
        intro vs hvs w' hw'
        obtain ⟨m, rfl⟩ := hw'
        have h19 : vs 19 = .int .i64 (x1 + x2 * 512 + x3 * 262144 + (e : Int) * 134217728) := hvs 19 (by decide)
        have h20 : vs 20 = .bool true := hvs 20 (by decide)
        clear hvs a1 a2 a3 a4 a5 a6
        simp [putN, Act.put, h19, h20]
        clear h19 h20
        go_wp2
        go_ret2
        exact ⟨_, true, rfl, .inr ⟨HA.out, rfl, e, HG.out, HF.out.symm⟩, below_drewN HBB.out _⟩
end Go.Proofs.Ytpjonajpgidjfaa
