/-
  The walk of spec's shared exponents. No condition.
-/
import Derived.Test.YtpjonajpgidjfaaSho
namespace Go.Proofs.Ytpjonajpgidjfaa
set_option linter.unusedVariables false
open Go.RowKit Ieee

theorem PN_bd {x e : Nat} (h : okS x = true) (he : e ≤ 33) : -2199023255553 ≤ PN x e ∧ PN x e ≤ 2199023255553 ∧ (e = 33 → PN x e ≤ 257) := by
  obtain ⟨_, _, _, h1, h2, h3⟩ := part_S (widS_ok h).1 he
  exact ⟨h1, h2, h3⟩

def shareN (r g b e : Nat) : Int := PN r e + 512 * PN g e + 262144 * PN b e + 134217728 * (e : Int)
/-- What both say. -/
def ShareP (r g b : Nat) (n : Int) (ok : Bool) : Prop := (allS r g b = false ∧ ok = false ∧ n = 0) ∨ (allS r g b = true ∧ ok = true ∧ ∃ e, StopE (topF (tri r g b) 3) e ∧ n = shareN r g b e)
theorem shareP_one {r g b : Nat} {n m : Int} {p q : Bool} (h : ShareP r g b n p) (h' : ShareP r g b m q) : n = m ∧ p = q := by
  rcases h with ⟨h1, rfl, rfl⟩ | ⟨h1, rfl, e, h2, rfl⟩
  · rcases h' with ⟨_, rfl, rfl⟩ | ⟨h3, _⟩
    · exact ⟨rfl, rfl⟩
    · rw [h1] at h3; cases h3
  · rcases h' with ⟨h3, _⟩ | ⟨_, rfl, e', h3, rfl⟩
    · rw [h1] at h3; cases h3
    · rw [stopE_one h2 h3]; exact ⟨rfl, rfl⟩
def ShareQ (w : World) (r g b : Nat) (en : Ending) (w' : World) : Prop := ∃ n ok, en = .returned (.tuple #[.int .i64 n, .bool ok]) ∧ ShareP r g b n ok ∧ Below w.heap.size w w'

theorem tri_all {r g b k : Nat} (h : allS r g b = true) (hk : k < 3) : okS (tri r g b k) = true := by
  unfold allS at h
  simp only [Bool.and_eq_true] at h
  match k, hk with
  | 0, _ => exact h.1
  | 1, _ => exact h.2.1
  | 2, _ => exact h.2.2
theorem tri_not {r g b k : Nat} (hk : k < 3) (h : okS (tri r g b k) = false) : allS r g b = false := by
  cases ha : allS r g b with
  | false => rfl
  | true => rw [tri_all ha hk] at h; cases h
theorem tri_yes {r g b : Nat} (h : ∀ j, j < 3 → okS (tri r g b j) = true) : allS r g b = true := by
  unfold allS
  have h0 : okS r = true := h 0 (by decide)
  have h1 : okS g = true := h 1 (by decide)
  have h2 : okS b = true := h 2 (by decide)
  rw [h0, h1, h2]; rfl
theorem top_step {x : Nat → Nat} {k : Nat} (hall : ∀ j, j < k → okS (x j) = true) (hx : okS (x k) = true) :
    ((FloatKind.f32.format.order (x k) (topF x k) == some .gt) = true ∧ topF x (k + 1) = x k) ∨ ((FloatKind.f32.format.order (x k) (topF x k) == some .gt) = false ∧ topF x (k + 1) = topF x k) := by
  obtain ⟨t1, t2⟩ := okS_small (topF_le hall)
  rw [ordS hx t1, t2, int_compare]
  have hv := valS_le hx
  show _ ∧ max (topF x k) (valS (x k)) = _ ∨ _ ∧ max (topF x k) (valS (x k)) = _
  by_cases h : topF x k < valS (x k)
  · left
    have hxv : valS (x k) = x k := by
      unfold valS at h ⊢
      split
      · rename_i h2; rw [if_pos h2] at h; omega
      · rfl
    rw [if_neg (by omega), if_neg (by omega)]
    exact ⟨rfl, by omega⟩
  · right
    refine ⟨?_, by omega⟩
    split
    · rfl
    · rw [if_pos (by omega)]; rfl

set_option maxRecDepth 10000 in
set_option maxHeartbeats 1000000 in
theorem specShareOf_c (r g b : Nat) (hr : r < 4294967296) (hg : g < 4294967296) (hb : b < 4294967296) (w : World) : Calls Try.prog 38 #[.float .f32 r, .float .f32 g, .float .f32 b] w (ShareQ w r g b) := by
  have HC : Hid (∀ j, j < 3 → (w.alloc (.cells #[.float .f32 r, .float .f32 g, .float .f32 b] 32)).cell? ⟨w.heap.size, j, none⟩ = some (.float .f32 (tri r g b j))) := by
    intro j hj
    match j, hj with
    | 0, _ => simp [go_sem, tri]
    | 1, _ => simp [go_sem, tri]
    | 2, _ => simp [go_sem, tri]
  have HX : Hid (∀ j, j < 3 → tri r g b j < 4294967296) := by
    intro j hj
    match j, hj with
    | 0, _ => exact hr
    | 1, _ => exact hg
    | 2, _ => exact hb
  have BW := Lib.hid ((Below.refl w.heap.size w).alloc (Nat.le_refl _) (.cells #[.float .f32 r, .float .f32 g, .float .f32 b] 32))
  clear hr hg hb
  go_enter Try.func38, Try.ntmps38
  go_wp2
  go_loop [9, 10] (fun t i => ∃ k : Nat, k ≤ 3 ∧ i = .int .i64 k ∧ t = .float .f32 (topF (tri r g b) k) ∧ Hid (∀ j, j < k → okS (tri r g b j) = true)) (fun _ i => 3 - (intOf i).toNat)
  case atStart => exact ⟨0, by decide, rfl, rfl, Lib.hid (fun j hj => absurd hj (Nat.not_lt_zero j))⟩
  case round =>
    obtain ⟨k, hk, rfl, rfl, hall⟩ := hrel
    by_cases hlt : k < 3
    · have c0 := HC.out k hlt
      rcases testS (HX.out k hlt) with ⟨t1, t2, t3⟩ | ⟨t1, t2, t3⟩ | ⟨t1, t3⟩
      · rcases top_step hall.out t3 with ⟨u1, u2⟩ | ⟨u1, u2⟩
        · have U2 := Lib.hid u2
          have T3 := Lib.hid t3
          clear u2 t3
          obtain ⟨x, hx⟩ : ∃ x, tri r g b k = x := ⟨_, rfl⟩
          obtain ⟨t, ht⟩ : ∃ t, topF (tri r g b) k = t := ⟨_, rfl⟩
          have HXE := Lib.hid hx
          rw [hx] at c0 t1 t2 u1
          rw [ht] at u1 ⊢
          clear hx ht
          go_wp2
          go_round
          case rel => exact ⟨k + 1, by omega, by go_num, by rw [U2.out, HXE.out], Lib.hid (fun j hj => by rcases Nat.lt_or_eq_of_le (Nat.le_of_lt_succ hj) with h | rfl; exact hall.out j h; exact T3.out)⟩
          case measure => simp [intOf]; omega
        · have U2 := Lib.hid u2
          have T3 := Lib.hid t3
          clear u2 t3
          obtain ⟨x, hx⟩ : ∃ x, tri r g b k = x := ⟨_, rfl⟩
          obtain ⟨t, ht⟩ : ∃ t, topF (tri r g b) k = t := ⟨_, rfl⟩
          have HTE := Lib.hid ht
          rw [hx] at c0 t1 t2 u1
          rw [ht] at u1 ⊢
          clear hx ht
          go_wp2
          go_round
          case rel => exact ⟨k + 1, by omega, by go_num, by rw [U2.out, HTE.out], Lib.hid (fun j hj => by rcases Nat.lt_or_eq_of_le (Nat.le_of_lt_succ hj) with h | rfl; exact hall.out j h; exact T3.out)⟩
          case measure => simp [intOf]; omega
      · have HN := Lib.hid (tri_not hlt t3)
        clear t3
        obtain ⟨x, hx⟩ : ∃ x, tri r g b k = x := ⟨_, rfl⟩
        rw [hx] at c0 t1 t2
        clear hx
        go_wp2
        go_ret2
        exact ⟨0, false, rfl, .inl ⟨HN.out, rfl, rfl⟩, BW.out⟩
      · have HN := Lib.hid (tri_not hlt t3)
        clear t3
        obtain ⟨x, hx⟩ : ∃ x, tri r g b k = x := ⟨_, rfl⟩
        rw [hx] at c0 t1
        clear hx
        go_wp2
        go_ret2
        exact ⟨0, false, rfl, .inl ⟨HN.out, rfl, rfl⟩, BW.out⟩
    · have hke : k = 3 := by omega
      subst hke
      have ha := tri_yes hall.out
      have h0 : okS r = true := hall.out 0 (by decide)
      have h1 : okS g = true := hall.out 1 (by decide)
      have h2 : okS b = true := hall.out 2 (by decide)
      obtain ⟨ht, _⟩ := okS_small (topF_le hall.out)
      have HA := Lib.hid ha
      have H0 := Lib.hid h0
      have H1 := Lib.hid h1
      have H2 := Lib.hid h2
      have HT := Lib.hid ht
      obtain ⟨t, htt⟩ : ∃ t, topF (tri r g b) 3 = t := ⟨_, rfl⟩
      have HTE := Lib.hid htt
      rw [htt] at HT ⊢
      clear ha h0 h1 h2 ht htt hall
      go_wp2
      go_loopw [11] (fun i wr => ∃ e d : Nat, e ≤ 33 ∧ i = .int .i64 e ∧ Hid (∀ j, j < e → 511 < PN t j) ∧ wr = (w.alloc (.cells #[.float .f32 r, .float .f32 g, .float .f32 b] 32)).drewN d) (fun i _ => 34 - (intOf i).toNat)
      case atStart => exact ⟨0, 0, by decide, rfl, Lib.hid (fun j hj => absurd hj (Nat.not_lt_zero j)), rfl⟩
      case round =>
        obtain ⟨e, d, he, rfl, hst, rfl⟩ := hrel
        have S := Lib.hid (fun w => sPart_c t e HT.out he w)
        obtain ⟨pb1, pb2, pb3⟩ := PN_bd HT.out he
        have HPE := Lib.hid pb3
        by_cases hgt : 511 < PN t e
        · have HG := Lib.hid hgt
          have he2 : e ≠ 33 := fun h => by have := HPE.out h; omega
          obtain ⟨q, hq⟩ : ∃ q, PN t e = q := ⟨_, rfl⟩
          rw [hq] at S hgt pb1 pb2
          clear hq pb3
          go_wp2_with fail
          refine (S.out _).mono ?_; rintro en w1 ⟨rfl, m, rfl⟩
          go_wp2_with fail
          go_roundw
          case rel => exact ⟨e + 1, _, by omega, by go_num, Lib.hid (fun j hj => by rcases Nat.lt_or_eq_of_le (Nat.le_of_lt_succ hj) with h | rfl; exact hst.out j h; exact HG.out), rfl⟩
          case measure => simp [intOf]; omega
        · have HG : Hid (StopE (topF (tri r g b) 3) e) := by
            show StopE _ _
            rw [HTE.out]; exact ⟨hst.out, by omega⟩
          have Sr := Lib.hid (fun w => sPart_c r e H0.out he w)
          have Sg := Lib.hid (fun w => sPart_c g e H1.out he w)
          have Sb := Lib.hid (fun w => sPart_c b e H2.out he w)
          obtain ⟨r1, r2, _⟩ := PN_bd H0.out he
          obtain ⟨g1, g2, _⟩ := PN_bd H1.out he
          obtain ⟨b1, b2, _⟩ := PN_bd H2.out he
          have HN : Hid (shareN r g b e = PN r e + 512 * PN g e + 262144 * PN b e + 134217728 * (e : Int)) := by show _ = _; rfl
          obtain ⟨q, hq⟩ : ∃ q, PN t e = q := ⟨_, rfl⟩
          rw [hq] at S hgt pb1 pb2
          obtain ⟨x1, hx1⟩ : ∃ q, PN r e = q := ⟨_, rfl⟩
          obtain ⟨x2, hx2⟩ : ∃ q, PN g e = q := ⟨_, rfl⟩
          obtain ⟨x3, hx3⟩ : ∃ q, PN b e = q := ⟨_, rfl⟩
          rw [hx1] at Sr r1 r2 HN
          rw [hx2] at Sg g1 g2 HN
          rw [hx3] at Sb b1 b2 HN
          clear hq hx1 hx2 hx3 pb3
          go_wp2_with fail
          refine (S.out _).mono ?_; rintro en w1 ⟨rfl, m, rfl⟩
          go_wp2_with fail
          refine (Sr.out _).mono ?_; rintro en w1 ⟨rfl, m1, rfl⟩
          go_wp2_with fail
          refine (Sg.out _).mono ?_; rintro en w1 ⟨rfl, m2, rfl⟩
          go_wp2_with fail
          refine (Sb.out _).mono ?_; rintro en w1 ⟨rfl, m3, rfl⟩
          go_wp2_with fail
          go_ret2
          exact ⟨_, true, rfl, .inr ⟨HA.out, rfl, e, HG.out, HN.out.symm⟩, below_drewN BW.out _⟩
end Go.Proofs.Ytpjonajpgidjfaa
