/-
  The contracts of impl's scaled and clipped pictures. No condition.
-/
import Derived.Test.YtpjonajpgidjfaaClp
namespace Go.Proofs.Ytpjonajpgidjfaa
set_option linter.unusedVariables false
open Go.RowKit Ieee

theorem scale1_c (x y p : Nat) (w : World) (hp : w.cell? ⟨p, 0, none⟩ = some (.float .f32 y)) : Calls Try.prog 72 #[.float .f32 x, .pointer (some ⟨p, 0, none⟩)] w fun e w' => RetF .f32 w (fbin .mul .f32 (cl .f32 x) (cl .f32 y)) e w' := by
  go_enter Try.func72, Try.ntmps72
  go_wp2_with (refine wpList_fbin .f32 _ _ rfl rfl rfl rfl ?_; intro r n hr hw)
  go_ret
  exact retF _ hr hw
theorem clip1_c (x y z p q : Nat) (hx : (Lit.float .f32 (clipB x y z)).wf = true) (w : World) (hp : w.cell? ⟨p, 0, none⟩ = some (.float .f32 y)) (hq : w.cell? ⟨q, 0, none⟩ = some (.float .f32 z)) : Calls Try.prog 74 #[.float .f32 x, .pointer (some ⟨p, 0, none⟩), .pointer (some ⟨q, 0, none⟩)] w fun e w' => RetF .f32 w (cl .f32 (clipB x y z)) e w' := by
  have C := Lib.hid (clip_c x y z)
  generalize clipB x y z = r at C hx ⊢
  go_enter Try.func74, Try.ntmps74
  go_wp2_with fail
  refine (C.out _).mono ?_; rintro e w1 ⟨rfl, rfl⟩
  go_wp2_with fail
  go_ret
  exact retF0 rfl hx
theorem clipB_wf {x y z : Nat} (hx : (Lit.float .f32 x).wf = true) (hy : (Lit.float .f32 y).wf = true) (hz : (Lit.float .f32 z).wf = true) : (Lit.float .f32 (clipB x y z)).wf = true := by
  unfold clipB
  cases (FloatKind.f32.format.order x y == some .lt) <;> cases (FloatKind.f32.format.order x z == some .gt) <;> assumption

theorem callScale1 (args : Array Value) (w : World) : (callFunc 72 args).run Try.prog w = .ok (.enter 72 args) w := by
  simp [go_sem]

set_option maxRecDepth 10000 in
set_option maxHeartbeats 2000000 in
theorem implScale_c (wi hi : Int) (b n cp : Nat) (f : Nat → Nat) (y : Nat) (hn : n ≤ 1048576) (h0 : 0 < n) (hn2 : n ≤ 256) (w : World) (hrow : RowAt w b n f) (hz : ∀ i, i < n → (Lit.float .f32 (f i)).wf = true) (hP : picB wi hi n f = true) (hy : fin .f32 (cl .f32 y) = true) (P : Bool) (hPC : picC wi hi n (scaleC f y) = P) :
    Calls Try.prog 33 #[.agg #[.int .i64 wi, .int .i64 hi, .slice (some ⟨b, 0, none⟩) n cp], .float .f32 y] w (OutR w P wi hi n (scaleC f y)) := by
  have I := Lib.hid (fun w => implValid_c wi hi b n cp f w hn)
  unfold picV at I
  rw [hP] at I
  have GV := Lib.hid (fun base A c w ho => orFail_c wi hi base n A c (scaleC f y) w ho h0 hn)
  rw [hPC] at GV
  have HW0 := Lib.hid hrow
  have HZ := Lib.hid hz
  have HY := Lib.hid hy
  have BA : Hid (Below w.heap.size w (((w.alloc (.cells #[.int .i64 wi, .int .i64 hi, .slice (some ⟨b, 0, none⟩) n cp] 27)).alloc (.cells #[.float .f32 y] 32)).alloc (.cells #[.int .i64 0, .int .i64 0, .slice none 0 0] 27))) := ((((Below.refl w.heap.size w).alloc (by first | exact Nat.le_refl _ | (simp; done) | (simp; omega)) (.cells #[.int .i64 wi, .int .i64 hi, .slice (some ⟨b, 0, none⟩) n cp] 27)).alloc (by first | exact Nat.le_refl _ | (simp; done) | (simp; omega)) (.cells #[.float .f32 y] 32)).alloc (by first | exact Nat.le_refl _ | (simp; done) | (simp; omega)) (.cells #[.int .i64 0, .int .i64 0, .slice none 0 0] 27))
  clear hP hrow hz hy hPC
  cases P with
  | false =>
    go_enter Try.func33, Try.ntmps33
    go_wp2_with fail
    refine (I.out _ (rowAt_mono HW0.out BA.out)).mono ?_; rintro e w1 ⟨rfl, b1⟩
    have zA : w.heap.size + 1 + 1 < w1.heap.size := by have := b1.size; simp at this; omega
    have x0 := (Has.low (w := (((w.alloc (.cells #[.int .i64 wi, .int .i64 hi, .slice (some ⟨b, 0, none⟩) n cp] 27)).alloc (.cells #[.float .f32 y] 32)).alloc (.cells #[.int .i64 0, .int .i64 0, .slice none 0 0] 27))) (g := w.heap.size) (t := 27) (cs := #[.int .i64 wi, .int .i64 hi, .slice (some ⟨b, 0, none⟩) n cp]) (((Has.ofAlloc w 27 #[.int .i64 wi, .int .i64 hi, .slice (some ⟨b, 0, none⟩) n cp]).past (.cells #[.float .f32 y] 32)).past (.cells #[.int .i64 0, .int .i64 0, .slice none 0 0] 27)) b1 (by first | (simp; done) | (simp; omega)))
    have x1 := (bcell b1 (w.heap.size + 1) 0 (by first | (simp; done) | (simp; omega))).trans (show _ = some (Value.float .f32 y) by simp [go_sem])
    have xr := (Has.low (w := (((w.alloc (.cells #[.int .i64 wi, .int .i64 hi, .slice (some ⟨b, 0, none⟩) n cp] 27)).alloc (.cells #[.float .f32 y] 32)).alloc (.cells #[.int .i64 0, .int .i64 0, .slice none 0 0] 27))) (g := w.heap.size + 1 + 1) (t := 27) (cs := #[.int .i64 0, .int .i64 0, .slice none 0 0]) (by have h := Has.ofAlloc ((w.alloc (.cells #[.int .i64 wi, .int .i64 hi, .slice (some ⟨b, 0, none⟩) n cp] 27)).alloc (.cells #[.float .f32 y] 32)) 27 #[.int .i64 0, .int .i64 0, .slice none 0 0]; simpa using h) b1 (by first | (simp; done) | (simp; omega)))
    have HX0 := Lib.hid x0
    have HXR := Lib.hid xr
    have B1 := Lib.hid (below_trans BA.out b1)
    have px0 := x0.at 0
    have px1 := x0.at 1
    have px2 := x0.at 2
    simp at px0 px1 px2
    clear x0 xr b1
    go_wp2_with fail
    refine (implIsFinite_c _ _).mono ?_; rintro e w2 ⟨rfl, n2, rfl⟩
    rw [HY.out]
    go_wp2_with fail
    refine (mapped_c wi hi b n cp f hn 72 #[.pointer (some ⟨w.heap.size + 1, 0, none⟩)] (scaleC f y) _ (rowAt_mono HW0.out (below_drewN B1.out n2)) callScale1 ?_).mono ?_
    · intro i w' hi' hb'
      exact scale1_c (f i) y (w.heap.size + 1) w' (by rw [bcell hb' _ _ (by first | omega | (simp; omega))]; simpa using x1)
    rintro e w3 ⟨A, c, rfl, ow, b3⟩
    have OW := Lib.hid (ow.base (b' := w.heap.size) (Below.size (below_drewN B1.out n2)))
    have HR3 := Lib.hid (Has.low (w := w1.drewN n2) HXR.out b3 (by have := HXR.out.inside; first | omega | (simp; omega)))
    have BB := Lib.hid (below_trans (below_drewN B1.out n2) b3)
    clear ow b3
    go_wp2_with fail
    refine (GV.out _ _ _ _ OW.out).mono ?_; rintro e w4 ⟨rfl, b4⟩
    simp only [cond_false, noPic]
    have hr := HR3.out.low b4 HR3.out.inside
    have O2 := Lib.hid (OW.out.low b4)
    have B2 := Lib.hid (below_trans BB.out b4)
    clear b4
    have H2 := Lib.hid hr
    have r0 := hr.at 0
    have r1 := hr.at 1
    have r2 := hr.at 2
    have f0 := hr.free 0
    have f1 := hr.free 1
    have f2 := hr.free 2
    simp at r0 r1 r2
    clear hr
    go_wp2_with fail
    have q := has3 H2.out rfl (.int .i64 0) (.int .i64 0) (.slice none 0 0)
    have q0 := q.at 0
    have q1 := q.at 1
    have q2 := q.at 2
    simp at q0 q1 q2
    refine bodyPost_ret (v := .tuple #[noPic, .bool false]) (by simp [results, Try.results33, go_sem, noPic, q0, q1, q2]) rfl ?_
    exact ⟨none, 0, rfl, (fun h => by cases h), below3 (by omega) B2.out _ _ _⟩
  | true =>
    go_enter Try.func33, Try.ntmps33
    go_wp2_with fail
    refine (I.out _ (rowAt_mono HW0.out BA.out)).mono ?_; rintro e w1 ⟨rfl, b1⟩
    have zA : w.heap.size + 1 + 1 < w1.heap.size := by have := b1.size; simp at this; omega
    have x0 := (Has.low (w := (((w.alloc (.cells #[.int .i64 wi, .int .i64 hi, .slice (some ⟨b, 0, none⟩) n cp] 27)).alloc (.cells #[.float .f32 y] 32)).alloc (.cells #[.int .i64 0, .int .i64 0, .slice none 0 0] 27))) (g := w.heap.size) (t := 27) (cs := #[.int .i64 wi, .int .i64 hi, .slice (some ⟨b, 0, none⟩) n cp]) (((Has.ofAlloc w 27 #[.int .i64 wi, .int .i64 hi, .slice (some ⟨b, 0, none⟩) n cp]).past (.cells #[.float .f32 y] 32)).past (.cells #[.int .i64 0, .int .i64 0, .slice none 0 0] 27)) b1 (by first | (simp; done) | (simp; omega)))
    have x1 := (bcell b1 (w.heap.size + 1) 0 (by first | (simp; done) | (simp; omega))).trans (show _ = some (Value.float .f32 y) by simp [go_sem])
    have xr := (Has.low (w := (((w.alloc (.cells #[.int .i64 wi, .int .i64 hi, .slice (some ⟨b, 0, none⟩) n cp] 27)).alloc (.cells #[.float .f32 y] 32)).alloc (.cells #[.int .i64 0, .int .i64 0, .slice none 0 0] 27))) (g := w.heap.size + 1 + 1) (t := 27) (cs := #[.int .i64 0, .int .i64 0, .slice none 0 0]) (by have h := Has.ofAlloc ((w.alloc (.cells #[.int .i64 wi, .int .i64 hi, .slice (some ⟨b, 0, none⟩) n cp] 27)).alloc (.cells #[.float .f32 y] 32)) 27 #[.int .i64 0, .int .i64 0, .slice none 0 0]; simpa using h) b1 (by first | (simp; done) | (simp; omega)))
    have HX0 := Lib.hid x0
    have HXR := Lib.hid xr
    have B1 := Lib.hid (below_trans BA.out b1)
    have px0 := x0.at 0
    have px1 := x0.at 1
    have px2 := x0.at 2
    simp at px0 px1 px2
    clear x0 xr b1
    go_wp2_with fail
    refine (implIsFinite_c _ _).mono ?_; rintro e w2 ⟨rfl, n2, rfl⟩
    rw [HY.out]
    go_wp2_with fail
    refine (mapped_c wi hi b n cp f hn 72 #[.pointer (some ⟨w.heap.size + 1, 0, none⟩)] (scaleC f y) _ (rowAt_mono HW0.out (below_drewN B1.out n2)) callScale1 ?_).mono ?_
    · intro i w' hi' hb'
      exact scale1_c (f i) y (w.heap.size + 1) w' (by rw [bcell hb' _ _ (by first | omega | (simp; omega))]; simpa using x1)
    rintro e w3 ⟨A, c, rfl, ow, b3⟩
    have OW := Lib.hid (ow.base (b' := w.heap.size) (Below.size (below_drewN B1.out n2)))
    have HR3 := Lib.hid (Has.low (w := w1.drewN n2) HXR.out b3 (by have := HXR.out.inside; first | omega | (simp; omega)))
    have BB := Lib.hid (below_trans (below_drewN B1.out n2) b3)
    clear ow b3
    go_wp2_with fail
    refine (GV.out _ _ _ _ OW.out).mono ?_; rintro e w4 ⟨rfl, b4⟩
    simp only [cond_true, noPic]
    have hr := HR3.out.low b4 HR3.out.inside
    have O2 := Lib.hid (OW.out.low b4)
    have B2 := Lib.hid (below_trans BB.out b4)
    clear b4
    have H2 := Lib.hid hr
    have r0 := hr.at 0
    have r1 := hr.at 1
    have r2 := hr.at 2
    have f0 := hr.free 0
    have f1 := hr.free 1
    have f2 := hr.free 2
    simp at r0 r1 r2
    clear hr
    go_wp2_with fail
    have q := has3 H2.out rfl (.int .i64 wi) (.int .i64 hi) (.slice A n c)
    have q0 := q.at 0
    have q1 := q.at 1
    have q2 := q.at 2
    simp at q0 q1 q2
    refine bodyPost_ret (v := .tuple #[.agg #[.int .i64 wi, .int .i64 hi, .slice A n c], .bool true]) (by simp [results, Try.results33, go_sem, q0, q1, q2]) rfl ?_
    exact ⟨A, c, rfl, (fun _ => own3 O2.out H2.out _ _ _), below3 (by omega) B2.out _ _ _⟩

set_option maxRecDepth 10000 in
set_option maxHeartbeats 1000000 in
theorem implScale_p (wi hi : Int) (b n cp : Nat) (f : Nat → Nat) (y : Nat) (cls : Nat → Option Nat) (hn : n ≤ 1048576) (w : World) (hrow : RowAt w b n f) (hP : picB wi hi n f = false) :
    Calls Try.prog 33 #[.agg #[.int .i64 wi, .int .i64 hi, .slice (some ⟨b, 0, none⟩) n cp], .float .f32 y] w (OutR w false wi hi n cls) := by
  have I := Lib.hid (fun w => implValid_c wi hi b n cp f w hn)
  unfold picV at I
  rw [hP] at I
  have HW0 := Lib.hid hrow
  clear hP hrow
  have BA : Hid (Below w.heap.size w (((w.alloc (.cells #[.int .i64 wi, .int .i64 hi, .slice (some ⟨b, 0, none⟩) n cp] 27)).alloc (.cells #[.float .f32 y] 32)).alloc (.cells #[.int .i64 0, .int .i64 0, .slice none 0 0] 27))) := ((((Below.refl w.heap.size w).alloc (by first | exact Nat.le_refl _ | (simp; done) | (simp; omega)) (.cells #[.int .i64 wi, .int .i64 hi, .slice (some ⟨b, 0, none⟩) n cp] 27)).alloc (by first | exact Nat.le_refl _ | (simp; done) | (simp; omega)) (.cells #[.float .f32 y] 32)).alloc (by first | exact Nat.le_refl _ | (simp; done) | (simp; omega)) (.cells #[.int .i64 0, .int .i64 0, .slice none 0 0] 27))
  go_enter Try.func33, Try.ntmps33
  go_wp2_with fail
  refine (I.out _ (rowAt_mono HW0.out BA.out)).mono ?_; rintro e w1 ⟨rfl, b1⟩
  have zA : w.heap.size + 1 + 1 < w1.heap.size := by have := b1.size; simp at this; omega
  have x1 := (bcell b1 (w.heap.size + 1) 0 (by first | (simp; done) | (simp; omega))).trans (show _ = some (Value.float .f32 y) by simp [go_sem])
  have xr := (Has.low (w := (((w.alloc (.cells #[.int .i64 wi, .int .i64 hi, .slice (some ⟨b, 0, none⟩) n cp] 27)).alloc (.cells #[.float .f32 y] 32)).alloc (.cells #[.int .i64 0, .int .i64 0, .slice none 0 0] 27))) (g := w.heap.size + 1 + 1) (t := 27) (cs := #[.int .i64 0, .int .i64 0, .slice none 0 0]) (by have h := Has.ofAlloc ((w.alloc (.cells #[.int .i64 wi, .int .i64 hi, .slice (some ⟨b, 0, none⟩) n cp] 27)).alloc (.cells #[.float .f32 y] 32)) 27 #[.int .i64 0, .int .i64 0, .slice none 0 0]; simpa using h) b1 (by first | (simp; done) | (simp; omega)))
  have HXR := Lib.hid xr
  have B1 := Lib.hid (below_trans BA.out b1)
  have r0 := xr.at 0
  have r1 := xr.at 1
  have r2 := xr.at 2
  have f0 := xr.free 0
  have f1 := xr.free 1
  have f2 := xr.free 2
  simp at r0 r1 r2
  have q := has3 xr rfl (.int .i64 0) (.int .i64 0) (.slice none 0 0)
  have q0 := q.at 0
  have q1 := q.at 1
  have q2 := q.at 2
  simp at q0 q1 q2
  have Q0 := Lib.hid q0
  have Q1 := Lib.hid q1
  have Q2 := Lib.hid q2
  clear xr b1 q q0 q1 q2
  go_wp2_with fail
  refine bodyPost_ret (v := .tuple #[noPic, .bool false]) (by simp [results, Try.results33, go_sem, noPic, Q0.out, Q1.out, Q2.out]) rfl ?_
  exact ⟨none, 0, rfl, (fun h => by cases h), below3 (by omega) B1.out _ _ _⟩

set_option maxRecDepth 10000 in
set_option maxHeartbeats 1000000 in
theorem implScale_y (wi hi : Int) (b n cp : Nat) (f : Nat → Nat) (y : Nat) (cls : Nat → Option Nat) (hn : n ≤ 1048576) (w : World) (hrow : RowAt w b n f) (hP : picB wi hi n f = true) (hy : fin .f32 (cl .f32 y) = false) :
    Calls Try.prog 33 #[.agg #[.int .i64 wi, .int .i64 hi, .slice (some ⟨b, 0, none⟩) n cp], .float .f32 y] w (OutR w false wi hi n cls) := by
  have I := Lib.hid (fun w => implValid_c wi hi b n cp f w hn)
  unfold picV at I
  rw [hP] at I
  have HW0 := Lib.hid hrow
  have HY := Lib.hid hy
  clear hP hrow hy
  have BA : Hid (Below w.heap.size w (((w.alloc (.cells #[.int .i64 wi, .int .i64 hi, .slice (some ⟨b, 0, none⟩) n cp] 27)).alloc (.cells #[.float .f32 y] 32)).alloc (.cells #[.int .i64 0, .int .i64 0, .slice none 0 0] 27))) := ((((Below.refl w.heap.size w).alloc (by first | exact Nat.le_refl _ | (simp; done) | (simp; omega)) (.cells #[.int .i64 wi, .int .i64 hi, .slice (some ⟨b, 0, none⟩) n cp] 27)).alloc (by first | exact Nat.le_refl _ | (simp; done) | (simp; omega)) (.cells #[.float .f32 y] 32)).alloc (by first | exact Nat.le_refl _ | (simp; done) | (simp; omega)) (.cells #[.int .i64 0, .int .i64 0, .slice none 0 0] 27))
  go_enter Try.func33, Try.ntmps33
  go_wp2_with fail
  refine (I.out _ (rowAt_mono HW0.out BA.out)).mono ?_; rintro e w1 ⟨rfl, b1⟩
  have zA : w.heap.size + 1 + 1 < w1.heap.size := by have := b1.size; simp at this; omega
  have x1 := (bcell b1 (w.heap.size + 1) 0 (by first | (simp; done) | (simp; omega))).trans (show _ = some (Value.float .f32 y) by simp [go_sem])
  have xr := (Has.low (w := (((w.alloc (.cells #[.int .i64 wi, .int .i64 hi, .slice (some ⟨b, 0, none⟩) n cp] 27)).alloc (.cells #[.float .f32 y] 32)).alloc (.cells #[.int .i64 0, .int .i64 0, .slice none 0 0] 27))) (g := w.heap.size + 1 + 1) (t := 27) (cs := #[.int .i64 0, .int .i64 0, .slice none 0 0]) (by have h := Has.ofAlloc ((w.alloc (.cells #[.int .i64 wi, .int .i64 hi, .slice (some ⟨b, 0, none⟩) n cp] 27)).alloc (.cells #[.float .f32 y] 32)) 27 #[.int .i64 0, .int .i64 0, .slice none 0 0]; simpa using h) b1 (by first | (simp; done) | (simp; omega)))
  have HXR := Lib.hid xr
  have B1 := Lib.hid (below_trans BA.out b1)
  have r0 := xr.at 0
  have r1 := xr.at 1
  have r2 := xr.at 2
  have f0 := xr.free 0
  have f1 := xr.free 1
  have f2 := xr.free 2
  simp at r0 r1 r2
  have q := has3 xr rfl (.int .i64 0) (.int .i64 0) (.slice none 0 0)
  have q0 := q.at 0
  have q1 := q.at 1
  have q2 := q.at 2
  simp at q0 q1 q2
  have Q0 := Lib.hid q0
  have Q1 := Lib.hid q1
  have Q2 := Lib.hid q2
  clear xr b1 q q0 q1 q2
  go_wp2_with fail
  refine (implIsFinite_c _ _).mono ?_; rintro e w2 ⟨rfl, n2, rfl⟩
  rw [HY.out]
  have q := has3 (w := w1.drewN n2) HXR.out rfl (.int .i64 0) (.int .i64 0) (.slice none 0 0)
  have q0 := q.at 0
  have q1 := q.at 1
  have q2 := q.at 2
  simp at q0 q1 q2
  have Q3 := Lib.hid q0
  have Q4 := Lib.hid q1
  have Q5 := Lib.hid q2
  clear q q0 q1 q2
  go_wp2_with fail
  refine bodyPost_ret (v := .tuple #[noPic, .bool false]) (by simp [results, Try.results33, go_sem, noPic, Q3.out, Q4.out, Q5.out]) rfl ?_
  exact ⟨none, 0, rfl, (fun h => by cases h), below3 (by omega) (below_drewN B1.out n2) _ _ _⟩
end Go.Proofs.Ytpjonajpgidjfaa
