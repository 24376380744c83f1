/-
  The contracts of impl's clipped picture. No condition.
-/
import Derived.Test.YtpjonajpgidjfaaSci
import Derived.Test.YtpjonajpgidjfaaRmp
namespace Go.Proofs.Ytpjonajpgidjfaa
set_option linter.unusedVariables false
open Go.RowKit Ieee

theorem callClip1 (args : Array Value) (w : World) : (callFunc 74 args).run Try.prog w = .ok (.enter 74 args) w := by
  simp [go_sem]

set_option maxRecDepth 10000 in
set_option maxHeartbeats 2000000 in
theorem implClip_c (wi hi : Int) (b n cp : Nat) (f : Nat → Nat) (y z : Nat) (hn : n ≤ 1048576) (h0 : 0 < n) (hn2 : n ≤ 256) (w : World) (hrow : RowAt w b n f) (hz : ∀ i, i < n → (Lit.float .f32 (f i)).wf = true) (hP : picB wi hi n f = true) (hy : fin .f32 (cl .f32 y) = true) (hv : fin .f32 (cl .f32 z) = true) (hg : (FloatKind.f32.format.order y z == some .gt) = false) (wy : (Lit.float .f32 y).wf = true) (wz : (Lit.float .f32 z).wf = true)  :
    Calls Try.prog 35 #[.agg #[.int .i64 wi, .int .i64 hi, .slice (some ⟨b, 0, none⟩) n cp], .float .f32 y, .float .f32 z] w (OutR w true wi hi n (clipC f y z)) := by
  have I := Lib.hid (fun w => implValid_c wi hi b n cp f w hn)
  unfold picV at I
  rw [hP] at I
  have HW0 := Lib.hid hrow
  have HZ := Lib.hid hz
  have F := Lib.hid (fun b0 w h => areFinite_c b0 2 2 (two y z) w (by decide) h)
  have HF : Hid (allFin (two y z) 2 = true) := by show _ = _; rw [two_fin, hy, hv]; rfl
  have WY := Lib.hid wy
  have WZ := Lib.hid wz
  have BA : Hid (Below w.heap.size w ((((w.alloc (.cells #[.int .i64 wi, .int .i64 hi, .slice (some ⟨b, 0, none⟩) n cp] 27)).alloc (.cells #[.float .f32 y] 32)).alloc (.cells #[.float .f32 z] 32)).alloc (.cells #[.int .i64 0, .int .i64 0, .slice none 0 0] 27))) := (((((Below.refl w.heap.size w).alloc (by first | exact Nat.le_refl _ | (simp; done) | (simp; omega)) (.cells #[.int .i64 wi, .int .i64 hi, .slice (some ⟨b, 0, none⟩) n cp] 27)).alloc (by first | exact Nat.le_refl _ | (simp; done) | (simp; omega)) (.cells #[.float .f32 y] 32)).alloc (by first | exact Nat.le_refl _ | (simp; done) | (simp; omega)) (.cells #[.float .f32 z] 32)).alloc (by first | exact Nat.le_refl _ | (simp; done) | (simp; omega)) (.cells #[.int .i64 0, .int .i64 0, .slice none 0 0] 27))
  clear hP hrow hz hy hv wy wz 
  go_enter Try.func35, Try.ntmps35
  go_wp2_with fail
  refine (I.out _ (rowAt_mono HW0.out BA.out)).mono ?_; rintro e w1 ⟨rfl, b1⟩
  have zA : w.heap.size + 1 + 1 + 1 < w1.heap.size := by have := b1.size; simp at this; omega
  have x0 := (Has.low (w := ((((w.alloc (.cells #[.int .i64 wi, .int .i64 hi, .slice (some ⟨b, 0, none⟩) n cp] 27)).alloc (.cells #[.float .f32 y] 32)).alloc (.cells #[.float .f32 z] 32)).alloc (.cells #[.int .i64 0, .int .i64 0, .slice none 0 0] 27))) (g := w.heap.size) (t := 27) (cs := #[.int .i64 wi, .int .i64 hi, .slice (some ⟨b, 0, none⟩) n cp]) ((((Has.ofAlloc w 27 #[.int .i64 wi, .int .i64 hi, .slice (some ⟨b, 0, none⟩) n cp]).past (.cells #[.float .f32 y] 32)).past (.cells #[.float .f32 z] 32)).past (.cells #[.int .i64 0, .int .i64 0, .slice none 0 0] 27)) b1 (by first | (simp; done) | (simp; omega)))
  have x1 := (bcell b1 (w.heap.size + 1) 0 (by first | (simp; done) | (simp; omega))).trans (show _ = some (Value.float .f32 y) by simp [go_sem])
  have x2 := (bcell b1 (w.heap.size + 1 + 1) 0 (by first | (simp; done) | (simp; omega))).trans (show _ = some (Value.float .f32 z) by simp [go_sem])
  have xr := (Has.low (w := ((((w.alloc (.cells #[.int .i64 wi, .int .i64 hi, .slice (some ⟨b, 0, none⟩) n cp] 27)).alloc (.cells #[.float .f32 y] 32)).alloc (.cells #[.float .f32 z] 32)).alloc (.cells #[.int .i64 0, .int .i64 0, .slice none 0 0] 27))) (g := w.heap.size + 1 + 1 + 1) (t := 27) (cs := #[.int .i64 0, .int .i64 0, .slice none 0 0]) (by have h := Has.ofAlloc (((w.alloc (.cells #[.int .i64 wi, .int .i64 hi, .slice (some ⟨b, 0, none⟩) n cp] 27)).alloc (.cells #[.float .f32 y] 32)).alloc (.cells #[.float .f32 z] 32)) 27 #[.int .i64 0, .int .i64 0, .slice none 0 0]; simpa using h) b1 (by first | (simp; done) | (simp; omega)))
  have HX0 := Lib.hid x0
  have HXR := Lib.hid xr
  have B1 := Lib.hid (below_trans BA.out b1)
  have px0 := x0.at 0
  have px1 := x0.at 1
  have px2 := x0.at 2
  simp at px0 px1 px2
  clear x0 xr b1
  go_wp2_with fail
  refine (F.out _ _ ?_).mono ?_
  · intro i hi
    match i, hi with
    | 0, _ => simp [go_sem, two]
    | 1, _ => simp [go_sem, two]
  rintro e w2 ⟨rfl, n2, rfl⟩
  rw [HF.out]
  have y1 : ∀ v, (w1.alloc v).cell? ⟨w.heap.size + 1, 0, none⟩ = _ := fun v => (World.cell?_alloc_past _ _ _ (by omega)).trans x1
  have y2 : ∀ v, (w1.alloc v).cell? ⟨w.heap.size + 1 + 1, 0, none⟩ = _ := fun v => (World.cell?_alloc_past _ _ _ (by omega)).trans x2
  have py := HX0.out.past (.cells #[.float .f32 y, .float .f32 z] 32)
  have py0 := py.at 0
  have py1 := py.at 1
  have py2 := py.at 2
  simp at py0 py1 py2
  clear py
  go_wp2_with fail
  refine (mapped_c wi hi b n cp f hn 74 #[.pointer (some ⟨w.heap.size + 1, 0, none⟩), .pointer (some ⟨w.heap.size + 1 + 1, 0, none⟩)] (clipC f y z) _ (rowAt_mono HW0.out (below_drewN (B1.out.alloc B1.out.size _) n2)) callClip1 ?_).mono ?_
  · intro i w' hi' hb'
    exact clip1_c (f i) y z (w.heap.size + 1) (w.heap.size + 1 + 1) (clipB_wf (HZ.out i hi') WY.out WZ.out) w' (by rw [bcell hb' _ _ (by first | omega | (simp; omega))]; exact (World.cell?_alloc_past _ _ _ (by omega)).trans x1) (by rw [bcell hb' _ _ (by first | omega | (simp; omega))]; exact (World.cell?_alloc_past _ _ _ (by omega)).trans x2)
  rintro e w3 ⟨A, c, rfl, ow, b3⟩
  have OW := Lib.hid (ow.base (b' := w.heap.size) (Below.size (below_drewN (B1.out.alloc B1.out.size _) n2)))
  have HR3 := Lib.hid (Has.low (w := (w1.alloc (.cells #[.float .f32 y, .float .f32 z] 32)).drewN n2) (HXR.out.past _) b3 (by have := HXR.out.inside; first | omega | (simp; omega)))
  have BB := Lib.hid (below_trans (below_drewN (B1.out.alloc B1.out.size _) n2) b3)
  clear ow b3
  have hr := HR3.out
  have O2 := OW
  have B2 := BB
  have H2 := Lib.hid hr
  have r0 := hr.at 0
  have r1 := hr.at 1
  have r2 := hr.at 2
  have f0 := hr.free 0
  have f1 := hr.free 1
  have f2 := hr.free 2
  simp at r0 r1 r2
  clear hr
  go_wp2_with fail
  have q := has3 H2.out rfl (.int .i64 wi) (.int .i64 hi) (.slice A n c)
  have q0 := q.at 0
  have q1 := q.at 1
  have q2 := q.at 2
  simp at q0 q1 q2
  refine bodyPost_ret (v := .tuple #[.agg #[.int .i64 wi, .int .i64 hi, .slice A n c], .bool true]) (by simp [results, Try.results35, go_sem, q0, q1, q2]) rfl ?_
  exact ⟨A, c, rfl, (fun _ => own3 O2.out H2.out _ _ _), below3 (by omega) B2.out _ _ _⟩

set_option maxRecDepth 10000 in
set_option maxHeartbeats 1000000 in
theorem implClip_p (wi hi : Int) (b n cp : Nat) (f : Nat → Nat) (y z : Nat) (cls : Nat → Option Nat) (hn : n ≤ 1048576) (w : World) (hrow : RowAt w b n f) (hP : picB wi hi n f = false) :
    Calls Try.prog 35 #[.agg #[.int .i64 wi, .int .i64 hi, .slice (some ⟨b, 0, none⟩) n cp], .float .f32 y, .float .f32 z] w (OutR w false wi hi n cls) := by
  have I := Lib.hid (fun w => implValid_c wi hi b n cp f w hn)
  unfold picV at I
  rw [hP] at I
  have HW0 := Lib.hid hrow
  clear hP hrow
  have BA : Hid (Below w.heap.size w ((((w.alloc (.cells #[.int .i64 wi, .int .i64 hi, .slice (some ⟨b, 0, none⟩) n cp] 27)).alloc (.cells #[.float .f32 y] 32)).alloc (.cells #[.float .f32 z] 32)).alloc (.cells #[.int .i64 0, .int .i64 0, .slice none 0 0] 27))) := (((((Below.refl w.heap.size w).alloc (by first | exact Nat.le_refl _ | (simp; done) | (simp; omega)) (.cells #[.int .i64 wi, .int .i64 hi, .slice (some ⟨b, 0, none⟩) n cp] 27)).alloc (by first | exact Nat.le_refl _ | (simp; done) | (simp; omega)) (.cells #[.float .f32 y] 32)).alloc (by first | exact Nat.le_refl _ | (simp; done) | (simp; omega)) (.cells #[.float .f32 z] 32)).alloc (by first | exact Nat.le_refl _ | (simp; done) | (simp; omega)) (.cells #[.int .i64 0, .int .i64 0, .slice none 0 0] 27))
  go_enter Try.func35, Try.ntmps35
  go_wp2_with fail
  refine (I.out _ (rowAt_mono HW0.out BA.out)).mono ?_; rintro e w1 ⟨rfl, b1⟩
  have zA : w.heap.size + 1 + 1 + 1 < w1.heap.size := by have := b1.size; simp at this; omega
  have x1 := (bcell b1 (w.heap.size + 1) 0 (by first | (simp; done) | (simp; omega))).trans (show _ = some (Value.float .f32 y) by simp [go_sem])
  have x2 := (bcell b1 (w.heap.size + 1 + 1) 0 (by first | (simp; done) | (simp; omega))).trans (show _ = some (Value.float .f32 z) by simp [go_sem])
  have xr := (Has.low (w := ((((w.alloc (.cells #[.int .i64 wi, .int .i64 hi, .slice (some ⟨b, 0, none⟩) n cp] 27)).alloc (.cells #[.float .f32 y] 32)).alloc (.cells #[.float .f32 z] 32)).alloc (.cells #[.int .i64 0, .int .i64 0, .slice none 0 0] 27))) (g := w.heap.size + 1 + 1 + 1) (t := 27) (cs := #[.int .i64 0, .int .i64 0, .slice none 0 0]) (by have h := Has.ofAlloc (((w.alloc (.cells #[.int .i64 wi, .int .i64 hi, .slice (some ⟨b, 0, none⟩) n cp] 27)).alloc (.cells #[.float .f32 y] 32)).alloc (.cells #[.float .f32 z] 32)) 27 #[.int .i64 0, .int .i64 0, .slice none 0 0]; simpa using h) b1 (by first | (simp; done) | (simp; omega)))
  have HXR := Lib.hid xr
  have B1 := Lib.hid (below_trans BA.out b1)
  have r0 := xr.at 0
  have r1 := xr.at 1
  have r2 := xr.at 2
  have f0 := xr.free 0
  have f1 := xr.free 1
  have f2 := xr.free 2
  simp at r0 r1 r2
  have q := has3 xr rfl (.int .i64 0) (.int .i64 0) (.slice none 0 0)
  have q0 := q.at 0
  have q1 := q.at 1
  have q2 := q.at 2
  simp at q0 q1 q2
  have Q0 := Lib.hid q0
  have Q1 := Lib.hid q1
  have Q2 := Lib.hid q2
  clear xr b1 q q0 q1 q2
  go_wp2_with fail
  refine bodyPost_ret (v := .tuple #[noPic, .bool false]) (by simp [results, Try.results35, go_sem, noPic, Q0.out, Q1.out, Q2.out]) rfl ?_
  exact ⟨none, 0, rfl, (fun h => by cases h), below3 (by omega) B1.out _ _ _⟩

set_option maxRecDepth 10000 in
set_option maxHeartbeats 1000000 in
theorem implClip_f (wi hi : Int) (b n cp : Nat) (f : Nat → Nat) (y z : Nat) (cls : Nat → Option Nat) (hn : n ≤ 1048576) (w : World) (hrow : RowAt w b n f) (hP : picB wi hi n f = true) (hf : (fin .f32 (cl .f32 y) && fin .f32 (cl .f32 z)) = false) :
    Calls Try.prog 35 #[.agg #[.int .i64 wi, .int .i64 hi, .slice (some ⟨b, 0, none⟩) n cp], .float .f32 y, .float .f32 z] w (OutR w false wi hi n cls) := by
  have I := Lib.hid (fun w => implValid_c wi hi b n cp f w hn)
  unfold picV at I
  rw [hP] at I
  have HW0 := Lib.hid hrow
  have F := Lib.hid (fun b0 w h => areFinite_c b0 2 2 (two y z) w (by decide) h)
  have HF : Hid (allFin (two y z) 2 = false) := by show _ = _; rw [two_fin]; exact hf
  clear hP hrow hf
  have BA : Hid (Below w.heap.size w ((((w.alloc (.cells #[.int .i64 wi, .int .i64 hi, .slice (some ⟨b, 0, none⟩) n cp] 27)).alloc (.cells #[.float .f32 y] 32)).alloc (.cells #[.float .f32 z] 32)).alloc (.cells #[.int .i64 0, .int .i64 0, .slice none 0 0] 27))) := (((((Below.refl w.heap.size w).alloc (by first | exact Nat.le_refl _ | (simp; done) | (simp; omega)) (.cells #[.int .i64 wi, .int .i64 hi, .slice (some ⟨b, 0, none⟩) n cp] 27)).alloc (by first | exact Nat.le_refl _ | (simp; done) | (simp; omega)) (.cells #[.float .f32 y] 32)).alloc (by first | exact Nat.le_refl _ | (simp; done) | (simp; omega)) (.cells #[.float .f32 z] 32)).alloc (by first | exact Nat.le_refl _ | (simp; done) | (simp; omega)) (.cells #[.int .i64 0, .int .i64 0, .slice none 0 0] 27))
  go_enter Try.func35, Try.ntmps35
  go_wp2_with fail
  refine (I.out _ (rowAt_mono HW0.out BA.out)).mono ?_; rintro e w1 ⟨rfl, b1⟩
  have zA : w.heap.size + 1 + 1 + 1 < w1.heap.size := by have := b1.size; simp at this; omega
  have x1 := (bcell b1 (w.heap.size + 1) 0 (by first | (simp; done) | (simp; omega))).trans (show _ = some (Value.float .f32 y) by simp [go_sem])
  have x2 := (bcell b1 (w.heap.size + 1 + 1) 0 (by first | (simp; done) | (simp; omega))).trans (show _ = some (Value.float .f32 z) by simp [go_sem])
  have xr := (Has.low (w := ((((w.alloc (.cells #[.int .i64 wi, .int .i64 hi, .slice (some ⟨b, 0, none⟩) n cp] 27)).alloc (.cells #[.float .f32 y] 32)).alloc (.cells #[.float .f32 z] 32)).alloc (.cells #[.int .i64 0, .int .i64 0, .slice none 0 0] 27))) (g := w.heap.size + 1 + 1 + 1) (t := 27) (cs := #[.int .i64 0, .int .i64 0, .slice none 0 0]) (by have h := Has.ofAlloc (((w.alloc (.cells #[.int .i64 wi, .int .i64 hi, .slice (some ⟨b, 0, none⟩) n cp] 27)).alloc (.cells #[.float .f32 y] 32)).alloc (.cells #[.float .f32 z] 32)) 27 #[.int .i64 0, .int .i64 0, .slice none 0 0]; simpa using h) b1 (by first | (simp; done) | (simp; omega)))
  have HXR := Lib.hid xr
  have B1 := Lib.hid (below_trans BA.out b1)
  have r0 := xr.at 0
  have r1 := xr.at 1
  have r2 := xr.at 2
  have f0 := xr.free 0
  have f1 := xr.free 1
  have f2 := xr.free 2
  simp at r0 r1 r2
  have q := has3 xr rfl (.int .i64 0) (.int .i64 0) (.slice none 0 0)
  have q0 := q.at 0
  have q1 := q.at 1
  have q2 := q.at 2
  simp at q0 q1 q2
  have Q0 := Lib.hid q0
  have Q1 := Lib.hid q1
  have Q2 := Lib.hid q2
  clear xr b1 q q0 q1 q2
  go_wp2_with fail
  refine (F.out _ _ ?_).mono ?_
  · intro i hi
    match i, hi with
    | 0, _ => simp [go_sem, two]
    | 1, _ => simp [go_sem, two]
  rintro e w2 ⟨rfl, n2, rfl⟩
  rw [HF.out]
  have y1 : ∀ v, (w1.alloc v).cell? ⟨w.heap.size + 1, 0, none⟩ = _ := fun v => (World.cell?_alloc_past _ _ _ (by omega)).trans x1
  have y2 : ∀ v, (w1.alloc v).cell? ⟨w.heap.size + 1 + 1, 0, none⟩ = _ := fun v => (World.cell?_alloc_past _ _ _ (by omega)).trans x2
  have hr := (HXR.out.past (.cells #[.float .f32 y, .float .f32 z] 32))
  have s0 := hr.at 0
  have s1 := hr.at 1
  have s2 := hr.at 2
  have g0 := hr.free 0
  have g1 := hr.free 1
  have g2 := hr.free 2
  simp at s0 s1 s2
  have q := has3 (w := (w1.alloc (.cells #[.float .f32 y, .float .f32 z] 32)).drewN n2) hr rfl (.int .i64 0) (.int .i64 0) (.slice none 0 0)
  have q0 := q.at 0
  have q1 := q.at 1
  have q2 := q.at 2
  simp at q0 q1 q2
  have Q3 := Lib.hid q0
  have Q4 := Lib.hid q1
  have Q5 := Lib.hid q2
  clear q q0 q1 q2 hr
  go_wp2_with fail
  refine bodyPost_ret (v := .tuple #[noPic, .bool false]) (by simp [results, Try.results35, go_sem, noPic, Q3.out, Q4.out, Q5.out]) rfl ?_
  exact ⟨none, 0, rfl, (fun h => by cases h), below3 (by omega) (below_drewN (B1.out.alloc B1.out.size _) n2) _ _ _⟩

set_option maxRecDepth 10000 in
set_option maxHeartbeats 1000000 in
theorem implClip_g (wi hi : Int) (b n cp : Nat) (f : Nat → Nat) (y z : Nat) (cls : Nat → Option Nat) (hn : n ≤ 1048576) (w : World) (hrow : RowAt w b n f) (hP : picB wi hi n f = true) (hy : fin .f32 (cl .f32 y) = true) (hv : fin .f32 (cl .f32 z) = true) (hg : (FloatKind.f32.format.order y z == some .gt) = true) :
    Calls Try.prog 35 #[.agg #[.int .i64 wi, .int .i64 hi, .slice (some ⟨b, 0, none⟩) n cp], .float .f32 y, .float .f32 z] w (OutR w false wi hi n cls) := by
  have I := Lib.hid (fun w => implValid_c wi hi b n cp f w hn)
  unfold picV at I
  rw [hP] at I
  have HW0 := Lib.hid hrow
  have F := Lib.hid (fun b0 w h => areFinite_c b0 2 2 (two y z) w (by decide) h)
  have HF : Hid (allFin (two y z) 2 = true) := by show _ = _; rw [two_fin, hy, hv]; rfl
  clear hP hrow hy hv
  have BA : Hid (Below w.heap.size w ((((w.alloc (.cells #[.int .i64 wi, .int .i64 hi, .slice (some ⟨b, 0, none⟩) n cp] 27)).alloc (.cells #[.float .f32 y] 32)).alloc (.cells #[.float .f32 z] 32)).alloc (.cells #[.int .i64 0, .int .i64 0, .slice none 0 0] 27))) := (((((Below.refl w.heap.size w).alloc (by first | exact Nat.le_refl _ | (simp; done) | (simp; omega)) (.cells #[.int .i64 wi, .int .i64 hi, .slice (some ⟨b, 0, none⟩) n cp] 27)).alloc (by first | exact Nat.le_refl _ | (simp; done) | (simp; omega)) (.cells #[.float .f32 y] 32)).alloc (by first | exact Nat.le_refl _ | (simp; done) | (simp; omega)) (.cells #[.float .f32 z] 32)).alloc (by first | exact Nat.le_refl _ | (simp; done) | (simp; omega)) (.cells #[.int .i64 0, .int .i64 0, .slice none 0 0] 27))
  go_enter Try.func35, Try.ntmps35
  go_wp2_with fail
  refine (I.out _ (rowAt_mono HW0.out BA.out)).mono ?_; rintro e w1 ⟨rfl, b1⟩
  have zA : w.heap.size + 1 + 1 + 1 < w1.heap.size := by have := b1.size; simp at this; omega
  have x1 := (bcell b1 (w.heap.size + 1) 0 (by first | (simp; done) | (simp; omega))).trans (show _ = some (Value.float .f32 y) by simp [go_sem])
  have x2 := (bcell b1 (w.heap.size + 1 + 1) 0 (by first | (simp; done) | (simp; omega))).trans (show _ = some (Value.float .f32 z) by simp [go_sem])
  have xr := (Has.low (w := ((((w.alloc (.cells #[.int .i64 wi, .int .i64 hi, .slice (some ⟨b, 0, none⟩) n cp] 27)).alloc (.cells #[.float .f32 y] 32)).alloc (.cells #[.float .f32 z] 32)).alloc (.cells #[.int .i64 0, .int .i64 0, .slice none 0 0] 27))) (g := w.heap.size + 1 + 1 + 1) (t := 27) (cs := #[.int .i64 0, .int .i64 0, .slice none 0 0]) (by have h := Has.ofAlloc (((w.alloc (.cells #[.int .i64 wi, .int .i64 hi, .slice (some ⟨b, 0, none⟩) n cp] 27)).alloc (.cells #[.float .f32 y] 32)).alloc (.cells #[.float .f32 z] 32)) 27 #[.int .i64 0, .int .i64 0, .slice none 0 0]; simpa using h) b1 (by first | (simp; done) | (simp; omega)))
  have HXR := Lib.hid xr
  have B1 := Lib.hid (below_trans BA.out b1)
  have r0 := xr.at 0
  have r1 := xr.at 1
  have r2 := xr.at 2
  have f0 := xr.free 0
  have f1 := xr.free 1
  have f2 := xr.free 2
  simp at r0 r1 r2
  have q := has3 xr rfl (.int .i64 0) (.int .i64 0) (.slice none 0 0)
  have q0 := q.at 0
  have q1 := q.at 1
  have q2 := q.at 2
  simp at q0 q1 q2
  have Q0 := Lib.hid q0
  have Q1 := Lib.hid q1
  have Q2 := Lib.hid q2
  clear xr b1 q q0 q1 q2
  go_wp2_with fail
  refine (F.out _ _ ?_).mono ?_
  · intro i hi
    match i, hi with
    | 0, _ => simp [go_sem, two]
    | 1, _ => simp [go_sem, two]
  rintro e w2 ⟨rfl, n2, rfl⟩
  rw [HF.out]
  have y1 : ∀ v, (w1.alloc v).cell? ⟨w.heap.size + 1, 0, none⟩ = _ := fun v => (World.cell?_alloc_past _ _ _ (by omega)).trans x1
  have y2 : ∀ v, (w1.alloc v).cell? ⟨w.heap.size + 1 + 1, 0, none⟩ = _ := fun v => (World.cell?_alloc_past _ _ _ (by omega)).trans x2
  have hr := (HXR.out.past (.cells #[.float .f32 y, .float .f32 z] 32))
  have s0 := hr.at 0
  have s1 := hr.at 1
  have s2 := hr.at 2
  have g0 := hr.free 0
  have g1 := hr.free 1
  have g2 := hr.free 2
  simp at s0 s1 s2
  have q := has3 (w := (w1.alloc (.cells #[.float .f32 y, .float .f32 z] 32)).drewN n2) hr rfl (.int .i64 0) (.int .i64 0) (.slice none 0 0)
  have q0 := q.at 0
  have q1 := q.at 1
  have q2 := q.at 2
  simp at q0 q1 q2
  have Q3 := Lib.hid q0
  have Q4 := Lib.hid q1
  have Q5 := Lib.hid q2
  clear q q0 q1 q2 hr
  go_wp2_with fail
  refine bodyPost_ret (v := .tuple #[noPic, .bool false]) (by simp [results, Try.results35, go_sem, noPic, Q3.out, Q4.out, Q5.out]) rfl ?_
  exact ⟨none, 0, rfl, (fun h => by cases h), below3 (by omega) (below_drewN (B1.out.alloc B1.out.size _) n2) _ _ _⟩
end Go.Proofs.Ytpjonajpgidjfaa
