/-
  The walk of the law of shared exponents, read. No condition.
-/
import Derived.Test.YtpjonajpgidjfaaShr
namespace Go.Proofs.Ytpjonajpgidjfaa
set_option linter.unusedVariables false
open Go.RowKit Ieee

/-- What three codes of lights become. -/
def ShareT (c : Nat) (r g b : Nat) : Prop := cl .f32 r = fconv .f64 .f32 (cl .f64 (sc (c % 512) ((c : Int) / 134217728 - 24))) ∧ cl .f32 g = fconv .f64 .f32 (cl .f64 (sc (c / 512 % 512) ((c : Int) / 134217728 - 24))) ∧
  cl .f32 b = fconv .f64 .f32 (cl .f64 (sc (c / 262144 % 512) ((c : Int) / 134217728 - 24)))
def ShareR (w : World) (c : Nat) (e : Ending) (w' : World) : Prop := ∃ r g b, e = .returned (.tuple #[.float .f32 r, .float .f32 g, .float .f32 b, .bool true]) ∧ ShareT c r g b ∧ Below w.heap.size w w'

theorem part_facts (c n : Nat) (m : Int) (hm : m = (n : Int)) (h : c ≤ 4294967295) : (∀ w, Calls Try.prog 85 #[.float .f64 (floatOfInt .f64 (m % 512)), .int .i64 ((c : Int) / 134217728 - 24)] w fun e w' => ∃ k, e = .returned (.float .f64 (sc (n % 512) ((c : Int) / 134217728 - 24))) ∧ w' = w.drewN k) ∧
    Narrows .f64 .f32 (sc (n % 512) ((c : Int) / 134217728 - 24)) := by
  subst hm
  have hn : n % 512 < 2048 := by omega
  have e1 : ((n : Int) % 512) = ((n % 512 : Nat) : Int) := rfl
  rw [e1]
  exact ⟨fun w => Ldexp_c _ _ _ (sc_ok hn (by omega) (by omega)).1 w, sc_narrows hn (by omega) (by omega)⟩

set_option maxRecDepth 10000 in
theorem specShare_c (c : Nat) (h : c ≤ 4294967295) (w : World) : Calls Try.prog 40 #[.int .i64 c] w (ShareR w c) := by
  have hin : decide ((c : Int) ≤ 4294967295) = true := decide_eq_true (by omega)
  obtain ⟨a1, n1⟩ := part_facts c c _ rfl h
  obtain ⟨a2, n2⟩ := part_facts c (c / 512) ((c : Int) / 512) rfl h
  obtain ⟨a3, n3⟩ := part_facts c (c / 262144) ((c : Int) / 262144) rfl h
  have A1 := Lib.hid a1
  have A2 := Lib.hid a2
  have A3 := Lib.hid a3
  have N1 := Lib.hid n1
  have N2 := Lib.hid n2
  have N3 := Lib.hid n3
  clear a1 a2 a3 n1 n2 n3
  go_enter Try.func40, Try.ntmps40
  go_wp2_with (first | (go_at_call 76; go_in))
  refine (A1.out _).mono ?_; rintro e w' ⟨k, rfl, rfl⟩
  go_wp2_with (refine wpList_narrow _ rfl Try.underlying36 Try.underlying32 rfl N1.out ?_; intro r m1 hr hwr)
  refine (A2.out _).mono ?_; rintro e w' ⟨k2, rfl, rfl⟩
  go_wp2_with (refine wpList_narrow _ rfl Try.underlying36 Try.underlying32 rfl N2.out ?_; intro g m2 hg hwg)
  refine (A3.out _).mono ?_; rintro e w' ⟨k3, rfl, rfl⟩
  go_wp2_with (refine wpList_narrow _ rfl Try.underlying36 Try.underlying32 rfl N3.out ?_; intro b m3 hb hwb)
  have HT : Hid (ShareT c r g b) := ⟨hr, hg, hb⟩
  clear hr hg hb
  (try simp only [Exit.inBlock, Exit.then])
  refine bodyPost_ret (results_tmp4 rfl _ _ _) rfl ?_
  exact ⟨_, _, _, rfl, HT.out, below_drewN (Below.refl _ _) _⟩

set_option maxRecDepth 10000 in
theorem part_c (c n : Nat) (h : c ≤ 4294967295) (hn : n ≤ 4294967295) (a : Addr) (w : World) (hc : w.cell? a = some (.int .i64 ((c : Int) / 134217728))) :
    Calls Try.prog 86 #[.int .i64 n, .pointer (some a)] w fun e w' => RetF .f32 w (fconv .f64 .f32 (cl .f64 (sc (n % 512) ((c : Int) / 134217728 - 24)))) e w' := by
  obtain ⟨a1, n1⟩ := part_facts c n _ rfl h
  have A1 := Lib.hid a1
  have N1 := Lib.hid n1
  clear a1 n1
  go_enter Try.func86, Try.ntmps86
  go_wp2_with fail
  refine (A1.out _).mono ?_; rintro e w' ⟨k, rfl, rfl⟩
  go_wp2_with (refine wpList_narrow _ rfl Try.underlying36 Try.underlying32 rfl N1.out ?_; intro r m1 hr hwr)
  go_ret
  exact retF _ hr hwr

set_option maxRecDepth 10000 in
theorem implShare_c (c : Nat) (h : c ≤ 4294967295) (w : World) : Calls Try.prog 41 #[.int .i64 c] w (ShareR w c) := by
  have hin : decide ((c : Int) ≤ 4294967295) = true := decide_eq_true (by omega)
  have C1 := Lib.hid (part_c c c h h)
  have C2 := Lib.hid (part_c c (c / 512) h (by omega))
  have C3 := Lib.hid (part_c c (c / 262144) h (by omega))
  go_enter Try.func41, Try.ntmps41
  go_wp2_with (first | (go_at_call 45; go_in))
  refine (C1.out _ _ (by simp [go_sem])).mono ?_; rintro e w' ⟨r, k, rfl, hr, hwr, rfl⟩
  go_wp2_with fail
  refine (C2.out _ _ (by simp [go_sem])).mono ?_; rintro e w' ⟨g, k2, rfl, hg, hwg, rfl⟩
  go_wp2_with fail
  refine (C3.out _ _ (by simp [go_sem])).mono ?_; rintro e w' ⟨b, k3, rfl, hb, hwb, rfl⟩
  have HT : Hid (ShareT c r g b) := ⟨hr, hg, hb⟩
  clear hr hg hb
  go_wp2_with fail
  (try simp only [Exit.inBlock, Exit.then])
  refine bodyPost_ret (results_tmp4 rfl _ _ _) rfl ?_
  exact ⟨_, _, _, rfl, HT.out, by first | exact below_drewN (below_drewN (below_drewN ((Below.refl _ _).alloc (Nat.le_refl _) _) _) _) _ | exact below_drewN ((Below.refl _ _).alloc (Nat.le_refl _) _) _⟩

theorem shareT_one {c r g b r' g' b' : Nat} (h : ShareT c r g b) (h' : ShareT c r' g' b') : cl .f32 r = cl .f32 r' ∧ cl .f32 g = cl .f32 g' ∧ cl .f32 b = cl .f32 b' :=
  ⟨h.1.trans h'.1.symm, h.2.1.trans h'.2.1.symm, h.2.2.trans h'.2.2.symm⟩

/-- Two results told, with the flag. -/
def NoShare (w : World) (e : Ending) (w' : World) : Prop := e = .returned (.tuple #[.float .f32 0, .float .f32 0, .float .f32 0, .bool false]) ∧ Below w.heap.size w w'

theorem noSpec_c (n : Int) (h : n < 0 ∨ 4294967295 < n) (w : World) : Calls Try.prog 40 #[.int .i64 n] w (NoShare w) := by
  by_cases h0 : 0 ≤ n
  · have h1 : ¬ n ≤ 4294967295 := by omega
    clear h
    go_enter Try.func40, Try.ntmps40
    go_wp2_with (first | (go_at_call 76; go_in))
    (try simp only [Exit.inBlock, Exit.then])
    refine bodyPost_ret (results_tmp4 rfl _ _ _) rfl ?_
    exact ⟨rfl, Below.refl _ _⟩
  · clear h
    go_enter Try.func40, Try.ntmps40
    go_wp2_with (first | (go_at_call 76; go_in))
    (try simp only [Exit.inBlock, Exit.then])
    refine bodyPost_ret (results_tmp4 rfl _ _ _) rfl ?_
    exact ⟨rfl, Below.refl _ _⟩

theorem noImpl_c (n : Int) (h : n < 0 ∨ 4294967295 < n) (w : World) : Calls Try.prog 41 #[.int .i64 n] w (NoShare w) := by
  by_cases h0 : 0 ≤ n
  · have h1 : ¬ n ≤ 4294967295 := by omega
    clear h
    go_enter Try.func41, Try.ntmps41
    go_wp2_with (first | (go_at_call 45; go_in))
    (try simp only [Exit.inBlock, Exit.then])
    refine bodyPost_ret (results_tmp4 rfl _ _ _) rfl ?_
    exact ⟨rfl, Below.refl _ _⟩
  · clear h
    go_enter Try.func41, Try.ntmps41
    go_wp2_with (first | (go_at_call 45; go_in))
    (try simp only [Exit.inBlock, Exit.then])
    refine bodyPost_ret (results_tmp4 rfl _ _ _) rfl ?_
    exact ⟨rfl, Below.refl _ _⟩

/-- What both give, whatever the code. -/
theorem both_share (n : Int) (w : World) : ∃ T : Nat → Nat → Nat → Prop, ∃ ok : Bool, (∀ r g b r' g' b', T r g b → T r' g' b' → cl .f32 r = cl .f32 r' ∧ cl .f32 g = cl .f32 g' ∧ cl .f32 b = cl .f32 b') ∧
    (∀ w, Calls Try.prog 40 #[.int .i64 n] w fun e w' => ∃ r g b, e = .returned (.tuple #[.float .f32 r, .float .f32 g, .float .f32 b, .bool ok]) ∧ T r g b ∧ Below w.heap.size w w') ∧
    (∀ w, Calls Try.prog 41 #[.int .i64 n] w fun e w' => ∃ r g b, e = .returned (.tuple #[.float .f32 r, .float .f32 g, .float .f32 b, .bool ok]) ∧ T r g b ∧ Below w.heap.size w w') := by
  by_cases h : n < 0 ∨ 4294967295 < n
  · refine ⟨fun r g b => r = 0 ∧ g = 0 ∧ b = 0, false, ?_, fun w => (noSpec_c n h w).mono ?_, fun w => (noImpl_c n h w).mono ?_⟩
    · rintro r g b r' g' b' ⟨rfl, rfl, rfl⟩ ⟨rfl, rfl, rfl⟩; exact ⟨rfl, rfl, rfl⟩
    · rintro e w' ⟨rfl, hb⟩; exact ⟨0, 0, 0, rfl, ⟨rfl, rfl, rfl⟩, hb⟩
    · rintro e w' ⟨rfl, hb⟩; exact ⟨0, 0, 0, rfl, ⟨rfl, rfl, rfl⟩, hb⟩
  · obtain ⟨c, rfl⟩ : ∃ c : Nat, n = c := ⟨n.toNat, by omega⟩
    exact ⟨ShareT c, true, fun _ _ _ _ _ _ => shareT_one, specShare_c c (by omega), implShare_c c (by omega)⟩

set_option maxRecDepth 10000 in
theorem law_FromShare (n : Int) (w : World) (hw : (Lit.int .i64 n).wf = true) : Calls Try.prog 13 #[.int .i64 n] w fun e w' => e = .returned (.bool true) ∧ Below w.heap.size w w' := by
  obtain ⟨T, ok, hT, hs, hi⟩ := both_share n w
  have HT := Lib.hid hT
  have HS := Lib.hid hs
  have HI := Lib.hid hi
  clear hT hs hi
  go_enter Try.func13, Try.ntmps13
  go_wp2_with fail
  refine (HS.out _).mono ?_; rintro e w1 ⟨r, g, b, rfl, ht, b1⟩
  go_wp2_with fail
  refine (HI.out _).mono ?_; rintro e w2 ⟨r', g', b', rfl, ht', b2⟩
  obtain ⟨q1, q2, q3⟩ := HT.out _ _ _ _ _ _ ht' ht
  have Q1 := Lib.hid q1
  have Q2 := Lib.hid q2
  have Q3 := Lib.hid q3
  clear q1 q2 q3 ht ht' HT
  go_wp2_with (refine wpList_widen _ rfl Try.underlying32 Try.underlying36 rfl ?_; intro v n hv hwv)
  refine (sameFloat_c _ _ _ (by rw [‹cl .f64 _ = fconv .f32 .f64 (cl .f32 r')›, ‹cl .f64 _ = fconv .f32 .f64 (cl .f32 r)›, Q1.out])).mono ?_; rintro e w3 ⟨rfl, m, rfl⟩
  go_wp2_with (refine wpList_widen _ rfl Try.underlying32 Try.underlying36 rfl ?_; intro v n hv hwv)
  refine (sameFloat_c _ _ _ (by rw [‹cl .f64 _ = fconv .f32 .f64 (cl .f32 g')›, ‹cl .f64 _ = fconv .f32 .f64 (cl .f32 g)›, Q2.out])).mono ?_; rintro e w3 ⟨rfl, m, rfl⟩
  go_wp2_with (refine wpList_widen _ rfl Try.underlying32 Try.underlying36 rfl ?_; intro v n hv hwv)
  refine (sameFloat_c _ _ _ (by rw [‹cl .f64 _ = fconv .f32 .f64 (cl .f32 b')›, ‹cl .f64 _ = fconv .f32 .f64 (cl .f32 b)›, Q3.out])).mono ?_; rintro e w3 ⟨rfl, m, rfl⟩
  go_wp2_with fail
  go_ret
  exact ⟨rfl, below_drewN (b1.trans (b2.mono b1.size)) _⟩
end Go.Proofs.Ytpjonajpgidjfaa
