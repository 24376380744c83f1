/-
  The walks of the law of codes by logarithm, joined. No condition.
-/
import Derived.Test.YtemolaojjnpfnaaWkO
import Derived.Test.YtemolaojjnpfnaaWkT
namespace Go.Proofs.Ytemolaojjnpfnaa
set_option linter.unusedVariables false
open Go.RowKit Ieee

theorem specLogL_c (x : Nat) (hx : x < 4294967296) (w : World) : Calls Try.prog 43 #[.float .f32 x] w fun e w' => ∃ c, logT x c ∧ RetF .f32 w c e w' := by
  go_enter Try.func43, Try.ntmps43
  go_wp2_with (refine wpList_widen _ rfl Try.underlying22 Try.underlying25 rfl ?_; intro v n hv hwv)
  refine (specLog_c _ (wf_sound hwv) (norm_of hx hv) _).mono ?_; rintro e w' ⟨r, n2, rfl, hr, hwr, rfl⟩
  go_wp2_with fail
  refine (l01Narrow_c _ (narrow_log (wf_sound hwv) (norm_of hx hv) hr) _).mono ?_; rintro e w' ⟨g, n3, rfl, hg, hwg, rfl⟩
  go_wp2
  go_ret
  exact ⟨_, ⟨v, hv, hwv, rfl⟩, retF _ (by rw [hg, hr]) hwg⟩

theorem lofU_ex (x low stops : Nat) (w : World) : ∃ U, lofU x low stops U := by
  obtain ⟨q, _, _, hq, hwq⟩ := run_fbin_op (P := Try.prog) w (ρ := fun o => match o with | .tmp 0 => .float .f32 x | _ => .float .f32 low) (d := none) (op := .quo) (t := 0) (ty := 0) (rt := 0) (x := .tmp 0) (y := .tmp 1) (pos := "") (aft := #[]) (g := none) .f32 x low rfl rfl rfl
  obtain ⟨v, hv, hwv⟩ := widened q w
  exact ⟨_, q, _, hq, ⟨v, hv, hwv, rfl⟩, rfl⟩

theorem lof_u {x low stops q r t u : Nat} {c U : Option Nat} (hU : lofU x low stops U) (hq : cl .f32 q = fbin .quo .f32 (cl .f32 x) (cl .f32 low)) (hc : logT q c) (hr : cl .f32 r = c)
    (ht : cl .f32 t = fbin .mul .f32 (cl .f32 stops) (cl .f32 1060205080)) (hu : cl .f32 u = fbin .quo .f32 (cl .f32 r) (cl .f32 t)) : cl .f32 u = U := by
  refine lofU_one ?_ hU
  exact ⟨q, c, hq, hc, by rw [hu, hr, ht, show cl .f32 1060205080 = some 1060205080 from by decide +kernel]⟩

theorem below_new (w : World) (o : Obj) : Below w.heap.size w (w.alloc o) := (Below.refl _ _).alloc (Nat.le_refl _) _

theorem arr3 (w : World) (x low stops : Nat) (T : TypeId) : ∀ i, i < 3 → (w.alloc (.cells #[.float .f32 x, .float .f32 low, .float .f32 stops] T)).cell? ⟨w.heap.size, i, none⟩ = some (.float .f32 (if i = 0 then x else if i = 1 then low else stops)) := by
  intro i hi
  rw [World.cell?_alloc_at (hn := rfl)]
  obtain rfl | rfl | rfl : i = 0 ∨ i = 1 ∨ i = 2 := by omega
  all_goals rfl

theorem allFin3 (x low stops : Nat) : allFin (fun i => if i = 0 then x else if i = 1 then low else stops) 3 = (fin .f32 (cl .f32 x) && (fin .f32 (cl .f32 low) && fin .f32 (cl .f32 stops))) := by
  unfold allFin
  apply Bool.eq_iff_iff.2
  rw [decide_eq_true_iff]
  simp only [Bool.and_eq_true]
  constructor
  · intro h
    exact ⟨h 0 (by decide), h 1 (by decide), h 2 (by decide)⟩
  · rintro ⟨h0, h1, h2⟩ i hi
    obtain rfl | rfl | rfl : i = 0 ∨ i = 1 ∨ i = 2 := by omega
    · exact h0
    · exact h1
    · exact h2

set_option maxHeartbeats 4000000 in
theorem specLof_c (x low stops : Nat) (hx : x < 4294967296) (hl : low < 4294967296) (hs : stops < 4294967296) (w : World) : Calls Try.prog 29 #[.float .f32 x, .float .f32 low, .float .f32 stops] w fun e w' => LofRet w x low stops e w' := by
  have L0 := specLeast_c x hx
  have A10 := specAbove_c low hl
  have A20 := specAbove_c stops hs
  cases h1 : least x with
  | false =>
    rw [h1] at L0
    have L := Lib.hid L0
    have HOK : Hid (lofOk x low stops = false) := by show _ = _; unfold lofOk; rw [h1]; rfl
    clear L0 A10 A20 h1 hx hl hs
    go_enter Try.func29, Try.ntmps29
    go_wp2_with fail
    refine (L.out _).mono ?_; rintro e w2 ⟨rfl, n1, rfl⟩
    go_wp2
    go_ret2
    exact lof_bad HOK.out (below_drewN (Below.refl _ _) _)
  | true =>
  rw [h1] at L0
  have L := Lib.hid L0
  cases h2 : above low with
  | false =>
    rw [h2] at A10
    have A1 := Lib.hid A10
    have HOK : Hid (lofOk x low stops = false) := by show _ = _; unfold lofOk; rw [h1, h2]; rfl
    clear L0 A10 A20 h1 h2 hx hl hs
    go_enter Try.func29, Try.ntmps29
    go_wp2_with fail
    refine (L.out _).mono ?_; rintro e w2 ⟨rfl, n1, rfl⟩
    go_wp2_with fail
    refine (A1.out _).mono ?_; rintro e w2 ⟨rfl, n2, rfl⟩
    go_wp2
    go_ret2
    exact lof_bad HOK.out (below_drewN (Below.refl _ _) _)
  | true =>
  rw [h2] at A10
  have A1 := Lib.hid A10
  cases h3 : above stops with
  | false =>
    rw [h3] at A20
    have A2 := Lib.hid A20
    have HOK : Hid (lofOk x low stops = false) := by show _ = _; unfold lofOk; rw [h1, h2, h3]; rfl
    clear L0 A10 A20 h1 h2 h3 hx hl hs
    go_enter Try.func29, Try.ntmps29
    go_wp2_with fail
    refine (L.out _).mono ?_; rintro e w2 ⟨rfl, n1, rfl⟩
    go_wp2_with fail
    refine (A1.out _).mono ?_; rintro e w2 ⟨rfl, n2, rfl⟩
    go_wp2_with fail
    refine (A2.out _).mono ?_; rintro e w2 ⟨rfl, n3, rfl⟩
    go_wp2
    go_ret2
    exact lof_bad HOK.out (below_drewN (Below.refl _ _) _)
  | true =>
  rw [h3] at A20
  have A2 := Lib.hid A20
  have HOK : Hid (lofOk x low stops = true) := by show _ = _; unfold lofOk; rw [h1, h2, h3]; rfl
  obtain ⟨U, hU⟩ := lofU_ex x low stops w
  have HU := Lib.hid hU
  clear L0 A10 A20 h1 h2 h3 hx hl hs hU
  cases hg : (ford .f32 U (some 0) == some .gt) with
  | false =>
    have HN := Lib.hid (lofN_low hg)
    have HG := Lib.hid hg
    clear hg
    go_enter Try.func29, Try.ntmps29
    go_wp2_with fail
    refine (L.out _).mono ?_; rintro e w2 ⟨rfl, n1, rfl⟩
    go_wp2_with fail
    refine (A1.out _).mono ?_; rintro e w2 ⟨rfl, n2, rfl⟩
    go_wp2_with fail
    refine (A2.out _).mono ?_; rintro e w2 ⟨rfl, n3, rfl⟩
    go_wp2_with (refine wpList_fbin .f32 _ _ rfl rfl rfl rfl ?_; intro q nq hq wq)
    refine (specLogL_c _ (wf32 wq) _).mono ?_; rintro e w2 ⟨c, hc, r, nr, rfl, hr, wr, rfl⟩
    have tok1 : True := trivial
    have tok2 : True := trivial
    go_wp2_with (first | (have _t := tok1; refine wpList_fbin .f32 _ _ rfl rfl rfl rfl ?_; intro t nt ht wt; clear tok1) | (have _t := tok2; refine wpList_fbin .f32 _ _ rfl rfl rfl rfl ?_; intro u nu hu wu; clear tok2; have hU1 := lof_u HU.out hq hc hr ht hu; have hF := lof_facts (wf32 wu); have o1 := hF.1; rw [hU1, HG.out] at o1; clear hF))
    go_ret2
    exact lof_good HOK.out HU.out HN.out.symm (below_drewN (Below.refl _ _) _)
  | true =>
    cases he : (ford .f32 U (some 1065353216) == some .gt || ford .f32 U (some 1065353216) == some .eq) with
    | true =>
      have HN := Lib.hid (lofN_top hg he)
      have HG := Lib.hid hg
      have HE := Lib.hid he
      clear hg he
      go_enter Try.func29, Try.ntmps29
      go_wp2_with fail
      refine (L.out _).mono ?_; rintro e w2 ⟨rfl, n1, rfl⟩
      go_wp2_with fail
      refine (A1.out _).mono ?_; rintro e w2 ⟨rfl, n2, rfl⟩
      go_wp2_with fail
      refine (A2.out _).mono ?_; rintro e w2 ⟨rfl, n3, rfl⟩
      go_wp2_with (refine wpList_fbin .f32 _ _ rfl rfl rfl rfl ?_; intro q nq hq wq)
      refine (specLogL_c _ (wf32 wq) _).mono ?_; rintro e w2 ⟨c, hc, r, nr, rfl, hr, wr, rfl⟩
      have tok1 : True := trivial
      have tok2 : True := trivial
      go_wp2_with (first | (have _t := tok1; refine wpList_fbin .f32 _ _ rfl rfl rfl rfl ?_; intro t nt ht wt; clear tok1) | (have _t := tok2; refine wpList_fbin .f32 _ _ rfl rfl rfl rfl ?_; intro u nu hu wu; clear tok2; have hU1 := lof_u HU.out hq hc hr ht hu; have hF := lof_facts (wf32 wu); have o1 := hF.1; rw [hU1, HG.out] at o1; have o2 := hF.2.1; rw [hU1, HE.out] at o2; clear hF))
      go_ret2
      exact lof_good HOK.out HU.out HN.out.symm (below_drewN (Below.refl _ _) _)
    | false =>
      have HN := Lib.hid (lofN_mid hg he)
      have HG := Lib.hid hg
      have HE := Lib.hid he
      clear hg he
      go_enter Try.func29, Try.ntmps29
      go_wp2_with fail
      refine (L.out _).mono ?_; rintro e w2 ⟨rfl, n1, rfl⟩
      go_wp2_with fail
      refine (A1.out _).mono ?_; rintro e w2 ⟨rfl, n2, rfl⟩
      go_wp2_with fail
      refine (A2.out _).mono ?_; rintro e w2 ⟨rfl, n3, rfl⟩
      go_wp2_with (refine wpList_fbin .f32 _ _ rfl rfl rfl rfl ?_; intro q nq hq wq)
      refine (specLogL_c _ (wf32 wq) _).mono ?_; rintro e w2 ⟨c, hc, r, nr, rfl, hr, wr, rfl⟩
      have tok1 : True := trivial
      have tok2 : True := trivial
      have tok3 : True := trivial
      go_wp2_with (first | (have _t := tok1; refine wpList_fbin .f32 _ _ rfl rfl rfl rfl ?_; intro t nt ht wt; clear tok1) | (have _t := tok2; refine wpList_fbin .f32 _ _ rfl rfl rfl rfl ?_; intro u nu hu wu; clear tok2; have hU1 := lof_u HU.out hq hc hr ht hu; have hF := lof_facts (wf32 wu); have o1 := hF.1; rw [hU1, HG.out] at o1; have o2 := hF.2.1; rw [hU1, HE.out] at o2; have hmid := Lib.hid (hF.2.2 o1 o2); clear hF) | (have _t := tok3; refine wpList_fbin .f32 _ _ rfl rfl rfl rfl ?_; intro m nm hm wm; clear tok3) | (refine wpList_widen _ rfl Try.underlying22 Try.underlying25 rfl ?_; intro v nv hv wv))
      obtain ⟨hn1, hn2⟩ := near_facts hmid.out.1 hmid.out.2 hm hv
      rw [hU1] at hn2
      refine (specNear_c _ _ hn1 hn2 _).mono ?_; rintro e w2 ⟨rfl, rfl⟩
      go_wp2
      go_ret2
      exact lof_good HOK.out HU.out HN.out.symm (below_drewN (Below.refl _ _) _)

theorem lof_fin {x low stops : Nat} (h : (fin .f32 (cl .f32 x) && (fin .f32 (cl .f32 low) && fin .f32 (cl .f32 stops))) = false) : lofOk x low stops = false := by
  rw [fin_32, fin_32, fin_32] at h
  unfold lofOk least above
  simp only [Bool.and_eq_false_iff, decide_eq_false_iff_not] at h ⊢
  omega

set_option maxHeartbeats 4000000 in
theorem implLof_c (x low stops : Nat) (hx : x < 4294967296) (hl : low < 4294967296) (hs : stops < 4294967296) (w : World) : Calls Try.prog 30 #[.float .f32 x, .float .f32 low, .float .f32 stops] w fun e w' => LofRet w x low stops e w' := by
  have AF := Lib.hid (allFin3 x low stops)
  cases h1 : (fin .f32 (cl .f32 x) && (fin .f32 (cl .f32 low) && fin .f32 (cl .f32 stops))) with
  | false =>
    have HOK := Lib.hid (lof_fin h1)
    have AF := Lib.hid (AF.out.trans h1)
    clear h1 hx hl hs
    go_enter Try.func30, Try.ntmps30
    go_wp2_with fail
    refine (areFinite_c _ 3 3 _ _ (by decide) (arr3 w x low stops _)).mono ?_; rintro e w2 ⟨rfl, n1, rfl⟩
    rw [AF.out]
    go_wp2
    go_ret2
    exact lof_bad HOK.out (below_drewN (below_new _ _) _)
  | true =>
  have AF := Lib.hid (AF.out.trans h1)
  have ox := lt0_32 hx
  have ol := le0_32 hl
  have os := le0_32 hs
  have hfin : x % 2147483648 < 2139095040 ∧ low % 2147483648 < 2139095040 ∧ stops % 2147483648 < 2139095040 := by
    rw [fin_32, fin_32, fin_32] at h1
    simpa only [Bool.and_eq_true, decide_eq_true_eq] using h1
  by_cases hx1 : 2147483648 < x
  · rw [decide_eq_true (by omega)] at ox
    have HOK : Hid (lofOk x low stops = false) := by
      show _ = _; unfold lofOk least
      rw [decide_eq_false (by omega)]; rfl
    clear h1 hx hl hs hfin hx1 ol os
    go_enter Try.func30, Try.ntmps30
    go_wp2_with fail
    refine (areFinite_c _ 3 3 _ _ (by decide) (arr3 w x low stops _)).mono ?_; rintro e w2 ⟨rfl, n1, rfl⟩
    rw [AF.out]
    go_wp2
    go_ret2
    exact lof_bad HOK.out (below_drewN (below_new _ _) _)
  rw [decide_eq_false (by omega)] at ox
  by_cases hl1 : 2147483648 < low ∨ low % 2147483648 = 0
  · rw [decide_eq_true (by omega)] at ol
    have HOK : Hid (lofOk x low stops = false) := by
      show _ = _; unfold lofOk above
      rw [decide_eq_false (p := low < 2139095040 ∧ low ≠ 0) (by omega)]; simp
    clear h1 hx hl hs hfin hx1 hl1 os
    go_enter Try.func30, Try.ntmps30
    go_wp2_with fail
    refine (areFinite_c _ 3 3 _ _ (by decide) (arr3 w x low stops _)).mono ?_; rintro e w2 ⟨rfl, n1, rfl⟩
    rw [AF.out]
    go_wp2
    go_ret2
    exact lof_bad HOK.out (below_drewN (below_new _ _) _)
  rw [decide_eq_false (by omega)] at ol
  by_cases hs1 : 2147483648 < stops ∨ stops % 2147483648 = 0
  · rw [decide_eq_true (by omega)] at os
    have HOK : Hid (lofOk x low stops = false) := by
      show _ = _; unfold lofOk above
      rw [decide_eq_false (p := stops < 2139095040 ∧ stops ≠ 0) (by omega)]; simp
    clear h1 hx hl hs hfin hx1 hl1 hs1
    go_enter Try.func30, Try.ntmps30
    go_wp2_with fail
    refine (areFinite_c _ 3 3 _ _ (by decide) (arr3 w x low stops _)).mono ?_; rintro e w2 ⟨rfl, n1, rfl⟩
    rw [AF.out]
    go_wp2
    go_ret2
    exact lof_bad HOK.out (below_drewN (below_new _ _) _)
  rw [decide_eq_false (by omega)] at os
  have HOK : Hid (lofOk x low stops = true) := by
    show _ = _; unfold lofOk least above
    rw [decide_eq_true (by omega), decide_eq_true (by omega), decide_eq_true (by omega)]; rfl
  obtain ⟨U, hU⟩ := lofU_ex x low stops w
  have HU := Lib.hid hU
  clear h1 hx hl hs hfin hx1 hl1 hs1 hU
  cases hg : (ford .f32 U (some 0) == some .gt) with
  | false =>
    have HN := Lib.hid (lofN_low hg)
    have HG := Lib.hid hg
    clear hg
    go_enter Try.func30, Try.ntmps30
    go_wp2_with fail
    refine (areFinite_c _ 3 3 _ _ (by decide) (arr3 w x low stops _)).mono ?_; rintro e w2 ⟨rfl, n1, rfl⟩
    rw [AF.out]
    go_wp2_with (refine wpList_fbin .f32 _ _ rfl rfl rfl rfl ?_; intro q nq hq wq)
    refine (implLogT_c _ (wf32 wq) _).mono ?_; rintro e w2 ⟨c, hc, r, nr, rfl, hr, wr, rfl⟩
    have tok1 : True := trivial
    have tok2 : True := trivial
    go_wp2_with (first | (have _t := tok1; refine wpList_fbin .f32 _ _ rfl rfl rfl rfl ?_; intro t nt ht wt; clear tok1) | (have _t := tok2; refine wpList_fbin .f32 _ _ rfl rfl rfl rfl ?_; intro u nu hu wu; clear tok2; have hU1 := lof_u HU.out hq hc hr ht hu; have hF := lof_facts (wf32 wu); have o1 := hF.1; rw [hU1, HG.out] at o1; clear hF))
    go_ret2
    exact lof_good HOK.out HU.out HN.out.symm (below_drewN (below_new _ _) _)
  | true =>
    cases he : (ford .f32 U (some 1065353216) == some .gt || ford .f32 U (some 1065353216) == some .eq) with
    | true =>
      have HN := Lib.hid (lofN_top hg he)
      have HG := Lib.hid hg
      have HE := Lib.hid he
      clear hg he
      go_enter Try.func30, Try.ntmps30
      go_wp2_with fail
      refine (areFinite_c _ 3 3 _ _ (by decide) (arr3 w x low stops _)).mono ?_; rintro e w2 ⟨rfl, n1, rfl⟩
      rw [AF.out]
      go_wp2_with (refine wpList_fbin .f32 _ _ rfl rfl rfl rfl ?_; intro q nq hq wq)
      refine (implLogT_c _ (wf32 wq) _).mono ?_; rintro e w2 ⟨c, hc, r, nr, rfl, hr, wr, rfl⟩
      have tok1 : True := trivial
      have tok2 : True := trivial
      go_wp2_with (first | (have _t := tok1; refine wpList_fbin .f32 _ _ rfl rfl rfl rfl ?_; intro t nt ht wt; clear tok1) | (have _t := tok2; refine wpList_fbin .f32 _ _ rfl rfl rfl rfl ?_; intro u nu hu wu; clear tok2; have hU1 := lof_u HU.out hq hc hr ht hu; have hF := lof_facts (wf32 wu); have o1 := hF.1; rw [hU1, HG.out] at o1; have o2 := hF.2.1; rw [hU1, HE.out] at o2; clear hF))
      go_ret2
      exact lof_good HOK.out HU.out HN.out.symm (below_drewN (below_new _ _) _)
    | false =>
      have HN := Lib.hid (lofN_mid hg he)
      have HG := Lib.hid hg
      have HE := Lib.hid he
      clear hg he
      go_enter Try.func30, Try.ntmps30
      go_wp2_with fail
      refine (areFinite_c _ 3 3 _ _ (by decide) (arr3 w x low stops _)).mono ?_; rintro e w2 ⟨rfl, n1, rfl⟩
      rw [AF.out]
      go_wp2_with (refine wpList_fbin .f32 _ _ rfl rfl rfl rfl ?_; intro q nq hq wq)
      refine (implLogT_c _ (wf32 wq) _).mono ?_; rintro e w2 ⟨c, hc, r, nr, rfl, hr, wr, rfl⟩
      have tok1 : True := trivial
      have tok2 : True := trivial
      have tok3 : True := trivial
      go_wp2_with (first | (have _t := tok1; refine wpList_fbin .f32 _ _ rfl rfl rfl rfl ?_; intro t nt ht wt; clear tok1) | (have _t := tok2; refine wpList_fbin .f32 _ _ rfl rfl rfl rfl ?_; intro u nu hu wu; clear tok2; have hU1 := lof_u HU.out hq hc hr ht hu; have hF := lof_facts (wf32 wu); have o1 := hF.1; rw [hU1, HG.out] at o1; have o2 := hF.2.1; rw [hU1, HE.out] at o2; have hmid := Lib.hid (hF.2.2 o1 o2); clear hF) | (have _t := tok3; refine wpList_fbin .f32 _ _ rfl rfl rfl rfl ?_; intro m nm hm wm; clear tok3) | (refine wpList_widen _ rfl Try.underlying22 Try.underlying25 rfl ?_; intro v nv hv wv))
      obtain ⟨hn1, hn2⟩ := near_facts hmid.out.1 hmid.out.2 hm hv
      rw [hU1] at hn2
      refine (implNear_c _ _ hn1 hn2 _).mono ?_; rintro e w2 ⟨rfl, rfl⟩
      go_wp2
      go_ret2
      exact lof_good HOK.out HU.out HN.out.symm (below_drewN (below_new _ _) _)

theorem law_LogOf (x low stops : Nat) (w : World) (hwx : (Lit.float .f32 x).wf = true) (hwl : (Lit.float .f32 low).wf = true) (hws : (Lit.float .f32 stops).wf = true) : Calls Try.prog 10 #[.float .f32 x, .float .f32 low, .float .f32 stops] w fun e w' => e = .returned (.bool true) ∧ Below w.heap.size w w' := by
  have S := Lib.hid (specLof_c x low stops (wf32 hwx) (wf32 hwl) (wf32 hws))
  have I := Lib.hid (implLof_c x low stops (wf32 hwx) (wf32 hwl) (wf32 hws))
  clear hwx hwl hws
  go_enter Try.func10, Try.ntmps10
  go_wp2_with fail
  refine (S.out _).mono ?_; rintro e w1 ⟨n1, k1, s1, rfl, b1⟩
  go_wp2_with fail
  refine (I.out _).mono ?_; rintro e w2 ⟨n2, k2, s2, rfl, b2⟩
  obtain ⟨rfl, rfl⟩ := lofT_one s1 s2
  have B1 := Lib.hid b1
  have B2 := Lib.hid b2
  clear s1 s2 b1 b2
  go_wp2
  go_ret
  exact ⟨rfl, B1.out.trans (B2.out.mono B1.out.size)⟩
end Go.Proofs.Ytemolaojjnpfnaa
