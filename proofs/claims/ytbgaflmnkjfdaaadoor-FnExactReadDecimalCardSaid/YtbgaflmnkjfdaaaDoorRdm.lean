/-
  Plain laws: the program's own reading of a text (l01Value) gives the one answer. No condition beyond the sizes.
-/
import Derived.Test.YtbgaflmnkjfdaaaDoorRdl
namespace Go.Proofs.YtbgaflmnkjfdaaaDoor.Q
open Go Go.RowKit Go.Proofs.YtbgaflmnkjfdaaaDoorW.PrintWords
set_option linter.unusedVariables false

theorem size_len (s : ByteArray) : s.size = s.data.toList.length := (Array.length_toList (xs := s.data)).symm

theorem bt_list (s : ByteArray) (i : Nat) (h : i < s.data.toList.length) : bt s (i : Int) = ((s.data.toList[i]'h).toNat : Int) := by
  have hs : i < s.size := by rw [size_len]; exact h
  unfold bt
  rw [dif_pos (by simpa using hs)]
  simp only [Int.toNat_natCast]
  rw [Array.getElem_toList]
  rfl

theorem j2_law (s : ByteArray) (v : Int) (hb : -9223372036854775808 ≤ v ∧ v ≤ 9223372036854775807) (hv : nval s.data.toList = v) : ∃ k n ok, spec_l01Value.j2 k s v = some (n, ok) ∧ RD s n ok := by
  obtain ⟨k, hk⟩ := dec_law v hb.1 hb.2
  by_cases hr : -1000000000000000 ≤ v ∧ v ≤ 1000000000000000
  · by_cases he : s.data.toList = Lib.itoa v
    · refine ⟨k + 1, v, true, ?_, .inl ⟨rfl, hr.1, hr.2, he⟩⟩
      simp only [spec_l01Value.j2, spec_l00In.f]
      rw [if_pos hr.1, Option.bind_some, if_pos (by simp; exact hr.2), hk, Option.bind_some]
      rw [if_pos (by rw [ByteArray.toList_mk, ByteArray.toList_eq]; exact he.symm)]
    · refine ⟨k + 1, 0, false, ?_, .inr ⟨rfl, rfl, ?_⟩⟩
      · simp only [spec_l01Value.j2, spec_l00In.f]
        rw [if_pos hr.1, Option.bind_some, if_pos (by simp; exact hr.2), hk, Option.bind_some]
        rw [if_neg (by rw [ByteArray.toList_mk, ByteArray.toList_eq]; exact fun e => he e.symm)]
      · intro m h0 h1 e
        have := nval_itoa m h0 h1
        rw [← e, hv] at this
        subst this
        exact he e
  · refine ⟨1, 0, false, ?_, .inr ⟨rfl, rfl, ?_⟩⟩
    · simp only [spec_l01Value.j2, spec_l00In.f]
      by_cases h1 : v ≥ -1000000000000000
      · rw [if_pos h1, Option.bind_some, if_neg (by simp; omega)]
      · rw [if_neg h1]; rfl
    · intro m h0 h1 e
      have := nval_itoa m h0 h1
      rw [← e, hv] at this
      subst this
      exact hr ⟨h0, h1⟩

theorem dval_bd (l : List UInt8) (h : l.length ≤ 17) (i : Nat) (hi : i ≤ l.length) : dval (l.take i) < 100000000000000000 := by
  have h1 := dval_lt l i hi
  have h2 : (10 : Nat) ^ i ≤ 10 ^ 17 := Nat.pow_le_pow_right (by decide) (by omega)
  have h3 : (10 : Nat) ^ 17 = 100000000000000000 := by decide
  rw [h3] at h2
  exact Nat.lt_of_lt_of_le h1 h2

theorem w_neg (d : Nat) (h : d < 100000000000000000) : wrap64 (-(d : Int)) = -(d : Int) := by unfold wrap64; omega

theorem head_iff (s : ByteArray) (h1 : 1 ≤ s.data.toList.length) : (s.data.toList.head? = some 45) ↔ bt s 0 = 45 := by
  have hn := bt_list s 0 (by omega)
  rw [List.head?_eq_getElem?, List.getElem?_eq_getElem (by omega)]
  have e0 : bt s 0 = bt s ((0 : Nat) : Int) := rfl
  rw [e0, hn]
  constructor
  · intro e
    injection e with e
    rw [e]; rfl
  · intro e
    congr 1
    apply UInt8.toNat_inj.1
    have : (s.data.toList[0]'(by omega)).toNat = 45 := by omega
    exact this

theorem l0_end (s : ByteArray) (h1 : 1 ≤ s.data.toList.length) (d : Nat) (hd : d < 100000000000000000) (he : dval s.data.toList = d) (i : Nat) (hi : i = s.data.toList.length) :
    ∃ k n ok, spec_l01Value.l0 k s (d : Int) (i : Int) = some (n, ok) ∧ RD s n ok := by
  have hsz : s.size = s.data.toList.length := size_len s
  by_cases hm : bt s 0 = 45
  · obtain ⟨k, n, ok, hk, hR⟩ := j2_law s (-(d : Int)) (by omega) (by
      unfold nval
      rw [if_pos ((head_iff s h1).2 hm), he])
    refine ⟨k + 1, n, ok, ?_, hR⟩
    simp only [spec_l01Value.l0]
    rw [if_neg (by rw [hsz]; omega), if_pos (by rw [hsz]; omega), if_pos hm, w_neg d hd]
    exact hk
  · obtain ⟨k, n, ok, hk, hR⟩ := j2_law s (d : Int) (by omega) (by
      unfold nval
      rw [if_neg (fun e => hm ((head_iff s h1).1 e)), he])
    refine ⟨k + 1, n, ok, ?_, hR⟩
    simp only [spec_l01Value.l0]
    rw [if_neg (by rw [hsz]; omega), if_pos (by rw [hsz]; omega), if_neg hm]
    exact hk

theorem w_step (d b : Nat) (h : d < 100000000000000000) (hb : 48 ≤ b) (hb2 : b ≤ 57) : wrap64 (wrap64 (10 * (d : Int)) + ((b : Int) - 48) % 256) = ((10 * d + (b - 48) : Nat) : Int) := by
  unfold wrap64; omega

theorem l0_step (s : ByteArray) (k i d : Nat) (hi : i < s.data.toList.length) (h17 : s.data.toList.length ≤ 17) (hd : d < 100000000000000000) :
    spec_l01Value.l0 (k + 1) s (d : Int) (i : Int) = spec_l01Value.l0 k s (dstep d (s.data.toList[i]'hi) : Int) ((i + 1 : Nat) : Int) := by
  have hsz : s.size = s.data.toList.length := size_len s
  have hb := bt_list s i hi
  have hw : wrap64 ((i : Int) + 1) = ((i + 1 : Nat) : Int) := by unfold wrap64; omega
  conv => lhs; simp only [spec_l01Value.l0]
  rw [if_pos (by rw [hsz]; omega), if_pos (by omega), hb, hw]
  unfold dstep
  generalize (s.data.toList[i]'hi).toNat = b
  by_cases c1 : 48 ≤ b
  · rw [if_pos (by omega), if_pos c1]
    by_cases c2 : b ≤ 57
    · rw [if_pos (by omega), if_pos c2, w_step d b hd c1 c2]
    · rw [if_neg (by omega), if_neg c2]
  · rw [if_neg (by omega), if_neg c1]

theorem l0_law (s : ByteArray) (h1 : 1 ≤ s.data.toList.length) (h17 : s.data.toList.length ≤ 17) : ∀ (m i : Nat), i + m = s.data.toList.length →
    ∃ k n ok, spec_l01Value.l0 k s (dval (s.data.toList.take i) : Int) (i : Int) = some (n, ok) ∧ RD s n ok
  | 0, i, hi => l0_end s h1 _ (dval_bd _ h17 i (by omega)) (by rw [List.take_of_length_le (by omega)]) i (by omega)
  | m + 1, i, hi => by
    obtain ⟨k, n, ok, hk, hR⟩ := l0_law s h1 h17 m (i + 1) (by omega)
    refine ⟨k + 1, n, ok, ?_, hR⟩
    rw [l0_step s k i _ (by omega) h17 (dval_bd _ h17 i (by omega))]
    rw [List.take_succ_eq_append_getElem (by omega), dval_snoc] at hk
    exact hk

theorem value_law (s : ByteArray) : ∃ k n ok, spec_l01Value.f k s = some (n, ok) ∧ RD s n ok := by
  have hsz : s.size = s.data.toList.length := size_len s
  by_cases h1 : s.data.toList.length < 1
  · refine ⟨1, 0, false, ?_, .inr ⟨rfl, rfl, fun m h0 h2 e => ?_⟩⟩
    · unfold spec_l01Value.f
      rw [if_pos (by rw [hsz]; omega)]
      simp only [spec_l01Value.j0, if_true]
    · have := (itoa_len m h0 h2).1
      rw [← e] at this; omega
  · by_cases h17 : s.data.toList.length ≤ 17
    · obtain ⟨k, n, ok, hk, hR⟩ := l0_law s (by omega) h17 s.data.toList.length 0 (by omega)
      refine ⟨k + 1, n, ok, ?_, hR⟩
      unfold spec_l01Value.f
      rw [if_neg (by rw [hsz]; omega)]
      simp only [spec_l01Value.j0]
      rw [if_neg (by simp; rw [hsz]; omega)]
      exact hk
    · refine ⟨1, 0, false, ?_, .inr ⟨rfl, rfl, fun m h0 h2 e => ?_⟩⟩
      · unfold spec_l01Value.f
        rw [if_neg (by rw [hsz]; omega)]
        simp only [spec_l01Value.j0]
        rw [if_pos (by simp; rw [hsz]; omega)]
      · have := (itoa_len m h0 h2).2
        rw [← e] at this; omega

end Go.Proofs.YtbgaflmnkjfdaaaDoor.Q
