/-
  Rows of numbers in memory, for every seat: what a slice argument reads as, the block that a copy makes, and the laws' own helpers over slices of float32 (copied, compared). No condition.
-/
import Derived.Test.YtpjonajpgidjfaaCmn
import Derived.Handy
import Derived.Test.YtpjonajpgidjfaaFree
import Derived.DataOpen
import Derived.Deep.Slices
namespace Go.Proofs.Ytpjonajpgidjfaa
set_option linter.unusedVariables false
open Go.RowKit Ieee

/-- A block's cells, told by a function. -/
def rowA (f : Nat → Value) (n : Nat) : Array Value := ((List.range n).map f).toArray
/-- The same, filled up to k. -/
def part (f : Nat → Value) (z : Value) (n k : Nat) : Array Value := ((List.range n).map fun i => if i < k then f i else z).toArray

theorem size_rowA (f : Nat → Value) (n : Nat) : (rowA f n).size = n := by simp [rowA]
theorem size_part (f : Nat → Value) (z : Value) (n k : Nat) : (part f z n k).size = n := by simp [part]
theorem rowA_get (f : Nat → Value) {n i : Nat} (h : i < n) : (rowA f n)[i]? = some (f i) := by simp [rowA, h]
theorem part_get (f : Nat → Value) (z : Value) {n k i : Nat} (h : i < n) : (part f z n k)[i]? = some (if i < k then f i else z) := by simp [part, h]
theorem part_full (f : Nat → Value) (z : Value) (n : Nat) : part f z n n = rowA f n := by
  unfold part rowA
  congr 1
  apply List.map_congr_left
  intro i hi
  rw [if_pos (List.mem_range.1 hi)]
theorem part_set (f : Nat → Value) (z : Value) {n k : Nat} (h : k < n) : (part f z n k).setIfInBounds k (f k) = part f z n (k + 1) := by
  apply Array.ext
  · simp [size_part]
  · intro i h1 h2
    have hi : i < n := by simpa [size_part] using h2
    rw [Array.getElem_setIfInBounds (by rw [size_part]; exact hi)]
    simp only [part, List.getElem_toArray, List.getElem_map, List.getElem_range]
    by_cases hik : k = i
    · subst hik; simp
    · rw [if_neg hik]
      by_cases h3 : i < k
      · rw [if_pos h3, if_pos (by omega)]
      · rw [if_neg h3, if_neg (by omega)]
theorem part_made (f : Nat → Value) (z : Value) (n : Nat) (hz : z.cells = #[z]) : madeCells z.cells (n * 1) = part f z n 0 := by
  apply Array.ext
  · simp [size_part, size_madeCells]
  · intro i h1 h2
    simp [madeCells, part, hz, Nat.mod_one]
theorem rowA_congr {f g : Nat → Value} {n : Nat} (h : ∀ i, i < n → f i = g i) : rowA f n = rowA g n := by
  unfold rowA
  congr 1
  exact List.map_congr_left fun i hi => h i (List.mem_range.1 hi)

/-- A slice that came in reads as n values: its cells are there; a nil slice has none. -/
def Row (w : World) (a : Option Addr) (len cap : Nat) (f : Nat → Value) : Prop :=
  len = 0 ∨ ∃ b off, a = some ⟨b, off, none⟩ ∧ b < w.heap.size ∧ len ≤ cap ∧ ∀ i, i < len → w.cell? ⟨b, off + i, none⟩ = some (f i)

theorem heap_lt {w : World} {b o : Nat} {v : Value} (h : w.cell? ⟨b, o, none⟩ = some v) : b < w.heap.size := by
  unfold World.cell? at h
  split at h
  · rename_i heq; exact (Array.getElem?_eq_some_iff.1 heq).1
  · cases h

theorem info_of {P : Program} {t : TypeId} {z : Value} {n b : Nat} (h : (P.info? t).map (fun i => (i.zero, i.size, i.bytes)) = some (some z, n, b)) : ∃ i, P.info? t = some i ∧ i.zero = some z ∧ i.size = n ∧ i.bytes = b := by
  cases hi : P.info? t with
  | none => rw [hi] at h; cases h
  | some i => rw [hi] at h; simp at h; exact ⟨i, rfl, h.1, h.2.1, h.2.2⟩

theorem run_make_part {P : Program} {t e : TypeId} {z : Value} {by_ : Nat} (ht : P.underlying t = some (.slice e)) (hi : (P.info? e).map (fun i => (i.zero, i.size, i.bytes)) = some (some z, 1, by_)) (hz : z.cells = #[z]) (f : Nat → Value) (n : Nat)
    (hb : by_ * n ≤ 281474976710656) (hn : n ≤ 9223372036854775807) (w : World) :
    (Instr.makeSlice t (.int .i64 (n : Int)) (.int .i64 (n : Int))).run P w = .ok (.slice (some ⟨w.heap.size, 0, none⟩) n n) (w.alloc (.cells (part f z n 0) e)) := by
  obtain ⟨i, h1, h2, h3, h4⟩ := info_of hi
  have hb' : (i.bytes : Int) * (n : Int) ≤ 281474976710656 := by
    rw [h4]
    have h : ((by_ * n : Nat) : Int) ≤ 281474976710656 := by omega
    rwa [Int.natCast_mul] at h
  have hr := run_make (P := P) w t e i z ht h1 h2 .i64 .i64 n n (by omega) (by omega) hb' (by omega)
  rw [h3] at hr
  simp only [Int.toNat_natCast] at hr
  rw [hr, part_made f z n hz]

/-! ### a slice argument, opened -/
section
open Go.WideShapes
variable {H : Type} {enc : TypeId × Value → H} {P : Program} {w : World} {base : Nat} {spare : Nat → Bool} {held : Bool}

theorem trod_float {n : Nat} {t : TypeId} {k : FloatKind} {v : Value} {d : DataW H} {ps : List MemPlace} (ht : P.underlying t = some (.float k)) (h : DataW.trod enc P w base spare held n t [v] = some (d, ps)) :
    ∃ b, v = .float k b ∧ (Lit.float k b).wf = true := by
  cases n with
  | zero => simp [DataW.trod] at h
  | succ n =>
    simp only [DataW.trod, ht] at h
    cases v <;> simp_all

theorem trod_int' {n : Nat} {t : TypeId} {k : IntKind} {v : Value} {d : DataW H} {ps : List MemPlace} (ht : P.underlying t = some (.int k)) (h : DataW.trod enc P w base spare held n t [v] = some (d, ps)) :
    ∃ b, v = .int k b ∧ (Lit.int k b).wf = true := by
  obtain ⟨m, h1, _, h3⟩ := DataW.trod_int ht h
  exact ⟨m, by simpa using h1, h3⟩

theorem open_row {t e : TypeId} {a : Option Addr} {len cap : Nat} {d : DataW H} {ps : List MemPlace} {α : Type} (α0 : α) (mk : α → Value) (ok : α → Prop) (ht : P.underlying t = some (.slice e)) (hc : P.cellsOf e = 1)
    (hel : ∀ {n : Nat} {v : Value} {d : DataW H} {ps : List MemPlace}, DataW.trod enc P w base spare held n e [v] = some (d, ps) → ∃ b, v = mk b ∧ ok b)
    (hd : DataW.Trod enc P w base spare held t (.slice a len cap) d ps) :
    ∃ z : Nat → α, Row w a len cap (fun i => mk (z i)) ∧ ∀ i, i < len → ok (z i) := by
  obtain ⟨fuel, hf⟩ := hd
  rcases Go.Deep.open_slice1 ht hc hf with ⟨hcs, _⟩ | ⟨x, l, c, m, n, V, D, Pl, hcs, _, hl, hm, hmm, _, hV⟩
  · simp [Value.cells] at hcs
    obtain ⟨rfl, rfl, rfl⟩ := hcs
    exact ⟨fun _ => α0, .inl rfl, fun i hi => by omega⟩
  · simp [Value.cells] at hcs
    obtain ⟨rfl, rfl, rfl⟩ := hcs
    by_cases h0 : len = 0
    · exact ⟨fun _ => α0, .inl h0, fun i hi => by omega⟩
    · have hle : len ≤ m := by rw [hmm]; split <;> omega
      have hex : ∀ i, i < len → ∃ b, V i = mk b ∧ ok b := fun i hi => hel (hV i (by omega)).2
      let z : Nat → α := fun i => if h : i < len then Classical.choose (hex i h) else α0
      have hz : ∀ i, i < len → V i = mk (z i) ∧ ok (z i) := by
        intro i hi
        show V i = mk (if h : i < len then Classical.choose (hex i h) else α0) ∧ ok (if h : i < len then Classical.choose (hex i h) else α0)
        rw [dif_pos hi]
        exact Classical.choose_spec (hex i hi)
      obtain ⟨b, off, spot⟩ := x
      have h1 := (hV 0 (by omega)).1
      have hspot : spot = none := by simpa [Addr.add] using World.cell?_spot h1
      subst hspot
      have hcell : ∀ i, i < len → w.cell? ⟨b, off + i, none⟩ = some (mk (z i)) := by
        intro i hi
        have h2 := (hV i (by omega)).1
        rw [(hz i hi).1] at h2
        by_cases h0 : i = 0
        · subst h0; simpa [Addr.add] using h2
        · simpa [Addr.add, h0] using h2
      exact ⟨z, .inr ⟨b, off, rfl, heap_lt (hcell 0 (by omega)), hl, hcell⟩, fun i hi => (hz i hi).2⟩

theorem open_row_sF32 {t e : TypeId} {v : Value} {d : DataW H} {ps : List MemPlace} {r : Reach} {b0 : Nat} (ht : P.underlying t = some (.slice e)) (he : P.underlying e = some (.float .f32)) (hc : P.cellsOf e = 1) (hval : Value.okWide P w r b0 t v)
    (hd : DataW.Trod enc P w base spare held t v d ps) : ∃ (a : Option Addr) (len cap : Nat) (z : Nat → Nat), v = .slice a len cap ∧ Row w a len cap (fun i => .float .f32 (z i)) ∧ ∀ i, i < len → (Lit.float .f32 (z i)).wf = true := by
  obtain ⟨a, len, cap, rfl⟩ := okWide_slice ht hval
  obtain ⟨z, h1, h2⟩ := open_row (α := Nat) 0 (Value.float .f32) (fun b => (Lit.float .f32 b).wf = true) ht hc (fun h => trod_float he h) hd
  exact ⟨a, len, cap, z, rfl, h1, h2⟩

theorem open_row_sI64 {t e : TypeId} {v : Value} {d : DataW H} {ps : List MemPlace} {r : Reach} {b0 : Nat} (ht : P.underlying t = some (.slice e)) (he : P.underlying e = some (.int .i64)) (hc : P.cellsOf e = 1) (hval : Value.okWide P w r b0 t v)
    (hd : DataW.Trod enc P w base spare held t v d ps) : ∃ (a : Option Addr) (len cap : Nat) (z : Nat → Int), v = .slice a len cap ∧ Row w a len cap (fun i => .int .i64 (z i)) ∧ ∀ i, i < len → (Lit.int .i64 (z i)).wf = true := by
  obtain ⟨a, len, cap, rfl⟩ := okWide_slice ht hval
  obtain ⟨z, h1, h2⟩ := open_row (α := Int) 0 (Value.int .i64) (fun b => (Lit.int .i64 b).wf = true) ht hc (fun h => trod_int' he h) hd
  exact ⟨a, len, cap, z, rfl, h1, h2⟩
end

theorem infoF : (Try.prog.info? 32).map (fun i => (i.zero, i.size, i.bytes)) = some (some (.float .f32 0), 1, 4) := by kernel_rfl

/-- A copy of a slice of float32: one new block, its cells. -/
theorem toFloat32S_c (a : Option Addr) (len cap : Nat) (zs : Nat → Nat) (w : World) (hr : Row w a len cap (fun i => .float .f32 (zs i))) (hl : len ≤ 1048576) :
    Calls Try.prog 44 #[.slice a len cap] w fun e w' => e = .returned (.slice (some ⟨w.heap.size, 0, none⟩) len len) ∧ w' = w.alloc (.cells (rowA (fun i => .float .f32 (zs i)) len) 32) := by
  have hmk := run_make_part (P := Try.prog) (t := 22) Try.underlying22 infoF rfl (fun i => .float .f32 (zs i)) len (by omega) (by omega)
  have hfull := Lib.hid (part_full (fun i => Value.float .f32 (zs i)) (.float .f32 0) len)
  go_enter Try.func44, Try.ntmps44
  go_wp2
  clear hmk
  go_loopw [4] (fun i wr => ∃ k : Nat, k ≤ len ∧ i = .int .i64 k ∧ wr = w.alloc (.cells (part (fun i => .float .f32 (zs i)) (.float .f32 0) len k) 32)) (fun i _ => len - (intOf i).toNat)
  case atStart => exact ⟨0, Nat.zero_le _, rfl, rfl⟩
  case round =>
    obtain ⟨k, hk, rfl, rfl⟩ := hrel
    by_cases hlt : k < len
    · rcases hr with h0 | ⟨b, off, rfl, hb, hlc, hc⟩
      · omega
      · have c1 : (w.alloc (.cells (part (fun i => .float .f32 (zs i)) (.float .f32 0) len k) 32)).cell? ⟨b, off + k, none⟩ = some (.float .f32 (zs k)) := by
          rw [World.cell?_alloc_past (hn := hb)]; exact hc k hlt
        have c2 : (w.alloc (.cells (part (fun i => .float .f32 (zs i)) (.float .f32 0) len k) 32)).cell? ⟨w.heap.size, k, none⟩ = some (.float .f32 0) := by
          rw [World.cell?_alloc_at (hn := rfl), part_get _ _ hlt, if_neg (Nat.lt_irrefl _)]
        have hset := Lib.hid (part_set (fun i => Value.float .f32 (zs i)) (.float .f32 0) hlt)
        clear hc
        go_wp2
        go_roundw
        case rel => exact ⟨k + 1, by omega, by go_num, by first | rfl | rw [← hset.out]⟩
        case measure => simp [intOf]; omega
    · have hke : k = len := by omega
      subst hke
      rw [hfull.out]
      go_wp2
      go_ret
      exact ⟨rfl, rfl⟩

theorem conv_same {P : Program} {t : TypeId} {k : FloatKind} (ht : P.underlying t = some (.float k)) (b : Nat) (w : World) : (convert t t (.float k b)).run P w = .ok (.float k b) w :=
  run_convert_float_float w t t k k b b (by rw [ht]; rfl) ht (by unfold floatToFloatBits; rw [if_pos rfl])

theorem conv32 (b : Nat) (w : World) : (convert 32 32 (.float .f32 b)).run Try.prog w = .ok (.float .f32 b) w := conv_same Try.underlying32 b w
attribute [go_sem] conv32
theorem conv64 (b : Nat) (w : World) : (convert 36 36 (.float .f64 b)).run Try.prog w = .ok (.float .f64 b) w := conv_same Try.underlying36 b w
attribute [go_sem] conv64

set_option maxRecDepth 10000 in
/-- Two slices of float32 that read alike are equal. -/
theorem eqFloat32S_c (b1 b2 n c1 c2 : Nat) (f g : Nat → Nat) (w : World) (hn : n ≤ 1048576) (h1 : ∀ i, i < n → w.cell? ⟨b1, i, none⟩ = some (.float .f32 (f i))) (h2 : ∀ i, i < n → w.cell? ⟨b2, i, none⟩ = some (.float .f32 (g i))) (hfg : ∀ i, i < n → cl .f32 (f i) = cl .f32 (g i)) :
    Calls Try.prog 48 #[.slice (some ⟨b1, 0, none⟩) n c1, .slice (some ⟨b2, 0, none⟩) n c2] w fun e w' => RetB w true e w' := by
  have H1 := Lib.hid h1
  have H2 := Lib.hid h2
  have HF := Lib.hid hfg
  clear h1 h2 hfg
  go_enter Try.func48, Try.ntmps48
  go_wp2
  go_loopw [5] (fun i wr => ∃ k d : Nat, k ≤ n ∧ i = .int .i64 k ∧ wr = w.drewN d) (fun i _ => n - (intOf i).toNat)
  case atStart => exact ⟨0, 0, Nat.zero_le _, rfl, rfl⟩
  case round =>
    obtain ⟨k, d, hk, rfl, rfl⟩ := hrel
    by_cases hlt : k < n
    · have x1 := H1.out k hlt
      have x2 := H2.out k hlt
      go_wp2_with fail
      refine wp_region_free_lit (fun w' => ∃ d', w' = w.drewN d') (fun j v => match j with
        | 0 => v = .slice (some ⟨b1, 0, none⟩) n c1 | 1 => v = .int .i64 k | 2 => v = .pointer (some ⟨b1, k, none⟩) | 3 => v = .float .f32 (f k) | 4 => ∃ r, v = .float .f64 r ∧ cl .f64 r = fconv .f32 .f64 (cl .f32 (f k))
        | 5 => v = .slice (some ⟨b2, 0, none⟩) n c2 | 6 => v = .int .i64 k | 7 => v = .pointer (some ⟨b2, k, none⟩) | 8 => v = .float .f32 (g k) | 9 => ∃ r, v = .float .f64 r ∧ cl .f64 r = fconv .f32 .f64 (cl .f32 (g k))
        | 10 => v = .bool true | _ => v = .bool false) (by kernel_rfl) (by kernel_rfl) ⟨_, World.drewN_drewN _ _ _⟩ ⟨?_, ?_, ?_, ?_, ?_, ?_, ?_, ?_, ?_, ?_, ?_, ?_, trivial⟩ ?_
      · intro ρ w' ⟨m, hw⟩ hx hd ho; subst hw
        have e : ρ (.tmp 0) = _ := ho 0 (out_of (by kernel_rfl))
        simp [execOp, e, Yields, Act.eval]
        exact ⟨m, rfl⟩
      · intro ρ w' ⟨m, hw⟩ hx hd ho; subst hw
        have e : ρ (.tmp 5) = _ := ho 5 (out_of (by kernel_rfl))
        simp [execOp, e, Yields, Act.eval]
        exact ⟨m, rfl⟩
      · intro ρ w' ⟨m, hw⟩ hx hd ho; subst hw
        have e0 : ρ (.tmp 17) = .slice (some ⟨b1, 0, none⟩) n c1 := hd ⟨0, .data⟩ (by simp)
        have e1 : ρ (.tmp 18) = .int .i64 k := hd ⟨1, .data⟩ (by simp)
        simp [execOp, e0, e1, Yields, go_sem, hlt]
        exact ⟨m, rfl⟩
      · intro ρ w' ⟨m, hw⟩ hx hd ho; subst hw
        have e0 : ρ (.tmp 19) = .pointer (some ⟨b1, k, none⟩) := hd ⟨2, .data⟩ (by simp)
        simp [execOp, e0, Yields, go_sem, x1]
        exact ⟨m, rfl⟩
      · intro ρ w' ⟨m, hw⟩ hx hd ho; subst hw
        have e0 : ρ (.tmp 20) = .float .f32 (f k) := hd ⟨3, .data⟩ (by simp)
        obtain ⟨r, q, hr, hc, _⟩ := run_widen_op (P := Try.prog) (w.drewN m) _ e0 Try.underlying32 Try.underlying36
        rw [hr]
        exact ⟨⟨r, rfl, hc⟩, _, World.drewN_drewN _ _ _⟩
      · intro ρ w' ⟨m, hw⟩ hx hd ho; subst hw
        have e : ρ (.tmp 1) = _ := ho 1 (out_of (by kernel_rfl))
        simp [execOp, e, Yields, Act.eval]
        exact ⟨m, rfl⟩
      · intro ρ w' ⟨m, hw⟩ hx hd ho; subst hw
        have e : ρ (.tmp 5) = _ := ho 5 (out_of (by kernel_rfl))
        simp [execOp, e, Yields, Act.eval]
        exact ⟨m, rfl⟩
      · intro ρ w' ⟨m, hw⟩ hx hd ho; subst hw
        have e0 : ρ (.tmp 22) = .slice (some ⟨b2, 0, none⟩) n c2 := hd ⟨5, .data⟩ (by simp)
        have e1 : ρ (.tmp 23) = .int .i64 k := hd ⟨6, .data⟩ (by simp)
        simp [execOp, e0, e1, Yields, go_sem, hlt]
        exact ⟨m, rfl⟩
      · intro ρ w' ⟨m, hw⟩ hx hd ho; subst hw
        have e0 : ρ (.tmp 24) = .pointer (some ⟨b2, k, none⟩) := hd ⟨7, .data⟩ (by simp)
        simp [execOp, e0, Yields, go_sem, x2]
        exact ⟨m, rfl⟩
      · intro ρ w' ⟨m, hw⟩ hx hd ho; subst hw
        have e0 : ρ (.tmp 25) = .float .f32 (g k) := hd ⟨8, .data⟩ (by simp)
        obtain ⟨r, q, hr, hc, _⟩ := run_widen_op (P := Try.prog) (w.drewN m) _ e0 Try.underlying32 Try.underlying36
        rw [hr]
        exact ⟨⟨r, rfl, hc⟩, _, World.drewN_drewN _ _ _⟩
      · intro ρ w' ⟨m, hw⟩ hx hd ho; subst hw
        obtain ⟨r, e0, hc0⟩ : ∃ r, ρ (.tmp 21) = .float .f64 r ∧ cl .f64 r = fconv .f32 .f64 (cl .f32 (f k)) := hd ⟨4, .data⟩ (by simp)
        obtain ⟨q, e1, hc1⟩ : ∃ r, ρ (.tmp 26) = .float .f64 r ∧ cl .f64 r = fconv .f32 .f64 (cl .f32 (g k)) := hd ⟨9, .data⟩ (by simp)
        have e2 : ρ (.func 23) = .func (.func 23) #[] #[] := hx _ (by simp)
        simp [execOp, e0, e1, e2, Yields, go_sem]
        refine (sameFloat_c r q _ (by rw [hc0, hc1, HF.out k hlt])).mono ?_
        rintro e w'' ⟨rfl, m2, rfl⟩
        exact ⟨_, rfl, rfl, _, World.drewN_drewN _ _ _⟩
      · intro ρ w' ⟨m, hw⟩ hx hd ho; subst hw
        have e0 : ρ (.tmp 27) = .bool true := hd ⟨10, .data⟩ (by simp)
        simp [execOp, e0, Yields, go_sem, Op.unary]
        exact ⟨m, rfl⟩
      · intro vs hvs w' ⟨m, hw⟩
        subst hw
        have h11 : vs 11 = .bool false := hvs 11 (by decide)
        clear hvs
        simp [putN, Act.put, h11]
        clear h11
        go_wp2
        go_roundw
        case rel => exact ⟨k + 1, _, by omega, by go_num, rfl⟩
        case measure => simp [intOf]; omega
    · go_wp2
      go_ret
      exact retB _ rfl

/-- The class of the sum of the first k numbers, from left to right. -/
def fsum (f : Nat → Nat) : Nat → Option Nat
  | 0 => some 0
  | k + 1 => fbin .add .f32 (fsum f k) (cl .f32 (f k))
/-- The class of the sum of the products of the first k numbers. -/
def fdot (f g : Nat → Nat) : Nat → Option Nat
  | 0 => some 0
  | k + 1 => fbin .add .f32 (fdot f g k) (fbin .mul .f32 (cl .f32 (f k)) (cl .f32 (g k)))
end Go.Proofs.Ytpjonajpgidjfaa
