/-
  Rows of numbers in memory, for every seat: what a slice argument reads as, the block that a copy makes, and the laws' own helpers over slices of float32 (copied, compared). No condition.
-/
import Derived.Test.YtemolaojjnpfnaaCmn
import Derived.Handy
import Derived.Test.YtemolaojjnpfnaaFree
import Derived.DataOpen
import Derived.Deep.Slices
namespace Go.Proofs.Ytemolaojjnpfnaa
set_option linter.unusedVariables false
open Go.RowKit Ieee

/-- A block's cells, told by a function. -/
def rowA (f : Nat → Value) (n : Nat) : Array Value := ((List.range n).map f).toArray
/-- The same, filled up to k. -/
def part (f : Nat → Value) (z : Value) (n k : Nat) : Array Value := ((List.range n).map fun i => if i < k then f i else z).toArray

theorem size_rowA (f : Nat → Value) (n : Nat) : (rowA f n).size = n := by simp [rowA]
theorem size_part (f : Nat → Value) (z : Value) (n k : Nat) : (part f z n k).size = n := by simp [part]
theorem rowA_get (f : Nat → Value) {n i : Nat} (h : i < n) : (rowA f n)[i]? = some (f i) := by simp [rowA, h]
theorem part_get (f : Nat → Value) (z : Value) {n k i : Nat} (h : i < n) : (part f z n k)[i]? = some (if i < k then f i else z) := by simp [part, h]
theorem part_full (f : Nat → Value) (z : Value) (n : Nat) : part f z n n = rowA f n := by
  unfold part rowA
  congr 1
  apply List.map_congr_left
  intro i hi
  rw [if_pos (List.mem_range.1 hi)]
theorem part_set (f : Nat → Value) (z : Value) {n k : Nat} (h : k < n) : (part f z n k).setIfInBounds k (f k) = part f z n (k + 1) := by
  apply Array.ext
  · simp [size_part]
  · intro i h1 h2
    have hi : i < n := by simpa [size_part] using h2
    rw [Array.getElem_setIfInBounds (by rw [size_part]; exact hi)]
    simp only [part, List.getElem_toArray, List.getElem_map, List.getElem_range]
    by_cases hik : k = i
    · subst hik; simp
    · rw [if_neg hik]
      by_cases h3 : i < k
      · rw [if_pos h3, if_pos (by omega)]
      · rw [if_neg h3, if_neg (by omega)]
theorem part_made (f : Nat → Value) (z : Value) (n : Nat) (hz : z.cells = #[z]) : madeCells z.cells (n * 1) = part f z n 0 := by
  apply Array.ext
  · simp [size_part, size_madeCells]
  · intro i h1 h2
    simp [madeCells, part, hz, Nat.mod_one]
theorem rowA_congr {f g : Nat → Value} {n : Nat} (h : ∀ i, i < n → f i = g i) : rowA f n = rowA g n := by
  unfold rowA
  congr 1
  exact List.map_congr_left fun i hi => h i (List.mem_range.1 hi)

/-- A slice that came in reads as n values: its cells are there; a nil slice has none. -/
def Row (w : World) (a : Option Addr) (len cap : Nat) (f : Nat → Value) : Prop :=
  len = 0 ∨ ∃ b off, a = some ⟨b, off, none⟩ ∧ b < w.heap.size ∧ len ≤ cap ∧ ∀ i, i < len → w.cell? ⟨b, off + i, none⟩ = some (f i)

theorem heap_lt {w : World} {b o : Nat} {v : Value} (h : w.cell? ⟨b, o, none⟩ = some v) : b < w.heap.size := by
  unfold World.cell? at h
  split at h
  · rename_i heq; exact (Array.getElem?_eq_some_iff.1 heq).1
  · cases h

theorem info_of {P : Program} {t : TypeId} {z : Value} {n b : Nat} (h : (P.info? t).map (fun i => (i.zero, i.size, i.bytes)) = some (some z, n, b)) : ∃ i, P.info? t = some i ∧ i.zero = some z ∧ i.size = n ∧ i.bytes = b := by
  cases hi : P.info? t with
  | none => rw [hi] at h; cases h
  | some i => rw [hi] at h; simp at h; exact ⟨i, rfl, h.1, h.2.1, h.2.2⟩

theorem run_make_part {P : Program} {t e : TypeId} {z : Value} {by_ : Nat} (ht : P.underlying t = some (.slice e)) (hi : (P.info? e).map (fun i => (i.zero, i.size, i.bytes)) = some (some z, 1, by_)) (hz : z.cells = #[z]) (f : Nat → Value) (n : Nat)
    (hb : by_ * n ≤ 281474976710656) (hn : n ≤ 9223372036854775807) (w : World) :
    (Instr.makeSlice t (.int .i64 (n : Int)) (.int .i64 (n : Int))).run P w = .ok (.slice (some ⟨w.heap.size, 0, none⟩) n n) (w.alloc (.cells (part f z n 0) e)) := by
  obtain ⟨i, h1, h2, h3, h4⟩ := info_of hi
  have hb' : (i.bytes : Int) * (n : Int) ≤ 281474976710656 := by
    rw [h4]
    have h : ((by_ * n : Nat) : Int) ≤ 281474976710656 := by omega
    rwa [Int.natCast_mul] at h
  have hr := run_make (P := P) w t e i z ht h1 h2 .i64 .i64 n n (by omega) (by omega) hb' (by omega)
  rw [h3] at hr
  simp only [Int.toNat_natCast] at hr
  rw [hr, part_made f z n hz]

/-! ### a slice argument, opened -/
section
open Go.WideShapes
variable {H : Type} {enc : TypeId × Value → H} {P : Program} {w : World} {base : Nat} {spare : Nat → Bool} {held : Bool}

theorem trod_float {n : Nat} {t : TypeId} {k : FloatKind} {v : Value} {d : DataW H} {ps : List MemPlace} (ht : P.underlying t = some (.float k)) (h : DataW.trod enc P w base spare held n t [v] = some (d, ps)) :
    ∃ b, v = .float k b ∧ (Lit.float k b).wf = true := by
  cases n with
  | zero => simp [DataW.trod] at h
  | succ n =>
    simp only [DataW.trod, ht] at h
    cases v <;> simp_all

theorem trod_int' {n : Nat} {t : TypeId} {k : IntKind} {v : Value} {d : DataW H} {ps : List MemPlace} (ht : P.underlying t = some (.int k)) (h : DataW.trod enc P w base spare held n t [v] = some (d, ps)) :
    ∃ b, v = .int k b ∧ (Lit.int k b).wf = true := by
  obtain ⟨m, h1, _, h3⟩ := DataW.trod_int ht h
  exact ⟨m, by simpa using h1, h3⟩

theorem open_row {t e : TypeId} {a : Option Addr} {len cap : Nat} {d : DataW H} {ps : List MemPlace} {α : Type} (α0 : α) (mk : α → Value) (ok : α → Prop) (ht : P.underlying t = some (.slice e)) (hc : P.cellsOf e = 1)
    (hel : ∀ {n : Nat} {v : Value} {d : DataW H} {ps : List MemPlace}, DataW.trod enc P w base spare held n e [v] = some (d, ps) → ∃ b, v = mk b ∧ ok b)
    (hd : DataW.Trod enc P w base spare held t (.slice a len cap) d ps) :
    ∃ z : Nat → α, Row w a len cap (fun i => mk (z i)) ∧ ∀ i, i < len → ok (z i) := by
  obtain ⟨fuel, hf⟩ := hd
  rcases Go.Deep.open_slice1 ht hc hf with ⟨hcs, _⟩ | ⟨x, l, c, m, n, V, D, Pl, hcs, _, hl, hm, hmm, _, hV⟩
  · simp [Value.cells] at hcs
    obtain ⟨rfl, rfl, rfl⟩ := hcs
    exact ⟨fun _ => α0, .inl rfl, fun i hi => by omega⟩
  · simp [Value.cells] at hcs
    obtain ⟨rfl, rfl, rfl⟩ := hcs
    by_cases h0 : len = 0
    · exact ⟨fun _ => α0, .inl h0, fun i hi => by omega⟩
    · have hle : len ≤ m := by rw [hmm]; split <;> omega
      have hex : ∀ i, i < len → ∃ b, V i = mk b ∧ ok b := fun i hi => hel (hV i (by omega)).2
      let z : Nat → α := fun i => if h : i < len then Classical.choose (hex i h) else α0
      have hz : ∀ i, i < len → V i = mk (z i) ∧ ok (z i) := by
        intro i hi
        show V i = mk (if h : i < len then Classical.choose (hex i h) else α0) ∧ ok (if h : i < len then Classical.choose (hex i h) else α0)
        rw [dif_pos hi]
        exact Classical.choose_spec (hex i hi)
      obtain ⟨b, off, spot⟩ := x
      have h1 := (hV 0 (by omega)).1
      have hspot : spot = none := by simpa [Addr.add] using World.cell?_spot h1
      subst hspot
      have hcell : ∀ i, i < len → w.cell? ⟨b, off + i, none⟩ = some (mk (z i)) := by
        intro i hi
        have h2 := (hV i (by omega)).1
        rw [(hz i hi).1] at h2
        by_cases h0 : i = 0
        · subst h0; simpa [Addr.add] using h2
        · simpa [Addr.add, h0] using h2
      exact ⟨z, .inr ⟨b, off, rfl, heap_lt (hcell 0 (by omega)), hl, hcell⟩, fun i hi => (hz i hi).2⟩

theorem open_row_sF32 {t e : TypeId} {v : Value} {d : DataW H} {ps : List MemPlace} {r : Reach} {b0 : Nat} (ht : P.underlying t = some (.slice e)) (he : P.underlying e = some (.float .f32)) (hc : P.cellsOf e = 1) (hval : Value.okWide P w r b0 t v)
    (hd : DataW.Trod enc P w base spare held t v d ps) : ∃ (a : Option Addr) (len cap : Nat) (z : Nat → Nat), v = .slice a len cap ∧ Row w a len cap (fun i => .float .f32 (z i)) ∧ ∀ i, i < len → (Lit.float .f32 (z i)).wf = true := by
  obtain ⟨a, len, cap, rfl⟩ := okWide_slice ht hval
  obtain ⟨z, h1, h2⟩ := open_row (α := Nat) 0 (Value.float .f32) (fun b => (Lit.float .f32 b).wf = true) ht hc (fun h => trod_float he h) hd
  exact ⟨a, len, cap, z, rfl, h1, h2⟩

theorem open_row_sI64 {t e : TypeId} {v : Value} {d : DataW H} {ps : List MemPlace} {r : Reach} {b0 : Nat} (ht : P.underlying t = some (.slice e)) (he : P.underlying e = some (.int .i64)) (hc : P.cellsOf e = 1) (hval : Value.okWide P w r b0 t v)
    (hd : DataW.Trod enc P w base spare held t v d ps) : ∃ (a : Option Addr) (len cap : Nat) (z : Nat → Int), v = .slice a len cap ∧ Row w a len cap (fun i => .int .i64 (z i)) ∧ ∀ i, i < len → (Lit.int .i64 (z i)).wf = true := by
  obtain ⟨a, len, cap, rfl⟩ := okWide_slice ht hval
  obtain ⟨z, h1, h2⟩ := open_row (α := Int) 0 (Value.int .i64) (fun b => (Lit.int .i64 b).wf = true) ht hc (fun h => trod_int' he h) hd
  exact ⟨a, len, cap, z, rfl, h1, h2⟩
end


theorem conv_same {P : Program} {t : TypeId} {k : FloatKind} (ht : P.underlying t = some (.float k)) (b : Nat) (w : World) : (convert t t (.float k b)).run P w = .ok (.float k b) w :=
  run_convert_float_float w t t k k b b (by rw [ht]; rfl) ht (by unfold floatToFloatBits; rw [if_pos rfl])

theorem conv32 (b : Nat) (w : World) : (convert 22 22 (.float .f32 b)).run Try.prog w = .ok (.float .f32 b) w := conv_same Try.underlying22 b w
attribute [go_sem] conv32
theorem conv64 (b : Nat) (w : World) : (convert 25 25 (.float .f64 b)).run Try.prog w = .ok (.float .f64 b) w := conv_same Try.underlying25 b w
attribute [go_sem] conv64


/-- The class of the sum of the first k numbers, from left to right. -/
def fsum (f : Nat → Nat) : Nat → Option Nat
  | 0 => some 0
  | k + 1 => fbin .add .f32 (fsum f k) (cl .f32 (f k))
/-- The class of the sum of the products of the first k numbers. -/
def fdot (f g : Nat → Nat) : Nat → Option Nat
  | 0 => some 0
  | k + 1 => fbin .add .f32 (fdot f g k) (fbin .mul .f32 (cl .f32 (f k)) (cl .f32 (g k)))
end Go.Proofs.Ytemolaojjnpfnaa
