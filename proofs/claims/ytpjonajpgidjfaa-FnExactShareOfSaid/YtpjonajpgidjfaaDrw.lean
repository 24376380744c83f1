/-
  Pictures that are made light by light: the words, and spec's plain picture. No condition.
-/
import Derived.Test.YtpjonajpgidjfaaRegI
import Derived.Test.YtpjonajpgidjfaaPic
import Derived.OwnWalk
import Derived.Laws.AppendOwn
import Derived.Deep.AppendLies
namespace Go.Proofs.Ytpjonajpgidjfaa
set_option linter.unusedVariables false
open Go.RowKit Ieee

/-- Block g is these cells, of type t, none frozen. -/
def Has (w : World) (g : Nat) (t : TypeId) (cs : Array Value) : Prop := w.heap[g]? = some (.cells cs t (0, 0))

section
variable {w w' : World} {g : Nat} {t : TypeId} {cs : Array Value}
theorem Has.inside (h : Has w g t cs) : g < w.heap.size := by
  cases Nat.lt_or_ge g w.heap.size with
  | inl h1 => exact h1
  | inr h1 => exfalso; unfold Has at h; rw [Array.getElem?_eq_none h1] at h; cases h
theorem Has.at (h : Has w g t cs) (i : Nat) : w.cell? ⟨g, i, none⟩ = cs[i]? := cell_of_row w g i cs t (0, 0) h
theorem Has.free (h : Has w g t cs) (i : Nat) : w.frozen? ⟨g, i, none⟩ = false := by
  have h' := h
  unfold Has at h'
  simp [World.frozen?, h']
theorem Has.ofAlloc (w : World) (t : TypeId) (cs : Array Value) : Has (w.alloc (.cells cs t)) w.heap.size t cs := heap_alloc_new w _
theorem Has.past (h : Has w g t cs) (o : Obj) : Has (w.alloc o) g t cs := (Below.heap_alloc w o g h.inside).trans h
theorem Has.put (h : Has w g t cs) (i : Nat) (u : Value) : Has (w.setCell ⟨g, i, none⟩ u) g t (cs.setIfInBounds i u) := by
  unfold Has at h ⊢
  simp [World.setCell, Array.getElem?_modify, h]
theorem Has.aside (h : Has w g t cs) {b : Nat} (hb : g ≠ b) (i : Nat) (u : Value) : Has (w.setCell ⟨b, i, none⟩ u) g t cs := (Below.heap_setCell w ⟨b, i, none⟩ u g hb).trans h
theorem Has.low {B : Nat} (h : Has w g t cs) (hb : Below B w w') (hg : g < B) : Has w' g t cs := (hb.block g hg).trans h
theorem Has.kept {row : Option Nat} (h : Has w g t cs) (hb : w.grownBy w' row) (hg : some g ≠ row) : Has w' g t cs := (hb.block g h.inside hg).trans h
theorem Has.apart {g' : Nat} {t' : TypeId} {cs' : Array Value} (h : Has w g t cs) (h' : Has w g' t' cs') (hne : t ≠ t') : g ≠ g' := by
  intro e
  subst e
  have := Option.some.inj (h.symm.trans h')
  injection this with _ ht
  exact hne ht
end
theorem grownBy_set (w : World) (g i : Nat) (u : Value) : w.grownBy (w.setCell ⟨g, i, none⟩ u) (some g) :=
  ⟨rfl, rfl, rfl, by simp [World.setCell], fun k _ hk => Below.heap_setCell _ _ _ k (fun e => hk (by rw [e]))⟩
theorem grownBy_below {w w' : World} (h : Below w.heap.size w w') (row : Option Nat) : w.grownBy w' row := ⟨h.os, h.tape, h.output, h.size, fun k hk _ => h.block k hk⟩
theorem grownBy_trans {a b c : World} {row : Option Nat} (h : a.grownBy b row) (k : b.grownBy c row) : a.grownBy c row :=
  ⟨k.os.trans h.os, k.tape.trans h.tape, k.output.trans h.output, Nat.le_trans h.size k.size, fun i hi hn => (k.block i (Nat.lt_of_lt_of_le hi h.size) hn).trans (h.block i hi hn)⟩

/-- A slice of the call's own: its numbers, told by their classes. -/
def Own (w : World) (base : Nat) (v : Value) (k : Nat) (cls : Nat → Option Nat) : Prop :=
  ∃ xs : List Nat, xs.length = k ∧ (∀ i, i < k → cl .f32 (xs.getD i 0) = cls i) ∧ w.ownsRow base 32 1 v k (xs.map (Value.float .f32))

section
variable {w w' : World} {base k : Nat} {v : Value} {cls : Nat → Option Nat}
theorem Own.kept {row : Option Nat} (h : Own w base v k cls) (hg : w.grownBy w' row) (hne : v.ownBlock ≠ row) : Own w' base v k cls := by
  obtain ⟨xs, h1, h2, h3⟩ := h
  exact ⟨xs, h1, h2, h3.kept hg (.inr hne)⟩
theorem Own.low (h : Own w base v k cls) (hb : Below w.heap.size w w') : Own w' base v k cls := by
  obtain ⟨xs, h1, h2, h3⟩ := h
  refine ⟨xs, h1, h2, h3.kept (row := none) (grownBy_below hb _) ?_⟩
  by_cases h0 : v.ownBlock = none
  · exact .inl h0
  · exact .inr h0
theorem Own.apart {g : Nat} {t : TypeId} {cs : Array Value} (h : Own w base v k cls) (hg : Has w g t cs) (hne : 32 ≠ t) : v.ownBlock ≠ some g := by
  obtain ⟨xs, _, _, h3⟩ := h
  rcases h3.2 with ⟨rfl, _⟩ | ⟨g', cap, cur, rfl, _, hh, _⟩
  · simp [Value.ownBlock]
  · intro he
    have : g' = g := by simpa [Value.ownBlock] using he
    subst this
    exact Has.apart (t := 32) hh hg hne rfl
theorem Own.lt (h : Own w base v k cls) : ∀ q, v.ownBlock = some q → base ≤ q ∧ q < w.heap.size := by
  obtain ⟨xs, _, _, h3⟩ := h
  exact h3.lt
theorem Own.form (h : Own w base v k cls) : ∃ a c, v = .slice a k c := by
  obtain ⟨xs, _, _, h3⟩ := h
  rcases h3.2 with ⟨rfl, rfl⟩ | ⟨g', cap, cur, rfl, _⟩
  · exact ⟨_, _, rfl⟩
  · exact ⟨_, _, rfl⟩
theorem Own.nil (w : World) (base : Nat) (cls : Nat → Option Nat) : Own w base (.slice none 0 0) 0 cls := ⟨[], rfl, fun i hi => absurd hi (Nat.not_lt_zero _), World.ownsRow_nil _ _ _ _⟩
theorem Own.made (w : World) (base : Nat) (hb : base ≤ w.heap.size) (cls : Nat → Option Nat) : Own (w.alloc (.cells #[] 32)) base (.slice (some ⟨w.heap.size, 0, none⟩) 0 0) 0 cls :=
  ⟨[], rfl, fun i hi => absurd hi (Nat.not_lt_zero _), World.ownsRow_made _ _ _ hb (by decide) rfl⟩
/-- What it reads as. -/
theorem Own.row (h : Own w base v k cls) (hk : 0 < k) : ∃ g cap f, v = .slice (some ⟨g, 0, none⟩) k cap ∧ base ≤ g ∧ RowAt w g k f ∧ (∀ i, i < k → cl .f32 (f i) = cls i) ∧ ∃ cur, Has w g 32 cur ∧ k ≤ cur.size := by
  obtain ⟨xs, h1, h2, h3⟩ := h
  obtain ⟨g, cap, rfl, hb, hlt⟩ := h3.form hk
  refine ⟨g, cap, fun i => xs.getD i 0, rfl, hb, ⟨hlt, ?_⟩, h2, ?_⟩
  · intro i hi
    have hc := h3.cells (g := g) rfl i (.float .f32 (xs.getD i 0)) (by simp [List.getD_eq_getElem?_getD, show i < xs.length by omega])
    have ha : (⟨g, 0, none⟩ : Addr).add i = ⟨g, i, none⟩ := by unfold Addr.add; split <;> simp_all
    rw [ha] at hc
    exact hc
  · rcases h3.2 with ⟨hv, _⟩ | ⟨g', cap', cur, hv, _, hh, hn, _, hs, _⟩
    · cases hv
    · cases hv
      exact ⟨cur, hh, by omega⟩
theorem Own.snoc {xs : List Nat} {x : Nat} (h1 : xs.length = k) (h2 : ∀ i, i < k → cl .f32 (xs.getD i 0) = cls i) (h3 : w.ownsRow base 32 1 v (k + 1) (xs.map (Value.float .f32) ++ [.float .f32 x])) (hx : cl .f32 x = cls k) : Own w base v (k + 1) cls := by
  refine ⟨xs ++ [x], by simp [h1], ?_, by simpa using h3⟩
  intro i hi
  by_cases hik : i < k
  · rw [List.getD_eq_getElem?_getD, List.getElem?_append_left (by omega), ← List.getD_eq_getElem?_getD]; exact h2 i hik
  · have : i = k := by omega
    subst this
    rw [List.getD_eq_getElem?_getD, List.getElem?_append_right (by omega), h1]
    simpa using hx
end

/-- The append of one number to a slice of the call's own. -/
theorem run_snoc (w : World) (base : Nat) (v : Value) (k : Nat) (cls : Nat → Option Nat) (h : Own w base v k cls) (B x : Nat) (hB : w.cell? ⟨B, 0, none⟩ = some (.float .f32 x)) (hx : cl .f32 x = cls k) (hk : k < 1048576) (hb : base ≤ w.heap.size) (ty : TypeId) :
    ∃ v' w', (Builtin.append_ #[22, 22] ty #[v, .slice (some ⟨B, 0, none⟩) 1 1]).run Try.prog w = .ok v' w' ∧ Own w' base v' (k + 1) cls ∧ w.grownBy w' v.ownBlock := by
  obtain ⟨xs, h1, h2, h3⟩ := h
  obtain ⟨i0, hi, hz0, hz1, hz2⟩ := info_parts infoF
  obtain ⟨v', w', hr, ho, hg, _⟩ := run_append_own (P := Try.prog) w base 22 ty 32 i0 (.float .f32 0) 1 4 Try.underlying22 hi hz0 hz1 hz2 rfl (by decide) v k (xs.map (Value.float .f32)) h3 ⟨B, 0, none⟩ 1 1 [.float .f32 x] rfl
    (by intro j u hj; match j, hj with | 0, hj => simp at hj; subst hj; simpa [Addr.add] using hB) (by intro u hu; simp at hu; subst hu; rfl) (by unfold maxLen; omega) (by omega) hb
  exact ⟨v', w', hr, Own.snoc h1 h2 ho hx, hg⟩

theorem wpList_snoc {w : World} {ops : Array Oper} {rest : List Oper} {o : Oper} {a : Act} {Q : Exit → Act → World → Prop} (hgd : o.guard = none) (s x : Operand)
    (ho : o.op = .call { callee := .builtin .append, args := #[s, x], argTypes := #[22, 22] })
    (base : Nat) (v : Value) (k : Nat) (cls : Nat → Option Nat) (h : Own w base v k cls) (hs : a.eval s = v) (B y : Nat) (hx : a.eval x = .slice (some ⟨B, 0, none⟩) 1 1) (hB : w.cell? ⟨B, 0, none⟩ = some (.float .f32 y)) (hy : cl .f32 y = cls k) (hk : k < 1048576) (hb : base ≤ w.heap.size)
    (hq : ∀ A c w', Own w' base (.slice A (k + 1) c) (k + 1) cls → w.grownBy w' v.ownBlock → wpList Try.prog ops Q rest (a.put o.dst (.slice A (k + 1) c)) w') : wpList Try.prog ops Q (o :: rest) a w := by
  refine wpList_plain hgd fun _ hK => ?_
  obtain ⟨v', w', hr, h1, h2⟩ := run_snoc w base v k cls h B y hB hy hk hb o.type
  unfold Oper.wp execOp
  simp only [ho, resolve, invoke, builtin, Sem.run_bind, Sem.run_pure, Result.andThen_ok, List.map_toArray, List.map_cons, List.map_nil, hs, hx, hr]
  obtain ⟨A, c, rfl⟩ := h1.form
  exact hK _ _ (hq A c w' h1 h2)

/-- The picture that a call made. -/
def MadeR (w : World) (wi hi : Int) (n : Nat) (cls : Nat → Option Nat) (e : Ending) (w' : World) : Prop :=
  ∃ a c, e = .returned (.agg #[.int .i64 wi, .int .i64 hi, .slice a n c]) ∧ Own w' w.heap.size (.slice a n c) n cls ∧ Below w.heap.size w w'

theorem blank_c (wi hi : Int) (cls : Nat → Option Nat) (w : World) : Calls Try.prog 68 #[.int .i64 wi, .int .i64 hi] w (MadeR w wi hi 0 cls) := by
  go_enter Try.func68, Try.ntmps68
  go_wp2
  refine bodyPost_ret (v := .agg #[.int .i64 wi, .int .i64 hi, .slice (some ⟨w.heap.size + 1, 0, none⟩) 0 0]) (by simp [results, Try.results68, go_sem]) rfl ?_
  refine ⟨_, _, rfl, ?_, ((Below.refl _ _).alloc (Nat.le_refl _) _).alloc (by simp) _⟩
  have := Own.made (w.alloc (Obj.cells #[.int .i64 wi, .int .i64 hi, .slice (some ⟨w.heap.size + 1, 0, none⟩) 0 0] 27)) w.heap.size (by simp) cls
  simpa using this

theorem prodN {wi hi : Int} (h : sidesB wi hi = true) : ∃ N : Nat, (N : Int) = wi * hi ∧ 1 ≤ N ∧ N ≤ 256 := by
  have := prod_256 h
  exact ⟨(wi * hi).toNat, by omega, by omega, by omega⟩

/-- The block of a picture, and its slice of the call's own. -/
def Mid (W : World) (p r : Nat) (wi hi : Int) (cls : Nat → Option Nat) (k : Nat) (wr : World) : Prop :=
  ∃ a c, Has wr p 27 #[.int .i64 wi, .int .i64 hi, .slice a k c] ∧ Own wr W.heap.size (.slice a k c) k cls ∧ Has wr r 27 #[.int .i64 0, .int .i64 0, .slice none 0 0] ∧ Below W.heap.size W wr

theorem f_ne_p : 32 ≠ 27 := by decide

theorem mid_next {W : World} {p r : Nat} {wi hi : Int} {cls : Nat → Option Nat} {k : Nat} {wr wa w2 : World} {A A2 : Option Addr} {c c4 : Nat} (hW : W.heap.size ≤ p) (hpr : p ≠ r) (HP : Has wr p 27 #[.int .i64 wi, .int .i64 hi, .slice A k c]) (HO : Own wr W.heap.size (.slice A k c) k cls)
    (HR : Has wr r 27 #[.int .i64 0, .int .i64 0, .slice none 0 0]) (HB : Below W.heap.size W wr) (ha : Below wr.heap.size wr wa) (O2 : Own w2 W.heap.size (.slice A2 (k + 1) c4) (k + 1) cls) (G2 : wa.grownBy w2 (Value.slice A k c).ownBlock) :
    Mid W p r wi hi cls (k + 1) (w2.setCell ⟨p, 2, none⟩ (.slice A2 (k + 1) c4)) := by
  have hp2 := (HP.low ha HP.inside).kept G2 (fun h => HO.apart HP f_ne_p h.symm)
  have hr2 := (HR.low ha HR.inside).kept G2 (fun h => HO.apart HR f_ne_p h.symm)
  have hb2 := (below_trans HB ha).grown G2 (by have := HB.size; have := ha.size; omega) (fun q hq => (HO.lt q hq).1)
  exact ⟨A2, c4, by simpa using hp2.put 2 _, O2.kept (grownBy_set _ _ _ _) (O2.apart hp2 f_ne_p), hr2.aside (Ne.symm hpr) _ _, hb2.setCell hW _⟩

/-- The result's block, filled at the end. -/
theorem mid_end {W : World} {r : Nat} {cls : Nat → Option Nat} {k : Nat} {wr : World} {A : Option Addr} {c : Nat} (hW : W.heap.size ≤ r) (HO : Own wr W.heap.size (.slice A k c) k cls) (HR : Has wr r 27 #[.int .i64 0, .int .i64 0, .slice none 0 0]) (HB : Below W.heap.size W wr) (u v x : Value) :
    Has (((wr.setCell ⟨r, 0, none⟩ u).setCell ⟨r, 1, none⟩ v).setCell ⟨r, 2, none⟩ x) r 27 #[u, v, x] ∧ Own (((wr.setCell ⟨r, 0, none⟩ u).setCell ⟨r, 1, none⟩ v).setCell ⟨r, 2, none⟩ x) W.heap.size (.slice A k c) k cls ∧
      Below W.heap.size W (((wr.setCell ⟨r, 0, none⟩ u).setCell ⟨r, 1, none⟩ v).setCell ⟨r, 2, none⟩ x) := by
  have h1 := HR.put 0 u
  have h2 := h1.put 1 v
  have h3 := h2.put 2 x
  have na := HO.apart HR f_ne_p
  refine ⟨by simpa using h3, ?_, (((HB.setCell hW _).setCell hW _).setCell hW _)⟩
  exact ((HO.kept (grownBy_set _ _ _ _) na).kept (grownBy_set _ _ _ _) na).kept (grownBy_set _ _ _ _) na

set_option maxRecDepth 10000 in
theorem plain_c (wi hi : Int) (N x : Nat) (hN : (N : Int) = wi * hi) (hN1 : N ≤ 256) (w : World) : Calls Try.prog 60 #[.int .i64 wi, .int .i64 hi, .float .f32 x] w (MadeR w wi hi N (fun _ => cl .f32 x)) := by
  have Bl := Lib.hid (blank_c wi hi (fun _ => cl .f32 x))
  have hw : wrap64 (wi * hi) = N := by unfold wrap64; omega
  clear hN
  go_enter Try.func60, Try.ntmps60
  go_wp2_with fail
  refine (Bl.out _).mono ?_; rintro e w1 ⟨a, c, rfl, ow, b1⟩
  have z1 := b1.size
  simp at z1
  have OW : Hid (Own w1 w.heap.size (.slice a 0 c) 0 (fun _ => cl .f32 x)) := by
    obtain ⟨xs, h1, h2, h3⟩ := ow
    refine ⟨xs, h1, h2, h3.1, ?_⟩
    rcases h3.2 with h | ⟨g, cap, cur, h4, h5, h6⟩
    · exact .inl h
    · exact .inr ⟨g, cap, cur, h4, by simp at h5; omega, h6⟩
  have HR0 := Lib.hid (Has.low (Has.ofAlloc w 27 #[.int .i64 0, .int .i64 0, .slice none 0 0]) b1 (by simp))
  have BB := Lib.hid (below_trans ((Below.refl _ _).alloc (Nat.le_refl _) _) b1)
  clear ow b1
  go_wp2_with fail
  go_loopw [8] (fun i wr => ∃ k : Nat, k ≤ N ∧ i = .int .i64 k ∧ Mid w w1.heap.size w.heap.size wi hi (fun _ => cl .f32 x) k wr) (fun i _ => N - (intOf i).toNat)
  case atStart => exact ⟨0, Nat.zero_le _, rfl, a, c, Has.ofAlloc _ _ _, OW.out.low ((Below.refl _ _).alloc (Nat.le_refl _) _), HR0.out.past _, below_trans BB.out ((Below.refl _ _).alloc (Nat.le_refl _) _)⟩
  case round =>
    obtain ⟨k, hk, rfl, A, c3, hp, ho, hr, hb⟩ := hrel
    rename_i wr
    have zr := hp.inside
    have c0 := hp.at 0
    have c1 := hp.at 1
    have c2 := hp.at 2
    simp at c0 c1 c2
    have HP := Lib.hid hp
    have HO := Lib.hid ho
    have HR := Lib.hid hr
    have HB := Lib.hid hb
    clear hp ho hr hb
    by_cases hlt : k < N
    · go_wp2_with (at_builtin; refine wpList_snoc rfl (.tmp 20) (.tmp 22) rfl w.heap.size _ k _ (HO.out.low ((Below.refl _ _).alloc (Nat.le_refl _) _)) rfl _ x rfl (by simp [go_sem]) rfl (by omega) (by have := HB.out.size; simp; omega) ?_; intro A2 c4 w2 o2 g2; have hp2 := (HP.out.past _).kept g2 (fun h => (HO.out.apart HP.out (by decide)) h.symm); have c5 := hp2.at 2; have c6 := hp2.free 2; simp at c5; have O2 := Lib.hid o2; have G2 := Lib.hid g2; have HP2 := Lib.hid hp2; clear o2 g2 hp2)
      go_roundw
      case rel => exact ⟨k + 1, by omega, by go_num, mid_next (by omega) (by omega) HP.out HO.out HR.out HB.out ((Below.refl _ _).alloc (Nat.le_refl _) _) O2.out G2.out⟩
      case measure => simp [intOf]; omega
    · have hke : k = N := by omega
      subst hke
      have r0 := HR.out.at 0
      have r1 := HR.out.at 1
      have r2 := HR.out.at 2
      have rf0 := HR.out.free 0
      have rf1 := HR.out.free 1
      have rf2 := HR.out.free 2
      simp at r0 r1 r2
      go_wp2
      obtain ⟨m1, m2, m3⟩ := mid_end (Nat.le_refl _) HO.out HR.out HB.out (.int .i64 wi) (.int .i64 hi) (.slice A k c3)
      have q0 := m1.at 0
      have q1 := m1.at 1
      have q2 := m1.at 2
      simp at q0 q1 q2
      refine bodyPost_ret (v := .agg #[.int .i64 wi, .int .i64 hi, .slice A k c3]) (by simp [results, Try.results60, go_sem, q0, q1, q2]) rfl ?_
      exact ⟨_, _, rfl, m2, m3⟩

/-! ### a picture, if it is one -/
def allFinC (cls : Nat → Option Nat) (n : Nat) : Bool := decide (∀ i, i < n → fin .f32 (cls i) = true)
def picC (wi hi : Int) (n : Nat) (cls : Nat → Option Nat) : Bool := sidesB wi hi && (decide ((n : Int) = wi * hi) && allFinC cls n)
theorem picC_of {wi hi : Int} {n : Nat} {f : Nat → Nat} {cls : Nat → Option Nat} (h : ∀ i, i < n → cl .f32 (f i) = cls i) : picB wi hi n f = picC wi hi n cls := by
  have : allFin f n = allFinC cls n := by
    unfold allFin allFinC
    apply decide_eq_decide.2
    constructor
    · intro h1 i hi; rw [← h i hi]; exact h1 i hi
    · intro h1 i hi; rw [h i hi]; exact h1 i hi
  unfold picB picC
  rw [this]

def noPic : Value := .agg #[.int .i64 0, .int .i64 0, .slice none 0 0]
/-- The picture, or none, with the flag. -/
def GiveR (w : World) (P : Bool) (x : Value) (e : Ending) (w' : World) : Prop := e = .returned (.tuple #[cond P x noPic, .bool P]) ∧ Below w.heap.size w w'

theorem give_c (wi hi : Int) (base n : Nat) (A : Option Addr) (c : Nat) (cls : Nat → Option Nat) (w : World) (ho : Own w base (.slice A n c) n cls) (h0 : 0 < n) (hn : n ≤ 1048576) :
    Calls Try.prog 59 #[.agg #[.int .i64 wi, .int .i64 hi, .slice A n c]] w (GiveR w (picC wi hi n cls) (.agg #[.int .i64 wi, .int .i64 hi, .slice A n c])) := by
  obtain ⟨g, cap, f, hv, hbg, hrow, hcls, _⟩ := ho.row h0
  obtain ⟨rfl, rfl⟩ : A = some ⟨g, 0, none⟩ ∧ c = cap := by injection hv with h1 _ h2; exact ⟨h1, h2⟩
  have hPC := picC_of (wi := wi) (hi := hi) hcls
  have I := Lib.hid (fun p w => l02Is_c wi hi p g n c f w hn)
  have HR := Lib.hid hrow
  rw [hPC] at I
  clear ho hv hrow hcls hPC h0
  have HB : Hid (∀ v v', Below w.heap.size w ((w.alloc v).alloc v')) := fun v v' => ((Below.refl _ _).alloc (Nat.le_refl _) _).alloc (by simp) _
  unfold GiveR
  generalize picC wi hi n cls = P at I ⊢
  cases P with
  | false =>
    go_enter Try.func59, Try.ntmps59
    go_wp2_with fail
    refine (I.out _ _ (by simp [go_sem]) (by simp [go_sem]) (by simp [go_sem]) (rowAt_mono HR.out (HB.out _ _)).2).mono ?_; rintro e w' ⟨rfl, m, rfl⟩
    go_wp2_with fail
    refine bodyPost_ret (v := .tuple #[noPic, .bool false]) (by simp [results, Try.results59, go_sem, noPic]) rfl ?_
    refine ⟨rfl, ?_⟩
    first | exact below_drewN (HB.out _ _) _ | exact ((((below_drewN (HB.out _ _) _).setCell (by simp) _).setCell (by simp) _).setCell (by simp) _)
  | true =>
    go_enter Try.func59, Try.ntmps59
    go_wp2_with fail
    refine (I.out _ _ (by simp [go_sem]) (by simp [go_sem]) (by simp [go_sem]) (rowAt_mono HR.out (HB.out _ _)).2).mono ?_; rintro e w' ⟨rfl, m, rfl⟩
    go_wp2_with fail
    refine bodyPost_ret (v := .tuple #[.agg #[.int .i64 wi, .int .i64 hi, .slice (some ⟨g, 0, none⟩) n c], .bool true]) (by simp [results, Try.results59, go_sem]) rfl ?_
    refine ⟨rfl, ?_⟩
    first | exact below_drewN (HB.out _ _) _ | exact ((((below_drewN (HB.out _ _) _).setCell (by simp) _).setCell (by simp) _).setCell (by simp) _)

theorem orFail_c (wi hi : Int) (base n : Nat) (A : Option Addr) (c : Nat) (cls : Nat → Option Nat) (w : World) (ho : Own w base (.slice A n c) n cls) (h0 : 0 < n) (hn : n ≤ 1048576) :
    Calls Try.prog 62 #[.agg #[.int .i64 wi, .int .i64 hi, .slice A n c]] w (GiveR w (picC wi hi n cls) (.agg #[.int .i64 wi, .int .i64 hi, .slice A n c])) := by
  obtain ⟨g, cap, f, hv, hbg, hrow, hcls, _⟩ := ho.row h0
  obtain ⟨rfl, rfl⟩ : A = some ⟨g, 0, none⟩ ∧ c = cap := by injection hv with h1 _ h2; exact ⟨h1, h2⟩
  have hPC := picC_of (wi := wi) (hi := hi) hcls
  have I := Lib.hid (fun w => implValid_c wi hi g n c f w hn)
  have HR := Lib.hid hrow
  rw [hPC] at I
  clear ho hv hrow hcls hPC h0
  have HB : Hid (∀ v v', Below w.heap.size w ((w.alloc v).alloc v')) := fun v v' => ((Below.refl _ _).alloc (Nat.le_refl _) _).alloc (by simp) _
  unfold GiveR
  unfold picV at I
  generalize picC wi hi n cls = P at I ⊢
  cases P with
  | false =>
    go_enter Try.func62, Try.ntmps62
    go_wp2_with fail
    refine (I.out _ (rowAt_mono HR.out (HB.out _ _))).mono ?_; rintro e w1 ⟨rfl, b1⟩
    have hr := Has.low (Has.ofAlloc (w.alloc (Obj.cells #[.int .i64 wi, .int .i64 hi, .slice (some ⟨g, 0, none⟩) n c] 27)) 27 #[.int .i64 0, .int .i64 0, .slice none 0 0]) b1 (by simp)
    simp at hr
    have r0 := hr.at 0
    have r1 := hr.at 1
    have r2 := hr.at 2
    have f0 := hr.free 0
    have f1 := hr.free 1
    have f2 := hr.free 2
    simp at r0 r1 r2
    have BB := Lib.hid (below_trans (HB.out _ _) b1)
    clear b1 hr
    go_wp2_with fail
    refine bodyPost_ret (v := .tuple #[noPic, .bool false]) (by simp [results, Try.results62, go_sem, noPic, r0, r1, r2]) rfl ?_
    refine ⟨rfl, ?_⟩
    first | exact BB.out | exact (((BB.out.setCell (by simp) _).setCell (by simp) _).setCell (by simp) _)
  | true =>
    go_enter Try.func62, Try.ntmps62
    go_wp2_with fail
    refine (I.out _ (rowAt_mono HR.out (HB.out _ _))).mono ?_; rintro e w1 ⟨rfl, b1⟩
    have hr := Has.low (Has.ofAlloc (w.alloc (Obj.cells #[.int .i64 wi, .int .i64 hi, .slice (some ⟨g, 0, none⟩) n c] 27)) 27 #[.int .i64 0, .int .i64 0, .slice none 0 0]) b1 (by simp)
    simp at hr
    have hx := Has.low ((Has.ofAlloc w 27 #[.int .i64 wi, .int .i64 hi, .slice (some ⟨g, 0, none⟩) n c]).past (.cells #[.int .i64 0, .int .i64 0, .slice none 0 0] 27)) b1 (by simp; omega)
    have r0 := hr.at 0
    have r1 := hr.at 1
    have r2 := hr.at 2
    have f0 := hr.free 0
    have f1 := hr.free 1
    have f2 := hr.free 2
    have x0 := hx.at 0
    have x1 := hx.at 1
    have x2 := hx.at 2
    simp at r0 r1 r2 x0 x1 x2
    have hr3 := ((hr.put 0 (.int .i64 wi)).put 1 (.int .i64 hi)).put 2 (.slice (some ⟨g, 0, none⟩) n c)
    have q0 := hr3.at 0
    have q1 := hr3.at 1
    have q2 := hr3.at 2
    simp at q0 q1 q2
    have BB := Lib.hid (below_trans (HB.out _ _) b1)
    have Q0 := Lib.hid q0
    have Q1 := Lib.hid q1
    have Q2 := Lib.hid q2
    clear b1 hr hx hr3 q0 q1 q2
    go_wp2_with fail
    refine bodyPost_ret (v := .tuple #[.agg #[.int .i64 wi, .int .i64 hi, .slice (some ⟨g, 0, none⟩) n c], .bool true]) (by simp [results, Try.results62, go_sem, Q0.out, Q1.out, Q2.out]) rfl ?_
    refine ⟨rfl, ?_⟩
    exact (((BB.out.setCell (by simp) _).setCell (by simp) _).setCell (by simp) _)
end Go.Proofs.Ytpjonajpgidjfaa
