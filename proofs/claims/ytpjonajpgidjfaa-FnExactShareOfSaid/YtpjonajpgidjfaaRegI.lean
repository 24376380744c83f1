/-
  A region that draws its order, ends in a store that comes behind all else, and may hold an operation that writes (an append): what is told of a value speaks of the world, and each operation keeps what is told of the others. No condition.
-/
import Derived.Test.YtpjonajpgidjfaaGrow
namespace Go.Proofs.Ytpjonajpgidjfaa
set_option linter.unusedVariables false
open Go.RowKit

def YieldsI (P : Program) (Post : Value → World → Prop) : Result Next → Prop
  | .ok (.value v) w' => Post v w'
  | .ok (.enter f args) w' => Calls P f args w' fun e w'' => ∃ v, e = .returned v ∧ Post v w''
  | _ => False

theorem wp_of_yieldsI {P : Program} {o : Oper} {a : Act} {w : World} {Post : Value → World → Prop} {K : Act → World → Prop} {Q : Exit → Act → World → Prop}
    (h : YieldsI P Post ((execOp a.eval o).run P w)) (hk : ∀ v w', Post v w' → K (a.put o.dst v) w') : o.wp P a w K Q := by
  unfold Oper.wp
  generalize (execOp a.eval o).run P w = r at *
  cases r with
  | ok n w' =>
    cases n <;> simp only [YieldsI] at h <;> simp only [Oper.upon]
    case value v => exact hk _ _ h
    case enter f args => exact Calls.mono h fun e w'' ⟨v, he, hv⟩ => by subst he; exact hk _ _ hv
  | halt x w' => simp only [YieldsI] at h

/-- All but the last as in 'freeB'; the last: no guard, no slot, behind all the others. -/
def tailB (ops : Array Oper) (N sz : Nat) : Bool :=
  decide (ops.size = N + 1) && ((List.range N).all fun i => match ops[i]? with
    | none => false
    | some o => o.guard.isNone && (match o.dst with | some d => decide (d < sz) | none => false) && o.after.toList.all (fun e => decide (e.on < i) && Region.binds .any e) && (List.range i).all fun j => decide (dstOf ops j ≠ dstOf ops i)) &&
  match ops[N]? with
  | none => false
  | some o => o.guard.isNone && (o.after.toList.all fun e => decide (e.on < N)) && (List.range N).all fun j => o.after.toList.any fun e => decide (e.on = j) && Region.binds .any e

section
variable {P : Program} {ops : Array Oper} {Q : Exit → Act → World → Prop} {a0 : Act} {C : Array Bool → World → Prop} {V : Nat → Value → World → Prop} {N : Nat}

theorem tail_size {sz : Nat} (h : tailB ops N sz = true) : ops.size = N + 1 := by
  unfold tailB at h
  simp only [Bool.and_eq_true, decide_eq_true_eq] at h
  exact h.1.1

theorem tailAt {sz : Nat} (h : tailB ops N sz = true) {i : Nat} {o : Oper} (hiN : i < N) (hi : ops[i]? = some o) : FreeAt ops sz i o := by
  unfold tailB at h
  simp only [Bool.and_eq_true, decide_eq_true_eq] at h
  have h1 := (List.all_eq_true.1 h.1.2) i (List.mem_range.2 hiN)
  rw [hi] at h1
  simp only [Bool.and_eq_true, List.all_eq_true, decide_eq_true_eq] at h1
  obtain ⟨⟨⟨hg, hd⟩, hb⟩, ha⟩ := h1
  refine ⟨Option.isNone_iff_eq_none.1 hg, ?_, fun e he => (hb e he).1, fun e he => (hb e he).2, fun j hj => ha j (List.mem_range.2 hj)⟩
  cases hdd : o.dst with
  | none => rw [hdd] at hd; cases hd
  | some d => rw [hdd] at hd; exact ⟨d, rfl, by simpa using hd, by simp [dstOf, hi, hdd]⟩

theorem tailLast {sz : Nat} (h : tailB ops N sz = true) {o : Oper} (hi : ops[N]? = some o) : o.guard = none ∧ (∀ e ∈ o.after.toList, e.on < N) ∧ ∀ j, j < N → ∃ e ∈ o.after.toList, e.on = j ∧ Region.binds .any e = true := by
  unfold tailB at h
  simp only [Bool.and_eq_true] at h
  have h1 := h.2
  rw [hi] at h1
  simp only [Bool.and_eq_true, List.all_eq_true, List.any_eq_true, decide_eq_true_eq] at h1
  exact ⟨Option.isNone_iff_eq_none.1 h1.1.1, h1.1.2, fun j hj => h1.2 j (List.mem_range.2 hj)⟩

theorem tail_apart {sz : Nat} (h : tailB ops N sz = true) {i j : Nat} (hi : i < N) (hj : j < N) (hij : i ≠ j) : dstOf ops i ≠ dstOf ops j := by
  have hs := tail_size h
  have gi : ops[i]? = some (ops[i]'(by omega)) := by simp [show i < ops.size by omega]
  have gj : ops[j]? = some (ops[j]'(by omega)) := by simp [show j < ops.size by omega]
  rcases Nat.lt_or_gt_of_ne hij with h1 | h1
  · exact (tailAt h hj gj).apart i h1
  · exact fun h2 => (tailAt h hi gi).apart j h1 h2.symm

structure OnWayI (ops : Array Oper) (N : Nat) (a0 : Act) (C : Array Bool → World → Prop) (V : Nat → Value → World → Prop) (listed : Array Bool) (a : Act) (w : World) : Prop where
  world : C listed w
  len : listed.size = ops.size
  defers : a.defers = a0.defers
  size : a.tmps.size = a0.tmps.size
  old : ∀ t, (∀ j, j < N → listed.getD j false = true → dstOf ops j ≠ t) → a.tmps.getD t undef = a0.tmps.getD t undef
  told : ∀ j, j < N → listed.getD j false = true → V j (a.tmps.getD (dstOf ops j) undef) w
  shut : ∀ j o, j < N → ops[j]? = some o → listed.getD j false = true → ∀ e ∈ o.after.toList, listed.getD e.on false = true
  last : listed.getD N false = false

theorem onWayI_put {sz : Nat} (hB : tailB ops N sz = true) (hsz : a0.tmps.size = sz) {listed : Array Bool} {a : Act} {w w' : World} (h : OnWayI ops N a0 C V listed a w) {i : Nat} {o : Oper} (hiN : i < N) (hi : ops[i]? = some o) (hnl : listed.getD i false = false)
    {v : Value} (hv : V i v w') (hc : C (listed.setIfInBounds i true) w') (hst : ∀ j v', j ≠ i → V j v' w → V j v' w') (hsh : ∀ e ∈ o.after.toList, listed.getD e.on false = true) : OnWayI ops N a0 C V (listed.setIfInBounds i true) (a.put o.dst v) w' := by
  have hlt : i < ops.size := (Array.getElem?_eq_some_iff.1 hi).1
  obtain ⟨d, hd, hds, hdi⟩ := (tailAt hB hiN hi).dst
  have hput : a.put o.dst v = { a with tmps := a.tmps.setIfInBounds d v } := by rw [hd]; rfl
  have hl : ∀ j, (listed.setIfInBounds i true).getD j false = true ↔ j = i ∨ listed.getD j false = true := by
    intro j
    by_cases hij : i = j
    · subst hij
      rw [getD_set_eq _ _ _ (by rw [h.len]; exact hlt)]
      simp
    · rw [getD_set_ne _ _ _ hij]
      constructor
      · exact .inr
      · rintro (h1 | h1)
        · exact absurd h1.symm hij
        · exact h1
  rw [hput]
  refine ⟨hc, by simp [h.len], h.defers, by simp [h.size], ?_, ?_, ?_, ?_⟩
  · intro t ht
    have hne : d ≠ t := by rw [← hdi]; exact ht i hiN ((hl i).2 (.inl rfl))
    rw [getD_set_ne _ _ _ hne]
    exact h.old t fun j hj hlj => ht j hj ((hl j).2 (.inr hlj))
  · intro j hj hlj
    by_cases hij : j = i
    · subst hij
      rw [hdi, getD_set_eq _ _ _ (by rw [h.size, hsz]; exact hds)]
      exact hv
    · have hne : d ≠ dstOf ops j := by rw [← hdi]; exact tail_apart hB hiN hj (fun h => hij h.symm)
      rw [getD_set_ne _ _ _ hne]
      exact hst _ _ hij (h.told j hj (((hl j).1 hlj).resolve_left hij))
  · intro j o' hjN hj hlj e he
    rcases (hl j).1 hlj with rfl | h1
    · rw [hi] at hj; cases hj
      exact (hl _).2 (.inr (hsh e he))
    · exact (hl _).2 (.inr (h.shut j o' hjN hj h1 e he))
  · rw [getD_set_ne _ _ _ (by omega)]; exact h.last

/-- What each operation owes. -/
def OwesI (P : Program) (ops : Array Oper) (N : Nat) (a0 : Act) (C : Array Bool → World → Prop) (V : Nat → Value → World → Prop) (i : Nat) (o : Oper) : Prop :=
  ∀ (listed : Array Bool) (ρ : Operand → Value) (w : World), listed.size = ops.size → C listed w → listed.getD i false = false → (∀ x, (∀ t, x ≠ .tmp t) → ρ x = a0.eval x) → (∀ e ∈ o.after.toList, V e.on (ρ (.tmp (dstOf ops e.on))) w) →
    (∀ e ∈ o.after.toList, listed.getD e.on false = true) →
    (∀ t, (∀ j, j < N → dstOf ops j ≠ t ∨ behind ops i j = true) → ρ (.tmp t) = a0.eval (.tmp t)) →
      YieldsI P (fun v w' => V i v w' ∧ C (listed.setIfInBounds i true) w' ∧ ∀ j v', j ≠ i → V j v' w → V j v' w') ((execOp ρ o).run P w)

theorem wpAny_done (listed : Array Bool) (hlen : listed.size = ops.size) (hall : ∀ i, i < ops.size → listed.getD i false = true) (fuel : Nat) (a : Act) (w : World) (hQ : Q .normal a w) : wpAny P .any ops Q fuel listed a w := by
  have hr : Region.ready .any ops listed = [] := by
    unfold Region.ready
    rw [List.filter_eq_nil_iff]
    intro i hi
    have hi' := List.mem_range.1 hi
    have : listed.getD i true = true := by
      have h1 : i < listed.size := by rw [hlen]; exact hi'
      have := hall i hi'
      simpa [Array.getD_eq_getD_getElem?, h1] using this
    rw [this]; simp
  cases fuel with
  | zero => exact ⟨hr, hQ⟩
  | succ fuel => exact ⟨fun _ => hQ, fun i hi => by rw [hr] at hi; cases hi⟩

theorem wpAny_inv (hB : tailB ops N a0.tmps.size = true) (hob : ∀ i o, i < N → ops[i]? = some o → OwesI P ops N a0 C V i o)
    (hQ : ∀ listed a w o, ops[N]? = some o → OnWayI ops N a0 C V listed a w → (∀ j, j < N → listed.getD j false = true) → o.wp P a w (fun a' w' => Q .normal a' w') Q) :
    ∀ (fuel : Nat) (listed : Array Bool) (a : Act) (w : World), OnWayI ops N a0 C V listed a w → ((List.range ops.size).filter fun i => !listed.getD i false).length ≤ fuel → wpAny P .any ops Q fuel listed a w := by
  have hs := tail_size hB
  intro fuel
  -- nothing is ready only where all is done
  have hready : ∀ listed : Array Bool, listed.size = ops.size → Region.ready .any ops listed = [] → ∀ i, i < N → listed.getD i false = true := by
    intro listed hlen hr i
    induction i using Nat.strongRecOn with
    | ind i ih =>
      intro hi
      cases hl : listed.getD i false with
      | true => rfl
      | false =>
        exfalso
        have hmem : i ∈ Region.ready .any ops listed := by
          unfold Region.ready
          rw [List.mem_filter]
          refine ⟨List.mem_range.2 (by omega), ?_⟩
          have h1 : listed.getD i true = false := by
            have : i < listed.size := by rw [hlen]; omega
            simpa [Array.getD_eq_getD_getElem?, this] using hl
          have hio : ops[i]? = some (ops[i]'(by omega)) := by simp [show i < ops.size by omega]
          rw [h1, hio]
          simp only [Bool.not_false, Bool.true_and, Option.map_some, Option.getD_some]
          rw [← Array.all_toList, List.all_eq_true]
          intro e he
          have hb := (tailAt hB hi hio).back e he
          rw [ih e.on hb (by omega)]
          simp
        rw [hr] at hmem
        cases hmem
  -- the last is ready where all the others are done
  have hlastReady : ∀ listed a w, OnWayI ops N a0 C V listed a w → (∀ i, i < N → listed.getD i false = true) → (∀ e, e ∈ ((ops[N]?).map (·.after.toList)).getD [] → e.on < N ∨ Region.binds .any e = false) → N ∈ Region.ready .any ops listed := by
    intro listed a w h hall hb
    unfold Region.ready
    rw [List.mem_filter]
    refine ⟨List.mem_range.2 (by omega), ?_⟩
    have h1 : listed.getD N true = false := by
      have : N < listed.size := by rw [h.len]; omega
      have := h.last
      simpa [Array.getD_eq_getD_getElem?, ‹N < listed.size›] using this
    have hio : ops[N]? = some (ops[N]'(by omega)) := by simp [show N < ops.size by omega]
    rw [hio] at hb
    rw [h1, hio]
    simp only [Bool.not_false, Bool.true_and, Option.map_some, Option.getD_some] at hb ⊢
    rw [← Array.all_toList, List.all_eq_true]
    intro e he
    rcases hb e he with h2 | h2
    · rw [hall e.on h2]; simp
    · rw [h2]; simp
  induction fuel with
  | zero =>
    intro listed a w h hf
    exfalso
    have hmem : N ∈ (List.range ops.size).filter fun i => !listed.getD i false := List.mem_filter.2 ⟨List.mem_range.2 (by omega), by rw [h.last]; rfl⟩
    have := List.length_pos_of_mem hmem
    omega
  | succ fuel ih =>
    intro listed a w h hf
    refine ⟨fun hr => ?_, ?_⟩
    · -- the last is still to come
      have hio : ops[N]? = some (ops[N]'(by omega)) := by simp [show N < ops.size by omega]
      have hb := (tailLast hB hio).2.1
      have := hlastReady listed a w h (hready _ h.len hr) (by rw [hio]; exact fun e he => .inl (hb e he))
      rw [hr] at this; cases this
    intro i hi
    unfold Region.ready at hi
    rw [List.mem_filter] at hi
    obtain ⟨hir, hcond⟩ := hi
    have hlt := List.mem_range.1 hir
    have hio : ops[i]? = some ops[i] := by simp [hlt]
    rw [hio] at hcond
    simp only [Option.map_some, Option.getD_some, Bool.and_eq_true, Bool.not_eq_true'] at hcond
    have hnl : listed.getD i false = false := by
      have h1 : i < listed.size := by rw [h.len]; exact hlt
      have := hcond.1
      simpa [Array.getD_eq_getD_getElem?, h1] using this
    unfold wpOp
    rw [hio]
    simp only
    by_cases hiN : i < N
    · have fa := tailAt hB hiN hio
      rw [if_pos (by simp [Region.wanted, fa.guard])]
      left
      have hlisted : ∀ e ∈ (ops[i]).after.toList, listed.getD e.on false = true := by
        intro e he
        have h1 := hcond.2
        rw [← Array.all_toList, List.all_eq_true] at h1
        have h2 := h1 e he
        rw [fa.bind e he] at h2
        simpa using h2
      have hafter : ∀ e ∈ (ops[i]).after.toList, V e.on (a.eval (.tmp (dstOf ops e.on))) w := fun e he => h.told e.on (by have := fa.back e he; omega) (hlisted e he)
      refine wp_of_yieldsI (hob i _ hiN hio listed a.eval w h.len h.world hnl ?_ hafter hlisted ?_) ?_
      · intro x hx
        cases x with
        | tmp t => exact absurd rfl (hx t)
        | const v => rfl
        | global g => rfl
        | func f => rfl
      · intro t ht
        refine h.old t fun j hj hlj => ?_
        rcases ht j hj with h1 | h1
        · exact h1
        · exfalso
          unfold behind at h1
          have hjo : ops[j]? = some (ops[j]'(by omega)) := by simp [show j < ops.size by omega]
          rw [hjo] at h1
          simp only [List.any_eq_true, beq_iff_eq] at h1
          obtain ⟨e, he, hei⟩ := h1
          have h2 := h.shut j _ hj hjo hlj e he
          rw [hei] at h2
          rw [hnl] at h2
          cases h2
      · intro v w' ⟨hv, hc, hst⟩
        refine ih _ _ _ (onWayI_put hB rfl h hiN hio hnl hv hc hst hlisted) ?_
        have hfew : ((List.range ops.size).filter fun j => !(listed.setIfInBounds i true).getD j false).length < ((List.range ops.size).filter fun j => !listed.getD j false).length := by
          refine filter_fewer (x := i) (List.mem_range.2 hlt) (by rw [hnl]; rfl) (by rw [getD_set_eq _ _ _ (by rw [h.len]; exact hlt)]; rfl) ?_
          intro j hj
          by_cases hij : i = j
          · subst hij; rw [hnl]; rfl
          · rwa [getD_set_ne _ _ _ hij] at hj
        omega
    · have hN : i = N := by omega
      subst hN
      obtain ⟨hg, _, hall⟩ := tailLast hB hio
      rw [if_pos (by simp [Region.wanted, hg])]
      left
      have hdone : ∀ j, j < i → listed.getD j false = true := by
        intro j hj
        obtain ⟨e, he, hej, hbd⟩ := hall j hj
        have h1 := hcond.2
        rw [← Array.all_toList, List.all_eq_true] at h1
        have h2 := h1 e he
        rw [hbd, hej] at h2
        simpa using h2
      refine Oper.wp_mono ?_ (hQ listed a w _ hio h hdone)
      intro a' w' hq
      refine wpAny_done _ (by simp [h.len]) ?_ _ _ _ hq
      intro j hj
      by_cases hij : i = j
      · subst hij; rw [getD_set_eq _ _ _ (by rw [h.len]; exact hlt)]
      · rw [getD_set_ne _ _ _ hij]; exact hdone j (by omega)

theorem wp_region_inv {id : Nat} {w : World} (hm : P.follows .mixedOrders = true) (hB : tailB ops N a0.tmps.size = true) (hC : C (Array.replicate ops.size false) (w.drewN 1)) (hob : ∀ i o, i < N → ops[i]? = some o → OwesI P ops N a0 C V i o)
    (hQ : ∀ (vs : Nat → Value) (listed : Array Bool) (w' : World) (o : Oper), ops[N]? = some o → (∀ j, j < N → V j (vs j) w') → (∀ j, j < N → listed.getD j false = true) → C listed w' → o.wp P (putN ops vs N a0) w' (fun a' w' => Q .normal a' w') Q) : (Code.region id ops true).wp P Q a0 w := by
  have hs := tail_size hB
  refine wp_region_any hm ?_
  refine wpAny_inv hB hob ?_ ops.size _ _ _ ⟨hC, by simp, rfl, rfl, fun t _ => rfl, ?_, ?_, ?_⟩ ?_
  · intro listed a w' o hoN h hall
    obtain ⟨vs, hvs⟩ : ∃ vs : Nat → Value, ∀ j, vs j = a.tmps.getD (dstOf ops j) undef := ⟨fun j => a.tmps.getD (dstOf ops j) undef, fun _ => rfl⟩
    have key : ∀ k, k ≤ N → (putN ops vs k a0).defers = a0.defers ∧ (putN ops vs k a0).tmps.size = a0.tmps.size ∧
        ∀ t, (putN ops vs k a0).tmps.getD t undef = if ∃ j, j < k ∧ dstOf ops j = t then a.tmps.getD t undef else a0.tmps.getD t undef := by
      intro k
      induction k with
      | zero => intro _; exact ⟨rfl, rfl, fun t => by rw [if_neg (by rintro ⟨j, hj, _⟩; omega)]; rfl⟩
      | succ k ih =>
        intro hk
        obtain ⟨h1, h2, h3⟩ := ih (by omega)
        have hio : ops[k]? = some (ops[k]'(by omega)) := by simp [show k < ops.size by omega]
        obtain ⟨d, hd, hds, hdi⟩ := (tailAt hB (by omega) hio).dst
        have hp : putN ops vs (k + 1) a0 = ⟨(putN ops vs k a0).tmps.setIfInBounds d (a.tmps.getD d undef), (putN ops vs k a0).defers⟩ := by
          show Act.put _ ((ops[k]?).bind (·.dst)) _ = _
          rw [hio, hvs]
          simp only [Option.bind_some, hd, Act.put, hdi]
        rw [hp]
        refine ⟨h1, by simp only [Array.size_setIfInBounds]; exact h2, ?_⟩
        intro t
        by_cases hdt : d = t
        · subst hdt
          rw [getD_set_eq _ _ _ (by rw [h2]; exact hds), if_pos ⟨k, Nat.lt_succ_self _, hdi⟩]
        · rw [getD_set_ne _ _ _ hdt, h3 t]
          by_cases hex : ∃ j, j < k ∧ dstOf ops j = t
          · rw [if_pos hex, if_pos (by obtain ⟨j, hj, e⟩ := hex; exact ⟨j, by omega, e⟩)]
          · rw [if_neg hex, if_neg]
            rintro ⟨j, hj, e⟩
            rcases Nat.lt_or_eq_of_le (Nat.le_of_lt_succ hj) with h5 | h5
            · exact hex ⟨j, h5, e⟩
            · subst h5; rw [hdi] at e; exact hdt e
    obtain ⟨h1, h2, h3⟩ := key N (Nat.le_refl _)
    have ht : a.tmps = (putN ops vs N a0).tmps := by
      apply Array.ext
      · rw [h2, h.size]
      · intro t ha hb
        have h4 := h3 t
        rw [← getD_get ha undef, ← getD_get hb undef, h4]
        by_cases hex : ∃ j, j < N ∧ dstOf ops j = t
        · rw [if_pos hex]
        · rw [if_neg hex]
          exact h.old t fun j hj _ e => hex ⟨j, hj, e⟩
    have hdf : a.defers = (putN ops vs N a0).defers := h.defers.trans h1.symm
    have e : a = putN ops vs N a0 := by
      generalize putN ops vs N a0 = b at *
      cases a; cases b
      exact congr (congrArg Act.mk ht) hdf
    have hold : ∀ j, j < N → V j (vs j) w' := fun j hj => by rw [hvs]; exact h.told j hj (hall j hj)
    rw [e]
    exact hQ vs listed w' o hoN hold hall h.world
  · intro j hj hf
    have : j < ops.size := by omega
    simp [this] at hf
  · intro j o hjN hj hf
    have : j < ops.size := (Array.getElem?_eq_some_iff.1 hj).1
    simp [this] at hf
  · simp [show N < ops.size by omega]
  · exact Nat.le_trans (List.length_filter_le _ _) (by simp)

/-- What the operations of a list owe, all but the last. -/
def OwesLI (P : Program) (ops : Array Oper) (N : Nat) (a0 : Act) (C : Array Bool → World → Prop) (V : Nat → Value → World → Prop) : Nat → List Oper → Prop
  | _, [] => True
  | _, [_] => True
  | k, o :: o' :: l => OwesI P ops N a0 C V k o ∧ OwesLI P ops N a0 C V (k + 1) (o' :: l)

theorem owes_listI : ∀ (l : List Oper) (k : Nat), OwesLI P ops N a0 C V k l → ∀ i o, i + 1 < l.length → l[i]? = some o → OwesI P ops N a0 C V (k + i) o
  | [], _, _, _, _, h, _ => by simp at h
  | [_], _, _, _, _, h, _ => by simp at h
  | o :: o' :: l, k, hl, 0, q, _, h => by simp at h; subst h; exact hl.1
  | o :: o' :: l, k, hl, i + 1, q, hlt, h => by
    have := owes_listI (o' :: l) (k + 1) hl.2 i q (by simpa using hlt) (by simpa using h)
    rwa [show k + (i + 1) = k + 1 + i by omega]

theorem wp_region_inv_lit {id : Nat} {w : World} {l : List Oper} (N : Nat) (C : Array Bool → World → Prop) (V : Nat → Value → World → Prop) (hN : l.length = N + 1) {st : Oper} (hst : l[N]? = some st) (hm : P.follows .mixedOrders = true) (hB : tailB l.toArray N a0.tmps.size = true) (hC : C (Array.replicate l.length false) (w.drewN 1)) (hob : OwesLI P l.toArray N a0 C V 0 l)
    (hQ : ∀ (vs : Nat → Value) (listed : Array Bool) (w' : World), (∀ j, j < N → V j (vs j) w') → (∀ j, j < N → listed.getD j false = true) → C listed w' → st.wp P (putN l.toArray vs N a0) w' (fun a' w' => Q .normal a' w') Q) : (Code.region id l.toArray true).wp P Q a0 w := by
  refine wp_region_inv (C := C) (V := V) hm hB (by simpa using hC) ?_ (fun vs listed w' o ho hv hl hc => by
    have e : o = st := Option.some.inj ((show l[N]? = some o by simpa using ho).symm.trans hst)
    subst e
    exact hQ vs listed w' hv hl hc)
  intro i o hiN hi
  have := owes_listI l 0 hob i o (by omega) (by simpa using hi)
  rwa [Nat.zero_add] at this

/-- Is slot t, when operation i is carried out, as it was before the region? -/
def outBI (ops : Array Oper) (N i t : Nat) : Bool := (List.range N).all fun j => decide (dstOf ops j ≠ t) || behind ops i j
theorem out_ofI {i t : Nat} (h : outBI ops N i t = true) : ∀ j, j < N → dstOf ops j ≠ t ∨ behind ops i j = true := by
  intro j hj
  have := (List.all_eq_true.1 h) j (List.mem_range.2 hj)
  simpa using this
end
end Go.Proofs.Ytpjonajpgidjfaa
