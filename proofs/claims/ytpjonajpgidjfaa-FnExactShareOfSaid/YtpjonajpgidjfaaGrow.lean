/-
  A region that draws its order and in which operations may make memory (nothing that exists changes): what is told of a value may speak of the memory that exists when it is made. No condition.
-/
import Derived.Test.YtpjonajpgidjfaaFree
import Derived.Below
namespace Go.Proofs.Ytpjonajpgidjfaa
set_option linter.unusedVariables false
open Go.RowKit

/-- What an operation gives under an evaluation of its operands: a value that is told, in a world in which all that existed is as it was. -/
def YieldsG (P : Program) (w0 : World) (V : Value → World → Prop) : Result Next → Prop
  | .ok (.value v) w' => V v w' ∧ Below w0.heap.size w0 w'
  | .ok (.enter f args) w' => Calls P f args w' fun e w'' => ∃ v, e = .returned v ∧ V v w'' ∧ Below w0.heap.size w0 w''
  | _ => False

theorem wp_of_yieldsG {P : Program} {o : Oper} {a : Act} {w w0 : World} {V : Value → World → Prop} {K : Act → World → Prop} {Q : Exit → Act → World → Prop}
    (h : YieldsG P w0 V ((execOp a.eval o).run P w)) (hk : ∀ v w', V v w' → Below w0.heap.size w0 w' → K (a.put o.dst v) w') : o.wp P a w K Q := by
  unfold Oper.wp
  generalize (execOp a.eval o).run P w = r at *
  cases r with
  | ok n w' =>
    cases n <;> simp only [YieldsG] at h <;> simp only [Oper.upon]
    case value v => exact hk _ _ h.1 h.2
    case enter f args => exact Calls.mono h fun e w'' ⟨v, he, hv, hc⟩ => by subst he; exact hk _ _ hv hc
  | halt x w' => simp only [YieldsG] at h

section
variable {P : Program} {ops : Array Oper} {Q : Exit → Act → World → Prop} {a0 : Act} {C : World → Prop} {V : Nat → Value → World → Prop}

/-- The state on the way. -/
structure OnWayG (ops : Array Oper) (a0 : Act) (C : World → Prop) (V : Nat → Value → World → Prop) (listed : Array Bool) (a : Act) (w : World) : Prop where
  world : C w
  len : listed.size = ops.size
  defers : a.defers = a0.defers
  size : a.tmps.size = a0.tmps.size
  old : ∀ t, (∀ j, j < ops.size → listed.getD j false = true → dstOf ops j ≠ t) → a.tmps.getD t undef = a0.tmps.getD t undef
  told : ∀ j, j < ops.size → listed.getD j false = true → V j (a.tmps.getD (dstOf ops j) undef) w
  shut : ∀ j o, ops[j]? = some o → listed.getD j false = true → ∀ e ∈ o.after.toList, listed.getD e.on false = true

/-- What is told stays true while memory grows. -/
def Stays (V : Nat → Value → World → Prop) (C : World → Prop) : Prop := (∀ j v w w', V j v w → Below w.heap.size w w' → V j v w') ∧ ∀ w w', C w → Below w.heap.size w w' → C w'

theorem onWayG_put {sz : Nat} (hS : Stays V C) (hB : freeB ops sz = true) (hsz : a0.tmps.size = sz) {listed : Array Bool} {a : Act} {w w' : World} (h : OnWayG ops a0 C V listed a w) {i : Nat} {o : Oper} (hi : ops[i]? = some o)
    {v : Value} (hv : V i v w') (hbl : Below w.heap.size w w') (hsh : ∀ e ∈ o.after.toList, listed.getD e.on false = true) : OnWayG ops a0 C V (listed.setIfInBounds i true) (a.put o.dst v) w' := by
  have hlt : i < ops.size := (Array.getElem?_eq_some_iff.1 hi).1
  obtain ⟨d, hd, hds, hdi⟩ := (freeAt hB hi).dst
  have hput : a.put o.dst v = { a with tmps := a.tmps.setIfInBounds d v } := by rw [hd]; rfl
  have hl : ∀ j, (listed.setIfInBounds i true).getD j false = true ↔ j = i ∨ listed.getD j false = true := by
    intro j
    by_cases hij : i = j
    · subst hij
      rw [getD_set_eq _ _ _ (by rw [h.len]; exact hlt)]
      simp
    · rw [getD_set_ne _ _ _ hij]
      constructor
      · exact .inr
      · rintro (h1 | h1)
        · exact absurd h1.symm hij
        · exact h1
  rw [hput]
  refine ⟨hS.2 _ _ h.world hbl, by simp [h.len], h.defers, by simp [h.size], ?_, ?_, ?_⟩
  · intro t ht
    have hne : d ≠ t := by rw [← hdi]; exact ht i hlt ((hl i).2 (.inl rfl))
    rw [getD_set_ne _ _ _ hne]
    exact h.old t fun j hj hlj => ht j hj ((hl j).2 (.inr hlj))
  · intro j hj hlj
    by_cases hij : j = i
    · subst hij
      rw [hdi, getD_set_eq _ _ _ (by rw [h.size, hsz]; exact hds)]
      exact hv
    · have hne : d ≠ dstOf ops j := by rw [← hdi]; exact apart_ne hB hlt hj (fun h => hij h.symm)
      rw [getD_set_ne _ _ _ hne]
      exact hS.1 _ _ _ _ (h.told j hj (((hl j).1 hlj).resolve_left hij)) hbl
  · intro j o' hj hlj e he
    rcases (hl j).1 hlj with rfl | h1
    · rw [hi] at hj; cases hj
      exact (hl _).2 (.inr (hsh e he))
    · exact (hl _).2 (.inr (h.shut j o' hj h1 e he))

/-- What each operation owes. -/
def OwesG (P : Program) (ops : Array Oper) (a0 : Act) (C : World → Prop) (V : Nat → Value → World → Prop) (i : Nat) (o : Oper) : Prop :=
  ∀ (ρ : Operand → Value) (w : World), C w → (∀ x, (∀ t, x ≠ .tmp t) → ρ x = a0.eval x) → (∀ e ∈ o.after.toList, V e.on (ρ (.tmp (dstOf ops e.on))) w) →
    (∀ t, (∀ j, j < ops.size → dstOf ops j ≠ t ∨ behind ops i j = true) → ρ (.tmp t) = a0.eval (.tmp t)) → YieldsG P w (V i) ((execOp ρ o).run P w)

theorem wpAny_grow (hS : Stays V C) (hB : freeB ops a0.tmps.size = true) (hob : ∀ i o, ops[i]? = some o → OwesG P ops a0 C V i o)
    (hQ : ∀ a w, OnWayG ops a0 C V (Array.replicate ops.size true) a w → Q .normal a w) :
    ∀ (fuel : Nat) (listed : Array Bool) (a : Act) (w : World), OnWayG ops a0 C V listed a w → ((List.range ops.size).filter fun i => !listed.getD i false).length ≤ fuel → wpAny P .any ops Q fuel listed a w := by
  intro fuel
  have hdone : ∀ listed a w, OnWayG ops a0 C V listed a w → (∀ i, i < ops.size → listed.getD i false = true) → Q .normal a w := by
    intro listed a w h hall
    refine hQ a w ?_
    have : listed = Array.replicate ops.size true := by
      apply Array.ext
      · simp [h.len]
      · intro i h1 h2
        have := hall i (by rw [← h.len]; exact h1)
        simpa [Array.getD_eq_getD_getElem?, h1] using this
    rw [← this]; exact h
  -- nothing is ready only where all is done
  have hready : ∀ listed : Array Bool, listed.size = ops.size → Region.ready .any ops listed = [] → ∀ i, i < ops.size → listed.getD i false = true := by
    intro listed hlen hr i
    induction i using Nat.strongRecOn with
    | ind i ih =>
      intro hi
      cases hl : listed.getD i false with
      | true => rfl
      | false =>
        exfalso
        have hmem : i ∈ Region.ready .any ops listed := by
          unfold Region.ready
          rw [List.mem_filter]
          refine ⟨List.mem_range.2 hi, ?_⟩
          have h1 : listed.getD i true = false := by
            have : i < listed.size := by rw [hlen]; exact hi
            simpa [Array.getD_eq_getD_getElem?, this] using hl
          have hio : ops[i]? = some ops[i] := by simp [hi]
          rw [h1, hio]
          simp only [Bool.not_false, Bool.true_and, Option.map_some, Option.getD_some]
          rw [← Array.all_toList, List.all_eq_true]
          intro e he
          have hb := (freeAt hB hio).back e he
          rw [ih e.on hb (by omega)]
          simp
        rw [hr] at hmem
        cases hmem
  induction fuel with
  | zero =>
    intro listed a w h hf
    have hall : ∀ i, i < ops.size → listed.getD i false = true := by
      intro i hi
      cases hl : listed.getD i false with
      | true => rfl
      | false =>
        exfalso
        have hmem : i ∈ (List.range ops.size).filter fun i => !listed.getD i false := List.mem_filter.2 ⟨List.mem_range.2 hi, by rw [hl]; rfl⟩
        have := List.length_pos_of_mem hmem
        omega
    refine ⟨?_, hdone _ _ _ h hall⟩
    unfold Region.ready
    rw [List.filter_eq_nil_iff]
    intro i hi
    have hi' := List.mem_range.1 hi
    have : listed.getD i true = true := by
      have h1 : i < listed.size := by rw [h.len]; exact hi'
      have := hall i hi'
      simpa [Array.getD_eq_getD_getElem?, h1] using this
    rw [this]; simp
  | succ fuel ih =>
    intro listed a w h hf
    refine ⟨fun hr => hdone _ _ _ h (hready _ h.len hr), ?_⟩
    intro i hi
    unfold Region.ready at hi
    rw [List.mem_filter] at hi
    obtain ⟨hir, hcond⟩ := hi
    have hlt := List.mem_range.1 hir
    have hio : ops[i]? = some ops[i] := by simp [hlt]
    rw [hio] at hcond
    simp only [Option.map_some, Option.getD_some, Bool.and_eq_true, Bool.not_eq_true'] at hcond
    have fa := freeAt hB hio
    unfold wpOp
    rw [hio]
    simp only
    rw [if_pos (by simp [Region.wanted, fa.guard])]
    left
    have hafter : ∀ e ∈ (ops[i]).after.toList, V e.on (a.eval (.tmp (dstOf ops e.on))) w := by
      intro e he
      have h1 := hcond.2
      rw [← Array.all_toList, List.all_eq_true] at h1
      have h2 := h1 e he
      have hb := fa.back e he
      rw [fa.bind e he] at h2
      simp only [Bool.not_true, Bool.false_or] at h2
      exact h.told e.on (by omega) h2
    have hshut : ∀ e ∈ (ops[i]).after.toList, listed.getD e.on false = true := by
      intro e he
      have h1 := hcond.2
      rw [← Array.all_toList, List.all_eq_true] at h1
      have h2 := h1 e he
      rw [fa.bind e he] at h2
      simpa using h2
    refine wp_of_yieldsG (hob i _ hio a.eval w h.world ?_ hafter ?_) ?_
    · intro x hx
      cases x with
      | tmp t => exact absurd rfl (hx t)
      | const v => rfl
      | global g => rfl
      | func f => rfl
    · intro t ht
      refine h.old t fun j hj hlj => ?_
      rcases ht j hj with h1 | h1
      · exact h1
      · exfalso
        unfold behind at h1
        have hjo : ops[j]? = some ops[j] := by simp [hj]
        rw [hjo] at h1
        simp only [List.any_eq_true, beq_iff_eq] at h1
        obtain ⟨e, he, hei⟩ := h1
        have h2 := h.shut j _ hjo hlj e he
        rw [hei] at h2
        have h3 : i < listed.size := by rw [h.len]; exact hlt
        have h4 := hcond.1
        have h5 : listed.getD i false = listed.getD i true := by simp [Array.getD_eq_getD_getElem?, h3]
        rw [h5, h4] at h2
        cases h2
    · intro v w' hv hc
      refine ih _ _ _ (onWayG_put hS hB rfl h hio hv hc hshut) ?_
      have hl : listed.getD i false = false := by
        have h1 : i < listed.size := by rw [h.len]; exact hlt
        have := hcond.1
        simpa [Array.getD_eq_getD_getElem?, h1] using this
      have hfew : ((List.range ops.size).filter fun j => !(listed.setIfInBounds i true).getD j false).length < ((List.range ops.size).filter fun j => !listed.getD j false).length := by
        refine filter_fewer (x := i) (List.mem_range.2 hlt) (by rw [hl]; rfl) (by rw [getD_set_eq _ _ _ (by rw [h.len]; exact hlt)]; rfl) ?_
        intro j hj
        by_cases hij : i = j
        · subst hij; rw [hl]; rfl
        · rwa [getD_set_ne _ _ _ hij] at hj
      omega

/-- What the operations of a list owe, from number k on. -/
def OwesLG (P : Program) (ops : Array Oper) (a0 : Act) (C : World → Prop) (V : Nat → Value → World → Prop) : Nat → List Oper → Prop
  | _, [] => True
  | k, o :: l => OwesG P ops a0 C V k o ∧ OwesLG P ops a0 C V (k + 1) l

theorem owes_listG : ∀ (l : List Oper) (k : Nat), OwesLG P ops a0 C V k l → ∀ i o, l[i]? = some o → OwesG P ops a0 C V (k + i) o
  | [], _, _, _, _, h => by simp at h
  | o :: l, k, hl, 0, o', h => by simp at h; subst h; exact hl.1
  | o :: l, k, hl, i + 1, o', h => by
    have := owes_listG l (k + 1) hl.2 i o' (by simpa using h)
    rwa [show k + (i + 1) = k + 1 + i by omega]

/-- THE LAW: a region that draws its order, told operation by operation. -/
theorem wp_region_grow {id : Nat} {w : World} (hS : Stays V C) (hm : P.follows .mixedOrders = true) (hB : freeB ops a0.tmps.size = true) (hC : C (w.drewN 1)) (hob : ∀ i o, ops[i]? = some o → OwesG P ops a0 C V i o)
    (hQ : ∀ vs : Nat → Value, ∀ w', (∀ j, j < ops.size → V j (vs j) w') → C w' → Q .normal (putN ops vs ops.size a0) w') : (Code.region id ops true).wp P Q a0 w := by
  refine wp_region_any hm ?_
  refine wpAny_grow hS hB hob ?_ ops.size _ _ _ ⟨hC, by simp, rfl, rfl, fun t _ => rfl, ?_, ?_⟩ ?_
  · intro a w' h
    obtain ⟨vs, hvs⟩ : ∃ vs : Nat → Value, ∀ j, vs j = a.tmps.getD (dstOf ops j) undef := ⟨fun j => a.tmps.getD (dstOf ops j) undef, fun _ => rfl⟩
    have key : ∀ k, k ≤ ops.size → (putN ops vs k a0).defers = a0.defers ∧ (putN ops vs k a0).tmps.size = a0.tmps.size ∧
        ∀ t, (putN ops vs k a0).tmps.getD t undef = if ∃ j, j < k ∧ dstOf ops j = t then a.tmps.getD t undef else a0.tmps.getD t undef := by
      intro k
      induction k with
      | zero => intro _; exact ⟨rfl, rfl, fun t => by rw [if_neg (by rintro ⟨j, hj, _⟩; omega)]; rfl⟩
      | succ k ih =>
        intro hk
        obtain ⟨h1, h2, h3⟩ := ih (by omega)
        have hio : ops[k]? = some ops[k] := by simp [show k < ops.size by omega]
        obtain ⟨d, hd, hds, hdi⟩ := (freeAt hB hio).dst
        have hp : putN ops vs (k + 1) a0 = ⟨(putN ops vs k a0).tmps.setIfInBounds d (a.tmps.getD d undef), (putN ops vs k a0).defers⟩ := by
          show Act.put _ ((ops[k]?).bind (·.dst)) _ = _
          rw [hio, hvs]
          simp only [Option.bind_some, hd, Act.put, hdi]
        rw [hp]
        refine ⟨h1, by simp only [Array.size_setIfInBounds]; exact h2, ?_⟩
        intro t
        by_cases hdt : d = t
        · subst hdt
          rw [getD_set_eq _ _ _ (by rw [h2]; exact hds), if_pos ⟨k, Nat.lt_succ_self _, hdi⟩]
        · rw [getD_set_ne _ _ _ hdt, h3 t]
          by_cases hex : ∃ j, j < k ∧ dstOf ops j = t
          · rw [if_pos hex, if_pos (by obtain ⟨j, hj, e⟩ := hex; exact ⟨j, by omega, e⟩)]
          · rw [if_neg hex, if_neg]
            rintro ⟨j, hj, e⟩
            rcases Nat.lt_or_eq_of_le (Nat.le_of_lt_succ hj) with h5 | h5
            · exact hex ⟨j, h5, e⟩
            · subst h5; rw [hdi] at e; exact hdt e
    obtain ⟨h1, h2, h3⟩ := key ops.size (Nat.le_refl _)
    have ht : a.tmps = (putN ops vs ops.size a0).tmps := by
      apply Array.ext
      · rw [h2, h.size]
      · intro t ha hb
        have h4 := h3 t
        rw [← getD_get ha undef, ← getD_get hb undef, h4]
        by_cases hex : ∃ j, j < ops.size ∧ dstOf ops j = t
        · rw [if_pos hex]
        · rw [if_neg hex]
          exact h.old t fun j hj _ e => hex ⟨j, hj, e⟩
    have hdf : a.defers = (putN ops vs ops.size a0).defers := h.defers.trans h1.symm
    have e : a = putN ops vs ops.size a0 := by
      generalize putN ops vs ops.size a0 = b at *
      cases a; cases b
      exact congr (congrArg Act.mk ht) hdf
    have hold : ∀ j, j < ops.size → V j (vs j) w' := fun j hj => by rw [hvs]; exact h.told j hj (by simp [hj])
    rw [e]
    exact hQ vs w' hold h.world
  · intro j hj hf
    simp [hj] at hf
  · intro j o hj hf
    have : j < ops.size := (Array.getElem?_eq_some_iff.1 hj).1
    simp [this] at hf
  · exact Nat.le_trans (List.length_filter_le _ _) (by simp)

theorem wp_region_grow_lit {id : Nat} {w : World} {l : List Oper} (C : World → Prop) (V : Nat → Value → World → Prop) (hS : Stays V C) (hm : P.follows .mixedOrders = true) (hB : freeB l.toArray a0.tmps.size = true) (hC : C (w.drewN 1)) (hob : OwesLG P l.toArray a0 C V 0 l)
    (hQ : ∀ vs : Nat → Value, ∀ w', (∀ j, j < l.length → V j (vs j) w') → C w' → Q .normal (putN l.toArray vs l.length a0) w') : (Code.region id l.toArray true).wp P Q a0 w := by
  refine wp_region_grow (C := C) (V := V) hS hm hB hC ?_ (by simpa using hQ)
  intro i o hi
  have := owes_listG l 0 hob i o (by simpa using hi)
  rwa [Nat.zero_add] at this
end

theorem below_trans {a w w' : World} (h : Below a.heap.size a w) (h' : Below w.heap.size w w') : Below a.heap.size a w' := h.trans (h'.mono h.size)
end Go.Proofs.Ytpjonajpgidjfaa
