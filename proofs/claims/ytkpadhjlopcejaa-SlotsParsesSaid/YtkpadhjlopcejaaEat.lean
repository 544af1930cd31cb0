/-
  A region that draws its order and whose operations take over what others left (an append onto an append): what is said of a value holds until the one operation that takes it over.
-/
import Derived.Test.YtkpadhjlopcejaaAny
namespace Go.Proofs.Ytkpadhjlopcejaa
open Go.RowKit
namespace AnyOrder
/-- nothing takes over the value of operation j -/
def uneaten (l : List Oper) (eats : Nat → List Nat) (j : Nat) : Bool := (List.range l.length).all fun k => !(eats k).contains j
theorem uneaten_spec {l : List Oper} {eats : Nat → List Nat} {j k : Nat} (h : uneaten l eats j = true) (hk : k < l.length) : ¬ j ∈ eats k := by
  have := List.all_eq_true.1 h k (List.mem_range.2 hk)
  simpa using this
def depsAt (l : List Oper) (k : Nat) : List Nat := match l[k]? with | some o => deps o | none => []
/-- where operation k comes up, nothing has taken over the value of operation j -/
def avail (l : List Oper) (eats : Nat → List Nat) (k j : Nat) : Bool := (List.range l.length).all fun k' => k' == k || !(eats k').contains j || (depsAt l k').contains k
/-- operation j may have come, and its value be of use, behind operation k -/
def beside (l : List Oper) (eats : Nat → List Nat) (k j : Nat) : Bool :=
  decide (j < l.length) && j != k && !(eats k).contains j && !(depsAt l j).contains k && !((depsAt l k).any fun e => (eats e).contains j)
structure EKnown (l : List Oper) (eats : Nat → List Nat) (R : World → World → Prop) (Φ : Nat → Value → World → Prop) (a0 : Act) (w0 : World) (k : Nat) (o : Oper) (ρ : Operand → Value) (w : World) : Prop where
  const : ∀ v, ρ (.const v) = v
  func : ∀ f, ρ (.func f) = .func (.func f) #[] #[]
  old : ∀ t, isDst (dstsOf l) t = false → ρ (.tmp t) = a0.tmps.getD t undef
  world : R w0 w
  dep : ∀ j ∈ deps o, avail l eats k j = true → Φ j (atDst (dstsOf l) ρ j) w
theorem EKnown.at {l : List Oper} {eats : Nat → List Nat} {R : World → World → Prop} {Φ : Nat → Value → World → Prop} {a0 : Act} {w0 : World} {k : Nat} {o : Oper} {ρ : Operand → Value} {w : World} (h : EKnown l eats R Φ a0 w0 k o ρ w) (j : Nat) (hj : ((deps o).contains j && avail l eats k j) = true) : Φ j (atDst (dstsOf l) ρ j) w := by
  rw [Bool.and_eq_true] at hj
  exact h.dep j (List.contains_iff_mem.1 hj.1) hj.2
def ekept (l : List Oper) (eats : Nat → List Nat) (R : World → World → Prop) (Φ : Nat → Value → World → Prop) (k : Nat) (o : Oper) (w : World) : Value → World → Prop := fun v w' => R w w' ∧ Φ k (if o.dst.isSome then v else undef) w' ∧ ∀ j, beside l eats k j = true → ∀ u, Φ j u w → Φ j u w'
def EStep (P : Program) (l : List Oper) (eats : Nat → List Nat) (R : World → World → Prop) (Φ : Nat → Value → World → Prop) (a0 : Act) (w0 : World) (k : Nat) (o : Oper) : Prop :=
  ∀ (ρ : Operand → Value) (w : World), EKnown l eats R Φ a0 w0 k o ρ w →
    match o.guard with
    | none => opK P (ekept l eats R Φ k o w) ((execOp ρ o).run P w)
    | some (j, b) => ∃ c, atDst (dstsOf l) ρ j = .bool c ∧ ((dstsOf l).getD j none).isSome = true ∧ (c = b → opK P (ekept l eats R Φ k o w) ((execOp ρ o).run P w)) ∧ (c ≠ b → Φ k undef w)
def ESteps (P : Program) (l : List Oper) (eats : Nat → List Nat) (R : World → World → Prop) (Φ : Nat → Value → World → Prop) (a0 : Act) (w0 : World) : Nat → List Oper → Prop
  | _, [] => True
  | k, o :: r => EStep P l eats R Φ a0 w0 k o ∧ ESteps P l eats R Φ a0 w0 (k + 1) r
theorem ESteps.get {P : Program} {l0 : List Oper} {eats : Nat → List Nat} {R : World → World → Prop} {Φ : Nat → Value → World → Prop} {a0 : Act} {w0 : World} (l : List Oper) : ∀ (k i : Nat) (o : Oper), ESteps P l0 eats R Φ a0 w0 k l → l[i]? = some o → EStep P l0 eats R Φ a0 w0 (k + i) o := by
  induction l with
  | nil => intro k i o _ hi; simp at hi
  | cons o' l ih =>
    intro k i o h hi
    obtain ⟨h1, h2⟩ := h
    cases i with
    | zero =>
      have e : o' = o := by simpa using hi
      rw [← e]; exact h1
    | succ i =>
      have := ih (k + 1) i o h2 (by simpa using hi)
      rw [show k + (i + 1) = k + 1 + i from by omega]
      exact this
section
variable {P : Program} {ops : Array Oper} {Q : Exit → Act → World → Prop} {md : Region.Mode} {R : World → World → Prop} {Φ : Nat → Value → World → Prop} {a0 : Act} {w0 : World}
structure EInv (ops : Array Oper) (l : List Oper) (eats : Nat → List Nat) (R : World → World → Prop) (Φ : Nat → Value → World → Prop) (a0 : Act) (w0 : World) (listed : Array Bool) (a : Act) (w : World) : Prop where
  size : listed.size = ops.size
  defers : a.defers = a0.defers
  tsize : a.tmps.size = a0.tmps.size
  world : R w0 w
  old : ∀ t, isDst (dstsOf l) t = false → a.tmps.getD t undef = a0.tmps.getD t undef
  closed : ∀ k, listed.getD k false = true → ∀ j ∈ depsAt l k, listed.getD j false = true
  vals : ∀ (j : Nat) (o : Oper), ops[j]? = some o → listed.getD j false = true → (∀ k, listed.getD k false = true → ¬ j ∈ eats k) → Φ j (valAt a o) w
theorem ready_spec {l : List Oper} (hops : ops = l.toArray) {listed : Array Bool} {i : Nat} {o : Oper} (hi : i ∈ Region.ready .any ops listed) (ho : ops[i]? = some o) :
    listed.getD i false = false ∧ i < listed.size ∧ ∀ j ∈ depsAt l i, listed.getD j false = true := by
  obtain ⟨hun, o', ho', hall⟩ := mem_ready.1 hi
  obtain rfl : o = o' := Option.some.inj (ho.symm.trans ho')
  have hl : l[i]? = some o := by rw [hops] at ho; simpa using ho
  have hlt : i < listed.size := by
    rcases Nat.lt_or_ge i listed.size with h | h
    · exact h
    · simp [h] at hun
  refine ⟨by simpa [Array.getD_eq_getD_getElem?, hlt] using hun, hlt, fun j hj => ?_⟩
  simp only [depsAt, hl] at hj
  obtain ⟨e, he, rfl⟩ := List.mem_map.1 hj
  obtain ⟨he1, he2⟩ := List.mem_filter.1 he
  exact hall e (by simpa using he1) he2
theorem getD_set {listed : Array Bool} {i j : Nat} (hlt : i < listed.size) : (listed.setIfInBounds i true).getD j false = (decide (i = j) || listed.getD j false) := by
  by_cases e : i = j
  · subst e; simp [Array.getD_eq_getD_getElem?, hlt]
  · simp [Array.getD_eq_getD_getElem?, e]
theorem EInv.next {l : List Oper} {eats : Nat → List Nat} (hops : ops = l.toArray) (hds : ∀ (i : Nat) o d, ops[i]? = some o → o.dst = some d → isDst (dstsOf l) d = true) (hRt : ∀ a b c : World, R a b → R b c → R a c)
    (hsz : ∀ (i : Nat) o d, ops[i]? = some o → o.dst = some d → d < a0.tmps.size) (hnd : ∀ (i j : Nat) o o' d, ops[i]? = some o → ops[j]? = some o' → o.dst = some d → o'.dst = some d → i = j)
    {listed : Array Bool} {a : Act} {w w' : World} {i : Nat} {o : Oper} {v : Value} (inv : EInv ops l eats R Φ a0 w0 listed a w) (hir : i ∈ Region.ready .any ops listed) (hi : ops[i]? = some o) (hw : R w w') (hv : Φ i (if o.dst.isSome then v else undef) w')
    (hkeep : ∀ j, beside l eats i j = true → ∀ u, Φ j u w → Φ j u w') :
    EInv ops l eats R Φ a0 w0 (listed.setIfInBounds i true) (a.put o.dst v) w' := by
  obtain ⟨hun, hlt, hdep⟩ := ready_spec hops hir hi
  have hput : ∀ t, o.dst ≠ some t → (a.put o.dst v).tmps.getD t undef = a.tmps.getD t undef := by
    intro t ht
    cases hd : o.dst with
    | none => rfl
    | some d =>
      have : d ≠ t := fun e => ht (by rw [hd, e])
      simp [Act.put, Array.getD_eq_getD_getElem?, this]
  refine ⟨by simp [inv.size], ?_, ?_, hRt _ _ _ inv.world hw, fun t ht => ?_, fun k hk j hj => ?_, fun j o' hj hl hne => ?_⟩
  · cases o.dst <;> exact inv.defers
  · cases o.dst <;> simp [Act.put, inv.tsize]
  · rw [hput t (fun hd => by have := hds i o t hi hd; rw [ht] at this; cases this)]
    exact inv.old t ht
  · rw [getD_set hlt] at hk ⊢
    rw [Bool.or_eq_true] at hk ⊢
    rcases hk with hk | hk
    · have : i = k := by simpa using hk
      subst this
      exact .inr (hdep j hj)
    · exact .inr (inv.closed k hk j hj)
  · by_cases hji : i = j
    · subst hji
      obtain rfl : o = o' := Option.some.inj (hi.symm.trans hj)
      cases hd : o.dst with
      | none => rw [hd] at hv; simpa [valAt, hd] using hv
      | some d =>
        rw [hd] at hv
        have hlt : d < a.tmps.size := by rw [inv.tsize]; exact hsz i o d hi hd
        simpa [valAt, hd, Act.put, Array.getD_eq_getD_getElem?, hlt] using hv
    · have hl' : listed.getD j false = true := by
        rw [getD_set hlt] at hl
        simpa [hji] using hl
      have hjl : j < l.length := by
        have := (Array.getElem?_eq_some_iff.1 hj).1
        rw [hops] at this; simpa using this
      have hb : beside l eats i j = true := by
        unfold beside
        simp only [Bool.and_eq_true, Bool.not_eq_true', decide_eq_true_eq, bne_iff_ne, ne_eq]
        refine ⟨⟨⟨⟨hjl, fun e => hji e.symm⟩, ?_⟩, ?_⟩, ?_⟩
        · have := hne i (by rw [getD_set hlt]; simp)
          simpa using this
        · cases hc : (depsAt l j).contains i with
          | false => rfl
          | true =>
            have := inv.closed j hl' i (List.contains_iff_mem.1 hc)
            rw [hun] at this; cases this
        · cases hc : (depsAt l i).any fun e => (eats e).contains j with
          | false => rfl
          | true =>
            obtain ⟨e, he, hej⟩ := List.any_eq_true.1 hc
            exact absurd (List.contains_iff_mem.1 hej) (hne e (by rw [getD_set hlt, hdep e he]; simp))
      have := hkeep j hb _ (inv.vals j o' hj hl' (fun k hk => hne k (by rw [getD_set hlt, hk]; simp)))
      have e : valAt (a.put o.dst v) o' = valAt a o' := by
        unfold valAt
        cases hd : o'.dst with
        | none => rfl
        | some d => exact hput d (fun h => hji (hnd i j o o' d hi hj h hd))
      rw [e]; exact this
theorem eknown_of {l : List Oper} {eats : Nat → List Nat} (hops : ops = l.toArray) (hat : ∀ (i : Nat) o, ops[i]? = some o → (dstsOf l).getD i none = o.dst) {listed : Array Bool} {a : Act} {w : World} {i : Nat} {o : Oper} (inv : EInv ops l eats R Φ a0 w0 listed a w) (hbk : ∀ (i : Nat) o, ops[i]? = some o → ∀ e ∈ o.after, e.on < i) (hi : i ∈ Region.ready .any ops listed) (ho : ops[i]? = some o) :
    EKnown l eats R Φ a0 w0 i o a.eval w := by
  obtain ⟨hun, hltl, hdep⟩ := ready_spec hops hi ho
  obtain ⟨_, o', ho', hall⟩ := mem_ready.1 hi
  obtain rfl : o = o' := Option.some.inj (ho.symm.trans ho')
  have hlo : l[i]? = some o := by rw [hops] at ho; simpa using ho
  refine ⟨fun _ => rfl, fun _ => rfl, fun t ht => inv.old t ht, inv.world, fun j hj hav => ?_⟩
  have hj0 := hj
  obtain ⟨e, he, rfl⟩ := List.mem_map.1 hj
  obtain ⟨he1, he2⟩ := List.mem_filter.1 he
  have hmem : e ∈ o.after := by simpa using he1
  have hlt := hbk i o ho e hmem
  have hil : i < ops.size := (Array.getElem?_eq_some_iff.1 ho).1
  have hsome : ops[e.on]? = some (ops[e.on]'(by omega)) := Array.getElem?_eq_getElem (by omega)
  have := inv.vals e.on _ hsome (hdep e.on (by simp only [depsAt, hlo]; exact hj0)) (fun k hk hek => by
    have hkl : k < l.length := by
      have : k < listed.size := by
        rcases Nat.lt_or_ge k listed.size with h | h
        · exact h
        · simp [Array.getD_eq_getD_getElem?, h] at hk
      rw [inv.size, hops] at this; simpa using this
    have h := List.all_eq_true.1 hav k (List.mem_range.2 hkl)
    simp only [Bool.or_eq_true, beq_iff_eq, Bool.not_eq_true'] at h
    rcases h with (h | h) | h
    · subst h; rw [hun] at hk; cases hk
    · have : (eats k).contains e.on = true := List.contains_iff_mem.2 hek
      rw [h] at this; cases this
    · have := inv.closed k hk i (List.contains_iff_mem.1 h)
      rw [hun] at this; cases this)
  unfold atDst
  rw [hat _ _ hsome]
  exact this
theorem eat_inv {l : List Oper} {eats : Nat → List Nat} (hops : ops = l.toArray) (hf : fine l a0.tmps.size = true) (hRr : ∀ w, R w w) (hRt : ∀ a b c : World, R a b → R b c → R a c)
    (hs : ESteps P l eats R Φ a0 w0 0 l)
    (hend : ∀ a w, a.defers = a0.defers → a.tmps.size = a0.tmps.size → (∀ t, isDst (dstsOf l) t = false → a.tmps.getD t undef = a0.tmps.getD t undef) → R w0 w → (∀ (j : Nat) (o : Oper), ops[j]? = some o → uneaten l eats j = true → Φ j (valAt a o) w) → Q .normal a w) :
    ∀ (fuel : Nat) (listed : Array Bool) (a : Act) (w : World), EInv ops l eats R Φ a0 w0 listed a w → (listed.toList.filter (! ·)).length ≤ fuel → wpAny P .any ops Q fuel listed a w := by
  have hsome : ∀ (i : Nat) (o : Oper), ops[i]? = some o ↔ l[i]? = some o := fun i o => by rw [hops]; simp
  obtain ⟨hsz, hbk, hnd, hsel, hgd⟩ := fine_spec hf
  have hsz' : ∀ (i : Nat) o d, ops[i]? = some o → o.dst = some d → d < a0.tmps.size := fun i o d hi hd => hsz i o d ((hsome i o).1 hi) hd
  have hat : ∀ (i : Nat) o, ops[i]? = some o → (dstsOf l).getD i none = o.dst := fun i o hi => dsts_get ((hsome i o).1 hi)
  have hds : ∀ (i : Nat) o d, ops[i]? = some o → o.dst = some d → isDst (dstsOf l) d = true := fun i o d hi hd => isDst_of ((hsome i o).1 hi) hd
  have hbk' : ∀ (i : Nat) o, ops[i]? = some o → ∀ e ∈ o.after, e.on < i := fun i o hi => hbk i o ((hsome i o).1 hi)
  have hnd' : ∀ (i j : Nat) o o' d, ops[i]? = some o → ops[j]? = some o' → o.dst = some d → o'.dst = some d → i = j := fun i j o o' d hi hj => hnd i j o o' d ((hsome i o).1 hi) ((hsome j o').1 hj)
  -- where nothing is ready all has come
  have hall : ∀ (listed : Array Bool) (a : Act) (w : World), EInv ops l eats R Φ a0 w0 listed a w → Region.ready .any ops listed = [] → ∀ j, j < ops.size → listed.getD j false = true := by
    intro listed a w inv hr j
    induction j using Nat.strongRecOn with
    | _ j ih =>
      intro hj
      cases hl : listed.getD j false with
      | true => rfl
      | false =>
        have hmem : j ∈ Region.ready .any ops listed := by
          refine mem_ready.2 ⟨?_, ops[j], Array.getElem?_eq_getElem hj, fun e he _ => ?_⟩
          · have : j < listed.size := by rw [inv.size]; exact hj
            simpa [Array.getD_eq_getD_getElem?, this] using hl
          · have := hbk' j _ (Array.getElem?_eq_getElem hj) e he
            exact ih e.on this (by omega)
        rw [hr] at hmem
        cases hmem
  have hdone : ∀ (listed : Array Bool) (a : Act) (w : World), EInv ops l eats R Φ a0 w0 listed a w → Region.ready .any ops listed = [] → Q .normal a w := by
    intro listed a w inv hr
    refine hend a w inv.defers inv.tsize inv.old inv.world fun j o hj hu => inv.vals j o hj (hall listed a w inv hr j (Array.getElem?_eq_some_iff.1 hj).1) fun k hk => uneaten_spec hu (by
      have : k < ops.size := by
        rcases Nat.lt_or_ge k listed.size with h | h
        · rw [← inv.size]; exact h
        · simp [Array.getD_eq_getD_getElem?, h] at hk
      rw [hops] at this; simpa using this)
  intro fuel
  induction fuel with
  | zero =>
    intro listed a w inv hc
    have hr : Region.ready .any ops listed = [] := by
      cases hrr : Region.ready .any ops listed with
      | nil => rfl
      | cons i r =>
        have hi : i ∈ Region.ready .any ops listed := by rw [hrr]; simp
        obtain ⟨hun, o, ho, _⟩ := mem_ready.1 hi
        have hlt : i < listed.size := by rw [inv.size]; exact (Array.getElem?_eq_some_iff.1 ho).1
        have : (false : Bool) ∈ listed.toList := by
          rw [List.mem_iff_getElem?]
          exact ⟨i, by simpa [Array.getD_eq_getD_getElem?, hlt] using hun⟩
        have : false ∈ listed.toList.filter (! ·) := List.mem_filter.2 ⟨this, rfl⟩
        rw [List.length_eq_zero_iff.1 (Nat.le_zero.1 hc)] at this
        cases this
    exact ⟨hr, hdone listed a w inv hr⟩
  | succ fuel ih =>
    intro listed a w inv hc
    refine ⟨fun hr => hdone listed a w inv hr, fun i hi => ?_⟩
    obtain ⟨hun, o, ho, _⟩ := mem_ready.1 hi
    have hlt : i < listed.size := by rw [inv.size]; exact (Array.getElem?_eq_some_iff.1 ho).1
    have hcnt : ((listed.setIfInBounds i true).toList.filter (! ·)).length ≤ fuel := by
      have := filter_set listed.toList i (by simpa [Array.getD_eq_getD_getElem?, hlt] using hun)
      rw [Array.toList_setIfInBounds]
      omega
    have hk := eknown_of hops hat inv hbk' hi ho
    have hst0 := ESteps.get l 0 i o hs ((hsome i o).1 ho)
    rw [Nat.zero_add] at hst0
    have hst := hst0 a.eval w hk
    have go : opK P (ekept l eats R Φ i o w) ((execOp a.eval o).run P w) → o.wp P a w (wpAny P .any ops Q fuel (listed.setIfInBounds i true)) Q := by
      intro h
      unfold Oper.wp
      refine upon_of (fun v w' hv => ?_) h
      exact ih _ _ _ (inv.next hops hds hRt hsz' hnd' hi ho hv.1 hv.2.1 hv.2.2) hcnt
    unfold wpOp
    simp only [ho]
    cases hg : o.guard with
    | none =>
      rw [hg] at hst
      simp only [Region.wanted, hg, if_true]
      exact .inl (go hst)
    | some g =>
      obtain ⟨j, b⟩ := g
      rw [hg] at hst
      obtain ⟨c, hc1, hc2, hc3, hc4⟩ := hst
      have hj : j ∈ deps o := hgd i o ((hsome i o).1 ho) j b hg
      have hy : yielded ops a.tmps j = some c := by
        unfold yielded
        unfold atDst at hc1
        have hjs : ∃ oj, ops[j]? = some oj := by
          obtain ⟨e, he, rfl⟩ := List.mem_map.1 hj
          obtain ⟨he1, _⟩ := List.mem_filter.1 he
          have hlt := hbk' i o ho e (by simpa using he1)
          have hil : i < ops.size := (Array.getElem?_eq_some_iff.1 ho).1
          exact ⟨_, Array.getElem?_eq_getElem (by omega)⟩
        obtain ⟨oj, hoj⟩ := hjs
        have hdj := hat j oj hoj
        rw [hdj] at hc1 hc2
        have hb : (ops[j]?).bind (·.dst) = oj.dst := by rw [hoj]; rfl
        rw [hb]
        cases hd : oj.dst with
        | none => rw [hd] at hc2; cases hc2
        | some d =>
          rw [hd] at hc1
          have e : a.tmps.getD d undef = .bool c := hc1
          rw [Array.getD_eq_getD_getElem?] at e
          cases ht : a.tmps[d]? with
          | none => rw [ht] at e; cases e
          | some x =>
            rw [ht] at e
            have e : x = .bool c := e
            subst e
            simp [ht]
      simp only [Region.wanted, hg, hy]
      by_cases hcb : c = b
      · subst hcb
        simp only [beq_self_eq_true, if_true]
        exact .inl (go (hc3 rfl))
      · have : (some c == some b) = false := by simpa using hcb
        simp only [this, Bool.false_eq_true, if_false]
        refine ih _ _ _ (inv.next hops hds hRt hsz' hnd' hi ho (hRr w) ?_ (fun _ _ _ h => h)) hcnt
        have := hc4 hcb
        split <;> exact this
/-- A region that draws its order, by what is said of each operation's value until it is taken over. -/
theorem wp_region_eats {id : Nat} {a : Act} {w : World} {l : List Oper} (eats : Nat → List Nat) (R : World → World → Prop) (Φ : Nat → Value → World → Prop) (hmx : P.follows .mixedOrders = true) (hf : fine l a.tmps.size = true)
    (hRr : ∀ w, R w w) (hRt : ∀ a b c : World, R a b → R b c → R a c)
    (hs : ESteps P l eats R Φ a w.drew 0 l)
    (hend : ∀ (vs : Nat → Value) (w' : World), R w.drew w' → (∀ k, k < l.length → uneaten l eats k = true → Φ k (vs k) w') → Q .normal { tmps := fill vs 0 l a.tmps, defers := a.defers } w') :
    (Code.region id l.toArray true).wp P Q a w := by
  refine wp_region_any hmx ?_
  obtain ⟨hsz, _⟩ := fine_spec hf
  refine eat_inv (ops := l.toArray) rfl hf hRr hRt hs (fun a' w' hdf hts hold hR hv => ?_) _ _ _ _ (EInv.mk (by simp) rfl rfl (hRr _) (fun _ _ => rfl) (fun k hk => ?_) (fun j o hj hl => ?_)) ?_
  · have he := hend (fun k => match l[k]? with | some o => valAt a' o | none => undef) w' hR (fun k hk hu => by
      have hs : l[k]? = some l[k] := List.getElem?_eq_getElem hk
      simp only [hs]
      exact hv k _ (by simp) hu)
    have hfe := fill_eq a'.tmps (fun k => match l[k]? with | some o => valAt a' o | none => undef) l 0 a.tmps hts.symm (fun i o d hi hd => ⟨by rw [hts]; exact hsz i o d hi hd, by rw [Nat.zero_add]; simp only [hi, valAt, hd]⟩) hold
    rw [hfe, ← hdf] at he
    exact he
  · have : (Array.replicate l.toArray.size false).getD k false = false := by
      rcases Nat.lt_or_ge k l.length with h | h <;> simp [h]
    rw [this] at hk
    cases hk
  · have : (Array.replicate l.toArray.size false).getD j false = false := by
      rcases Nat.lt_or_ge j l.length with h | h <;> simp [h]
    rw [this] at hl
    cases hl
  · simp [Array.toList_replicate]
end
/-- what grows from B on: whatever was below is as it was -/
def From (B : Nat) (w w' : World) : Prop := Below B w w'
theorem From.refl (B : Nat) (w : World) : From B w w := Below.refl _ _
theorem From.trans {B : Nat} {a b c : World} (h : From B a b) (k : From B b c) : From B a c := Below.trans h k
theorem wp_region_chain {P : Program} {Q : Exit → Act → World → Prop} {id : Nat} {a : Act} {w : World} {l : List Oper} (eats : Nat → List Nat) (Φs : List (Value → World → Prop)) (hmx : P.follows .mixedOrders = true) (hf : fine l a.tmps.size = true)
    (hs : ESteps P l eats (From w.heap.size) (nth Φs) a w.drew 0 l)
    (hend : ∀ (vs : Nat → Value) (w' : World), From w.heap.size w.drew w' → (∀ k, k < l.length → uneaten l eats k = true → nth Φs k (vs k) w') → Q .normal { tmps := fill vs 0 l a.tmps, defers := a.defers } w') :
    (Code.region id l.toArray true).wp P Q a w :=
  wp_region_eats eats (From w.heap.size) (nth Φs) hmx hf (From.refl _) (fun _ _ _ h k => h.trans k) hs hend
/-- an operation that leaves the world alone -/
theorem ekept_same {l : List Oper} {eats : Nat → List Nat} {B : Nat} {Φ : Nat → Value → World → Prop} {k : Nat} {o : Oper} {w : World} {v : Value} (h : Φ k (if o.dst.isSome then v else undef) w) : ekept l eats (From B) Φ k o w v w := ⟨From.refl _ _, h, fun _ _ _ h => h⟩
/-- an operation that makes memory, all that is said staying -/
theorem ekept_grows {l : List Oper} {eats : Nat → List Nat} {B : Nat} {Φs : List (Value → World → Prop)} {k : Nat} {o : Oper} {w w' : World} {v : Value} (hst : ∀ p ∈ Φs, Stays p) (hB : B ≤ w.heap.size) (hg : Grows w w') (h : nth Φs k (if o.dst.isSome then v else undef) w') : ekept l eats (From B) (nth Φs) k o w v w' :=
  ⟨Below.mono hg hB, h, fun j _ u hu => nth_stays hst j u w w' hg hu⟩
theorem estep {P : Program} {l : List Oper} {eats : Nat → List Nat} {R : World → World → Prop} {Φ : Nat → Value → World → Prop} {a0 : Act} {w0 : World} {k : Nat} {o : Oper} (hg : o.guard = none)
    (h : ∀ (ρ : Operand → Value) (w : World), EKnown l eats R Φ a0 w0 k o ρ w → ∀ K : Value → World → Prop, Hid (∀ v w', ekept l eats R Φ k o w v w' → K v w') → opK P K ((execOp ρ o).run P w)) : EStep P l eats R Φ a0 w0 k o := by
  intro ρ w hk
  rw [hg]
  exact h ρ w hk _ (hid fun _ _ h => h)
theorem beside_list {l : List Oper} {eats : Nat → List Nat} {k : Nat} {js : List Nat} (h : (List.range l.length).filter (beside l eats k) = js) (j : Nat) (hj : beside l eats k j = true) : j ∈ js := by
  rw [← h, List.mem_filter]
  refine ⟨List.mem_range.2 ?_, hj⟩
  unfold beside at hj
  simp only [Bool.and_eq_true, decide_eq_true_eq] at hj
  exact hj.1.1.1.1
end AnyOrder
end Go.Proofs.Ytkpadhjlopcejaa
