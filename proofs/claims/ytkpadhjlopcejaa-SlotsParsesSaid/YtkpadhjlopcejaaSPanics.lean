/-
  As SGuard, where a call may end in a panic: then what E says of it leads to the region's exit by it.
-/
import Derived.Test.YtkpadhjlopcejaaSGuard
namespace Go.Proofs.Ytkpadhjlopcejaa
open Go.RowKit
namespace AnyOrder
def opE (P : Program) (E : List PanicEntry → World → Prop) (K : Value → World → Prop) : Result Next → Prop
  | .ok (.value v) w' => K v w'
  | .ok .skip w' => K undef w'
  | .ok (.enter f args) w' => Calls P f args w' fun e w'' => (∃ v, e = .returned v ∧ K v w'') ∨ ∃ ch, e = .panicked ch ∧ E ch w''
  | _ => False
theorem upon_ofE {P : Program} {Q : Exit → Act → World → Prop} {E : List PanicEntry → World → Prop} {o : Oper} {a : Act} {K : Act → World → Prop} {K' : Value → World → Prop} {r : Result Next} (h : ∀ v w', K' v w' → K (a.put o.dst v) w') (hp : ∀ ch w', E ch w' → Q (.panic ch) a w') (hr : opE P E K' r) : o.upon P a K Q r := by
  cases r with
  | ok n w' =>
    cases n <;> simp only [opE] at hr <;> simp only [Oper.upon]
    case value v => exact h _ _ hr
    case skip => exact h _ _ hr
    case enter f args =>
      refine hr.mono ?_
      rintro e w'' (⟨v, rfl, hv⟩ | ⟨ch, rfl, hv⟩)
      · exact h _ _ hv
      · exact hp _ _ hv
  | halt x w' => simp only [opE] at hr
def PStep (P : Program) (E : List PanicEntry → World → Prop) (ds : List (Option Tmp)) (R : World → World → Prop) (Φ : Nat → Value → World → Prop) (a0 : Act) (w0 : World) (k : Nat) (o : Oper) : Prop :=
  ∀ (ρ : Operand → Value) (w : World), Known ds R Φ a0 w0 o ρ w →
    match o.guard with
    | none => opE P E (kept R Φ k o w) ((execOp ρ o).run P w)
    | some (j, b) => (atDst ds ρ j = .bool b → opE P E (kept R Φ k o w) ((execOp ρ o).run P w)) ∧ (atDst ds ρ j ≠ .bool b → Φ k undef w)
def PSteps (P : Program) (E : List PanicEntry → World → Prop) (ds : List (Option Tmp)) (R : World → World → Prop) (Φ : Nat → Value → World → Prop) (a0 : Act) (w0 : World) : Nat → List Oper → Prop
  | _, [] => True
  | k, o :: l => PStep P E ds R Φ a0 w0 k o ∧ PSteps P E ds R Φ a0 w0 (k + 1) l
theorem PSteps.get {P : Program} {E : List PanicEntry → World → Prop} {ds : List (Option Tmp)} {R : World → World → Prop} {Φ : Nat → Value → World → Prop} {a0 : Act} {w0 : World} (l : List Oper) : ∀ (k i : Nat) (o : Oper), PSteps P E ds R Φ a0 w0 k l → l[i]? = some o → PStep P E ds R Φ a0 w0 (k + i) o := by
  induction l with
  | nil => intro k i o _ hi; simp at hi
  | cons o' l ih =>
    intro k i o h hi
    obtain ⟨h1, h2⟩ := h
    cases i with
    | zero =>
      have e : o' = o := by simpa using hi
      rw [← e]; exact h1
    | succ i =>
      have := ih (k + 1) i o h2 (by simpa using hi)
      rw [show k + (i + 1) = k + 1 + i from by omega]
      exact this
section
variable {P : Program} {ops : Array Oper} {Q : Exit → Act → World → Prop} {md : Region.Mode} {ds : List (Option Tmp)} {R : World → World → Prop} {Φ : Nat → Value → World → Prop} {a0 : Act} {w0 : World} {E : List PanicEntry → World → Prop}
theorem any_inv_p {l : List Oper} (hops : ops = l.toArray) (hf : fine_l l a0.tmps.size = true) (hRr : ∀ w, R w w) (hRt : ∀ a b c : World, R a b → R b c → R a c) (hm : ∀ j v w w', R w w' → Φ j v w → Φ j v w')
    (hs : PSteps P E (dstsOf l) R Φ a0 w0 0 l)
    (hend : ∀ a w, a.defers = a0.defers → a.tmps.size = a0.tmps.size → (∀ t, isDst (dstsOf l) t = false → a.tmps.getD t undef = a0.tmps.getD t undef) → R w0 w → (∀ (j : Nat) (o : Oper), ops[j]? = some o → Φ j (valAt a o) w) → Q .normal a w)
    (hpan : ∀ ch a w, a.defers = a0.defers → a.tmps.size = a0.tmps.size → (∀ t, isDst (dstsOf l) t = false → a.tmps.getD t undef = a0.tmps.getD t undef) → E ch w → Q (.panic ch) a w) :
    ∀ (fuel : Nat) (listed : Array Bool) (a : Act) (w : World), Inv ops (dstsOf l) R Φ a0 w0 listed a w → (listed.toList.filter (! ·)).length ≤ fuel → wpAny P .any ops Q fuel listed a w := by
  have hsome : ∀ (i : Nat) (o : Oper), ops[i]? = some o ↔ l[i]? = some o := fun i o => by rw [hops]; simp
  obtain ⟨hsz, hbk, hnd, hsel, hgd⟩ := fine_spec_l hf
  have hsz' : ∀ (i : Nat) o d, ops[i]? = some o → o.dst = some d → d < a0.tmps.size := fun i o d hi hd => hsz i o d ((hsome i o).1 hi) hd
  have hat : ∀ (i : Nat) o, ops[i]? = some o → (dstsOf l).getD i none = o.dst := fun i o hi => dsts_get ((hsome i o).1 hi)
  have hds : ∀ (i : Nat) o d, ops[i]? = some o → o.dst = some d → isDst (dstsOf l) d = true := fun i o d hi hd => isDst_of ((hsome i o).1 hi) hd
  have hbk' : ∀ (i : Nat) o, ops[i]? = some o → ∀ e ∈ o.after, Region.binds .any e = true → e.on < i := fun i o hi => hbk i o ((hsome i o).1 hi)
  have hnd' : ∀ (i j : Nat) o o' d, ops[i]? = some o → ops[j]? = some o' → o.dst = some d → o'.dst = some d → i = j := fun i j o o' d hi hj => hnd i j o o' d ((hsome i o).1 hi) ((hsome j o').1 hj)
  -- where nothing is ready all has come
  have hall : ∀ (listed : Array Bool) (a : Act) (w : World), Inv ops (dstsOf l) R Φ a0 w0 listed a w → Region.ready .any ops listed = [] → ∀ j, j < ops.size → listed.getD j false = true := by
    intro listed a w inv hr j
    induction j using Nat.strongRecOn with
    | _ j ih =>
      intro hj
      cases hl : listed.getD j false with
      | true => rfl
      | false =>
        have hmem : j ∈ Region.ready .any ops listed := by
          refine mem_ready.2 ⟨?_, ops[j], Array.getElem?_eq_getElem hj, fun e he heb => ?_⟩
          · have : j < listed.size := by rw [inv.size]; exact hj
            simpa [Array.getD_eq_getD_getElem?, this] using hl
          · have := hbk' j _ (Array.getElem?_eq_getElem hj) e he heb
            exact ih e.on this (by omega)
        rw [hr] at hmem
        cases hmem
  have hdone : ∀ (listed : Array Bool) (a : Act) (w : World), Inv ops (dstsOf l) R Φ a0 w0 listed a w → Region.ready .any ops listed = [] → Q .normal a w := by
    intro listed a w inv hr
    refine hend a w inv.defers inv.tsize inv.old inv.world fun j o hj => inv.vals j o hj (hall listed a w inv hr j (Array.getElem?_eq_some_iff.1 hj).1)
  intro fuel
  induction fuel with
  | zero =>
    intro listed a w inv hc
    have hr : Region.ready .any ops listed = [] := by
      cases hrr : Region.ready .any ops listed with
      | nil => rfl
      | cons i r =>
        have hi : i ∈ Region.ready .any ops listed := by rw [hrr]; simp
        obtain ⟨hun, o, ho, _⟩ := mem_ready.1 hi
        have hlt : i < listed.size := by rw [inv.size]; exact (Array.getElem?_eq_some_iff.1 ho).1
        have : (false : Bool) ∈ listed.toList := by
          rw [List.mem_iff_getElem?]
          exact ⟨i, by simpa [Array.getD_eq_getD_getElem?, hlt] using hun⟩
        have : false ∈ listed.toList.filter (! ·) := List.mem_filter.2 ⟨this, rfl⟩
        rw [List.length_eq_zero_iff.1 (Nat.le_zero.1 hc)] at this
        cases this
    exact ⟨hr, hdone listed a w inv hr⟩
  | succ fuel ih =>
    intro listed a w inv hc
    refine ⟨fun hr => hdone listed a w inv hr, fun i hi => ?_⟩
    obtain ⟨hun, o, ho, _⟩ := mem_ready.1 hi
    have hlt : i < listed.size := by rw [inv.size]; exact (Array.getElem?_eq_some_iff.1 ho).1
    have hcnt : ((listed.setIfInBounds i true).toList.filter (! ·)).length ≤ fuel := by
      have := filter_set listed.toList i (by simpa [Array.getD_eq_getD_getElem?, hlt] using hun)
      rw [Array.toList_setIfInBounds]
      omega
    have hk := known_of_l hat inv hbk' hi ho
    have hst := PSteps.get l 0 i o hs ((hsome i o).1 ho) a.eval w hk
    rw [Nat.zero_add] at hst
    have go : opE P E (kept R Φ i o w) ((execOp a.eval o).run P w) → o.wp P a w (wpAny P .any ops Q fuel (listed.setIfInBounds i true)) Q := by
      intro h
      unfold Oper.wp
      refine upon_ofE (fun v w' hv => ?_) (fun ch w' he => hpan ch a w' inv.defers inv.tsize inv.old he) h
      exact ih _ _ _ (inv.next hds hRt hm hsz' hnd' ho hv.1 hv.2) hcnt
    unfold wpOp
    simp only [ho]
    cases hg : o.guard with
    | none =>
      rw [hg] at hst
      simp only [Region.wanted, hg, if_true]
      exact .inl (go hst)
    | some g =>
      obtain ⟨j, b⟩ := g
      rw [hg] at hst
      obtain ⟨h1, h2⟩ := hst
      have hj : j ∈ deps o := hgd i o ((hsome i o).1 ho) j b hg
      have hjs : ∃ oj, ops[j]? = some oj := by
        obtain ⟨e, he, rfl⟩ := List.mem_map.1 hj
        obtain ⟨he1, he2⟩ := List.mem_filter.1 he
        have hlt := hbk' i o ho e (by simpa using he1) he2
        have hil : i < ops.size := (Array.getElem?_eq_some_iff.1 ho).1
        exact ⟨_, Array.getElem?_eq_getElem (by omega)⟩
      obtain ⟨oj, hoj⟩ := hjs
      have hdj := hat j oj hoj
      have hb : (ops[j]?).bind (·.dst) = oj.dst := by rw [hoj]; rfl
      have hy : (yielded ops a.tmps j = some b) ↔ atDst (dstsOf l) a.eval j = .bool b := by
        unfold yielded atDst
        rw [hb, hdj]
        cases hd : oj.dst with
        | none =>
          constructor
          · intro h; cases h
          · intro h; cases h
        | some d =>
          have hds' := hsz' j oj d hoj hd
          have htz : d < a.tmps.size := by rw [inv.tsize]; exact hds'
          have e : a.eval (.tmp d) = a.tmps[d] := by
            show a.tmps.getD d undef = _
            rw [Array.getD_eq_getD_getElem?, Array.getElem?_eq_getElem htz]; rfl
          show (match (a.tmps[d]?) with | some (.bool b) => some b | _ => none) = some b ↔ a.eval (.tmp d) = .bool b
          rw [e, Array.getElem?_eq_getElem htz]
          constructor
          · intro h
            split at h
            · next heq => cases h; exact Option.some.inj heq
            · cases h
          · intro h; rw [h]
      simp only [Region.wanted, hg]
      by_cases hcb : atDst (dstsOf l) a.eval j = .bool b
      · have hyy := hy.2 hcb
        simp only [hyy, beq_self_eq_true, if_true]
        exact .inl (go (h1 hcb))
      · have : (yielded ops a.tmps j == some b) = false := by
          rw [beq_eq_false_iff_ne]
          exact fun h => hcb (hy.1 h)
        simp only [this, Bool.false_eq_true, if_false]
        refine ih _ _ _ (inv.next hds hRt hm hsz' hnd' ho (hRr w) ?_) hcnt
        have := h2 hcb
        split <;> exact this
/-- A region that draws its order, by what is said of each operation's value. -/
theorem wp_region_p {id : Nat} {a : Act} {w : World} {l : List Oper} (R : World → World → Prop) (Φ : Nat → Value → World → Prop) (hmx : P.follows .mixedOrders = true) (hf : fine_l l a.tmps.size = true)
    (hRr : ∀ w, R w w) (hRt : ∀ a b c : World, R a b → R b c → R a c) (hm : ∀ j v w w', R w w' → Φ j v w → Φ j v w')
    (hs : PSteps P E (dstsOf l) R Φ a w.drew 0 l)
    (hend : ∀ (vs : Nat → Value) (w' : World), R w.drew w' → (∀ k, k < l.length → Φ k (vs k) w') → Q .normal { tmps := fill vs 0 l a.tmps, defers := a.defers } w')
    (hpan : ∀ ch a' w', a'.defers = a.defers → a'.tmps.size = a.tmps.size → (∀ t, isDst (dstsOf l) t = false → a'.tmps.getD t undef = a.tmps.getD t undef) → E ch w' → Q (.panic ch) a' w') :
    (Code.region id l.toArray true).wp P Q a w := by
  refine wp_region_any hmx ?_
  obtain ⟨hsz, _⟩ := fine_spec_l hf
  refine any_inv_p (ops := l.toArray) rfl hf hRr hRt hm hs (fun a' w' hdf hts hold hR hv => ?_) hpan _ _ _ _ (Inv.mk (by simp) rfl rfl (hRr _) (fun _ _ => rfl) (fun j o hj hl => ?_)) ?_
  · have he := hend (fun k => match l[k]? with | some o => valAt a' o | none => undef) w' hR (fun k hk => by
      have hs : l[k]? = some l[k] := List.getElem?_eq_getElem hk
      simp only [hs]
      exact hv k _ (by simp))
    have hfe := fill_eq a'.tmps (fun k => match l[k]? with | some o => valAt a' o | none => undef) l 0 a.tmps hts.symm (fun i o d hi hd => ⟨by rw [hts]; exact hsz i o d hi hd, by rw [Nat.zero_add]; simp only [hi, valAt, hd]⟩) hold
    rw [hfe, ← hdf] at he
    exact he
  · have : (Array.replicate l.toArray.size false).getD j false = false := by
      rcases Nat.lt_or_ge j l.length with h | h <;> simp [h]
    rw [this] at hl
    cases hl
  · simp [Array.toList_replicate]
end
theorem wp_region_grows_p {P : Program} {E : List PanicEntry → World → Prop} {Q : Exit → Act → World → Prop} {id : Nat} {a : Act} {w : World} {l : List Oper} (Φs : List (Value → World → Prop)) (hmx : P.follows .mixedOrders = true) (hf : fine_l l a.tmps.size = true) (hst : ∀ p ∈ Φs, Stays p)
    (hs : PSteps P E (dstsOf l) Grows (nth Φs) a w.drew 0 l)
    (hend : ∀ (vs : Nat → Value) (w' : World), Grows w.drew w' → (∀ k, k < l.length → nth Φs k (vs k) w') → Q .normal { tmps := fill vs 0 l a.tmps, defers := a.defers } w')
    (hpan : ∀ ch a' w', a'.defers = a.defers → a'.tmps.size = a.tmps.size → (∀ t, isDst (dstsOf l) t = false → a'.tmps.getD t undef = a.tmps.getD t undef) → E ch w' → Q (.panic ch) a' w') :
    (Code.region id l.toArray true).wp P Q a w :=
  wp_region_p Grows (nth Φs) hmx hf Grows.refl (fun _ _ _ h k => h.trans k) (nth_stays hst) hs hend hpan
end AnyOrder
end Go.Proofs.Ytkpadhjlopcejaa
