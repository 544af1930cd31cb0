/-
  AnyOrder's law for a region some of whose edges, that bind no order at all, point forward.
-/
import Derived.Test.YtkpadhjlopcejaaAny
namespace Go.Proofs.Ytkpadhjlopcejaa
open Go.RowKit
namespace AnyOrder
/-- no two write one slot; each waits for earlier ones alone; a slot is there -/
def fine_l (l : List Oper) (size : Nat) : Bool :=
  (l.all fun o => match o.dst with | some d => decide (d < size) | none => true) &&
  (l.zipIdx.all fun (o, i) => o.after.all fun e => !(Region.binds .any e) || decide (e.on < i)) &&
  decide (l.filterMap (·.dst)).Nodup &&
  (l.all fun o => match o.op with | .select .. => false | .defer _ => false | _ => true) &&
  (l.all fun o => match o.guard with | some (j, _) => (deps o).contains j | none => true)
theorem fine_spec_l {l : List Oper} {size : Nat} (h : fine_l l size = true) :
    (∀ (i : Nat) o d, l[i]? = some o → o.dst = some d → d < size) ∧ (∀ (i : Nat) o, l[i]? = some o → ∀ e ∈ o.after, Region.binds .any e = true → e.on < i) ∧
    (∀ (i j : Nat) o o' d, l[i]? = some o → l[j]? = some o' → o.dst = some d → o'.dst = some d → i = j) ∧ (∀ (i : Nat) o, l[i]? = some o → ∀ cs b, o.op ≠ .select cs b) ∧
    (∀ (i : Nat) o, l[i]? = some o → ∀ j b, o.guard = some (j, b) → j ∈ deps o) := by
  simp only [fine_l, Bool.and_eq_true] at h
  obtain ⟨⟨⟨⟨h1, h2⟩, h3⟩, h4⟩, h5⟩ := h
  refine ⟨fun i o d hi hd => ?_, fun i o hi e he hb => ?_, ?_, fun i o hi cs b hc => ?_, fun i o hi j b hg => ?_⟩
  · have := List.all_eq_true.1 h1 o (List.mem_of_getElem? hi)
    rw [hd] at this
    exact of_decide_eq_true this
  · have hm : (o, i) ∈ l.zipIdx := by
      rw [List.mem_iff_getElem?]
      exact ⟨i, by rw [List.getElem?_zipIdx, hi]; simp⟩
    have := List.all_eq_true.1 h2 _ hm
    have := Array.all_eq_true'.1 this e he
    rw [hb] at this
    simpa using this
  · have hn := of_decide_eq_true h3
    clear h1 h2 h3 h4 h5
    induction l with
    | nil => intro i j o o' d hi; simp at hi
    | cons x l ih =>
      intro i j o o' d hi hj hd hd'
      have tail : ∀ (k : Nat) (y : Oper), l[k]? = some y → y.dst = some d → x.dst ≠ some d := by
        intro k y hk hy hx
        rw [List.filterMap_cons, hx] at hn
        have := (List.nodup_cons.1 hn).1
        exact this (List.mem_filterMap.2 ⟨y, List.mem_of_getElem? hk, hy⟩)
      match i, j with
      | 0, 0 => rfl
      | 0, j + 1 =>
        simp at hi hj
        subst hi
        exact absurd hd (tail j o' hj hd')
      | i + 1, 0 =>
        simp at hi hj
        subst hj
        exact absurd hd' (tail i o hi hd)
      | i + 1, j + 1 =>
        simp at hi hj
        have hn' : (l.filterMap (·.dst)).Nodup := by
          rw [List.filterMap_cons] at hn
          split at hn
          · exact hn
          · exact (List.nodup_cons.1 hn).2
        rw [ih hn' i j o o' d hi hj hd hd']
  · have := List.all_eq_true.1 h4 o (List.mem_of_getElem? hi)
    rw [hc] at this
    cases this
  · have := List.all_eq_true.1 h5 o (List.mem_of_getElem? hi)
    rw [hg] at this
    simpa using this
section
variable {P : Program} {ops : Array Oper} {Q : Exit → Act → World → Prop} {md : Region.Mode} {ds : List (Option Tmp)} {R : World → World → Prop} {Φ : Nat → Value → World → Prop} {a0 : Act} {w0 : World}
theorem known_of_l (hat : ∀ (i : Nat) o, ops[i]? = some o → ds.getD i none = o.dst) {listed : Array Bool} {a : Act} {w : World} {i : Nat} {o : Oper} (inv : Inv ops ds R Φ a0 w0 listed a w) (hbk : ∀ (i : Nat) o, ops[i]? = some o → ∀ e ∈ o.after, Region.binds .any e = true → e.on < i) (hi : i ∈ Region.ready .any ops listed) (ho : ops[i]? = some o) :
    Known ds R Φ a0 w0 o a.eval w := by
  obtain ⟨_, o', ho', hall⟩ := mem_ready.1 hi
  obtain rfl : o = o' := Option.some.inj (ho.symm.trans ho')
  refine ⟨fun _ => rfl, fun _ => rfl, fun t ht => inv.old t ht, inv.world, fun j hj => ?_⟩
  obtain ⟨e, he, rfl⟩ := List.mem_map.1 hj
  obtain ⟨he1, he2⟩ := List.mem_filter.1 he
  have hmem : e ∈ o.after := by simpa using he1
  have hlt := hbk i o ho e hmem he2
  have hil : i < ops.size := (Array.getElem?_eq_some_iff.1 ho).1
  have hsome : ops[e.on]? = some (ops[e.on]'(by omega)) := Array.getElem?_eq_getElem (by omega)
  have := inv.vals e.on _ hsome (hall e hmem he2)
  unfold atDst
  rw [hat _ _ hsome]
  exact this
theorem any_inv_l {l : List Oper} (hops : ops = l.toArray) (hf : fine_l l a0.tmps.size = true) (hRr : ∀ w, R w w) (hRt : ∀ a b c : World, R a b → R b c → R a c) (hm : ∀ j v w w', R w w' → Φ j v w → Φ j v w')
    (hs : Steps P (dstsOf l) R Φ a0 w0 0 l)
    (hend : ∀ a w, a.defers = a0.defers → a.tmps.size = a0.tmps.size → (∀ t, isDst (dstsOf l) t = false → a.tmps.getD t undef = a0.tmps.getD t undef) → R w0 w → (∀ (j : Nat) (o : Oper), ops[j]? = some o → Φ j (valAt a o) w) → Q .normal a w) :
    ∀ (fuel : Nat) (listed : Array Bool) (a : Act) (w : World), Inv ops (dstsOf l) R Φ a0 w0 listed a w → (listed.toList.filter (! ·)).length ≤ fuel → wpAny P .any ops Q fuel listed a w := by
  have hsome : ∀ (i : Nat) (o : Oper), ops[i]? = some o ↔ l[i]? = some o := fun i o => by rw [hops]; simp
  obtain ⟨hsz, hbk, hnd, hsel, hgd⟩ := fine_spec_l hf
  have hsz' : ∀ (i : Nat) o d, ops[i]? = some o → o.dst = some d → d < a0.tmps.size := fun i o d hi hd => hsz i o d ((hsome i o).1 hi) hd
  have hat : ∀ (i : Nat) o, ops[i]? = some o → (dstsOf l).getD i none = o.dst := fun i o hi => dsts_get ((hsome i o).1 hi)
  have hds : ∀ (i : Nat) o d, ops[i]? = some o → o.dst = some d → isDst (dstsOf l) d = true := fun i o d hi hd => isDst_of ((hsome i o).1 hi) hd
  have hbk' : ∀ (i : Nat) o, ops[i]? = some o → ∀ e ∈ o.after, Region.binds .any e = true → e.on < i := fun i o hi => hbk i o ((hsome i o).1 hi)
  have hnd' : ∀ (i j : Nat) o o' d, ops[i]? = some o → ops[j]? = some o' → o.dst = some d → o'.dst = some d → i = j := fun i j o o' d hi hj => hnd i j o o' d ((hsome i o).1 hi) ((hsome j o').1 hj)
  -- where nothing is ready all has come
  have hall : ∀ (listed : Array Bool) (a : Act) (w : World), Inv ops (dstsOf l) R Φ a0 w0 listed a w → Region.ready .any ops listed = [] → ∀ j, j < ops.size → listed.getD j false = true := by
    intro listed a w inv hr j
    induction j using Nat.strongRecOn with
    | _ j ih =>
      intro hj
      cases hl : listed.getD j false with
      | true => rfl
      | false =>
        have hmem : j ∈ Region.ready .any ops listed := by
          refine mem_ready.2 ⟨?_, ops[j], Array.getElem?_eq_getElem hj, fun e he heb => ?_⟩
          · have : j < listed.size := by rw [inv.size]; exact hj
            simpa [Array.getD_eq_getD_getElem?, this] using hl
          · have := hbk' j _ (Array.getElem?_eq_getElem hj) e he heb
            exact ih e.on this (by omega)
        rw [hr] at hmem
        cases hmem
  have hdone : ∀ (listed : Array Bool) (a : Act) (w : World), Inv ops (dstsOf l) R Φ a0 w0 listed a w → Region.ready .any ops listed = [] → Q .normal a w := by
    intro listed a w inv hr
    refine hend a w inv.defers inv.tsize inv.old inv.world fun j o hj => inv.vals j o hj (hall listed a w inv hr j (Array.getElem?_eq_some_iff.1 hj).1)
  intro fuel
  induction fuel with
  | zero =>
    intro listed a w inv hc
    have hr : Region.ready .any ops listed = [] := by
      cases hrr : Region.ready .any ops listed with
      | nil => rfl
      | cons i r =>
        have hi : i ∈ Region.ready .any ops listed := by rw [hrr]; simp
        obtain ⟨hun, o, ho, _⟩ := mem_ready.1 hi
        have hlt : i < listed.size := by rw [inv.size]; exact (Array.getElem?_eq_some_iff.1 ho).1
        have : (false : Bool) ∈ listed.toList := by
          rw [List.mem_iff_getElem?]
          exact ⟨i, by simpa [Array.getD_eq_getD_getElem?, hlt] using hun⟩
        have : false ∈ listed.toList.filter (! ·) := List.mem_filter.2 ⟨this, rfl⟩
        rw [List.length_eq_zero_iff.1 (Nat.le_zero.1 hc)] at this
        cases this
    exact ⟨hr, hdone listed a w inv hr⟩
  | succ fuel ih =>
    intro listed a w inv hc
    refine ⟨fun hr => hdone listed a w inv hr, fun i hi => ?_⟩
    obtain ⟨hun, o, ho, _⟩ := mem_ready.1 hi
    have hlt : i < listed.size := by rw [inv.size]; exact (Array.getElem?_eq_some_iff.1 ho).1
    have hcnt : ((listed.setIfInBounds i true).toList.filter (! ·)).length ≤ fuel := by
      have := filter_set listed.toList i (by simpa [Array.getD_eq_getD_getElem?, hlt] using hun)
      rw [Array.toList_setIfInBounds]
      omega
    have hk := known_of_l hat inv hbk' hi ho
    have hst := Steps.get l 0 i o hs ((hsome i o).1 ho) a.eval w hk
    rw [Nat.zero_add] at hst
    have go : opK P (kept R Φ i o w) ((execOp a.eval o).run P w) → o.wp P a w (wpAny P .any ops Q fuel (listed.setIfInBounds i true)) Q := by
      intro h
      unfold Oper.wp
      refine upon_of (fun v w' hv => ?_) h
      exact ih _ _ _ (inv.next hds hRt hm hsz' hnd' ho hv.1 hv.2) hcnt
    unfold wpOp
    simp only [ho]
    cases hg : o.guard with
    | none =>
      rw [hg] at hst
      simp only [Region.wanted, hg, if_true]
      exact .inl (go hst)
    | some g =>
      obtain ⟨j, b⟩ := g
      rw [hg] at hst
      obtain ⟨c, hc1, hc2, hc3, hc4⟩ := hst
      have hj : j ∈ deps o := hgd i o ((hsome i o).1 ho) j b hg
      have hy : yielded ops a.tmps j = some c := by
        unfold yielded
        unfold atDst at hc1
        have hjs : ∃ oj, ops[j]? = some oj := by
          obtain ⟨e, he, rfl⟩ := List.mem_map.1 hj
          obtain ⟨he1, he2⟩ := List.mem_filter.1 he
          have hlt := hbk' i o ho e (by simpa using he1) he2
          have hil : i < ops.size := (Array.getElem?_eq_some_iff.1 ho).1
          exact ⟨_, Array.getElem?_eq_getElem (by omega)⟩
        obtain ⟨oj, hoj⟩ := hjs
        have hdj := hat j oj hoj
        rw [hdj] at hc1 hc2
        have hb : (ops[j]?).bind (·.dst) = oj.dst := by rw [hoj]; rfl
        rw [hb]
        cases hd : oj.dst with
        | none => rw [hd] at hc2; cases hc2
        | some d =>
          rw [hd] at hc1
          have e : a.tmps.getD d undef = .bool c := hc1
          rw [Array.getD_eq_getD_getElem?] at e
          cases ht : a.tmps[d]? with
          | none => rw [ht] at e; cases e
          | some x =>
            rw [ht] at e
            have e : x = .bool c := e
            subst e
            simp [ht]
      simp only [Region.wanted, hg, hy]
      by_cases hcb : c = b
      · subst hcb
        simp only [beq_self_eq_true, if_true]
        exact .inl (go (hc3 rfl))
      · have : (some c == some b) = false := by simpa using hcb
        simp only [this, Bool.false_eq_true, if_false]
        refine ih _ _ _ (inv.next hds hRt hm hsz' hnd' ho (hRr w) ?_) hcnt
        have := hc4 hcb
        split <;> exact this
/-- A region that draws its order, by what is said of each operation's value. -/
theorem wp_region_l {id : Nat} {a : Act} {w : World} {l : List Oper} (R : World → World → Prop) (Φ : Nat → Value → World → Prop) (hmx : P.follows .mixedOrders = true) (hf : fine_l l a.tmps.size = true)
    (hRr : ∀ w, R w w) (hRt : ∀ a b c : World, R a b → R b c → R a c) (hm : ∀ j v w w', R w w' → Φ j v w → Φ j v w')
    (hs : Steps P (dstsOf l) R Φ a w.drew 0 l)
    (hend : ∀ (vs : Nat → Value) (w' : World), R w.drew w' → (∀ k, k < l.length → Φ k (vs k) w') → Q .normal { tmps := fill vs 0 l a.tmps, defers := a.defers } w') :
    (Code.region id l.toArray true).wp P Q a w := by
  refine wp_region_any hmx ?_
  obtain ⟨hsz, _⟩ := fine_spec_l hf
  refine any_inv_l (ops := l.toArray) rfl hf hRr hRt hm hs (fun a' w' hdf hts hold hR hv => ?_) _ _ _ _ (Inv.mk (by simp) rfl rfl (hRr _) (fun _ _ => rfl) (fun j o hj hl => ?_)) ?_
  · have he := hend (fun k => match l[k]? with | some o => valAt a' o | none => undef) w' hR (fun k hk => by
      have hs : l[k]? = some l[k] := List.getElem?_eq_getElem hk
      simp only [hs]
      exact hv k _ (by simp))
    have hfe := fill_eq a'.tmps (fun k => match l[k]? with | some o => valAt a' o | none => undef) l 0 a.tmps hts.symm (fun i o d hi hd => ⟨by rw [hts]; exact hsz i o d hi hd, by rw [Nat.zero_add]; simp only [hi, valAt, hd]⟩) hold
    rw [hfe, ← hdf] at he
    exact he
  · have : (Array.replicate l.toArray.size false).getD j false = false := by
      rcases Nat.lt_or_ge j l.length with h | h <;> simp [h]
    rw [this] at hl
    cases hl
  · simp [Array.toList_replicate]
end
theorem wp_region_grows_l {P : Program} {Q : Exit → Act → World → Prop} {id : Nat} {a : Act} {w : World} {l : List Oper} (Φs : List (Value → World → Prop)) (hmx : P.follows .mixedOrders = true) (hf : fine_l l a.tmps.size = true) (hst : ∀ p ∈ Φs, Stays p)
    (hs : Steps P (dstsOf l) Grows (nth Φs) a w.drew 0 l)
    (hend : ∀ (vs : Nat → Value) (w' : World), Grows w.drew w' → (∀ k, k < l.length → nth Φs k (vs k) w') → Q .normal { tmps := fill vs 0 l a.tmps, defers := a.defers } w') :
    (Code.region id l.toArray true).wp P Q a w :=
  wp_region_l Grows (nth Φs) hmx hf Grows.refl (fun _ _ _ h k => h.trans k) (nth_stays hst) hs hend
end AnyOrder
end Go.Proofs.Ytkpadhjlopcejaa
