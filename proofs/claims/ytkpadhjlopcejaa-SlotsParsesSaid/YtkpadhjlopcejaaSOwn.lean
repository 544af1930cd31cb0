/-
  Slices of cells of one's own; appends.
-/
import Derived.Test.YtkpadhjlopcejaaSCells
namespace Go.Proofs.Ytkpadhjlopcejaa
open Go.RowKit
def cellsR (l : List Cl) : List Value := l.flatMap rowC
theorem cellsR_length (l : List Cl) : (cellsR l).length = l.length * 5 := by
  induction l with
  | nil => rfl
  | cons x l ih => unfold cellsR at ih ⊢; rw [List.flatMap_cons, List.length_append, ih, List.length_cons]; show 5 + _ = _; omega
theorem cellsR_drop (l : List Cl) : ∀ i, i ≤ l.length → (cellsR l).drop (i * 5) = cellsR (l.drop i) := by
  induction l with
  | nil => intro i hi; have : i = 0 := by simpa using hi
           subst this; rfl
  | cons x l ih =>
    intro i hi
    cases i with
    | zero => rfl
    | succ i =>
      have e : (i + 1) * 5 = 5 + i * 5 := by omega
      have e2 : cellsR (x :: l) = rowC x ++ cellsR l := by unfold cellsR; rw [List.flatMap_cons]
      rw [e, e2, ← List.drop_drop, List.drop_succ_cons]
      have e3 : (rowC x ++ cellsR l).drop 5 = cellsR l := rfl
      rw [e3]
      exact ih i (by simpa using hi)
theorem cellsR_get (l : List Cl) (i j : Nat) (hi : i < l.length) (hj : j < 5) : (cellsR l)[i * 5 + j]? = (rowC l[i])[j]? := by
  have h := cellsR_drop l i (by omega)
  rw [List.drop_eq_getElem_cons hi] at h
  have e2 : cellsR (l[i] :: l.drop (i + 1)) = rowC l[i] ++ cellsR (l.drop (i + 1)) := by unfold cellsR; rw [List.flatMap_cons]
  rw [e2] at h
  have h2 : ((cellsR l).drop (i * 5))[j]? = (cellsR l)[i * 5 + j]? := by rw [List.getElem?_drop]
  rw [← h2, h, List.getElem?_append_left (by show j < 5; exact hj)]
/-- the slice value v holds cells, in a block of the call's own; or it is nil -/
def OwnC (w : World) (base : Nat) (v : Value) (l : List Cl) : Prop := w.ownsRow base 81 5 v l.length (cellsR l)
theorem OwnC.nil (w : World) (base : Nat) : OwnC w base (.slice none 0 0) [] := ⟨rfl, .inl ⟨rfl, rfl⟩⟩
theorem OwnC.kept {ok : Nat → Prop} {w w' : World} {base : Nat} {v : Value} {l : List Cl} (h : OwnC w base v l) (hk : Kept ok w w') (ho : ∀ k, v.ownBlock = some k → ok k) : OwnC w' base v l := by
  obtain ⟨h1, h2⟩ := h
  refine ⟨h1, ?_⟩
  rcases h2 with h2 | ⟨g, cap, cur, rfl, hg, hh, r⟩
  · exact .inl h2
  · exact .inr ⟨g, cap, cur, rfl, hg, by rw [hk.block g (ho g rfl)]; exact hh, r⟩
theorem OwnC.block {w : World} {base : Nat} {v : Value} {l : List Cl} (h : OwnC w base v l) {C : Nat} (hC : v.ownBlock = some C) : base ≤ C ∧ C < w.heap.size := by
  rcases h.2 with ⟨rfl, _⟩ | ⟨g, cap, cur, rfl, hg, hh, _⟩
  · cases hC
  · cases hC; exact ⟨hg, (Array.getElem?_eq_some_iff.1 hh).1⟩
theorem OwnC.below {w w' : World} {base : Nat} {v : Value} {l : List Cl} (h : OwnC w base v l) (hb : Below w.heap.size w w') : OwnC w' base v l :=
  h.kept (Kept.of_below hb (ok := fun k => k < w.heap.size) fun _ h => h) fun _ hv => (h.block hv).2
theorem OwnC.mono {w : World} {base base' : Nat} {v : Value} {l : List Cl} (h : OwnC w base v l) (hb : ∀ k, v.ownBlock = some k → base' ≤ k) : OwnC w base' v l := by
  obtain ⟨h1, h2⟩ := h
  refine ⟨h1, ?_⟩
  rcases h2 with h2 | ⟨g, cap, cur, rfl, hg, r⟩
  · exact .inl h2
  · exact .inr ⟨g, cap, cur, rfl, hb g rfl, r⟩
theorem OwnC.part {w : World} {base : Nat} {v : Value} {l : List Cl} (h : OwnC w base v l) : PartC (fun k => v.ownBlock = some k) w v l := by
  obtain ⟨h1, h2⟩ := h
  rcases h2 with ⟨rfl, hl⟩ | ⟨g, cap, cur, rfl, hg, hh, hc, hm, hsz, ht⟩
  · have : l = [] := List.eq_nil_of_length_eq_zero hl
    subst this
    exact PartC.nil _ _
  · refine ⟨_, cap, rfl, fun i hi => ⟨g, 0, rfl, rfl, fun j hj => ?_⟩, hc, hm, fun h => by cases h⟩
    have : (cur.toList.take (l.length * 5))[i * 5 + j]? = (cellsR l)[i * 5 + j]? := by rw [ht]
    rw [List.getElem?_take_of_lt (by omega), cellsR_get l i j hi hj] at this
    rw [Nat.zero_add]
    simp only [World.cell?, hh]
    rw [← this]
    simp
theorem OwnC.low {w : World} {base : Nat} {v : Value} {l : List Cl} (h : OwnC w base v l) : PartC (fun k => k < w.heap.size) w v l := h.part.mono fun _ e => (h.block e).2
theorem info81 : (Try.prog.info? 81).map (fun i => (i.zero, i.size, i.bytes)) = some (some (.agg #[.string ⟨#[]⟩, .string ⟨#[]⟩, .bool false, .int .i64 0, .int .i64 0]), 5, 56) := by kernel_rfl
theorem grown_belowC {w w' : World} {base : Nat} {v : Value} {l : List Cl} (hg : w.grownBy w' v.ownBlock) (hown : OwnC w base v l) (hbase : base ≤ w.heap.size) : Below base w w' :=
  ⟨hg.os, hg.tape, hg.output, hg.size, fun k hk => hg.block k (by omega) (fun e => by have := (hown.block e.symm).1; omega)⟩
theorem wpList_appendC1 {ops : Array Oper} {rest : List Oper} {o : Oper} {a : Act} {Q : Exit → Act → World → Prop} {w : World} (hgd : o.guard = none) (s x : Operand)
    (ho : o.op = .call { callee := .builtin .append, args := #[s, x], argTypes := #[61, 61] }) (base : Nat) (v : Value) (l0 : List Cl) (hs : a.eval s = v) (hown : OwnC w base v l0)
    (ad : Addr) (y : Cl) (c : Nat) (hx : a.eval x = .slice (some ad) 1 c) (hc : ∀ j u, (rowC y)[j]? = some u → w.cell? (ad.add j) = some u)
    (hlen : l0.length + 1 ≤ 1099511627776) (hbase : base ≤ w.heap.size)
    (h : ∀ v' w', OwnC w' base v' (l0 ++ [y]) → w.grownBy w' v.ownBlock → (v'.ownBlock = v.ownBlock ∨ v'.ownBlock = some w.heap.size) → wpList Try.prog ops Q rest (a.put o.dst v') w') : wpList Try.prog ops Q (o :: rest) a w := by
  obtain ⟨i0, hi, hz0, hz1, hz2⟩ := info_parts info81
  refine wpList_append_own_at w hgd s x 61 ho base 81 i0 _ 5 56 Try.underlying61 hi hz0 hz1 hz2 rfl (by decide) v l0.length _ hs hown ad 1 c (rowC y) hx rfl hc ?_ (by unfold maxLen; omega) (by omega) hbase ?_
  · intro u hu
    simp only [rowC, List.mem_cons, List.not_mem_nil, or_false] at hu
    rcases hu with rfl | rfl | rfl | rfl | rfl <;> rfl
  · intro v' w' h1 h2 _ h4
    refine h v' w' ?_ h2 h4
    have e : cellsR (l0 ++ [y]) = cellsR l0 ++ rowC y := by unfold cellsR; rw [List.flatMap_append, List.flatMap_cons, List.flatMap_nil, List.append_nil]
    unfold OwnC
    rw [e, List.length_append]
    exact h1
end Go.Proofs.Ytkpadhjlopcejaa
