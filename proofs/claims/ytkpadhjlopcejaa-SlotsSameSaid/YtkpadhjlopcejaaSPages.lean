/-
  Pages of cells of one's own, that are written; an append of a whole slice of cells.
-/
import Derived.Test.YtkpadhjlopcejaaSClone
namespace Go.Proofs.Ytkpadhjlopcejaa
open Go.RowKit
theorem wpList_appendCp {ops : Array Oper} {rest : List Oper} {o : Oper} {a : Act} {Q : Exit → Act → World → Prop} {w : World} (hgd : o.guard = none) (s x : Operand)
    (ho : o.op = .call { callee := .builtin .append, args := #[s, x], argTypes := #[61, 61] }) (base : Nat) (v : Value) (l0 : List Cl) (hs : a.eval s = v) (hown : OwnC w base v l0)
    (vx : Value) (l : List Cl) (hx : a.eval x = vx) (ok : Nat → Prop) (hp : PartC ok w vx l)
    (hlen : l0.length + l.length ≤ 1099511627776) (hbase : base ≤ w.heap.size)
    (h : ∀ v' w', OwnC w' base v' (l0 ++ l) → w.grownBy w' v.ownBlock → (v'.ownBlock = v.ownBlock ∨ v'.ownBlock = some w.heap.size) → wpList Try.prog ops Q rest (a.put o.dst v') w') : wpList Try.prog ops Q (o :: rest) a w := by
  obtain ⟨ad, cap, rfl, hc, h1, h2, h3⟩ := hp
  cases ad with
  | some ad => exact wpList_appendC hgd s x ho base v l0 hs hown ad l.length cap l rfl hx ok hc hlen hbase h
  | none =>
    have h0 := h3 rfl
    subst h0
    obtain rfl : l = [] := List.eq_nil_of_length_eq_zero (by omega)
    obtain ⟨i0, hi, hz0, hz1, hz2⟩ := info_parts info81
    refine wpList_plain hgd fun K hK => ?_
    have hr := run_append_owned_none (P := Try.prog) (w := w) base 61 o.type 81 i0 5 Try.underlying61 hi v l0.length _ hown
    unfold Oper.wp execOp
    simp only [ho, resolve, invoke, builtin, Sem.run_bind, Sem.run_pure, Result.andThen_ok, List.map_toArray, List.map_cons, List.map_nil, hs, hx, List.length_nil, hr]
    exact hK _ _ (h v w (by rw [List.append_nil]; exact hown) ⟨rfl, rfl, rfl, Nat.le_refl _, fun _ _ _ => rfl⟩ (.inl rfl))
/-- the pages of a slice of cells in a block from B on -/
def PagesAt (w : World) (v : Value) (n B : Nat) : Prop := (v = .slice none 0 0 ∧ n = 0) ∨ ∃ g cap, v = .slice (some ⟨g, 0, none⟩) n cap ∧ B ≤ g ∧ n ≤ cap ∧ cap ≤ maxLen ∧ ∀ i, i < n → ∃ p, w.cell? ⟨g, i * 5 + 3, none⟩ = some (.int .i64 p) ∧ w.frozen? ⟨g, i * 5 + 3, none⟩ = false
theorem OwnC.pages {w : World} {B : Nat} {v : Value} {l : List Cl} (h : OwnC w B v l) : PagesAt w v l.length B := by
  have hp := h.part
  obtain ⟨h1, h2⟩ := h
  rcases h2 with ⟨rfl, hl⟩ | ⟨g, cap, cur, rfl, hg, hh, hc, hm, hsz, ht⟩
  · exact .inl ⟨rfl, hl⟩
  · refine .inr ⟨g, cap, rfl, hg, hc, hm, fun i hi => ?_⟩
    obtain ⟨a, c2, e, hcl, -⟩ := hp
    cases e
    obtain ⟨b, off, e, ho, hh5⟩ := hcl i hi
    cases e
    have := hh5 3 (by omega)
    rw [Nat.zero_add] at this
    exact ⟨_, this, by simp [World.frozen?, hh]⟩
theorem PagesAt.kept {ok : Nat → Prop} {w w' : World} {v : Value} {n B : Nat} (h : PagesAt w v n B) (hk : Kept ok w w') (ho : ∀ k, v.ownBlock = some k → ok k) : PagesAt w' v n B := by
  rcases h with h | ⟨g, cap, rfl, hg, h1, h2, h3⟩
  · exact .inl h
  · refine .inr ⟨g, cap, rfl, hg, h1, h2, fun i hi => ?_⟩
    obtain ⟨p, c, f⟩ := h3 i hi
    have hb := hk.block g (ho g rfl)
    refine ⟨p, by rw [hk.cell (p := ⟨g, i * 5 + 3, none⟩) (ho g rfl)]; exact c, ?_⟩
    simp only [World.frozen?] at f ⊢
    rw [hb]; exact f
theorem PagesAt.same {w : World} {g n cap B : Nat} (h : PagesAt w (.slice (some ⟨g, 0, none⟩) n cap) n B) (j : Nat) (x : Int) (hj : j < n) : PagesAt (w.setCell ⟨g, j * 5 + 3, none⟩ (.int .i64 x)) (.slice (some ⟨g, 0, none⟩) n cap) n B := by
  rcases h with ⟨h, _⟩ | ⟨g, cap, e, hg, h1, h2, h3⟩
  · cases h
  · cases e
    refine .inr ⟨g, cap, rfl, hg, h1, h2, fun i hi => ?_⟩
    obtain ⟨p, c, f⟩ := h3 i hi
    obtain ⟨p2, c2, f2⟩ := h3 j hj
    by_cases e : i = j
    · subst e
      exact ⟨x, World.cell?_setCell_same' w _ _ (by rw [c]; rfl), by simpa using f⟩
    · exact ⟨p, (World.cell?_setCell_other w _ _ _ (by intro h; have := congrArg Addr.off h; simp at this; omega)).trans c, by simpa using f⟩
theorem PagesAt.other {w : World} {v : Value} {n B g o : Nat} {u : Value} (h : PagesAt w v n B) (hg : v.ownBlock ≠ some g) : PagesAt (w.setCell ⟨g, o, none⟩ u) v n B :=
  h.kept (ok := fun k => k ≠ g) ((Kept.refl _ _).setCell (by simp) _) fun k hk e => hg (e ▸ hk)
end Go.Proofs.Ytkpadhjlopcejaa
