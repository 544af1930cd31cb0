/-
  Parts, written and read back: plain; slices of parts of one's own.
-/
import Derived.Test.YtkpadhjlopcejaaParts
namespace Go.Proofs.Ytkpadhjlopcejaa
open Go.RowKit
/-- the bytes of a part, if it may be; the error if not -/
def encP (x : Pt) : Option (List UInt8) := if x.kind = 1 then numB x.n x.bytes else if x.kind = 2 then textB x.text.data.toList else some [if decide (0 < x.n) then 1 else 0]
def noP (x : Pt) : Int := if x.kind = 2 then 3 else 2
def selB (l : List Pt) : List UInt8 := l.flatMap fun x => (encP x).getD []
theorem selB_snoc (l : List Pt) (x : Pt) : selB (l ++ [x]) = selB l ++ (encP x).getD [] := by unfold selB; rw [List.flatMap_append, List.flatMap_cons, List.flatMap_nil, List.append_nil]
theorem selB_down (l : List Pt) (k : Nat) (h : k < l.length) : selB (l.drop k) = (encP l[k]).getD [] ++ selB (l.drop (k + 1)) := by
  rw [List.drop_eq_getElem_cons h]
  unfold selB
  rw [List.flatMap_cons]
/-- which parts were written -/
def Sel (l : List Pt) : Prop := ∀ x ∈ l, (encP x).isSome = true ∧ x.n < 18446744073709551616
theorem sel_step (l : List Pt) (x : Pt) (hs : Sel l) (hx : x.n < 18446744073709551616) :
    ((written (selB l) (encP x) (noP x)).2 = 0 ∧ (written (selB l) (encP x) (noP x)).1 = selB (l ++ [x]) ∧ Sel (l ++ [x])) ∨
    ((written (selB l) (encP x) (noP x)).2 ≠ 0 ∧ (written (selB l) (encP x) (noP x)).1 = selB l) := by
  cases he : encP x with
  | none =>
    right
    refine ⟨?_, rfl⟩
    show noP x ≠ 0
    unfold noP; split <;> decide
  | some b =>
    unfold written
    by_cases h : 65536 < (selB l).length + b.length
    · right
      simp [h]
    · left
      simp only [h, if_false]
      refine ⟨trivial, by rw [selB_snoc, he]; rfl, fun y hy => ?_⟩
      rcases List.mem_append.1 hy with hy | hy
      · exact hs y hy
      · rw [List.mem_singleton.1 hy]; exact ⟨by rw [he]; rfl, hx⟩
theorem readNum_be (n : Nat) (k : Nat) (rest : List UInt8) (hk : 1 ≤ k ∧ k ≤ 8) (hn : n < 256 ^ k) : readNum (be n k ++ rest) k = ((n, 0), rest) := by
  have hb := be_length n k
  unfold readNum
  rw [if_pos (by omega), if_neg (by rw [Int.toNat_natCast]; simp; omega), Int.toNat_natCast]
  rw [List.take_append_of_le_length (by omega), List.take_of_length_le (by omega), List.drop_append_of_le_length (by omega), List.drop_of_length_le (by omega), val_be _ _ hn]
  rfl
theorem back_num (x : Pt) (rest : List UInt8) (h1 : x.kind = 1) (hs : (encP x).isSome = true) : readNum ((encP x).getD [] ++ rest) x.bytes = ((x.n, 0), rest) := by
  unfold encP at hs ⊢
  rw [if_pos h1] at hs ⊢
  unfold numB at hs ⊢
  by_cases h : (1 ≤ x.bytes ∧ x.bytes ≤ 8) ∧ x.n < 256 ^ x.bytes.toNat
  · rw [if_pos h]
    have e : x.bytes = ((x.bytes.toNat : Nat) : Int) := by omega
    have := readNum_be x.n x.bytes.toNat rest (by omega) h.2
    rw [← e] at this
    exact this
  · rw [if_neg h] at hs; cases hs
theorem back_text (x : Pt) (rest : List UInt8) (h1 : x.kind = 2) (hs : (encP x).isSome = true) : readText ((encP x).getD [] ++ rest) = ((x.text.data.toList, 0), rest) := by
  unfold encP at hs ⊢
  rw [if_neg (by omega), if_pos h1] at hs ⊢
  unfold textB at hs ⊢
  by_cases h : x.text.data.toList.length ≤ 65535
  · rw [if_pos h]
    exact readText_be _ rest h
  · rw [if_neg h] at hs; cases hs
theorem back_truth (x : Pt) (rest : List UInt8) (h1 : x.kind ≠ 1) (h2 : x.kind ≠ 2) : readTruth ((encP x).getD [] ++ rest) = ((decide (0 < x.n), 0), rest) := by
  unfold encP
  rw [if_neg h1, if_neg h2]
  cases decide (0 < x.n)
  · rfl
  · rfl
def cellsOf (x : Pt) : List Value := [.int .i64 x.kind, .int .u64 (x.n : Int), .int .i64 x.bytes, .string x.text]
def cellsP (l : List Pt) : List Value := l.flatMap cellsOf
theorem cellsP_length (l : List Pt) : (cellsP l).length = l.length * 4 := by
  induction l with
  | nil => rfl
  | cons x l ih => unfold cellsP at ih ⊢; rw [List.flatMap_cons, List.length_append, ih, List.length_cons]; show 4 + _ = _; omega
theorem cellsP_drop (l : List Pt) : ∀ i, i ≤ l.length → (cellsP l).drop (i * 4) = cellsP (l.drop i) := by
  induction l with
  | nil => intro i hi; have : i = 0 := by simpa using hi
           subst this; rfl
  | cons x l ih =>
    intro i hi
    cases i with
    | zero => rfl
    | succ i =>
      have e : (i + 1) * 4 = 4 + i * 4 := by omega
      have e2 : cellsP (x :: l) = cellsOf x ++ cellsP l := by unfold cellsP; rw [List.flatMap_cons]
      rw [e, e2, ← List.drop_drop, List.drop_succ_cons]
      have e3 : (cellsOf x ++ cellsP l).drop 4 = cellsP l := rfl
      rw [e3]
      exact ih i (by simpa using hi)
theorem cellsP_get (l : List Pt) (i j : Nat) (hi : i < l.length) (hj : j < 4) : (cellsP l)[i * 4 + j]? = (cellsOf l[i])[j]? := by
  have h := cellsP_drop l i (by omega)
  rw [List.drop_eq_getElem_cons hi] at h
  have e2 : cellsP (l[i] :: l.drop (i + 1)) = cellsOf l[i] ++ cellsP (l.drop (i + 1)) := by unfold cellsP; rw [List.flatMap_cons]
  rw [e2] at h
  have h2 : ((cellsP l).drop (i * 4))[j]? = (cellsP l)[i * 4 + j]? := by rw [List.getElem?_drop]
  rw [← h2, h, List.getElem?_append_left (by show j < 4; exact hj)]
/-- the slice value v holds parts, in a block of the call's own; or it is nil -/
def OwnP (w : World) (base : Nat) (v : Value) (l : List Pt) : Prop := w.ownsRow base 30 4 v l.length (cellsP l)
theorem OwnP.nil (w : World) (base : Nat) : OwnP w base (.slice none 0 0) [] := ⟨rfl, .inl ⟨rfl, rfl⟩⟩
theorem OwnP.kept {ok : Nat → Prop} {w w' : World} {base : Nat} {v : Value} {l : List Pt} (h : OwnP w base v l) (hk : Kept ok w w') (ho : ∀ k, v.ownBlock = some k → ok k) : OwnP w' base v l := by
  obtain ⟨h1, h2⟩ := h
  refine ⟨h1, ?_⟩
  rcases h2 with h2 | ⟨g, cap, cur, rfl, hg, hh, r⟩
  · exact .inl h2
  · exact .inr ⟨g, cap, cur, rfl, hg, by rw [hk.block g (ho g rfl)]; exact hh, r⟩
theorem OwnP.block {w : World} {base : Nat} {v : Value} {l : List Pt} (h : OwnP w base v l) {C : Nat} (hC : v.ownBlock = some C) : base ≤ C ∧ C < w.heap.size := by
  rcases h.2 with ⟨rfl, _⟩ | ⟨g, cap, cur, rfl, hg, hh, _⟩
  · cases hC
  · cases hC; exact ⟨hg, (Array.getElem?_eq_some_iff.1 hh).1⟩
theorem OwnP.below {w w' : World} {base : Nat} {v : Value} {l : List Pt} (h : OwnP w base v l) (hb : Below w.heap.size w w') : OwnP w' base v l :=
  h.kept (Kept.of_below hb (ok := fun k => k < w.heap.size) fun _ h => h) fun _ hv => (h.block hv).2
theorem OwnP.pts {w : World} {base : Nat} {v : Value} {l : List Pt} (h : OwnP w base v l) (hn : ∀ x ∈ l, x.n < 18446744073709551616) : ∃ a cap, v = .slice a l.length cap ∧ PtsIn (fun k => v.ownBlock = some k) w a l := by
  obtain ⟨h1, h2⟩ := h
  rcases h2 with ⟨rfl, hl⟩ | ⟨g, cap, cur, rfl, hg, hh, hc, hm, hsz, ht⟩
  · have : l = [] := List.eq_nil_of_length_eq_zero hl
    subst this
    exact ⟨none, 0, rfl, fun i h => absurd h (Nat.not_lt_zero _)⟩
  · refine ⟨_, cap, rfl, fun i hi => ⟨g, 0, rfl, rfl, hn _ (List.getElem_mem _), ?_⟩⟩
    have e : ∀ j, j < 4 → w.cell? ⟨g, 0 + i * 4 + j, none⟩ = (cellsOf l[i])[j]? := by
      intro j hj
      have : (cur.toList.take (l.length * 4))[i * 4 + j]? = (cellsP l)[i * 4 + j]? := by rw [ht]
      rw [List.getElem?_take_of_lt (by omega), cellsP_get l i j hi hj] at this
      rw [Nat.zero_add]
      simp only [World.cell?, hh]
      rw [← this]
      simp
    exact ⟨e 0 (by omega), e 1 (by omega), e 2 (by omega), e 3 (by omega)⟩
theorem info30 : (Try.prog.info? 30).map (fun i => (i.zero, i.size, i.bytes)) = some (some (.agg #[.int .i64 0, .int .u64 0, .int .i64 0, .string ⟨#[]⟩]), 4, 40) := by kernel_rfl
theorem wpList_appendP {ops : Array Oper} {rest : List Oper} {o : Oper} {a : Act} {Q : Exit → Act → World → Prop} {w : World} (hgd : o.guard = none) (s x : Operand)
    (ho : o.op = .call { callee := .builtin .append, args := #[s, x], argTypes := #[22, 22] }) (base : Nat) (v : Value) (l0 : List Pt) (hs : a.eval s = v) (hown : OwnP w base v l0)
    (ad : Addr) (y : Pt) (c : Nat) (hx : a.eval x = .slice (some ad) 1 c) (hc : ∀ j u, (cellsOf y)[j]? = some u → w.cell? (ad.add j) = some u)
    (hlen : l0.length + 1 ≤ 1099511627776) (hbase : base ≤ w.heap.size)
    (h : ∀ v' w', OwnP w' base v' (l0 ++ [y]) → w.grownBy w' v.ownBlock → (v'.ownBlock = v.ownBlock ∨ v'.ownBlock = some w.heap.size) → wpList Try.prog ops Q rest (a.put o.dst v') w') : wpList Try.prog ops Q (o :: rest) a w := by
  obtain ⟨i0, hi, hz0, hz1, hz2⟩ := info_parts info30
  refine wpList_append_own_at w hgd s x 22 ho base 30 i0 _ 4 40 Try.underlying22 hi hz0 hz1 hz2 rfl (by decide) v l0.length _ hs hown ad 1 c (cellsOf y) hx rfl hc ?_ (by unfold maxLen; omega) (by omega) hbase ?_
  · intro u hu
    simp only [cellsOf, List.mem_cons, List.not_mem_nil, or_false] at hu
    rcases hu with rfl | rfl | rfl | rfl <;> rfl
  · intro v' w' h1 h2 _ h4
    refine h v' w' ?_ h2 h4
    have e : cellsP (l0 ++ [y]) = cellsP l0 ++ cellsOf y := by unfold cellsP; rw [List.flatMap_append, List.flatMap_cons, List.flatMap_nil, List.append_nil]
    unfold OwnP
    rw [e, List.length_append]
    exact h1
end Go.Proofs.Ytkpadhjlopcejaa
