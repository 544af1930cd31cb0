/-
  append of bytes onto a slice of the call's own.
-/
import Derived.Test.YtgefenjjabjfmaaBytesArg
import Derived.Laws.AppendOwnNone
namespace Go.Proofs.Ytgefenjjabjfmaa
open Go.RowKit
theorem BytesIn.take {ok : Nat → Prop} {w : World} {a : Option Addr} {l : List UInt8} (h : BytesIn ok w a l) (n : Nat) : BytesIn ok w a (l.take n) := by
  intro i hi
  have hi' : i < l.length := by simp at hi; omega
  obtain ⟨b, off, e, ho, hc⟩ := h i hi'
  exact ⟨b, off, e, ho, by simpa using hc⟩
theorem BytesIn.grows {w w' : World} {a : Option Addr} {l : List UInt8} (h : BytesIn (fun k => k < w.heap.size) w a l) (hb : Below w.heap.size w w') : BytesIn (fun k => k < w'.heap.size) w' a l := by
  intro i hi
  obtain ⟨b, off, e, ho, hc⟩ := h i hi
  exact ⟨b, off, e, Nat.lt_of_lt_of_le ho hb.size, by rw [hb.cell (p := ⟨b, off + i, none⟩) ho]; exact hc⟩
/-- the slice value v holds the bytes l, in a block of the call's own from 'base' on; or it is nil -/
def OwnB (w : World) (base : Nat) (v : Value) (l : List UInt8) : Prop := w.ownsRow base 5 1 v l.length (l.map fun x => .int .u8 (x.toNat : Int))
theorem OwnB.nil (w : World) (base : Nat) : OwnB w base (.slice none 0 0) [] := ⟨rfl, .inl ⟨rfl, rfl⟩⟩
theorem OwnB.kept {w w' : World} {base : Nat} {v : Value} {l : List UInt8} (h : OwnB w base v l) (hk : ∀ k o, base ≤ k → w.heap[k]? = some o → w'.heap[k]? = some o) : OwnB w' base v l := by
  obtain ⟨h1, h2⟩ := h
  refine ⟨h1, ?_⟩
  rcases h2 with h2 | ⟨g, cap, cur, hv, hg, hh, r⟩
  · exact .inl h2
  · exact .inr ⟨g, cap, cur, hv, hg, hk _ _ hg hh, r⟩
theorem OwnB.below {w w' : World} {base : Nat} {v : Value} {l : List UInt8} (h : OwnB w base v l) (hb : Below w.heap.size w w') : OwnB w' base v l :=
  h.kept fun k o _ ho => by rw [hb.block k (Array.getElem?_eq_some_iff.1 ho).1]; exact ho
/-- as a slice of bytes -/
theorem OwnB.slice {w : World} {base : Nat} {v : Value} {l : List UInt8} (h : OwnB w base v l) : ∃ a cap, v = .slice a l.length cap ∧ BytesIn (fun k => k < w.heap.size) w a l ∧ l.length ≤ cap ∧ cap ≤ maxLen ∧ (a = none → cap = 0) := by
  obtain ⟨h1, h2⟩ := h
  rcases h2 with ⟨rfl, hl⟩ | ⟨g, cap, cur, rfl, hg, hh, hn, hm, hsz, ht⟩
  · have : l = [] := List.eq_nil_of_length_eq_zero hl
    subst this
    exact ⟨none, 0, rfl, fun i hi => absurd hi (Nat.not_lt_zero _), Nat.le_refl _, Nat.zero_le _, fun _ => rfl⟩
  · refine ⟨_, cap, rfl, fun i hi => ⟨g, 0, rfl, (Array.getElem?_eq_some_iff.1 hh).1, ?_⟩, hn, hm, fun h => by cases h⟩
    have e : cur[i]? = some (.int .u8 (l[i].toNat : Int)) := by
      have : (cur.toList.take (l.length * 1))[i]? = (l.map fun x => Value.int .u8 (x.toNat : Int))[i]? := by rw [ht]
      rw [List.getElem?_take_of_lt (by omega)] at this
      simpa [hi] using this
    rw [Nat.zero_add]
    simp [World.cell?, hh, e]
theorem wpList_appendB {ops : Array Oper} {rest : List Oper} {o : Oper} {a : Act} {Q : Exit → Act → World → Prop} {w : World} (hgd : o.guard = none) (s x : Operand)
    (ho : o.op = .call { callee := .builtin .append, args := #[s, x], argTypes := #[22, 22] }) (base : Nat) (v : Value) (l0 : List UInt8) (hs : a.eval s = v) (hown : OwnB w base v l0)
    (src : Option Addr) (m c : Nat) (l : List UInt8) (hm : l.length = m) (hx : a.eval x = .slice src m c) (hsrc : src = none → c = 0) (hb : BytesIn (fun k => k < w.heap.size) w src l)
    (hlen : l0.length + m ≤ 1099511627776) (hbase : base ≤ w.heap.size)
    (h : ∀ v' w', OwnB w' base v' (l0 ++ l) → w.grownBy w' v.ownBlock → wpList Try.prog ops Q rest (a.put o.dst v') w') : wpList Try.prog ops Q (o :: rest) a w := by
  obtain ⟨i0, hi, hz0, hz1, hz2⟩ := info_parts (show (Try.prog.info? 5).map (fun i => (i.zero, i.size, i.bytes)) = some (some (.int .u8 0), 1, 1) by kernel_rfl)
  subst hm
  cases src with
  | none =>
    have hl : l = [] := by
      cases l with
      | nil => rfl
      | cons y l =>
        obtain ⟨b, off, e, _⟩ := hb 0 (by simp)
        cases e
    subst hl
    have hc := hsrc rfl
    subst hc
    refine wpList_append_own_none hgd s x 22 ho base 5 i0 1 Try.underlying22 hi v l0.length _ hs hown hx ?_
    refine h v w (by simpa using hown) ⟨rfl, rfl, rfl, Nat.le_refl _, fun _ _ _ => rfl⟩
  | some ad =>
    refine wpList_append_own w hgd s x 22 ho base 5 i0 (.int .u8 0) 1 1 Try.underlying22 hi hz0 hz1 hz2 rfl (by decide) v l0.length _ hs hown ad l.length c (l.map fun x => .int .u8 (x.toNat : Int)) hx (by simp) ?_ ?_ (by unfold maxLen; omega) (by omega) hbase ?_
    · intro j u hu
      have hj : j < l.length := by
        have := (List.getElem?_eq_some_iff.1 hu).1
        simpa using this
      obtain ⟨b, off, e, _, hc⟩ := hb j hj
      cases e
      rw [addr_add, hc]
      rw [← hu]
      simp [hj]
    · intro u hu
      obtain ⟨y, _, rfl⟩ := List.mem_map.1 hu
      rfl
    · intro v' w' h1 h2 _
      exact h v' w' (by simpa [OwnB] using h1) h2
theorem grown_below {w w' : World} {base : Nat} {v : Value} {l : List UInt8} (hg : w.grownBy w' v.ownBlock) (hown : OwnB w base v l) (hbase : base ≤ w.heap.size) : Below base w w' := by
  refine ⟨hg.os, hg.tape, hg.output, hg.size, fun k hk => hg.block k (by omega) (fun e => ?_)⟩
  rcases hown.2 with ⟨rfl, _⟩ | ⟨g, cap, cur, rfl, hg', _⟩
  · cases e
  · have : k = g := Option.some.inj e
    omega
end Go.Proofs.Ytgefenjjabjfmaa
