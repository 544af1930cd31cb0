/-
  Slices of bytes: what lies in them, whose they are, appends.
-/
import Derived.Test.YtkpadhjlopcejaaEat
import Derived.Maps.AppendAt
import Derived.Lib.AppendStr
import Derived.Laws.OwnMore
import Derived.WalkLawsBesides
import Derived.WalkSpells
namespace Go.Proofs.Ytkpadhjlopcejaa
open Go.RowKit
/-- bytes of a slice, in blocks of which 'ok' speaks -/
def BytesIn (ok : Nat → Prop) (w : World) (a : Option Addr) (l : List UInt8) : Prop :=
  ∀ i (h : i < l.length), ∃ b off, a = some ⟨b, off, none⟩ ∧ ok b ∧ w.cell? ⟨b, off + i, none⟩ = some (.int .u8 (l[i].toNat : Int))
theorem BytesIn.kept {ok : Nat → Prop} {w w' : World} {a : Option Addr} {l : List UInt8} (h : BytesIn ok w a l) (hk : Kept ok w w') : BytesIn ok w' a l := by
  intro i hi
  obtain ⟨b, off, e, ho, hc⟩ := h i hi
  exact ⟨b, off, e, ho, by rw [hk.cell (p := ⟨b, off + i, none⟩) ho]; exact hc⟩
theorem BytesIn.mono {ok ok' : Nat → Prop} {w : World} {a : Option Addr} {l : List UInt8} (h : BytesIn ok w a l) (hm : ∀ k, ok k → ok' k) : BytesIn ok' w a l := by
  intro i hi
  obtain ⟨b, off, e, ho, hc⟩ := h i hi
  exact ⟨b, off, e, hm b ho, hc⟩
theorem BytesIn.take {ok : Nat → Prop} {w : World} {a : Option Addr} {l : List UInt8} (h : BytesIn ok w a l) (n : Nat) : BytesIn ok w a (l.take n) := by
  intro i hi
  have hi' : i < l.length := by simp at hi; omega
  obtain ⟨b, off, e, ho, hc⟩ := h i hi'
  exact ⟨b, off, e, ho, by simpa using hc⟩
theorem BytesIn.drop {ok : Nat → Prop} {w : World} {a : Option Addr} {l : List UInt8} (h : BytesIn ok w a l) (n : Nat) : BytesIn ok w (a.map (·.add (n * 1))) (l.drop n) := by
  intro i hi
  have hi' : n + i < l.length := by simp at hi; omega
  obtain ⟨b, off, rfl, ho, hc⟩ := h (n + i) hi'
  refine ⟨b, off + n, by rw [Option.map_some, addr_add, Nat.mul_one], ho, ?_⟩
  rw [show off + n + i = off + (n + i) from by omega, hc]
  simp
theorem BytesIn.nil (ok : Nat → Prop) (w : World) (a : Option Addr) : BytesIn ok w a [] := fun _ h => absurd h (Nat.not_lt_zero _)
/-- a part of a slice of bytes -/
def PartB (ok : Nat → Prop) (w : World) (v : Value) (l : List UInt8) : Prop := ∃ a cap, v = .slice a l.length cap ∧ BytesIn ok w a l ∧ l.length ≤ cap ∧ cap ≤ maxLen ∧ (a = none → cap = 0)
theorem PartB.kept {ok : Nat → Prop} {w w' : World} {v : Value} {l : List UInt8} (h : PartB ok w v l) (hk : Kept ok w w') : PartB ok w' v l := by
  obtain ⟨a, cap, h1, h2, h3⟩ := h
  exact ⟨a, cap, h1, h2.kept hk, h3⟩
theorem PartB.mono {ok ok' : Nat → Prop} {w : World} {v : Value} {l : List UInt8} (h : PartB ok w v l) (hm : ∀ k, ok k → ok' k) : PartB ok' w v l := by
  obtain ⟨a, cap, h1, h2, h3⟩ := h
  exact ⟨a, cap, h1, h2.mono hm, h3⟩
theorem PartB.nil (ok : Nat → Prop) (w : World) : PartB ok w (.slice none 0 0) [] := ⟨none, 0, rfl, BytesIn.nil _ _ _, Nat.le_refl _, Nat.zero_le _, fun _ => rfl⟩
theorem partB_low {ok : Nat → Prop} {w : World} {a : Option Addr} {cap : Nat} {l : List UInt8} (h : BytesIn ok w a l) (hc : l.length ≤ cap ∧ cap ≤ maxLen ∧ (a = none → cap = 0)) (n c : Nat) (hn : n ≤ l.length) (hnc : n ≤ c) (hcc : c ≤ cap) : PartB ok w (sliced a 0 n c 1) (l.take n) := by
  refine ⟨if c = 0 then a else a.map (·.add (0 * 1)), c - 0, by unfold sliced; simp [Nat.min_eq_left hn], ?_, by simp; omega, by omega, fun e => ?_⟩
  · by_cases h0 : c = 0
    · rw [if_pos h0]; exact h.take n
    · rw [if_neg h0]; have := h.drop 0; rw [List.drop_zero] at this; exact this.take n
  · by_cases h0 : c = 0
    · rw [h0]
    · rw [if_neg h0] at e
      have := hc.2.2 (by simpa using e)
      omega
theorem partB_high {ok : Nat → Prop} {w : World} {a : Option Addr} {cap : Nat} {l : List UInt8} (h : BytesIn ok w a l) (hc : l.length ≤ cap ∧ cap ≤ maxLen ∧ (a = none → cap = 0)) (n : Nat) (hn : n ≤ l.length) : PartB ok w (sliced a n l.length cap 1) (l.drop n) := by
  refine ⟨if cap = n then a else a.map (·.add (n * 1)), cap - n, by unfold sliced; simp, ?_, by simp; omega, by omega, fun e => ?_⟩
  · by_cases hcn : cap = n
    · rw [if_pos hcn, show l.drop n = [] from List.drop_eq_nil_of_le (by omega)]
      exact BytesIn.nil _ _ _
    · rw [if_neg hcn]; exact h.drop n
  · by_cases hcn : cap = n
    · omega
    · rw [if_neg hcn] at e
      have := hc.2.2 (by simpa using e)
      omega
theorem PartB.at {ok : Nat → Prop} {w : World} {a : Option Addr} {n c : Nat} {l : List UInt8} (h : PartB ok w (.slice a n c) l) : BytesIn ok w a l ∧ l.length = n ∧ n ≤ c ∧ c ≤ maxLen ∧ (a = none → c = 0) := by
  obtain ⟨a', c', e, h1, h2, h3, h4⟩ := h
  cases e
  exact ⟨h1, rfl, h2, h3, h4⟩
def cellsB (l : List UInt8) : List Value := l.map fun x => .int .u8 (x.toNat : Int)
theorem cellsB_get {l : List UInt8} {i : Nat} (h : i < l.length) : (cellsB l)[i]? = some (.int .u8 (l[i].toNat : Int)) := by simp [cellsB, h]
/-- the slice value v holds the bytes l, in a block of the call's own from 'base' on; or it is nil -/
def OwnB (w : World) (base : Nat) (v : Value) (l : List UInt8) : Prop := w.ownsRow base 5 1 v l.length (cellsB l)
theorem OwnB.nil (w : World) (base : Nat) : OwnB w base (.slice none 0 0) [] := ⟨rfl, .inl ⟨rfl, rfl⟩⟩
theorem OwnB.keptB {w w' : World} {base : Nat} {v : Value} {l : List UInt8} (h : OwnB w base v l) (hk : ∀ k o, v.ownBlock = some k → w.heap[k]? = some o → w'.heap[k]? = some o) : OwnB w' base v l := by
  obtain ⟨h1, h2⟩ := h
  refine ⟨h1, ?_⟩
  rcases h2 with h2 | ⟨g, cap, cur, rfl, hg, hh, r⟩
  · exact .inl h2
  · exact .inr ⟨g, cap, cur, rfl, hg, hk _ _ rfl hh, r⟩
theorem OwnB.kept {ok : Nat → Prop} {w w' : World} {base : Nat} {v : Value} {l : List UInt8} (h : OwnB w base v l) (hk : Kept ok w w') (ho : ∀ k, v.ownBlock = some k → ok k) : OwnB w' base v l :=
  h.keptB fun k o hv hh => by rw [hk.block k (ho k hv)]; exact hh
theorem OwnB.block {w : World} {base : Nat} {v : Value} {l : List UInt8} (h : OwnB w base v l) {C : Nat} (hC : v.ownBlock = some C) : base ≤ C ∧ C < w.heap.size := by
  rcases h.2 with ⟨rfl, _⟩ | ⟨g, cap, cur, rfl, hg, hh, _⟩
  · cases hC
  · cases hC; exact ⟨hg, (Array.getElem?_eq_some_iff.1 hh).1⟩
theorem OwnB.below {w w' : World} {base : Nat} {v : Value} {l : List UInt8} (h : OwnB w base v l) (hb : Below w.heap.size w w') : OwnB w' base v l :=
  h.kept (Kept.of_below hb (ok := fun k => k < w.heap.size) fun _ h => h) fun _ hv => (h.block hv).2
theorem OwnB.mono {w : World} {base base' : Nat} {v : Value} {l : List UInt8} (h : OwnB w base v l) (hb : ∀ k, v.ownBlock = some k → base' ≤ k) : OwnB w base' v l := by
  obtain ⟨h1, h2⟩ := h
  refine ⟨h1, ?_⟩
  rcases h2 with h2 | ⟨g, cap, cur, rfl, hg, r⟩
  · exact .inl h2
  · exact .inr ⟨g, cap, cur, rfl, hb g rfl, r⟩
/-- as a slice of bytes -/
theorem OwnB.part {w : World} {base : Nat} {v : Value} {l : List UInt8} (h : OwnB w base v l) : PartB (fun k => v.ownBlock = some k) w v l := by
  obtain ⟨h1, h2⟩ := h
  rcases h2 with ⟨rfl, hl⟩ | ⟨g, cap, cur, rfl, hg, hh, hn, hm, hsz, ht⟩
  · have : l = [] := List.eq_nil_of_length_eq_zero hl
    subst this
    exact PartB.nil _ _
  · refine ⟨_, cap, rfl, fun i hi => ⟨g, 0, rfl, rfl, ?_⟩, hn, hm, fun h => by cases h⟩
    have e : cur[i]? = some (.int .u8 (l[i].toNat : Int)) := by
      have : (cur.toList.take (l.length * 1))[i]? = (cellsB l)[i]? := by rw [ht]
      rw [List.getElem?_take_of_lt (by omega), cellsB_get hi] at this
      simpa using this
    rw [Nat.zero_add]
    simp [World.cell?, hh, e]
theorem grown_belowB {w w' : World} {base : Nat} {v : Value} {l : List UInt8} (hg : w.grownBy w' v.ownBlock) (hown : OwnB w base v l) (hbase : base ≤ w.heap.size) : Below base w w' :=
  ⟨hg.os, hg.tape, hg.output, hg.size, fun k hk => hg.block k (by omega) (fun e => by have := (hown.block e.symm).1; omega)⟩
theorem info5 : (Try.prog.info? 5).map (fun i => (i.zero, i.size, i.bytes)) = some (some (.int .u8 0), 1, 1) := by kernel_rfl
theorem run_appendB {w : World} (ty : TypeId) (base : Nat) (v : Value) (l0 : List UInt8) (hown : OwnB w base v l0) (src : Option Addr) (m c : Nat) (l : List UInt8) (hm : l.length = m) (hsrc : src = none → c = 0)
    (ok : Nat → Prop) (hb : BytesIn ok w src l) (hlen : l0.length + m ≤ 1099511627776) (hbase : base ≤ w.heap.size) :
    ∃ v' w', (Builtin.append_ #[36, 36] ty #[v, .slice src m c]).run Try.prog w = .ok v' w' ∧ OwnB w' base v' (l0 ++ l) ∧ w.grownBy w' v.ownBlock ∧ (v'.ownBlock = v.ownBlock ∨ v'.ownBlock = some w.heap.size) := by
  obtain ⟨i0, hi, hz0, hz1, hz2⟩ := info_parts info5
  subst hm
  cases src with
  | none =>
    have hl : l = [] := by
      cases l with
      | nil => rfl
      | cons y l =>
        obtain ⟨b, off, e, _⟩ := hb 0 (by simp)
        cases e
    subst hl
    have hc := hsrc rfl
    subst hc
    exact ⟨v, w, run_append_owned_none (P := Try.prog) (w := w) base 36 ty 5 i0 1 Try.underlying36 hi v l0.length _ hown, by rw [List.append_nil]; exact hown, ⟨rfl, rfl, rfl, Nat.le_refl _, fun _ _ _ => rfl⟩, .inl rfl⟩
  | some ad =>
    obtain ⟨v', w', hr, h2, h3, -, h5⟩ := run_append_own_at (P := Try.prog) w base 36 ty 5 i0 (.int .u8 0) 1 1 Try.underlying36 hi hz0 hz1 hz2 rfl (by decide) v l0.length _ hown ad l.length c (cellsB l) (by simp [cellsB])
      (fun j u hu => by
        have hj : j < l.length := by
          have := (List.getElem?_eq_some_iff.1 hu).1
          simpa [cellsB] using this
        obtain ⟨b, off, e, _, hc⟩ := hb j hj
        cases e
        rw [addr_add, hc, ← hu, cellsB_get hj])
      (fun u hu => by
        obtain ⟨y, _, rfl⟩ := List.mem_map.1 hu
        rfl) (by unfold maxLen; omega) (by omega) hbase
    exact ⟨v', w', hr, by simpa [OwnB, cellsB] using h2, h3, h5⟩
theorem strCells_eq (s : ByteArray) : Lib.strCells s = cellsB s.data.toList := by
  simp [Lib.strCells, cellsB]
theorem run_appendS {w : World} (ty : TypeId) (base : Nat) (v : Value) (l0 : List UInt8) (hown : OwnB w base v l0) (s : ByteArray) (hlen : l0.length + s.size ≤ 1099511627776) (hbase : base ≤ w.heap.size) :
    ∃ v' w', (Builtin.append_ #[36, 9] ty #[v, .string s]).run Try.prog w = .ok v' w' ∧ OwnB w' base v' (l0 ++ s.data.toList) ∧ w.grownBy w' v.ownBlock := by
  obtain ⟨i0, hi, hz0, hz1, hz2⟩ := info_parts info5
  obtain ⟨v', w', hr, h2, h3, -⟩ := Lib.run_append_own_string (P := Try.prog) w base 36 9 ty 5 i0 Try.underlying36 Try.underlying9 hi hz0 hz1 hz2 v l0.length _ hown s (by unfold maxLen; omega) (by omega) hbase
  refine ⟨v', w', hr, ?_, h3⟩
  rw [strCells_eq] at h2
  have hsz : s.size = s.data.toList.length := by simp
  rw [hsz] at h2
  simpa [OwnB, cellsB] using h2
theorem wpList_appendB {ops : Array Oper} {rest : List Oper} {o : Oper} {a : Act} {Q : Exit → Act → World → Prop} {w : World} (hgd : o.guard = none) (s x : Operand)
    (ho : o.op = .call { callee := .builtin .append, args := #[s, x], argTypes := #[36, 36] }) (base : Nat) (v : Value) (l0 : List UInt8) (hs : a.eval s = v) (hown : OwnB w base v l0)
    (src : Option Addr) (m c : Nat) (l : List UInt8) (hm : l.length = m) (hx : a.eval x = .slice src m c) (hsrc : src = none → c = 0) (ok : Nat → Prop) (hb : BytesIn ok w src l)
    (hlen : l0.length + m ≤ 1099511627776) (hbase : base ≤ w.heap.size)
    (h : ∀ v' w', OwnB w' base v' (l0 ++ l) → w.grownBy w' v.ownBlock → (v'.ownBlock = v.ownBlock ∨ v'.ownBlock = some w.heap.size) → wpList Try.prog ops Q rest (a.put o.dst v') w') : wpList Try.prog ops Q (o :: rest) a w := by
  refine wpList_plain hgd fun K hK => ?_
  obtain ⟨v', w', hr, h2, h3, h4⟩ := run_appendB (w := w) o.type base v l0 hown src m c l hm hsrc ok hb hlen hbase
  unfold Oper.wp execOp
  simp only [ho, resolve, invoke, builtin, Sem.run_bind, Sem.run_pure, Result.andThen_ok, List.map_toArray, List.map_cons, List.map_nil, hs, hx, hr]
  exact hK _ _ (h v' w' h2 h3 h4)
theorem wpList_appendS {ops : Array Oper} {rest : List Oper} {o : Oper} {a : Act} {Q : Exit → Act → World → Prop} {w : World} (hgd : o.guard = none) (s x : Operand)
    (ho : o.op = .call { callee := .builtin .append, args := #[s, x], argTypes := #[36, 9] }) (base : Nat) (v : Value) (l0 : List UInt8) (hs : a.eval s = v) (hown : OwnB w base v l0)
    (t : ByteArray) (hx : a.eval x = .string t) (hlen : l0.length + t.size ≤ 1099511627776) (hbase : base ≤ w.heap.size)
    (h : ∀ v' w', OwnB w' base v' (l0 ++ t.data.toList) → w.grownBy w' v.ownBlock → wpList Try.prog ops Q rest (a.put o.dst v') w') : wpList Try.prog ops Q (o :: rest) a w := by
  refine wpList_plain hgd fun K hK => ?_
  obtain ⟨v', w', hr, h2, h3⟩ := run_appendS (w := w) o.type base v l0 hown t hlen hbase
  unfold Oper.wp execOp
  simp only [ho, resolve, invoke, builtin, Sem.run_bind, Sem.run_pure, Result.andThen_ok, List.map_toArray, List.map_cons, List.map_nil, hs, hx, hr]
  exact hK _ _ (h v' w' h2 h3)
/-- a string out of a slice of bytes -/
theorem run_strB {w : World} {ok : Nat → Prop} {a : Option Addr} {l : List UInt8} (n c : Nat) (hn : l.length = n) (h : BytesIn ok w a l) :
    (convert 36 9 (.slice a n c)).run Try.prog w = .ok (.string ⟨l.toArray⟩) w := by
  subst hn
  cases l with
  | nil =>
    cases a with
    | none =>
      rw [List.length_nil, run_convert_bytes_string w 36 9 5 none 0 c Try.underlying36 Try.underlying5 Try.underlying9]
      rfl
    | some a =>
      exact run_convert_bytes_back w 36 9 5 a c [] Try.underlying36 Try.underlying5 Try.underlying9 (by simp)
  | cons x l =>
    obtain ⟨b, off, rfl, _, _⟩ := h 0 (by simp)
    refine run_convert_bytes_back w 36 9 5 _ c (x :: l) Try.underlying36 Try.underlying5 Try.underlying9 ?_
    intro j hj
    obtain ⟨b2, off2, e, _, hc⟩ := h j hj
    cases e
    rw [addr_add]
    simpa using hc
end Go.Proofs.Ytkpadhjlopcejaa
