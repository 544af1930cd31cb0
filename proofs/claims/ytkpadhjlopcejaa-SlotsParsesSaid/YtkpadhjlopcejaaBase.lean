/-
  Small lemmas on worlds and blocks.
-/
import Derived.Test.YtkpadhjlopcejaaRows
import Derived.BigQuiet
import Derived.Deep.QuietTactic
import Derived.WalkKit
namespace Go.Proofs.Ytkpadhjlopcejaa
open Go.RowKit
theorem hid {p : Prop} (h : p) : Hid p := h
theorem ret_int {k : IntKind} {a b : Int} (h : a = b) : Ending.returned (.int k a) = .returned (.int k b) := by rw [h]
theorem bvn {n a : Nat} (h : a < 2 ^ n) : (BitVec.ofInt n (a : Int)).toNat = a := by
  rw [BitVec.ofInt_natCast, BitVec.toNat_ofNat]; exact Nat.mod_eq_of_lt h
/-- a whole block of cells, not frozen -/
def Blk (w : World) (B : Nat) (vs : List Value) : Prop := ∃ t, w.heap[B]? = some (.cells vs.toArray t (0, 0))
theorem Blk.lt {w : World} {B : Nat} {vs : List Value} (h : Blk w B vs) : B < w.heap.size := by
  obtain ⟨t, h⟩ := h
  exact (Array.getElem?_eq_some_iff.1 h).1
theorem Blk.cell {w : World} {B : Nat} {vs : List Value} (h : Blk w B vs) (i : Nat) : w.cell? ⟨B, i, none⟩ = vs[i]? := by
  obtain ⟨t, h⟩ := h
  simp [World.cell?, h]
theorem Blk.some {w : World} {B : Nat} {vs : List Value} (h : Blk w B vs) (i : Nat) (hi : i < vs.length) : ∃ v, w.cell? ⟨B, i, none⟩ = some v :=
  ⟨vs[i], by rw [h.cell, List.getElem?_eq_getElem hi]⟩
theorem Blk.frozen {w : World} {B : Nat} {vs : List Value} (h : Blk w B vs) (i : Nat) : w.frozen? ⟨B, i, none⟩ = false := by
  obtain ⟨t, h⟩ := h
  simp [World.frozen?, h]
theorem Blk.set {w : World} {B : Nat} {vs : List Value} (h : Blk w B vs) (i : Nat) (v : Value) : Blk (w.setCell ⟨B, i, none⟩ v) B (vs.set i v) := by
  obtain ⟨t, h⟩ := h
  exact ⟨t, by simp [World.setCell, Array.getElem?_modify, h]⟩
theorem Blk.other {w : World} {B B' : Nat} {vs : List Value} (h : Blk w B vs) (hn : B ≠ B') (i : Nat) (v : Value) : Blk (w.setCell ⟨B', i, none⟩ v) B vs := by
  obtain ⟨t, h⟩ := h
  exact ⟨t, by rw [Below.heap_setCell _ _ _ _ hn]; exact h⟩
theorem Blk.alloc {w : World} {B : Nat} {vs : List Value} (h : Blk w B vs) (o : Obj) : Blk (w.alloc o) B vs := by
  have := h.lt
  obtain ⟨t, h⟩ := h
  exact ⟨t, by rw [Below.heap_alloc _ _ _ this]; exact h⟩
theorem Blk.drew {w : World} {B : Nat} {vs : List Value} (h : Blk w B vs) : Blk w.drew B vs := h
theorem Blk.below {w w' : World} {B C : Nat} {vs : List Value} (h : Blk w B vs) (hb : Below C w w') (hC : B < C) : Blk w' B vs := by
  obtain ⟨t, h⟩ := h
  exact ⟨t, by rw [hb.block B hC]; exact h⟩
theorem Blk.new (w : World) (vs : List Value) (t : TypeId) : Blk (w.alloc (.cells vs.toArray t)) w.heap.size vs :=
  ⟨t, by show (w.heap.push _)[w.heap.size]? = _; simp⟩
/-- the blocks of which 'ok' speaks lie as they lay -/
structure Kept (ok : Nat → Prop) (w w' : World) : Prop where
  os : w'.os = w.os
  tape : w'.tape = w.tape
  output : w'.output = w.output
  size : w.heap.size ≤ w'.heap.size
  block : ∀ k, ok k → w'.heap[k]? = w.heap[k]?
theorem Kept.refl (ok : Nat → Prop) (w : World) : Kept ok w w := ⟨rfl, rfl, rfl, Nat.le_refl _, fun _ _ => rfl⟩
theorem Kept.trans {ok : Nat → Prop} {a b c : World} (h : Kept ok a b) (k : Kept ok b c) : Kept ok a c :=
  ⟨k.os.trans h.os, k.tape.trans h.tape, k.output.trans h.output, Nat.le_trans h.size k.size, fun i hi => (k.block i hi).trans (h.block i hi)⟩
theorem Kept.of_below {ok : Nat → Prop} {B : Nat} {w w' : World} (h : Below B w w') (ho : ∀ k, ok k → k < B) : Kept ok w w' :=
  ⟨h.os, h.tape, h.output, h.size, fun k hk => h.block k (ho k hk)⟩
theorem Kept.cell {ok : Nat → Prop} {w w' : World} (h : Kept ok w w') {p : Addr} (hp : ok p.block) : w'.cell? p = w.cell? p := World.cell?_of_block (w := w) (h.block p.block hp)
theorem Kept.setCell {ok : Nat → Prop} {a w : World} (h : Kept ok a w) {p : Addr} (hp : ¬ ok p.block) (u : Value) : Kept ok a (w.setCell p u) :=
  h.trans ⟨rfl, rfl, rfl, by simp [World.setCell], fun k hk => Below.heap_setCell _ _ _ _ (fun e => hp (e ▸ hk))⟩
theorem Kept.drew {ok : Nat → Prop} {a w : World} (h : Kept ok a w) : Kept ok a w.drew := ⟨h.os, h.tape, h.output, h.size, h.block⟩
/-- a whole block of cells, whatever its mark -/
def Row (w : World) (B : Nat) (vs : List Value) : Prop := ∃ t fz, w.heap[B]? = some (.cells vs.toArray t fz)
theorem Row.lt {w : World} {B : Nat} {vs : List Value} (h : Row w B vs) : B < w.heap.size := by
  obtain ⟨t, fz, h⟩ := h
  exact (Array.getElem?_eq_some_iff.1 h).1
theorem Row.cell {w : World} {B : Nat} {vs : List Value} (h : Row w B vs) (i : Nat) : w.cell? ⟨B, i, none⟩ = vs[i]? := by
  obtain ⟨t, fz, h⟩ := h
  simp [World.cell?, h]
theorem Row.alloc {w : World} {B : Nat} {vs : List Value} (h : Row w B vs) (o : Obj) : Row (w.alloc o) B vs := by
  have := h.lt
  obtain ⟨t, fz, h⟩ := h
  exact ⟨t, fz, by rw [Below.heap_alloc _ _ _ this]; exact h⟩
theorem Row.new (w : World) (vs : List Value) (t : TypeId) (fz : Nat × Nat) : Row (w.alloc (.cells vs.toArray t fz)) w.heap.size vs :=
  ⟨t, fz, by show (w.heap.push _)[w.heap.size]? = _; simp⟩
theorem Row.below {w w' : World} {B C : Nat} {vs : List Value} (h : Row w B vs) (hb : Below C w w') (hC : B < C) : Row w' B vs := by
  obtain ⟨t, fz, h⟩ := h
  exact ⟨t, fz, by rw [hb.block B hC]; exact h⟩
theorem Blk.row {w : World} {B : Nat} {vs : List Value} (h : Blk w B vs) : Row w B vs := by
  obtain ⟨t, h⟩ := h
  exact ⟨t, _, h⟩
theorem Row.new' (w : World) (vs : List Value) (t : TypeId) (fz : Nat × Nat) {b : Nat} (h : b = w.heap.size) : Row (w.alloc (.cells vs.toArray t fz)) b vs := h ▸ Row.new w vs t fz
theorem Blk.new' (w : World) (vs : List Value) (t : TypeId) {b : Nat} (h : b = w.heap.size) : Blk (w.alloc (.cells vs.toArray t)) b vs := h ▸ Blk.new w vs t
theorem addr_add (b off i : Nat) : (⟨b, off, none⟩ : Addr).add i = ⟨b, off + i, none⟩ := by
  unfold Addr.add
  split
  · rename_i h; subst h; rfl
  · rfl
theorem cell_lt {w : World} {p : Addr} {v : Value} (h : w.cell? p = some v) : p.block < w.heap.size := by
  rcases Nat.lt_or_ge p.block w.heap.size with h' | h'
  · exact h'
  · simp [World.cell?, Array.getElem?_eq_none h'] at h
theorem kept_below {ok : Nat → Prop} {C : Nat} {a b c : World} (h : Below C a b) (k : Kept ok b c) (ho : ∀ k, k < C → ok k) : Below C a c :=
  h.trans ⟨k.os, k.tape, k.output, k.size, fun i hi => k.block i (ho i hi)⟩
theorem Blk.kept {ok : Nat → Prop} {w w' : World} {b : Nat} {vs : List Value} (h : Blk w b vs) (hk : Kept ok w w') (ho : ok b) : Blk w' b vs := by
  obtain ⟨t, h⟩ := h
  exact ⟨t, by rw [hk.block b ho]; exact h⟩
theorem Kept.drewN (ok : Nat → Prop) (w : World) (m : Nat) : Kept ok w (World.drewN w m) := ⟨rfl, rfl, rfl, Nat.le_refl _, fun _ _ => rfl⟩
theorem Kept.shrink {ok ok' : Nat → Prop} {w w' : World} (h : Kept ok w w') (hm : ∀ k, ok' k → ok k) : Kept ok' w w' := ⟨h.os, h.tape, h.output, h.size, fun k hk => h.block k (hm k hk)⟩
theorem Kept.of_grown {ok : Nat → Prop} {w w' : World} {row : Option Nat} (h : w.grownBy w' row) (ho : ∀ k, ok k → k < w.heap.size ∧ some k ≠ row) : Kept ok w w' := ⟨h.os, h.tape, h.output, h.size, fun k hk => h.block k (ho k hk).1 (ho k hk).2⟩
theorem take_snoc {α : Type} (l : List α) (k : Nat) (h : k < l.length) : l.take (k + 1) = l.take k ++ [l[k]] := by
  rw [List.take_succ_eq_append_getElem h]
end Go.Proofs.Ytkpadhjlopcejaa
