/-
  Small lemmas on words and on slices of bytes; what a walk is told of a slice of bytes.
-/
import Derived.Test.YtgefenjjabjfmaaRows
import Derived.Test.YtgefenjjabjfmaaPlain
import Derived.WalkKit
namespace Go.Proofs.Ytgefenjjabjfmaa
open Go.RowKit
theorem hid {p : Prop} (h : p) : Hid p := h
theorem ret_int {k : IntKind} {a b : Int} (h : a = b) : Ending.returned (.int k a) = .returned (.int k b) := by rw [h]
theorem bvn {n a : Nat} (h : a < 2 ^ n) : (BitVec.ofInt n (a : Int)).toNat = a := by
  rw [BitVec.ofInt_natCast, BitVec.toNat_ofNat]; exact Nat.mod_eq_of_lt h
theorem xor_u32 (a b : Nat) (ha : a < 4294967296) (hb : b < 4294967296) : bits .xor .u32 (a : Int) (b : Int) = ((a ^^^ b : Nat) : Int) := by
  have hx : a ^^^ b < 2 ^ 32 := Nat.xor_lt_two_pow (by omega) (by omega)
  show IntKind.u32.wrap ((BitVec.ofInt 32 (a : Int) ^^^ BitVec.ofInt 32 (b : Int)).toNat : Int) = _
  rw [BitVec.toNat_xor, bvn (by omega), bvn (by omega)]
  simp [IntKind.wrap, IntKind.bits, IntKind.signed]; omega
theorem xor_u8 (a b : Nat) (ha : a < 256) (hb : b < 256) : bits .xor .u8 (a : Int) (b : Int) = ((a ^^^ b : Nat) : Int) := by
  have hx : a ^^^ b < 2 ^ 8 := Nat.xor_lt_two_pow (by omega) (by omega)
  show IntKind.u8.wrap ((BitVec.ofInt 8 (a : Int) ^^^ BitVec.ofInt 8 (b : Int)).toNat : Int) = _
  rw [BitVec.toNat_xor, bvn (by omega), bvn (by omega)]
  simp [IntKind.wrap, IntKind.bits, IntKind.signed]; omega
theorem and1_u32 (a : Nat) (ha : a < 4294967296) : bits .and .u32 (a : Int) 1 = ((a % 2 : Nat) : Int) := by
  show IntKind.u32.wrap ((BitVec.ofInt 32 (a : Int) &&& BitVec.ofInt 32 ((1 : Nat) : Int)).toNat : Int) = _
  rw [BitVec.toNat_and, bvn (by omega), bvn (by omega), Nat.and_one_is_mod]
  simp [IntKind.wrap, IntKind.bits, IntKind.signed]; omega

/-- a slice's first cell, and the bytes that it leads to -/
def Bytes (w : World) (a : Option Addr) (l : List UInt8) : Prop :=
  ∀ i (h : i < l.length), ∃ b off, a = some ⟨b, off, none⟩ ∧ b < w.heap.size ∧ w.cell? ⟨b, off + i, none⟩ = some (.int .u8 (l[i].toNat : Int))
theorem Bytes.below {w w' : World} {B : Nat} {a : Option Addr} {l : List UInt8} (h : Bytes w a l) (hb : Below B w w') (hB : w.heap.size ≤ B) : Bytes w' a l := by
  intro i hi
  obtain ⟨b, off, e, hl, hc⟩ := h i hi
  exact ⟨b, off, e, Nat.lt_of_lt_of_le hl hb.size, by rw [hb.cell (p := ⟨b, off + i, none⟩) (Nat.lt_of_lt_of_le hl hB)]; exact hc⟩
/-- a whole block of cells, not frozen -/
def Blk (w : World) (B : Nat) (vs : List Value) : Prop := ∃ t, w.heap[B]? = some (.cells vs.toArray t (0, 0))
theorem Blk.lt {w : World} {B : Nat} {vs : List Value} (h : Blk w B vs) : B < w.heap.size := by
  obtain ⟨t, h⟩ := h
  exact (Array.getElem?_eq_some_iff.1 h).1
theorem Blk.cell {w : World} {B : Nat} {vs : List Value} (h : Blk w B vs) (i : Nat) : w.cell? ⟨B, i, none⟩ = vs[i]? := by
  obtain ⟨t, h⟩ := h
  simp [World.cell?, h]
theorem Blk.some {w : World} {B : Nat} {vs : List Value} (h : Blk w B vs) (i : Nat) (hi : i < vs.length) : ∃ v, w.cell? ⟨B, i, none⟩ = some v :=
  ⟨vs[i], by rw [h.cell, List.getElem?_eq_getElem hi]⟩
theorem Blk.frozen {w : World} {B : Nat} {vs : List Value} (h : Blk w B vs) (i : Nat) : w.frozen? ⟨B, i, none⟩ = false := by
  obtain ⟨t, h⟩ := h
  simp [World.frozen?, h]
theorem Blk.set {w : World} {B : Nat} {vs : List Value} (h : Blk w B vs) (i : Nat) (v : Value) : Blk (w.setCell ⟨B, i, none⟩ v) B (vs.set i v) := by
  obtain ⟨t, h⟩ := h
  exact ⟨t, by simp [World.setCell, Array.getElem?_modify, h]⟩
theorem Blk.other {w : World} {B B' : Nat} {vs : List Value} (h : Blk w B vs) (hn : B ≠ B') (i : Nat) (v : Value) : Blk (w.setCell ⟨B', i, none⟩ v) B vs := by
  obtain ⟨t, h⟩ := h
  exact ⟨t, by rw [Below.heap_setCell _ _ _ _ hn]; exact h⟩
theorem Blk.alloc {w : World} {B : Nat} {vs : List Value} (h : Blk w B vs) (o : Obj) : Blk (w.alloc o) B vs := by
  have := h.lt
  obtain ⟨t, h⟩ := h
  exact ⟨t, by rw [Below.heap_alloc _ _ _ this]; exact h⟩
theorem Blk.drew {w : World} {B : Nat} {vs : List Value} (h : Blk w B vs) : Blk w.drew B vs := h
theorem Blk.below {w w' : World} {B C : Nat} {vs : List Value} (h : Blk w B vs) (hb : Below C w w') (hC : B < C) : Blk w' B vs := by
  obtain ⟨t, h⟩ := h
  exact ⟨t, by rw [hb.block B hC]; exact h⟩
theorem Blk.new (w : World) (vs : List Value) (t : TypeId) : Blk (w.alloc (.cells vs.toArray t)) w.heap.size vs :=
  ⟨t, by show (w.heap.push _)[w.heap.size]? = _; simp⟩
theorem half_any (x : Nat) : Crc.half x = (if x % 2 = 1 then x / 2 ^^^ 3988292384 else x / 2) := by
  unfold Crc.half Crc.poly
  have : x % 2 = 0 ∨ x % 2 = 1 := by omega
  rcases this with e | e <;> rw [e] <;> simp
end Go.Proofs.Ytgefenjjabjfmaa
