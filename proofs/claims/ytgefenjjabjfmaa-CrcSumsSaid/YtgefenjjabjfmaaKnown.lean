/-
  What all know of sums: the walk of known.
-/
import Derived.Test.YtgefenjjabjfmaaSums
import Derived.Lib.SlBytesConst
namespace Go.Proofs.Ytgefenjjabjfmaa
open Go.RowKit Go.Shelf
/-- a whole block of cells, whatever its mark -/
def Row (w : World) (B : Nat) (vs : List Value) : Prop := ∃ t fz, w.heap[B]? = some (.cells vs.toArray t fz)
theorem Row.lt {w : World} {B : Nat} {vs : List Value} (h : Row w B vs) : B < w.heap.size := by
  obtain ⟨t, fz, h⟩ := h
  exact (Array.getElem?_eq_some_iff.1 h).1
theorem Row.cell {w : World} {B : Nat} {vs : List Value} (h : Row w B vs) (i : Nat) : w.cell? ⟨B, i, none⟩ = vs[i]? := by
  obtain ⟨t, fz, h⟩ := h
  simp [World.cell?, h]
theorem Row.alloc {w : World} {B : Nat} {vs : List Value} (h : Row w B vs) (o : Obj) : Row (w.alloc o) B vs := by
  have := h.lt
  obtain ⟨t, fz, h⟩ := h
  exact ⟨t, fz, by rw [Below.heap_alloc _ _ _ this]; exact h⟩
theorem Row.new (w : World) (vs : List Value) (t : TypeId) (fz : Nat × Nat) : Row (w.alloc (.cells vs.toArray t fz)) w.heap.size vs :=
  ⟨t, fz, by show (w.heap.push _)[w.heap.size]? = _; simp⟩
theorem Row.below {w w' : World} {B C : Nat} {vs : List Value} (h : Row w B vs) (hb : Below C w w') (hC : B < C) : Row w' B vs := by
  obtain ⟨t, fz, h⟩ := h
  exact ⟨t, fz, by rw [hb.block B hC]; exact h⟩
theorem Blk.row {w : World} {B : Nat} {vs : List Value} (h : Blk w B vs) : Row w B vs := by
  obtain ⟨t, h⟩ := h
  exact ⟨t, _, h⟩
theorem Row.new' (w : World) (vs : List Value) (t : TypeId) (fz : Nat × Nat) {b : Nat} (h : b = w.heap.size) : Row (w.alloc (.cells vs.toArray t fz)) b vs := h ▸ Row.new w vs t fz
theorem Blk.new' (w : World) (vs : List Value) (t : TypeId) {b : Nat} (h : b = w.heap.size) : Blk (w.alloc (.cells vs.toArray t)) b vs := h ▸ Blk.new w vs t
theorem BytesIn.of_row {ok : Nat → Prop} {w : World} {b : Nat} {l : List UInt8} (h : Row w b (l.map fun x => .int .u8 (x.toNat : Int))) (hb : ok b) : BytesIn ok w (some ⟨b, 0, none⟩) l := by
  intro i hi
  refine ⟨b, 0, rfl, hb, ?_⟩
  rw [Nat.zero_add, h.cell]
  simp [hi]
theorem PartsIn.of_one {ok : Nat → Prop} {w : World} {b cap : Nat} {a : Option Addr} {l : List UInt8} (h : Blk w b [.slice a l.length cap]) (hb : ok b) (h1 : BytesIn ok w a l) (hl : l.length ≤ maxLen) : PartsIn ok w (some ⟨b, 0, none⟩) [l] :=
  h1.one cap b hb hl (h.cell 0)
theorem PartsIn.of_two {ok : Nat → Prop} {w : World} {b cap cap2 : Nat} {a a2 : Option Addr} {l l2 : List UInt8} (h : Blk w b [.slice a l.length cap, .slice a2 l2.length cap2]) (hb : ok b) (h1 : BytesIn ok w a l) (hl : l.length ≤ maxLen) (h2 : BytesIn ok w a2 l2) (hl2 : l2.length ≤ maxLen) : PartsIn ok w (some ⟨b, 0, none⟩) [l, l2] := by
  intro i hi
  have : i = 0 ∨ i = 1 := by simp at hi; omega
  rcases this with rfl | rfl
  · exact ⟨b, 0, a, cap, rfl, hb, h.cell 0, h1, hl⟩
  · exact ⟨b, 0, a2, cap2, rfl, hb, h.cell 1, h2, hl2⟩
theorem conv1 (w : World) (C : Array Value) (n c : Nat) : (convert 22 22 (.slice (some ⟨w.heap.size, 0, none⟩) n c)).run Try.prog (w.alloc (.cells C 5)) = .ok (.slice (some ⟨w.heap.size, 0, none⟩) n c) (w.alloc (.cells C 5 (C.size, C.size + 1))) :=
  Lib.run_convert_bytes_const (P := Try.prog) w 22 5 C n c Try.underlying22 Try.underlying5
theorem conv2 (w : World) (o : Obj) (C : Array Value) (n c : Nat) : (convert 22 22 (.slice (some ⟨w.heap.size + 1, 0, none⟩) n c)).run Try.prog ((w.alloc o).alloc (.cells C 5)) = .ok (.slice (some ⟨w.heap.size + 1, 0, none⟩) n c) ((w.alloc o).alloc (.cells C 5 (C.size, C.size + 1))) := by
  have := conv1 (w.alloc o) C n c
  rw [World.size_alloc] at this
  exact this
theorem k1 : Crc.sum [[49, 50, 51, 52]].flatten = 2615402659 := by decide +kernel
theorem k2 : Crc.sum [[53, 54, 55, 56, 57]].flatten = 320708720 := by decide +kernel
theorem k3 : Crc.sum [[49, 50, 51, 52], [53, 54, 55, 56, 57]].flatten = 3421780262 := by decide +kernel
theorem k4 : Crc.halves (8 * 5) 2615402659 ^^^ 320708720 = 3421780262 := by decide +kernel
theorem k5 : Crc.word 1 = 1996959894 := by decide +kernel
theorem known_any (w : World) : Calls Try.prog 9 #[] w fun e w' => e = .returned (.bool true) ∧ Below w.heap.size w w' := by
  have kc := conv1
  have kd := conv2
  go_enter Try.func9, Try.ntmps9
  go_wp2_with fail
  refine (sumF_any 1 _ [[49, 50, 51, 52]] _ (by simp [maxLen]) ?_ (by simp)).mono ?_
  · exact PartsIn.of_one (cap := 4) (Blk.new' _ [_] _ (by simp)) (by simp) (BytesIn.of_row (((Row.new w _ _ _).alloc _).alloc _) (by simp; omega)) (by simp [maxLen])
  rintro e w1 ⟨he, hb1⟩
  rw [k1] at he
  subst he
  have r1 := (((Row.new w [.int .u8 49, .int .u8 50, .int .u8 51, .int .u8 52] 5 (4, 5)).alloc (.cells #[.int .u8 53, .int .u8 54, .int .u8 55, .int .u8 56, .int .u8 57] 5 (5, 6))).alloc (.cells #[.slice (some ⟨w.heap.size, 0, none⟩) 4 4] 22)).below hb1 (by simp; omega)
  have r2 := ((Row.new' (w.alloc (.cells #[.int .u8 49, .int .u8 50, .int .u8 51, .int .u8 52] 5 (4, 5))) [.int .u8 53, .int .u8 54, .int .u8 55, .int .u8 56, .int .u8 57] 5 (5, 6) (b := w.heap.size + 1) (by simp)).alloc (.cells #[.slice (some ⟨w.heap.size, 0, none⟩) 4 4] 22)).below hb1 (by simp)
  have hB1 : Below w.heap.size w w1 := (((((Below.refl w.heap.size w).alloc (Nat.le_refl _) _).alloc (by simp) _).alloc (by simp; omega) _)).trans (hb1.mono (by simp; omega))
  clear hb1
  go_wp2_with fail
  refine (sumF_any 1 _ [[53, 54, 55, 56, 57]] _ (by simp [maxLen]) ?_ (by simp)).mono ?_
  · exact PartsIn.of_one (cap := 5) (Blk.new' _ [_] _ (by simp)) (by simp) (BytesIn.of_row (r2.alloc _) (by have := r2.lt; simp; omega)) (by simp [maxLen])
  rintro e w2 ⟨he, hb2⟩
  rw [k2] at he
  subst he
  have s1 := (r1.alloc (.cells #[.slice (some ⟨w.heap.size + 1, 0, none⟩) 5 5] 22)).below hb2 (by have := r1.lt; simp; omega)
  have s2 := (r2.alloc (.cells #[.slice (some ⟨w.heap.size + 1, 0, none⟩) 5 5] 22)).below hb2 (by have := r2.lt; simp; omega)
  have hB2 : Below w.heap.size w w2 := (hB1.alloc hB1.size _).trans (hb2.mono (by have := hB1.size; simp; omega))
  clear hb2 r1 r2 hB1
  go_wp2_with fail
  refine (join_any 2615402659 320708720 5 _ (by omega) (by omega) (by omega)).mono ?_
  rintro e w3 ⟨he, hb3⟩
  rw [k4] at he
  subst he
  have r1 := s1.below hb3 s1.lt
  have r2 := s2.below hb3 s2.lt
  have hB3 := hB2.trans (hb3.mono hB2.size)
  clear hb3 s1 s2 hB2
  go_wp2_with fail
  refine (sumF_any 2 _ [[49, 50, 51, 52], [53, 54, 55, 56, 57]] _ (by simp [maxLen]) ?_ (by simp)).mono ?_
  · exact PartsIn.of_two (cap := 4) (cap2 := 5) (Blk.new' _ [_, _] _ (by simp)) (by simp) (BytesIn.of_row (r1.alloc _) (by have := r1.lt; simp; omega)) (by simp [maxLen]) (BytesIn.of_row (r2.alloc _) (by have := r2.lt; simp; omega)) (by simp [maxLen])
  rintro e w4 ⟨he, hb4⟩
  rw [k3] at he
  subst he
  have hB4 : Below w.heap.size w w4 := (hB3.alloc hB3.size _).trans (hb4.mono (by have := hB3.size; simp; omega))
  clear hb4 r1 r2 hB3
  go_wp2_with fail
  refine (word_any 1 _ (by omega)).mono ?_
  rintro e w5 ⟨he, rfl⟩
  rw [k5] at he
  subst he
  go_wp2_with fail
  go_ret
  exact ⟨rfl, hB4⟩
end Go.Proofs.Ytgefenjjabjfmaa
