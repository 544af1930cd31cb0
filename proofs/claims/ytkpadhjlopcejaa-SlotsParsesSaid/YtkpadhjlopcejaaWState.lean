/-
  A writer beside other things: what its calls leave as it was.
-/
import Derived.Test.YtkpadhjlopcejaaRText
namespace Go.Proofs.Ytkpadhjlopcejaa
open Go.RowKit
/-- a writer at P that holds l; what 'oth' speaks of is not the writer's; below B all is as it was in w0 -/
structure Wst (B : Nat) (w0 : World) (oth : Nat → Prop) (w : World) (P : Nat) (l : List UInt8) : Prop where
  low : B ≤ P
  below : Below B w0 w
  has : ∃ v, WrAt w P v l ∧ ∀ k, oth k → k < w.heap.size ∧ k ≠ P ∧ v.ownBlock ≠ some k
theorem Wst.lt {B : Nat} {w0 : World} {oth : Nat → Prop} {w : World} {P : Nat} {l : List UInt8} (h : Wst B w0 oth w P l) : P < w.heap.size := by
  obtain ⟨v, h1, _⟩ := h.has
  exact h1.lt
theorem Wst.short {B : Nat} {w0 : World} {oth : Nat → Prop} {w : World} {P : Nat} {l : List UInt8} (h : Wst B w0 oth w P l) : l.length ≤ 65536 := by
  obtain ⟨v, h1, _⟩ := h.has
  exact h1.2.2
theorem Wst.less {B : Nat} {w0 : World} {oth oth' : Nat → Prop} {w : World} {P : Nat} {l : List UInt8} (h : Wst B w0 oth w P l) (hm : ∀ k, oth' k → oth k) : Wst B w0 oth' w P l := by
  obtain ⟨h1, h2, v, h3, h4⟩ := h
  exact ⟨h1, h2, v, h3, fun k hk => h4 k (hm k hk)⟩
theorem Wst.grows {B : Nat} {w0 : World} {oth : Nat → Prop} {w w' : World} {P : Nat} {l : List UInt8} (h : Wst B w0 oth w P l) (hb : Below w.heap.size w w') : Wst B w0 (fun k => oth k ∨ (w.heap.size ≤ k ∧ k < w'.heap.size)) w' P l := by
  have hlt := h.lt
  obtain ⟨h1, h2, v, h3, h4⟩ := h
  refine ⟨h1, h2.trans (hb.mono (by omega)), v, h3.grows hb, fun k hk => ?_⟩
  rcases hk with hk | hk
  · exact ⟨Nat.lt_of_lt_of_le (h4 k hk).1 hb.size, (h4 k hk).2⟩
  · exact ⟨hk.2, by omega, fun e => by have := (h3.2.1.block e).2; omega⟩
/-- something of 'oth' is written -/
theorem Wst.other {B : Nat} {w0 : World} {oth tch : Nat → Prop} {w w' : World} {P : Nat} {l : List UInt8} (h : Wst B w0 oth w P l) (hk : Kept (fun k => k < w.heap.size ∧ ¬ tch k) w w') (ht : ∀ k, tch k → oth k) (hB : ∀ k, tch k → B ≤ k) : Wst B w0 (fun k => oth k ∨ (w.heap.size ≤ k ∧ k < w'.heap.size)) w' P l := by
  have hlt := h.lt
  obtain ⟨h1, h2, v, h3, h4⟩ := h
  have hown : ∀ k, v.ownBlock = some k → k < w.heap.size ∧ ¬ tch k := fun k e => ⟨(h3.2.1.block e).2, fun ht' => (h4 k (ht k ht')).2.2 e⟩
  refine ⟨h1, kept_below h2 hk (fun k hk => ⟨by omega, fun ht' => by have := hB k ht'; omega⟩), v, h3.kept hk ⟨hlt, fun ht' => (h4 P (ht P ht')).2.1 rfl⟩ hown, fun k hk' => ?_⟩
  rcases hk' with hk' | hk'
  · exact ⟨Nat.lt_of_lt_of_le (h4 k hk').1 hk.size, (h4 k hk').2⟩
  · exact ⟨hk'.2, by omega, fun e => by have := (hown k e).1; omega⟩
theorem Wst.of_wend {B : Nat} {w0 : World} {oth : Nat → Prop} {w : World} {P : Nat} {l : List UInt8} {v : Value} (h1 : B ≤ P) (h2 : Below B w0 w) (h3 : WrAt w P v l) (h4 : ∀ k, oth k → k < w.heap.size ∧ k ≠ P ∧ v.ownBlock ≠ some k) {r : List UInt8 × Int} {e : Ending} {w' : World} (h : WEnd r P v w e w') :
    e = .returned (.int .i64 r.2) ∧ Wst B w0 oth w' P r.1 ∧ Kept oth w w' := by
  obtain ⟨v', rfl, a, k, o⟩ := h
  refine ⟨rfl, ⟨h1, kept_below h2 k (fun b hb => ⟨by have := h3.lt; omega, by omega, fun e => by have := (h3.2.1.block e).1; omega⟩), v', a, fun b hb => ?_⟩, k.shrink h4⟩
  obtain ⟨g1, g2, g3⟩ := h4 b hb
  refine ⟨Nat.lt_of_lt_of_le g1 k.size, g2, ?_⟩
  rcases o with o | ⟨j, o, oj⟩
  · rw [o]; exact g3
  · rw [o]; intro e; cases e; omega
theorem Wst.number {B : Nat} {w0 : World} {oth : Nat → Prop} {w : World} {P : Nat} {l : List UInt8} (h : Wst B w0 oth w P l) (n : Nat) (k : Int) (hn : n < 18446744073709551616) : Calls Try.prog 19 #[.pointer (some ⟨P, 0, none⟩), .int .u64 (n : Int), .int .i64 k] w fun e w' =>
    e = .returned (.int .i64 (written l (numB n k) 2).2) ∧ Wst B w0 oth w' P (written l (numB n k) 2).1 ∧ Kept oth w w' := by
  obtain ⟨h1, h2, v, h3, h4⟩ := h
  exact (number_calls P v l n k w h3 hn).mono fun e w' hw => Wst.of_wend h1 h2 h3 h4 hw
theorem Wst.truth {B : Nat} {w0 : World} {oth : Nat → Prop} {w : World} {P : Nat} {l : List UInt8} (h : Wst B w0 oth w P l) (b : Bool) : Calls Try.prog 21 #[.pointer (some ⟨P, 0, none⟩), .bool b] w fun e w' =>
    e = .returned (.int .i64 (written l (some [if b then 1 else 0]) 2).2) ∧ Wst B w0 oth w' P (written l (some [if b then 1 else 0]) 2).1 ∧ Kept oth w w' := by
  obtain ⟨h1, h2, v, h3, h4⟩ := h
  exact (truth_calls P v l b w h3).mono fun e w' hw => Wst.of_wend h1 h2 h3 h4 hw
theorem Wst.text {B : Nat} {w0 : World} {oth : Nat → Prop} {w : World} {P : Nat} {l : List UInt8} (h : Wst B w0 oth w P l) (s : ByteArray) : Calls Try.prog 20 #[.pointer (some ⟨P, 0, none⟩), .string s] w fun e w' =>
    e = .returned (.int .i64 (written l (textB s.data.toList) 3).2) ∧ Wst B w0 oth w' P (written l (textB s.data.toList) 3).1 ∧ Kept oth w w' := by
  obtain ⟨h1, h2, v, h3, h4⟩ := h
  exact (text_calls P v l s w h3).mono fun e w' hw => Wst.of_wend h1 h2 h3 h4 hw
theorem Wst.bytes {B : Nat} {w0 : World} {oth : Nat → Prop} {w : World} {P : Nat} {l : List UInt8} (h : Wst B w0 oth w P l) : Calls Try.prog 23 #[.pointer (some ⟨P, 0, none⟩)] w fun e w' =>
    ∃ v', e = .returned v' ∧ OwnB w' w.heap.size v' l ∧ Wst B w0 (fun k => oth k ∨ (w.heap.size ≤ k ∧ k < w'.heap.size)) w' P l ∧ Below w.heap.size w w' := by
  have H := h
  obtain ⟨h1, h2, v, h3, h4⟩ := h
  exact (bytes_calls P v l w h3).mono fun e w' ⟨v', he, ho, hb⟩ => ⟨v', he, ho, H.grows hb, hb⟩
theorem Wst.len {B : Nat} {w0 : World} {oth : Nat → Prop} {w : World} {P : Nat} {l : List UInt8} (h : Wst B w0 oth w P l) : Calls Try.prog 30 #[.pointer (some ⟨P, 0, none⟩)] w fun e w' => e = .returned (.int .i64 (l.length : Int)) ∧ w = w' := by
  obtain ⟨h1, h2, v, h3, h4⟩ := h
  exact len_calls P v l w h3
theorem wst_new (B : Nat) (w0 w : World) (hB : B ≤ w.heap.size) (hb : Below B w0 w) : Calls Try.prog 18 #[] w fun e w' => ∃ P, e = .returned (.pointer (some ⟨P, 0, none⟩)) ∧ Wst B w0 (fun k => k < w.heap.size) w' P [] ∧ Below w.heap.size w w' ∧ w.heap.size ≤ P := by
  refine (newwriter_calls w).mono ?_
  rintro e w' ⟨rfl, h1, h2⟩
  exact ⟨_, rfl, ⟨hB, hb.trans (h2.mono hB), _, h1, fun k hk => ⟨Nat.lt_of_lt_of_le hk h2.size, by omega, by simp [Value.ownBlock]⟩⟩, h2, Nat.le_refl _⟩
theorem kn1 : written [] (numB 258 3) 2 = ([0, 1, 2], 0) := by rfl
theorem kn2 : written [0, 1, 2] (textB (⟨#[97, 98]⟩ : ByteArray).data.toList) 3 = ([0, 1, 2, 0, 2, 97, 98], 0) := by rfl
theorem kn3 : written [0, 1, 2, 0, 2, 97, 98] (some [if true then 1 else 0]) 2 = ([0, 1, 2, 0, 2, 97, 98, 1], 0) := by rfl
theorem kn4 : readText [0, 3, 97] = (([], 130), [0, 3, 97]) := by rfl
theorem kn5 : readNum [0, 3, 97] 2 = ((3, 0), [97]) := by rfl
theorem kn6 : readTruth [97] = ((false, 130), [97]) := by rfl
theorem part_lit (w : World) (l : List UInt8) (t : TypeId) (hl : l.length ≤ maxLen) : PartB (fun k => k = w.heap.size) (w.alloc (.cells (cellsB l).toArray t)) (.slice (some ⟨w.heap.size, 0, none⟩) l.length l.length) l :=
  ⟨_, _, rfl, fun i hi => ⟨_, 0, rfl, rfl, by rw [Nat.zero_add, (Blk.new w (cellsB l) t).cell, cellsB_get hi]⟩, Nat.le_refl _, hl, fun h => by cases h⟩
set_option maxRecDepth 10000 in
set_option maxHeartbeats 4000000 in
theorem wknown_calls (w : World) : Calls Try.prog 17 #[] w fun e w' => e = .returned (.bool true) ∧ Below w.heap.size w w' := by
  go_enter Try.func17, Try.ntmps17
  go_wp2_with fail
  refine (wst_new w.heap.size w w (Nat.le_refl _) (Below.refl _ _)).mono ?_
  rintro e w1 ⟨P, rfl, a1, -, -⟩
  go_wp2_with fail
  refine (a1.number 258 3 (by decide)).mono ?_
  rw [kn1]
  rintro e w2 ⟨rfl, a2, -⟩
  clear a1
  go_wp2_with fail
  refine (a2.text ⟨#[97, 98]⟩).mono ?_
  rw [kn2]
  rintro e w3 ⟨rfl, a3, -⟩
  clear a2
  go_wp2_with fail
  refine (a3.truth true).mono ?_
  rw [kn3]
  rintro e w4 ⟨rfl, a4, -⟩
  clear a3
  have hlit : PartB (fun k => k = w4.heap.size) (w4.alloc (.cells #[.int .u8 0, .int .u8 3, .int .u8 97] 5)) (.slice (some ⟨w4.heap.size, 0, none⟩) 3 3) [0, 3, 97] := part_lit w4 [0, 3, 97] 5 (by decide)
  have hb5 : Below w4.heap.size w4 (w4.alloc (.cells #[.int .u8 0, .int .u8 3, .int .u8 97] 5)) := (Below.refl _ _).alloc (Nat.le_refl _) _
  have a5 := a4.grows hb5
  have e5 : (w4.alloc (.cells #[.int .u8 0, .int .u8 3, .int .u8 97] 5)).heap.size = w4.heap.size + 1 := by simp
  have HR := hid (newreader_calls _ [0, 3, 97] _ _ hlit (fun k hk => by rw [e5]; omega) (by decide))
  have A5 := hid (a5.less (oth' := fun _ => False) fun _ h => h.elim)
  clear hlit hb5 a4 a5 e5
  go_wp2_with fail
  generalize (w4.alloc (.cells #[.int .u8 0, .int .u8 3, .int .u8 97] 5)) = w5 at *
  refine HR.out.mono ?_
  rintro e w6 ⟨R, rfl, r6, b6, h6⟩
  have A6 := hid (A5.out.grows b6)
  have hRR : w5.heap.size ≤ R ∧ R < w6.heap.size := ⟨h6, r6.lt⟩
  have hBR : w.heap.size ≤ R := by have := A5.out.below.size; omega
  have HRR := hid hRR
  have HBR := hid hBR
  have R6 := hid r6
  clear HR A5 b6 hRR hBR r6 h6
  go_wp2_with fail
  refine (rtext_calls _ R _ w6 R6.out).mono ?_
  rw [kn4]
  rintro e w7 ⟨rfl, r7, k7⟩
  have A7 := hid ((A6.out.other (tch := fun k => k = R) (k7.shrink fun k hk => hk) (fun k hk => .inr (by rw [hk]; exact HRR.out)) (fun k hk => by rw [hk]; exact HBR.out)).less (oth' := fun k => k = R) fun k hk => .inl (.inr (by rw [hk]; exact HRR.out)))
  have R7 := hid r7
  clear r7 k7
  go_wp2_with fail
  refine (rnumber_calls _ R _ 2 w7 R7.out).mono ?_
  rw [kn5]
  rintro e w8 ⟨rfl, r8, k8⟩
  have A8 := hid ((A7.out.other (tch := fun k => k = R) (k8.shrink fun k hk => hk) (fun k hk => hk) (fun k hk => by rw [hk]; exact HBR.out)).less (oth' := fun k => k = R) fun k hk => .inl hk)
  have R8 := hid r8
  clear r8 k8
  go_wp2_with fail
  refine (rtruth_calls _ R _ w8 R8.out).mono ?_
  rw [kn6]
  rintro e w9 ⟨rfl, r9, k9⟩
  have A9 := hid ((A8.out.other (tch := fun k => k = R) (k9.shrink fun k hk => hk) (fun k hk => hk) (fun k hk => by rw [hk]; exact HBR.out)).less (oth' := fun k => k = R) fun k hk => .inl hk)
  have R9 := hid r9
  clear r9 k9
  go_wp2_with fail
  refine A9.out.bytes.mono ?_
  rintro e w10 ⟨v10, rfl, o10, a10, b10⟩
  obtain ⟨ad, cap, rfl, p10, -⟩ := o10.part
  have hcv := run_strB (w := w10) 8 cap rfl p10
  have R10 := hid (R9.out.grows b10)
  have A10 := hid a10
  clear o10 a10 p10 b10
  go_wp2_with fail
  refine (left_calls _ R _ w10 R10.out).mono ?_
  rintro e w11 ⟨rfl, rfl⟩
  go_wp2_with fail
  go_ret
  exact ⟨rfl, A10.out.below⟩
end Go.Proofs.Ytkpadhjlopcejaa
