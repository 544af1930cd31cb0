/-
  The known case of the slots' laws.
-/
import Derived.Test.YtkpadhjlopcejaaSParse
import Derived.Test.YtkpadhjlopcejaaSFind
namespace Go.Proofs.Ytkpadhjlopcejaa
open Go.RowKit
theorem part_litC (w : World) (l : List Cl) (t : TypeId) (hl : l.length ≤ maxLen) : PartC (fun k => k = w.heap.size) (w.alloc (.cells (cellsR l).toArray t)) (.slice (some ⟨w.heap.size, 0, none⟩) l.length l.length) l :=
  ⟨_, _, rfl, fun i hi => ⟨_, 0, rfl, rfl, fun j hj => by rw [Nat.zero_add, (Blk.new w (cellsR l) t).cell, cellsR_get l i j hi hj]⟩, Nat.le_refl _, hl, fun h => by cases h⟩
theorem part_litC' (w : World) (l : List Cl) (t : TypeId) (hl : l.length ≤ maxLen) : PartC (fun k => k < (w.alloc (.cells (cellsR l).toArray t)).heap.size) (w.alloc (.cells (cellsR l).toArray t)) (.slice (some ⟨w.heap.size, 0, none⟩) l.length l.length) l :=
  (part_litC w l t hl).mono fun k hk => by rw [hk]; simp
def kca : Cl := ⟨⟨#[97]⟩, ⟨#[120]⟩, false, 0, 0⟩
def kcb : Cl := ⟨⟨#[]⟩, ⟨#[]⟩, false, 7, 0⟩
def kcl : List Cl := [⟨⟨#[97]⟩, ⟨#[]⟩, false, 0, 0⟩, ⟨⟨#[99]⟩, ⟨#[]⟩, false, 0, 0⟩]
theorem sk1 : rawErr 2 [kca] = 0 := by decide +kernel
theorem sk2 : rawOut 2 [kca] = [0, 1, 0, 4, 1, 97, 0, 1, 120] := by decide +kernel
theorem sk3 : sizeC 3 [kcb] = (9, 0) := by decide +kernel
theorem sk4a : keyLt ⟨#[97]⟩ ⟨#[99]⟩ = true := by decide +kernel
theorem sk4 : Rising kcl := by
  intro i hi
  have : i = 0 := by simp [kcl] at hi; omega
  subst this
  exact sk4a
theorem sk5a : keyLt ⟨#[97]⟩ ⟨#[98]⟩ = true := by decide +kernel
theorem sk5b : keyLt ⟨#[99]⟩ ⟨#[98]⟩ = false := by decide +kernel
theorem sk5 : IsAt kcl ⟨#[98]⟩ 1 := by
  refine ⟨by decide, fun i hi h => ?_, fun h => ?_⟩
  · have : i = 0 := by omega
    subst this
    exact sk5a
  · exact sk5b
theorem sk6 : hasAt kcl ⟨#[98]⟩ 1 = false := by decide +kernel
theorem sk7 : parseC 2 [0, 0] = ([], 0) := by rfl
theorem sk8 : parseC 3 [0, 0] = ([], 151) := by rfl
set_option maxRecDepth 100000 in
set_option maxHeartbeats 8000000 in
theorem known_calls (w : World) : Calls Try.prog 34 #[] w fun e w' => e = .returned (.bool true) ∧ Below w.heap.size w w' := by
  go_enter Try.func34, Try.ntmps34
  go_wp2_with fail
  have p1 := part_litC' w [kca] 81 (by decide)
  have b1 := (Below.refl w.heap.size w).alloc (o := .cells (cellsR [kca]).toArray 81) (Nat.le_refl _)
  change PartC _ (w.alloc (.cells #[.string ⟨#[97]⟩, .string ⟨#[120]⟩, .bool false, .int .i64 0, .int .i64 0] 81)) _ _ at p1
  change Below _ _ (w.alloc (.cells #[.string ⟨#[97]⟩, .string ⟨#[120]⟩, .bool false, .int .i64 0, .int .i64 0] 81)) at b1
  have h1 := Raw_calls 2 _ [kca] _ p1 (by decide)
  rw [sk1, sk2] at h1
  refine h1.mono ?_
  rintro e w1 ⟨v1, rfl, o1, bb1⟩
  have B1 := hid (b1.trans (bb1.mono b1.size))
  have O1 := hid o1
  obtain ⟨va, vc, rfl, -⟩ : ∃ a c, v1 = .slice a 9 c ∧ True := by obtain ⟨a, c, e, _⟩ := o1.part; exact ⟨a, c, e, trivial⟩
  clear p1 b1 h1 o1 bb1
  go_wp2_with fail
  have p2 := part_litC' w1 [kcb] 81 (by decide)
  have b2 := (Below.refl w1.heap.size w1).alloc (o := .cells (cellsR [kcb]).toArray 81) (Nat.le_refl _)
  change PartC _ (w1.alloc (.cells #[.string ⟨#[]⟩, .string ⟨#[]⟩, .bool false, .int .i64 7, .int .i64 0] 81)) _ _ at p2
  change Below _ _ (w1.alloc (.cells #[.string ⟨#[]⟩, .string ⟨#[]⟩, .bool false, .int .i64 7, .int .i64 0] 81)) at b2
  have h2 := size_calls 3 _ [kcb] _ p2 (by decide)
  rw [sk3] at h2
  refine h2.mono ?_
  rintro e w2 ⟨rfl, bb2⟩
  have b12 := b2.trans (bb2.mono b2.size)
  have B2 := hid (B1.out.trans (b12.mono B1.out.size))
  have O2 := hid (O1.out.below b12)
  clear p2 b2 h2 bb2 b12 B1 O1
  go_wp2_with fail
  have p3 := part_litC' w2 kcl 81 (by decide)
  have b3 := (Below.refl w2.heap.size w2).alloc (o := .cells (cellsR kcl).toArray 81) (Nat.le_refl _)
  change PartC _ (w2.alloc (.cells #[.string ⟨#[97]⟩, .string ⟨#[]⟩, .bool false, .int .i64 0, .int .i64 0, .string ⟨#[99]⟩, .string ⟨#[]⟩, .bool false, .int .i64 0, .int .i64 0] 81)) _ _ at p3
  change Below _ _ (w2.alloc (.cells #[.string ⟨#[97]⟩, .string ⟨#[]⟩, .bool false, .int .i64 0, .int .i64 0, .string ⟨#[99]⟩, .string ⟨#[]⟩, .bool false, .int .i64 0, .int .i64 0] 81)) at b3
  refine (find_calls _ kcl ⟨#[98]⟩ _ p3 sk4 (by decide)).mono ?_
  rintro e w3 ⟨n, rfl, hat, bb3⟩
  obtain rfl := hat.uniq sk5
  rw [sk6]
  have b13 := b3.trans (bb3.mono b3.size)
  have B3 := hid (B2.out.trans (b13.mono B2.out.size))
  have O3 := hid (O2.out.below b13)
  clear p3 b3 bb3 b13 hat B2 O2
  go_wp2_with fail
  have p4 := (part_lit w3 [0, 0] 5 (by decide)).mono (ok' := fun q => q < (w3.alloc (.cells (cellsB [0, 0]).toArray 5)).heap.size) fun k hk => by rw [hk]; simp
  have b4 := (Below.refl w3.heap.size w3).alloc (o := .cells (cellsB [0, 0]).toArray 5) (Nat.le_refl _)
  change PartB (fun q => q < (w3.alloc (.cells #[.int .u8 0, .int .u8 0] 5)).heap.size) (w3.alloc (.cells #[.int .u8 0, .int .u8 0] 5)) _ _ at p4
  change Below _ _ (w3.alloc (.cells #[.int .u8 0, .int .u8 0] 5)) at b4
  have h4 := parse_calls 2 _ [0, 0] _ p4
  unfold ParseEnd at h4
  rw [sk7] at h4
  refine h4.mono ?_
  rintro e w4 ⟨v4, rfl, o4, bb4⟩
  obtain ⟨va4, vc4, rfl⟩ : ∃ a c, v4 = .slice a 0 c := by obtain ⟨a, c, e, _⟩ := o4.part; exact ⟨a, c, e⟩
  have b14 := b4.trans (bb4.mono b4.size)
  have B4 := hid (B3.out.trans (b14.mono B3.out.size))
  have O4 := hid (O3.out.below b14)
  clear p4 b4 bb4 b14 h4 o4 B3 O3
  go_wp2_with fail
  have p5 := (part_lit w4 [0, 0] 5 (by decide)).mono (ok' := fun q => q < (w4.alloc (.cells (cellsB [0, 0]).toArray 5)).heap.size) fun k hk => by rw [hk]; simp
  have b5 := (Below.refl w4.heap.size w4).alloc (o := .cells (cellsB [0, 0]).toArray 5) (Nat.le_refl _)
  change PartB (fun q => q < (w4.alloc (.cells #[.int .u8 0, .int .u8 0] 5)).heap.size) (w4.alloc (.cells #[.int .u8 0, .int .u8 0] 5)) _ _ at p5
  change Below _ _ (w4.alloc (.cells #[.int .u8 0, .int .u8 0] 5)) at b5
  have h5 := parse_calls 3 _ [0, 0] _ p5
  unfold ParseEnd at h5
  rw [sk8] at h5
  refine h5.mono ?_
  rintro e w5 ⟨v5, rfl, o5, bb5⟩
  obtain ⟨va5, vc5, rfl⟩ : ∃ a c, v5 = .slice a 0 c := by obtain ⟨a, c, e, _⟩ := o5.part; exact ⟨a, c, e⟩
  have b15 := b5.trans (bb5.mono b5.size)
  have B5 := hid (B4.out.trans (b15.mono B4.out.size))
  have hcv := run_strB (w := w5) 9 vc rfl (O4.out.below b15).part.at.1
  clear p5 b5 bb5 b15 h5 o5 B4 O4
  go_wp2_with fail
  go_ret
  exact ⟨rfl, B5.out⟩
end Go.Proofs.Ytkpadhjlopcejaa
