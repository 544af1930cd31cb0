/-
  The lowest bit's place: the walk of TrailingZeros64 over its table.
-/
import Derived.Test.YtnhcikbglcaboaaDoorBase
namespace Go.Proofs.YtnhcikbglcaboaaDoor
open Go.RowKit
def tab : List Nat := [0, 1, 56, 2, 57, 49, 28, 3, 61, 58, 42, 50, 38, 29, 17, 4, 62, 47, 59, 36, 45, 43, 51, 22, 53, 39, 33, 30, 24, 18, 12, 5, 63, 55, 48, 27, 60, 41, 37, 16, 46, 35, 44, 21, 52, 32, 23, 11, 54, 26, 40, 15, 34, 20, 31, 10, 25, 14, 19, 9, 13, 8, 7, 6]
def TabAt (w : World) : Prop := 0 < w.heap.size ∧ ∀ i, i < 64 → w.cell? ⟨0, i, none⟩ = some (.int .u8 ((tab.getD i 0 : Nat) : Int))
theorem TabAt.below {w w' : World} {B : Nat} (h : TabAt w) (hb : Below B w w') (hB : 0 < B) : TabAt w' :=
  ⟨Nat.lt_of_lt_of_le h.1 hb.size, fun i hi => by rw [hb.cell (p := ⟨0, i, none⟩) hB]; exact h.2 i hi⟩
theorem TabAt.kept {ok : Nat → Prop} {w w' : World} (h : TabAt w) (hk : Kept ok w w') (ho : ok 0) : TabAt w' :=
  ⟨Nat.lt_of_lt_of_le h.1 hk.size, fun i hi => by rw [hk.cell (p := ⟨0, i, none⟩) ho]; exact h.2 i hi⟩
def slot (t : Nat) : Nat := 2 ^ t * 285870213051353865 % 18446744073709551616 / 288230376151711744
theorem slot_all : ([0, 1, 2, 3, 4, 5, 6, 7, 8, 9, 10, 11, 12, 13, 14, 15, 16, 17, 18, 19, 20, 21, 22, 23, 24, 25, 26, 27, 28, 29, 30, 31, 32, 33, 34, 35, 36, 37, 38, 39, 40, 41, 42, 43, 44, 45, 46, 47, 48, 49, 50, 51, 52, 53, 54, 55, 56, 57, 58, 59, 60, 61, 62, 63] : List Nat).all (fun t => Nat.blt (slot t) 64 && Nat.beq (tab.getD (slot t) 0) t) = true := by decide +kernel
theorem slot_tab (t : Nat) (h : t < 64) : slot t < 64 ∧ tab.getD (slot t) 0 = t := by
  have hm : t ∈ ([0, 1, 2, 3, 4, 5, 6, 7, 8, 9, 10, 11, 12, 13, 14, 15, 16, 17, 18, 19, 20, 21, 22, 23, 24, 25, 26, 27, 28, 29, 30, 31, 32, 33, 34, 35, 36, 37, 38, 39, 40, 41, 42, 43, 44, 45, 46, 47, 48, 49, 50, 51, 52, 53, 54, 55, 56, 57, 58, 59, 60, 61, 62, 63] : List Nat) := by
    have : t ∈ List.range 64 := List.mem_range.2 h
    exact this
  have := List.all_eq_true.1 slot_all t hm
  rw [Bool.and_eq_true, Nat.blt_eq, Nat.beq_eq] at this
  exact this
theorem negU (x : Nat) (h0 : 0 < x) (h : x < 18446744073709551616) : IntKind.u64.wrap (-(x : Int)) = ((18446744073709551616 - x : Nat) : Int) := by
  rw [IntKind.wrap_u64]; omega
theorem and_u64 (a b : Nat) (ha : a < 18446744073709551616) (hb : b < 18446744073709551616) : bits .and .u64 (a : Int) (b : Int) = ((a &&& b : Nat) : Int) := by
  have hx : a &&& b < 18446744073709551616 := Nat.lt_of_le_of_lt Nat.and_le_left ha
  show IntKind.u64.wrap ((BitVec.ofInt 64 (a : Int) &&& BitVec.ofInt 64 (b : Int)).toNat : Int) = _
  rw [BitVec.toNat_and, bvn (by omega), bvn (by omega), IntKind.wrap_u64]
  omega
theorem mulU (p : Nat) : IntKind.u64.wrap ((p : Int) * 285870213051353865) = ((p * 285870213051353865 % 18446744073709551616 : Nat) : Int) := by
  rw [IntKind.wrap_u64]; omega
/-- what the table's place is reckoned out of -/
theorem slot_eq (t : Nat) : ((2 ^ t * 285870213051353865 % 18446744073709551616 : Nat) : Int) / 288230376151711744 = (slot t : Int) := by
  unfold slot
  generalize 2 ^ t * 285870213051353865 % 18446744073709551616 = q
  omega
theorem lowU (t m : Nat) (h : 2 ^ t * (2 * m + 1) < 18446744073709551616) : bits .and .u64 ((2 ^ t * (2 * m + 1) : Nat) : Int) (IntKind.u64.wrap (-((2 ^ t * (2 * m + 1) : Nat) : Int))) = ((2 ^ t : Nat) : Int) := by
  have hp : 0 < 2 ^ t * (2 * m + 1) := Nat.mul_pos (Nat.two_pow_pos t) (by omega)
  have hi := Ib.isolate (t := t) (m := m) h
  rw [negU _ hp h, and_u64 _ _ h (by omega), hi]
theorem tz_core (x p q sl t : Nat) (w : World) (h0 : 0 < x) (ht : t < 64) (hA : bits .and .u64 (x : Int) (IntKind.u64.wrap (-(x : Int))) = (p : Int)) (hB : IntKind.u64.wrap ((p : Int) * 285870213051353865) = (q : Int))
    (hC : (q : Int) / 288230376151711744 = (sl : Int)) (hs : sl < 64) (hc : w.cell? ⟨0, sl, none⟩ = some (.int .u8 (t : Int))) :
    Calls Tryd.prog 32 #[.int .u64 (x : Int)] w fun e w' => e = .returned (.int .i64 (t : Int)) ∧ w = w' := by
  have hs3 : (sl : Int) < 64 := by omega
  have hne : ((x : Int) == 0) = false := by simp; omega
  go_enter Tryd.func32, Tryd.ntmps32
  go_wp2
  go_ret
  exact ⟨rfl, rfl⟩
theorem tz_any (t m : Nat) (w : World) (hT : TabAt w) (hx : 2 ^ t * (2 * m + 1) < 18446744073709551616) :
    Calls Tryd.prog 32 #[.int .u64 ((2 ^ t * (2 * m + 1) : Nat) : Int)] w fun e w' => e = .returned (.int .i64 (t : Int)) ∧ w = w' := by
  obtain ⟨hs1, hs2⟩ := slot_tab t (Ib.bitsOf_low hx).1
  have hc := hT.2 (slot t) hs1
  rw [hs2] at hc
  exact tz_core _ _ _ _ t w (Nat.mul_pos (Nat.two_pow_pos t) (by omega)) (Ib.bitsOf_low hx).1 (lowU t m hx) (mulU _) (slot_eq t) hs1 hc
end Go.Proofs.YtnhcikbglcaboaaDoor
