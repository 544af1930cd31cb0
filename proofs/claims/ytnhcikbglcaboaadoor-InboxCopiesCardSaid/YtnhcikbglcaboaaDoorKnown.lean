/-
  The known case: its walk.
-/
import Derived.Test.YtnhcikbglcaboaaDoorSt
namespace Go.Proofs.YtnhcikbglcaboaaDoor
open Go.RowKit Go.Shelf
theorem k1 : Ib.comes [] 2 7 = (true, 0) := comes_new _ _ _ (by decide) (by decide) (by decide)
theorem k2 : Ib.comes [7] 2 7 = (false, 0) := comes_in _ _ _ (by decide) (by decide)
theorem k3 : Ib.comes [7] 2 3 = (true, 0) := comes_new _ _ _ (by decide) (by decide) (by decide)
theorem k4 : Ib.comes [3, 7] 2 4 = (false, 310) := comes_full _ _ _ (by decide) (by decide) (by decide)
theorem k5 : Ib.goes [3, 7] 7 = (true, 0) := goes_in _ _ (by decide) (by decide)
theorem intsIn_one (w : World) (x : Int) : IntsIn (fun _ => True) (w.alloc (.cells #[.int .i64 x] 2)) (some ⟨w.heap.size, 0, none⟩) [x] := by
  intro i hi
  have h0 : i = 0 := by simp at hi; omega
  subst h0
  exact ⟨_, 0, rfl, trivial, (Blk.new w [.int .i64 x] 2).cell 0⟩
theorem known_calls (w : World) (hT : TabAt w) : Calls Tryd.prog 9 #[] w fun e w' => e = .returned (.bool true) ∧ Below w.heap.size w w' := by
  have h0 := hT.1
  go_enter Tryd.func9, Tryd.ntmps9
  go_wp2_with fail
  refine (new_calls' 2 w w w.heap.size h0 (Below.refl _ _) (Nat.le_refl _) hT (by decide)).mono ?_
  rintro e w1 ⟨A, S, rfl, s1, -, -, -⟩
  go_wp2_with fail
  refine (come_calls' 7 s1).mono ?_
  rintro e w2 ⟨rfl, s2, -⟩
  rw [k1] at s2 ⊢
  replace s2 : St w.heap.size w w2 A S 2 [7] := s2
  go_wp2_with fail
  refine (come_calls' 7 s2).mono ?_
  rintro e w3 ⟨rfl, s3, -⟩
  rw [k2] at s3 ⊢
  replace s3 : St w.heap.size w w3 A S 2 [7] := s3
  go_wp2_with fail
  refine (come_calls' 3 s3).mono ?_
  rintro e w4 ⟨rfl, s4, -⟩
  rw [k3] at s4 ⊢
  replace s4 : St w.heap.size w w4 A S 2 [3, 7] := s4
  go_wp2_with fail
  refine (come_calls' 4 s4).mono ?_
  rintro e w5 ⟨rfl, s5, -⟩
  rw [k4] at s5 ⊢
  replace s5 : St w.heap.size w w5 A S 2 [3, 7] := s5
  go_wp2_with fail
  refine (go_calls' 7 s5).mono ?_
  rintro e w6 ⟨rfl, s6, -⟩
  rw [k5] at s6 ⊢
  replace s6 : St w.heap.size w w6 A S 2 [3] := s6
  go_wp2_with fail
  refine (all_calls' s6).mono ?_
  rintro e w7 ⟨a, cap, rfl, hi, -, -, -, s7, -⟩
  go_wp2_with fail
  have hi' : IntsIn (fun k => w6.heap.size ≤ k ∧ k < w7.heap.size) w7 a [3] := hi
  have hb : Below w7.heap.size w7 (w7.alloc (.cells #[.int .i64 3] 2)) := (Below.refl _ _).alloc (Nat.le_refl _) _
  have i1 : IntsIn (fun _ => True) (w7.alloc (.cells #[.int .i64 3] 2)) a [3] := ((hi'.mono (ok' := fun k => k < w7.heap.size) fun k h => h.2).below hb).mono fun _ _ => trivial
  have i2 : IntsIn (fun _ => True) (w7.alloc (.cells #[.int .i64 3] 2)) (some ⟨w7.heap.size, 0, none⟩) [3] := intsIn_one _ _
  have hB := s7.below
  clear s1 s2 s3 s4 s5 s6 s7 hi hi'
  refine (same_calls a (some ⟨w7.heap.size, 0, none⟩) cap 1 [3] [3] _ _ i1 i2 (by decide) (by decide)).mono ?_
  rintro e w8 ⟨rfl, m, rfl⟩
  rw [decide_eq_true (show ([3] : List Int) = [3] from rfl)]
  go_wp2_with fail
  go_ret
  exact ⟨rfl, below_drewN (hB.trans (hb.mono hB.size)) m⟩
end Go.Proofs.YtnhcikbglcaboaaDoor
