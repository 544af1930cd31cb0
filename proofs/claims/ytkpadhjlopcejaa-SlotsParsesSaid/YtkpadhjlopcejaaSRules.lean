/-
  Whether a cell may be: the walks of within, the rules' two functions, the document's May; few.
-/
import Derived.Test.YtkpadhjlopcejaaSCells
namespace Go.Proofs.Ytkpadhjlopcejaa
open Go.RowKit
theorem within_calls (n a b : Int) (w : World) : Calls Try.prog 73 #[.int .i64 n, .int .i64 a, .int .i64 b] w fun e w' => e = .returned (.bool (between n a b)) ∧ w = w' := by
  unfold between
  go_enter Try.func73, Try.ntmps73
  by_cases h : a ≤ n
  · go_wp2_with fail
    go_ret
    simp [h]
  · go_wp2_with fail
    go_ret
    simp
    omega
theorem text_none_eq {t : ByteArray} (h : t.size = 0) : t = ⟨#[]⟩ := by
  obtain ⟨d⟩ := t
  have : d.size = 0 := h
  rw [Array.size_eq_zero_iff.1 this]
theorem text_some_eq {t : ByteArray} (h : ¬ t.size = 0) : ¬ t.toList = [] := by
  intro e
  rw [ByteArray.toList_eq] at e
  exact h (by show t.data.size = 0; rw [← Array.length_toList, e]; rfl)
set_option maxHeartbeats 1000000 in
theorem leaf_calls (x : Cl) (w : World) : Calls Try.prog 72 #[aggC x] w fun e w' => e = .returned (.bool (mayLeaf x)) ∧ Below w.heap.size w w' := by
  obtain ⟨key, text, long, page, size⟩ := x
  unfold aggC mayLeaf
  have hb : ∀ o, Below w.heap.size w (w.alloc o) := fun o => (Below.refl _ _).alloc (Nat.le_refl _) _
  have HB := hid hb
  clear hb
  have W1 := within_calls (key.size : Int) 1 48
  have W2 := within_calls page 1 4095
  have W3 := within_calls size 61 4096
  generalize between (key.size : Int) 1 48 = b1 at W1 ⊢
  generalize between page 1 4095 = b2 at W2 ⊢
  generalize between size 61 4096 = b3 at W3 ⊢
  go_enter Try.func72, Try.ntmps72
  go_wp2_with fail
  refine (W1 _).mono ?_
  rintro e w' ⟨rfl, rfl⟩
  cases long
  · cases b1
    · go_wp2_with fail
      go_ret
      exact ⟨by simp, HB.out _⟩
    · by_cases ht : text.size ≤ 60
      · have i1 : (text.size : Int) ≤ 60 := by omega
        by_cases hp : page = 0
        · by_cases hs : size = 0
          · subst hp hs
            go_wp2_with fail
            go_ret
            exact ⟨by simp, HB.out _⟩
          · have g1 : (size == 0) = false := by simpa using hs
            subst hp
            go_wp2_with fail
            go_ret
            exact ⟨by simp, HB.out _⟩
        · have g1 : (page == 0) = false := by simpa using hp
          go_wp2_with fail
          go_ret
          exact ⟨by simp, HB.out _⟩
      · have i1 : ¬ (text.size : Int) ≤ 60 := by omega
        go_wp2_with fail
        go_ret
        exact ⟨by simp, HB.out _⟩
  · cases b1
    · go_wp2_with fail
      go_ret
      exact ⟨by simp, HB.out _⟩
    · by_cases ht : text.size = 0
      · obtain rfl := text_none_eq ht
        go_wp2_with fail
        refine (W2 _).mono ?_
        rintro e w' ⟨rfl, rfl⟩
        cases b2
        · go_wp2_with fail
          go_ret
          exact ⟨by simp, HB.out _⟩
        · go_wp2_with fail
          refine (W3 _).mono ?_
          rintro e w' ⟨rfl, rfl⟩
          go_wp2_with fail
          go_ret
          exact ⟨by simp, HB.out _⟩
      · have i1 := text_some_eq ht
        go_wp2_with fail
        go_ret
        exact ⟨by simp, HB.out _⟩
set_option maxHeartbeats 1000000 in
theorem branch_calls (x : Cl) (w : World) : Calls Try.prog 74 #[aggC x] w fun e w' => e = .returned (.bool (mayBranch x)) ∧ Below w.heap.size w w' := by
  obtain ⟨key, text, long, page, size⟩ := x
  unfold aggC mayBranch
  have hb : ∀ o, Below w.heap.size w (w.alloc o) := fun o => (Below.refl _ _).alloc (Nat.le_refl _) _
  have HB := hid hb
  clear hb
  have W2 := within_calls page 1 4095
  generalize between page 1 4095 = b2 at W2 ⊢
  go_enter Try.func74, Try.ntmps74
  by_cases hk : key.size ≤ 48
  · have i1 : (key.size : Int) ≤ 48 := by omega
    by_cases ht : text.size = 0
    · obtain rfl := text_none_eq ht
      cases long
      · by_cases hs : size = 0
        · subst hs
          go_wp2_with fail
          refine (W2 _).mono ?_
          rintro e w' ⟨rfl, rfl⟩
          go_wp2_with fail
          go_ret
          exact ⟨by simp, HB.out _⟩
        · go_wp2_with fail
          go_ret
          exact ⟨by simp [hs], HB.out _⟩
      · go_wp2_with fail
        go_ret
        exact ⟨by simp, HB.out _⟩
    · have i2 := text_some_eq ht
      go_wp2_with fail
      go_ret
      exact ⟨by simp [ht], HB.out _⟩
  · have i1 : ¬ (key.size : Int) ≤ 48 := by omega
    go_wp2_with fail
    go_ret
    exact ⟨by simp, HB.out _⟩
end Go.Proofs.Ytkpadhjlopcejaa
