/-
  The document's answer: the walk of Find, and what its place says of a rising list.
-/
import Derived.Test.YtnhcikbglcaboaaDoorCopy
import Derived.Test.YtnhcikbglcaboaaDoorEat
import Derived.Test.YtnhcikbglcaboaaDoorEachWalk
namespace Go.Proofs.YtnhcikbglcaboaaDoor
open Go.RowKit Go.Shelf
/-- the place of an ID among rising ones -/
def below (L : List Int) (id : Int) : Nat := (L.filter fun x => decide (x < id)).length
theorem place : ∀ (L : List Int) (id : Int) (k : Nat), L.Pairwise (· < ·) → k ≤ L.length → (∀ j (h : j < L.length), j < k → L[j] < id) → (∀ h : k < L.length, id ≤ L[k]) →
    k = below L id ∧ L.take k = (L.filter fun x => decide (x < id)) ∧ L.drop k = (L.filter fun x => decide (id ≤ x)) ∧ (id ∈ L ↔ ∃ h : k < L.length, L[k] = id)
  | [], id, k, _, hk, _, _ => by
    have : k = 0 := by simpa using hk
    subst this
    simp [below]
  | x :: L, id, 0, hs, _, _, h2 => by
    have hx : id ≤ x := h2 (by simp)
    have hall : ∀ y ∈ L, id < y := fun y hy => by have := (List.pairwise_cons.1 hs).1 y hy; omega
    have e1 : (x :: L).filter (fun x => decide (x < id)) = [] := by
      rw [List.filter_eq_nil_iff]
      intro y hy
      rcases List.mem_cons.1 hy with rfl | hy
      · simpa using hx
      · have := hall y hy
        simp; omega
    have e2 : (x :: L).filter (fun x => decide (id ≤ x)) = x :: L := by
      rw [List.filter_eq_self]
      intro y hy
      rcases List.mem_cons.1 hy with rfl | hy
      · simpa using hx
      · have := hall y hy
        simp; omega
    refine ⟨by simp [below, e1], by simp [e1], by simp [e2], ?_⟩
    constructor
    · intro h
      rcases List.mem_cons.1 h with rfl | h
      · exact ⟨by simp, rfl⟩
      · have := hall id h; omega
    · rintro ⟨_, h⟩
      exact List.mem_cons.2 (.inl h.symm)
  | x :: L, id, k + 1, hs, hk, h1, h2 => by
    have hx : x < id := h1 0 (by simp) (by omega)
    obtain ⟨i1, i2, i3, i4⟩ := place L id k (List.pairwise_cons.1 hs).2 (by simpa using hk) (fun j h hj => by have := h1 (j + 1) (by simpa using h) (by omega); simpa using this) (fun h => by have := h2 (by simpa using h); simpa using this)
    have n1 : ¬ id ≤ x := by omega
    refine ⟨?_, ?_, ?_, ?_⟩
    · unfold below at *
      simp [hx, ← i1]
    · simp [hx, i2]
    · simp [n1, i3]
    · rw [List.mem_cons, i4]
      constructor
      · rintro (e | ⟨h, e⟩)
        · omega
        · exact ⟨by simpa using h, by simpa using e⟩
      · rintro ⟨h, e⟩
        exact .inr ⟨by simpa using h, by simpa using e⟩
set_option maxHeartbeats 1000000 in
theorem find_calls (a : Option Addr) (cap : Nat) (L : List Int) (id : Int) (ok : Nat → Prop) (w : World) (h1 : IntsIn ok w a L) (hl : L.length ≤ 1099511627776) (hs : L.Pairwise (· < ·)) :
    Calls Tryd.prog 15 #[.slice a L.length cap, .int .i64 id] w fun e w' => e = .returned (.tuple #[.int .i64 (below L id : Int), .bool (decide (id ∈ L))]) ∧ ∃ m, w' = World.drewN w m := by
  have HP := hid (place L id)
  generalize hN : L.length = N
  have HN := hid hN
  have hN' : N ≤ 1099511627776 := by omega
  have HS := hid hs
  clear hN hs hl
  go_enter Tryd.func15, Tryd.ntmps15
  go_wp2
  go_loop [6] (fun i => ∃ k : Nat, k ≤ N ∧ i = .int .i64 k ∧ Hid (∀ j (h : j < L.length), j < k → L[j] < id)) (fun i => N - (intOf i).toNat)
  case atStart => exact ⟨0, Nat.zero_le _, rfl, fun _ _ h => absurd h (Nat.not_lt_zero _)⟩
  case round =>
    obtain ⟨k, hk, rfl, HJ⟩ := hrel
    by_cases hlt : k < N
    · obtain ⟨b0, off0, rfl, ho0, hd0⟩ := h1 k (by rw [HN.out]; exact hlt)
      have hx : ∀ x, L[k]'(by rw [HN.out]; exact hlt) = x → Hid (L[k]'(by rw [HN.out]; exact hlt) = x) := fun _ h => h
      generalize hxe : L[k]'(by rw [HN.out]; exact hlt) = x at hd0
      have HX := hid hxe
      have i0 : (k : Int) < (N : Int) := by omega
      clear hxe hx h1
      by_cases hxi : x < id
      · go_wp2_with fail
        go_round
        case rel => exact ⟨k + 1, by omega, by go_num, fun j h hj => by
          by_cases e : j = k
          · subst e; rw [HX.out]; exact hxi
          · exact HJ.out j h (by omega)⟩
        case measure => simp [intOf]; omega
      · obtain ⟨p1, -, -, p4⟩ := HP.out k HS.out (by rw [HN.out]; exact hk) HJ.out (fun _ => by rw [HX.out]; omega)
        have hb : decide (id ∈ L) = (x == id) := by
          rw [Bool.eq_iff_iff, decide_eq_true_eq, p4, beq_iff_eq]
          exact ⟨fun ⟨_, h⟩ => HX.out.symm.trans h, fun h => ⟨by rw [HN.out]; exact hlt, HX.out.trans h⟩⟩
        have HB := hid hb
        have HP1 := hid p1
        clear p1 p4 hb
        go_wp2_with fail
        go_quiet (fail)
        go_wp2_with fail
        go_ret2
        rw [HB.out, ← HP1.out]
        exact ⟨rfl, _, rfl⟩
    · obtain ⟨p1, -, -, p4⟩ := HP.out k HS.out (by rw [HN.out]; exact hk) HJ.out (fun h => absurd h (by rw [HN.out]; exact hlt))
      have hb : decide (id ∈ L) = false := by
        rw [decide_eq_false_iff_not, p4]
        rintro ⟨h, _⟩
        exact hlt (by rw [← HN.out]; exact h)
      have HB := hid hb
      have HP1 := hid p1
      have i0 : decide ((k : Int) < (N : Int)) = false := by simp; omega
      have i1 : ¬ ((k : Int) < (N : Int)) := by omega
      clear p1 p4 hb h1
      go_wp2_with fail
      go_quiet (fail)
      go_wp2_with fail
      go_ret2
      rw [HB.out, ← HP1.out]
      exact ⟨rfl, _, rfl⟩
end Go.Proofs.YtnhcikbglcaboaaDoor
