/-
  The document's May; few.
-/
import Derived.Test.YtkpadhjlopcejaaSRules
namespace Go.Proofs.Ytkpadhjlopcejaa
open Go.RowKit
theorem ret_bool {a b : Bool} (h : a = true ↔ b = true) : Ending.returned (.bool a) = .returned (.bool b) := by rw [Bool.eq_iff_iff.2 h]
theorem empty_eq : (⟨#[]⟩ : ByteArray) = ByteArray.empty := rfl
set_option maxHeartbeats 2000000 in
theorem may_calls (leaf : Bool) (x : Cl) (w : World) : Calls Try.prog 57 #[.bool leaf, aggC x] w fun e w' => e = .returned (.bool (mayC leaf x)) ∧ Below w.heap.size w w' := by
  obtain ⟨key, text, long, page, size⟩ := x
  unfold aggC mayC
  have hb : ∀ o, Below w.heap.size w (w.alloc o) := fun o => (Below.refl _ _).alloc (Nat.le_refl _) _
  have HB := hid hb
  clear hb
  by_cases hk : 48 < key.size
  · have i1 : (48 : Int) < (key.size : Int) := by omega
    cases leaf
    · go_enter Try.func57, Try.ntmps57
      go_wp2_with fail
      go_ret
      refine ⟨ret_bool ?_, HB.out _⟩
      simp [mayBranch, between]
      omega
    · go_enter Try.func57, Try.ntmps57
      go_wp2_with fail
      go_ret
      refine ⟨ret_bool ?_, HB.out _⟩
      simp [mayLeaf, between]
      omega
  · have i1 : ¬ (48 : Int) < (key.size : Int) := by omega
    cases leaf
    · by_cases ht : text.size = 0
      · obtain rfl := text_none_eq ht
        simp only [ByteArray.size_eq_zero_iff] at ht
        cases long
        · go_enter Try.func57, Try.ntmps57
          go_wp2_with fail
          all_goals
            go_ret
            refine ⟨ret_bool ?_, HB.out _⟩
            simp [mayBranch, between]
            try omega
        · go_enter Try.func57, Try.ntmps57
          go_wp2_with fail
          all_goals
            go_ret
            refine ⟨ret_bool ?_, HB.out _⟩
            simp [mayBranch, between]
            try omega
      · have i2 := text_some_eq ht
        simp only [ByteArray.size_eq_zero_iff] at ht
        cases long
        · go_enter Try.func57, Try.ntmps57
          go_wp2_with fail
          all_goals
            go_ret
            refine ⟨ret_bool ?_, HB.out _⟩
            simp [mayBranch, between, ht]
            try omega
        · go_enter Try.func57, Try.ntmps57
          go_wp2_with fail
          all_goals
            go_ret
            refine ⟨ret_bool ?_, HB.out _⟩
            simp [mayBranch, between, ht]
            try omega
    · by_cases hk0 : key.size = 0
      · have i3 : ((key.size : Int) == 0) = true := by simp [hk0]
        go_enter Try.func57, Try.ntmps57
        go_wp2_with fail
        go_ret
        refine ⟨ret_bool ?_, HB.out _⟩
        simp [mayLeaf, between, hk0]
      · have i3 : ((key.size : Int) == 0) = false := by simp [hk0]
        by_cases ht : text.size = 0
        · obtain rfl := text_none_eq ht
          simp only [ByteArray.size_eq_zero_iff] at ht
          cases long
          · go_enter Try.func57, Try.ntmps57
            go_wp2_with fail
            all_goals
              go_ret
              refine ⟨ret_bool ?_, HB.out _⟩
              simp [mayLeaf, between]
              try omega
          · go_enter Try.func57, Try.ntmps57
            go_wp2_with fail
            all_goals
              go_ret
              refine ⟨ret_bool ?_, HB.out _⟩
              simp [mayLeaf, between]
              try omega
        · have i2 := text_some_eq ht
          simp only [ByteArray.size_eq_zero_iff] at ht
          cases long
          · go_enter Try.func57, Try.ntmps57
            go_wp2_with fail
            all_goals
              go_ret
              refine ⟨ret_bool ?_, HB.out _⟩
              simp [mayLeaf, between]
              try omega
          · go_enter Try.func57, Try.ntmps57
            go_wp2_with fail
            all_goals
              go_ret
              refine ⟨ret_bool ?_, HB.out _⟩
              simp [mayLeaf, between, ht]
              try omega
def FewEndC (xs : List Cl) (w : World) (e : Ending) (w' : World) : Prop := ∃ b : Bool, e = .returned (.bool b) ∧ w = w' ∧ (b = true → xs.length ≤ 60 ∧ ∀ i (h : i < xs.length), xs[i].key.size ≤ 300 ∧ xs[i].text.size ≤ 300)
set_option maxHeartbeats 1000000 in
theorem fewc_calls (a : Option Addr) (cap : Nat) (xs : List Cl) (ok : Nat → Prop) (w : World) (hx : CellsIn ok w a xs) :
    Calls Try.prog 33 #[.slice a xs.length cap] w (FewEndC xs w) := by
  generalize hL : xs.length = L at *
  have HL := hid hL
  clear hL
  go_enter Try.func33, Try.ntmps33
  by_cases h60 : 60 < L
  · have i2 : (60 : Int) < (L : Int) := by omega
    go_wp2_with fail
    go_ret
    exact ⟨false, rfl, rfl, fun h => by cases h⟩
  · have i2 : ¬ (60 : Int) < (L : Int) := by omega
    go_wp2_with fail
    go_loop [3] (fun i => ∃ (k : Nat), k ≤ L ∧ i = .int .i64 (k : Int) ∧ Hid (∀ j (h : j < xs.length), j < k → xs[j].key.size ≤ 300 ∧ xs[j].text.size ≤ 300)) (fun i => L - (intOf i).toNat)
    case atStart => exact ⟨0, Nat.zero_le _, rfl, fun j _ h => absurd h (Nat.not_lt_zero _)⟩
    case round =>
      obtain ⟨k, hk, rfl, HJ⟩ := hrel
      by_cases hlt : k < L
      · have hkl : k < xs.length := by rw [HL.out]; exact hlt
        obtain ⟨b0, off0, rfl, ho0, h0, h1, -, -, -⟩ := hx.at hkl
        obtain ⟨x, hxe⟩ : ∃ x, x = xs[k] := ⟨_, rfl⟩
        rw [← hxe] at h0 h1
        have HX := hid hxe
        have i0 : (k : Int) < (L : Int) := by omega
        clear hx hxe
        by_cases c1 : 300 < x.key.size
        · have g1 : (300 : Int) < (x.key.size : Int) := by omega
          go_wp2_with fail
          go_ret
          exact ⟨false, rfl, rfl, fun h => by cases h⟩
        · have g1 : ¬ (300 : Int) < (x.key.size : Int) := by omega
          by_cases c2 : 300 < x.text.size
          · have g2 : (300 : Int) < (x.text.size : Int) := by omega
            go_wp2_with fail
            go_ret
            exact ⟨false, rfl, rfl, fun h => by cases h⟩
          · have g2 : ¬ (300 : Int) < (x.text.size : Int) := by omega
            go_wp2_with fail
            go_round
            case rel =>
              refine ⟨k + 1, hlt, by go_num, fun j hj hjk => ?_⟩
              by_cases e : j = k
              · subst e; rw [← HX.out]; omega
              · exact HJ.out j hj (by omega)
            case measure => simp [intOf]; omega
      · have i0 : ¬ (k : Int) < (L : Int) := by omega
        clear hx
        go_wp2_with fail
        go_ret
        exact ⟨true, rfl, rfl, fun _ => ⟨by rw [HL.out]; omega, fun j hj => HJ.out j hj (by rw [HL.out] at hj; omega)⟩⟩
end Go.Proofs.Ytkpadhjlopcejaa
