/-
  The walks of the small functions of wire: none, wide, laid, Clone.
-/
import Derived.Test.YtkpadhjlopcejaaBytes
import Derived.Test.YtkpadhjlopcejaaPlain
namespace Go.Proofs.Ytkpadhjlopcejaa
open Go.RowKit
theorem shr_byte (n i : Nat) : (n : Int) / 2 ^ (8 * i) % 256 = ((UInt8.ofNat (n / 256 ^ i)).toNat : Int) := by
  rw [show (2 : Int) ^ (8 * i) = ((256 ^ i : Nat) : Int) from by rw [Int.pow_mul]; simp, UInt8.toNat_ofNat']
  rfl
theorem bytes_one (w : World) (x : UInt8) (z : Int) (t : TypeId) (hz : z = (x.toNat : Int)) : BytesIn (fun _ => True) (w.alloc (.cells #[.int .u8 z] t)) (some ⟨w.heap.size, 0, none⟩) [x] := by
  intro i hi
  have : i = 0 := by simpa using hi
  subst this
  subst hz
  exact ⟨_, 0, rfl, trivial, (Blk.new w [.int .u8 (x.toNat : Int)] t).cell 0⟩
theorem wide_calls (k : Int) (w : World) : Calls Try.prog 49 #[.int .i64 k] w fun e w' => e = .returned (.bool (decide (1 ≤ k ∧ k ≤ 8))) ∧ w = w' := by
  go_enter Try.func49, Try.ntmps49
  by_cases h1 : 1 ≤ k
  · have e : decide (1 ≤ k ∧ k ≤ 8) = decide (k ≤ 8) := by simp [h1]
    rw [e]
    go_wp2
    go_ret
    exact ⟨rfl, rfl⟩
  · have e : decide (1 ≤ k ∧ k ≤ 8) = false := by simp [h1]
    rw [e]
    go_wp2
    go_ret
    exact ⟨rfl, rfl⟩
theorem wnone_nil (w : World) : Calls Try.prog 48 #[.pointer none] w fun e w' => e = .returned (.bool true) ∧ w = w' := by
  go_enter Try.func48, Try.ntmps48
  go_wp2
  go_ret
  exact ⟨rfl, rfl⟩
theorem wnone_at (P : Nat) (b : Bool) (w : World) (hc : w.cell? ⟨P, 1, none⟩ = some (.bool b)) : Calls Try.prog 48 #[.pointer (some ⟨P, 0, none⟩)] w fun e w' => e = .returned (.bool (!b)) ∧ w = w' := by
  go_enter Try.func48, Try.ntmps48
  go_wp2
  go_ret
  exact ⟨rfl, rfl⟩
theorem rnone_nil (w : World) : Calls Try.prog 53 #[.pointer none] w fun e w' => e = .returned (.bool true) ∧ w = w' := by
  go_enter Try.func53, Try.ntmps53
  go_wp2
  go_ret
  exact ⟨rfl, rfl⟩
theorem rnone_at (P : Nat) (b : Bool) (w : World) (hc : w.cell? ⟨P, 1, none⟩ = some (.bool b)) : Calls Try.prog 53 #[.pointer (some ⟨P, 0, none⟩)] w fun e w' => e = .returned (.bool (!b)) ∧ w = w' := by
  go_enter Try.func53, Try.ntmps53
  go_wp2
  go_ret
  exact ⟨rfl, rfl⟩
set_option maxRecDepth 10000 in
set_option maxHeartbeats 400000 in
theorem laid_calls (n k : Nat) (w : World) (hn : n < 18446744073709551616) (hk : k ≤ 8) : Calls Try.prog 51 #[.slice none 0 0, .int .u64 (n : Int), .int .i64 (k : Int)] w fun e w' =>
    ∃ v, e = .returned v ∧ OwnB w' w.heap.size v (be n k) ∧ Below w.heap.size w w' := by
  have HN := hid hn
  clear hn
  go_enter Try.func51, Try.ntmps51
  go_wp2_with fail
  go_loopw [0, 7] (fun v i wr => ∃ j : Nat, j ≤ k ∧ i = .int .i64 ((j : Int) - 1) ∧ OwnB wr w.heap.size v ((be n k).take (k - j)) ∧ Below w.heap.size w wr) (fun _ i _ => (intOf i + 1).toNat)
  case atStart => exact ⟨k, Nat.le_refl _, rfl, by rw [Nat.sub_self, List.take_zero]; exact OwnB.nil _ _, Below.refl _ _⟩
  case round =>
    obtain ⟨j, hj, rfl, hown, hbel⟩ := hrel
    by_cases h0 : j = 0
    · subst h0
      have i0 : ¬ ((0 : Int) ≤ ((0 : Nat) : Int) - 1) := by omega
      rw [Nat.sub_zero, List.take_of_length_le (by rw [be_length]; exact Nat.le_refl _)] at hown
      go_wp2_with fail
      go_ret
      exact ⟨_, rfl, hown, hbel⟩
    · obtain ⟨i, rfl⟩ : ∃ i, j = i + 1 := ⟨j - 1, by omega⟩
      have hbt := be_take n k i (by omega)
      have HBT := hid hbt
      have ei : ((i + 1 : Nat) : Int) - 1 = (i : Int) := by omega
      rw [ei]
      have i0 : (0 : Int) ≤ (i : Int) := by omega
      have i1 : (i : Int) ≤ 7 := by omega
      have HO := hid hown
      have HB := hid hbel
      clear hbt ei h0 hown hbel
      have HSB := hid (shr_byte n i)
      have hlen : ((be n k).take (k - (i + 1))).length ≤ 8 := by rw [List.length_take, be_length]; omega
      have HL := hid hlen
      generalize UInt8.ofNat (n / 256 ^ i) = x at HBT HSB
      have HJ := hid hj
      clear hlen hj hk
      go_wp2_with (at_builtin; refine wpList_appendB rfl (.tmp 14) (.tmp 20) rfl w.heap.size _ _ rfl (HO.out.below ((Below.refl _ _).alloc (Nat.le_refl _) _)) (some ⟨wr.heap.size, 0, none⟩) 1 1 [x] rfl rfl (fun h => by cases h) (fun _ => True) (bytes_one wr x _ 5 HSB.out) (by have := HL.out; omega) (Nat.le_trans HB.out.size (by simp)) ?_; intro v1 w1 hv1 hg1 _; have hb1 := grown_belowB hg1 (HO.out.below ((Below.refl _ _).alloc (Nat.le_refl _) _)) (Nat.le_trans HB.out.size (by simp)); clear hg1)
      rw [← HBT.out] at hv1
      have hb2 : Below w.heap.size w w1 := (HB.out.trans ((Below.refl _ wr).alloc HB.out.size _)).trans hb1
      have HV := hid hv1
      have HB2 := hid hb2
      clear hv1 hb1 hb2
      go_wp2_with fail
      go_roundw
      case rel => exact ⟨i, by have := HJ.out; omega, rfl, HV.out, HB2.out⟩
      case measure => simp [intOf]
theorem heap_alloc_new' (w : World) (t : TypeId) : (w.alloc (.cells #[] t)).heap[w.heap.size]? = some (.cells #[] t (0, 0)) := heap_alloc_new w _
theorem ownB_empty (w : World) (base : Nat) (h : base ≤ w.heap.size) : OwnB (w.alloc (.cells #[] 5)) base (.slice (some ⟨w.heap.size, 0, none⟩) 0 0) [] :=
  ⟨rfl, .inr ⟨w.heap.size, 0, #[], rfl, h, heap_alloc_new' w 5, Nat.le_refl _, Nat.zero_le _, rfl, rfl⟩⟩
set_option maxRecDepth 10000 in
theorem clone_calls (v : Value) (l : List UInt8) (ok : Nat → Prop) (w : World) (h : PartB ok w v l) (hok : ∀ k, ok k → k < w.heap.size) (hl : l.length ≤ 1099511627776) : Calls Try.prog 52 #[v] w fun e w' =>
    ∃ v', e = .returned v' ∧ OwnB w' w.heap.size v' l ∧ Below w.heap.size w w' := by
  obtain ⟨a, cap, rfl, h1, h2, h3, h4⟩ := h
  cases a with
  | none =>
    have hc := h4 rfl
    subst hc
    have hn : l = [] := List.eq_nil_of_length_eq_zero (by omega)
    subst hn
    have hnil := fun w : World => Lib.run_eql_slice_nil (P := Try.prog) w 36 5 none 0 0 0 0 Try.underlying36
    go_enter Try.func52, Try.ntmps52
    go_wp2_with fail
    go_ret
    exact ⟨_, rfl, OwnB.nil _ _, Below.refl _ _⟩
  | some a =>
    generalize hL : l.length = L at *
    have HL := hid hL
    clear hL
    have hb0 : Below w.heap.size w (w.alloc (.cells #[] 5)) := (Below.refl _ _).alloc (Nat.le_refl _) _
    have H1 := hid (h1.kept (Kept.of_below hb0 hok))
    have HB0 := hid hb0
    clear h1 hb0 h4
    have hnil := fun w : World => Lib.run_eql_slice_nil (P := Try.prog) w 36 5 (some a) L cap 0 0 Try.underlying36
    go_enter Try.func52, Try.ntmps52
    go_wp2_with (at_builtin; refine wpList_appendB rfl (.tmp 5) (.tmp 6) rfl w.heap.size _ [] rfl (ownB_empty w w.heap.size (Nat.le_refl _)) (some a) L cap l HL.out rfl (fun h => by cases h) ok H1.out (by simp; omega) (by simp) ?_; intro v1 w1 hv1 hg1 _; have hb1 := grown_belowB hg1 (ownB_empty w w.heap.size (Nat.le_refl _)) (by simp); clear hg1)
    rw [List.nil_append] at hv1
    have HV := hid hv1
    have HB1 := hid hb1
    clear hv1 hb1
    go_wp2_with fail
    go_ret
    exact ⟨_, rfl, HV.out, HB0.out.trans HB1.out⟩
end Go.Proofs.Ytkpadhjlopcejaa
