/-
  The iterator over the IDs of a set: its contract.
-/
import Derived.RangeFuncNested
import Derived.RangeFuncBound
import Derived.RangeFuncCalls
import Derived.RangeFuncLeaves
import Derived.Shelf.Abstract
import Derived.Shelf.RegionOpen
import Derived.WalkKit
import Derived.OwnWalkIn
import Derived.TacticsInMore
import Derived.LoopNIn
import Derived.LoopIn
import Derived.WalkMore
import Derived.WalkSmall
import Derived.Sort.QuietIn
import Derived.Test.YtnhcikbglcaboaaDoorTz
import Derived.Test.YtnhcikbglcaboaaDoorScope
namespace Go.Proofs.YtnhcikbglcaboaaDoor
open Go.RowKit Go.Shelf
attribute [local go_sem] Oper.semAt_some
/-- the words of a set, in a block -/
def SetAt (w : World) (S : Nat) (ws : List Nat) : Prop := Blk w S (ws.map fun x : Nat => Value.int .u64 (x : Int)) ∧ ws.length = 1024 ∧ ∀ x ∈ ws, x < 18446744073709551616
theorem SetAt.below {w w' : World} {B S : Nat} {ws : List Nat} (h : SetAt w S ws) (hb : Below B w w') (hB : S < B) : SetAt w' S ws := ⟨h.1.below hb hB, h.2⟩
theorem SetAt.cell {w : World} {S : Nat} {ws : List Nat} (h : SetAt w S ws) (i : Nat) (hi : i < 1024) : ∃ x : Nat, ws.getD i 0 = x ∧ x < 18446744073709551616 ∧ w.cell? ⟨S, i, none⟩ = some (.int .u64 (x : Int)) := by
  obtain ⟨h1, h2, h3⟩ := h
  have hlt : i < ws.length := by omega
  refine ⟨ws[i], by rw [List.getD_eq_getElem?_getD, List.getElem?_eq_getElem hlt]; rfl, h3 _ (List.getElem_mem hlt), ?_⟩
  rw [h1.cell, List.getElem?_map, List.getElem?_eq_getElem hlt]; rfl
theorem ids_start (ws : List Nat) : Ib.ids ws = [] ++ Ib.idsFrom ws 0 (1024 - 0) := by
  rw [List.nil_append]; unfold Ib.ids; rfl
theorem ids_end (ws : List Nat) (k : Nat) (h : 1024 - k = 0) : Ib.idsFrom ws k (1024 - k) = [] := by
  rw [h]; simp [Ib.idsFrom]
theorem clear_eq (x : Nat) (h0 : 0 < x) (hx : x < 18446744073709551616) : bits .and .u64 (x : Int) ((x : Int) - 1) = ((x &&& (x - 1) : Nat) : Int) := by
  rw [show ((x : Int) - 1) = ((x - 1 : Nat) : Int) from by omega]
  exact and_u64 x (x - 1) hx (by omega)
theorem clear_lt (x : Nat) (h0 : 0 < x) : x &&& (x - 1) < x := Nat.lt_of_le_of_lt Nat.and_le_right (by omega)
set_option maxRecDepth 100000 in
theorem each1_in (n : Nat) (hn : 1 ≤ n) (l Bs S n₀ : Nat) (ws : List Nat) (hS : S < n₀) (h00 : 0 < n₀) (J Jx : List Nat → World → Prop)
    (hY : ∀ pre (x : Nat) W, J pre W → pre.length < (Ib.ids ws).length → YieldAt Fence.wide (n - 1) Tryd.prog l #[.int .i64 (x : Int)] W fun e W' =>
      (e = .returned (.bool true) ∧ J (pre ++ [x]) W' ∧ Below n₀ W W') ∨ (e = .returned (.bool false) ∧ Jx (pre ++ [x]) W'))
    (hJd : ∀ pre W m, J pre W → J pre (World.drewN W m)) (W : World) (hT : TabAt W) (hBs : W.cell? ⟨Bs, 0, none⟩ = some (.pointer (some ⟨S, 0, none⟩))) (hc : SetAt W S ws) (h0 : J [] W) :
    CallsIn Fence.wide n Tryd.prog 31 #[.func (.yield l) #[] #[], .pointer (some ⟨Bs, 0, none⟩)] W fun e W' => (∃ v, e = .returned v) ∧
      ((∃ ys, ys = Ib.ids ws ∧ J ys W') ∨ (∃ pre, pre <+: Ib.ids ws ∧ Jx pre W')) := by
  refine callsIn_of_wp Tryd.func31 rfl trivial ?_ rfl
  simp only [Tryd.ntmps31, List.size_toArray, List.length_cons, List.length_nil, Nat.reduceAdd, Nat.reduceSub, Array.replicate_succ, Array.replicate_zero, List.push_toArray, List.append_toArray, List.nil_append, List.cons_append]
  gi_wp2
  refine wpIn_scope_straight ?_
  gi_wp2
  refine wpIn_label ?_
  gi_wp2
  gi_loopw [3, 4, 6] (fun _ _ i wr => ∃ (k : Nat) (pre : List Nat), k ≤ 1024 ∧ i = .int .i64 k ∧ J pre wr ∧ Below n₀ W wr ∧ Hid (Ib.ids ws = pre ++ Ib.idsFrom ws k (1024 - k)))
    (fun _ _ i _ => 1024 - (intOf i).toNat)
  case atStart => exact ⟨0, [], Nat.zero_le _, rfl, h0, Below.refl _ _, ids_start ws⟩
  case round =>
    obtain ⟨k, pre, hk, rfl, hJs, hnx, HP⟩ := hrel
    by_cases hlt : k < 1024
    · obtain ⟨x0, hx0, hxl, hcl⟩ := (hc.below hnx hS).cell k hlt
      have hPx : Ib.ids ws = pre ++ ((Ib.bitsOf x0).map (64 * k + ·) ++ Ib.idsFrom ws (k + 1) (1024 - (k + 1))) := by
        rw [HP.out, show 1024 - k = (1024 - (k + 1)) + 1 from by omega, Ib.idsFrom_succ, hx0]
      have HPX := hid hPx
      have i1 : (k : Int) < 1024 := by omega
      clear hPx hx0 HP
      gi_wp2
      gi_quiet (fail)
      have hB3 := below_drewN hnx nq
      have hJ3 := hJd _ _ nq hJs
      generalize World.drewN wr nq = w3 at *
      clear hJs hnx hcl
      gi_wp2
      gi_loopw [4] (fun v wr2 => ∃ (x : Nat) (pre2 : List Nat), x < 18446744073709551616 ∧ v = .int .u64 x ∧ J pre2 wr2 ∧ Below n₀ W wr2 ∧ Hid (Ib.ids ws = pre2 ++ ((Ib.bitsOf x).map (64 * k + ·) ++ Ib.idsFrom ws (k + 1) (1024 - (k + 1)))))
        (fun v _ => (intOf v).toNat)
      case atStart => exact ⟨x0, pre, hxl, rfl, hJ3, hB3, HPX⟩
      case round =>
        obtain ⟨x, pre2, hx, rfl, hJ2, hb2, HP2⟩ := hrel
        by_cases h0x : 0 < x
        · have hne : ((x : Int) != 0) = true := by simp; omega
          obtain ⟨t, m, hxe⟩ := Ib.low_exists h0x
          have htz := tz_any t m wr (hT.below hb2 h00) (by rw [← hxe]; exact hx)
          have hbl := Ib.bitsOf_low (t := t) (m := m) (by rw [← hxe]; exact hx)
          rw [← hxe] at htz hbl
          obtain ⟨ht, hbl⟩ := hbl
          have hpy : Ib.ids ws = (pre2 ++ [64 * k + t]) ++ ((Ib.bitsOf (x &&& (x - 1))).map (64 * k + ·) ++ Ib.idsFrom ws (k + 1) (1024 - (k + 1))) := by
            rw [HP2.out, hbl]; simp
          have hlen : pre2.length < (Ib.ids ws).length := by rw [hpy]; simp
          obtain ⟨fn, tmps, assign, body, hy, hR⟩ := hY pre2 (64 * k + t) wr hJ2 hlen
          simp only [Int.natCast_add, Int.natCast_mul, Int.cast_ofNat_Int] at hy
          have x1 := clear_eq x h0x hx
          have hcl := clear_lt x h0x
          have HTZ := hid htz
          have HPY := hid hpy
          clear htz hpy hxe hbl HP2 HPX hlen hY hJ2
          gi_wp2_with (refine ⟨trivial, ?_⟩; gi_at_call 32; refine (callsIn_wide.2 HTZ.out).mono ?_; rintro e w4 ⟨rfl, rfl⟩)
          refine hR.mono ?_
          rintro e W3 (⟨rfl, hJ3', hk3⟩ | ⟨rfl, hJx3⟩)
          · gi_wp2
            go_roundw
            case rel => exact ⟨x &&& (x - 1), pre2 ++ [64 * k + t], by omega, rfl, hJ3', hb2.trans hk3, HPY⟩
            case measure => simp [intOf]; omega
          · gi_wp2
            rw [Exit.noGoto_normal]
            go_end0
            exact ⟨⟨_, rfl⟩, .inr ⟨_, ⟨_, HPY.out.symm⟩, hJx3⟩⟩
        · obtain rfl : x = 0 := by omega
          rw [Ib.bitsOf_zero, List.map_nil, List.nil_append] at HP2
          gi_wp2
          go_roundw
          case rel => exact ⟨k + 1, pre2, by omega, by simp, hJ2, hb2, HP2⟩
          case measure => simp [intOf]; omega
    · have hP := HP.out
      rw [ids_end ws k (by omega), List.append_nil] at hP
      have HP2 := hid hP
      clear hP HP
      gi_wp2
      rw [Exit.noGoto_normal]
      go_end0
      exact ⟨⟨_, rfl⟩, .inl ⟨_, HP2.out.symm, hJs⟩⟩
end Go.Proofs.YtnhcikbglcaboaaDoor
