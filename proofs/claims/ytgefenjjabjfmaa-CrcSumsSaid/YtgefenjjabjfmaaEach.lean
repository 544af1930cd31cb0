/-
  The iterator over the bytes of parts: its contract.
-/
import Derived.RangeFuncNested
import Derived.RangeFuncBound
import Derived.RangeFuncCalls
import Derived.RangeFuncLeaves
import Derived.Shelf.Abstract
import Derived.Shelf.RegionOpen
import Derived.WalkKit
import Derived.OwnWalkIn
import Derived.TacticsInMore
import Derived.LoopNIn
import Derived.LoopIn
import Derived.Test.YtgefenjjabjfmaaJoin
namespace Go.Proofs.Ytgefenjjabjfmaa
open Go.RowKit Go.Shelf
attribute [local go_sem] Oper.semAt_some
/-- the blocks of which 'ok' speaks lie as they lay -/
structure Kept (ok : Nat → Prop) (w w' : World) : Prop where
  os : w'.os = w.os
  tape : w'.tape = w.tape
  output : w'.output = w.output
  size : w.heap.size ≤ w'.heap.size
  block : ∀ k, ok k → w'.heap[k]? = w.heap[k]?
theorem Kept.refl (ok : Nat → Prop) (w : World) : Kept ok w w := ⟨rfl, rfl, rfl, Nat.le_refl _, fun _ _ => rfl⟩
theorem Kept.trans {ok : Nat → Prop} {a b c : World} (h : Kept ok a b) (k : Kept ok b c) : Kept ok a c :=
  ⟨k.os.trans h.os, k.tape.trans h.tape, k.output.trans h.output, Nat.le_trans h.size k.size, fun i hi => (k.block i hi).trans (h.block i hi)⟩
theorem Kept.of_below {ok : Nat → Prop} {B : Nat} {w w' : World} (h : Below B w w') (ho : ∀ k, ok k → k < B) : Kept ok w w' :=
  ⟨h.os, h.tape, h.output, h.size, fun k hk => h.block k (ho k hk)⟩
theorem Kept.cell {ok : Nat → Prop} {w w' : World} (h : Kept ok w w') {p : Addr} (hp : ok p.block) : w'.cell? p = w.cell? p := World.cell?_of_block (w := w) (h.block p.block hp)
theorem Kept.setCell {ok : Nat → Prop} {a w : World} (h : Kept ok a w) {p : Addr} (hp : ¬ ok p.block) (u : Value) : Kept ok a (w.setCell p u) :=
  h.trans ⟨rfl, rfl, rfl, by simp [World.setCell], fun k hk => Below.heap_setCell _ _ _ _ (fun e => hp (e ▸ hk))⟩
theorem keptK_b {ok : Nat → Prop} {w : World} (hn : ∀ k, ok k → k < w.heap.size) (W : World) (l : Nat) (o o' : Obj) (hl : w.heap.size ≤ l) (h : W.heap[l]? = some o) (_ : o.isCells = false) (_ : o.isWalk = false) : Kept ok W (W.putObj l o') := by
  have hg := grownBy_putObj' W l o'
  exact ⟨hg.os, hg.tape, hg.output, hg.size, fun k hk => by have := hn k hk; have := (Array.getElem?_eq_some_iff.1 h).1; exact hg.block k (by omega) (by simp; omega)⟩
/-- bytes of a slice, in a block of which 'ok' speaks -/
def BytesIn (ok : Nat → Prop) (w : World) (a : Option Addr) (l : List UInt8) : Prop :=
  ∀ i (h : i < l.length), ∃ b off, a = some ⟨b, off, none⟩ ∧ ok b ∧ w.cell? ⟨b, off + i, none⟩ = some (.int .u8 (l[i].toNat : Int))
theorem BytesIn.kept {ok : Nat → Prop} {w w' : World} {a : Option Addr} {l : List UInt8} (h : BytesIn ok w a l) (hk : Kept ok w w') : BytesIn ok w' a l := by
  intro i hi
  obtain ⟨b, off, e, ho, hc⟩ := h i hi
  exact ⟨b, off, e, ho, by rw [hk.cell (p := ⟨b, off + i, none⟩) ho]; exact hc⟩
/-- a slice of slices of bytes -/
def PartsIn (ok : Nat → Prop) (w : World) (a : Option Addr) (ls : List (List UInt8)) : Prop :=
  ∀ i (h : i < ls.length), ∃ b off c cap, a = some ⟨b, off, none⟩ ∧ ok b ∧ w.cell? ⟨b, off + i, none⟩ = some (.slice c ls[i].length cap) ∧ BytesIn ok w c ls[i] ∧ ls[i].length ≤ maxLen
theorem PartsIn.kept {ok : Nat → Prop} {w w' : World} {a : Option Addr} {ls : List (List UInt8)} (h : PartsIn ok w a ls) (hk : Kept ok w w') : PartsIn ok w' a ls := by
  intro i hi
  obtain ⟨b, off, c, cap, e, ho, hc, hb, hl⟩ := h i hi
  exact ⟨b, off, c, cap, e, ho, by rw [hk.cell (p := ⟨b, off + i, none⟩) ho]; exact hc, hb.kept hk, hl⟩
/-- what has come when k parts and j bytes of the next one are over -/
def came (ls : List (List UInt8)) (k j : Nat) : List UInt8 := (ls.take k).flatten ++ (ls[k]?.getD []).take j
theorem came_zero (ls : List (List UInt8)) (k : Nat) : came ls k 0 = (ls.take k).flatten := by simp [came]
theorem came_succ (ls : List (List UInt8)) (k j : Nat) (h : k < ls.length) (hj : j < ls[k].length) : came ls k (j + 1) = came ls k j ++ [ls[k][j]] := by
  simp only [came, List.getElem?_eq_getElem h, Option.getD_some, take_snoc _ _ hj, List.append_assoc]
theorem came_over (ls : List (List UInt8)) (k : Nat) (h : k < ls.length) : came ls k ls[k].length = came ls (k + 1) 0 := by
  rw [came_zero, take_snoc _ _ h, List.flatten_append]
  simp [came, List.getElem?_eq_getElem h]
theorem came_prefix (ls : List (List UInt8)) (k j : Nat) : came ls k j <+: ls.flatten := by
  by_cases h : k < ls.length
  · have e : ls.flatten = (ls.take k).flatten ++ (ls[k] ++ (ls.drop (k + 1)).flatten) := by
      conv => lhs; rw [← List.take_append_drop k ls, List.flatten_append, List.drop_eq_getElem_cons h, List.flatten_cons]
    rw [e, came, List.getElem?_eq_getElem h]
    exact (List.prefix_append_right_inj _).2 ((List.take_prefix _ _).trans (List.prefix_append _ _))
  · simp [came, List.take_of_length_le (Nat.not_lt.1 h), List.getElem?_eq_none (Nat.not_lt.1 h)]
theorem came_length (ls : List (List UInt8)) (k j : Nat) (h : k < ls.length) (hj : j < ls[k].length) : (came ls k j).length < ls.flatten.length := by
  have := (came_prefix ls k (j + 1)).length_le
  rw [came_succ ls k j h hj] at this
  simp at this ⊢
  omega
set_option maxRecDepth 100000 in
theorem each1_in (F : Fence) (n : Nat) (h7 : F.fn 27) (hro : F.round = none) (hn : 1 ≤ n) (l Bs cap : Nat) (a : Option Addr) (ls : List (List UInt8)) (ok : Nat → Prop) (hreach : ls.length ≤ maxLen) (J Jx : List UInt8 → World → Prop)
    (hY : ∀ pre (x : UInt8) W, J pre W → pre.length < ls.flatten.length → YieldAt F (n - 1) Try.prog l #[.int .u8 (x.toNat : Int)] W fun e W' =>
      (e = .returned (.bool true) ∧ J (pre ++ [x]) W' ∧ Kept ok W W') ∨ (e = .returned (.bool false) ∧ Jx (pre ++ [x]) W'))
    (W : World) (hBs : W.cell? ⟨Bs, 0, none⟩ = some (.slice a ls.length cap)) (hc : PartsIn ok W a ls) (h0 : J [] W) :
    CallsIn F n Try.prog 27 #[.func (.yield l) #[] #[], .pointer (some ⟨Bs, 0, none⟩)] W fun e W' => (∃ v, e = .returned v) ∧
      ((∃ ys, ys = ls.flatten ∧ J ys W') ∨ (∃ pre, pre <+: ls.flatten ∧ Jx pre W')) := by
  unfold maxLen at hreach
  refine callsIn_of_wp Try.func27 rfl h7 ?_ hro
  simp only [Try.ntmps27, List.size_toArray, List.length_cons, List.length_nil, Nat.reduceAdd, Nat.reduceSub, Array.replicate_succ, Array.replicate_zero, List.push_toArray, List.append_toArray, List.nil_append, List.cons_append]
  gi_wp2
  gi_loopw [4, 6, 9] (fun _ _ i wr => ∃ k : Nat, k ≤ ls.length ∧ i = .int .i64 k ∧ J (came ls k 0) wr ∧ Kept ok W wr)
    (fun _ _ i _ => ls.length - (intOf i).toNat)
  case atStart => exact ⟨0, Nat.zero_le _, rfl, by rw [came_zero]; exact h0, Kept.refl _ _⟩
  case round =>
    obtain ⟨k, hk, rfl, hJs, hnx⟩ := hrel
    by_cases hlt : k < ls.length
    · obtain ⟨b, off, c, cap', rfl, ho, hcl, hby, hml⟩ := (hc.kept hnx) k hlt
      have HC := hid hc
      have HBY := hid hby
      have HNX := hid hnx
      have hov := came_over ls k hlt
      have HOV := hid hov
      clear hc hby hnx hov
      unfold maxLen at hml
      gi_wp2
      gi_loopw [6, 15] (fun _ i wr2 => ∃ j : Nat, j ≤ ls[k].length ∧ i = .int .i64 j ∧ J (came ls k j) wr2 ∧ Kept ok wr wr2)
        (fun _ i _ => ls[k].length - (intOf i).toNat)
      case atStart => exact ⟨0, Nat.zero_le _, rfl, hJs, Kept.refl _ _⟩
      case round =>
        obtain ⟨j, hj, rfl, hJs2, hnx2⟩ := hrel
        by_cases hlt2 : j < ls[k].length
        · obtain ⟨b2, off2, rfl, ho2, hcl2⟩ := (HBY.out.kept hnx2) j hlt2
          obtain ⟨fn, tmps, assign, body, hy, hR⟩ := hY _ ls[k][j] _ hJs2 (came_length ls k j hlt hlt2)
          have HCS := hid (came_succ ls k j hlt hlt2)
          have HNX2 := hid hnx2
          clear hY hnx2
          gi_wp2
          refine hR.mono ?_
          rintro e W3 (⟨rfl, hJ3, hk3⟩ | ⟨rfl, hJx3⟩)
          · gi_wp2
            go_roundw
            case rel => exact ⟨j + 1, by omega, by simp, by rw [HCS.out]; exact hJ3, HNX2.out.trans hk3⟩
            case measure => simp [intOf]; omega
          · gi_wp2
            refine bodyPost_ret (results_none rfl _ _ _) rfl ?_
            exact ⟨⟨_, rfl⟩, .inr ⟨_, by rw [← HCS.out]; exact came_prefix _ _ _, hJx3⟩⟩
        · have hjj : j = ls[k].length := by omega
          rw [hjj, HOV.out] at hJs2
          have HJ := hid hjj
          clear hjj hY
          gi_wp2
          go_roundw
          case rel => exact ⟨k + 1, by omega, by simp, hJs2, HNX.out.trans hnx2⟩
          case measure => simp [intOf]; omega
    · obtain rfl : k = ls.length := by omega
      gi_wp2
      go_end0
      exact ⟨⟨_, rfl⟩, .inl ⟨_, by rw [came_zero, List.take_length], hJs⟩⟩

end Go.Proofs.Ytgefenjjabjfmaa
