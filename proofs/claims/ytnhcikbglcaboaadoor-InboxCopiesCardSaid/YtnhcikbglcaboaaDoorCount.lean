/-
  How many IDs there are: the walk of count and of Len.
-/
import Derived.Test.YtnhcikbglcaboaaDoorOps
namespace Go.Proofs.YtnhcikbglcaboaaDoor
open Go.RowKit Go.Shelf
attribute [local go_sem] Oper.semAt_some
theorem below_keptK {B : Nat} (W : World) (l : Nat) (o o' : Obj) (hl : B ≤ l) (h : W.heap[l]? = some o) (_ : o.isCells = false) (_ : o.isWalk = false) : Below B W (W.putObj l o') := by
  have hg := grownBy_putObj' W l o'
  exact ⟨hg.os, hg.tape, hg.output, hg.size, fun k hk => by have := (Array.getElem?_eq_some_iff.1 h).1; exact hg.block k (by omega) (by simp; omega)⟩
theorem each_stops (n : Nat) (hn : 1 ≤ n) (Bs S : Nat) (ws : List Nat) (w : World) (n₀ : Nat) (hT : TabAt w) (hc : w.cell? ⟨Bs, 0, none⟩ = some (.pointer (some ⟨S, 0, none⟩))) (hs : SetAt w S ws) (hS : S < n₀) (h00 : 0 < n₀) :
    SeqStopsK Fence.wide n Tryd.prog 31 #[.pointer (some ⟨Bs, 0, none⟩)] (fun x : Nat => #[Value.int .i64 (x : Int)]) (Below n₀) (fun ys => ys = Ib.ids ws) (fun pre => pre <+: Ib.ids ws) (Ib.ids ws).length w :=
  fun l J Jx W hW hJ _ hY h0 => by
    have hB := cell_lt hc
    have hS' := hs.1.lt
    exact each1_in n hn l Bs S n₀ ws hS h00 J Jx hY (fun pre W' m hj => hJ pre W' _ none hj (grown_drewN W' m) (fun r e => by cases e)) W (hT.below hW hT.1)
      ((hW.cell (p := ⟨Bs, 0, none⟩) hB).trans hc) (hs.below hW hS') h0
theorem below_ownFrom (w : World) (B C : Nat) (hC : C ≤ B) : OwnFrom B (fun (_ : List Nat) W => Below C w W ∧ B ≤ W.heap.size) := fun s X Y row hs hg hr =>
  ⟨hs.1.trans ⟨hg.os, hg.tape, hg.output, hg.size, fun k hk => hg.block k (by have := hs.2; omega) (fun e => by have := (hr k e.symm).1; omega)⟩, Nat.le_trans hs.2 hg.size⟩
theorem blk_own (A : Nat) (f : List Nat → List Value) : Own (fun (pre : List Nat) W => Blk W A (f pre)) := fun s X Y row hs hg hr => by
  have hlt := hs.lt
  obtain ⟨t, h⟩ := hs
  refine ⟨t, (hg.block A hlt (fun e => ?_)).trans h⟩
  obtain ⟨o, ho, hc⟩ := hr A e.symm
  rw [h] at ho; cases ho; cases hc
set_option maxRecDepth 100000 in
set_option maxHeartbeats 1000000 in
theorem count_in (m : Nat) (hm : 3 ≤ m) (Bs S : Nat) (ws : List Nat) (w : World) (hT : TabAt w) (hc : w.cell? ⟨Bs, 0, none⟩ = some (.pointer (some ⟨S, 0, none⟩))) (hs : SetAt w S ws) :
    CallsIn Fence.wide m Tryd.prog 26 #[.func (.func 31) #[] #[.pointer (some ⟨Bs, 0, none⟩)]] w fun e w' => e = .returned (.int .i64 ((Ib.ids ws).length : Int)) ∧ Below w.heap.size w w' := by
  have h1 : 1 ≤ m := by omega
  have hlen := ids_length ws
  obtain ⟨F, hF⟩ : ∃ F : Fence, F = Fence.wide := ⟨_, rfl⟩
  have h26 : F.fn 26 := by rw [hF]; trivial
  have h31 : F.fn 31 := by rw [hF]; trivial
  have hro : F.round = none := by rw [hF]; rfl
  have hSS := hs.1.lt
  have hT0 := hT.1
  have hw0 : Below w.heap.size w (w.alloc (.cells #[.int .i64 0] 3)) := (Below.refl _ w).alloc (Nat.le_refl _) _
  have hst := each_stops (m - 1) (by omega) Bs S ws (w.alloc (.cells #[.int .i64 0] 3)) w.heap.size (hT.below hw0 hT0) ((hw0.cell (p := ⟨Bs, 0, none⟩) (cell_lt hc)).trans hc) (hs.below hw0 hSS) hSS hT0
  rw [← hF] at hst ⊢
  have HF := hid hF
  have HST := hid hst
  clear hF hst
  refine callsIn_of_wp_marks Tryd.func26 rfl h26 ?_ hro
  simp only [Tryd.ntmps26, List.size_toArray, List.length_cons, List.length_nil, Nat.reduceAdd, Nat.reduceSub, Array.replicate_succ, Array.replicate_zero, List.push_toArray, List.append_toArray, List.nil_append, List.cons_append]
  gi_wp2
  refine wpIn_rangeFunc_ownG hro h1 (gf := 31) (lb := #[.pointer (some ⟨Bs, 0, none⟩)]) rfl h31 (enters_of Tryd.func31 (by kernel_rfl) rfl)
    HST.out (fun h k => h.trans k) (fun W l o o' hl => below_keptK W l o o' (by simp at hl; omega)) (Below.refl _ _) (fun _ => rfl)
    (fun pre W => Blk W w.heap.size [.int .i64 (pre.length : Int)] ∧ (Below w.heap.size w W ∧ w.heap.size + 1 ≤ W.heap.size))
    (fun _ _ _ => False)
    (OwnFrom.and (Own.from (blk_own _ (fun _ => _)) _) (by have := below_ownFrom w (w.heap.size + 1) w.heap.size (by omega); simpa using this))
    (fun _ _ _ _ _ hs _ _ => hs)
    ⟨Blk.new w [.int .i64 0] 3, hw0, by simp⟩
    (fun x => { tmps := #[.func (.func 31) #[] #[.pointer (some ⟨Bs, 0, none⟩)], undef, .int .i64 0, .pointer (some ⟨w.heap.size, 0, none⟩), .func (.func 31) #[] #[.pointer (some ⟨Bs, 0, none⟩)], .int .i64 (x : Int), undef, undef, undef], defers := [] }) ?assign ?body ?done ?stop
  case assign =>
    intro l x W K hK
    gi_wp2
    simpa using hK
  case body =>
    rintro l pre x W ⟨hb1, hk⟩ hlen'
    have c0 := hb1.cell 0
    simp only [List.getElem?_cons_zero] at c0
    have f0 := hb1.frozen 0
    have hnb : (pre.length : Int) < 65536 := by omega
    have hnb0 : 0 ≤ (pre.length : Int) := by omega
    have HLEN := hid hlen
    clear hlen hlen'
    gi_wp2
    refine ⟨(KeepsOthers.setCell _ _ _).from _, ?_, ?_, ?_, ?_⟩
    · exact (Below.refl w.heap.size W).setCell (p := ⟨w.heap.size, 0, none⟩) (Nat.le_refl _) _
    · have := hb1.set 0 (.int .i64 ((pre.length : Int) + 1))
      rw [show ((pre ++ [x]).length : Int) = (pre.length : Int) + 1 by simp]
      exact this
    · exact hk.1.setCell (p := ⟨w.heap.size, 0, none⟩) (Nat.le_refl _) _
    · simpa [World.setCell] using hk.2
  case done =>
    rintro D ys W hD rfl ⟨hb1, hk⟩ hK
    have c0 := hb1.cell 0
    simp only [List.getElem?_cons_zero] at c0
    gi_wp2
    refine ⟨by simp, .inl ⟨_, _, rfl, run_takeDeferred hK, ?_⟩⟩
    exact ⟨_, results_tmp rfl _ _ _, rfl, hk.1.trans (below_keptK W D _ _ (by simp at hD; omega) hK rfl rfl)⟩
  case stop =>
    rintro D c pre W _ _ h _
    exact h.elim
theorem len_calls (A S : Nat) (most : Int) (ws : List Nat) (w : World) (h : InAt w A S most ws) (hT : TabAt w) : Calls Tryd.prog 14 #[.pointer (some ⟨A, 0, none⟩)] w fun e w' =>
    e = .returned (.int .i64 ((Ib.ids ws).length : Int)) ∧ Below w.heap.size w w' := by
  go_enter Tryd.func14, Tryd.ntmps14
  have c0 := h.1.cell 0
  simp only [List.getElem?_cons_zero] at c0
  have hb : Below w.heap.size w (w.alloc (.cells #[.pointer (some ⟨S, 0, none⟩)] 48)) := (Below.refl _ w).alloc (Nat.le_refl _) _
  have hc : (w.alloc (.cells #[.pointer (some ⟨S, 0, none⟩)] 48)).cell? ⟨w.heap.size, 0, none⟩ = some (.pointer (some ⟨S, 0, none⟩)) := (Blk.new w [.pointer (some ⟨S, 0, none⟩)] 48).cell 0
  have hcount := callsIn_wide.1 (count_in 3 (by decide) w.heap.size S ws _ (hT.below hb hT.1) hc (h.2.1.below hb h.2.1.1.lt))
  have HC := hid hcount
  clear hcount hc hT h
  go_wp2_with (first
    | (refine (none_full A S w c0).mono ?_; rintro e w' ⟨rfl, rfl⟩)
    | (refine (each_calls _ w).mono ?_; rintro e w' ⟨rfl, rfl⟩)
    | (refine HC.out.mono ?_; rintro e w' ⟨rfl, hB⟩))
  go_ret
  exact ⟨rfl, hb.trans (hB.mono (by simp))⟩
theorem len_nil (w : World) : Calls Tryd.prog 14 #[.pointer none] w fun e w' => e = .returned (.int .i64 0) ∧ w = w' := by
  go_enter Tryd.func14, Tryd.ntmps14
  go_wp2_with (refine (none_nil w).mono ?_; rintro e w' ⟨rfl, rfl⟩)
  go_ret
  exact ⟨rfl, rfl⟩
theorem len_hollow (A : Nat) (w : World) (hc : w.cell? ⟨A, 0, none⟩ = some (.pointer none)) : Calls Tryd.prog 14 #[.pointer (some ⟨A, 0, none⟩)] w fun e w' => e = .returned (.int .i64 0) ∧ w = w' := by
  go_enter Tryd.func14, Tryd.ntmps14
  go_wp2_with (refine (none_hollow A w hc).mono ?_; rintro e w' ⟨rfl, rfl⟩)
  go_ret
  exact ⟨rfl, rfl⟩
end Go.Proofs.YtnhcikbglcaboaaDoor
