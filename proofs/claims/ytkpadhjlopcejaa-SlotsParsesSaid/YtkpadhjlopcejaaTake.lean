/-
  A reader: its state; the walks of NewReader, take, Left, Rest.
-/
import Derived.Test.YtkpadhjlopcejaaWText
import Derived.StillTailTactics
namespace Go.Proofs.Ytkpadhjlopcejaa
open Go.RowKit
/-- a reader at block R, with the bytes l left, in blocks of which 'ok' speaks -/
def RdAt (ok : Nat → Prop) (w : World) (R : Nat) (l : List UInt8) : Prop := ∃ v, Blk w R [v, .bool true] ∧ PartB ok w v l ∧ l.length ≤ 1099511627776 ∧ ∀ k, ok k → k < w.heap.size ∧ k ≠ R
theorem RdAt.lt {ok : Nat → Prop} {w : World} {R : Nat} {l : List UInt8} (h : RdAt ok w R l) : R < w.heap.size := by
  obtain ⟨v, h, _⟩ := h
  exact h.lt
theorem RdAt.kept {ok ok' : Nat → Prop} {w w' : World} {R : Nat} {l : List UInt8} (h : RdAt ok w R l) (hk : Kept ok' w w') (hR : ok' R) (hv : ∀ k, ok k → ok' k) : RdAt ok w' R l := by
  obtain ⟨v, h1, h2, h3, h4⟩ := h
  exact ⟨v, h1.kept hk hR, h2.kept (hk.shrink hv), h3, fun k hk' => ⟨Nat.lt_of_lt_of_le (h4 k hk').1 hk.size, (h4 k hk').2⟩⟩
theorem RdAt.grows {ok : Nat → Prop} {w w' : World} {R : Nat} {l : List UInt8} (h : RdAt ok w R l) (hb : Below w.heap.size w w') : RdAt ok w' R l := by
  have hR := h.lt
  obtain ⟨v, h1, h2, h3, h4⟩ := h
  exact RdAt.kept ⟨v, h1, h2, h3, h4⟩ (Kept.of_below hb (ok := fun k => k < w.heap.size) fun _ h => h) hR fun k hk => (h4 k hk).1
theorem RdAt.len {ok : Nat → Prop} {w : World} {R : Nat} {l : List UInt8} (h : RdAt ok w R l) : l.length ≤ 1099511627776 := by
  obtain ⟨v, _, _, h3, _⟩ := h
  exact h3
theorem newreader_calls (vb : Value) (l : List UInt8) (ok : Nat → Prop) (w : World) (h : PartB ok w vb l) (hok : ∀ k, ok k → k < w.heap.size) (hl : l.length ≤ 1099511627776) : Calls Try.prog 22 #[vb] w fun e w' =>
    ∃ R, e = .returned (.pointer (some ⟨R, 0, none⟩)) ∧ RdAt (fun k => w.heap.size ≤ k ∧ k < R) w' R l ∧ Below w.heap.size w w' ∧ w.heap.size ≤ R := by
  have HC := hid (clone_calls vb l ok w h hok hl)
  obtain ⟨a, c, rfl, _⟩ := h
  generalize l.length = N at HC ⊢
  go_enter Try.func22, Try.ntmps22
  go_wp2_with fail
  refine HC.out.mono ?_
  rintro e w1 ⟨v1, rfl, h1, h2⟩
  have H1 := hid h1
  have H2 := hid h2
  obtain ⟨a1, n1, c1, rfl⟩ : ∃ a n c, v1 = .slice a n c := by obtain ⟨a, c, e, _⟩ := h1.part; exact ⟨a, _, c, e⟩
  clear h1 h2
  go_wp2_with fail
  go_ret
  have hb : Below w1.heap.size w1 (w1.alloc (.cells #[.slice a1 n1 c1, .bool true] 58)) := (Below.refl _ _).alloc (Nat.le_refl _) _
  refine ⟨w1.heap.size, rfl, ⟨_, Blk.new w1 [.slice a1 n1 c1, .bool true] 58, ?_, hl, fun k hk => ⟨by have := hk.2; simp; omega, by have := hk.2; omega⟩⟩, H2.out.trans (hb.mono H2.out.size), H2.out.size⟩
  exact (H1.out.part.kept (Kept.of_below hb fun k hk => (H1.out.block hk).2)).mono fun k hk => H1.out.block hk
theorem left_calls (ok : Nat → Prop) (R : Nat) (l : List UInt8) (w : World) (h : RdAt ok w R l) : Calls Try.prog 27 #[.pointer (some ⟨R, 0, none⟩)] w fun e w' => e = .returned (.int .i64 (l.length : Int)) ∧ w = w' := by
  obtain ⟨v, h1, ⟨a, cap, rfl, _⟩, _⟩ := h
  have c0 := h1.cell 0
  have c1 := h1.cell 1
  simp only [List.getElem?_cons_zero, List.getElem?_cons_succ] at c0 c1
  generalize l.length = N at c0 ⊢
  clear h1
  go_enter Try.func27, Try.ntmps27
  go_wp2_with fail
  refine (rnone_at R true _ c1).mono ?_
  rintro e w' ⟨rfl, rfl⟩
  go_wp2_with fail
  go_ret
  exact ⟨rfl, rfl⟩
theorem rest_calls (ok : Nat → Prop) (R : Nat) (l : List UInt8) (w : World) (h : RdAt ok w R l) : Calls Try.prog 32 #[.pointer (some ⟨R, 0, none⟩)] w fun e w' => ∃ v', e = .returned v' ∧ OwnB w' w.heap.size v' l ∧ Below w.heap.size w w' := by
  obtain ⟨v, h1, h2, h3, h4⟩ := h
  have c0 := h1.cell 0
  have c1 := h1.cell 1
  simp only [List.getElem?_cons_zero, List.getElem?_cons_succ] at c0 c1
  have HC := hid (clone_calls v l ok w h2 (fun k hk => (h4 k hk).1) h3)
  clear h1 h2 h3 h4
  go_enter Try.func32, Try.ntmps32
  go_wp2_with fail
  refine (rnone_at R true _ c1).mono ?_
  rintro e w' ⟨rfl, rfl⟩
  go_wp2_with fail
  refine HC.out.mono ?_
  rintro e w' ⟨v', rfl, h1, h2⟩
  have H1 := hid h1
  have H2 := hid h2
  clear h1 h2
  go_wp2_with fail
  go_ret
  exact ⟨_, rfl, H1.out, H2.out⟩
theorem left_none (p : Option Addr) (w : World) (hn : Calls Try.prog 53 #[.pointer p] w fun e w' => e = .returned (.bool true) ∧ w = w') : Calls Try.prog 27 #[.pointer p] w fun e w' => e = .returned (.int .i64 0) ∧ w = w' := by
  have HN := hid hn
  clear hn
  go_enter Try.func27, Try.ntmps27
  go_wp2_with fail
  refine HN.out.mono ?_
  rintro e w' ⟨rfl, rfl⟩
  go_wp2_with fail
  go_ret
  exact ⟨rfl, rfl⟩
theorem rest_none (p : Option Addr) (w : World) (hn : Calls Try.prog 53 #[.pointer p] w fun e w' => e = .returned (.bool true) ∧ w = w') : Calls Try.prog 32 #[.pointer p] w fun e w' => e = .returned (.slice none 0 0) ∧ w = w' := by
  have HN := hid hn
  clear hn
  go_enter Try.func32, Try.ntmps32
  go_wp2_with fail
  refine HN.out.mono ?_
  rintro e w' ⟨rfl, rfl⟩
  go_wp2_with fail
  go_ret
  exact ⟨rfl, rfl⟩
/-- what taking does -/
def TakeEnd (ok : Nat → Prop) (R : Nat) (l : List UInt8) (n : Nat) (w : World) (e : Ending) (w' : World) : Prop :=
  if l.length < n then e = .returned (.tuple #[.slice none 0 0, .bool false]) ∧ w = w'
  else ∃ v, e = .returned (.tuple #[v, .bool true]) ∧ PartB ok w' v (l.take n) ∧ RdAt ok w' R (l.drop n) ∧ Kept (fun k => k ≠ R) w w' ∧ w'.heap.size = w.heap.size
theorem mkfun_calls (p : Option Addr) (w : World) : Calls Try.prog 54 #[.pointer p] w fun e w' => e = .returned (.func (.func 70) #[] #[.pointer (some ⟨w.heap.size, 0, none⟩)]) ∧ w.alloc (.cells #[.pointer p] 34) = w' := by
  go_enter Try.func54, Try.ntmps54
  go_wp2
  go_ret
  exact ⟨rfl, rfl⟩
set_option maxRecDepth 10000 in
set_option maxHeartbeats 1000000 in
theorem take_calls (ok : Nat → Prop) (R bx n : Nat) (l : List UInt8) (w : World) (h : RdAt ok w R l) (hb : w.cell? ⟨bx, 0, none⟩ = some (.pointer (some ⟨R, 0, none⟩))) (hn : n ≤ 1099511627776) :
    Calls Try.prog 70 #[.int .i64 (n : Int), .pointer (some ⟨bx, 0, none⟩)] w (TakeEnd ok R l n w) := by
  obtain ⟨v, h1, ⟨a, cap, rfl, ha, hla, hcm, hna⟩, h3, h4⟩ := h
  have c0 := h1.cell 0
  have f0 := h1.frozen 0
  simp only [List.getElem?_cons_zero] at c0
  generalize hN : l.length = N at *
  have HN := hid hN
  clear hN
  by_cases hlt : N < n
  · have i0 : (N : Int) < (n : Int) := by omega
    go_enter Try.func70, Try.ntmps70
    go_wp2_with fail
    go_ret2
    unfold TakeEnd
    rw [if_pos (by rw [HN.out]; exact hlt)]
    exact ⟨rfl, rfl⟩
  · have i0 : ¬ (N : Int) < (n : Int) := by omega
    have i1 : (n : Int) ≤ (N : Int) := by omega
    have i2 : (n : Int) ≤ (cap : Int) := by omega
    have i3 : (0 : Int) ≤ (n : Int) := by omega
    have hmx : Try.prog.follows .mixedOrders = true := by kernel_rfl
    have HLO : Hid (PartB ok w (.slice a n n) (l.take n)) := ⟨a, n, by rw [List.length_take, HN.out, Nat.min_eq_left (by omega)], ha.take n, by rw [List.length_take]; exact Nat.min_le_left _ _, by omega, fun e => by have := hna e; omega⟩
    have hhi := partB_high (cap := cap) ha ⟨by rw [HN.out]; omega, hcm, hna⟩ n (by rw [HN.out]; omega)
    rw [HN.out] at hhi
    have hkk2 : ∀ x, Kept (fun k => k ≠ R) w (w.setCell ⟨R, 0, none⟩ x).drew := fun x => ((Kept.refl (fun k => k ≠ R) w).setCell (p := ⟨R, 0, none⟩) (fun h => h rfl) x).drew
    have hkk : ∀ x, Kept ok w (w.setCell ⟨R, 0, none⟩ x).drew := fun x => (hkk2 x).shrink fun k hk => (h4 k hk).2
    have H1 := hid h1
    have H4 := hid h4
    have HKK := hid hkk
    have HKK2 := hid hkk2
    clear h1 h4 hkk hkk2 hna ha
    by_cases hcn : cap = n
    · unfold sliced at hhi
      rw [if_pos hcn, show cap - n = 0 from by omega] at hhi
      have HHI := hid hhi
      clear hhi
      go_enter Try.func70, Try.ntmps70
      go_wp2_with fail
      refine wp_region_still_tail 11 hmx (by kernel_rfl) ?_
      simp only [List.take_succ_cons, List.take_zero, List.drop_succ_cons, List.drop_zero]
      change wpStill _ _ w.drew _ _ _
      repeat still_step
      refine wpStill_nil ?_
      change wpList _ _ _ _ _ w.drew
      go_wp2_with fail
      go_ret2
      unfold TakeEnd
      rw [if_neg (by rw [HN.out]; exact hlt)]
      refine ⟨_, rfl, (HLO.out.kept (HKK.out _)), ⟨_, (H1.out.set 0 _).drew, HHI.out.kept (HKK.out _), by simp; have := HN.out; omega, fun k hk => ⟨by have := (H4.out k hk).1; simpa [World.setCell] using this, (H4.out k hk).2⟩⟩, HKK2.out _, by simp [World.setCell]⟩
    · unfold sliced at hhi
      rw [if_neg hcn, Nat.mul_one] at hhi
      have HHI := hid hhi
      clear hhi
      go_enter Try.func70, Try.ntmps70
      go_wp2_with fail
      refine wp_region_still_tail 11 hmx (by kernel_rfl) ?_
      simp only [List.take_succ_cons, List.take_zero, List.drop_succ_cons, List.drop_zero]
      change wpStill _ _ w.drew _ _ _
      repeat still_step
      refine wpStill_nil ?_
      change wpList _ _ _ _ _ w.drew
      go_wp2_with fail
      go_ret2
      unfold TakeEnd
      rw [if_neg (by rw [HN.out]; exact hlt)]
      refine ⟨_, rfl, (HLO.out.kept (HKK.out _)), ⟨_, (H1.out.set 0 _).drew, HHI.out.kept (HKK.out _), by simp; have := HN.out; omega, fun k hk => ⟨by have := (H4.out k hk).1; simpa [World.setCell] using this, (H4.out k hk).2⟩⟩, HKK2.out _, by simp [World.setCell]⟩
end Go.Proofs.Ytkpadhjlopcejaa
