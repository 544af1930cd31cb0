/-
  InboxOrder: its walk.
-/
import Derived.Test.YtnhcikbglcaboaaDoorOrderPlain
import Derived.Test.YtnhcikbglcaboaaDoorCopy
import Derived.ProofKit
import Derived.OpenShut
namespace Go.Proofs.YtnhcikbglcaboaaDoor
open Go.RowKit Go.Shelf
/-- two inboxes side by side -/
structure Two (B : Nat) (w0 w : World) (A S A2 S2 : Nat) (most : Int) (l l2 : List Nat) : Prop where
  one : St B w0 w A S most l
  two : St B w0 w A2 S2 most l2
  apart : S ≠ A2 ∧ S ≠ S2 ∧ S2 ≠ A
theorem Two.comes {B A S A2 S2 : Nat} {w0 w : World} {most : Int} {l l2 : List Nat} (h : Two B w0 w A S A2 S2 most l l2) (id : Int) : Calls Tryd.prog 17 #[.pointer (some ⟨A, 0, none⟩), .int .i64 id] w fun e w' =>
    e = .returned (.tuple #[.bool (Ib.comes l most id).1, .int .i64 (Ib.comes l most id).2]) ∧ Two B w0 w' A S A2 S2 most (after l (Ib.comes l most id).1 id) l2 := by
  have H := h
  refine (come_calls' id h.one).mono ?_
  rintro e w' ⟨rfl, h1, h2⟩
  have := H.apart
  exact ⟨rfl, h1, H.two.kept h2 ⟨H.two.lt.1, by omega⟩ ⟨H.two.lt.2.1, by omega⟩ (fun b hb => ⟨by have := H.one.low; have := H.one.lt; omega, by have := H.one.low; omega⟩), this⟩
theorem Two.swap {B A S A2 S2 : Nat} {w0 w : World} {most : Int} {l l2 : List Nat} (h : Two B w0 w A S A2 S2 most l l2) : Two B w0 w A2 S2 A S most l2 l :=
  ⟨h.two, h.one, by have := h.apart; omega⟩
theorem Two.drewN {B A S A2 S2 : Nat} {w0 w : World} {most : Int} {l l2 : List Nat} (h : Two B w0 w A S A2 S2 most l l2) (m : Nat) : Two B w0 (World.drewN w m) A S A2 S2 most l l2 :=
  ⟨h.one.kept (Kept.drewN (fun _ => True) w m) trivial trivial (fun _ _ => trivial), h.two.kept (Kept.drewN (fun _ => True) w m) trivial trivial (fun _ _ => trivial), h.apart⟩
theorem Two.grows {B A S A2 S2 : Nat} {w0 w w' : World} {most : Int} {l l2 : List Nat} (h : Two B w0 w A S A2 S2 most l l2) (hb : Below w.heap.size w w') : Two B w0 w' A S A2 S2 most l l2 :=
  ⟨h.one.grows hb, h.two.grows hb, h.apart⟩
theorem order_out (a : Option Addr) (len cap : Nat) (w : World) (hT : TabAt w) (h : 60 < len) : Calls Tryd.prog 6 #[.slice a len cap] w fun e w' => e = .returned (.bool true) ∧ Below w.heap.size w w' := by
  have HK := hid (known_calls w hT)
  have h' : (60 : Int) < (len : Int) := by omega
  go_enter Tryd.func6, Tryd.ntmps6
  go_wp2_with (refine HK.out.mono ?_; rintro e w' ⟨rfl, hB⟩)
  go_ret
  exact ⟨rfl, hB⟩
set_option maxRecDepth 100000 in
set_option maxHeartbeats 4000000 in
theorem order_in (a : Option Addr) (cap : Nat) (l : List Int) (w : World) (hT : TabAt w) (h6 : l.length ≤ 60) (hl : IntsIn (fun k => k < w.heap.size) w a l) : Calls Tryd.prog 6 #[.slice a l.length cap] w fun e w' => e = .returned (.bool true) ∧ Below w.heap.size w w' := by
  have h0 := hT.1
  generalize hL : l.length = L
  have HL := hid hL
  have hL6 : L ≤ 60 := by omega
  have hL6' : ¬ (60 : Int) < (L : Int) := by omega
  clear hL h6
  go_enter Tryd.func6, Tryd.ntmps6
  go_wp2_with fail
  refine (new_calls' 60 w w w.heap.size h0 (Below.refl _ _) (Nat.le_refl _) hT (by decide)).mono ?_
  rintro e w1 ⟨A, S, rfl, s1, hb1, hA, hS⟩
  go_wp2_with fail
  refine (new_calls' 60 w w1 w.heap.size h0 hb1 hb1.size s1.table (by decide)).mono ?_
  rintro e w2 ⟨A2, S2, rfl, s2, hb2, hA2, hS2⟩
  have t2 : Two w.heap.size w w2 A S A2 S2 60 [] [] := ⟨s1.grows hb2, s2, by have := s1.lt; omega⟩
  clear s1 s2 hb1 hb2 hA hS hA2 hS2
  go_wp2_with fail
  go_loopw [7, 8, 9, 10] (fun n i _ _ wr => ∃ k : Nat, k ≤ L ∧ i = .int .i64 (k : Int) ∧ n = .int .i64 ((comeAll (l.take k)).length : Int) ∧ Two w.heap.size w wr A S A2 S2 60 (comeAll (l.take k)) []) (fun _ i _ _ _ => L - (intOf i).toNat)
  case atStart => exact ⟨0, by omega, rfl, rfl, t2⟩
  case round =>
    obtain ⟨k, hk, rfl, rfl, hst⟩ := hrel
    by_cases hlt : k < L
    · have hkl : k < l.length := by rw [HL.out]; exact hlt
      obtain ⟨b0, off0, rfl, ho0, hd0⟩ := hl k hkl
      have hd := hst.one.below.cell (p := ⟨b0, off0 + k, none⟩) ho0
      rw [hd0] at hd
      have hup := take_up l k hkl
      have hcn := take_count l k hkl (by rw [HL.out]; exact hL6)
      have hrm := take_room l k hkl (by rw [HL.out]; exact hL6)
      generalize l[k] = x at hd hup hcn hd0
      have HUP := hid hup
      have HCN := hid hcn
      have hr1 : (comeAll (l.take k)).length < 60 := hrm.1
      have i0 : (k : Int) < (L : Int) := by omega
      generalize hq : (comeAll (l.take k)).length = q at hr1
      have HQ := hid hq
      clear hup hcn hrm hq hd0
      go_wp2_with fail
      refine (hst.comes x).mono ?_
      rintro e w3 ⟨rfl, t3⟩
      have T3 : Two w.heap.size w w3 A S A2 S2 60 (comeAll (l.take (k + 1))) [] := by rw [HUP.out]; exact t3
      have HC := HCN.out
      rw [HQ.out] at HC
      clear t3 hst
      generalize (Ib.comes (comeAll (l.take k)) 60 x).2 = e2
      generalize (Ib.comes (comeAll (l.take k)) 60 x).1 = b at HC ⊢
      have HC2 := hid HC
      clear HC hd
      cases b
      · go_wp2_with fail
        go_roundw
        case rel => exact ⟨k + 1, hlt, by go_num, by rw [HC2.out]; simp, T3⟩
        case measure => simp [intOf]; omega
      · go_wp2_with fail
        go_roundw
        case rel => exact ⟨k + 1, hlt, by go_num, by rw [HC2.out]; simp, T3⟩
        case measure => simp [intOf]; omega
    · have hkL : k = L := by omega
      have htk : l.take k = l := List.take_of_length_le (by rw [HL.out]; omega)
      rw [htk] at hst
      have HTK := hid htk
      clear htk t2
      have hLk : ¬ ((k : Int) < (L : Int)) := by omega
      generalize hN : (comeAll (l.take k)).length = N
      have HN : Hid ((comeAll l).length = N) := by rw [← HTK.out]; exact hN
      clear hN hlt hk
      subst hkL
      go_wp2_with fail
      go_loopw [11] (fun i wr => ∃ j : Nat, j ≤ k ∧ i = .int .i64 ((j : Int) - 1) ∧ Two w.heap.size w wr A S A2 S2 60 (comeAll l) (comeAll (l.drop j).reverse)) (fun i _ => (intOf i + 1).toNat)
      case atStart => exact ⟨k, by omega, rfl, by rw [List.drop_of_length_le (by rw [HL.out]; omega)]; exact hst⟩
      case round =>
        clear hst
        obtain ⟨j, hj, rfl, hst⟩ := hrel
        by_cases hj0 : j = 0
        · subst hj0
          have e0 : comeAll (l.drop 0).reverse = comeAll l := by rw [List.drop_zero]; exact (comeAll_reverse l (by rw [HL.out]; exact hL6)).symm
          rw [e0] at hst
          clear e0
          have n1 : ¬ ((0 : Int) ≤ ((0 : Nat) : Int) - 1) := by omega
          go_wp2_with fail
          refine (all_calls' hst.one).mono ?_
          rintro e w4 ⟨a4, cap4, rfl, hi4, -, -, -, s4, hb4⟩
          have t4 := hst.grows hb4
          rw [HN.out]
          have hnn : ((comeAll l).map fun x : Nat => (x : Int)).length = N := by rw [List.length_map, HN.out]
          have hsrt := (comeAll_facts l (by rw [HL.out]; exact hL6)).1
          have hN60 : N ≤ 60 := by
            have h1 := (comeAll_facts l (by rw [HL.out]; exact hL6)).2.1
            rw [HN.out, HL.out] at h1
            omega
          have HNN := hid hnn
          have HSRT := hid hsrt
          clear s4 hb4 hst hnn hsrt hl
          go_wp2_with fail
          go_loopw [13] (fun i wr => ∃ j m : Nat, (j < N ∨ j = 0) ∧ i = .int .i64 ((j : Int) + 1) ∧ wr = World.drewN w4 m) (fun i _ => N + 1 - (intOf i).toNat)
          case atStart => exact ⟨0, 0, by omega, rfl, rfl⟩
          case round =>
            obtain ⟨j, m, hjN, rfl, rfl⟩ := hrel
            by_cases hlt : j + 1 < N
            · obtain ⟨b1, off1, rfl, ho1, hd1⟩ := hi4 j (by rw [HNN.out]; omega)
              obtain ⟨b2, off2, e2, ho2, hd2⟩ := hi4 (j + 1) (by rw [HNN.out]; omega)
              cases e2
              have hpw : ((comeAll l).map fun x : Nat => (x : Int))[j]'(by rw [HNN.out]; omega) < ((comeAll l).map fun x : Nat => (x : Int))[j + 1]'(by rw [HNN.out]; omega) := by
                simp only [List.getElem_map]
                have := List.pairwise_iff_getElem.1 HSRT.out j (j + 1) (by rw [HN.out]; omega) (by rw [HN.out]; omega) (by omega)
                omega
              generalize ((comeAll l).map fun x : Nat => (x : Int))[j]'(by rw [HNN.out]; omega) = x at hd1 hpw
              generalize ((comeAll l).map fun x : Nat => (x : Int))[j + 1]'(by rw [HNN.out]; omega) = y at hd2 hpw
              have i0 : (j : Int) + 1 < (N : Int) := by omega
              have hge : ¬ (y ≤ x) := by omega
              have hd2' : w4.cell? ⟨b1, off1 + j + 1, none⟩ = some (.int .i64 y) := hd2
              have T4 := hid t4
              clear hi4 t4
              have i1 : (j : Int) < (N : Int) := by omega
              have i2 : (0 : Int) ≤ (j : Int) := by omega
              go_wp2_with fail
              go_quiet (fail)
              go_wp2_with fail
              go_roundw
              case rel => exact ⟨j + 1, m + nq, .inl hlt, by go_num, by simp⟩
              case measure => simp [intOf]; omega
            · have i0 : ¬ ((j : Int) + 1 < (N : Int)) := by omega
              have t5 := t4.drewN m
              have T5 := hid t5
              have T4 := hid t4
              clear t4 t5 hi4
              go_wp2_with fail
              refine (isame_calls T5.out.one T5.out.two).mono ?_
              rintro e w6 ⟨rfl, m2, rfl⟩
              rw [decide_eq_true (show (60 : Int) = 60 ∧ comeAll l = comeAll l from ⟨rfl, rfl⟩)]
              have T6 := hid (T4.out.drewN (m + m2))
              go_wp2_with fail
              refine (known_after T6.out.one).mono ?_
              rintro e w7 ⟨rfl, hB⟩
              go_wp2_with fail
              go_ret
              exact ⟨rfl, hB⟩
        · obtain ⟨i, rfl⟩ : ∃ i, j = i + 1 := ⟨j - 1, by omega⟩
          have hil : i < l.length := by rw [HL.out]; omega
          obtain ⟨b0, off0, rfl, ho0, hd0⟩ := hl i hil
          have hd := hst.one.below.cell (p := ⟨b0, off0 + i, none⟩) ho0
          rw [hd0] at hd
          have hdn := drop_down l i hil
          generalize l[i] = x at hd hdn hd0
          have HDN := hid hdn
          have i0 : (0 : Int) ≤ (i : Int) := by omega
          have i1 : (i : Int) < (k : Int) := by omega
          have ei : ((i + 1 : Nat) : Int) - 1 = (i : Int) := by omega
          rw [ei]
          clear hdn hd0 ei hj0
          go_wp2_with fail
          refine (hst.swap.comes x).mono ?_
          rintro e w3 ⟨rfl, t3⟩
          have T3 : Two w.heap.size w w3 A S A2 S2 60 (comeAll l) (comeAll (l.drop i).reverse) := by rw [HDN.out]; exact t3.swap
          clear t3 hst
          go_wp2_with fail
          go_roundw
          case rel => exact ⟨i, by omega, rfl, T3⟩
          case measure => simp [intOf]
theorem ints_of_row {w : World} {a : Option Addr} {len cap : Nat} {zs : List Int}
    (h : (a = none ∧ len = 0 ∧ cap = 0 ∧ zs = []) ∨
      ∃ x, a = some x ∧ len ≤ cap ∧ cap ≤ maxLen ∧ zs.length = cap ∧ (∀ i, i < zs.length → w.cell? (x.add i) = some (.int .i64 (zs.getD i 0))) ∧ ∀ n ∈ zs, (Lit.int .i64 n).wf = true) :
    ∃ l : List Int, l.length = len ∧ IntsIn (fun k => k < w.heap.size) w a l := by
  rcases h with ⟨rfl, rfl, rfl, rfl⟩ | ⟨⟨b, off, spot⟩, rfl, hl, hm, hz, hc, hw⟩
  · exact ⟨[], rfl, fun i hi => absurd hi (Nat.not_lt_zero _)⟩
  · refine ⟨zs.take len, by simp; omega, fun i hi => ?_⟩
    have hi' : i < len := by simpa using Nat.lt_of_lt_of_le hi (by simp; omega)
    have hcell := hc i (by omega)
    have hspot : spot = none := by
      have := World.cell?_spot (hc 0 (by omega))
      simpa [Addr.add] using this
    subst hspot
    rw [addr_add] at hcell
    have hlt := cell_lt hcell
    refine ⟨b, off, rfl, hlt, ?_⟩
    rw [hcell, List.getD_eq_getElem?_getD, List.getElem?_eq_getElem (by omega), List.getElem_take]
    rfl
open Go.ChangeShapes Go.WideShapes Go.ChangeAt
theorem inboxOrder_open {H : Type} (enc : TypeId × Value → H) (W : World) (base : Nat) (v0 : Value) (d0 : DataW H) (p0 : List MemPlace) (o0 : Value.okWide Tryd.prog W .any base 28 v0)
    (h0 : DataW.Trod enc Tryd.prog W 0 (fun _ => true) true 28 v0 d0 p0) (hT : TabAt W) :
    Calls Tryd.prog 6 #[v0] W fun e w' => e = .returned (.bool true) ∧ Below W.heap.size W w' := by
  obtain ⟨a0, len0, cap0, rfl⟩ := okWide_slice Tryd.underlying28 o0
  have key : ∃ l : List Int, l.length = len0 ∧ IntsIn (fun k => k < W.heap.size) W a0 l := by
    obtain ⟨fuel, hf⟩ := h0
    rcases open_ints Tryd.underlying28 Tryd.underlying2 (by kernel_rfl) hf with ⟨hcs, _⟩ | ⟨x, l, c, zs, hcs, _, hl, hm, hz, _, hcell, hwz⟩
    · simp [Value.cells] at hcs
      obtain ⟨rfl, rfl, rfl⟩ := hcs
      exact ints_of_row (w := W) (a := none) (len := 0) (cap := 0) (zs := []) (.inl ⟨rfl, rfl, rfl, rfl⟩)
    · simp [Value.cells] at hcs
      obtain ⟨rfl, rfl, rfl⟩ := hcs
      exact ints_of_row (w := W) (a := some x) (len := len0) (cap := cap0) (zs := zs) (.inr ⟨_, rfl, hl, hm, by simpa using hz, hcell, hwz⟩)
  obtain ⟨l, rfl, hl⟩ := key
  by_cases h : l.length ≤ 60
  · exact order_in a0 cap0 l W hT h hl
  · exact order_out a0 l.length cap0 W hT (by omega)
end Go.Proofs.YtnhcikbglcaboaaDoor
