/-
  A call, and the document's answer beside it: the walk of does.
-/
import Derived.Test.YtnhcikbglcaboaaDoorRefGo
namespace Go.Proofs.YtnhcikbglcaboaaDoor
open Go.RowKit Go.Shelf
/-- the IDs behind a call -/
def act (l : List Nat) (most kind id : Int) : List Nat := if kind = 1 then after l (Ib.comes l most id).1 id else if kind = 2 then after l (Ib.goes l id).1 id else l
theorem after_sorted {l : List Nat} (h : l.Pairwise (· < ·)) (b : Bool) (id : Int) : (after l b id).Pairwise (· < ·) := by
  unfold after; split
  · exact tog_sorted h _
  · exact h
theorem St.sorted {B A S : Nat} {w0 w : World} {most : Int} {l : List Nat} (h : St B w0 w A S most l) : l.Pairwise (· < ·) ∧ ¬ 0 ∈ l ∧ l.length ≤ 65536 := by
  obtain ⟨ws, hi, rfl, h0⟩ := h.words
  exact ⟨Ib.ids_sorted ws, h0, ids_length ws⟩
set_option maxHeartbeats 2000000 in
theorem does_calls {B A S : Nat} {w0 w : World} {most : Int} {l : List Nat} (kind id : Int) (v : Value) (ok : Nat → Prop) (h : St B w0 w A S most l) (hv : ListIn ok w v (l.map fun x : Nat => (x : Int))) (hok : ∀ k, ok k → k < w.heap.size ∧ k ≠ S) :
    Calls Tryd.prog 11 #[.pointer (some ⟨A, 0, none⟩), v, .int .i64 most, .agg #[.int .i64 kind, .int .i64 id]] w fun e w' =>
    ∃ v', e = .returned (.tuple #[v', .bool true]) ∧ St B w0 w' A S most (act l most kind id) ∧ ListIn (fun k => ok k ∨ (w.heap.size ≤ k ∧ k < w'.heap.size)) w' v' ((act l most kind id).map fun x : Nat => (x : Int)) ∧ Kept (fun b => b < w.heap.size ∧ b ≠ S) w w' := by
  have hb0 : Below w.heap.size w (w.alloc (.cells #[.int .i64 kind, .int .i64 id] 32)) := (Below.refl _ _).alloc (Nat.le_refl _) _
  have hbx := Blk.new w [.int .i64 kind, .int .i64 id] 32
  have hs0 := h.grows hb0
  have hv0 : ListIn ok (w.alloc (.cells #[.int .i64 kind, .int .i64 id] 32)) v (l.map fun x : Nat => (x : Int)) := hv.kept (Kept.of_below hb0 fun k hk => (hok k hk).1)
  have hsz : (w.alloc (.cells #[.int .i64 kind, .int .i64 id] 32)).heap.size = w.heap.size + 1 := by simp
  have hlt := h.lt
  have hsrt := h.sorted
  have HOK := hid hok
  have HL := hid hlt
  have HSRT := hid hsrt
  clear hok hlt hsrt h hv
  by_cases h1 : kind = 1
  · subst h1
    have e1 : act l most 1 id = after l (Ib.comes l most id).1 id := by unfold act; rw [if_pos rfl]
    have E1 := hid e1
    clear e1
    go_enter Tryd.func11, Tryd.ntmps11
    have c1 := hbx.cell 1
    simp only [List.getElem?_cons_succ, List.getElem?_cons_zero] at c1
    have HS0 := hid hs0
    have HV0 := hid hv0
    have HB0 := hid hb0
    have HBX := hid hbx
    have HSZ := hid hsz
    clear hs0 hv0 hb0 hbx hsz
    go_wp2_with fail
    generalize (w.alloc (.cells #[.int .i64 1, .int .i64 id] 32)) = W at *
    refine (come_calls' id HS0.out).mono ?_
    rintro e w2 ⟨rfl, s2, k2⟩
    have hA2 : w2.cell? ⟨w.heap.size, 1, none⟩ = some (.int .i64 id) := by
      rw [k2.cell (p := ⟨w.heap.size, 1, none⟩) ⟨by have := HSZ.out; show w.heap.size < W.heap.size; omega, by have := HL.out; show w.heap.size ≠ S; omega⟩]; exact c1
    have v2 : ListIn ok w2 v (l.map fun x : Nat => (x : Int)) := HV0.out.kept ⟨k2.os, k2.tape, k2.output, k2.size, fun b hb => k2.block b ⟨by have := HOK.out b hb; have := HSZ.out; omega, (HOK.out b hb).2⟩⟩
    have z2 : W.heap.size ≤ w2.heap.size := k2.size
    have S2 := hid s2
    have K2 := hid k2
    have V2 := hid v2
    have Z2 := hid z2
    clear s2 k2 v2 z2 c1
    go_wp2_with fail
    refine (refcome_calls v l most id ok w2 V2.out (fun b hb => by have := HOK.out b hb; have := HSZ.out; have := Z2.out; omega) HSRT.out.2.2 HSRT.out.1 HSRT.out.2.1).mono ?_
    rintro e w3 ⟨v3, rfl, l3, b3⟩
    have L3 := hid l3
    have B3 := hid b3
    rw [← E1.out] at S2 L3
    clear l3 b3
    generalize (Ib.comes l most id).1 = b
    generalize (Ib.comes l most id).2 = x
    go_wp2_with fail
    go_ret2
    have hz := HSZ.out
    have hz2 := Z2.out
    have hz3 := B3.out.size
    have hL := HL.out
    refine ⟨v3, rfl, S2.out.grows B3.out, L3.out.mono fun k hk => ?_, ?_⟩
    · rcases hk with hk | hk
      · exact .inl hk
      · exact .inr ⟨by omega, by omega⟩
    · exact (Kept.of_below HB0.out fun k hk => hk.1).trans (Kept.trans ⟨K2.out.os, K2.out.tape, K2.out.output, K2.out.size, fun b hb => K2.out.block b ⟨by omega, hb.2⟩⟩ (Kept.of_below B3.out fun k hk => by omega))
  · by_cases h2 : kind = 2
    · subst h2
      have e1 : act l most 2 id = after l (Ib.goes l id).1 id := by unfold act; rw [if_neg (by decide), if_pos rfl]
      have E1 := hid e1
      clear e1 h1
      go_enter Tryd.func11, Tryd.ntmps11
      have c1 := hbx.cell 1
      simp only [List.getElem?_cons_succ, List.getElem?_cons_zero] at c1
      have HS0 := hid hs0
      have HV0 := hid hv0
      have HB0 := hid hb0
      have HBX := hid hbx
      have HSZ := hid hsz
      clear hs0 hv0 hb0 hbx hsz
      go_wp2_with fail
      generalize (w.alloc (.cells #[.int .i64 2, .int .i64 id] 32)) = W at *
      refine (go_calls' id HS0.out).mono ?_
      rintro e w2 ⟨rfl, s2, k2⟩
      have hA2 : w2.cell? ⟨w.heap.size, 1, none⟩ = some (.int .i64 id) := by
        rw [k2.cell (p := ⟨w.heap.size, 1, none⟩) ⟨by have := HSZ.out; show w.heap.size < W.heap.size; omega, by have := HL.out; show w.heap.size ≠ S; omega⟩]; exact c1
      have v2 : ListIn ok w2 v (l.map fun x : Nat => (x : Int)) := HV0.out.kept ⟨k2.os, k2.tape, k2.output, k2.size, fun b hb => k2.block b ⟨by have := HOK.out b hb; have := HSZ.out; omega, (HOK.out b hb).2⟩⟩
      have z2 : W.heap.size ≤ w2.heap.size := k2.size
      have S2 := hid s2
      have K2 := hid k2
      have V2 := hid v2
      have Z2 := hid z2
      clear s2 k2 v2 z2 c1
      go_wp2_with fail
      refine (refgo_calls v l id ok w2 V2.out (fun b hb => by have := HOK.out b hb; have := HSZ.out; have := Z2.out; omega) HSRT.out.2.2 HSRT.out.1 HSRT.out.2.1).mono ?_
      rintro e w3 ⟨v3, rfl, l3, b3⟩
      have L3 := hid l3
      have B3 := hid b3
      rw [← E1.out] at S2 L3
      clear l3 b3
      generalize (Ib.goes l id).1 = b
      generalize (Ib.goes l id).2 = x
      go_wp2_with fail
      go_ret2
      have hz := HSZ.out
      have hz2 := Z2.out
      have hz3 := B3.out.size
      have hL := HL.out
      refine ⟨v3, rfl, S2.out.grows B3.out, L3.out.mono fun k hk => ?_, ?_⟩
      · rcases hk with hk | hk
        · exact .inl hk
        · exact .inr ⟨by omega, by omega⟩
      · exact (Kept.of_below HB0.out fun k hk => hk.1).trans (Kept.trans ⟨K2.out.os, K2.out.tape, K2.out.output, K2.out.size, fun b hb => K2.out.block b ⟨by omega, hb.2⟩⟩ (Kept.of_below B3.out fun k hk => by omega))
    · have e1 : act l most kind id = l := by unfold act; rw [if_neg h1, if_neg h2]
      rw [e1]
      have HS0 := hid hs0
      have HV0 := hid hv0
      have HB0 := hid hb0
      have g1 : (kind == 1) = false := by simpa using h1
      have g2 : (kind == 2) = false := by simpa using h2
      clear hs0 hv0 hb0 hbx hsz e1 h1 h2
      go_enter Tryd.func11, Tryd.ntmps11
      go_wp2_with fail
      go_ret2
      exact ⟨v, rfl, HS0.out, HV0.out.mono fun k hk => .inl hk, Kept.of_below HB0.out fun k hk => hk.1⟩
end Go.Proofs.YtnhcikbglcaboaaDoor
