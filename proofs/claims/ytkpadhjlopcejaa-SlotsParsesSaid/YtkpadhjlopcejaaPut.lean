/-
  A writer: its state; the walks of NewWriter, put, Bytes, Len.
-/
import Derived.ScopeJumps
import Derived.Test.YtkpadhjlopcejaaLaid
namespace Go.Proofs.Ytkpadhjlopcejaa
open Go.RowKit
/-- a writer at block P: the slice v, in which l was written -/
def WrAt (w : World) (P : Nat) (v : Value) (l : List UInt8) : Prop := Blk w P [v, .bool true] ∧ OwnB w (P + 1) v l ∧ l.length ≤ 65536
theorem WrAt.lt {w : World} {P : Nat} {v : Value} {l : List UInt8} (h : WrAt w P v l) : P < w.heap.size := h.1.lt
theorem WrAt.kept {ok : Nat → Prop} {w w' : World} {P : Nat} {v : Value} {l : List UInt8} (h : WrAt w P v l) (hk : Kept ok w w') (hP : ok P) (hv : ∀ k, v.ownBlock = some k → ok k) : WrAt w' P v l :=
  ⟨h.1.kept hk hP, h.2.1.kept hk hv, h.2.2⟩
theorem WrAt.grows {w w' : World} {P : Nat} {v : Value} {l : List UInt8} (h : WrAt w P v l) (hb : Below w.heap.size w w') : WrAt w' P v l :=
  h.kept (Kept.of_below hb (ok := fun k => k < w.heap.size) fun _ h => h) h.lt fun _ hv => (h.2.1.block hv).2
theorem newwriter_calls (w : World) : Calls Try.prog 18 #[] w fun e w' => e = .returned (.pointer (some ⟨w.heap.size, 0, none⟩)) ∧ WrAt w' w.heap.size (.slice none 0 0) [] ∧ Below w.heap.size w w' := by
  go_enter Try.func18, Try.ntmps18
  go_wp2
  go_ret
  exact ⟨rfl, ⟨Blk.new w [.slice none 0 0, .bool true] _, OwnB.nil _ _, Nat.zero_le _⟩, (Below.refl _ _).alloc (Nat.le_refl _) _⟩
theorem len_calls (P : Nat) (v : Value) (l : List UInt8) (w : World) (h : WrAt w P v l) : Calls Try.prog 30 #[.pointer (some ⟨P, 0, none⟩)] w fun e w' => e = .returned (.int .i64 (l.length : Int)) ∧ w = w' := by
  have c0 := h.1.cell 0
  have c1 := h.1.cell 1
  simp only [List.getElem?_cons_zero, List.getElem?_cons_succ] at c0 c1
  obtain ⟨a, cap, rfl, _⟩ := h.2.1.part
  generalize l.length = N at c0 ⊢
  clear h
  go_enter Try.func30, Try.ntmps30
  go_wp2_with fail
  refine (wnone_at P true _ c1).mono ?_
  rintro e w' ⟨rfl, rfl⟩
  go_wp2_with fail
  go_ret
  exact ⟨rfl, rfl⟩
theorem bytes_calls (P : Nat) (v : Value) (l : List UInt8) (w : World) (h : WrAt w P v l) : Calls Try.prog 23 #[.pointer (some ⟨P, 0, none⟩)] w fun e w' => ∃ v', e = .returned v' ∧ OwnB w' w.heap.size v' l ∧ Below w.heap.size w w' := by
  have c0 := h.1.cell 0
  have c1 := h.1.cell 1
  simp only [List.getElem?_cons_zero, List.getElem?_cons_succ] at c0 c1
  have HC := hid (clone_calls v l _ w h.2.1.part (fun k hk => (h.2.1.block hk).2) (by have := h.2.2; omega))
  clear h
  go_enter Try.func23, Try.ntmps23
  go_wp2_with fail
  refine (wnone_at P true _ c1).mono ?_
  rintro e w' ⟨rfl, rfl⟩
  go_wp2_with fail
  refine HC.out.mono ?_
  rintro e w' ⟨v', rfl, h1, h2⟩
  have H1 := hid h1
  have H2 := hid h2
  clear h1 h2
  go_wp2_with fail
  go_ret
  exact ⟨_, rfl, H1.out, H2.out⟩
/-- what put does -/
def PutEnd (l lb : List UInt8) (P : Nat) (v : Value) (w : World) (e : Ending) (w' : World) : Prop :=
  if 65536 < l.length + lb.length then e = .returned (.int .i64 3) ∧ WrAt w' P v l ∧ Below w.heap.size w w'
  else ∃ v', e = .returned (.int .i64 0) ∧ WrAt w' P v' (l ++ lb) ∧ Kept (fun k => k < w.heap.size ∧ k ≠ P ∧ v.ownBlock ≠ some k) w w' ∧ (v'.ownBlock = v.ownBlock ∨ ∃ k, v'.ownBlock = some k ∧ w.heap.size ≤ k)
set_option maxRecDepth 10000 in
theorem put_calls (P : Nat) (v vb : Value) (l lb : List UInt8) (ok : Nat → Prop) (w : World) (h : WrAt w P v l) (hb : PartB ok w vb lb) (hlb : lb.length ≤ 1099511627776) :
    Calls Try.prog 50 #[.pointer (some ⟨P, 0, none⟩), vb] w (PutEnd l lb P v w) := by
  have c0 := h.1.cell 0
  simp only [List.getElem?_cons_zero] at c0
  have H := hid h
  have hl := h.2.2
  obtain ⟨a, cap, rfl, ha⟩ := h.2.1.part
  obtain ⟨a2, cap2, rfl, h2, h3, h4, h5⟩ := hb
  generalize hN : l.length = N at *
  generalize hM : lb.length = M at *
  have HN := hid hN
  have HM := hid hM
  have H2 := hid h2
  have H5 := hid h5
  clear h ha hN hM h2 h5 h3 h4
  go_enter Try.func50, Try.ntmps50
  by_cases hbig : 65536 < l.length + lb.length
  · have hb' : (65536 : Int) < (N : Int) + (M : Int) := by have := HN.out; have := HM.out; omega
    have HB := hid hbig
    clear hbig
    go_wp2_with fail
    go_ret
    unfold PutEnd
    rw [if_pos HB.out]
    exact ⟨rfl, H.out, Below.refl _ _⟩
  · have hb' : ¬ (65536 : Int) < (N : Int) + (M : Int) := by have := HN.out; have := HM.out; omega
    have HB := hid hbig
    clear hbig
    have hafter : ∀ v1 w1, OwnB w1 (P + 1) v1 (l ++ lb) → w.grownBy w1 (Value.slice a N cap).ownBlock → (v1.ownBlock = (Value.slice a N cap).ownBlock ∨ v1.ownBlock = some w.heap.size) →
        ∃ a1 n1 c1, v1 = .slice a1 n1 c1 ∧ w1.cell? ⟨P, 0, none⟩ = some (.slice a N cap) ∧ w1.frozen? ⟨P, 0, none⟩ = false ∧ Hid (WrAt (w1.setCell ⟨P, 0, none⟩ v1) P v1 (l ++ lb) ∧
          Kept (fun k => k < w.heap.size ∧ k ≠ P ∧ (Value.slice a N cap).ownBlock ≠ some k) w (w1.setCell ⟨P, 0, none⟩ v1) ∧ (v1.ownBlock = (Value.slice a N cap).ownBlock ∨ v1.ownBlock = some w.heap.size)) := by
      intro v1 w1 hv1 hg1 ho1
      have hP1 : Blk w1 P [.slice a N cap, .bool true] := H.out.1.kept (Kept.of_grown hg1 (ok := fun k => k = P) fun k hk => ⟨by have := H.out.lt; omega, fun e => by have := (H.out.2.1.block e.symm).1; omega⟩) rfl
      have hv2 : OwnB (w1.setCell ⟨P, 0, none⟩ v1) (P + 1) v1 (l ++ lb) := hv1.kept ((Kept.refl (fun k => k ≠ P) w1).setCell (p := ⟨P, 0, none⟩) (fun h => h rfl) v1) fun k hk => by have := (hv1.block hk).1; omega
      obtain ⟨a1, c1, e1, _⟩ := hv1.part
      refine ⟨a1, _, c1, e1, hP1.cell 0, hP1.frozen 0, ⟨hP1.set 0 v1, hv2, by have := HN.out; have := HM.out; simp; omega⟩, ?_, ho1⟩
      exact (Kept.of_grown hg1 fun k hk => ⟨hk.1, fun e => hk.2.2 e.symm⟩).setCell (p := ⟨P, 0, none⟩) (fun h => h.2.1 rfl) v1
    have HA := hid hafter
    clear hafter
    go_wp2_with (at_builtin; refine wpList_appendB rfl (.tmp 20) (.tmp 21) rfl (P + 1) _ l rfl H.out.2.1 a2 M cap2 lb HM.out rfl H5.out ok H2.out (by have := HN.out; omega) H.out.lt ?_; intro v1 w1 hv1 hg1 ho1; obtain ⟨a1, n1, c1, e1, d0, f0, HE⟩ := HA.out v1 w1 hv1 hg1 ho1; clear hv1 hg1 ho1; subst e1)
    go_ret
    unfold PutEnd
    rw [if_neg HB.out]
    obtain ⟨r1, r2, r3⟩ := HE.out
    refine ⟨_, rfl, r1, r2, ?_⟩
    rcases r3 with h | h
    · exact .inl h
    · exact .inr ⟨_, h, Nat.le_refl _⟩
end Go.Proofs.Ytkpadhjlopcejaa
