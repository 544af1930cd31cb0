/-
  The state of an inbox as a rising list of IDs; what each call does to it; the known case.
-/
import Derived.Test.YtnhcikbglcaboaaDoorRef
namespace Go.Proofs.YtnhcikbglcaboaaDoor
open Go.RowKit Go.Shelf
def tog (l : List Nat) (x : Nat) : List Nat := if x ∈ l then l.filter (fun y => decide (y ≠ x)) else l.filter (fun y => decide (y < x)) ++ x :: l.filter (fun y => decide (x < y))
theorem mem_tog {l : List Nat} {x y : Nat} : y ∈ tog l x ↔ (y ∈ l ∧ y ≠ x) ∨ (y = x ∧ ¬ x ∈ l) := by
  unfold tog
  split
  · rename_i h
    simp [List.mem_filter, h]
  · rename_i h
    simp only [List.mem_append, List.mem_filter, List.mem_cons, decide_eq_true_eq]
    constructor
    · rintro (⟨h1, h2⟩ | rfl | ⟨h1, h2⟩)
      · exact .inl ⟨h1, by omega⟩
      · exact .inr ⟨rfl, h⟩
      · exact .inl ⟨h1, by omega⟩
    · rintro (⟨h1, h2⟩ | ⟨rfl, _⟩)
      · rcases Nat.lt_or_gt_of_ne h2 with h3 | h3
        · exact .inl ⟨h1, h3⟩
        · exact .inr (.inr ⟨h1, h3⟩)
      · exact .inr (.inl rfl)
theorem tog_sorted {l : List Nat} (h : l.Pairwise (· < ·)) (x : Nat) : (tog l x).Pairwise (· < ·) := by
  unfold tog
  split
  · exact h.filter _
  · rw [List.pairwise_append, List.pairwise_cons]
    refine ⟨h.filter _, ⟨fun y hy => ?_, h.filter _⟩, fun y hy z hz => ?_⟩
    · have := (List.mem_filter.1 hy).2; simpa using this
    · have h1 := (List.mem_filter.1 hy).2
      simp only [decide_eq_true_eq] at h1
      rcases List.mem_cons.1 hz with rfl | hz
      · exact h1
      · have h2 := (List.mem_filter.1 hz).2
        simp only [decide_eq_true_eq] at h2
        omega
theorem ids_turn {ws : List Nat} (hl : ws.length = 1024) {k : Nat} (hk : k < 65536) : Ib.ids (Ib.turn ws k) = tog (Ib.ids ws) k :=
  ids_eq (tog_sorted (Ib.ids_sorted ws) k) fun x => by
    rw [Ib.mem_turn hl hk, mem_tog]
    constructor
    · rintro (h | ⟨rfl, h⟩)
      · exact .inl h
      · exact .inr ⟨rfl, h⟩
    · rintro (h | ⟨rfl, h⟩)
      · exact .inl h
      · exact .inr ⟨rfl, h⟩
def after (l : List Nat) (b : Bool) (id : Int) : List Nat := if b then tog l id.toNat else l
structure St (B : Nat) (w0 w : World) (A S : Nat) (most : Int) (l : List Nat) : Prop where
  words : ∃ ws, InAt w A S most ws ∧ Ib.ids ws = l ∧ ¬ 0 ∈ l
  below : Below B w0 w
  low : 0 < B ∧ B ≤ A ∧ B ≤ S
  table : TabAt w
theorem St.lt {B A S : Nat} {w0 w : World} {most : Int} {l : List Nat} (h : St B w0 w A S most l) : A < w.heap.size ∧ S < w.heap.size ∧ A ≠ S := by
  obtain ⟨ws, hi, _⟩ := h.words
  exact ⟨hi.1.lt, hi.2.1.1.lt, hi.2.2⟩
theorem St.kept {B A S : Nat} {w0 w w' : World} {most : Int} {l : List Nat} {ok : Nat → Prop} (h : St B w0 w A S most l) (hk : Kept ok w w') (hA : ok A) (hS : ok S) (hB : ∀ b, b < B → ok b) : St B w0 w' A S most l := by
  obtain ⟨ws, hi, hl, h0⟩ := h.words
  exact ⟨⟨ws, hi.kept hk hA hS, hl, h0⟩, kept_below h.below hk hB, h.low, h.table.kept hk (hB 0 h.low.1)⟩
theorem St.grows {B A S : Nat} {w0 w w' : World} {most : Int} {l : List Nat} (h : St B w0 w A S most l) (hb : Below w.heap.size w w') : St B w0 w' A S most l :=
  h.kept (Kept.of_below hb (ok := fun b => b < w.heap.size) fun _ h => h) h.lt.1 h.lt.2.1 (fun b hb' => by have := h.lt.1; have := h.low.2.1; omega)
theorem has_calls' {B A S : Nat} {w0 w : World} {most : Int} {l : List Nat} (id : Int) (h : St B w0 w A S most l) : Calls Tryd.prog 16 #[.pointer (some ⟨A, 0, none⟩), .int .i64 id] w fun e w' =>
    e = .returned (.bool (has l id)) ∧ ∃ m, w' = World.drewN w m := by
  obtain ⟨ws, hi, rfl, h0⟩ := h.words
  exact has_calls A S most ws id w hi h0
theorem comes_range {l : List Nat} {most id : Int} (h : (Ib.comes l most id).1 = true) : 1 ≤ id ∧ id ≤ 65535 := by
  by_cases hm : 1 ≤ id ∧ id ≤ 65535
  · exact hm
  · rw [Ib.comes, if_neg hm] at h; cases h
theorem goes_range {l : List Nat} {id : Int} (h : (Ib.goes l id).1 = true) : 1 ≤ id ∧ id ≤ 65535 := by
  by_cases hm : 1 ≤ id ∧ id ≤ 65535
  · exact hm
  · rw [Ib.goes, if_neg hm] at h; cases h
theorem St.behind {B A S : Nat} {w0 w w' : World} {most : Int} {ws : List Nat} {id : Int} (a : Bool × Int) (hr : a.1 = true → 1 ≤ id ∧ id ≤ 65535) (h : St B w0 w A S most (Ib.ids ws)) (hws : ws.length = 1024)
    (hi : InAt w' A S most (Ib.behind ws a id)) (hk : Kept (fun b => b < w.heap.size ∧ b ≠ S) w w') : St B w0 w' A S most (after (Ib.ids ws) a.1 id) := by
  obtain ⟨ws', _, he, h0⟩ := h.words
  have hlt := h.lt
  have hlow := h.low
  refine ⟨⟨_, hi, ?_, ?_⟩, kept_below h.below hk (fun b hb => ⟨by omega, by omega⟩), h.low, h.table.kept hk ⟨by omega, by omega⟩⟩
  · unfold Ib.behind after
    cases e : a.1
    · rfl
    · have := hr e
      simp only [if_true]
      exact ids_turn hws (by omega)
  · unfold after
    cases e : a.1
    · simpa using h0
    · have := hr e
      simp only [if_true]
      rw [mem_tog]
      rintro (⟨h1, _⟩ | ⟨h1, _⟩)
      · exact h0 h1
      · omega
theorem come_calls' {B A S : Nat} {w0 w : World} {most : Int} {l : List Nat} (id : Int) (h : St B w0 w A S most l) : Calls Tryd.prog 17 #[.pointer (some ⟨A, 0, none⟩), .int .i64 id] w fun e w' =>
    e = .returned (.tuple #[.bool (Ib.comes l most id).1, .int .i64 (Ib.comes l most id).2]) ∧ St B w0 w' A S most (after l (Ib.comes l most id).1 id) ∧ Kept (fun b => b < w.heap.size ∧ b ≠ S) w w' := by
  have hS := h
  obtain ⟨ws, hi, rfl, h0⟩ := h.words
  refine (come_calls A S most ws id w hi h0 h.table).mono ?_
  rintro e w' ⟨rfl, h1, h2⟩
  exact ⟨rfl, St.behind _ comes_range hS hi.2.1.2.1 h1 h2, h2⟩
theorem go_calls' {B A S : Nat} {w0 w : World} {most : Int} {l : List Nat} (id : Int) (h : St B w0 w A S most l) : Calls Tryd.prog 18 #[.pointer (some ⟨A, 0, none⟩), .int .i64 id] w fun e w' =>
    e = .returned (.tuple #[.bool (Ib.goes l id).1, .int .i64 (Ib.goes l id).2]) ∧ St B w0 w' A S most (after l (Ib.goes l id).1 id) ∧ Kept (fun b => b < w.heap.size ∧ b ≠ S) w w' := by
  have hS := h
  obtain ⟨ws, hi, rfl, h0⟩ := h.words
  refine (go_calls A S most ws id w hi h0).mono ?_
  rintro e w' ⟨rfl, h1, h2⟩
  exact ⟨rfl, St.behind _ goes_range hS hi.2.1.2.1 h1 h2, h2⟩
theorem len_calls' {B A S : Nat} {w0 w : World} {most : Int} {l : List Nat} (h : St B w0 w A S most l) : Calls Tryd.prog 14 #[.pointer (some ⟨A, 0, none⟩)] w fun e w' =>
    e = .returned (.int .i64 (l.length : Int)) ∧ St B w0 w' A S most l ∧ Below w.heap.size w w' := by
  have hS := h
  obtain ⟨ws, hi, rfl, h0⟩ := h.words
  refine (len_calls A S most ws w hi h.table).mono ?_
  rintro e w' ⟨rfl, hb⟩
  exact ⟨rfl, hS.grows hb, hb⟩
theorem all_calls' {B A S : Nat} {w0 w : World} {most : Int} {l : List Nat} (h : St B w0 w A S most l) : Calls Tryd.prog 13 #[.pointer (some ⟨A, 0, none⟩)] w fun e w' =>
    ∃ a cap, e = .returned (.slice a l.length cap) ∧ IntsIn (fun k => w.heap.size ≤ k ∧ k < w'.heap.size) w' a (l.map fun x : Nat => (x : Int)) ∧ l.length ≤ cap ∧ cap ≤ maxLen ∧ (a = none → cap = 0) ∧ St B w0 w' A S most l ∧ Below w.heap.size w w' := by
  have hS := h
  obtain ⟨ws, hi, rfl, h0⟩ := h.words
  refine (all_calls A S most ws w hi h.table).mono ?_
  rintro e w' ⟨v, rfl, hv, hb⟩
  obtain ⟨a, cap, rfl, h1, h2, h3, h4, _⟩ := hv.slice
  exact ⟨a, cap, by simp, h1, by simpa using h2, h3, h4, hS.grows hb, hb⟩
theorem new_calls' (most : Int) (w0 w : World) (B : Nat) (hB : 0 < B) (hb : Below B w0 w) (hBw : B ≤ w.heap.size) (hT : TabAt w) (h : 1 ≤ most ∧ most ≤ 1000) : Calls Tryd.prog 10 #[.int .i64 most] w fun e w' =>
    ∃ A S, e = .returned (.tuple #[.pointer (some ⟨A, 0, none⟩), .int .i64 0]) ∧ St B w0 w' A S most [] ∧ Below w.heap.size w w' ∧ w.heap.size ≤ A ∧ w.heap.size ≤ S := by
  refine (new_good most w h).mono ?_
  rintro e w' ⟨rfl, hi, hb', _⟩
  exact ⟨_, _, rfl, ⟨⟨ws0, hi, ids_ws0, by simp⟩, hb.trans (hb'.mono hBw), ⟨hB, by omega, by omega⟩, hT.below hb' hT.1⟩, hb', Nat.le_succ _, Nat.le_refl _⟩
end Go.Proofs.YtnhcikbglcaboaaDoor
