/-
  Many IDs that come, with room: the set does not hang on the order. No walk here.
-/
import Derived.Test.YtnhcikbglcaboaaDoorEachWalk
namespace Go.Proofs.YtnhcikbglcaboaaDoor
open Go.RowKit Go.Shelf
theorem tog_length_new {l : List Nat} {x : Nat} (h : ¬ x ∈ l) : (tog l x).length = l.length + 1 := by
  unfold tog
  rw [if_neg h]
  have : ∀ l : List Nat, ¬ x ∈ l → (l.filter (fun y => decide (y < x))).length + (l.filter (fun y => decide (x < y))).length = l.length := by
    intro l
    induction l with
    | nil => intro _; rfl
    | cons a l ih =>
      intro h
      have ha : a ≠ x := fun e => h (by simp [e])
      have := ih (fun e => h (by simp [e]))
      rcases Nat.lt_or_gt_of_ne ha with h1 | h1
      · have h2 : ¬ x < a := by omega
        simp [h1, h2]; omega
      · have h2 : ¬ a < x := by omega
        simp [h1, h2]; omega
  have := this l h
  simp
  omega
/-- one ID comes, with room -/
def step (l : List Nat) (x : Int) : List Nat := after l (Ib.comes l 60 x).1 x
def comeAll (xs : List Int) : List Nat := xs.foldl step []
theorem step_facts {l : List Nat} (hs : l.Pairwise (· < ·)) (hr : l.length < 60) (x : Int) :
    (step l x).Pairwise (· < ·) ∧ (step l x).length = l.length + (if (Ib.comes l 60 x).1 then 1 else 0) ∧ ∀ y, y ∈ step l x ↔ y ∈ l ∨ (1 ≤ x ∧ x ≤ 65535 ∧ y = x.toNat) := by
  unfold step after
  by_cases hx : 1 ≤ x ∧ x ≤ 65535
  · by_cases hi : x.toNat ∈ l
    · rw [comes_in l 60 x hx hi]
      refine ⟨hs, by simp, fun y => ⟨fun h => .inl h, ?_⟩⟩
      rintro (h | ⟨_, _, rfl⟩)
      · exact h
      · exact hi
    · rw [comes_new l 60 x hx hi (by omega)]
      refine ⟨tog_sorted hs _, by simp [tog_length_new hi], fun y => ?_⟩
      show y ∈ tog l x.toNat ↔ _
      rw [mem_tog]
      constructor
      · rintro (⟨h, _⟩ | ⟨h, _⟩)
        · exact .inl h
        · exact .inr ⟨hx.1, hx.2, h⟩
      · rintro (h | ⟨_, _, rfl⟩)
        · exact .inl ⟨h, fun e => hi (e ▸ h)⟩
        · exact .inr ⟨rfl, hi⟩
  · rw [comes_out l 60 x hx]
    refine ⟨hs, by simp, fun y => ⟨fun h => .inl h, ?_⟩⟩
    rintro (h | ⟨h1, h2, _⟩)
    · exact h
    · exact absurd ⟨h1, h2⟩ hx
theorem comeAll_snoc (xs : List Int) (x : Int) : comeAll (xs ++ [x]) = step (comeAll xs) x := by simp [comeAll]
theorem comeAll_facts (xs : List Int) : xs.length ≤ 60 → (comeAll xs).Pairwise (· < ·) ∧ (comeAll xs).length ≤ xs.length ∧ ∀ y, y ∈ comeAll xs ↔ ∃ x ∈ xs, 1 ≤ x ∧ x ≤ 65535 ∧ y = x.toNat := by
  intro h
  have : ∀ n (xs : List Int), xs.length = n → n ≤ 60 → (comeAll xs).Pairwise (· < ·) ∧ (comeAll xs).length ≤ xs.length ∧ ∀ y, y ∈ comeAll xs ↔ ∃ x ∈ xs, 1 ≤ x ∧ x ≤ 65535 ∧ y = x.toNat := by
    intro n
    induction n with
    | zero =>
      intro xs h0 _
      obtain rfl := List.length_eq_zero_iff.1 h0
      simp [comeAll]
    | succ n ih =>
      intro xs h0 h1
      obtain ⟨ys, x, rfl⟩ : ∃ ys x, xs = ys ++ [x] := ⟨xs.dropLast, xs.getLast (by intro e; simp [e] at h0), (List.dropLast_concat_getLast _).symm⟩
      have hl : ys.length = n := by simp at h0; omega
      obtain ⟨i1, i2, i3⟩ := ih ys hl (by omega)
      obtain ⟨s1, s2, s3⟩ := step_facts i1 (show (comeAll ys).length < 60 by omega) x
      rw [comeAll_snoc]
      refine ⟨s1, by rw [s2]; simp; split <;> omega, fun y => ?_⟩
      rw [s3, i3]
      constructor
      · rintro (⟨z, hz, h⟩ | ⟨h1, h2, h3⟩)
        · exact ⟨z, by simp [hz], h⟩
        · exact ⟨x, by simp, h1, h2, h3⟩
      · rintro ⟨z, hz, h⟩
        rcases List.mem_append.1 hz with hz | hz
        · exact .inl ⟨z, hz, h⟩
        · rw [List.mem_singleton.1 hz] at h
          exact .inr h
  exact this xs.length xs rfl h
theorem comeAll_reverse (xs : List Int) (h : xs.length ≤ 60) : comeAll xs = comeAll xs.reverse := by
  obtain ⟨a1, _, a3⟩ := comeAll_facts xs h
  obtain ⟨b1, _, b3⟩ := comeAll_facts xs.reverse (by simpa using h)
  refine Ib.sorted_eq a1 b1 fun x => ?_
  rw [a3, b3]
  simp
theorem take_up (xs : List Int) (k : Nat) (h : k < xs.length) : comeAll (xs.take (k + 1)) = step (comeAll (xs.take k)) xs[k] := by
  rw [take_snoc xs k h, comeAll_snoc]
theorem drop_down (xs : List Int) (k : Nat) (h : k < xs.length) : comeAll (xs.drop k).reverse = step (comeAll (xs.drop (k + 1)).reverse) xs[k] := by
  rw [List.drop_eq_getElem_cons h, List.reverse_cons, comeAll_snoc]
theorem take_room (xs : List Int) (k : Nat) (h : k < xs.length) (h6 : xs.length ≤ 60) : (comeAll (xs.take k)).length < 60 ∧ (comeAll (xs.take k)).Pairwise (· < ·) := by
  obtain ⟨a1, a2, _⟩ := comeAll_facts (xs.take k) (by simp; omega)
  simp at a2
  exact ⟨by omega, a1⟩
theorem take_count (xs : List Int) (k : Nat) (h : k < xs.length) (h6 : xs.length ≤ 60) : (comeAll (xs.take (k + 1))).length = (comeAll (xs.take k)).length + (if (Ib.comes (comeAll (xs.take k)) 60 xs[k]).1 then 1 else 0) := by
  obtain ⟨a1, a2⟩ := take_room xs k h h6
  rw [take_up xs k h, (step_facts a2 a1 _).2.1]
end Go.Proofs.YtnhcikbglcaboaaDoor
