/-
  InboxEach: its walk.
-/
import Derived.Test.YtnhcikbglcaboaaDoorKnown
namespace Go.Proofs.YtnhcikbglcaboaaDoor
open Go.RowKit Go.Shelf
theorem comes_out (l : List Nat) (most id : Int) (h1 : ¬ (1 ≤ id ∧ id ≤ 65535)) : Ib.comes l most id = (false, 2) := by rw [Ib.comes, if_neg h1]
theorem kept_below' {B S : Nat} {w w' : World} (h : Kept (fun b => b < w.heap.size ∧ b ≠ S) w w') (hB : B ≤ w.heap.size) (hS : B ≤ S) : Below B w w' := ⟨h.os, h.tape, h.output, h.size, fun k hk => h.block k ⟨by omega, by omega⟩⟩
theorem St.table' {B A S : Nat} {w0 w : World} {most : Int} {l : List Nat} (h : St B w0 w A S most l) : TabAt w := h.table
theorem known_after {B A S : Nat} {w0 w : World} {most : Int} {l : List Nat} (h : St B w0 w A S most l) : Calls Tryd.prog 9 #[] w fun e w' => e = .returned (.bool true) ∧ Below B w0 w' := by
  have hB : B ≤ w.heap.size := by have := h.low.2.1; have := h.lt.1; omega
  refine (known_calls w h.table).mono ?_
  rintro e w' ⟨rfl, hb⟩
  exact ⟨rfl, h.below.trans (hb.mono hB)⟩
set_option maxHeartbeats 4000000 in
theorem each_out (a b : Int) (w : World) (hT : TabAt w) (h : ¬ ((1 ≤ a ∧ a ≤ 65535) ∧ (1 ≤ b ∧ b ≤ 65535))) : Calls Tryd.prog 5 #[.int .i64 a, .int .i64 b] w fun e w' => e = .returned (.bool true) ∧ Below w.heap.size w w' := by
  have h0 := hT.1
  go_enter Tryd.func5, Tryd.ntmps5
  go_wp2_with fail
  refine (new_calls' 10 w w w.heap.size h0 (Below.refl _ _) (Nat.le_refl _) hT (by decide)).mono ?_
  rintro e w1 ⟨A, S, rfl, s1, -, -, -⟩
  go_wp2_with fail
  refine (come_calls' a s1).mono ?_
  rintro e w2 ⟨rfl, s2, -⟩
  by_cases ha : 1 ≤ a ∧ a ≤ 65535
  · have hb : ¬ (1 ≤ b ∧ b ≤ 65535) := fun hb => h ⟨ha, hb⟩
    rw [comes_new [] 10 a ha (by simp) (by decide)] at s2 ⊢
    have h1 : ¬ a < 1 := by omega
    have h2 : ¬ a > 65535 := by omega
    have h3 : a ≥ 1 := by omega
    have h4 : a ≤ 65535 := by omega
    clear ha h
    go_wp2_with fail
    refine (come_calls' b s2).mono ?_
    rintro e w3 ⟨rfl, s3, -⟩
    rw [comes_out _ _ _ hb] at s3 ⊢
    by_cases h5 : b < 1
    · have h6 : ¬ b ≥ 1 := by omega
      clear hb
      go_wp2_with fail
      refine (known_after s3).mono ?_
      rintro e w4 ⟨rfl, hB⟩
      go_wp2_with fail
      go_ret
      exact ⟨by (first | rfl | (show Ending.returned (Value.bool (!decide _)) = _; rw [decide_eq_false (by omega)]; rfl) | (show Ending.returned (Value.bool (decide _)) = _; rw [decide_eq_true (by omega)]) | (refine congrArg (fun x : Bool => Ending.returned (Value.bool x)) (?_ : _ = true); simp; omega)), hB⟩
    · have h6 : b > 65535 := by omega
      have h7 : b ≥ 1 := by omega
      have h8 : ¬ b ≤ 65535 := by omega
      clear hb
      go_wp2_with fail
      refine (known_after s3).mono ?_
      rintro e w4 ⟨rfl, hB⟩
      go_wp2_with fail
      go_ret
      exact ⟨by (first | rfl | (show Ending.returned (Value.bool (!decide _)) = _; rw [decide_eq_false (by omega)]; rfl) | (show Ending.returned (Value.bool (decide _)) = _; rw [decide_eq_true (by omega)]) | (refine congrArg (fun x : Bool => Ending.returned (Value.bool x)) (?_ : _ = true); simp; omega)), hB⟩
  · rw [comes_out _ _ _ ha] at s2 ⊢
    clear h
    go_wp2_with fail
    refine (come_calls' b s2).mono ?_
    rintro e w3 ⟨rfl, s3, -⟩
    replace s2 : St w.heap.size w w2 A S 10 [] := s2
    have hcb : (Ib.comes (after [] false a) 10 b).2 = if 1 ≤ b ∧ b ≤ 65535 then 0 else 2 := by
      show (Ib.comes [] 10 b).2 = _
      by_cases hb : 1 ≤ b ∧ b ≤ 65535
      · rw [comes_new [] 10 b hb (by simp) (by decide), if_pos hb]
      · rw [comes_out _ _ _ hb, if_neg hb]
    rw [hcb]
    generalize (Ib.comes (after [] false a) 10 b).1 = q at s3 ⊢
    clear hcb
    by_cases h1 : a < 1
    · have h2 : ¬ a ≥ 1 := by omega
      by_cases h5 : b < 1
      · have h6 : ¬ b ≥ 1 := by omega
        rw [if_neg (by omega)]
        clear ha
        go_wp2_with fail
        refine (known_after s3).mono ?_
        rintro e w4 ⟨rfl, hB⟩
        go_wp2_with fail
        go_ret
        exact ⟨by (first | rfl | (show Ending.returned (Value.bool (!decide _)) = _; rw [decide_eq_false (by omega)]; rfl) | (show Ending.returned (Value.bool (decide _)) = _; rw [decide_eq_true (by omega)]) | (refine congrArg (fun x : Bool => Ending.returned (Value.bool x)) (?_ : _ = true); simp; omega)), hB⟩
      · have h6 : b ≥ 1 := by omega
        by_cases h7 : b ≤ 65535
        · rw [if_pos (by omega)]
          have h8 : ¬ b > 65535 := by omega
          clear ha
          go_wp2_with fail
          refine (known_after s3).mono ?_
          rintro e w4 ⟨rfl, hB⟩
          go_wp2_with fail
          go_ret
          exact ⟨by (first | rfl | (show Ending.returned (Value.bool (!decide _)) = _; rw [decide_eq_false (by omega)]; rfl) | (show Ending.returned (Value.bool (decide _)) = _; rw [decide_eq_true (by omega)]) | (refine congrArg (fun x : Bool => Ending.returned (Value.bool x)) (?_ : _ = true); simp; omega)), hB⟩
        · rw [if_neg (by omega)]
          have h8 : b > 65535 := by omega
          clear ha
          go_wp2_with fail
          refine (known_after s3).mono ?_
          rintro e w4 ⟨rfl, hB⟩
          go_wp2_with fail
          go_ret
          exact ⟨by (first | rfl | (show Ending.returned (Value.bool (!decide _)) = _; rw [decide_eq_false (by omega)]; rfl) | (show Ending.returned (Value.bool (decide _)) = _; rw [decide_eq_true (by omega)]) | (refine congrArg (fun x : Bool => Ending.returned (Value.bool x)) (?_ : _ = true); simp; omega)), hB⟩
    · have h2 : a ≥ 1 := by omega
      have h3 : a > 65535 := by omega
      have h4 : ¬ a ≤ 65535 := by omega
      by_cases h5 : b < 1
      · have h6 : ¬ b ≥ 1 := by omega
        rw [if_neg (by omega)]
        clear ha
        go_wp2_with fail
        refine (known_after s3).mono ?_
        rintro e w4 ⟨rfl, hB⟩
        go_wp2_with fail
        go_ret
        exact ⟨by (first | rfl | (show Ending.returned (Value.bool (!decide _)) = _; rw [decide_eq_false (by omega)]; rfl) | (show Ending.returned (Value.bool (decide _)) = _; rw [decide_eq_true (by omega)]) | (refine congrArg (fun x : Bool => Ending.returned (Value.bool x)) (?_ : _ = true); simp; omega)), hB⟩
      · have h6 : b ≥ 1 := by omega
        by_cases h7 : b ≤ 65535
        · rw [if_pos (by omega)]
          have h8 : ¬ b > 65535 := by omega
          clear ha
          go_wp2_with fail
          refine (known_after s3).mono ?_
          rintro e w4 ⟨rfl, hB⟩
          go_wp2_with fail
          go_ret
          exact ⟨by (first | rfl | (show Ending.returned (Value.bool (!decide _)) = _; rw [decide_eq_false (by omega)]; rfl) | (show Ending.returned (Value.bool (decide _)) = _; rw [decide_eq_true (by omega)]) | (refine congrArg (fun x : Bool => Ending.returned (Value.bool x)) (?_ : _ = true); simp; omega)), hB⟩
        · rw [if_neg (by omega)]
          have h8 : b > 65535 := by omega
          clear ha
          go_wp2_with fail
          refine (known_after s3).mono ?_
          rintro e w4 ⟨rfl, hB⟩
          go_wp2_with fail
          go_ret
          exact ⟨by (first | rfl | (show Ending.returned (Value.bool (!decide _)) = _; rw [decide_eq_false (by omega)]; rfl) | (show Ending.returned (Value.bool (decide _)) = _; rw [decide_eq_true (by omega)]) | (refine congrArg (fun x : Bool => Ending.returned (Value.bool x)) (?_ : _ = true); simp; omega)), hB⟩
theorem has_in (l : List Nat) (id : Int) (h : id.toNat ∈ l) : has l id = true := by simpa [has] using h
theorem has_not (l : List Nat) (id : Int) (h : ¬ id.toNat ∈ l) : has l id = false := by simpa [has] using h
set_option maxHeartbeats 4000000 in
theorem each_in (a b : Int) (w : World) (hT : TabAt w) (ha : 1 ≤ a ∧ a ≤ 65535) (hb : 1 ≤ b ∧ b ≤ 65535) : Calls Tryd.prog 5 #[.int .i64 a, .int .i64 b] w fun e w' => e = .returned (.bool true) ∧ Below w.heap.size w w' := by
  have h0 := hT.1
  obtain ⟨x, rfl⟩ : ∃ x : Nat, a = x := ⟨a.toNat, by omega⟩
  obtain ⟨y, rfl⟩ : ∃ y : Nat, b = y := ⟨b.toNat, by omega⟩
  have h1 : ¬ (x : Int) < 1 := by omega
  have h2 : ¬ (x : Int) > 65535 := by omega
  have h3 : ¬ (y : Int) < 1 := by omega
  have h4 : ¬ (y : Int) > 65535 := by omega
  have HX := hid ha
  have HY := hid hb
  clear ha hb
  go_enter Tryd.func5, Tryd.ntmps5
  go_wp2_with fail
  refine (new_calls' 10 w w w.heap.size h0 (Below.refl _ _) (Nat.le_refl _) hT (by decide)).mono ?_
  rintro e w1 ⟨A, S, rfl, s1, -, -, -⟩
  go_wp2_with fail
  refine (come_calls' x s1).mono ?_
  rintro e w2 ⟨rfl, s2, -⟩
  rw [comes_new [] 10 x HX.out (by simp) (by decide)] at s2 ⊢
  replace s2 : St w.heap.size w w2 A S 10 [x] := s2
  go_wp2_with fail
  refine (come_calls' y s2).mono ?_
  rintro e w3 ⟨rfl, s3, -⟩
  obtain ⟨L, L2, q, hc, hL, hL2, q1, q2, q3, q4, q5, hq⟩ : ∃ (L L2 : List Nat) (q : Bool), Ib.comes [x] 10 y = (q, 0) ∧ after [x] q y = L ∧ after L true x = L2 ∧ has L x = true ∧ has L y = true ∧ Ib.goes L x = (true, 0) ∧ has L2 x = false ∧ has L2 y = q ∧ q = decide (x ≠ y) := by
    by_cases hxy : x = y
    · subst hxy
      have hL2 : after [x] true x = [] := by simp [after, tog]
      exact ⟨[x], [], false, comes_in [x] 10 x HX.out (by simp), rfl, hL2, has_in _ _ (by simp), has_in _ _ (by simp), goes_in _ _ HX.out (by simp), has_not _ _ (by simp), has_not _ _ (by simp), by simp⟩
    · have hm : ∀ z, z ∈ tog [x] y ↔ z = x ∨ z = y := fun z => by
        rw [mem_tog]; simp only [List.mem_singleton]
        constructor
        · rintro (⟨h, _⟩ | ⟨h, _⟩) <;> simp [h]
        · rintro (rfl | rfl)
          · exact .inl ⟨rfl, hxy⟩
          · exact .inr ⟨rfl, fun e => hxy e.symm⟩
      have hm2 : ∀ z, z ∈ tog (tog [x] y) x ↔ z = y := fun z => by
        rw [mem_tog, hm, hm]
        constructor
        · rintro (⟨h1 | h1, h2⟩ | ⟨h1, h2⟩)
          · exact absurd h1 h2
          · exact h1
          · exact absurd (.inl rfl) h2
        · rintro rfl
          exact .inl ⟨.inr rfl, fun e => hxy e.symm⟩
      refine ⟨tog [x] y, tog (tog [x] y) x, true, comes_new [x] 10 y HY.out (by simp; omega) (by simp), rfl, rfl, has_in _ _ ((hm _).2 (.inl rfl)), has_in _ _ ((hm _).2 (.inr rfl)), goes_in _ _ HX.out ((hm _).2 (.inl rfl)), has_not _ _ (fun h => hxy ((hm2 _).1 h)), has_in _ _ ((hm2 _).2 rfl), by simp [hxy]⟩
  rw [hc] at s3 ⊢
  replace s3 : St w.heap.size w w3 A S 10 (after [x] q y) := s3
  rw [hL] at s3
  have HG := hid q3
  have HL2 := hid hL2
  clear hc hL hL2 q3
  by_cases hxy : x = y
  · have hq' : q = false := by rw [hq]; simp [hxy]
    have hi : ((x : Int) != (y : Int)) = false := by simp [hxy]
    clear hxy hq
    subst hq'
    go_wp2_with fail
    refine (has_calls' x s3).mono ?_
    rintro e w' ⟨rfl, m, rfl⟩
    rw [q1]
    go_wp2_with fail
    refine (has_calls' y (s3.grows (below_drewN (Below.refl _ _) m))).mono ?_
    rintro e w' ⟨rfl, m2, rfl⟩
    rw [q2]
    go_wp2_with fail
    refine (go_calls' x (s3.grows (below_drewN (Below.refl _ _) (m + m2)))).mono ?_
    rintro e w4 ⟨rfl, s4, -⟩
    rw [HG.out] at s4 ⊢
    replace s4 : St w.heap.size w w4 A S 10 (after L true x) := s4
    rw [HL2.out] at s4
    go_wp2_with fail
    refine (has_calls' x s4).mono ?_
    rintro e w' ⟨rfl, m3, rfl⟩
    rw [q4]
    go_wp2_with fail
    refine (has_calls' y (s4.grows (below_drewN (Below.refl _ _) m3))).mono ?_
    rintro e w' ⟨rfl, m4, rfl⟩
    rw [q5]
    go_wp2_with fail
    refine (len_calls' (s4.grows (below_drewN (Below.refl _ _) (m3 + m4)))).mono ?_
    rintro e w5 ⟨rfl, s5, -⟩
    go_wp2_with fail
    refine (all_calls' s5).mono ?_
    rintro e w6 ⟨a6, cap6, rfl, -, -, -, -, s6, -⟩
    go_wp2_with fail
    refine (known_after s6).mono ?_
    rintro e w7 ⟨rfl, hB⟩
    go_wp2_with fail
    go_ret
    exact ⟨rfl, hB⟩
  · have hq' : q = true := by rw [hq]; simp [hxy]
    have hi : ((x : Int) != (y : Int)) = true := by simp; omega
    clear hxy hq
    subst hq'
    go_wp2_with fail
    refine (has_calls' x s3).mono ?_
    rintro e w' ⟨rfl, m, rfl⟩
    rw [q1]
    go_wp2_with fail
    refine (has_calls' y (s3.grows (below_drewN (Below.refl _ _) m))).mono ?_
    rintro e w' ⟨rfl, m2, rfl⟩
    rw [q2]
    go_wp2_with fail
    refine (go_calls' x (s3.grows (below_drewN (Below.refl _ _) (m + m2)))).mono ?_
    rintro e w4 ⟨rfl, s4, -⟩
    rw [HG.out] at s4 ⊢
    replace s4 : St w.heap.size w w4 A S 10 (after L true x) := s4
    rw [HL2.out] at s4
    go_wp2_with fail
    refine (has_calls' x s4).mono ?_
    rintro e w' ⟨rfl, m3, rfl⟩
    rw [q4]
    go_wp2_with fail
    refine (has_calls' y (s4.grows (below_drewN (Below.refl _ _) m3))).mono ?_
    rintro e w' ⟨rfl, m4, rfl⟩
    rw [q5]
    go_wp2_with fail
    refine (len_calls' (s4.grows (below_drewN (Below.refl _ _) (m3 + m4)))).mono ?_
    rintro e w5 ⟨rfl, s5, -⟩
    go_wp2_with fail
    refine (all_calls' s5).mono ?_
    rintro e w6 ⟨a6, cap6, rfl, -, -, -, -, s6, -⟩
    go_wp2_with fail
    refine (known_after s6).mono ?_
    rintro e w7 ⟨rfl, hB⟩
    go_wp2_with fail
    go_ret
    exact ⟨rfl, hB⟩
end Go.Proofs.YtnhcikbglcaboaaDoor
