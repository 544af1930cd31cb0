/-
  Come and Go: their walks.
-/
import Derived.ScopeJumps
import Derived.Test.YtnhcikbglcaboaaDoorAll
import Derived.Test.YtnhcikbglcaboaaDoorAny
namespace Go.Proofs.YtnhcikbglcaboaaDoor
open Go.RowKit Go.Shelf
attribute [local go_sem] AnyOrder.opK_value AnyOrder.opK_skip AnyOrder.opK_enter
/-- what an inbox answers, and which IDs are there behind it -/
def Ib.comes (l : List Nat) (most id : Int) : Bool × Int :=
  if 1 ≤ id ∧ id ≤ 65535 then if has l id then (false, 0) else if most ≤ l.length then (false, 310) else (true, 0) else (false, 2)
def Ib.goes (l : List Nat) (id : Int) : Bool × Int :=
  if 1 ≤ id ∧ id ≤ 65535 then (has l id, 0) else (false, 2)
/-- the words behind a call that answered so -/
def Ib.behind (ws : List Nat) (a : Bool × Int) (id : Int) : List Nat := if a.1 then Ib.turn ws id.toNat else ws
theorem Kept.shrink {ok ok' : Nat → Prop} {w w' : World} (h : Kept ok w w') (hm : ∀ k, ok' k → ok k) : Kept ok' w w' := ⟨h.os, h.tape, h.output, h.size, fun k hk => h.block k (hm k hk)⟩
theorem below_of_drew {w w' : World} {m : Nat} (h : AnyOrder.Grows (World.drewN w m).drew w') : Below w.heap.size w w' := ⟨h.os, h.tape, h.output, h.size, h.block⟩
theorem come_scope {c rest : Code} (p : Value) (id : Int) (R : Int → World → Prop) (Q : Exit → Act → World → Prop) (a : Act) (w : World) (hf : findLabel c 0 = some rest)
    (first : c.wp Tryd.prog (Exit.jump 0 (fun a' w' => ∃ (x : Int) (u6 u7 u8 u9 u10 u11 u12 u13 u14 u15 u16 u17 u18 u19 u20 u21 u22 u23 u24 : Value), a' = { tmps := #[p, .int .i64 id, undef, undef, .bool false, .int .i64 x, u6, u7, u8, u9, u10, u11, u12, u13, u14, u15, u16, u17, u18, u19, u20, u21, u22, u23, u24], defers := [] } ∧ R x w') Q) a w)
    (pass : ∀ (x : Int) (u6 u7 u8 u9 u10 u11 u12 u13 u14 u15 u16 u17 u18 u19 u20 u21 u22 u23 u24 : Value) w', R x w' → rest.wp Tryd.prog (Exit.jump 0 (fun _ _ => False) Q) { tmps := #[p, .int .i64 id, undef, undef, .bool false, .int .i64 x, u6, u7, u8, u9, u10, u11, u12, u13, u14, u15, u16, u17, u18, u19, u20, u21, u22, u23, u24], defers := [] } w') : (Code.scope c).wp Tryd.prog Q a w := by
  refine wp_scope_jumps 0 _ (fun _ _ => 0) hf first ?_
  rintro a' w' ⟨x, u6, u7, u8, u9, u10, u11, u12, u13, u14, u15, u16, u17, u18, u19, u20, u21, u22, u23, u24, rfl, hR⟩
  refine Code.wp_mono ?_ (pass x u6 u7 u8 u9 u10 u11 u12 u13 u14 u15 u16 u17 u18 u19 u20 u21 u22 u23 u24 w' hR)
  intro e a'' w'' h
  cases e <;> first | exact h | exact h.2.elim
theorem jump_ret (l : Nat) (J : Act → World → Prop) (Q : Exit → Act → World → Prop) (a : Act) (w : World) : Exit.jump l J Q .ret a w = Q .ret a w := rfl
theorem come_none (id : Int) (p : Option Addr) (w : World) (hn : Calls Tryd.prog 23 #[.pointer p] w fun e w' => e = .returned (.bool true) ∧ w = w') : Calls Tryd.prog 17 #[.pointer p, .int .i64 id] w fun e w' =>
    e = .returned (.tuple #[.bool false, .int .i64 1]) ∧ w = w' := by
  have HN := hid hn
  clear hn
  go_enter Tryd.func17, Tryd.ntmps17
  go_wp2
  refine come_scope (.pointer p) id (fun x w' => x = 1 ∧ w = w') _ _ _ rfl ?_ ?_
  · go_wp2_with (refine HN.out.mono ?_; rintro e w' ⟨rfl, rfl⟩)
    refine wp_goto ?_
    refine ⟨rfl, _, _, _, _, _, _, _, _, _, _, _, _, _, _, _, _, _, _, _, _, rfl, ?_⟩
    exact ⟨rfl, rfl⟩
  · rintro x u6 u7 u8 u9 u10 u11 u12 u13 u14 u15 u16 u17 u18 u19 u20 u21 u22 u23 u24 w' ⟨rfl, rfl⟩
    go_wp2
    rw [jump_ret]
    go_ret2
    exact ⟨rfl, rfl⟩
/-- what Come needs and leaves -/
def ComeEnd (A S : Nat) (most : Int) (ws : List Nat) (id : Int) (w : World) (x : Int) (w' : World) : Prop :=
  Ib.comes (Ib.ids ws) most id = (false, x) ∧ InAt w' A S most ws ∧ Kept (fun b => b < w.heap.size ∧ b ≠ S) w w'
theorem stays_below {A : Nat} {vs : List Value} : AnyOrder.Stays (fun _ w' => Blk w' A vs) := fun _ _ _ hg h => h.below hg h.lt
set_option maxHeartbeats 1000000 in
theorem come_calls (A S : Nat) (most : Int) (ws : List Nat) (id : Int) (w : World) (h : InAt w A S most ws) (h0 : ¬ 0 ∈ Ib.ids ws) (hT : TabAt w) : Calls Tryd.prog 17 #[.pointer (some ⟨A, 0, none⟩), .int .i64 id] w fun e w' =>
    e = .returned (.tuple #[.bool (Ib.comes (Ib.ids ws) most id).1, .int .i64 (Ib.comes (Ib.ids ws) most id).2]) ∧ InAt w' A S most (Ib.behind ws (Ib.comes (Ib.ids ws) most id) id) ∧ Kept (fun b => b < w.heap.size ∧ b ≠ S) w w' := by
  have c0 := h.1.cell 0
  simp only [List.getElem?_cons_zero] at c0
  have hAS : A < w.heap.size ∧ S < w.heap.size := ⟨h.1.lt, h.2.1.1.lt⟩
  have HPASS := hid (show ∀ (x : Int) w', ComeEnd A S most ws id w x w' → Ending.returned (.tuple #[.bool false, .int .i64 x]) = Ending.returned (.tuple #[.bool (Ib.comes (Ib.ids ws) most id).1, .int .i64 (Ib.comes (Ib.ids ws) most id).2]) ∧ InAt w' A S most (Ib.behind ws (Ib.comes (Ib.ids ws) most id) id) ∧ Kept (fun b => b < w.heap.size ∧ b ≠ S) w w' from by
    rintro x w' ⟨h1, h2, h3⟩
    rw [h1]
    exact ⟨rfl, h2, h3⟩)
  go_enter Tryd.func17, Tryd.ntmps17
  go_wp2
  refine come_scope (.pointer (some ⟨A, 0, none⟩)) id (ComeEnd A S most ws id w) _ _ _ rfl ?_ ?_
  · by_cases hm : 1 ≤ id ∧ id ≤ 65535
    · have hd : decide (1 ≤ id ∧ id ≤ 65535) = true := by simpa using hm
      have HM := hid hm
      clear hm
      cases hh : has (Ib.ids ws) id with
      | true =>
        have HH := hid hh
        go_wp2_with (first
          | (refine (none_full A S w c0).mono ?_; rintro e w' ⟨rfl, rfl⟩)
          | (refine (may_calls id w).mono ?_; rintro e w' ⟨rfl, rfl⟩; rw [hd])
          | (refine (has_calls A S most ws id w h h0).mono ?_; rintro e w' ⟨rfl, m, rfl⟩; rw [hh]))
        rw [jump_ret]
        go_ret2
        have hc : Ib.comes (Ib.ids ws) most id = (false, 0) := by simp [Ib.comes, HM.out, HH.out]
        exact HPASS.out 0 _ ⟨hc, h, Kept.drewN _ _ _⟩
      | false =>
        have HH := hid hh
        go_wp2_with (first
          | (refine (none_full A S w c0).mono ?_; rintro e w' ⟨rfl, rfl⟩)
          | (refine (may_calls id w).mono ?_; rintro e w' ⟨rfl, rfl⟩; rw [hd])
          | (refine (has_calls A S most ws id w h h0).mono ?_; rintro e w' ⟨rfl, m, rfl⟩; rw [hh]))
        have HIn := hid h
        have HT := hid hT
        have HA := hid hAS
        have a1 := h.1.cell 1
        simp only [List.getElem?_cons_succ, List.getElem?_cons_zero] at a1
        have HA1 := hid (show Blk w A [.pointer (some ⟨S, 0, none⟩), .int .i64 most] from h.1)
        obtain ⟨n, hn⟩ : ∃ n : Nat, n = (Ib.ids ws).length := ⟨_, rfl⟩
        have HN := hid hn
        have hmx : Tryd.prog.follows .mixedOrders = true := by kernel_rfl
        clear h hT hAS a1 hn hh c0 h0 hd
        refine AnyOrder.wp_region_grows [
          fun v _ => v = .pointer (some ⟨A, 0, none⟩),
          fun v _ => v = .int .i64 (n : Int),
          fun v _ => v = .pointer (some ⟨A, 0, none⟩),
          fun v _ => v = .pointer (some ⟨A, 0, none⟩),
          fun v _ => v = .pointer (some ⟨A, 1, none⟩),
          fun v _ => v = .int .i64 most,
          fun v _ => v = .bool (decide (most ≤ (n : Int)))] hmx (by kernel_rfl) ?_ ?_ ?_
        · intro p hp
          simp only [List.mem_cons, List.not_mem_nil, or_false] at hp
          rcases hp with rfl | rfl | rfl | rfl | rfl | rfl | rfl
          all_goals exact AnyOrder.stays_const _
        · simp only [AnyOrder.dstsOf, List.map_cons, List.map_nil, AnyOrder.Steps, Nat.zero_add, Nat.reduceAdd]
          refine ⟨?_, ?_, ?_, ?_, ?_, ?_, ?_, trivial⟩
          · intro ρ w' hk
            have k1 := hk.old 0 rfl
            clear hk
            simp at k1
            go_simp
            exact ⟨AnyOrder.Grows.refl _, rfl⟩
          · intro ρ w' hk
            have k1 : ρ (.tmp 14) = .pointer (some ⟨A, 0, none⟩) := hk.at 0 rfl
            have kw := hk.world
            have kf := hk.func
            clear hk
            go_simp
            have k2 : Below w.heap.size w w' := below_of_drew kw
            refine (len_calls A S most ws w' (HIn.out.below k2 HA.out.1 HA.out.2) (TabAt.below HT.out k2 HT.out.1)).mono ?_
            rintro e w'' ⟨rfl, hb⟩
            exact ⟨_, rfl, hb, by rw [HN.out]; rfl⟩
          · intro ρ w' hk
            have k1 := hk.old 0 rfl
            clear hk
            simp at k1
            go_simp
            exact ⟨AnyOrder.Grows.refl _, rfl⟩
          · intro ρ w' hk
            have k1 : ρ (.tmp 16) = .pointer (some ⟨A, 0, none⟩) := hk.at 2 rfl
            clear hk
            go_simp
            exact ⟨AnyOrder.Grows.refl _, rfl⟩
          · intro ρ w' hk
            have k1 : ρ (.tmp 17) = .pointer (some ⟨A, 0, none⟩) := hk.at 3 rfl
            clear hk
            go_simp
            exact ⟨AnyOrder.Grows.refl _, rfl⟩
          · intro ρ w' hk
            have k1 : ρ (.tmp 18) = .pointer (some ⟨A, 1, none⟩) := hk.at 4 rfl
            have kw := hk.world
            have k2 : Below w.heap.size w w' := below_of_drew kw
            have k3 := (HA1.out.below k2 HA.out.1).cell 1
            simp only [List.getElem?_cons_succ, List.getElem?_cons_zero] at k3
            clear hk
            go_simp
            exact ⟨AnyOrder.Grows.refl _, rfl⟩
          · intro ρ w' hk
            have k1 : ρ (.tmp 15) = .int .i64 (n : Int) := hk.at 1 rfl
            have k2 : ρ (.tmp 19) = .int .i64 most := hk.at 5 rfl
            clear hk
            go_simp
            exact ⟨AnyOrder.Grows.refl _, rfl⟩
        · intro vs w3 hg hvs
          have hB3 : Below w.heap.size w w3 := below_of_drew hg
          have v6 : vs 6 = .bool (decide (most ≤ (n : Int))) := hvs 6 (by simp)
          clear hvs
          simp only [AnyOrder.fill, Nat.zero_add, Nat.reduceAdd, List.setIfInBounds_toArray, List.set_cons_zero, List.set_cons_succ]
          rw [v6]
          clear v6 hg
          have hI3 := HIn.out.below hB3 HA.out.1 HA.out.2
          by_cases hf : most ≤ (n : Int)
          · have hfd : decide (most ≤ (n : Int)) = true := by simpa using hf
            rw [hfd]
            have HF := hid hf
            clear hf hfd
            go_wp2
            refine wp_goto ?_
            refine ⟨rfl, _, _, _, _, _, _, _, _, _, _, _, _, _, _, _, _, _, _, _, _, rfl, ?_⟩
            exact ⟨by rw [Ib.comes, if_pos HM.out, HH.out, ← HN.out, if_pos HF.out]; rfl, hI3, Kept.of_below hB3 (fun k hk => hk.1)⟩
          · have hfd : decide (most ≤ (n : Int)) = false := by simpa using hf
            rw [hfd]
            have HF := hid hf
            clear hf hfd
            obtain ⟨k, hk⟩ : ∃ k : Nat, id = k := ⟨id.toNat, by have := HM.out; omega⟩
            have HK := hid hk
            rw [HK.out]
            clear hk
            have hkl : k < 65536 := by have := HM.out; have := HK.out; omega
            go_wp2_with (refine (turn_calls A S k most ws w3 hI3 hkl).mono ?_; rintro e w4 ⟨rfl, hI4, hk4, hs4⟩)
            rw [jump_ret]
            go_ret2
            have hc : Ib.comes (Ib.ids ws) most id = (true, 0) := by rw [Ib.comes, if_pos HM.out, HH.out, ← HN.out, if_neg Bool.false_ne_true, if_neg (by have := HF.out; omega)]
            rw [← HK.out, hc]
            refine ⟨rfl, ?_, ?_⟩
            · rw [Ib.behind, if_pos rfl, HK.out]; exact hI4
            · exact Kept.trans (Kept.of_below hB3 (fun k hk => hk.1)) (Kept.shrink hk4 fun b hb => ⟨Nat.lt_of_lt_of_le hb.1 hB3.size, hb.2⟩)
    · have hd : decide (1 ≤ id ∧ id ≤ 65535) = false := by simpa using hm
      have HM := hid hm
      clear hm
      go_wp2_with (first
        | (refine (none_full A S w c0).mono ?_; rintro e w' ⟨rfl, rfl⟩)
        | (refine (may_calls id w).mono ?_; rintro e w' ⟨rfl, rfl⟩; rw [hd]))
      refine wp_goto ?_
      refine ⟨rfl, _, _, _, _, _, _, _, _, _, _, _, _, _, _, _, _, _, _, _, _, rfl, ?_⟩
      exact ⟨by rw [Ib.comes, if_neg HM.out], h, Kept.refl _ _⟩
  · rintro x u6 u7 u8 u9 u10 u11 u12 u13 u14 u15 u16 u17 u18 u19 u20 u21 u22 u23 u24 w' hR
    go_wp2
    rw [jump_ret]
    go_ret2
    exact HPASS.out x w' hR
theorem go_none (id : Int) (p : Option Addr) (w : World) (hn : Calls Tryd.prog 23 #[.pointer p] w fun e w' => e = .returned (.bool true) ∧ w = w') : Calls Tryd.prog 18 #[.pointer p, .int .i64 id] w fun e w' =>
    e = .returned (.tuple #[.bool false, .int .i64 1]) ∧ w = w' := by
  have HN := hid hn
  clear hn
  go_enter Tryd.func18, Tryd.ntmps18
  go_wp2_with (refine HN.out.mono ?_; rintro e w' ⟨rfl, rfl⟩)
  go_ret2
  exact ⟨rfl, rfl⟩
set_option maxHeartbeats 1000000 in
theorem go_calls (A S : Nat) (most : Int) (ws : List Nat) (id : Int) (w : World) (h : InAt w A S most ws) (h0 : ¬ 0 ∈ Ib.ids ws) : Calls Tryd.prog 18 #[.pointer (some ⟨A, 0, none⟩), .int .i64 id] w fun e w' =>
    e = .returned (.tuple #[.bool (Ib.goes (Ib.ids ws) id).1, .int .i64 (Ib.goes (Ib.ids ws) id).2]) ∧ InAt w' A S most (Ib.behind ws (Ib.goes (Ib.ids ws) id) id) ∧ Kept (fun b => b < w.heap.size ∧ b ≠ S) w w' := by
  have c0 := h.1.cell 0
  simp only [List.getElem?_cons_zero] at c0
  go_enter Tryd.func18, Tryd.ntmps18
  by_cases hm : 1 ≤ id ∧ id ≤ 65535
  · have hd : decide (1 ≤ id ∧ id ≤ 65535) = true := by simpa using hm
    obtain ⟨k, rfl⟩ : ∃ k : Nat, id = k := ⟨id.toNat, by omega⟩
    have hkl : k < 65536 := by omega
    have HM := hid hm
    clear hm
    cases hh : has (Ib.ids ws) (k : Int) with
    | true =>
      have hc : Ib.goes (Ib.ids ws) (k : Int) = (true, 0) := by rw [Ib.goes, if_pos HM.out, hh]
      have HC := hid hc
      clear hc
      go_wp2_with (first
        | (refine (none_full A S w c0).mono ?_; rintro e w' ⟨rfl, rfl⟩)
        | (refine (may_calls (k : Int) w).mono ?_; rintro e w' ⟨rfl, rfl⟩; rw [hd])
        | (refine (has_calls A S most ws k w h h0).mono ?_; rintro e w' ⟨rfl, m, rfl⟩; rw [hh])
        | (refine (turn_calls A S k most ws (World.drewN w m) h hkl).mono ?_; rintro e w4 ⟨rfl, hI4, hk4, hs4⟩))
      go_ret2
      rw [HC.out]
      exact ⟨rfl, hI4, (Kept.drewN _ w m).trans hk4⟩
    | false =>
      have hc : Ib.goes (Ib.ids ws) (k : Int) = (false, 0) := by rw [Ib.goes, if_pos HM.out, hh]
      have HC := hid hc
      clear hc
      go_wp2_with (first
        | (refine (none_full A S w c0).mono ?_; rintro e w' ⟨rfl, rfl⟩)
        | (refine (may_calls (k : Int) w).mono ?_; rintro e w' ⟨rfl, rfl⟩; rw [hd])
        | (refine (has_calls A S most ws k w h h0).mono ?_; rintro e w' ⟨rfl, m, rfl⟩; rw [hh]))
      go_ret2
      rw [HC.out]
      exact ⟨rfl, h, Kept.drewN _ w m⟩
  · have hd : decide (1 ≤ id ∧ id ≤ 65535) = false := by simpa using hm
    have HC := hid (show Ib.goes (Ib.ids ws) id = (false, 2) by rw [Ib.goes, if_neg hm])
    clear hm
    go_wp2_with (first
      | (refine (none_full A S w c0).mono ?_; rintro e w' ⟨rfl, rfl⟩)
      | (refine (may_calls id w).mono ?_; rintro e w' ⟨rfl, rfl⟩; rw [hd]))
    go_ret2
    rw [HC.out]
    exact ⟨rfl, h, Kept.refl _ _⟩
end Go.Proofs.YtnhcikbglcaboaaDoor
