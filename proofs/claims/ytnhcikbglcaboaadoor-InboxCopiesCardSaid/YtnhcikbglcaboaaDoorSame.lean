/-
  Are two inboxes the same: its walk.
-/
import Derived.Test.YtnhcikbglcaboaaDoorWords
namespace Go.Proofs.YtnhcikbglcaboaaDoor
open Go.RowKit Go.Shelf Go.BigFrame
theorem load_words {w : World} {S : Nat} {ws : List Nat} (h : SetAt w S ws) : (loadVar 53 ⟨S, 0, none⟩).run Tryd.prog w = .ok (.agg (wordVals ws)) w := by
  obtain ⟨⟨t, hb⟩, hl, _⟩ := h
  refine run_loadVar_row w S t 53 _ (0, 0) (.array 1024 51) hb Tryd.underlying53 rfl ?_
  rw [show (wordVals ws).size = 1024 by simp [wordVals, hl]]
  kernel_rfl
theorem quiet_load {C : World → Prop} {K : Act → Prop} {a : Act} {o : Oper} (x : Operand) (S : Nat) (z : Array Value) (ho : o.op = .load 53 x) (hx : a.eval x = .pointer (some ⟨S, 0, none⟩))
    (hl : ∀ w, C w → (loadVar 53 ⟨S, 0, none⟩).run Tryd.prog w = .ok (.agg z) w) (hk : K (a.put o.dst (.agg z))) : o.quiet Tryd.prog a C K :=
  ⟨.agg z, fun w hw => by
    unfold Oper.quietAt execOp
    simp only [ho, hx, Instr.loadAt, Instr.sureAddr, Sem.run_bind, Sem.run_pure, Result.andThen_ok, hl w hw]
    exact ⟨rfl, rfl⟩, hk⟩
theorem guard_eql (w : World) (x y : Operand) (z1 z2 : Array Value) : (eqGuard .eql 53 x y (.agg z1) (.agg z2)).run Tryd.prog w = .ok () w := by
  have h : Tryd.prog.eqGuardType Tryd.prog.depth 53 = false := by kernel_rfl
  unfold eqGuard
  simp [h]
theorem quiet_eql {C : World → Prop} {K : Act → Prop} {a : Act} {o : Oper} (x y : Operand) (z1 z2 : Array Value) (q : Bool) (ho : o.op = .binOp .eql 53 x y 53) (hx : a.eval x = .agg z1) (hy : a.eval y = .agg z2)
    (hl : ∀ w, C w → (binOp .eql 53 (.agg z1) (.agg z2)).run Tryd.prog w = .ok (.bool q) w) (hk : K (a.put o.dst (.bool q))) : o.quiet Tryd.prog a C K :=
  ⟨.bool q, fun w hw => by
    unfold Oper.quietAt execOp
    simp only [ho, hx, hy, Sem.run_bind, guard_eql, hl w hw, Sem.run_pure, Result.andThen_ok]
    exact ⟨rfl, rfl⟩, hk⟩
theorem isame_full (A S A2 S2 : Nat) (most most2 : Int) (ws ws2 : List Nat) (w : World) (h : InAt w A S most ws) (h2 : InAt w A2 S2 most2 ws2) (hm : most = most2) :
    Calls Tryd.prog 19 #[.pointer (some ⟨A, 0, none⟩), .pointer (some ⟨A2, 0, none⟩)] w fun e w' => e = .returned (.bool (decide (ws = ws2))) ∧ ∃ m, w' = World.drewN w m := by
  have c0 := h.1.cell 0
  have c1 := h.1.cell 1
  have d0 := h2.1.cell 0
  have d1 := h2.1.cell 1
  simp only [List.getElem?_cons_zero, List.getElem?_cons_succ] at c0 c1 d0 d1
  subst hm
  have HI := hid h
  have HI2 := hid h2
  clear h h2
  go_enter Tryd.func19, Tryd.ntmps19
  go_wp2_with fail
  refine (none_full A S w c0).mono ?_
  rintro e w' ⟨rfl, rfl⟩
  go_wp2_with fail
  refine (none_full A2 S2 w d0).mono ?_
  rintro e w' ⟨rfl, rfl⟩
  have hl1 : Hid (∀ w1 : World, (∃ m, w1 = World.drewN w m) → (loadVar 53 ⟨S, 0, none⟩).run Tryd.prog w1 = .ok (.agg (wordVals ws)) w1) := fun w1 ⟨m, hm⟩ => by subst hm; exact load_words (w := World.drewN w m) HI.out.2.1
  have hl2 : Hid (∀ w1 : World, (∃ m, w1 = World.drewN w m) → (loadVar 53 ⟨S2, 0, none⟩).run Tryd.prog w1 = .ok (.agg (wordVals ws2)) w1) := fun w1 ⟨m, hm⟩ => by subst hm; exact load_words (w := World.drewN w m) HI2.out.2.1
  have he : Hid (∀ w1 : World, (∃ m, w1 = World.drewN w m) → (binOp .eql 53 (.agg (wordVals ws)) (.agg (wordVals ws2))).run Tryd.prog w1 = .ok (.bool (decide (ws = ws2))) w1) := fun w1 ⟨m, hm⟩ => run_eql_words _ ws ws2 HI.out.2.1.2.1 HI2.out.2.1.2.1
  obtain ⟨q, hq⟩ : ∃ q, q = decide (ws = ws2) := ⟨_, rfl⟩
  rw [← hq] at he
  have HQ := hid hq
  clear hq
  generalize wordVals ws = z1 at hl1 he
  generalize wordVals ws2 = z2 at hl2 he
  go_wp2_with fail
  refine wp_region_quiet_lit (by kernel_rfl) (by kernel_rfl) ?_
  iterate 15 go_big_quiet_step (fail)
  go_big_quiet_want
  refine quiet_load (.tmp 31) S z1 rfl rfl hl1.out ?_
  simp only [Act.put, List.setIfInBounds_toArray, List.set_cons_succ, List.set_cons_zero]
  go_big_quiet_on
  iterate 5 go_big_quiet_step (fail)
  go_big_quiet_want
  refine quiet_load (.tmp 37) S2 z2 rfl rfl hl2.out ?_
  simp only [Act.put, List.setIfInBounds_toArray, List.set_cons_succ, List.set_cons_zero]
  go_big_quiet_on
  go_big_quiet_want
  refine quiet_eql (.tmp 32) (.tmp 38) z1 z2 q rfl rfl rfl he.out ?_
  simp only [Act.put, List.setIfInBounds_toArray, List.set_cons_succ, List.set_cons_zero]
  go_big_quiet_on
  go_big_quiet_step (fail)
  go_big_quiet_step (fail)
  refine wpQuiet_nil ?_
  intro _ hw'
  obtain ⟨nq, hw''⟩ := hw'
  subst hw''
  go_wp2_with fail
  go_ret
  rw [← HQ.out]
  exact ⟨rfl, _, rfl⟩
theorem isame_most (A S A2 S2 : Nat) (most most2 : Int) (ws ws2 : List Nat) (w : World) (h : InAt w A S most ws) (h2 : InAt w A2 S2 most2 ws2) (hm : most ≠ most2) :
    Calls Tryd.prog 19 #[.pointer (some ⟨A, 0, none⟩), .pointer (some ⟨A2, 0, none⟩)] w fun e w' => e = .returned (.bool false) ∧ ∃ m, w' = World.drewN w m := by
  have c0 := h.1.cell 0
  have c1 := h.1.cell 1
  have d0 := h2.1.cell 0
  have d1 := h2.1.cell 1
  simp only [List.getElem?_cons_zero, List.getElem?_cons_succ] at c0 c1 d0 d1
  have hb : (most == most2) = false := by simpa using hm
  clear h h2
  go_enter Tryd.func19, Tryd.ntmps19
  go_wp2_with fail
  refine (none_full A S w c0).mono ?_
  rintro e w' ⟨rfl, rfl⟩
  go_wp2_with fail
  refine (none_full A2 S2 w d0).mono ?_
  rintro e w' ⟨rfl, rfl⟩
  go_wp2_with fail
  go_quiet (fail)
  go_wp2_with fail
  go_ret
  exact ⟨rfl, _, rfl⟩
/-- the second one is not there -/
theorem isame_nil (A S : Nat) (most : Int) (ws : List Nat) (w : World) (h : InAt w A S most ws) :
    Calls Tryd.prog 19 #[.pointer (some ⟨A, 0, none⟩), .pointer none] w fun e w' => e = .returned (.bool false) ∧ w = w' := by
  have c0 := h.1.cell 0
  simp only [List.getElem?_cons_zero] at c0
  clear h
  go_enter Tryd.func19, Tryd.ntmps19
  go_wp2_with fail
  refine (none_full A S w c0).mono ?_
  rintro e w' ⟨rfl, rfl⟩
  go_wp2_with fail
  refine (none_nil w).mono ?_
  rintro e w' ⟨rfl, rfl⟩
  go_wp2_with fail
  refine (none_full A S w c0).mono ?_
  rintro e w' ⟨rfl, rfl⟩
  go_wp2_with fail
  go_ret
  exact ⟨rfl, rfl⟩
/-- none of both is there -/
theorem isame_none (A : Nat) (w : World) (c0 : w.cell? ⟨A, 0, none⟩ = some (.pointer none)) :
    Calls Tryd.prog 19 #[.pointer none, .pointer (some ⟨A, 0, none⟩)] w fun e w' => e = .returned (.bool true) ∧ w = w' := by
  go_enter Tryd.func19, Tryd.ntmps19
  go_wp2_with fail
  refine (none_nil w).mono ?_
  rintro e w' ⟨rfl, rfl⟩
  go_wp2_with fail
  refine (none_nil w).mono ?_
  rintro e w' ⟨rfl, rfl⟩
  go_wp2_with fail
  refine (none_hollow A w c0).mono ?_
  rintro e w' ⟨rfl, rfl⟩
  go_wp2_with fail
  go_ret
  exact ⟨rfl, rfl⟩
theorem ids_inj {ws ws2 : List Nat} (hl : ws.length = 1024) (hl2 : ws2.length = 1024) (hb : ∀ x ∈ ws, x < 18446744073709551616) (hb2 : ∀ x ∈ ws2, x < 18446744073709551616) (h : Ib.ids ws = Ib.ids ws2) : ws = ws2 := by
  apply List.ext_getElem (by omega)
  intro i h1 h2
  apply Nat.eq_of_testBit_eq
  intro b
  by_cases hb64 : b < 64
  · have e1 : (64 * i + b) / 64 = i := by omega
    have e2 : (64 * i + b) % 64 = b := by omega
    have k := Ib.mem_ids (ws := ws) (x := 64 * i + b)
    have k2 := Ib.mem_ids (ws := ws2) (x := 64 * i + b)
    rw [e1, e2, List.getD_eq_getElem?_getD, List.getElem?_eq_getElem h1, Option.getD_some] at k
    rw [e1, e2, List.getD_eq_getElem?_getD, List.getElem?_eq_getElem h2, Option.getD_some] at k2
    rw [h] at k
    have hlt : 64 * i + b < 65536 := by omega
    rw [Bool.eq_iff_iff]
    exact ⟨fun x => (k2.1 (k.2 ⟨hlt, x⟩)).2, fun x => (k.1 (k2.2 ⟨hlt, x⟩)).2⟩
  · have g1 := hb _ (List.getElem_mem h1)
    have g2 := hb2 _ (List.getElem_mem h2)
    have p : (18446744073709551616 : Nat) ≤ 2 ^ b := Nat.le_trans (show 18446744073709551616 ≤ 2 ^ 64 by decide) (Nat.pow_le_pow_right (by decide) (by omega))
    rw [Nat.testBit_lt_two_pow (Nat.lt_of_lt_of_le g1 p), Nat.testBit_lt_two_pow (Nat.lt_of_lt_of_le g2 p)]
theorem isame_calls {B A S A2 S2 : Nat} {w0 w : World} {most most2 : Int} {l l2 : List Nat} (h : St B w0 w A S most l) (h2 : St B w0 w A2 S2 most2 l2) :
    Calls Tryd.prog 19 #[.pointer (some ⟨A, 0, none⟩), .pointer (some ⟨A2, 0, none⟩)] w fun e w' => e = .returned (.bool (decide (most = most2 ∧ l = l2))) ∧ ∃ m, w' = World.drewN w m := by
  obtain ⟨ws, hi, rfl, _⟩ := h.words
  obtain ⟨ws2, hi2, rfl, _⟩ := h2.words
  by_cases hm : most = most2
  · have e : decide (most = most2 ∧ Ib.ids ws = Ib.ids ws2) = decide (ws = ws2) := by
      rw [decide_eq_decide]
      exact ⟨fun x => ids_inj hi.2.1.2.1 hi2.2.1.2.1 hi.2.1.2.2 hi2.2.1.2.2 x.2, fun x => ⟨hm, by rw [x]⟩⟩
    rw [e]
    exact isame_full A S A2 S2 most most2 ws ws2 w hi hi2 hm
  · have e : decide (most = most2 ∧ Ib.ids ws = Ib.ids ws2) = false := by simp [hm]
    rw [e]
    exact isame_most A S A2 S2 most most2 ws ws2 w hi hi2 hm
end Go.Proofs.YtnhcikbglcaboaaDoor
