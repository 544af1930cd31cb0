/-
  A writer: the walks of Number, Truth, Text.
-/
import Derived.Test.YtkpadhjlopcejaaPut
namespace Go.Proofs.Ytkpadhjlopcejaa
open Go.RowKit
/-- what lies in a writer, and what it answers, behind bytes that it was given, or a refusal -/
def written (l : List UInt8) (x : Option (List UInt8)) (no : Int) : List UInt8 × Int :=
  match x with
  | none => (l, no)
  | some b => if 65536 < l.length + b.length then (l, 3) else (l ++ b, 0)
def WEnd (r : List UInt8 × Int) (P : Nat) (v : Value) (w : World) (e : Ending) (w' : World) : Prop :=
  ∃ v', e = .returned (.int .i64 r.2) ∧ WrAt w' P v' r.1 ∧ Kept (fun k => k < w.heap.size ∧ k ≠ P ∧ v.ownBlock ≠ some k) w w' ∧ (v'.ownBlock = v.ownBlock ∨ ∃ k, v'.ownBlock = some k ∧ w.heap.size ≤ k)
theorem wend_same {l : List UInt8} {P : Nat} {v : Value} {w w' : World} {no : Int} (h : WrAt w P v l) (hb : Below w.heap.size w w') : WEnd (l, no) P v w (.returned (.int .i64 no)) w' :=
  ⟨v, rfl, h.grows hb, Kept.of_below hb fun _ h => h.1, .inl rfl⟩
theorem wend_put {l lb : List UInt8} {P : Nat} {v : Value} {w w1 w' : World} {e : Ending} {no : Int} (hb : Below w.heap.size w w1) (hp : PutEnd l lb P v w1 e w') : WEnd (written l (some lb) no) P v w e w' := by
  unfold PutEnd at hp
  unfold written
  have hz := hb.size
  by_cases hbig : 65536 < l.length + lb.length
  · rw [if_pos hbig] at hp
    simp only [hbig, if_true]
    obtain ⟨rfl, h1, h2⟩ := hp
    exact ⟨v, rfl, h1, Kept.of_below (hb.trans (h2.mono hz)) fun _ h => h.1, .inl rfl⟩
  · rw [if_neg hbig] at hp
    simp only [hbig, if_false]
    obtain ⟨v', rfl, h1, h2, h3⟩ := hp
    refine ⟨v', rfl, h1, (Kept.of_below hb fun _ h => h.1).trans (h2.shrink fun k hk => ⟨by omega, hk.2⟩), ?_⟩
    rcases h3 with h3 | ⟨k, h3, h4⟩
    · exact .inl h3
    · exact .inr ⟨k, h3, by omega⟩
/-- a number in so many bytes, if it may be -/
def numB (n : Nat) (k : Int) : Option (List UInt8) := if (1 ≤ k ∧ k ≤ 8) ∧ n < 256 ^ k.toNat then some (be n k.toNat) else none
theorem num_scope {c rest : Code} (R : Int → World → Prop) (Q : Exit → Act → World → Prop) (a : Act) (w : World) (hf : findLabel c 0 = some rest)
    (first : c.wp Try.prog (Exit.jump 0 (fun a' w' => ∃ (x : Int) (u0 u1 u2 u3 u4 u5 u7 u8 u9 u10 u11 u12 u13 u14 u15 u16 u17 u18 u19 u20 u21 u22 u23 u24 u25 u26 u27 u28 : Value), a' = { tmps := #[u0, u1, u2, u3, u4, u5, .int .i64 x, u7, u8, u9, u10, u11, u12, u13, u14, u15, u16, u17, u18, u19, u20, u21, u22, u23, u24, u25, u26, u27, u28], defers := [] } ∧ R x w') Q) a w)
    (pass : ∀ (x : Int) (u0 u1 u2 u3 u4 u5 u7 u8 u9 u10 u11 u12 u13 u14 u15 u16 u17 u18 u19 u20 u21 u22 u23 u24 u25 u26 u27 u28 : Value) w', R x w' → rest.wp Try.prog (Exit.jump 0 (fun _ _ => False) Q) { tmps := #[u0, u1, u2, u3, u4, u5, .int .i64 x, u7, u8, u9, u10, u11, u12, u13, u14, u15, u16, u17, u18, u19, u20, u21, u22, u23, u24, u25, u26, u27, u28], defers := [] } w') : (Code.scope c).wp Try.prog Q a w := by
  refine wp_scope_jumps 0 _ (fun _ _ => 0) hf first ?_
  rintro a' w' ⟨x, u0, u1, u2, u3, u4, u5, u7, u8, u9, u10, u11, u12, u13, u14, u15, u16, u17, u18, u19, u20, u21, u22, u23, u24, u25, u26, u27, u28, rfl, hR⟩
  refine Code.wp_mono ?_ (pass x u0 u1 u2 u3 u4 u5 u7 u8 u9 u10 u11 u12 u13 u14 u15 u16 u17 u18 u19 u20 u21 u22 u23 u24 u25 u26 u27 u28 w' hR)
  intro e a'' w'' h
  cases e <;> first | exact h | exact h.2.elim
theorem jump_ret (l : Nat) (J : Act → World → Prop) (Q : Exit → Act → World → Prop) (a : Act) (w : World) : Exit.jump l J Q .ret a w = Q .ret a w := rfl
theorem number_none (p : Option Addr) (n k : Int) (w : World) (hn : Calls Try.prog 48 #[.pointer p] w fun e w' => e = .returned (.bool true) ∧ w = w') : Calls Try.prog 19 #[.pointer p, .int .u64 n, .int .i64 k] w fun e w' =>
    e = .returned (.int .i64 1) ∧ w = w' := by
  have HN := hid hn
  clear hn
  go_enter Try.func19, Try.ntmps19
  go_wp2
  refine num_scope (fun x w' => x = 1 ∧ w = w') _ _ _ rfl ?_ ?_
  · go_wp2_with (refine HN.out.mono ?_; rintro e w' ⟨rfl, rfl⟩)
    refine wp_goto ?_
    refine ⟨rfl, _, _, _, _, _, _, _, _, _, _, _, _, _, _, _, _, _, _, _, _, _, _, _, _, _, _, _, _, _, rfl, ?_⟩
    exact ⟨rfl, rfl⟩
  · rintro x u0 u1 u2 u3 u4 u5 u7 u8 u9 u10 u11 u12 u13 u14 u15 u16 u17 u18 u19 u20 u21 u22 u23 u24 u25 u26 u27 u28 w' ⟨rfl, rfl⟩
    go_wp2
    rw [jump_ret]
    go_ret
    exact ⟨rfl, rfl⟩
theorem shr_zero (n k : Nat) (h : n < 256 ^ k) : ¬ (0 < (n : Int) / 2 ^ (8 * k)) := by
  rw [show (2 : Int) ^ (8 * k) = ((256 ^ k : Nat) : Int) from by rw [Int.pow_mul]; simp]
  have e : (n : Int) / ((256 ^ k : Nat) : Int) = ((n / 256 ^ k : Nat) : Int) := rfl
  rw [e, Nat.div_eq_of_lt h]; decide
theorem shr_pos (n k : Nat) (h : ¬ n < 256 ^ k) : 0 < (n : Int) / 2 ^ (8 * k) := by
  rw [show (2 : Int) ^ (8 * k) = ((256 ^ k : Nat) : Int) from by rw [Int.pow_mul]; simp]
  have e : (n : Int) / ((256 ^ k : Nat) : Int) = ((n / 256 ^ k : Nat) : Int) := rfl
  have := Nat.div_pos (show 256 ^ k ≤ n by omega) (Nat.pow_pos (by decide))
  rw [e]; omega
set_option maxRecDepth 10000 in
set_option maxHeartbeats 1000000 in
theorem number_calls (P : Nat) (v : Value) (l : List UInt8) (n : Nat) (k : Int) (w : World) (h : WrAt w P v l) (hn : n < 18446744073709551616) : Calls Try.prog 19 #[.pointer (some ⟨P, 0, none⟩), .int .u64 (n : Int), .int .i64 k] w (WEnd (written l (numB n k) 2) P v w) := by
  have c1 := h.1.cell 1
  simp only [List.getElem?_cons_zero, List.getElem?_cons_succ] at c1
  have H := hid h
  have HN := hid hn
  have HW := hid (wide_calls k)
  clear h hn
  by_cases hk : 1 ≤ k ∧ k ≤ 8
  · obtain ⟨m, rfl⟩ : ∃ m : Nat, k = m := ⟨k.toNat, by omega⟩
    rw [decide_eq_true hk] at HW
    have hm : m ≤ 8 := by omega
    have i1 : (1 : Int) ≤ (m : Int) := hk.1
    have i2 : (m : Int) ≤ 8 := hk.2
    have HK := hid hk
    clear hk
    by_cases hfit : n < 256 ^ m
    · have e : numB n m = some (be n m) := by unfold numB; rw [if_pos ⟨HK.out, by rw [Int.toNat_natCast]; exact hfit⟩, Int.toNat_natCast]
      have HE := hid e
      have hz := shr_zero n m hfit
      have HL := hid (laid_calls n m w HN.out hm)
      clear e hfit
      have hend : ∀ e w', WEnd (written l (some (be n m)) 2) P v w e w' → WEnd (written l (numB n m) 2) P v w e w' := by rw [HE.out]; exact fun _ _ h => h
      have HEND := hid hend
      clear hend
      go_enter Try.func19, Try.ntmps19
      go_wp2
      refine num_scope (fun _ _ => False) _ _ _ rfl ?_ ?_
      · by_cases h8 : (m : Int) < 8
        all_goals
          go_wp2_with fail
          refine (wnone_at P true _ c1).mono ?_
          rintro e w' ⟨rfl, rfl⟩
          go_wp2_with fail
          refine (HW.out _).mono ?_
          rintro e w' ⟨rfl, rfl⟩
          go_wp2_with fail
          refine HL.out.mono ?_
          rintro e w1 ⟨vb, rfl, ho, hb⟩
          have hput := hid (put_calls P v vb l (be n m) _ w1 (H.out.grows hb) ho.part (by rw [be_length]; omega))
          have HB := hid hb
          clear ho hb
          go_wp2_with fail
          refine hput.out.mono ?_
          intro e w2 hp
          have HP := hid (HEND.out e w2 (wend_put HB.out hp))
          clear hp
          obtain ⟨v', rfl, hr⟩ := HP.out
          clear hr
          go_wp2_with fail
          rw [jump_ret]
          go_ret
          exact HP.out
      · rintro x u0 u1 u2 u3 u4 u5 u7 u8 u9 u10 u11 u12 u13 u14 u15 u16 u17 u18 u19 u20 u21 u22 u23 u24 u25 u26 u27 u28 w' hf
        exact hf.elim
    · have e : numB n m = none := by unfold numB; rw [if_neg (fun h => hfit (by rw [Int.toNat_natCast] at h; exact h.2))]
      have HE := hid e
      have hz := shr_pos n m hfit
      have i3 : (m : Int) < 8 := by
        rcases Nat.lt_or_ge m 8 with h | h
        · omega
        · have h8 : m = 8 := by omega
          subst h8
          have e2 : (256 : Nat) ^ 8 = 18446744073709551616 := by decide
          rw [e2] at hfit
          exact absurd HN.out hfit
      clear e hfit hm i2
      go_enter Try.func19, Try.ntmps19
      go_wp2
      refine num_scope (fun x w' => x = 2 ∧ w = w') _ _ _ rfl ?_ ?_
      · go_wp2_with fail
        refine (wnone_at P true _ c1).mono ?_
        rintro e w' ⟨rfl, rfl⟩
        go_wp2_with fail
        refine (HW.out _).mono ?_
        rintro e w' ⟨rfl, rfl⟩
        go_wp2_with fail
        refine wp_goto ?_
        refine ⟨rfl, _, _, _, _, _, _, _, _, _, _, _, _, _, _, _, _, _, _, _, _, _, _, _, _, _, _, _, _, _, rfl, ?_⟩
        exact ⟨rfl, rfl⟩
      · rintro x u0 u1 u2 u3 u4 u5 u7 u8 u9 u10 u11 u12 u13 u14 u15 u16 u17 u18 u19 u20 u21 u22 u23 u24 u25 u26 u27 u28 w' ⟨rfl, rfl⟩
        go_wp2
        rw [jump_ret]
        go_ret
        rw [HE.out]
        exact wend_same H.out (Below.refl _ _)
  · rw [decide_eq_false hk] at HW
    have e : numB n k = none := by unfold numB; rw [if_neg (fun h => hk h.1)]
    have HE := hid e
    clear e hk
    go_enter Try.func19, Try.ntmps19
    go_wp2
    refine num_scope (fun x w' => x = 2 ∧ w = w') _ _ _ rfl ?_ ?_
    · go_wp2_with fail
      refine (wnone_at P true _ c1).mono ?_
      rintro e w' ⟨rfl, rfl⟩
      go_wp2_with fail
      refine (HW.out _).mono ?_
      rintro e w' ⟨rfl, rfl⟩
      go_wp2_with fail
      refine wp_goto ?_
      refine ⟨rfl, _, _, _, _, _, _, _, _, _, _, _, _, _, _, _, _, _, _, _, _, _, _, _, _, _, _, _, _, _, rfl, ?_⟩
      exact ⟨rfl, rfl⟩
    · rintro x u0 u1 u2 u3 u4 u5 u7 u8 u9 u10 u11 u12 u13 u14 u15 u16 u17 u18 u19 u20 u21 u22 u23 u24 u25 u26 u27 u28 w' ⟨rfl, rfl⟩
      go_wp2
      rw [jump_ret]
      go_ret
      rw [HE.out]
      exact wend_same H.out (Below.refl _ _)
end Go.Proofs.Ytkpadhjlopcejaa
