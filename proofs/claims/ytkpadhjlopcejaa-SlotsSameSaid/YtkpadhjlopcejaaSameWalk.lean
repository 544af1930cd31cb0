/-
  SlotsSame: its walk, and its arguments opened.
-/
import Derived.Test.YtkpadhjlopcejaaSKnown
import Derived.Test.YtkpadhjlopcejaaSSame
import Derived.Test.YtkpadhjlopcejaaSHalve
import Derived.Test.YtkpadhjlopcejaaSPages
namespace Go.Proofs.Ytkpadhjlopcejaa
open Go.RowKit Go.ChangeShapes Go.WideShapes Go.ChangeAt
theorem known_endS (w0 w : World) (hb : Below w0.heap.size w0 w) : Calls Try.prog 34 #[] w fun e w' => e = .returned (.bool true) ∧ Below w0.heap.size w0 w' :=
  (known_calls w).mono fun _ _ h => ⟨h.1, hb.trans (h.2.mono hb.size)⟩
def SmEnd (w : World) (e : Ending) (w' : World) : Prop := e = .returned (.bool true) ∧ Below w.heap.size w w'
/-- what the two loops keep: all that lay below B, and the pages of both parts -/
structure PgAt (B : Nat) (w2 : World) (v1 v2 : Value) (n1 n2 : Nat) (wr : World) : Prop where
  p1 : PagesAt wr v1 n1 B
  p2 : PagesAt wr v2 n2 B
  below : Below B w2 wr
theorem setCell_below {B g o : Nat} {w2 wr : World} (h : Below B w2 wr) (hg : B ≤ g) (u : Value) : Below B w2 (wr.setCell ⟨g, o, none⟩ u) :=
  kept_below h (((Kept.refl (fun q => q ≠ g) wr).setCell (by simp) u)) fun q hq => by omega
set_option maxRecDepth 100000 in
set_option maxHeartbeats 16000000 in
theorem ssame_walk (k : Int) (va vb : Value) (xs ys : List Cl) (w : World) (hp : PartC (fun q => q < w.heap.size) w va xs) (hq : PartC (fun q => q < w.heap.size) w vb ys) : Calls Try.prog 15 #[.int .i64 k, va, vb] w (SmEnd w) := by
  have HP := hid (fun (w' : World) (hb : Below w.heap.size w w') => (hp.below hb).mono (ok' := fun q => q < w'.heap.size) fun q hq => Nat.lt_of_lt_of_le hq hb.size)
  have HQ := hid (fun (w' : World) (hb : Below w.heap.size w w') => (hq.below hb).mono (ok' := fun q => q < w'.heap.size) fun q hq => Nat.lt_of_lt_of_le hq hb.size)
  have HV := hid hp
  obtain ⟨a, cap, rfl, hx, -, -, -⟩ := hp
  obtain ⟨b, cbp, rfl, hy, -, -, -⟩ := hq
  have HF := hid (fewc_calls a cap xs _ w hx)
  have HG := hid (fewc_calls b cbp ys _ w hy)
  have HK := hid (known_endS w w (Below.refl _ _))
  generalize hL : xs.length = L at *
  generalize hM : ys.length = M at *
  have HL := hid hL
  have HM := hid hM
  clear hx hy hL hM
  go_enter Try.func15, Try.ntmps15
  go_wp2_with fail
  refine HF.out.mono ?_
  rintro e w1 ⟨q, rfl, rfl, hb⟩
  cases q
  · go_wp2_with fail
    refine HK.out.mono ?_
    rintro e w2 ⟨rfl, b2⟩
    have HB2 := hid b2
    clear b2
    go_wp2_with fail
    go_ret
    exact ⟨rfl, HB2.out⟩
  have HN := hid (show xs.length ≤ 400 by have := (hb rfl).1; omega)
  clear hb
  go_wp2_with fail
  refine HG.out.mono ?_
  rintro e w1 ⟨q, rfl, rfl, hb⟩
  cases q
  · go_wp2_with fail
    refine HK.out.mono ?_
    rintro e w2 ⟨rfl, b2⟩
    have HB2 := hid b2
    clear b2
    go_wp2_with fail
    go_ret
    exact ⟨rfl, HB2.out⟩
  clear hb
  have HLN := hid (show ([] : List Cl).length + xs.length ≤ 1099511627776 by have := HN.out; simp; omega)
  go_wp2_with (at_builtin; refine wpList_appendCp rfl (.const (.slice none 0 0)) (.tmp 22) rfl w.heap.size _ [] rfl (OwnC.nil _ _) _ xs rfl _ HV.out HLN.out (Nat.le_refl _) ?_; intro v1 w1 hv hg ho; have HO1 := hid hv; have HB1 := hid (grown_belowC hg (OwnC.nil w w.heap.size) (Nat.le_refl _)); obtain ⟨a1, n1, c1, rfl⟩ : ∃ a n c, v1 = .slice a n c := (by obtain ⟨a, c, e, _⟩ := hv.part; exact ⟨a, _, c, e⟩); clear hv hg ho)
  refine (halve_calls k _ xs w1 (HP.out w1 HB1.out) HN.out).mono ?_
  rintro e w2 ⟨v1, v2, rfl, o1, o2, hap, b2⟩
  have hcs : ((if rightC k xs = true ∧ 2 ≤ xs.length then (0 : Int) else 2) = 0 ∧ 0 < (if rightC k xs = true ∧ 2 ≤ xs.length then xs.take (halveC (decide (k = 2)) xs) else []).length ∧ 0 < (if rightC k xs = true ∧ 2 ≤ xs.length then xs.drop (halveC (decide (k = 2)) xs) else []).length) ∨ ((if rightC k xs = true ∧ 2 ≤ xs.length then (0 : Int) else 2) = 2 ∧ (if rightC k xs = true ∧ 2 ≤ xs.length then xs.take (halveC (decide (k = 2)) xs) else []).length = 0) := by
    by_cases h : rightC k xs = true ∧ 2 ≤ xs.length
    · left
      simp only [if_pos h]
      have hs := (halveTo_spec (decide (k = 2)) xs (xs.length - 1) (by omega)).1
      refine ⟨trivial, ?_, ?_⟩
      · rw [List.length_take]; unfold halveC; omega
      · rw [List.length_drop]; unfold halveC; omega
    · right
      simp only [if_neg h]
      exact ⟨trivial, rfl⟩
  generalize (if rightC k xs = true ∧ 2 ≤ xs.length then (0 : Int) else 2) = ec at *
  generalize (if rightC k xs = true ∧ 2 ≤ xs.length then xs.take (halveC (decide (k = 2)) xs) else []) = l1 at *
  generalize (if rightC k xs = true ∧ 2 ≤ xs.length then xs.drop (halveC (decide (k = 2)) xs) else []) = l2 at *
  have HPG := hid (show PgAt w1.heap.size w2 v1 v2 l1.length l2.length w2 from ⟨o1.pages, o2.pages, Below.refl _ _⟩)
  have HB2 := hid b2
  have HAP := hid hap
  have HCS := hid hcs
  obtain ⟨x1, m1, rfl⟩ : ∃ a c, v1 = .slice a l1.length c := by obtain ⟨a, c, e, _⟩ := o1.part; exact ⟨a, c, e⟩
  obtain ⟨x2, m2, rfl⟩ : ∃ a c, v2 = .slice a l2.length c := by obtain ⟨a, c, e, _⟩ := o2.part; exact ⟨a, c, e⟩
  have HS1 := hid (show l1.length ≤ 9223372036854775807 by obtain ⟨_, _, e, _, h1, h2, _⟩ := o1.part; cases e; unfold maxLen at h2; omega)
  have HS2 := hid (show l2.length ≤ 9223372036854775807 by obtain ⟨_, _, e, _, h1, h2, _⟩ := o2.part; cases e; unfold maxLen at h2; omega)
  generalize l1.length = s1 at *
  generalize l2.length = s2 at *
  clear o1 o2 hap b2 hcs
  go_wp2_with fail
  go_loopw [11] (fun i wr => ∃ j : Nat, j ≤ s1 ∧ i = .int .i64 (j : Int) ∧ PgAt w1.heap.size w2 (.slice x1 s1 m1) (.slice x2 s2 m2) s1 s2 wr) (fun i _ => s1 - (intOf i).toNat)
  case atStart => exact ⟨0, Nat.zero_le _, rfl, HPG.out⟩
  case round =>
    obtain ⟨j, hj, rfl, hat⟩ := hrel
    have HAT := hid hat
    clear HPG
    by_cases hlt : j < s1
    · rcases id hat.p1 with ⟨_, h0⟩ | ⟨g, cg, e, hg, hc1, hc2, hpg⟩
      · omega
      · cases e
        obtain ⟨p, cp, fp⟩ := hpg j hlt
        have i0 : (j : Int) < (s1 : Int) := by omega
        have hw : IntKind.i64.wrap ((j : Int) + 1) = (j : Int) + 1 := IntWalk.i64_in _ (by have := HS1.out; omega)
        have HJ := hid hlt
        have HGB := hid hg
        clear hat hpg hlt hj hg hc1 hc2
        go_wp2_with fail
        go_roundw
        case rel =>
          exact ⟨j + 1, HJ.out, by go_num, HAT.out.p1.same j _ HJ.out, HAT.out.p2.other (HAP.out g rfl), setCell_below HAT.out.below HGB.out _⟩
        case measure => simp [intOf]; have := HJ.out; omega
    · obtain rfl : j = s1 := by omega
      have i0 : ¬ (j : Int) < (j : Int) := by omega
      clear hlt hj hat
      go_wp2_with fail
      go_loopw [12] (fun i wr => ∃ t : Nat, t ≤ s2 ∧ i = .int .i64 (t : Int) ∧ PgAt w1.heap.size w2 (.slice x1 j m1) (.slice x2 s2 m2) j s2 wr) (fun i _ => s2 - (intOf i).toNat)
      case atStart => exact ⟨0, Nat.zero_le _, rfl, HAT.out⟩
      case round =>
        obtain ⟨t, ht, rfl, hat⟩ := hrel
        have HAU := hid hat
        clear HAT
        by_cases hlt : t < s2
        · rcases id hat.p2 with ⟨_, h0⟩ | ⟨g, cg, e, hg, hc1, hc2, hpg⟩
          · omega
          · cases e
            obtain ⟨p, cp, fp⟩ := hpg t hlt
            have i0 : (t : Int) < (s2 : Int) := by omega
            have hw : IntKind.i64.wrap ((t : Int) + 1) = (t : Int) + 1 := IntWalk.i64_in _ (by have := HS2.out; omega)
            have HJ := hid hlt
            have HGB := hid hg
            clear hat hpg hlt ht hg hc1 hc2
            go_wp2_with fail
            go_roundw
            case rel =>
              exact ⟨t + 1, HJ.out, by go_num, HAU.out.p1.other (fun e => HAP.out g e rfl), HAU.out.p2.same t _ HJ.out, setCell_below HAU.out.below HGB.out _⟩
            case measure => simp [intOf]; have := HJ.out; omega
        · obtain rfl : t = s2 := by omega
          have i0 : ¬ (t : Int) < (t : Int) := by omega
          have hbw := HB2.out.trans HAU.out.below
          have HWAS := hid (HO1.out.below hbw)
          have HBW := hid (HB1.out.trans (hbw.mono HB1.out.size))
          have HA1 := hid (rsame_calls _ _ xs xs wr (HP.out wr HBW.out) HWAS.out.low)
          clear hbw hlt ht hat HAU
          rcases HCS.out with ⟨rfl, hj1, ht1⟩ | ⟨rfl, hj1⟩
          · have i1 : (0 : Int) < (j : Int) := by omega
            have i2 : (0 : Int) < (t : Int) := by omega
            clear hj1 ht1
            go_wp2_with fail
            refine HA1.out.mono ?_
            rintro e w3 ⟨r, rfl, hr3, b3⟩
            obtain rfl : r = true := hr3.2 rfl
            have HB3 := hid (HBW.out.trans (b3.mono HBW.out.size))
            have HW3 := hid (HWAS.out.below b3)
            clear hr3 b3
            go_wp2_with fail
            refine (same_calls _ _ xs ys w3 (HP.out w3 HB3.out) (HQ.out w3 HB3.out)).mono ?_
            rintro e w4 ⟨r1, rfl, hr4, b4⟩
            have HB4 := hid (HB3.out.trans (b4.mono HB3.out.size))
            have HW4 := hid (HW3.out.below b4)
            have HR4 := hid hr4
            clear hr4 b4
            go_wp2_with fail
            refine (rsame_calls _ _ xs ys w4 (HP.out w4 HB4.out) (HQ.out w4 HB4.out)).mono ?_
            rintro e w5 ⟨r2, rfl, hr5, b5⟩
            obtain rfl : r2 = r1 := Bool.eq_iff_iff.2 (hr5.trans HR4.out.symm)
            have HB5 := hid (HB4.out.trans (b5.mono HB4.out.size))
            have HW5 := hid (HW4.out.below b5)
            clear hr5 b5
            go_wp2_with fail
            refine (same_calls _ _ xs xs w5 (HP.out w5 HB5.out) HW5.out.low).mono ?_
            rintro e w6 ⟨r, rfl, hr6, b6⟩
            obtain rfl : r = true := hr6.2 rfl
            have HB6 := hid (HB5.out.trans (b6.mono HB5.out.size))
            have HK6 := hid (known_endS w w6 HB6.out)
            clear hr6 b6
            go_wp2_with fail
            refine HK6.out.mono ?_
            rintro e w7 ⟨rfl, b7⟩
            have HB7 := hid b7
            clear b7
            go_wp2_with fail
            go_ret
            exact ⟨rfl, HB7.out⟩
          · have i1 : ¬ (0 : Int) < (j : Int) := by omega
            clear hj1
            go_wp2_with fail
            refine HA1.out.mono ?_
            rintro e w3 ⟨r, rfl, hr3, b3⟩
            obtain rfl : r = true := hr3.2 rfl
            have HB3 := hid (HBW.out.trans (b3.mono HBW.out.size))
            have HW3 := hid (HWAS.out.below b3)
            clear hr3 b3
            go_wp2_with fail
            refine (same_calls _ _ xs ys w3 (HP.out w3 HB3.out) (HQ.out w3 HB3.out)).mono ?_
            rintro e w4 ⟨r1, rfl, hr4, b4⟩
            have HB4 := hid (HB3.out.trans (b4.mono HB3.out.size))
            have HW4 := hid (HW3.out.below b4)
            have HR4 := hid hr4
            clear hr4 b4
            go_wp2_with fail
            refine (rsame_calls _ _ xs ys w4 (HP.out w4 HB4.out) (HQ.out w4 HB4.out)).mono ?_
            rintro e w5 ⟨r2, rfl, hr5, b5⟩
            obtain rfl : r2 = r1 := Bool.eq_iff_iff.2 (hr5.trans HR4.out.symm)
            have HB5 := hid (HB4.out.trans (b5.mono HB4.out.size))
            have HW5 := hid (HW4.out.below b5)
            clear hr5 b5
            go_wp2_with fail
            refine (same_calls _ _ xs xs w5 (HP.out w5 HB5.out) HW5.out.low).mono ?_
            rintro e w6 ⟨r, rfl, hr6, b6⟩
            obtain rfl : r = true := hr6.2 rfl
            have HB6 := hid (HB5.out.trans (b6.mono HB5.out.size))
            have HK6 := hid (known_endS w w6 HB6.out)
            clear hr6 b6
            go_wp2_with fail
            refine HK6.out.mono ?_
            rintro e w7 ⟨rfl, b7⟩
            have HB7 := hid b7
            clear b7
            go_wp2_with fail
            go_ret
            exact ⟨rfl, HB7.out⟩
set_option maxRecDepth 100000 in
theorem slotsSame_open {H : Type} (enc : TypeId × Value → H) (W : World) (base : Nat) (v0 v1 v2 : Value) (d0 d1 d2 : DataW H) (p0 p1 p2 : List MemPlace) (o0 : Value.okWide Try.prog W .any base 60 v0) (o1 : Value.okWide Try.prog W .any base 61 v1) (o2 : Value.okWide Try.prog W .any base 61 v2)
    (h0 : DataW.Trod enc Try.prog W 0 (fun _ => true) true 60 v0 d0 p0) (h1 : DataW.Trod enc Try.prog W 0 (fun _ => true) true 61 v1 d1 p1) (h2 : DataW.Trod enc Try.prog W 0 (fun _ => true) true 61 v2 d2 p2) :
    Calls Try.prog 15 #[v0, v1, v2] W fun e w' => e = .returned (.bool true) ∧ Below W.heap.size W w' := by
  obtain ⟨k, rfl, -⟩ := open_int Try.underlying60 o0 h0
  obtain ⟨xs, hx⟩ := cells_of enc W base v1 d1 p1 o1 h1
  obtain ⟨ys, hy⟩ := cells_of enc W base v2 d2 p2 o2 h2
  exact ssame_walk k v1 v2 xs ys W hx hy
end Go.Proofs.Ytkpadhjlopcejaa
