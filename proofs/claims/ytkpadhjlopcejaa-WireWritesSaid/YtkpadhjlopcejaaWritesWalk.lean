/-
  WireWrites: its walk, and its arguments opened.
-/
import Derived.Test.YtkpadhjlopcejaaWritesPlain
namespace Go.Proofs.Ytkpadhjlopcejaa
open Go.RowKit Go.ChangeShapes Go.WideShapes Go.ChangeAt
attribute [local go_sem] AnyOrder.opK_value AnyOrder.opK_skip AnyOrder.opK_enter
set_option maxRecDepth 100000 in
set_option maxHeartbeats 8000000 in
theorem wwrites_walk (a : Option Addr) (cap : Nat) (xs : List Pt) (w : World) (hx : PtsIn (fun k => k < w.heap.size) w a xs) (hL9 : xs.length ≤ 9223372036854775807) :
    Calls Try.prog 5 #[.slice a xs.length cap] w fun e w' => e = .returned (.bool true) ∧ Below w.heap.size w w' := by
  have HF := hid (few_calls a cap xs _ w hx hL9)
  have HK := hid (wknown_calls w)
  have hmx : Try.prog.follows .mixedOrders = true := by kernel_rfl
  clear hL9
  generalize hL : xs.length = L at *
  have HL := hid hL
  clear hL
  go_enter Try.func5, Try.ntmps5
  go_wp2_with fail
  refine HF.out.mono ?_
  rintro e w' ⟨bf, rfl, rfl, hbf⟩
  cases bf
  · go_wp2_with (refine HK.out.mono ?_; rintro e w' ⟨rfl, hB⟩)
    go_ret
    exact ⟨rfl, hB⟩
  have hL30 := hbf rfl
  clear hbf HK
  go_wp2_with fail
  refine (wst_new w.heap.size w w (Nat.le_refl _) (Below.refl _ _)).mono ?_
  rintro e w1 ⟨P, rfl, a1, -, hP⟩
  have A1 := hid (a1.less (oth' := fun k => (Value.slice none 0 0).ownBlock = some k) fun k h => by cases h)
  clear a1 HF
  go_wp2_with fail
  go_loopw [4, 5] (fun v i wr => ∃ (k : Nat) (l : List UInt8), k ≤ L ∧ i = .int .i64 (k : Int) ∧ WritesAt w P wr v l) (fun _ i _ => L - (intOf i).toNat)
  case atStart => exact ⟨0, [], Nat.zero_le _, rfl, A1.out, OwnB.nil _ _⟩
  case round =>
    obtain ⟨k, l, hk, rfl, hba⟩ := hrel
    have HBA := hid hba
    have hl6 := hba.st.short
    clear hba
    obtain ⟨u4a, u4n, u4c, rfl⟩ : ∃ a n c, u4 = .slice a n c := by obtain ⟨a, c, e, _⟩ := HBA.out.own.part; exact ⟨a, _, c, e⟩
    obtain ⟨-, hun, -⟩ := HBA.out.own.part.at
    have HUN := hid hun
    have hu6 : u4n ≤ 65536 := by omega
    clear hun
    by_cases hlt : k < L
    · have hkl : k < xs.length := by rw [HL.out]; exact hlt
      obtain ⟨b0, off0, rfl, ho0, hxn, hd0, hd1, hd2, hd3⟩ := hx k hkl
      have HO0 := hid ho0
      have c0 := HBA.out.st.below.cell (p := ⟨b0, off0 + k * 4, none⟩) ho0
      have c1 := HBA.out.st.below.cell (p := ⟨b0, off0 + k * 4 + 1, none⟩) ho0
      have c2 := HBA.out.st.below.cell (p := ⟨b0, off0 + k * 4 + 2, none⟩) ho0
      have c3 := HBA.out.st.below.cell (p := ⟨b0, off0 + k * 4 + 3, none⟩) ho0
      rw [hd0] at c0
      rw [hd1] at c1
      rw [hd2] at c2
      rw [hd3] at c3
      have i0 : (k : Int) < (L : Int) := by omega
      generalize xs[k] = x at *
      have HXN := hid hxn
      have HD := hid (And.intro hd0 (And.intro hd1 (And.intro hd2 hd3)))
      obtain ⟨kind, n, bytes, text⟩ := x
      simp only at c0 c1 c2 c3
      clear hx hd0 hd1 hd2 hd3 ho0 hxn
      by_cases h1 : kind = 1
      · subst h1
        have henc := numA_enc n bytes
        have hsh := numA_short n bytes
        obtain ⟨⟨fi, bs⟩, hna⟩ : ∃ x, x = numA n bytes := ⟨_, rfl⟩
        rw [← hna] at henc hsh
        have HNA := hid hna.symm
        have HENC := hid henc
        have HSH := hid hsh
        have HBD := hid HBA.out
        have HLT := hid (show b0 < wr.heap.size by have := HBA.out.st.below.size; have := HO0.out; omega)
        clear hna henc hsh
        go_wp2_with fail
        refine AnyOrder.wp_region_grows_l [fun v _ => v = .slice (some ⟨b0, off0, none⟩) L cap,
          fun v _ => v = .int .i64 (k : Int),
          fun v _ => v = .pointer (some ⟨b0, off0 + k * 4, none⟩),
          fun v _ => v = .pointer (some ⟨b0, off0 + k * 4 + 1, none⟩),
          fun v _ => v = .int .u64 (n : Int),
          fun v _ => v = .slice (some ⟨b0, off0, none⟩) L cap,
          fun v _ => v = .int .i64 (k : Int),
          fun v _ => v = .pointer (some ⟨b0, off0 + k * 4, none⟩),
          fun v _ => v = .pointer (some ⟨b0, off0 + k * 4 + 2, none⟩),
          fun v _ => v = .int .i64 bytes,
          fun v w' => ∃ vb, v = .tuple #[vb, .bool fi] ∧ OwnB w' wr.heap.size vb bs,
          fun v w' => ∃ vb, v = .tuple #[vb, .bool fi] ∧ OwnB w' wr.heap.size vb bs,
          fun v w' => OwnB w' wr.heap.size v bs,
          fun v _ => v = .bool fi,
          fun v w' => OwnB w' wr.heap.size v bs,
          fun v _ => v = .bool fi] hmx (by kernel_rfl) ?_ ?_ ?_
        · intro p hp
          simp only [List.mem_cons, List.not_mem_nil, or_false] at hp
          rcases hp with rfl | rfl | rfl | rfl | rfl | rfl | rfl | rfl | rfl | rfl | rfl | rfl | rfl | rfl | rfl | rfl
          all_goals first
            | exact AnyOrder.stays_const _
            | (rintro v w1 w2 hg ⟨b, rfl, hb⟩; exact ⟨b, rfl, hb.below hg⟩)
            | (intro v w1 w2 hg hb; exact OwnB.below hb hg)
        · simp only [AnyOrder.dstsOf, List.map_cons, List.map_nil, AnyOrder.Steps, Nat.zero_add, Nat.reduceAdd]
          refine ⟨?_, ?_, ?_, ?_, ?_, ?_, ?_, ?_, ?_, ?_, ?_, ?_, ?_, ?_, ?_, ?_, trivial⟩
          · intro ρ w' hk
            have k1 := hk.old 0 rfl
            clear hk
            simp at k1
            go_simp
            exact ⟨AnyOrder.Grows.refl _, rfl⟩
          · intro ρ w' hk
            have k1 := hk.old 5 rfl
            clear hk
            simp at k1
            go_simp
            exact ⟨AnyOrder.Grows.refl _, rfl⟩
          · intro ρ w' hk
            have k1 : ρ (.tmp 44) = .slice (some ⟨b0, off0, none⟩) L cap := hk.at 0 rfl
            have k2 : ρ (.tmp 45) = .int .i64 (k : Int) := hk.at 1 rfl
            clear hk
            go_simp
            exact ⟨AnyOrder.Grows.refl _, rfl⟩
          · intro ρ w' hk
            have k1 : ρ (.tmp 46) = .pointer (some ⟨b0, off0 + k * 4, none⟩) := hk.at 2 rfl
            clear hk
            go_simp
            exact ⟨AnyOrder.Grows.refl _, rfl⟩
          · intro ρ w' hk
            have k1 : ρ (.tmp 47) = .pointer (some ⟨b0, off0 + k * 4 + 1, none⟩) := hk.at 3 rfl
            have kc := (grows_of_drew hk.world).cell (p := ⟨b0, off0 + k * 4 + 1, none⟩) HLT.out
            rw [c1] at kc
            clear hk
            go_simp
            exact ⟨AnyOrder.Grows.refl _, rfl⟩
          · intro ρ w' hk
            have k1 := hk.old 0 rfl
            clear hk
            simp at k1
            go_simp
            exact ⟨AnyOrder.Grows.refl _, rfl⟩
          · intro ρ w' hk
            have k1 := hk.old 5 rfl
            clear hk
            simp at k1
            go_simp
            exact ⟨AnyOrder.Grows.refl _, rfl⟩
          · intro ρ w' hk
            have k1 : ρ (.tmp 49) = .slice (some ⟨b0, off0, none⟩) L cap := hk.at 5 rfl
            have k2 : ρ (.tmp 50) = .int .i64 (k : Int) := hk.at 6 rfl
            clear hk
            go_simp
            exact ⟨AnyOrder.Grows.refl _, rfl⟩
          · intro ρ w' hk
            have k1 : ρ (.tmp 51) = .pointer (some ⟨b0, off0 + k * 4, none⟩) := hk.at 7 rfl
            clear hk
            go_simp
            exact ⟨AnyOrder.Grows.refl _, rfl⟩
          · intro ρ w' hk
            have k1 : ρ (.tmp 52) = .pointer (some ⟨b0, off0 + k * 4 + 2, none⟩) := hk.at 8 rfl
            have kc := (grows_of_drew hk.world).cell (p := ⟨b0, off0 + k * 4 + 2, none⟩) HLT.out
            rw [c2] at kc
            clear hk
            go_simp
            exact ⟨AnyOrder.Grows.refl _, rfl⟩
          · intro ρ w' hk
            have k1 : ρ (.tmp 48) = .int .u64 (n : Int) := hk.at 4 rfl
            have k2 : ρ (.tmp 53) = .int .i64 bytes := hk.at 9 rfl
            have kw := grows_of_drew hk.world
            have kf := hk.func
            clear hk
            go_simp
            refine (refnum_both n bytes w' HXN.out).mono ?_
            rintro e w'' ⟨v, rfl, ho, hb⟩
            rw [HNA.out] at ho ⊢
            exact ⟨_, rfl, hb, v, rfl, ho.mono fun q e => by have := (ho.block e).1; have := kw.size; omega⟩
          · intro ρ w' hk
            obtain ⟨v, k1, k2⟩ : ∃ vb, ρ (.tmp 54) = .tuple #[vb, .bool fi] ∧ OwnB w' wr.heap.size vb bs := hk.at 10 rfl
            clear hk
            go_simp
            exact ⟨AnyOrder.Grows.refl _, v, rfl, k2⟩
          · intro ρ w' hk
            obtain ⟨v, k1, k2⟩ : ∃ vb, ρ (.tmp 43) = .tuple #[vb, .bool fi] ∧ OwnB w' wr.heap.size vb bs := hk.at 11 rfl
            clear hk
            go_simp
            exact ⟨AnyOrder.Grows.refl _, k2⟩
          · intro ρ w' hk
            obtain ⟨v, k1, k2⟩ : ∃ vb, ρ (.tmp 43) = .tuple #[vb, .bool fi] ∧ OwnB w' wr.heap.size vb bs := hk.at 11 rfl
            clear hk
            go_simp
            exact ⟨AnyOrder.Grows.refl _, rfl⟩
          · intro ρ w' hk
            have k1 : OwnB w' wr.heap.size (ρ (.tmp 55)) bs := hk.at 12 rfl
            clear hk
            go_simp
            exact ⟨AnyOrder.Grows.refl _, k1⟩
          · intro ρ w' hk
            have k1 : ρ (.tmp 56) = .bool fi := hk.at 13 rfl
            clear hk
            go_simp
            exact ⟨AnyOrder.Grows.refl _, rfl⟩
        · intro vs w2 hR hv
          have bb := grows_of_drew hR
          have v0 : vs 0 = .slice (some ⟨b0, off0, none⟩) L cap := hv 0 (by decide)
          have v10 := hv 10 (by decide)
          have v14 : OwnB w2 wr.heap.size (vs 14) bs := hv 14 (by decide)
          have v15 : vs 15 = .bool fi := hv 15 (by decide)
          clear hR v10
          simp only [AnyOrder.fill, Nat.zero_add, Nat.reduceAdd, List.setIfInBounds_toArray, List.set_cons_zero, List.set_cons_succ]
          rw [v15]
          generalize vs 14 = vb at *
          clear v0 v15
          have ob := v14
          obtain ⟨ab, nb, cb, rfl⟩ : ∃ a n c, vb = .slice a n c := by obtain ⟨a, c, e, _⟩ := ob.part; exact ⟨a, _, c, e⟩
          obtain ⟨-, hnb, -⟩ := ob.part.at
          have HNB := hid hnb
          have hn8 : nb ≤ 65537 := Nat.le_trans (Nat.le_of_eq hnb.symm) (Nat.le_trans HSH.out (by decide))
          have HB1 := hid (HBD.out.with bb ob).drew
          have e0 := HB1.out.st.below.cell (p := ⟨b0, off0 + k * 4, none⟩) HO0.out
          have e1 := HB1.out.st.below.cell (p := ⟨b0, off0 + k * 4 + 1, none⟩) HO0.out
          have e2 := HB1.out.st.below.cell (p := ⟨b0, off0 + k * 4 + 2, none⟩) HO0.out
          have e3 := HB1.out.st.below.cell (p := ⟨b0, off0 + k * 4 + 3, none⟩) HO0.out
          rw [HD.out.1] at e0
          rw [HD.out.2.1] at e1
          rw [HD.out.2.2.1] at e2
          rw [HD.out.2.2.2] at e3
          have hcall := HB1.out.st.number n bytes HXN.out
          rw [HENC.out] at hcall
          have HC := hid hcall
          clear hcall ob v14 hv bb c0 c1 c2 c3
          go_wp2_with fail
          refine wp_region_still_tail 11 hmx (by kernel_rfl) ?_
          simp only [List.take_succ_cons, List.take_zero, List.drop_succ_cons, List.drop_zero]
          change wpStill _ _ w2.drew _ _ _
          repeat still_step
          refine wpStill_nil ?_
          change wpList _ _ _ _ _ w2.drew
          go_wp2_with fail
          refine HC.out.mono ?_
          rintro e w4 ⟨rfl, a4, k4⟩
          have hcase := written_cases l (fi, bs) 2
          rcases hcase with ⟨t1, t3⟩ | ⟨t1, t2, t3⟩ | ⟨t1, t2, t3⟩
          all_goals simp only at t1
          all_goals subst t1
          · simp only [t3] at a4 ⊢
            have N4 := hid (HB1.out.wrote a4 k4).none
            clear a4 k4 t3
            go_wp2_with fail
            go_roundw
            case rel => exact ⟨k + 1, l, hlt, by go_num, N4.out⟩
            case measure => simp [intOf]; omega
          · -- what does not fit
            replace t2 : 65536 < l.length + bs.length := t2
            simp only [t3] at a4 ⊢
            have N4 := hid (HB1.out.wrote a4 k4).none
            have hfi : (65536 : Int) < (u4n : Int) + (nb : Int) := by have := HUN.out; have := HNB.out; omega
            clear a4 k4 t3 t2
            go_wp2_with fail
            go_roundw
            case rel => exact ⟨k + 1, l, hlt, by go_num, N4.out⟩
            case measure => simp [intOf]; omega
          · replace t2 : ¬ 65536 < l.length + bs.length := t2
            simp only [t3] at a4 ⊢
            have C4 := hid (HB1.out.wrote a4 k4)
            have hfi : ¬ (65536 : Int) < (u4n : Int) + (nb : Int) := by have := HUN.out; have := HNB.out; omega
            have HT2 := hid t2
            clear a4 k4 t3 t2
            go_wp2_with (at_builtin; refine wpList_appendB rfl (.tmp 111) (.tmp 112) rfl w.heap.size _ l rfl C4.out.own ab nb cb bs HNB.out rfl (fun e => C4.out.bytes.part.at.2.2.2.2 e) _ C4.out.bytes.part.at.1 (by have := HT2.out; have := HNB.out; omega) C4.out.st.below.size ?_; intro v5 w5 hv5 hg5 ho5; have HY := hid (WritesAt.laid C4.out.own C4.out.st hv5 hg5 ho5); obtain ⟨v5a, v5n, v5c, rfl⟩ : ∃ a n c, v5 = .slice a n c := (by obtain ⟨a, c, e, _⟩ := hv5.part; exact ⟨a, _, c, e⟩); clear hv5 hg5 ho5)
            go_roundw
            case rel => exact ⟨k + 1, l ++ bs, hlt, by go_num, HY.out⟩
            case measure => simp [intOf]; omega
      · by_cases h2 : kind = 2
        · subst h2
          clear h1
          have henc := textA_enc text
          have hsh := textA_short text
          obtain ⟨⟨fi, bs⟩, hna⟩ : ∃ x, x = textA text := ⟨_, rfl⟩
          rw [← hna] at henc hsh
          have HNA := hid hna.symm
          have HENC := hid henc
          have HSH := hid hsh
          have HBD := hid HBA.out
          clear hna henc hsh
          have HRT := hid (reftext_both text wr)
          go_wp2_with fail
          refine HRT.out.mono ?_
          rw [HNA.out]
          rintro e w2 ⟨vb, rfl, ob, bb⟩
          obtain ⟨ab, nb, cb, rfl⟩ : ∃ a n c, vb = .slice a n c := by obtain ⟨a, c, e, _⟩ := ob.part; exact ⟨a, _, c, e⟩
          obtain ⟨-, hnb, -⟩ := ob.part.at
          have HNB := hid hnb
          have hn8 : nb ≤ 65537 := Nat.le_trans (Nat.le_of_eq hnb.symm) (Nat.le_trans HSH.out (by decide))
          have HB1 := hid (HBD.out.with bb ob)
          have e0 := HB1.out.st.below.cell (p := ⟨b0, off0 + k * 4, none⟩) HO0.out
          have e1 := HB1.out.st.below.cell (p := ⟨b0, off0 + k * 4 + 1, none⟩) HO0.out
          have e2 := HB1.out.st.below.cell (p := ⟨b0, off0 + k * 4 + 2, none⟩) HO0.out
          have e3 := HB1.out.st.below.cell (p := ⟨b0, off0 + k * 4 + 3, none⟩) HO0.out
          rw [HD.out.1] at e0
          rw [HD.out.2.1] at e1
          rw [HD.out.2.2.1] at e2
          rw [HD.out.2.2.2] at e3
          have hcall := HB1.out.st.text text
          rw [HENC.out] at hcall
          have HC := hid hcall
          clear hcall ob bb c0 c1 c2 c3 HRT
          go_wp2_with fail
          refine HC.out.mono ?_
          rintro e w4 ⟨rfl, a4, k4⟩
          have hcase := written_cases l (fi, bs) 3
          rcases hcase with ⟨t1, t3⟩ | ⟨t1, t2, t3⟩ | ⟨t1, t2, t3⟩
          all_goals simp only at t1
          all_goals subst t1
          · simp only [t3] at a4 ⊢
            have N4 := hid (HB1.out.wrote a4 k4).none
            clear a4 k4 t3
            go_wp2_with fail
            go_roundw
            case rel => exact ⟨k + 1, l, hlt, by go_num, N4.out⟩
            case measure => simp [intOf]; omega
          · -- what does not fit
            replace t2 : 65536 < l.length + bs.length := t2
            simp only [t3] at a4 ⊢
            have N4 := hid (HB1.out.wrote a4 k4).none
            have hfi : (65536 : Int) < (u4n : Int) + (nb : Int) := by have := HUN.out; have := HNB.out; omega
            clear a4 k4 t3 t2
            go_wp2_with fail
            go_roundw
            case rel => exact ⟨k + 1, l, hlt, by go_num, N4.out⟩
            case measure => simp [intOf]; omega
          · replace t2 : ¬ 65536 < l.length + bs.length := t2
            simp only [t3] at a4 ⊢
            have C4 := hid (HB1.out.wrote a4 k4)
            have hfi : ¬ (65536 : Int) < (u4n : Int) + (nb : Int) := by have := HUN.out; have := HNB.out; omega
            have HT2 := hid t2
            clear a4 k4 t3 t2
            go_wp2_with (at_builtin; refine wpList_appendB rfl (.tmp 111) (.tmp 112) rfl w.heap.size _ l rfl C4.out.own ab nb cb bs HNB.out rfl (fun e => C4.out.bytes.part.at.2.2.2.2 e) _ C4.out.bytes.part.at.1 (by have := HT2.out; have := HNB.out; omega) C4.out.st.below.size ?_; intro v5 w5 hv5 hg5 ho5; have HY := hid (WritesAt.laid C4.out.own C4.out.st hv5 hg5 ho5); obtain ⟨v5a, v5n, v5c, rfl⟩ : ∃ a n c, v5 = .slice a n c := (by obtain ⟨a, c, e, _⟩ := hv5.part; exact ⟨a, _, c, e⟩); clear hv5 hg5 ho5)
            go_roundw
            case rel => exact ⟨k + 1, l ++ bs, hlt, by go_num, HY.out⟩
            case measure => simp [intOf]; omega
        · have g1 : (kind == 1) = false := by simpa using h1
          have g2 : (kind == 2) = false := by simpa using h2
          clear h1 h2
          by_cases hn1 : 1 < n
          · have i5 : (1 : Int) < (n : Int) := by omega
            have hz : (1 : Int) = ((if decide (0 < n) then 1 else 0 : UInt8).toNat : Int) := by
              rw [if_pos (by simp; omega)]; rfl
            have hbA : Below wr.heap.size wr (wr.alloc (.cells #[.int .u8 1] 5)) := (Below.refl _ _).alloc (Nat.le_refl _) _
            have ob := one_lit wr _ 1 5 rfl hz
            obtain ⟨bs, hbs⟩ : ∃ x, x = truthA n := ⟨_, rfl⟩
            change OwnB _ _ _ (truthA n) at ob
            rw [← hbs] at ob
            have hnb : bs.length = 1 := by rw [hbs]; rfl
            have HNB := hid hnb
            have HB1 := hid (HBA.out.with hbA ob)
            have e0 := HB1.out.st.below.cell (p := ⟨b0, off0 + k * 4, none⟩) HO0.out
            have e1 := HB1.out.st.below.cell (p := ⟨b0, off0 + k * 4 + 1, none⟩) HO0.out
            have e2 := HB1.out.st.below.cell (p := ⟨b0, off0 + k * 4 + 2, none⟩) HO0.out
            have e3 := HB1.out.st.below.cell (p := ⟨b0, off0 + k * 4 + 3, none⟩) HO0.out
            rw [HD.out.1] at e0
            rw [HD.out.2.1] at e1
            rw [HD.out.2.2.1] at e2
            rw [HD.out.2.2.2] at e3
            have hcall := HB1.out.st.truth (decide (0 < n))
            change Calls _ _ _ _ (fun e w' => e = .returned (.int .i64 (written l (encA (true, truthA n)) 2).2) ∧ Wst _ _ _ w' P (written l (encA (true, truthA n)) 2).1 ∧ _) at hcall
            rw [← hbs] at hcall
            have HC := hid hcall
            clear hz hbA ob hbs hcall hnb
            go_wp2_with fail
            generalize (wr.alloc (.cells #[.int .u8 1] 5)) = W at *
            refine HC.out.mono ?_
            rintro e w4 ⟨rfl, a4, k4⟩
            have hcase := written_cases l (true, bs) 2
            rcases hcase with ⟨t1, -⟩ | ⟨-, t2, t3⟩ | ⟨-, t2, t3⟩
            · cases t1
            · -- what does not fit
              replace t2 : 65536 < l.length + bs.length := t2
              simp only [t3] at a4 ⊢
              have N4 := hid (HB1.out.wrote a4 k4).none
              have hfi : (65536 : Int) < (u4n : Int) + 1 := by have := HUN.out; have := HNB.out; omega
              clear a4 k4 t3 t2
              go_wp2_with fail
              go_roundw
              case rel => exact ⟨k + 1, l, hlt, by go_num, N4.out⟩
              case measure => simp [intOf]; omega
            · replace t2 : ¬ 65536 < l.length + bs.length := t2
              simp only [t3] at a4 ⊢
              have C4 := hid (HB1.out.wrote a4 k4)
              have hfi : ¬ (65536 : Int) < (u4n : Int) + 1 := by have := HUN.out; have := HNB.out; omega
              have HT2 := hid t2
              clear a4 k4 t3 t2
              go_wp2_with (at_builtin; refine wpList_appendB rfl (.tmp 111) (.tmp 112) rfl w.heap.size _ l rfl C4.out.own (some ⟨wr.heap.size, 0, none⟩) 1 1 bs HNB.out rfl (fun e => C4.out.bytes.part.at.2.2.2.2 e) _ C4.out.bytes.part.at.1 (by have := HT2.out; have := HNB.out; omega) C4.out.st.below.size ?_; intro v5 w5 hv5 hg5 ho5; have HY := hid (WritesAt.laid C4.out.own C4.out.st hv5 hg5 ho5); obtain ⟨v5a, v5n, v5c, rfl⟩ : ∃ a n c, v5 = .slice a n c := (by obtain ⟨a, c, e, _⟩ := hv5.part; exact ⟨a, _, c, e⟩); clear hv5 hg5 ho5)
              go_roundw
              case rel => exact ⟨k + 1, l ++ bs, hlt, by go_num, HY.out⟩
              case measure => simp [intOf]; omega
          · have i5 : (n : Int) ≤ 1 := by omega
            have hz : ((n : Int) : Int) = ((if decide (0 < n) then 1 else 0 : UInt8).toNat : Int) := by
              rcases Nat.eq_zero_or_pos n with h | h
              · subst h; rfl
              · obtain rfl : n = 1 := by omega
                rfl
            have hbA : Below wr.heap.size wr (wr.alloc (.cells #[.int .u8 (n : Int)] 5)) := (Below.refl _ _).alloc (Nat.le_refl _) _
            have ob := one_lit wr _ (n : Int) 5 rfl hz
            obtain ⟨bs, hbs⟩ : ∃ x, x = truthA n := ⟨_, rfl⟩
            change OwnB _ _ _ (truthA n) at ob
            rw [← hbs] at ob
            have hnb : bs.length = 1 := by rw [hbs]; rfl
            have HNB := hid hnb
            have HB1 := hid (HBA.out.with hbA ob)
            have e0 := HB1.out.st.below.cell (p := ⟨b0, off0 + k * 4, none⟩) HO0.out
            have e1 := HB1.out.st.below.cell (p := ⟨b0, off0 + k * 4 + 1, none⟩) HO0.out
            have e2 := HB1.out.st.below.cell (p := ⟨b0, off0 + k * 4 + 2, none⟩) HO0.out
            have e3 := HB1.out.st.below.cell (p := ⟨b0, off0 + k * 4 + 3, none⟩) HO0.out
            rw [HD.out.1] at e0
            rw [HD.out.2.1] at e1
            rw [HD.out.2.2.1] at e2
            rw [HD.out.2.2.2] at e3
            have hcall := HB1.out.st.truth (decide (0 < n))
            change Calls _ _ _ _ (fun e w' => e = .returned (.int .i64 (written l (encA (true, truthA n)) 2).2) ∧ Wst _ _ _ w' P (written l (encA (true, truthA n)) 2).1 ∧ _) at hcall
            rw [← hbs] at hcall
            have HC := hid hcall
            clear hz hbA ob hbs hcall hnb
            go_wp2_with fail
            generalize (wr.alloc (.cells #[.int .u8 (n : Int)] 5)) = W at *
            refine HC.out.mono ?_
            rintro e w4 ⟨rfl, a4, k4⟩
            have hcase := written_cases l (true, bs) 2
            rcases hcase with ⟨t1, -⟩ | ⟨-, t2, t3⟩ | ⟨-, t2, t3⟩
            · cases t1
            · -- what does not fit
              replace t2 : 65536 < l.length + bs.length := t2
              simp only [t3] at a4 ⊢
              have N4 := hid (HB1.out.wrote a4 k4).none
              have hfi : (65536 : Int) < (u4n : Int) + 1 := by have := HUN.out; have := HNB.out; omega
              clear a4 k4 t3 t2
              go_wp2_with fail
              go_roundw
              case rel => exact ⟨k + 1, l, hlt, by go_num, N4.out⟩
              case measure => simp [intOf]; omega
            · replace t2 : ¬ 65536 < l.length + bs.length := t2
              simp only [t3] at a4 ⊢
              have C4 := hid (HB1.out.wrote a4 k4)
              have hfi : ¬ (65536 : Int) < (u4n : Int) + 1 := by have := HUN.out; have := HNB.out; omega
              have HT2 := hid t2
              clear a4 k4 t3 t2
              go_wp2_with (at_builtin; refine wpList_appendB rfl (.tmp 111) (.tmp 112) rfl w.heap.size _ l rfl C4.out.own (some ⟨wr.heap.size, 0, none⟩) 1 1 bs HNB.out rfl (fun e => C4.out.bytes.part.at.2.2.2.2 e) _ C4.out.bytes.part.at.1 (by have := HT2.out; have := HNB.out; omega) C4.out.st.below.size ?_; intro v5 w5 hv5 hg5 ho5; have HY := hid (WritesAt.laid C4.out.own C4.out.st hv5 hg5 ho5); obtain ⟨v5a, v5n, v5c, rfl⟩ : ∃ a n c, v5 = .slice a n c := (by obtain ⟨a, c, e, _⟩ := hv5.part; exact ⟨a, _, c, e⟩); clear hv5 hg5 ho5)
              go_roundw
              case rel => exact ⟨k + 1, l ++ bs, hlt, by go_num, HY.out⟩
              case measure => simp [intOf]; omega
    · obtain rfl : k = L := by omega
      have i0 : ¬ ((k : Int) < (k : Int)) := by omega
      clear hx hlt
      go_wp2_with fail
      refine AnyOrder.wp_region_grows [
        fun v _ => v = .pointer (some ⟨P, 0, none⟩),
        fun v w' => OwnB w' w.heap.size v l,
        fun v _ => v = .string ⟨l.toArray⟩,
        fun v _ => v = .slice u4a u4n u4c,
        fun v _ => v = .string ⟨l.toArray⟩,
        fun v _ => v = .bool true,
        fun v _ => v = .bool true,
        fun v _ => v = .pointer (some ⟨P, 0, none⟩),
        fun v _ => v = .int .i64 (u4n : Int),
        fun v _ => v = .slice u4a u4n u4c,
        fun v _ => v = .int .i64 (u4n : Int),
        fun v _ => v = .bool true, fun v _ => v = .bool true, fun v _ => v = .bool true, fun v _ => v = .bool true, fun v _ => v = .bool true, fun v _ => v = .bool true] hmx (by kernel_rfl) ?_ ?_ ?_
      · intro p hp
        simp only [List.mem_cons, List.not_mem_nil, or_false] at hp
        rcases hp with rfl | rfl | rfl | rfl | rfl | rfl | rfl | rfl | rfl | rfl | rfl | rfl | rfl | rfl | rfl | rfl | rfl
        all_goals first
          | exact AnyOrder.stays_const _
          | (intro v w1 w2 hg hb; exact OwnB.below hb hg)
      · simp only [AnyOrder.dstsOf, List.map_cons, List.map_nil, AnyOrder.Steps, Nat.zero_add, Nat.reduceAdd]
        refine ⟨?_, ?_, ?_, ?_, ?_, ?_, ?_, ?_, ?_, ?_, ?_, ?_, ?_, ?_, ?_, ?_, ?_, trivial⟩
        · intro ρ w' hk
          have k1 := hk.old 3 rfl
          clear hk
          simp at k1
          go_simp
          exact ⟨AnyOrder.Grows.refl _, rfl⟩
        · intro ρ w' hk
          have k1 : ρ (.tmp 116) = .pointer (some ⟨P, 0, none⟩) := hk.at 0 rfl
          have kw := HBA.out.grows (grows_of_drew hk.world)
          have kf := hk.func
          clear hk
          go_simp
          refine kw.st.bytes.mono ?_
          rintro e w'' ⟨v, rfl, ho, -, hb⟩
          exact ⟨_, rfl, hb, ho.mono fun q e => by have := (ho.block e).1; have := kw.st.below.size; omega⟩
        · intro ρ w' hk
          have k1 : OwnB w' w.heap.size (ρ (.tmp 117)) l := hk.at 1 rfl
          clear hk
          obtain ⟨ca, cc, e, hb, -⟩ := k1.part
          have hcv := run_strB (w := w') l.length cc rfl hb
          clear k1 hb
          go_simp
          exact ⟨AnyOrder.Grows.refl _, rfl⟩
        · intro ρ w' hk
          have k1 := hk.old 4 rfl
          clear hk
          simp at k1
          go_simp
          exact ⟨AnyOrder.Grows.refl _, rfl⟩
        · intro ρ w' hk
          have k1 : ρ (.tmp 119) = .slice u4a u4n u4c := hk.at 3 rfl
          have kw := HBA.out.grows (grows_of_drew hk.world)
          clear hk
          have hcv := run_strB (w := w') u4n u4c HUN.out kw.own.part.at.1
          clear kw
          go_simp
          exact ⟨AnyOrder.Grows.refl _, rfl⟩
        · intro ρ w' hk
          have k1 : ρ (.tmp 118) = .string ⟨l.toArray⟩ := hk.at 2 rfl
          have k2 : ρ (.tmp 120) = .string ⟨l.toArray⟩ := hk.at 4 rfl
          clear hk
          go_simp
          exact ⟨AnyOrder.Grows.refl _, rfl⟩
        · intro ρ w' hk
          have k1 : ρ (.tmp 121) = .bool true := hk.at 5 rfl
          clear hk
          go_simp
          exact ⟨AnyOrder.Grows.refl _, rfl⟩
        · intro ρ w' hk
          refine ⟨true, hk.at 6 rfl, rfl, fun _ => ?_, fun h => absurd rfl h⟩
          have k1 := hk.old 3 rfl
          clear hk
          simp at k1
          go_simp
          exact ⟨AnyOrder.Grows.refl _, rfl⟩
        · intro ρ w' hk
          refine ⟨true, hk.at 6 rfl, rfl, fun _ => ?_, fun h => absurd rfl h⟩
          have k1 : ρ (.tmp 123) = .pointer (some ⟨P, 0, none⟩) := hk.at 7 rfl
          have kw := HBA.out.grows (grows_of_drew hk.world)
          have kf := hk.func
          clear hk
          go_simp
          refine kw.st.len.mono ?_
          rintro e w'' ⟨rfl, rfl⟩
          rw [HUN.out]
          exact ⟨_, rfl, AnyOrder.Grows.refl _, rfl⟩
        · intro ρ w' hk
          refine ⟨true, hk.at 6 rfl, rfl, fun _ => ?_, fun h => absurd rfl h⟩
          have k1 := hk.old 4 rfl
          clear hk
          simp at k1
          go_simp
          exact ⟨AnyOrder.Grows.refl _, rfl⟩
        · intro ρ w' hk
          refine ⟨true, hk.at 6 rfl, rfl, fun _ => ?_, fun h => absurd rfl h⟩
          have k1 : ρ (.tmp 125) = .slice u4a u4n u4c := hk.at 9 rfl
          clear hk
          go_simp
          exact ⟨AnyOrder.Grows.refl _, rfl⟩
        · intro ρ w' hk
          refine ⟨true, hk.at 6 rfl, rfl, fun _ => ?_, fun h => absurd rfl h⟩
          have k1 : ρ (.tmp 124) = .int .i64 (u4n : Int) := hk.at 8 rfl
          have k2 : ρ (.tmp 126) = .int .i64 (u4n : Int) := hk.at 10 rfl
          clear hk
          go_simp
          exact ⟨AnyOrder.Grows.refl _, rfl⟩
        · intro ρ w' hk
          have k1 : ρ (.tmp 122) = .bool true := hk.at 6 rfl
          have k2 : ρ (.tmp 127) = .bool true := hk.at 11 rfl
          clear hk
          go_simp
          exact ⟨AnyOrder.Grows.refl _, rfl⟩
        · intro ρ w' hk
          have k1 : ρ (.tmp 128) = .bool true := hk.at 12 rfl
          clear hk
          go_simp
          exact ⟨AnyOrder.Grows.refl _, rfl⟩
        · intro ρ w' hk
          refine ⟨true, hk.at 13 rfl, rfl, fun _ => ?_, fun h => absurd rfl h⟩
          have kf := hk.func
          clear hk
          go_simp
          refine (wknown_calls w').mono ?_
          rintro e w'' ⟨rfl, hb⟩
          exact ⟨_, rfl, hb, rfl⟩
        · intro ρ w' hk
          have k1 : ρ (.tmp 129) = .bool true := hk.at 13 rfl
          have k2 : ρ (.tmp 130) = .bool true := hk.at 14 rfl
          clear hk
          go_simp
          exact ⟨AnyOrder.Grows.refl _, rfl⟩
        · intro ρ w' hk
          have k1 : ρ (.tmp 131) = .bool true := hk.at 15 rfl
          clear hk
          go_simp
          exact ⟨AnyOrder.Grows.refl _, rfl⟩
      · intro vs w2 hR hv
        have bb := grows_of_drew hR
        have v16 : vs 16 = .bool true := hv 16 (by decide)
        clear hR hv
        simp only [AnyOrder.fill, Nat.zero_add, Nat.reduceAdd, List.setIfInBounds_toArray, List.set_cons_zero, List.set_cons_succ]
        rw [v16]
        have HFB := hid (HBA.out.grows bb).st.below
        clear v16 bb
        go_wp2_with fail
        go_ret
        exact ⟨rfl, HFB.out⟩
set_option maxRecDepth 100000 in
theorem wireWrites_open {H : Type} (enc : TypeId × Value → H) (W : World) (base : Nat) (v0 : Value) (d0 : DataW H) (p0 : List MemPlace) (o0 : Value.okWide Try.prog W .any base 22 v0)
    (h0 : DataW.Trod enc Try.prog W 0 (fun _ => true) true 22 v0 d0 p0) :
    Calls Try.prog 5 #[v0] W fun e w' => e = .returned (.bool true) ∧ Below W.heap.size W w' := by
  obtain ⟨a, cap, xs, rfl, hx, hl⟩ := parts_of enc W base v0 d0 p0 o0 h0
  exact wwrites_walk a cap xs W hx hl
end Go.Proofs.Ytkpadhjlopcejaa
