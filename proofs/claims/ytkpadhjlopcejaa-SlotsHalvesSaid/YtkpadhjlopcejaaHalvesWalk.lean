/-
  SlotsHalves: its walk, and its arguments opened (printed by mkhalves.py).
-/
import Derived.Test.YtkpadhjlopcejaaSKnown
import Derived.Test.YtkpadhjlopcejaaSRHalve
import Derived.Test.YtkpadhjlopcejaaSSame
import Derived.Test.YtkpadhjlopcejaaSHalve
import Derived.Deep.RegionLaw
import Derived.Deep.CutRange
import Derived.Deep.CutBlock
namespace Go.Proofs.Ytkpadhjlopcejaa
open Go.RowKit Go.ChangeShapes Go.WideShapes Go.ChangeAt
theorem known_endH (w0 w : World) (hb : Below w0.heap.size w0 w) : Calls Try.prog 34 #[] w fun e w' => e = .returned (.bool true) ∧ Below w0.heap.size w0 w' :=
  (known_calls w).mono fun _ _ h => ⟨h.1, hb.trans (h.2.mono hb.size)⟩
theorem step_appendCm {ops : Array Oper} {o : Oper} {a : Act} {w : World} {K : Act → World → Prop} {Q : Exit → Act → World → Prop} {E : Prop} (hgd : o.guard = none) (s x : Operand)
    (ho : o.op = .call { callee := .builtin .append, args := #[s, x], argTypes := #[61, 61] }) (base : Nat) (v : Value) (l0 : List Cl) (hs : a.eval s = v) (hown : OwnC w base v l0)
    (ad : Addr) (m c : Nat) (l : List Cl) (hm : l.length = m) (hx : a.eval x = .slice (some ad) m c) (ok : Nat → Prop) (hb : CellsIn ok w (some ad) l)
    (hlen : l0.length + m ≤ 1099511627776) (hbase : base ≤ w.heap.size)
    (h : ∀ v' w', OwnC w' base v' (l0 ++ l) → w.grownBy w' v.ownBlock → K (a.put o.dst v') w') : if Region.wanted o (yielded ops a.tmps) = true then Oper.wp Try.prog o a w K Q else E := by
  subst hm
  have hw : Region.wanted o (yielded ops a.tmps) = true := by simp [Region.wanted, hgd]
  rw [if_pos hw]
  obtain ⟨i0, hi, hz0, hz1, hz2⟩ := info_parts info81
  obtain ⟨v', w', hr, h2, h3, -, -⟩ := run_append_own_at (P := Try.prog) w base 61 o.type 81 i0 _ 5 56 Try.underlying61 hi hz0 hz1 hz2 rfl (by decide) v l0.length _ hown ad l.length c (cellsR l) (cellsR_length l) (cells_row hb) (cellsR_one l) (by unfold maxLen; omega) (by omega) hbase
  unfold Oper.wp execOp
  simp only [ho, resolve, invoke, builtin, Sem.run_bind, Sem.run_pure, Result.andThen_ok, List.map_toArray, List.map_cons, List.map_nil, hs, hx, hr]
  refine h v' w' ?_ h3
  unfold OwnC
  rw [cellsR_append, List.length_append]
  exact h2
theorem high_sliced {ok : Nat → Prop} {w : World} {b0 off0 cap n : Nat} {xs : List Cl} (h : CellsIn ok w (some ⟨b0, off0, none⟩) xs) (hn : n ≤ xs.length) (hc : xs.length ≤ cap) :
    ∃ ad2, sliced (some ⟨b0, off0, none⟩) n xs.length cap 5 = .slice (some ad2) (xs.length - n) (cap - n) ∧ CellsIn ok w (some ad2) (xs.drop n) := by
  unfold sliced
  by_cases hcn : cap = n
  · rw [if_pos hcn]
    refine ⟨_, rfl, fun i hi => ?_⟩
    rw [List.length_drop] at hi
    omega
  · rw [if_neg hcn]
    have := h.drop n
    rw [Option.map_some] at this ⊢
    exact ⟨_, rfl, this⟩
theorem opK_appendC {o : Oper} {ρ : Operand → Value} {w : World} {K : Value → World → Prop} (s x : Operand) (ho : o.op = .call { callee := .builtin .append, args := #[s, x], argTypes := #[61, 61] })
    (base : Nat) (v : Value) (l0 : List Cl) (hs : ρ s = v) (hown : OwnC w base v l0) (ad : Addr) (m c : Nat) (l : List Cl) (hm : l.length = m) (hx : ρ x = .slice (some ad) m c)
    (ok : Nat → Prop) (hb : CellsIn ok w (some ad) l) (hlen : l0.length + m ≤ 1099511627776) (hbase : base ≤ w.heap.size)
    (h : ∀ v' w', OwnC w' base v' (l0 ++ l) → w.grownBy w' v.ownBlock → K v' w') : AnyOrder.opK Try.prog K ((execOp ρ o).run Try.prog w) := by
  subst hm
  obtain ⟨i0, hi, hz0, hz1, hz2⟩ := info_parts info81
  obtain ⟨v', w', hr, h2, h3, -, -⟩ := run_append_own_at (P := Try.prog) w base 61 o.type 81 i0 _ 5 56 Try.underlying61 hi hz0 hz1 hz2 rfl (by decide) v l0.length _ hown ad l.length c (cellsR l) (cellsR_length l) (cells_row hb) (cellsR_one l) (by unfold maxLen; omega) (by omega) hbase
  unfold execOp
  simp only [ho, resolve, invoke, builtin, Sem.run_bind, Sem.run_pure, Result.andThen_ok, List.map_toArray, List.map_cons, List.map_nil, hs, hx, hr]
  refine h v' w' ?_ h3
  unfold OwnC
  rw [cellsR_append, List.length_append]
  exact h2
theorem PartC.cellsOf {ok : Nat → Prop} {w : World} {a : Option Addr} {n c : Nat} {l : List Cl} (h : PartC ok w (.slice a n c) l) : CellsIn ok w a l := by
  obtain ⟨a', c', e, h1, -⟩ := h
  cases e
  exact h1
def HvEnd (w : World) (e : Ending) (w' : World) : Prop := e = .returned (.bool true) ∧ Below w.heap.size w w'
set_option maxRecDepth 100000 in
set_option maxHeartbeats 16000000 in
theorem shalves_walk (k one : Int) (v : Value) (xs : List Cl) (w : World) (hp : PartC (fun q => q < w.heap.size) w v xs) : Calls Try.prog 14 #[.int .i64 k, v, .int .i64 one] w (HvEnd w) := by
  have hw0 : IntKind.i64.wrap 0 = 0 := by decide
  have HP := hid (fun (w' : World) (hb : Below w.heap.size w w') => (hp.below hb).mono (ok' := fun q => q < w'.heap.size) fun q hq => Nat.lt_of_lt_of_le hq hb.size)
  obtain ⟨a, cap, rfl, hx, hc1, hc2, -⟩ := hp
  have HF := hid (fewc_calls a cap xs _ w hx)
  have HK := hid (known_endH w w (Below.refl _ _))
  have HX := hid hx
  have HCC := hid (show xs.length ≤ cap ∧ cap ≤ maxLen from ⟨hc1, hc2⟩)
  generalize hL : xs.length = L at *
  have HL := hid hL
  clear hx hL hc1 hc2
  go_enter Try.func14, Try.ntmps14
  go_wp2_with fail
  refine HF.out.mono ?_
  rintro e w1 ⟨q, rfl, rfl, hb⟩
  cases q
  · go_wp2_with fail
    refine HK.out.mono ?_
    rintro e w2 ⟨rfl, b2⟩
    have HB2 := hid b2
    clear b2
    go_wp2_with fail
    go_ret
    exact ⟨rfl, HB2.out⟩
  have HN := hid (show xs.length ≤ 60 from (hb rfl).1)
  clear hb
  go_wp2_with fail
  have hh := halve_calls k _ xs w (HP.out w (Below.refl _ _)) (by have := HN.out; omega)
  unfold HalveEnd at hh
  by_cases hy : rightC k xs = true ∧ 2 ≤ xs.length
  · -- they are halved
    simp only [if_pos hy] at hh
    have hr := hy.1
    have hhs := (halveTo_spec (decide (k = 2)) xs (xs.length - 1) (by have := hy.2; omega)).1
    have HFIT := hid (fun (h : widthC (decide (k = 2)) xs ≤ 345) => half_fits (rightC_may hr) hy.2 h)
    have HRH := hid (fun (w' : World) (hb : Below w.heap.size w w') => rhalve_calls k _ xs w' (HP.out w' hb) hr hy.2 (by have := HN.out; omega))
    have HRR := hid hr
    have h2L : 2 ≤ L := by have := hy.2; rw [HL.out] at this; exact this
    change (1 ≤ halveC (decide (k = 2)) xs ∧ halveC (decide (k = 2)) xs ≤ xs.length - 1) at hhs
    obtain ⟨t, ht⟩ : ∃ t, t = halveC (decide (k = 2)) xs := ⟨_, rfl⟩
    rw [← ht] at hh hhs HFIT HRH
    rw [HL.out] at hhs
    have HTS := hid (show 1 ≤ t ∧ t < L by omega)
    refine hh.mono ?_
    rintro e w2 ⟨v1, v2, rfl, o1, o2, -, b2⟩
    have HB2 := hid b2
    have HO1 := hid o1
    have HO2 := hid o2
    obtain ⟨x1, n1, m1, rfl⟩ : ∃ a n c, v1 = .slice a n c := by obtain ⟨a, c, e, _⟩ := o1.part; exact ⟨a, _, c, e⟩
    obtain ⟨x2, n2, m2, rfl⟩ : ∃ a n c, v2 = .slice a n c := by obtain ⟨a, c, e, _⟩ := o2.part; exact ⟨a, _, c, e⟩
    obtain ⟨b0, off0, rfl, -⟩ := HX.out.at (show 0 < xs.length by rw [HL.out]; omega)
    have i0 : ¬ (L : Int) < 2 := by omega
    clear hh hy hr hhs o1 o2 b2 ht h2L
    go_wp2_with fail
    have h3 := right_calls k _ xs w2 (HP.out w2 HB2.out)
    rw [HRR.out] at h3
    refine h3.mono ?_
    rintro e w3 ⟨rfl, b3⟩
    have HB3 := hid (HB2.out.trans (b3.mono HB2.out.size))
    have HO13 := hid (HO1.out.below b3)
    have HO23 := hid (HO2.out.below b3)
    clear h3 b3 HO1 HO2
    go_wp2_with fail
    refine (HRH.out w3 HB3.out).mono ?_
    rintro e w4 ⟨rfl, b4⟩
    have HB4 := hid (HB3.out.trans (b4.mono HB3.out.size))
    have HO14 := hid (HO13.out.below b4)
    have HO24 := hid (HO23.out.below b4)
    have HLO := hid (fun (w' : World) (hb : Below w.heap.size w w') => (low_part (n := t) (HX.out.kept (Kept.of_below hb fun _ h => h)) (by have := HTS.out; rw [HL.out]; omega) (by rw [HL.out]; exact HCC.out)).mono (ok' := fun q => q < w'.heap.size) fun q hq => Nat.lt_of_lt_of_le hq hb.size)
    have HHI := hid (show ∀ (w' : World), Below w.heap.size w w' → PartC (fun q => q < w'.heap.size) w' (.slice (some ⟨b0, off0 + t * 5, none⟩) (L - t) (cap - t)) (xs.drop t) from fun w' hb => by
      have hpp := high_part (n := t) (HX.out.kept (Kept.of_below hb fun _ h => h)) (by have := HTS.out; rw [HL.out]; omega) (by rw [HL.out]; exact HCC.out)
      rw [HL.out] at hpp
      exact hpp.mono fun q hq => Nat.lt_of_lt_of_le hq hb.size)
    have i1 : (0 : Int) ≤ (t : Int) := by omega
    have i2 : (t : Int) ≤ (cap : Int) := by have := HCC.out; have := HTS.out; omega
    have i3 : (t : Int) ≤ (L : Int) := by have := HTS.out; omega
    have i5 : ¬ cap = 0 := by have := HCC.out; have := HTS.out; omega
    have i6 : ¬ cap = t := by have := HCC.out; have := HTS.out; omega
    clear b4 HO13 HO23
    go_wp2_with fail
    refine (rsame_calls _ _ _ _ w4 HO14.out.low (HLO.out w4 HB4.out)).mono ?_
    rintro e w5 ⟨r, rfl, hr5, b5⟩
    obtain rfl : r = true := hr5.2 rfl
    have HB5 := hid (HB4.out.trans (b5.mono HB4.out.size))
    have HO15 := hid (HO14.out.below b5)
    have HO25 := hid (HO24.out.below b5)
    clear hr5 b5 HO14 HO24
    go_wp2_with fail
    refine (rsame_calls _ _ _ _ w5 HO25.out.low (HHI.out w5 HB5.out)).mono ?_
    rintro e w6 ⟨r, rfl, hr6, b6⟩
    obtain rfl : r = true := hr6.2 rfl
    have HB6 := hid (HB5.out.trans (b6.mono HB5.out.size))
    have HO16 := hid (HO15.out.below b6)
    have HO26 := hid (HO25.out.below b6)
    have HK6 := hid (known_endH w w6 HB6.out)
    clear hr6 b6 HO15 HO25 i1 i2 i3 i6
    by_cases h1 : one < 0
    · go_wp2_with fail
      refine HK6.out.mono ?_
      rintro e w7 ⟨rfl, b7⟩
      have HB7 := hid b7
      clear b7
      go_wp2_with fail
      go_ret
      exact ⟨rfl, HB7.out⟩
    by_cases h2 : (L : Int) ≤ one
    · go_wp2_with fail
      refine HK6.out.mono ?_
      rintro e w7 ⟨rfl, b7⟩
      have HB7 := hid b7
      clear b7
      go_wp2_with fail
      go_ret
      exact ⟨rfl, HB7.out⟩
    obtain ⟨j, rfl⟩ : ∃ j : Nat, one = j := ⟨one.toNat, by omega⟩
    have HJ := hid (show j < L by omega)
    have i1 : (0 : Int) ≤ (j : Int) := by omega
    have i2 : (j : Int) ≤ (cap : Int) := by have := HCC.out; omega
    have i3 : (0 : Int) ≤ (j : Int) + 1 := by omega
    have i4 : (j : Int) + 1 ≤ (L : Int) := by omega
    have i7 : ((j : Int) + 1).toNat = j + 1 := by omega
    have hwj : IntKind.i64.wrap ((j : Int) + 1) = (j : Int) + 1 := IntWalk.i64_in _ (by have := HN.out; rw [HL.out] at this; omega)
    have HB6D := hid (show Below w.heap.size w w6.drew from ⟨HB6.out.os, HB6.out.tape, HB6.out.output, HB6.out.size, HB6.out.block⟩)
    have HP1 := hid (low_part (n := j) (HX.out.kept (Kept.of_below HB6D.out fun _ h => h)) (by rw [HL.out]; omega) (by rw [HL.out]; exact HCC.out))
    have HLT := hid (show (xs.take j).length = j by rw [List.length_take]; have := HL.out; omega)
    have HLD := hid (show (xs.drop (j + 1)).length = L - (j + 1) by rw [List.length_drop, HL.out])
    have HLE1 := hid (show ([] : List Cl).length + j ≤ 1099511627776 by have := HN.out; rw [HL.out] at this; simp; omega)
    have HLE2 := hid (show (xs.take j).length + (L - (j + 1)) ≤ 1099511627776 by rw [HLT.out]; have := HN.out; rw [HL.out] at this; omega)
    have HWE := hid (width_erase (rightC_may HRR.out) (j := j) (by rw [HL.out]; omega))
    have HMR := hid (show ∀ x ∈ xs.take j ++ xs.drop (j + 1), mayC (decide (k = 2)) x = true from fun x hx => by
      rcases List.mem_append.1 hx with hx | hx
      · exact rightC_may HRR.out x (List.mem_of_mem_take hx)
      · exact rightC_may HRR.out x (List.mem_of_mem_drop hx))
    have HLR := hid (show (xs.take j ++ xs.drop (j + 1)).length ≤ 400 by rw [List.length_append, HLT.out, HLD.out]; have := HN.out; rw [HL.out] at this; omega)
    clear h1 h2
    have hsl := high_sliced (n := j + 1) (HX.out.kept (Kept.of_below HB6.out fun _ h => h)) (by rw [HL.out]; omega) (by rw [HL.out]; exact HCC.out.1)
    rw [HL.out] at hsl
    have HSL := hid hsl
    have HJL := hid (show j + 1 ≤ L by omega)
    have i10 : ¬ (j : Int) < 0 := by omega
    have i11 : ¬ (L : Int) ≤ (j : Int) := by omega
    clear hsl i3 i4 i7 hwj
    go_upto_region 11 with fail
    have hst : ∀ p ∈ ([fun v _ => v = .slice (some ⟨b0, off0, none⟩) L cap,
        fun v _ => v = .int .i64 (j : Int),
        fun v _ => v = .slice (some ⟨b0, off0, none⟩) j cap,
        fun v w' => OwnC w' w6.heap.size v (xs.take j),
        fun v _ => v = .slice (some ⟨b0, off0, none⟩) L cap,
        fun v _ => v = .int .i64 (j : Int),
        fun v _ => v = .int .i64 ((j + 1 : Nat) : Int),
        fun v _ => v = sliced (some ⟨b0, off0, none⟩) (j + 1) L cap 5,
        fun v w' => OwnC w' w6.heap.size v (xs.take j ++ xs.drop (j + 1)),
        fun v w' => OwnC w' w6.heap.size v (xs.take j ++ xs.drop (j + 1))] : List (Value → World → Prop)), AnyOrder.Stays p := by
      intro p hp
      simp only [List.mem_cons, List.not_mem_nil, or_false] at hp
      rcases hp with rfl | rfl | rfl | rfl | rfl | rfl | rfl | rfl | rfl | rfl
      all_goals first
        | exact AnyOrder.stays_const _
        | exact fun _ _ _ hg h => OwnC.below h hg
    have HST := hid hst
    clear hst
    refine AnyOrder.wp_region_chain (fun k => if k = 8 then [3] else []) [
        fun v _ => v = .slice (some ⟨b0, off0, none⟩) L cap,
        fun v _ => v = .int .i64 (j : Int),
        fun v _ => v = .slice (some ⟨b0, off0, none⟩) j cap,
        fun v w' => OwnC w' w6.heap.size v (xs.take j),
        fun v _ => v = .slice (some ⟨b0, off0, none⟩) L cap,
        fun v _ => v = .int .i64 (j : Int),
        fun v _ => v = .int .i64 ((j + 1 : Nat) : Int),
        fun v _ => v = sliced (some ⟨b0, off0, none⟩) (j + 1) L cap 5,
        fun v w' => OwnC w' w6.heap.size v (xs.take j ++ xs.drop (j + 1)),
        fun v w' => OwnC w' w6.heap.size v (xs.take j ++ xs.drop (j + 1))] (by kernel_rfl) (by kernel_rfl) ?_ ?_
    · simp only [AnyOrder.ESteps, Nat.zero_add, Nat.reduceAdd]
      refine ⟨?_, ?_, ?_, ?_, ?_, ?_, ?_, ?_, ?_, ?_, trivial⟩
      · refine AnyOrder.estep rfl fun ρ w' hk K HK => ?_
        have k1 := hk.old 1 (by kernel_rfl)
        clear hk
        simp at k1
        go_simp
        exact HK.out _ _ (AnyOrder.ekept_same rfl)
      · refine AnyOrder.estep rfl fun ρ w' hk K HK => ?_
        have k1 := hk.old 2 (by kernel_rfl)
        clear hk
        simp at k1
        go_simp
        exact HK.out _ _ (AnyOrder.ekept_same rfl)
      · refine AnyOrder.estep rfl fun ρ w' hk K HK => ?_
        have k1 : ρ (.tmp 79) = .slice (some ⟨b0, off0, none⟩) L cap := hk.at 0 (by kernel_rfl)
        have k2 : ρ (.tmp 80) = .int .i64 (j : Int) := hk.at 1 (by kernel_rfl)
        clear hk
        go_simp
        exact HK.out _ _ (AnyOrder.ekept_same (by simp [AnyOrder.nth]))
      · refine AnyOrder.estep rfl fun ρ w' hk K HK => ?_
        have k1 : ρ (.tmp 81) = .slice (some ⟨b0, off0, none⟩) j cap := hk.at 2 (by kernel_rfl)
        have k2 := hk.const (.slice none 0 0)
        have kw : Below w6.heap.size w6 w' := ⟨hk.world.os, hk.world.tape, hk.world.output, hk.world.size, hk.world.block⟩
        clear hk
        have kk : Below w.heap.size w w' := HB6.out.trans (kw.mono HB6.out.size)
        refine opK_appendC (.const (.slice none 0 0)) (.tmp 81) rfl w6.heap.size _ [] k2 (OwnC.nil _ _) ⟨b0, off0, none⟩ j cap (xs.take j) HLT.out k1 _ ((HX.out.kept (Kept.of_below kk fun _ h => h)).take j) HLE1.out kw.size ?_
        intro v' w2 hv hg
        have hgr : AnyOrder.Grows w' w2 := ⟨hg.os, hg.tape, hg.output, hg.size, fun k hk => hg.block k hk (by simp [Value.ownBlock])⟩
        exact HK.out _ _ (AnyOrder.ekept_grows HST.out kw.size hgr (by rw [List.nil_append] at hv; exact hv))
      · refine AnyOrder.estep rfl fun ρ w' hk K HK => ?_
        have k1 := hk.old 1 (by kernel_rfl)
        clear hk
        simp at k1
        go_simp
        exact HK.out _ _ (AnyOrder.ekept_same rfl)
      · refine AnyOrder.estep rfl fun ρ w' hk K HK => ?_
        have k1 := hk.old 2 (by kernel_rfl)
        clear hk
        simp at k1
        go_simp
        exact HK.out _ _ (AnyOrder.ekept_same rfl)
      · refine AnyOrder.estep rfl fun ρ w' hk K HK => ?_
        have k1 : ρ (.tmp 84) = .int .i64 (j : Int) := hk.at 5 (by kernel_rfl)
        have k2 := hk.const (.int .i64 1)
        have k3 : IntKind.i64.wrap ((j : Int) + 1) = (j : Int) + 1 := IntWalk.i64_in _ (by have := HN.out; have := HJL.out; have := HL.out; omega)
        clear hk
        go_simp
        exact HK.out _ _ (AnyOrder.ekept_same (by show _ = _; rw [show ((j + 1 : Nat) : Int) = (j : Int) + 1 from by omega]; rfl))
      · refine AnyOrder.estep rfl fun ρ w' hk K HK => ?_
        have k1 : ρ (.tmp 83) = .slice (some ⟨b0, off0, none⟩) L cap := hk.at 4 (by kernel_rfl)
        have k2 : ρ (.tmp 85) = .int .i64 ((j + 1 : Nat) : Int) := hk.at 6 (by kernel_rfl)
        clear hk
        obtain ⟨q, hq⟩ : ∃ q, q = j + 1 := ⟨_, rfl⟩
        have c5 : ((q : Nat) : Int) ≤ (L : Int) := by rw [hq]; have := HJL.out; omega
        rw [← hq] at k2
        have HQ := hid hq
        have c6 : (0 : Int) ≤ (q : Int) := by omega
        clear hq
        go_simp
        exact HK.out _ _ (AnyOrder.ekept_same (by show _ = sliced (some ⟨b0, off0, none⟩) (j + 1) L cap 5; rw [← HQ.out]; simp [sliced, addr_add]))
      · refine AnyOrder.estep rfl fun ρ w' hk K HK => ?_
        have k1 : OwnC w' w6.heap.size (ρ (.tmp 82)) (xs.take j) := hk.at 3 (by kernel_rfl)
        have k2 : ρ (.tmp 86) = sliced (some ⟨b0, off0, none⟩) (j + 1) L cap 5 := hk.at 7 (by kernel_rfl)
        have kw : Below w6.heap.size w6 w' := ⟨hk.world.os, hk.world.tape, hk.world.output, hk.world.size, hk.world.block⟩
        clear hk
        obtain ⟨ad2, e2, h2⟩ := HSL.out
        rw [e2] at k2
        refine opK_appendC (.tmp 82) (.tmp 86) rfl w6.heap.size _ (xs.take j) rfl k1 ad2 _ _ (xs.drop (j + 1)) HLD.out k2 _ (h2.kept (Kept.of_below kw (ok := fun q => q < w.heap.size) fun q hq => Nat.lt_of_lt_of_le hq HB6.out.size)) HLE2.out kw.size ?_
        intro v' w2 hv hg
        refine HK.out _ _ ⟨grown_belowC hg k1 kw.size, hv, fun j hj u hu => ?_⟩
        have := AnyOrder.beside_list (js := [0, 1, 2, 4, 5, 6, 7]) (by kernel_rfl) j hj
        simp only [List.mem_cons, List.not_mem_nil, or_false] at this
        rcases this with rfl | rfl | rfl | rfl | rfl | rfl | rfl
        all_goals exact hu
      · refine AnyOrder.estep rfl fun ρ w' hk K HK => ?_
        have k1 : OwnC w' w6.heap.size (ρ (.tmp 87)) (xs.take j ++ xs.drop (j + 1)) := hk.at 8 (by kernel_rfl)
        clear hk
        have K1 := hid k1
        clear k1
        go_simp
        exact HK.out _ _ (AnyOrder.ekept_same K1.out)
    · intro vs w8 hg hvs
      have hG8 : Below w6.heap.size w6 w8 := ⟨hg.os, hg.tape, hg.output, hg.size, hg.block⟩
      have v9 : OwnC w8 w6.heap.size (vs 9) (xs.take j ++ xs.drop (j + 1)) := hvs 9 (by simp) (by kernel_rfl)
      clear hvs
      simp only [AnyOrder.fill, Nat.zero_add, Nat.reduceAdd, List.setIfInBounds_toArray, List.set_cons_zero, List.set_cons_succ]
      generalize vs 9 = v8 at *
      obtain ⟨a8, n8, c8, rfl⟩ : ∃ a n c, v8 = .slice a n c := by obtain ⟨a, c, e, _⟩ := v9.part; exact ⟨a, _, c, e⟩
      have HV8 := hid v9
      have HG8 := hid hG8
      clear v9 hG8 hg
      have HB8 := hid (HB6.out.trans (HG8.out.mono HB6.out.size))
      have HO18 := hid (HO16.out.below HG8.out)
      have HO28 := hid (HO26.out.below HG8.out)
      have HRA := hid (rall_calls (decide (k = 2)) _ _ w8 HV8.out.low HMR.out HLR.out)
      rw [← rightC_k HRR.out] at HRA
      have hal := allC_length (decide (k = 2)) (xs.take j ++ xs.drop (j + 1))
      have HAL := hid hal
      clear hal i1 i2 i5
      go_wp2_with fail
      refine HRA.out.mono ?_
      rintro e w9 ⟨v9, rfl, o9, b9⟩
      have HB9 := hid (HB8.out.trans (b9.mono HB8.out.size))
      have HO19 := hid (HO18.out.below b9)
      have HO29 := hid (HO28.out.below b9)
      obtain ⟨x9, c9, rfl, -⟩ := o9.part
      rw [HAL.out]
      have HK9 := hid (known_endH w w9 HB9.out)
      clear o9 b9
      by_cases hw : 232 < widthC (decide (k = 2)) (xs.take j ++ xs.drop (j + 1))
      · have g1 : (232 : Int) < ((widthC (decide (k = 2)) (xs.take j ++ xs.drop (j + 1)) : Nat) : Int) := by omega
        go_wp2_with fail
        refine HK9.out.mono ?_
        rintro e w10 ⟨rfl, b10⟩
        have HB10 := hid b10
        clear b10
        go_wp2_with fail
        go_ret
        exact ⟨rfl, HB10.out⟩
      · have g1 : ¬ (232 : Int) < ((widthC (decide (k = 2)) (xs.take j ++ xs.drop (j + 1)) : Nat) : Int) := by omega
        have hfit := HFIT.out (by have := HWE.out; omega)
        unfold wide at hfit
        have e1 : rawErr k (xs.take t) = 0 := by
          unfold rawErr
          rw [if_pos (right_take HRR.out HTS.out.1 (by have := HTS.out; rw [HL.out]; omega)), if_neg (by omega)]
        have e2 : rawErr k (xs.drop t) = 0 := by
          unfold rawErr
          rw [if_pos (right_drop HRR.out (by have := HTS.out; rw [HL.out]; omega)), if_neg (by omega)]
        have HR1 := hid (Raw_calls k _ (xs.take t) w9 HO19.out.low (by rw [List.length_take]; have := HN.out; omega))
        have HR2 := hid (fun (w' : World) (hb : Below w9.heap.size w9 w') => Raw_calls k _ (xs.drop t) w' (HO29.out.below hb).low (by rw [List.length_drop]; have := HN.out; omega))
        rw [e1] at HR1
        rw [e2] at HR2
        clear hfit e1 e2 hw
        go_wp2_with fail
        refine HR1.out.mono ?_
        rintro e w10 ⟨v10, rfl, o10, b10⟩
        have HB10 := hid (HB9.out.trans (b10.mono HB9.out.size))
        have HR3 := hid (HR2.out w10 b10)
        obtain ⟨x10, n10, c10, rfl⟩ : ∃ a n c, v10 = .slice a n c := by obtain ⟨a, c, e, _⟩ := o10.part; exact ⟨a, _, c, e⟩
        clear o10 b10
        go_wp2_with fail
        refine HR3.out.mono ?_
        rintro e w11 ⟨v11, rfl, o11, b11⟩
        have HB11 := hid (HB10.out.trans (b11.mono HB10.out.size))
        obtain ⟨x11, n11, c11, rfl⟩ : ∃ a n c, v11 = .slice a n c := by obtain ⟨a, c, e, _⟩ := o11.part; exact ⟨a, _, c, e⟩
        have HK11 := hid (known_endH w w11 HB11.out)
        clear o11 b11
        go_wp2_with fail
        refine HK11.out.mono ?_
        rintro e w12 ⟨rfl, b12⟩
        have HB12 := hid b12
        clear b12
        go_wp2_with fail
        go_ret
        exact ⟨rfl, HB12.out⟩
  · -- they are not
    simp only [if_neg hy] at hh
    refine hh.mono ?_
    rintro e w2 ⟨v1, v2, rfl, o1, o2, -, b2⟩
    have HB2 := hid b2
    obtain ⟨x1, m1, rfl, -⟩ := o1.part
    obtain ⟨x2, m2, rfl, -⟩ := o2.part
    have HRC := hid (right_calls k _ xs w2 (HP.out w2 HB2.out))
    have HKB := hid (fun (w' : World) (hb : Below w.heap.size w w') => known_endH w w' hb)
    clear hh o1 o2 b2
    simp only [List.length_nil]
    rw [HL.out] at hy
    go_wp2_with fail
    refine HRC.out.mono ?_
    rintro e w3 ⟨rfl, b3⟩
    have HB3 := hid (HB2.out.trans (b3.mono HB2.out.size))
    have HK3 := hid (HKB.out w3 HB3.out)
    clear b3
    by_cases hr : rightC k xs = true
    · have i0 : (L : Int) < 2 := by
        have : ¬ 2 ≤ L := fun h => hy ⟨hr, h⟩
        omega
      rw [hr]
      clear hy hr
      go_wp2_with fail
      refine HK3.out.mono ?_
      rintro e w4 ⟨rfl, b4⟩
      have HB4 := hid b4
      clear b4
      go_wp2_with fail
      go_ret
      exact ⟨rfl, HB4.out⟩
    · have hr' : rightC k xs = false := by simpa using hr
      rw [hr']
      clear hy hr hr'
      go_wp2_with fail
      refine HK3.out.mono ?_
      rintro e w4 ⟨rfl, b4⟩
      have HB4 := hid b4
      clear b4
      go_wp2_with fail
      go_ret
      exact ⟨rfl, HB4.out⟩
set_option maxRecDepth 100000 in
theorem slotsHalves_open {H : Type} (enc : TypeId × Value → H) (W : World) (base : Nat) (v0 v1 v2 : Value) (d0 d1 d2 : DataW H) (p0 p1 p2 : List MemPlace) (o0 : Value.okWide Try.prog W .any base 60 v0) (o1 : Value.okWide Try.prog W .any base 61 v1) (o2 : Value.okWide Try.prog W .any base 3 v2)
    (h0 : DataW.Trod enc Try.prog W 0 (fun _ => true) true 60 v0 d0 p0) (h1 : DataW.Trod enc Try.prog W 0 (fun _ => true) true 61 v1 d1 p1) (h2 : DataW.Trod enc Try.prog W 0 (fun _ => true) true 3 v2 d2 p2) :
    Calls Try.prog 14 #[v0, v1, v2] W fun e w' => e = .returned (.bool true) ∧ Below W.heap.size W w' := by
  obtain ⟨k, rfl, -⟩ := open_int Try.underlying60 o0 h0
  obtain ⟨xs, hx⟩ := cells_of enc W base v1 d1 p1 o1 h1
  obtain ⟨one, rfl, -⟩ := open_int Try.underlying3 o2 h2
  exact shalves_walk k one v1 xs W hx
end Go.Proofs.Ytkpadhjlopcejaa
