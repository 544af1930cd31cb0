/-
  Whether two lists of cells are the same: the walks of the document's Same, Equal, the code's Same.
-/
import Derived.Test.YtkpadhjlopcejaaSCheck
namespace Go.Proofs.Ytkpadhjlopcejaa
open Go.RowKit
def clEq (x y : Cl) : Bool := x.key.toList == y.key.toList && (x.text.toList == y.text.toList && (x.long == y.long && (x.page == y.page && x.size == y.size)))
theorem bytes_eq {a b : ByteArray} (h : a.toList = b.toList) : a = b := by
  rw [ByteArray.toList_eq, ByteArray.toList_eq, Array.toList_inj] at h
  obtain ⟨a⟩ := a
  obtain ⟨b⟩ := b
  exact congrArg _ h
theorem clEq_iff {x y : Cl} : clEq x y = true ↔ x = y := by
  constructor
  · intro h
    obtain ⟨k1, t1, l1, p1, s1⟩ := x
    obtain ⟨k2, t2, l2, p2, s2⟩ := y
    simp only [clEq, Bool.and_eq_true, beq_iff_eq] at h
    obtain ⟨h1, h2, rfl, rfl, rfl⟩ := h
    rw [bytes_eq h1, bytes_eq h2]
  · rintro rfl
    simp [clEq]
theorem run_eqlC (x y : Cl) (w : World) : (binOp .eql 81 (aggC x) (aggC y)).run Try.prog w = .ok (.bool (clEq x y)) w := by
  obtain ⟨k1, t1, l1, p1, s1⟩ := x
  obtain ⟨k2, t2, l2, p2, s2⟩ := y
  unfold aggC clEq
  by_cases h1 : k1.toList = k2.toList
  · by_cases h2 : t1.toList = t2.toList
    · by_cases h3 : l1 = l2
      · by_cases h4 : p1 = p2
        · by_cases h5 : s1 = s2
          · simp [go_sem, h1, h2, h3, h4, h5]
          · have e5 : (s1 == s2) = false := by simp [h5]
            simp [go_sem, h1, h2, h3, h4, e5]
        · simp [go_sem, h1, h2, h3, h4]
      · simp [go_sem, h1, h2, h3]
    · simp [go_sem, h1, h2]
  · simp [go_sem, h1]
theorem run_neqC (x y : Cl) (w : World) : (binOp .neq 81 (aggC x) (aggC y)).run Try.prog w = .ok (.bool (!clEq x y)) w := by
  obtain ⟨k1, t1, l1, p1, s1⟩ := x
  obtain ⟨k2, t2, l2, p2, s2⟩ := y
  unfold aggC clEq
  by_cases h1 : k1.toList = k2.toList
  · by_cases h2 : t1.toList = t2.toList
    · by_cases h3 : l1 = l2
      · by_cases h4 : p1 = p2
        · by_cases h5 : s1 = s2
          · simp [go_sem, h1, h2, h3, h4, h5]
          · have e5 : (s1 == s2) = false := by simp [h5]
            simp [go_sem, h1, h2, h3, h4, e5]
        · simp [go_sem, h1, h2, h3, h4]
      · simp [go_sem, h1, h2, h3]
    · simp [go_sem, h1, h2]
  · simp [go_sem, h1]
def SameEnd (xs ys : List Cl) (w : World) (e : Ending) (w' : World) : Prop := ∃ b : Bool, e = .returned (.bool b) ∧ (b = true ↔ xs = ys) ∧ Below w.heap.size w w'
set_option maxRecDepth 100000 in
set_option maxHeartbeats 4000000 in
theorem rsame_calls (va vb : Value) (xs ys : List Cl) (w : World) (hp : PartC (fun q => q < w.heap.size) w va xs) (hq : PartC (fun q => q < w.heap.size) w vb ys) : Calls Try.prog 41 #[va, vb] w (SameEnd xs ys w) := by
  have hmx : Try.prog.follows .mixedOrders = true := by kernel_rfl
  obtain ⟨a, cap, rfl, hx, hx1, hx2, -⟩ := hp
  obtain ⟨b, cbp, rfl, hy, -, -, -⟩ := hq
  generalize hL : xs.length = L at *
  generalize hM : ys.length = M at *
  have HL := hid hL
  have HM := hid hM
  have HLC := hid (show (L : Int) ≤ 9223372036854775807 by unfold maxLen at hx2; omega)
  clear hL hM hx1 hx2
  by_cases hlm : L = M
  · subst hlm
    go_enter Try.func41, Try.ntmps41
    go_wp2_with fail
    go_loopw [5] (fun i wr => ∃ k : Nat, k ≤ L ∧ i = .int .i64 (k : Int) ∧ Hid (xs.take k = ys.take k) ∧ Below w.heap.size w wr) (fun i _ => L - (intOf i).toNat)
    case atStart => exact ⟨0, Nat.zero_le _, rfl, rfl, Below.refl _ _⟩
    case round =>
      obtain ⟨k, hk, rfl, HT, hbr⟩ := hrel
      have HBR := hid hbr
      clear hbr
      by_cases hlt : k < L
      · have hkl : k < xs.length := by rw [HL.out]; exact hlt
        have hkm : k < ys.length := by rw [HM.out]; exact hlt
        obtain ⟨b0, off0, rfl, ho0, h0, h1, h2, h3, h4⟩ := hx.at hkl
        obtain ⟨b9, off9, rfl, ho9, g0, g1, g2, g3, g4⟩ := hy.at hkm
        have c0 := HBR.out.cell (p := ⟨b0, off0 + k * 5, none⟩) ho0
        have d0 := HBR.out.cell (p := ⟨b9, off9 + k * 5, none⟩) ho9
        rw [h0] at c0
        rw [g0] at d0
        have c1 := HBR.out.cell (p := ⟨b0, off0 + k * 5 + 1, none⟩) ho0
        have d1 := HBR.out.cell (p := ⟨b9, off9 + k * 5 + 1, none⟩) ho9
        rw [h1] at c1
        rw [g1] at d1
        have c2 := HBR.out.cell (p := ⟨b0, off0 + k * 5 + 2, none⟩) ho0
        have d2 := HBR.out.cell (p := ⟨b9, off9 + k * 5 + 2, none⟩) ho9
        rw [h2] at c2
        rw [g2] at d2
        have c3 := HBR.out.cell (p := ⟨b0, off0 + k * 5 + 3, none⟩) ho0
        have d3 := HBR.out.cell (p := ⟨b9, off9 + k * 5 + 3, none⟩) ho9
        rw [h3] at c3
        rw [g3] at d3
        have c4 := HBR.out.cell (p := ⟨b0, off0 + k * 5 + 4, none⟩) ho0
        have d4 := HBR.out.cell (p := ⟨b9, off9 + k * 5 + 4, none⟩) ho9
        rw [h4] at c4
        rw [g4] at d4
        have htk := List.take_succ_eq_append_getElem hkl
        have htm := List.take_succ_eq_append_getElem hkm
        obtain ⟨x, hxe⟩ : ∃ x, x = xs[k] := ⟨_, rfl⟩
        obtain ⟨y, hye⟩ : ∃ y, y = ys[k] := ⟨_, rfl⟩
        rw [← hxe] at c0 c1 c2 c3 c4 htk
        rw [← hye] at d0 d1 d2 d3 d4 htm
        have i0 : (k : Int) < (L : Int) := by omega
        have hw2 : IntKind.i64.wrap ((k : Int) + 1) = (k : Int) + 1 := IntWalk.i64_in _ (by have := HLC.out; omega)
        have HTK := hid htk
        have HTM := hid htm
        have HK := hid hlt
        have HKL := hid hkl
        have HXE := hid hxe
        have HYE := hid hye
        clear hx hy h0 h1 h2 h3 h4 g0 g1 g2 g3 g4 htk htm hlt hk
        go_wp2_with fail
        have hne := run_neqC x y
        unfold aggC at hne
        have HNE := hid hne
        clear hne
        cases hcl : clEq x y
        · have HCL := hid hcl
          refine AnyOrder.wp_region_grows_g [
              fun v _ => v = .slice (some ⟨b0, off0, none⟩) L cap,
              fun v _ => v = .int .i64 (k : Int),
              fun v _ => v = .pointer (some ⟨b0, off0 + k * 5, none⟩),
              fun v _ => v = .agg #[.string x.key, .string x.text, .bool x.long, .int .i64 x.page, .int .i64 x.size],
              fun v _ => v = .slice (some ⟨b9, off9, none⟩) L cbp,
              fun v _ => v = .int .i64 (k : Int),
              fun v _ => v = .pointer (some ⟨b9, off9 + k * 5, none⟩),
              fun v _ => v = .agg #[.string y.key, .string y.text, .bool y.long, .int .i64 y.page, .int .i64 y.size],
              fun v _ => v = .bool true] hmx (by kernel_rfl) ?_ ?_ ?_
          · intro p hp
            simp only [List.mem_cons, List.not_mem_nil, or_false] at hp
            rcases hp with rfl | rfl | rfl | rfl | rfl | rfl | rfl | rfl | rfl
            all_goals first
              | exact AnyOrder.stays_const _
          · simp only [AnyOrder.dstsOf, List.map_cons, List.map_nil, AnyOrder.GSteps, Nat.zero_add, Nat.reduceAdd]
            refine ⟨?_, ?_, ?_, ?_, ?_, ?_, ?_, ?_, ?_, trivial⟩
            · intro ρ w' hk
              have k0 : ρ (.tmp 0) = .slice (some ⟨b0, off0, none⟩) L cap := hk.old 0 rfl
              clear hk
              go_simp
              exact ⟨AnyOrder.Grows.refl _, by first | rfl | (simp [AnyOrder.nth]; done) | (simp [AnyOrder.nth]; omega)⟩
            · intro ρ w' hk
              have k5 : ρ (.tmp 5) = .int .i64 (k : Int) := hk.old 5 rfl
              clear hk
              go_simp
              exact ⟨AnyOrder.Grows.refl _, by first | rfl | (simp [AnyOrder.nth]; done) | (simp [AnyOrder.nth]; omega)⟩
            · intro ρ w' hk
              have k17 : ρ (.tmp 17) = .slice (some ⟨b0, off0, none⟩) L cap := hk.at 0 rfl
              have k18 : ρ (.tmp 18) = .int .i64 (k : Int) := hk.at 1 rfl
              clear hk
              go_simp
              exact ⟨AnyOrder.Grows.refl _, by first | rfl | (simp [AnyOrder.nth]; done) | (simp [AnyOrder.nth]; omega)⟩
            · intro ρ w' hk
              have k19 : ρ (.tmp 19) = .pointer (some ⟨b0, off0 + k * 5, none⟩) := hk.at 2 rfl
              have m0 := AnyOrder.cell_grows hk.world c0
              have m1 := AnyOrder.cell_grows hk.world c1
              have m2 := AnyOrder.cell_grows hk.world c2
              have m3 := AnyOrder.cell_grows hk.world c3
              have m4 := AnyOrder.cell_grows hk.world c4
              clear hk
              go_simp
              exact ⟨AnyOrder.Grows.refl _, by first | rfl | (simp [AnyOrder.nth]; done) | (simp [AnyOrder.nth]; omega)⟩
            · intro ρ w' hk
              have k1 : ρ (.tmp 1) = .slice (some ⟨b9, off9, none⟩) L cbp := hk.old 1 rfl
              clear hk
              go_simp
              exact ⟨AnyOrder.Grows.refl _, by first | rfl | (simp [AnyOrder.nth]; done) | (simp [AnyOrder.nth]; omega)⟩
            · intro ρ w' hk
              have k5 : ρ (.tmp 5) = .int .i64 (k : Int) := hk.old 5 rfl
              clear hk
              go_simp
              exact ⟨AnyOrder.Grows.refl _, by first | rfl | (simp [AnyOrder.nth]; done) | (simp [AnyOrder.nth]; omega)⟩
            · intro ρ w' hk
              have k21 : ρ (.tmp 21) = .slice (some ⟨b9, off9, none⟩) L cbp := hk.at 4 rfl
              have k22 : ρ (.tmp 22) = .int .i64 (k : Int) := hk.at 5 rfl
              clear hk
              go_simp
              exact ⟨AnyOrder.Grows.refl _, by first | rfl | (simp [AnyOrder.nth]; done) | (simp [AnyOrder.nth]; omega)⟩
            · intro ρ w' hk
              have k23 : ρ (.tmp 23) = .pointer (some ⟨b9, off9 + k * 5, none⟩) := hk.at 6 rfl
              have m0 := AnyOrder.cell_grows hk.world d0
              have m1 := AnyOrder.cell_grows hk.world d1
              have m2 := AnyOrder.cell_grows hk.world d2
              have m3 := AnyOrder.cell_grows hk.world d3
              have m4 := AnyOrder.cell_grows hk.world d4
              clear hk
              go_simp
              exact ⟨AnyOrder.Grows.refl _, by first | rfl | (simp [AnyOrder.nth]; done) | (simp [AnyOrder.nth]; omega)⟩
            · intro ρ w' hk
              have k20 : ρ (.tmp 20) = .agg #[.string x.key, .string x.text, .bool x.long, .int .i64 x.page, .int .i64 x.size] := hk.at 3 rfl
              have k24 : ρ (.tmp 24) = .agg #[.string y.key, .string y.text, .bool y.long, .int .i64 y.page, .int .i64 y.size] := hk.at 7 rfl
              have kw := AnyOrder.Grows.of_drew hk.world
              clear hk
              have hn := HNE.out w'
              rw [hcl] at hn
              have hg : (eqGuard BinOp.neq 81 (.tmp 20) (.tmp 24) (.agg #[.string x.key, .string x.text, .bool x.long, .int .i64 x.page, .int .i64 x.size]) (.agg #[.string y.key, .string y.text, .bool y.long, .int .i64 y.page, .int .i64 y.size])).run Try.prog w' = .ok () w' := by simp [go_sem]
              show AnyOrder.opK Try.prog _ ((execOp ρ _).run Try.prog w')
              simp only [execOp, k20, k24, Sem.run_bind, hg, hn, Result.andThen_ok, Sem.run_pure]
              exact ⟨AnyOrder.Grows.refl _, rfl⟩
          · intro vs w9 hR9 hv9
            have hG9 := AnyOrder.Grows.of_drew hR9
            have v8 : vs 8 = .bool true := hv9 8 (by decide)
            clear hR9 hv9
            simp only [AnyOrder.fill, Nat.zero_add, Nat.reduceAdd, List.setIfInBounds_toArray, List.set_cons_zero, List.set_cons_succ]
            rw [v8]
            clear v8
            have HB9 := hid (HBR.out.trans (hG9.mono HBR.out.size))
            clear hG9 c0 c1 c2 c3 c4 d0 d1 d2 d3 d4 hcl
            go_wp2_with fail
            go_ret
            refine ⟨false, rfl, ⟨fun h => (by cases h), fun h => ?_⟩, HB9.out⟩
            subst h
            have hxy : x = y := by rw [HXE.out, HYE.out]
            rw [clEq_iff.2 hxy] at HCL
            cases HCL.out
        · have HCL := hid hcl
          refine AnyOrder.wp_region_grows_g [
              fun v _ => v = .slice (some ⟨b0, off0, none⟩) L cap,
              fun v _ => v = .int .i64 (k : Int),
              fun v _ => v = .pointer (some ⟨b0, off0 + k * 5, none⟩),
              fun v _ => v = .agg #[.string x.key, .string x.text, .bool x.long, .int .i64 x.page, .int .i64 x.size],
              fun v _ => v = .slice (some ⟨b9, off9, none⟩) L cbp,
              fun v _ => v = .int .i64 (k : Int),
              fun v _ => v = .pointer (some ⟨b9, off9 + k * 5, none⟩),
              fun v _ => v = .agg #[.string y.key, .string y.text, .bool y.long, .int .i64 y.page, .int .i64 y.size],
              fun v _ => v = .bool false] hmx (by kernel_rfl) ?_ ?_ ?_
          · intro p hp
            simp only [List.mem_cons, List.not_mem_nil, or_false] at hp
            rcases hp with rfl | rfl | rfl | rfl | rfl | rfl | rfl | rfl | rfl
            all_goals first
              | exact AnyOrder.stays_const _
          · simp only [AnyOrder.dstsOf, List.map_cons, List.map_nil, AnyOrder.GSteps, Nat.zero_add, Nat.reduceAdd]
            refine ⟨?_, ?_, ?_, ?_, ?_, ?_, ?_, ?_, ?_, trivial⟩
            · intro ρ w' hk
              have k0 : ρ (.tmp 0) = .slice (some ⟨b0, off0, none⟩) L cap := hk.old 0 rfl
              clear hk
              go_simp
              exact ⟨AnyOrder.Grows.refl _, by first | rfl | (simp [AnyOrder.nth]; done) | (simp [AnyOrder.nth]; omega)⟩
            · intro ρ w' hk
              have k5 : ρ (.tmp 5) = .int .i64 (k : Int) := hk.old 5 rfl
              clear hk
              go_simp
              exact ⟨AnyOrder.Grows.refl _, by first | rfl | (simp [AnyOrder.nth]; done) | (simp [AnyOrder.nth]; omega)⟩
            · intro ρ w' hk
              have k17 : ρ (.tmp 17) = .slice (some ⟨b0, off0, none⟩) L cap := hk.at 0 rfl
              have k18 : ρ (.tmp 18) = .int .i64 (k : Int) := hk.at 1 rfl
              clear hk
              go_simp
              exact ⟨AnyOrder.Grows.refl _, by first | rfl | (simp [AnyOrder.nth]; done) | (simp [AnyOrder.nth]; omega)⟩
            · intro ρ w' hk
              have k19 : ρ (.tmp 19) = .pointer (some ⟨b0, off0 + k * 5, none⟩) := hk.at 2 rfl
              have m0 := AnyOrder.cell_grows hk.world c0
              have m1 := AnyOrder.cell_grows hk.world c1
              have m2 := AnyOrder.cell_grows hk.world c2
              have m3 := AnyOrder.cell_grows hk.world c3
              have m4 := AnyOrder.cell_grows hk.world c4
              clear hk
              go_simp
              exact ⟨AnyOrder.Grows.refl _, by first | rfl | (simp [AnyOrder.nth]; done) | (simp [AnyOrder.nth]; omega)⟩
            · intro ρ w' hk
              have k1 : ρ (.tmp 1) = .slice (some ⟨b9, off9, none⟩) L cbp := hk.old 1 rfl
              clear hk
              go_simp
              exact ⟨AnyOrder.Grows.refl _, by first | rfl | (simp [AnyOrder.nth]; done) | (simp [AnyOrder.nth]; omega)⟩
            · intro ρ w' hk
              have k5 : ρ (.tmp 5) = .int .i64 (k : Int) := hk.old 5 rfl
              clear hk
              go_simp
              exact ⟨AnyOrder.Grows.refl _, by first | rfl | (simp [AnyOrder.nth]; done) | (simp [AnyOrder.nth]; omega)⟩
            · intro ρ w' hk
              have k21 : ρ (.tmp 21) = .slice (some ⟨b9, off9, none⟩) L cbp := hk.at 4 rfl
              have k22 : ρ (.tmp 22) = .int .i64 (k : Int) := hk.at 5 rfl
              clear hk
              go_simp
              exact ⟨AnyOrder.Grows.refl _, by first | rfl | (simp [AnyOrder.nth]; done) | (simp [AnyOrder.nth]; omega)⟩
            · intro ρ w' hk
              have k23 : ρ (.tmp 23) = .pointer (some ⟨b9, off9 + k * 5, none⟩) := hk.at 6 rfl
              have m0 := AnyOrder.cell_grows hk.world d0
              have m1 := AnyOrder.cell_grows hk.world d1
              have m2 := AnyOrder.cell_grows hk.world d2
              have m3 := AnyOrder.cell_grows hk.world d3
              have m4 := AnyOrder.cell_grows hk.world d4
              clear hk
              go_simp
              exact ⟨AnyOrder.Grows.refl _, by first | rfl | (simp [AnyOrder.nth]; done) | (simp [AnyOrder.nth]; omega)⟩
            · intro ρ w' hk
              have k20 : ρ (.tmp 20) = .agg #[.string x.key, .string x.text, .bool x.long, .int .i64 x.page, .int .i64 x.size] := hk.at 3 rfl
              have k24 : ρ (.tmp 24) = .agg #[.string y.key, .string y.text, .bool y.long, .int .i64 y.page, .int .i64 y.size] := hk.at 7 rfl
              have kw := AnyOrder.Grows.of_drew hk.world
              clear hk
              have hn := HNE.out w'
              rw [hcl] at hn
              have hg : (eqGuard BinOp.neq 81 (.tmp 20) (.tmp 24) (.agg #[.string x.key, .string x.text, .bool x.long, .int .i64 x.page, .int .i64 x.size]) (.agg #[.string y.key, .string y.text, .bool y.long, .int .i64 y.page, .int .i64 y.size])).run Try.prog w' = .ok () w' := by simp [go_sem]
              show AnyOrder.opK Try.prog _ ((execOp ρ _).run Try.prog w')
              simp only [execOp, k20, k24, Sem.run_bind, hg, hn, Result.andThen_ok, Sem.run_pure]
              exact ⟨AnyOrder.Grows.refl _, rfl⟩
          · intro vs w9 hR9 hv9
            have hG9 := AnyOrder.Grows.of_drew hR9
            have v8 : vs 8 = .bool false := hv9 8 (by decide)
            clear hR9 hv9
            simp only [AnyOrder.fill, Nat.zero_add, Nat.reduceAdd, List.setIfInBounds_toArray, List.set_cons_zero, List.set_cons_succ]
            rw [v8]
            clear v8
            have HB9 := hid (HBR.out.trans (hG9.mono HBR.out.size))
            have HT1 := hid (show xs.take (k + 1) = ys.take (k + 1) by rw [HTK.out, HTM.out, HT.out, clEq_iff.1 HCL.out])
            clear hG9 c0 c1 c2 c3 c4 d0 d1 d2 d3 d4 hcl
            go_wp2_with fail
            go_roundw
            case rel => exact ⟨k + 1, HK.out, by go_num, HT1.out, HB9.out⟩
            case measure => simp [intOf]; have := HK.out; omega
      · obtain rfl : k = L := by omega
        have i0 : ¬ (k : Int) < (k : Int) := by omega
        clear hx hy hlt hk
        go_wp2_with fail
        go_ret
        refine ⟨true, rfl, ⟨fun _ => ?_, fun _ => rfl⟩, HBR.out⟩
        have := HT.out
        rwa [List.take_of_length_le (by rw [HL.out]; omega), List.take_of_length_le (by rw [HM.out]; omega)] at this
  · have i1 : ((L : Int) == (M : Int)) = false := by simp only [beq_eq_false_iff_ne]; omega
    clear hx hy
    go_enter Try.func41, Try.ntmps41
    go_wp2_with fail
    go_ret
    refine ⟨false, rfl, ⟨fun h => (by cases h), fun h => ?_⟩, Below.refl _ _⟩
    subst h
    exact absurd (HL.out.symm.trans HM.out) hlm
set_option maxRecDepth 100000 in
set_option maxHeartbeats 4000000 in
theorem equal_calls (va vb : Value) (xs ys : List Cl) (w : World) (hp : PartC (fun q => q < w.heap.size) w va xs) (hq : PartC (fun q => q < w.heap.size) w vb ys) : Calls Try.prog 69 #[va, vb] w (SameEnd xs ys w) := by
  have hmx : Try.prog.follows .mixedOrders = true := by kernel_rfl
  obtain ⟨a, cap, rfl, hx, hx1, hx2, -⟩ := hp
  obtain ⟨b, cbp, rfl, hy, -, -, -⟩ := hq
  generalize hL : xs.length = L at *
  generalize hM : ys.length = M at *
  have HL := hid hL
  have HM := hid hM
  have HLC := hid (show (L : Int) ≤ 9223372036854775807 by unfold maxLen at hx2; omega)
  clear hL hM hx1 hx2
  by_cases hlm : L = M
  · subst hlm
    go_enter Try.func69, Try.ntmps69
    go_wp2_with fail
    go_loopw [13] (fun i wr => ∃ k : Nat, k ≤ L ∧ i = .int .i64 (k : Int) ∧ Hid (xs.take k = ys.take k) ∧ Below w.heap.size w wr) (fun i _ => L - (intOf i).toNat)
    case atStart => exact ⟨0, Nat.zero_le _, rfl, rfl, Below.refl _ _⟩
    case round =>
      obtain ⟨k, hk, rfl, HT, hbr⟩ := hrel
      have HBR := hid hbr
      clear hbr
      by_cases hlt : k < L
      · have hkl : k < xs.length := by rw [HL.out]; exact hlt
        have hkm : k < ys.length := by rw [HM.out]; exact hlt
        obtain ⟨b0, off0, rfl, ho0, h0, h1, h2, h3, h4⟩ := hx.at hkl
        obtain ⟨b9, off9, rfl, ho9, g0, g1, g2, g3, g4⟩ := hy.at hkm
        have c0 := HBR.out.cell (p := ⟨b0, off0 + k * 5, none⟩) ho0
        have d0 := HBR.out.cell (p := ⟨b9, off9 + k * 5, none⟩) ho9
        rw [h0] at c0
        rw [g0] at d0
        have c1 := HBR.out.cell (p := ⟨b0, off0 + k * 5 + 1, none⟩) ho0
        have d1 := HBR.out.cell (p := ⟨b9, off9 + k * 5 + 1, none⟩) ho9
        rw [h1] at c1
        rw [g1] at d1
        have c2 := HBR.out.cell (p := ⟨b0, off0 + k * 5 + 2, none⟩) ho0
        have d2 := HBR.out.cell (p := ⟨b9, off9 + k * 5 + 2, none⟩) ho9
        rw [h2] at c2
        rw [g2] at d2
        have c3 := HBR.out.cell (p := ⟨b0, off0 + k * 5 + 3, none⟩) ho0
        have d3 := HBR.out.cell (p := ⟨b9, off9 + k * 5 + 3, none⟩) ho9
        rw [h3] at c3
        rw [g3] at d3
        have c4 := HBR.out.cell (p := ⟨b0, off0 + k * 5 + 4, none⟩) ho0
        have d4 := HBR.out.cell (p := ⟨b9, off9 + k * 5 + 4, none⟩) ho9
        rw [h4] at c4
        rw [g4] at d4
        have htk := List.take_succ_eq_append_getElem hkl
        have htm := List.take_succ_eq_append_getElem hkm
        obtain ⟨x, hxe⟩ : ∃ x, x = xs[k] := ⟨_, rfl⟩
        obtain ⟨y, hye⟩ : ∃ y, y = ys[k] := ⟨_, rfl⟩
        rw [← hxe] at c0 c1 c2 c3 c4 htk
        rw [← hye] at d0 d1 d2 d3 d4 htm
        have i0 : (k : Int) < (L : Int) := by omega
        have hw2 : IntKind.i64.wrap ((k : Int) + 1) = (k : Int) + 1 := IntWalk.i64_in _ (by have := HLC.out; omega)
        have HTK := hid htk
        have HTM := hid htm
        have HK := hid hlt
        have HKL := hid hkl
        have HXE := hid hxe
        have HYE := hid hye
        clear hx hy h0 h1 h2 h3 h4 g0 g1 g2 g3 g4 htk htm hlt hk
        go_wp2_with fail
        have hne := run_neqC x y
        unfold aggC at hne
        have HNE := hid hne
        clear hne
        cases hcl : clEq x y
        · have HCL := hid hcl
          refine AnyOrder.wp_region_grows_g [
              fun v _ => v = .slice (some ⟨b0, off0, none⟩) L cap,
              fun v _ => v = .int .i64 (k : Int),
              fun v _ => v = .pointer (some ⟨b0, off0 + k * 5, none⟩),
              fun v _ => v = .agg #[.string x.key, .string x.text, .bool x.long, .int .i64 x.page, .int .i64 x.size],
              fun v _ => v = .slice (some ⟨b9, off9, none⟩) L cbp,
              fun v _ => v = .int .i64 (k : Int),
              fun v _ => v = .pointer (some ⟨b9, off9 + k * 5, none⟩),
              fun v _ => v = .agg #[.string y.key, .string y.text, .bool y.long, .int .i64 y.page, .int .i64 y.size],
              fun v _ => v = .bool true] hmx (by kernel_rfl) ?_ ?_ ?_
          · intro p hp
            simp only [List.mem_cons, List.not_mem_nil, or_false] at hp
            rcases hp with rfl | rfl | rfl | rfl | rfl | rfl | rfl | rfl | rfl
            all_goals first
              | exact AnyOrder.stays_const _
          · simp only [AnyOrder.dstsOf, List.map_cons, List.map_nil, AnyOrder.GSteps, Nat.zero_add, Nat.reduceAdd]
            refine ⟨?_, ?_, ?_, ?_, ?_, ?_, ?_, ?_, ?_, trivial⟩
            · intro ρ w' hk
              have k0 : ρ (.tmp 0) = .slice (some ⟨b0, off0, none⟩) L cap := hk.old 0 rfl
              clear hk
              go_simp
              exact ⟨AnyOrder.Grows.refl _, by first | rfl | (simp [AnyOrder.nth]; done) | (simp [AnyOrder.nth]; omega)⟩
            · intro ρ w' hk
              have k5 : ρ (.tmp 5) = .int .i64 (k : Int) := hk.old 5 rfl
              clear hk
              go_simp
              exact ⟨AnyOrder.Grows.refl _, by first | rfl | (simp [AnyOrder.nth]; done) | (simp [AnyOrder.nth]; omega)⟩
            · intro ρ w' hk
              have k16 : ρ (.tmp 16) = .slice (some ⟨b0, off0, none⟩) L cap := hk.at 0 rfl
              have k17 : ρ (.tmp 17) = .int .i64 (k : Int) := hk.at 1 rfl
              clear hk
              go_simp
              exact ⟨AnyOrder.Grows.refl _, by first | rfl | (simp [AnyOrder.nth]; done) | (simp [AnyOrder.nth]; omega)⟩
            · intro ρ w' hk
              have k18 : ρ (.tmp 18) = .pointer (some ⟨b0, off0 + k * 5, none⟩) := hk.at 2 rfl
              have m0 := AnyOrder.cell_grows hk.world c0
              have m1 := AnyOrder.cell_grows hk.world c1
              have m2 := AnyOrder.cell_grows hk.world c2
              have m3 := AnyOrder.cell_grows hk.world c3
              have m4 := AnyOrder.cell_grows hk.world c4
              clear hk
              go_simp
              exact ⟨AnyOrder.Grows.refl _, by first | rfl | (simp [AnyOrder.nth]; done) | (simp [AnyOrder.nth]; omega)⟩
            · intro ρ w' hk
              have k1 : ρ (.tmp 1) = .slice (some ⟨b9, off9, none⟩) L cbp := hk.old 1 rfl
              clear hk
              go_simp
              exact ⟨AnyOrder.Grows.refl _, by first | rfl | (simp [AnyOrder.nth]; done) | (simp [AnyOrder.nth]; omega)⟩
            · intro ρ w' hk
              have k5 : ρ (.tmp 5) = .int .i64 (k : Int) := hk.old 5 rfl
              clear hk
              go_simp
              exact ⟨AnyOrder.Grows.refl _, by first | rfl | (simp [AnyOrder.nth]; done) | (simp [AnyOrder.nth]; omega)⟩
            · intro ρ w' hk
              have k20 : ρ (.tmp 20) = .slice (some ⟨b9, off9, none⟩) L cbp := hk.at 4 rfl
              have k21 : ρ (.tmp 21) = .int .i64 (k : Int) := hk.at 5 rfl
              clear hk
              go_simp
              exact ⟨AnyOrder.Grows.refl _, by first | rfl | (simp [AnyOrder.nth]; done) | (simp [AnyOrder.nth]; omega)⟩
            · intro ρ w' hk
              have k22 : ρ (.tmp 22) = .pointer (some ⟨b9, off9 + k * 5, none⟩) := hk.at 6 rfl
              have m0 := AnyOrder.cell_grows hk.world d0
              have m1 := AnyOrder.cell_grows hk.world d1
              have m2 := AnyOrder.cell_grows hk.world d2
              have m3 := AnyOrder.cell_grows hk.world d3
              have m4 := AnyOrder.cell_grows hk.world d4
              clear hk
              go_simp
              exact ⟨AnyOrder.Grows.refl _, by first | rfl | (simp [AnyOrder.nth]; done) | (simp [AnyOrder.nth]; omega)⟩
            · intro ρ w' hk
              have k19 : ρ (.tmp 19) = .agg #[.string x.key, .string x.text, .bool x.long, .int .i64 x.page, .int .i64 x.size] := hk.at 3 rfl
              have k23 : ρ (.tmp 23) = .agg #[.string y.key, .string y.text, .bool y.long, .int .i64 y.page, .int .i64 y.size] := hk.at 7 rfl
              have kw := AnyOrder.Grows.of_drew hk.world
              clear hk
              have hn := HNE.out w'
              rw [hcl] at hn
              have hg : (eqGuard BinOp.neq 81 (.tmp 19) (.tmp 23) (.agg #[.string x.key, .string x.text, .bool x.long, .int .i64 x.page, .int .i64 x.size]) (.agg #[.string y.key, .string y.text, .bool y.long, .int .i64 y.page, .int .i64 y.size])).run Try.prog w' = .ok () w' := by simp [go_sem]
              show AnyOrder.opK Try.prog _ ((execOp ρ _).run Try.prog w')
              simp only [execOp, k19, k23, Sem.run_bind, hg, hn, Result.andThen_ok, Sem.run_pure]
              exact ⟨AnyOrder.Grows.refl _, rfl⟩
          · intro vs w9 hR9 hv9
            have hG9 := AnyOrder.Grows.of_drew hR9
            have v8 : vs 8 = .bool true := hv9 8 (by decide)
            clear hR9 hv9
            simp only [AnyOrder.fill, Nat.zero_add, Nat.reduceAdd, List.setIfInBounds_toArray, List.set_cons_zero, List.set_cons_succ]
            rw [v8]
            clear v8
            have HB9 := hid (HBR.out.trans (hG9.mono HBR.out.size))
            clear hG9 c0 c1 c2 c3 c4 d0 d1 d2 d3 d4 hcl
            go_wp2_with fail
            go_ret
            refine ⟨false, rfl, ⟨fun h => (by cases h), fun h => ?_⟩, HB9.out⟩
            subst h
            have hxy : x = y := by rw [HXE.out, HYE.out]
            rw [clEq_iff.2 hxy] at HCL
            cases HCL.out
        · have HCL := hid hcl
          refine AnyOrder.wp_region_grows_g [
              fun v _ => v = .slice (some ⟨b0, off0, none⟩) L cap,
              fun v _ => v = .int .i64 (k : Int),
              fun v _ => v = .pointer (some ⟨b0, off0 + k * 5, none⟩),
              fun v _ => v = .agg #[.string x.key, .string x.text, .bool x.long, .int .i64 x.page, .int .i64 x.size],
              fun v _ => v = .slice (some ⟨b9, off9, none⟩) L cbp,
              fun v _ => v = .int .i64 (k : Int),
              fun v _ => v = .pointer (some ⟨b9, off9 + k * 5, none⟩),
              fun v _ => v = .agg #[.string y.key, .string y.text, .bool y.long, .int .i64 y.page, .int .i64 y.size],
              fun v _ => v = .bool false] hmx (by kernel_rfl) ?_ ?_ ?_
          · intro p hp
            simp only [List.mem_cons, List.not_mem_nil, or_false] at hp
            rcases hp with rfl | rfl | rfl | rfl | rfl | rfl | rfl | rfl | rfl
            all_goals first
              | exact AnyOrder.stays_const _
          · simp only [AnyOrder.dstsOf, List.map_cons, List.map_nil, AnyOrder.GSteps, Nat.zero_add, Nat.reduceAdd]
            refine ⟨?_, ?_, ?_, ?_, ?_, ?_, ?_, ?_, ?_, trivial⟩
            · intro ρ w' hk
              have k0 : ρ (.tmp 0) = .slice (some ⟨b0, off0, none⟩) L cap := hk.old 0 rfl
              clear hk
              go_simp
              exact ⟨AnyOrder.Grows.refl _, by first | rfl | (simp [AnyOrder.nth]; done) | (simp [AnyOrder.nth]; omega)⟩
            · intro ρ w' hk
              have k5 : ρ (.tmp 5) = .int .i64 (k : Int) := hk.old 5 rfl
              clear hk
              go_simp
              exact ⟨AnyOrder.Grows.refl _, by first | rfl | (simp [AnyOrder.nth]; done) | (simp [AnyOrder.nth]; omega)⟩
            · intro ρ w' hk
              have k16 : ρ (.tmp 16) = .slice (some ⟨b0, off0, none⟩) L cap := hk.at 0 rfl
              have k17 : ρ (.tmp 17) = .int .i64 (k : Int) := hk.at 1 rfl
              clear hk
              go_simp
              exact ⟨AnyOrder.Grows.refl _, by first | rfl | (simp [AnyOrder.nth]; done) | (simp [AnyOrder.nth]; omega)⟩
            · intro ρ w' hk
              have k18 : ρ (.tmp 18) = .pointer (some ⟨b0, off0 + k * 5, none⟩) := hk.at 2 rfl
              have m0 := AnyOrder.cell_grows hk.world c0
              have m1 := AnyOrder.cell_grows hk.world c1
              have m2 := AnyOrder.cell_grows hk.world c2
              have m3 := AnyOrder.cell_grows hk.world c3
              have m4 := AnyOrder.cell_grows hk.world c4
              clear hk
              go_simp
              exact ⟨AnyOrder.Grows.refl _, by first | rfl | (simp [AnyOrder.nth]; done) | (simp [AnyOrder.nth]; omega)⟩
            · intro ρ w' hk
              have k1 : ρ (.tmp 1) = .slice (some ⟨b9, off9, none⟩) L cbp := hk.old 1 rfl
              clear hk
              go_simp
              exact ⟨AnyOrder.Grows.refl _, by first | rfl | (simp [AnyOrder.nth]; done) | (simp [AnyOrder.nth]; omega)⟩
            · intro ρ w' hk
              have k5 : ρ (.tmp 5) = .int .i64 (k : Int) := hk.old 5 rfl
              clear hk
              go_simp
              exact ⟨AnyOrder.Grows.refl _, by first | rfl | (simp [AnyOrder.nth]; done) | (simp [AnyOrder.nth]; omega)⟩
            · intro ρ w' hk
              have k20 : ρ (.tmp 20) = .slice (some ⟨b9, off9, none⟩) L cbp := hk.at 4 rfl
              have k21 : ρ (.tmp 21) = .int .i64 (k : Int) := hk.at 5 rfl
              clear hk
              go_simp
              exact ⟨AnyOrder.Grows.refl _, by first | rfl | (simp [AnyOrder.nth]; done) | (simp [AnyOrder.nth]; omega)⟩
            · intro ρ w' hk
              have k22 : ρ (.tmp 22) = .pointer (some ⟨b9, off9 + k * 5, none⟩) := hk.at 6 rfl
              have m0 := AnyOrder.cell_grows hk.world d0
              have m1 := AnyOrder.cell_grows hk.world d1
              have m2 := AnyOrder.cell_grows hk.world d2
              have m3 := AnyOrder.cell_grows hk.world d3
              have m4 := AnyOrder.cell_grows hk.world d4
              clear hk
              go_simp
              exact ⟨AnyOrder.Grows.refl _, by first | rfl | (simp [AnyOrder.nth]; done) | (simp [AnyOrder.nth]; omega)⟩
            · intro ρ w' hk
              have k19 : ρ (.tmp 19) = .agg #[.string x.key, .string x.text, .bool x.long, .int .i64 x.page, .int .i64 x.size] := hk.at 3 rfl
              have k23 : ρ (.tmp 23) = .agg #[.string y.key, .string y.text, .bool y.long, .int .i64 y.page, .int .i64 y.size] := hk.at 7 rfl
              have kw := AnyOrder.Grows.of_drew hk.world
              clear hk
              have hn := HNE.out w'
              rw [hcl] at hn
              have hg : (eqGuard BinOp.neq 81 (.tmp 19) (.tmp 23) (.agg #[.string x.key, .string x.text, .bool x.long, .int .i64 x.page, .int .i64 x.size]) (.agg #[.string y.key, .string y.text, .bool y.long, .int .i64 y.page, .int .i64 y.size])).run Try.prog w' = .ok () w' := by simp [go_sem]
              show AnyOrder.opK Try.prog _ ((execOp ρ _).run Try.prog w')
              simp only [execOp, k19, k23, Sem.run_bind, hg, hn, Result.andThen_ok, Sem.run_pure]
              exact ⟨AnyOrder.Grows.refl _, rfl⟩
          · intro vs w9 hR9 hv9
            have hG9 := AnyOrder.Grows.of_drew hR9
            have v8 : vs 8 = .bool false := hv9 8 (by decide)
            clear hR9 hv9
            simp only [AnyOrder.fill, Nat.zero_add, Nat.reduceAdd, List.setIfInBounds_toArray, List.set_cons_zero, List.set_cons_succ]
            rw [v8]
            clear v8
            have HB9 := hid (HBR.out.trans (hG9.mono HBR.out.size))
            have HT1 := hid (show xs.take (k + 1) = ys.take (k + 1) by rw [HTK.out, HTM.out, HT.out, clEq_iff.1 HCL.out])
            clear hG9 c0 c1 c2 c3 c4 d0 d1 d2 d3 d4 hcl
            go_wp2_with fail
            go_roundw
            case rel => exact ⟨k + 1, HK.out, by go_num, HT1.out, HB9.out⟩
            case measure => simp [intOf]; have := HK.out; omega
      · obtain rfl : k = L := by omega
        have i0 : ¬ (k : Int) < (k : Int) := by omega
        clear hx hy hlt hk
        go_wp2_with fail
        go_ret
        refine ⟨true, rfl, ⟨fun _ => ?_, fun _ => rfl⟩, HBR.out⟩
        have := HT.out
        rwa [List.take_of_length_le (by rw [HL.out]; omega), List.take_of_length_le (by rw [HM.out]; omega)] at this
  · have i1 : ((L : Int) == (M : Int)) = false := by simp only [beq_eq_false_iff_ne]; omega
    clear hx hy
    go_enter Try.func69, Try.ntmps69
    go_wp2_with fail
    go_ret
    refine ⟨false, rfl, ⟨fun h => (by cases h), fun h => ?_⟩, Below.refl _ _⟩
    subst h
    exact absurd (HL.out.symm.trans HM.out) hlm
theorem same_calls (va vb : Value) (xs ys : List Cl) (w : World) (hp : PartC (fun q => q < w.heap.size) w va xs) (hq : PartC (fun q => q < w.heap.size) w vb ys) : Calls Try.prog 47 #[va, vb] w (SameEnd xs ys w) := by
  have HE := hid (equal_calls va vb xs ys w hp hq)
  obtain ⟨a, cap, rfl, -⟩ := hp
  obtain ⟨b, cbp, rfl, -⟩ := hq
  generalize xs.length = L at *
  generalize ys.length = M at *
  go_enter Try.func47, Try.ntmps47
  go_wp2_with fail
  refine HE.out.mono ?_
  rintro e w1 ⟨r, rfl, hi, hb⟩
  have HI := hid hi
  have HB := hid hb
  clear hi hb
  go_wp2_with fail
  go_ret
  exact ⟨r, rfl, HI.out, HB.out⟩
end Go.Proofs.Ytkpadhjlopcejaa
