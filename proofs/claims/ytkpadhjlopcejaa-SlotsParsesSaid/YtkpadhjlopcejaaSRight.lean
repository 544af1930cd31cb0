/-
  The walk of the document's Right (printed by mkright.py); Check for every kind.
-/
import Derived.Test.YtkpadhjlopcejaaSCheck
namespace Go.Proofs.Ytkpadhjlopcejaa
open Go.RowKit
def RightEnd (leaf : Bool) (xs : List Cl) (w : World) (e : Ending) (w' : World) : Prop := e = .returned (.bool (okTo leaf xs xs.length)) ∧ Below w.heap.size w w'
theorem rightEnd_no {leaf : Bool} {xs : List Cl} {w w' : World} (h : okTo leaf xs xs.length = false) (hb : Below w.heap.size w w') : RightEnd leaf xs w (.returned (.bool false)) w' := ⟨by rw [h], hb⟩
theorem rightEnd_ok {leaf : Bool} {xs : List Cl} {w w' : World} (h : okTo leaf xs xs.length = true) (hb : Below w.heap.size w w') : RightEnd leaf xs w (.returned (.bool true)) w' := ⟨by rw [h], hb⟩
set_option maxRecDepth 100000 in
set_option maxHeartbeats 8000000 in
theorem right_calls2 (a : Option Addr) (cap : Nat) (xs : List Cl) (w : World) (hx : CellsIn (fun q => q < w.heap.size) w a xs) (hl : xs.length ≤ cap ∧ cap ≤ maxLen) :
    Calls Try.prog 37 #[.int .i64 2, .slice a xs.length cap] w (RightEnd true xs w) := by
  have hmx : Try.prog.follows .mixedOrders = true := by kernel_rfl
  generalize hL : xs.length = L at *
  have HL := hid hL
  have HLC := hid hl
  clear hL hl
  
  go_enter Try.func37, Try.ntmps37
  go_wp2_with fail
  go_loopw [5] (fun i wr => ∃ k : Nat, k ≤ L ∧ i = .int .i64 (k : Int) ∧ Hid (okTo true xs k = true) ∧ Below w.heap.size w wr) (fun i _ => L - (intOf i).toNat)
  case atStart => exact ⟨0, Nat.zero_le _, rfl, rfl, Below.refl _ _⟩
  case round =>
    obtain ⟨k, hk, rfl, HO, hbr⟩ := hrel
    have HBR := hid hbr
    clear hbr
    by_cases hlt : k < L
    · have hkl : k < xs.length := by rw [HL.out]; exact hlt
      obtain ⟨b0, off0, rfl, ho0, h0, h1, h2, h3, h4⟩ := hx.at hkl
      have c0 := HBR.out.cell (p := ⟨b0, off0 + k * 5, none⟩) ho0
      have c1 := HBR.out.cell (p := ⟨b0, off0 + k * 5 + 1, none⟩) ho0
      have c2 := HBR.out.cell (p := ⟨b0, off0 + k * 5 + 2, none⟩) ho0
      have c3 := HBR.out.cell (p := ⟨b0, off0 + k * 5 + 3, none⟩) ho0
      have c4 := HBR.out.cell (p := ⟨b0, off0 + k * 5 + 4, none⟩) ho0
      rw [h0] at c0
      rw [h1] at c1
      rw [h2] at c2
      rw [h3] at c3
      rw [h4] at c4
      obtain ⟨x, hxe⟩ : ∃ x, x = xs[k] := ⟨_, rfl⟩
      rw [← hxe] at c0 c1 c2 c3 c4
      have HX := hid hxe
      have HH := hid hx
      have i0 : (k : Int) < (L : Int) := by omega
      clear hx h0 h1 h2 h3 h4 hxe
      go_wp2_with fail
      by_cases hm : mayC true x = true
      · by_cases hk0 : k = 0
        · have HM := hid hm
          have HAT : okAt true xs k = true := by rw [okAt_eq hkl hk0, ← HX.out]; exact hm
          have hk1 : k + 1 ≤ L := hlt
          have i3 : ¬ (0 : Int) < (k : Int) := by omega
          have HK := hid hkl
          have hw2 : IntKind.i64.wrap ((k : Int) + 1) = (k : Int) + 1 := IntWalk.i64_in _ (by have := HLC.out; unfold maxLen at this; omega)
          clear HX hm hkl hlt hk0
          refine AnyOrder.wp_region_grows_g [
              fun v _ => v = .int .i64 2,
              fun v _ => v = .bool true,
              fun v _ => v = .slice (some ⟨b0, off0, none⟩) L cap,
              fun v _ => v = .int .i64 (k : Int),
              fun v _ => v = .pointer (some ⟨b0, off0 + k * 5, none⟩),
              fun v _ => v = .agg #[.string x.key, .string x.text, .bool x.long, .int .i64 x.page, .int .i64 x.size],
              fun v _ => v = .bool true,
              fun v _ => v = .bool false,
              fun v _ => v = .bool false,
              fun v _ => v = .int .i64 (k : Int),
              fun v _ => v = .bool false,
              fun v _ => v = .bool false,
              fun v _ => v = undef,
              fun v _ => v = undef,
              fun v _ => v = undef,
              fun v _ => v = undef,
              fun v _ => v = undef,
              fun v _ => v = undef,
              fun v _ => v = undef,
              fun v _ => v = undef,
              fun v _ => v = undef,
              fun v _ => v = undef,
              fun v _ => v = undef,
              fun v _ => v = undef,
              fun v _ => v = .bool false,
              fun v _ => v = .bool false] hmx (by kernel_rfl) ?_ ?_ ?_
          · intro p hp
            simp only [List.mem_cons, List.not_mem_nil, or_false] at hp
            rcases hp with rfl | rfl | rfl | rfl | rfl | rfl | rfl | rfl | rfl | rfl | rfl | rfl | rfl | rfl | rfl | rfl | rfl | rfl | rfl | rfl | rfl | rfl | rfl | rfl | rfl | rfl
            all_goals first
              | exact AnyOrder.stays_const _
          · simp only [AnyOrder.dstsOf, List.map_cons, List.map_nil, AnyOrder.GSteps, Nat.zero_add, Nat.reduceAdd]
            refine ⟨?_, ?_, ?_, ?_, ?_, ?_, ?_, ?_, ?_, ?_, ?_, ?_, ?_, ?_, ?_, ?_, ?_, ?_, ?_, ?_, ?_, ?_, ?_, ?_, ?_, ?_, trivial⟩
            · intro ρ w' hk
              have k0 : ρ (.tmp 0) = .int .i64 2 := hk.old 0 rfl
              clear hk
              go_simp
              exact ⟨AnyOrder.Grows.refl _, by first | rfl | (simp [AnyOrder.nth]; done) | (simp [AnyOrder.nth]; omega)⟩
            · intro ρ w' hk
              have k27 : ρ (.tmp 27) = .int .i64 2 := hk.at 0 rfl
              have kc := hk.const
              clear hk
              go_simp
              exact ⟨AnyOrder.Grows.refl _, by first | rfl | (simp [AnyOrder.nth]; done) | (simp [AnyOrder.nth]; omega)⟩
            · intro ρ w' hk
              have k1 : ρ (.tmp 1) = .slice (some ⟨b0, off0, none⟩) L cap := hk.old 1 rfl
              clear hk
              go_simp
              exact ⟨AnyOrder.Grows.refl _, by first | rfl | (simp [AnyOrder.nth]; done) | (simp [AnyOrder.nth]; omega)⟩
            · intro ρ w' hk
              have k5 : ρ (.tmp 5) = .int .i64 (k : Int) := hk.old 5 rfl
              clear hk
              go_simp
              exact ⟨AnyOrder.Grows.refl _, by first | rfl | (simp [AnyOrder.nth]; done) | (simp [AnyOrder.nth]; omega)⟩
            · intro ρ w' hk
              have k29 : ρ (.tmp 29) = .slice (some ⟨b0, off0, none⟩) L cap := hk.at 2 rfl
              have k30 : ρ (.tmp 30) = .int .i64 (k : Int) := hk.at 3 rfl
              clear hk
              go_simp
              exact ⟨AnyOrder.Grows.refl _, by first | rfl | (simp [AnyOrder.nth]; done) | (simp [AnyOrder.nth]; omega)⟩
            · intro ρ w' hk
              have k31 : ρ (.tmp 31) = .pointer (some ⟨b0, off0 + k * 5, none⟩) := hk.at 4 rfl
              have m0 := AnyOrder.cell_grows hk.world c0
              have m1 := AnyOrder.cell_grows hk.world c1
              have m2 := AnyOrder.cell_grows hk.world c2
              have m3 := AnyOrder.cell_grows hk.world c3
              have m4 := AnyOrder.cell_grows hk.world c4
              clear hk
              go_simp
              exact ⟨AnyOrder.Grows.refl _, by first | rfl | (simp [AnyOrder.nth]; done) | (simp [AnyOrder.nth]; omega)⟩
            · intro ρ w' hk
              have k28 : ρ (.tmp 28) = .bool true := hk.at 1 rfl
              have k32 : ρ (.tmp 32) = .agg #[.string x.key, .string x.text, .bool x.long, .int .i64 x.page, .int .i64 x.size] := hk.at 5 rfl
              have kf := hk.func
              have kw := AnyOrder.Grows.of_drew hk.world
              clear hk
              go_simp
              refine (may_calls true x w').mono ?_
              rintro e w'' ⟨rfl, hb⟩
              exact ⟨_, rfl, hb, by show Value.bool (mayC true x) = _; rw [HM.out]⟩
            · intro ρ w' hk
              have k33 : ρ (.tmp 33) = .bool true := hk.at 6 rfl
              clear hk
              go_simp
              exact ⟨AnyOrder.Grows.refl _, by first | rfl | (simp [AnyOrder.nth]; done) | (simp [AnyOrder.nth]; omega)⟩
            · intro ρ w' hk
              have k34 : ρ (.tmp 34) = .bool false := hk.at 7 rfl
              clear hk
              go_simp
              exact ⟨AnyOrder.Grows.refl _, by first | rfl | (simp [AnyOrder.nth]; done) | (simp [AnyOrder.nth]; omega)⟩
            · intro ρ w' hk
              refine AnyOrder.guard_run (hk.at 8 rfl) ?_
              have k5 : ρ (.tmp 5) = .int .i64 (k : Int) := hk.old 5 rfl
              clear hk
              go_simp
              exact ⟨AnyOrder.Grows.refl _, by first | rfl | (simp [AnyOrder.nth]; done) | (simp [AnyOrder.nth]; omega)⟩
            · intro ρ w' hk
              refine AnyOrder.guard_run (hk.at 8 rfl) ?_
              have k36 : ρ (.tmp 36) = .int .i64 (k : Int) := hk.at 9 rfl
              have kc := hk.const
              clear hk
              go_simp
              exact ⟨AnyOrder.Grows.refl _, by first | rfl | (simp [AnyOrder.nth]; done) | (simp [AnyOrder.nth]; omega)⟩
            · intro ρ w' hk
              refine AnyOrder.guard_run (hk.at 8 rfl) ?_
              have k37 : ρ (.tmp 37) = .bool false := hk.at 10 rfl
              clear hk
              go_simp
              exact ⟨AnyOrder.Grows.refl _, by first | rfl | (simp [AnyOrder.nth]; done) | (simp [AnyOrder.nth]; omega)⟩
            · intro ρ w' hk
              exact AnyOrder.guard_skip (hk.at 11 rfl) (fun h => by cases h) rfl
            · intro ρ w' hk
              exact AnyOrder.guard_skip (hk.at 11 rfl) (fun h => by cases h) rfl
            · intro ρ w' hk
              exact AnyOrder.guard_skip (hk.at 11 rfl) (fun h => by cases h) rfl
            · intro ρ w' hk
              exact AnyOrder.guard_skip (hk.at 11 rfl) (fun h => by cases h) rfl
            · intro ρ w' hk
              exact AnyOrder.guard_skip (hk.at 11 rfl) (fun h => by cases h) rfl
            · intro ρ w' hk
              exact AnyOrder.guard_skip (hk.at 11 rfl) (fun h => by cases h) rfl
            · intro ρ w' hk
              exact AnyOrder.guard_skip (hk.at 11 rfl) (fun h => by cases h) rfl
            · intro ρ w' hk
              exact AnyOrder.guard_skip (hk.at 11 rfl) (fun h => by cases h) rfl
            · intro ρ w' hk
              exact AnyOrder.guard_skip (hk.at 11 rfl) (fun h => by cases h) rfl
            · intro ρ w' hk
              exact AnyOrder.guard_skip (hk.at 11 rfl) (fun h => by cases h) rfl
            · intro ρ w' hk
              exact AnyOrder.guard_skip (hk.at 11 rfl) (fun h => by cases h) rfl
            · intro ρ w' hk
              exact AnyOrder.guard_skip (hk.at 11 rfl) (fun h => by cases h) rfl
            · intro ρ w' hk
              refine AnyOrder.guard_run (hk.at 8 rfl) ?_
              have k38 : ρ (.tmp 38) = .bool false := hk.at 11 rfl
              have k50 : ρ (.tmp 50) = undef := hk.at 23 rfl
              have kc := hk.const
              clear hk
              go_simp
              exact ⟨AnyOrder.Grows.refl _, by first | rfl | (simp [AnyOrder.nth]; done) | (simp [AnyOrder.nth]; omega)⟩
            · intro ρ w' hk
              have k35 : ρ (.tmp 35) = .bool false := hk.at 8 rfl
              have k51 : ρ (.tmp 51) = .bool false := hk.at 24 rfl
              have kc := hk.const
              clear hk
              go_simp
              exact ⟨AnyOrder.Grows.refl _, by first | rfl | (simp [AnyOrder.nth]; done) | (simp [AnyOrder.nth]; omega)⟩
          · intro vs w9 hR9 hv9
            have hG9 := AnyOrder.Grows.of_drew hR9
            have v25 : vs 25 = .bool false := hv9 25 (by decide)
            clear hR9 hv9
            simp only [AnyOrder.fill, Nat.zero_add, Nat.reduceAdd, List.setIfInBounds_toArray, List.set_cons_zero, List.set_cons_succ]
            rw [v25]
            clear v25
            have HB9 := hid (HBR.out.trans (hG9.mono HBR.out.size))
            have HO1 := hid (show okTo true xs (k + 1) = true by rw [okTo_succ, HAT, HO.out]; rfl)
            clear hG9 c0 c1 c2 c3 c4 HAT
            go_wp2_with fail
            go_roundw
            case rel => exact ⟨k + 1, hk1, by go_num, HO1.out, HB9.out⟩
            case measure => simp [intOf]; omega
        · obtain ⟨j, hkj⟩ : ∃ j, k = j + 1 := ⟨k - 1, by omega⟩
          have HM := hid hm
          have hjl : j < xs.length := by omega
          obtain ⟨b9, off9, eb, -, h0, -, -, -, -⟩ := HH.out.at hjl
          cases eb
          have p0 := HBR.out.cell (p := ⟨b0, off0 + j * 5, none⟩) ho0
          rw [h0] at p0
          obtain ⟨y, hye⟩ : ∃ y, y = xs[j] := ⟨_, rfl⟩
          rw [← hye] at p0
          have i2 : (j : Int) < (L : Int) := by omega
          have i3 : (0 : Int) < (k : Int) := by omega
          have hw : IntKind.i64.wrap ((k : Int) - 1) = (j : Int) := by
            rw [show (k : Int) - 1 = (j : Int) from by omega]
            exact IntWalk.i64_in _ (by have := HLC.out; unfold maxLen at this; omega)
          have HAT : okAt true xs k = keyLt y.key x.key := by
            have e : x = xs[j + 1]'(by omega) := by rw [HX.out]; congr 1
            rw [hkj, okAt_eq' (by omega), hye, ← e, hm, Bool.true_and]
          have HATT := hid HAT
          have HK := hid hkl
          have hk1 : k + 1 ≤ L := hlt
          have HWL : (L : Int) ≤ 9223372036854775807 := by have := HLC.out; unfold maxLen at this; omega
          have HW9 := hid HWL
          clear HX hm HAT h0 hye hjl hkl hk0 hlt HWL hkj
          cases hge : keyLt y.key x.key
          · have hge' : Op.bytesLess y.key.toList x.key.toList = false := hge
            rw [hge] at HATT
            clear hge
            refine AnyOrder.wp_region_grows_g [
                fun v _ => v = .int .i64 2,
                fun v _ => v = .bool true,
                fun v _ => v = .slice (some ⟨b0, off0, none⟩) L cap,
                fun v _ => v = .int .i64 (k : Int),
                fun v _ => v = .pointer (some ⟨b0, off0 + k * 5, none⟩),
                fun v _ => v = .agg #[.string x.key, .string x.text, .bool x.long, .int .i64 x.page, .int .i64 x.size],
                fun v _ => v = .bool true,
                fun v _ => v = .bool false,
                fun v _ => v = .bool false,
                fun v _ => v = .int .i64 (k : Int),
                fun v _ => v = .bool true,
                fun v _ => v = .bool true,
                fun v _ => v = .slice (some ⟨b0, off0, none⟩) L cap,
                fun v _ => v = .int .i64 (k : Int),
                fun v _ => v = .int .i64 (j : Int),
                fun v _ => v = .pointer (some ⟨b0, off0 + j * 5, none⟩),
                fun v _ => v = .pointer (some ⟨b0, off0 + j * 5, none⟩),
                fun v _ => v = .string y.key,
                fun v _ => v = .slice (some ⟨b0, off0, none⟩) L cap,
                fun v _ => v = .int .i64 (k : Int),
                fun v _ => v = .pointer (some ⟨b0, off0 + k * 5, none⟩),
                fun v _ => v = .pointer (some ⟨b0, off0 + k * 5, none⟩),
                fun v _ => v = .string x.key,
                fun v _ => v = .bool true,
                fun v _ => v = .bool true,
                fun v _ => v = .bool true] hmx (by kernel_rfl) ?_ ?_ ?_
            · intro p hp
              simp only [List.mem_cons, List.not_mem_nil, or_false] at hp
              rcases hp with rfl | rfl | rfl | rfl | rfl | rfl | rfl | rfl | rfl | rfl | rfl | rfl | rfl | rfl | rfl | rfl | rfl | rfl | rfl | rfl | rfl | rfl | rfl | rfl | rfl | rfl
              all_goals first
                | exact AnyOrder.stays_const _
            · simp only [AnyOrder.dstsOf, List.map_cons, List.map_nil, AnyOrder.GSteps, Nat.zero_add, Nat.reduceAdd]
              refine ⟨?_, ?_, ?_, ?_, ?_, ?_, ?_, ?_, ?_, ?_, ?_, ?_, ?_, ?_, ?_, ?_, ?_, ?_, ?_, ?_, ?_, ?_, ?_, ?_, ?_, ?_, trivial⟩
              · intro ρ w' hk
                have k0 : ρ (.tmp 0) = .int .i64 2 := hk.old 0 rfl
                clear hk
                go_simp
                exact ⟨AnyOrder.Grows.refl _, by first | rfl | (simp [AnyOrder.nth]; done) | (simp [AnyOrder.nth]; omega)⟩
              · intro ρ w' hk
                have k27 : ρ (.tmp 27) = .int .i64 2 := hk.at 0 rfl
                have kc := hk.const
                clear hk
                go_simp
                exact ⟨AnyOrder.Grows.refl _, by first | rfl | (simp [AnyOrder.nth]; done) | (simp [AnyOrder.nth]; omega)⟩
              · intro ρ w' hk
                have k1 : ρ (.tmp 1) = .slice (some ⟨b0, off0, none⟩) L cap := hk.old 1 rfl
                clear hk
                go_simp
                exact ⟨AnyOrder.Grows.refl _, by first | rfl | (simp [AnyOrder.nth]; done) | (simp [AnyOrder.nth]; omega)⟩
              · intro ρ w' hk
                have k5 : ρ (.tmp 5) = .int .i64 (k : Int) := hk.old 5 rfl
                clear hk
                go_simp
                exact ⟨AnyOrder.Grows.refl _, by first | rfl | (simp [AnyOrder.nth]; done) | (simp [AnyOrder.nth]; omega)⟩
              · intro ρ w' hk
                have k29 : ρ (.tmp 29) = .slice (some ⟨b0, off0, none⟩) L cap := hk.at 2 rfl
                have k30 : ρ (.tmp 30) = .int .i64 (k : Int) := hk.at 3 rfl
                clear hk
                go_simp
                exact ⟨AnyOrder.Grows.refl _, by first | rfl | (simp [AnyOrder.nth]; done) | (simp [AnyOrder.nth]; omega)⟩
              · intro ρ w' hk
                have k31 : ρ (.tmp 31) = .pointer (some ⟨b0, off0 + k * 5, none⟩) := hk.at 4 rfl
                have m0 := AnyOrder.cell_grows hk.world c0
                have m1 := AnyOrder.cell_grows hk.world c1
                have m2 := AnyOrder.cell_grows hk.world c2
                have m3 := AnyOrder.cell_grows hk.world c3
                have m4 := AnyOrder.cell_grows hk.world c4
                clear hk
                go_simp
                exact ⟨AnyOrder.Grows.refl _, by first | rfl | (simp [AnyOrder.nth]; done) | (simp [AnyOrder.nth]; omega)⟩
              · intro ρ w' hk
                have k28 : ρ (.tmp 28) = .bool true := hk.at 1 rfl
                have k32 : ρ (.tmp 32) = .agg #[.string x.key, .string x.text, .bool x.long, .int .i64 x.page, .int .i64 x.size] := hk.at 5 rfl
                have kf := hk.func
                have kw := AnyOrder.Grows.of_drew hk.world
                clear hk
                go_simp
                refine (may_calls true x w').mono ?_
                rintro e w'' ⟨rfl, hb⟩
                exact ⟨_, rfl, hb, by show Value.bool (mayC true x) = _; rw [HM.out]⟩
              · intro ρ w' hk
                have k33 : ρ (.tmp 33) = .bool true := hk.at 6 rfl
                clear hk
                go_simp
                exact ⟨AnyOrder.Grows.refl _, by first | rfl | (simp [AnyOrder.nth]; done) | (simp [AnyOrder.nth]; omega)⟩
              · intro ρ w' hk
                have k34 : ρ (.tmp 34) = .bool false := hk.at 7 rfl
                clear hk
                go_simp
                exact ⟨AnyOrder.Grows.refl _, by first | rfl | (simp [AnyOrder.nth]; done) | (simp [AnyOrder.nth]; omega)⟩
              · intro ρ w' hk
                refine AnyOrder.guard_run (hk.at 8 rfl) ?_
                have k5 : ρ (.tmp 5) = .int .i64 (k : Int) := hk.old 5 rfl
                clear hk
                go_simp
                exact ⟨AnyOrder.Grows.refl _, by first | rfl | (simp [AnyOrder.nth]; done) | (simp [AnyOrder.nth]; omega)⟩
              · intro ρ w' hk
                refine AnyOrder.guard_run (hk.at 8 rfl) ?_
                have k36 : ρ (.tmp 36) = .int .i64 (k : Int) := hk.at 9 rfl
                have kc := hk.const
                clear hk
                go_simp
                exact ⟨AnyOrder.Grows.refl _, by first | rfl | (simp [AnyOrder.nth]; done) | (simp [AnyOrder.nth]; omega)⟩
              · intro ρ w' hk
                refine AnyOrder.guard_run (hk.at 8 rfl) ?_
                have k37 : ρ (.tmp 37) = .bool true := hk.at 10 rfl
                clear hk
                go_simp
                exact ⟨AnyOrder.Grows.refl _, by first | rfl | (simp [AnyOrder.nth]; done) | (simp [AnyOrder.nth]; omega)⟩
              · intro ρ w' hk
                refine AnyOrder.guard_run (hk.at 11 rfl) ?_
                have k1 : ρ (.tmp 1) = .slice (some ⟨b0, off0, none⟩) L cap := hk.old 1 rfl
                clear hk
                go_simp
                exact ⟨AnyOrder.Grows.refl _, by first | rfl | (simp [AnyOrder.nth]; done) | (simp [AnyOrder.nth]; omega)⟩
              · intro ρ w' hk
                refine AnyOrder.guard_run (hk.at 11 rfl) ?_
                have k5 : ρ (.tmp 5) = .int .i64 (k : Int) := hk.old 5 rfl
                clear hk
                go_simp
                exact ⟨AnyOrder.Grows.refl _, by first | rfl | (simp [AnyOrder.nth]; done) | (simp [AnyOrder.nth]; omega)⟩
              · intro ρ w' hk
                refine AnyOrder.guard_run (hk.at 11 rfl) ?_
                have k40 : ρ (.tmp 40) = .int .i64 (k : Int) := hk.at 13 rfl
                have kc := hk.const
                clear hk
                go_simp
                exact ⟨AnyOrder.Grows.refl _, by first | rfl | (simp [AnyOrder.nth]; done) | (simp [AnyOrder.nth]; omega)⟩
              · intro ρ w' hk
                refine AnyOrder.guard_run (hk.at 11 rfl) ?_
                have k39 : ρ (.tmp 39) = .slice (some ⟨b0, off0, none⟩) L cap := hk.at 12 rfl
                have k41 : ρ (.tmp 41) = .int .i64 (j : Int) := hk.at 14 rfl
                clear hk
                go_simp
                exact ⟨AnyOrder.Grows.refl _, by first | rfl | (simp [AnyOrder.nth]; done) | (simp [AnyOrder.nth]; omega)⟩
              · intro ρ w' hk
                refine AnyOrder.guard_run (hk.at 11 rfl) ?_
                have k42 : ρ (.tmp 42) = .pointer (some ⟨b0, off0 + j * 5, none⟩) := hk.at 15 rfl
                clear hk
                go_simp
                exact ⟨AnyOrder.Grows.refl _, by first | rfl | (simp [AnyOrder.nth]; done) | (simp [AnyOrder.nth]; omega)⟩
              · intro ρ w' hk
                refine AnyOrder.guard_run (hk.at 11 rfl) ?_
                have k43 : ρ (.tmp 43) = .pointer (some ⟨b0, off0 + j * 5, none⟩) := hk.at 16 rfl
                have m0 := AnyOrder.cell_grows hk.world p0
                clear hk
                go_simp
                exact ⟨AnyOrder.Grows.refl _, by first | rfl | (simp [AnyOrder.nth]; done) | (simp [AnyOrder.nth]; omega)⟩
              · intro ρ w' hk
                refine AnyOrder.guard_run (hk.at 11 rfl) ?_
                have k1 : ρ (.tmp 1) = .slice (some ⟨b0, off0, none⟩) L cap := hk.old 1 rfl
                clear hk
                go_simp
                exact ⟨AnyOrder.Grows.refl _, by first | rfl | (simp [AnyOrder.nth]; done) | (simp [AnyOrder.nth]; omega)⟩
              · intro ρ w' hk
                refine AnyOrder.guard_run (hk.at 11 rfl) ?_
                have k5 : ρ (.tmp 5) = .int .i64 (k : Int) := hk.old 5 rfl
                clear hk
                go_simp
                exact ⟨AnyOrder.Grows.refl _, by first | rfl | (simp [AnyOrder.nth]; done) | (simp [AnyOrder.nth]; omega)⟩
              · intro ρ w' hk
                refine AnyOrder.guard_run (hk.at 11 rfl) ?_
                have k45 : ρ (.tmp 45) = .slice (some ⟨b0, off0, none⟩) L cap := hk.at 18 rfl
                have k46 : ρ (.tmp 46) = .int .i64 (k : Int) := hk.at 19 rfl
                clear hk
                go_simp
                exact ⟨AnyOrder.Grows.refl _, by first | rfl | (simp [AnyOrder.nth]; done) | (simp [AnyOrder.nth]; omega)⟩
              · intro ρ w' hk
                refine AnyOrder.guard_run (hk.at 11 rfl) ?_
                have k47 : ρ (.tmp 47) = .pointer (some ⟨b0, off0 + k * 5, none⟩) := hk.at 20 rfl
                clear hk
                go_simp
                exact ⟨AnyOrder.Grows.refl _, by first | rfl | (simp [AnyOrder.nth]; done) | (simp [AnyOrder.nth]; omega)⟩
              · intro ρ w' hk
                refine AnyOrder.guard_run (hk.at 11 rfl) ?_
                have k48 : ρ (.tmp 48) = .pointer (some ⟨b0, off0 + k * 5, none⟩) := hk.at 21 rfl
                have m0 := AnyOrder.cell_grows hk.world c0
                clear hk
                go_simp
                exact ⟨AnyOrder.Grows.refl _, by first | rfl | (simp [AnyOrder.nth]; done) | (simp [AnyOrder.nth]; omega)⟩
              · intro ρ w' hk
                refine AnyOrder.guard_run (hk.at 11 rfl) ?_
                have k44 : ρ (.tmp 44) = .string y.key := hk.at 17 rfl
                have k49 : ρ (.tmp 49) = .string x.key := hk.at 22 rfl
                clear hk
                go_simp
                exact ⟨AnyOrder.Grows.refl _, by first | rfl | (simp [AnyOrder.nth]; done) | (simp [AnyOrder.nth]; omega)⟩
              · intro ρ w' hk
                refine AnyOrder.guard_run (hk.at 8 rfl) ?_
                have k38 : ρ (.tmp 38) = .bool true := hk.at 11 rfl
                have k50 : ρ (.tmp 50) = .bool true := hk.at 23 rfl
                have kc := hk.const
                clear hk
                go_simp
                exact ⟨AnyOrder.Grows.refl _, by first | rfl | (simp [AnyOrder.nth]; done) | (simp [AnyOrder.nth]; omega)⟩
              · intro ρ w' hk
                have k35 : ρ (.tmp 35) = .bool false := hk.at 8 rfl
                have k51 : ρ (.tmp 51) = .bool true := hk.at 24 rfl
                have kc := hk.const
                clear hk
                go_simp
                exact ⟨AnyOrder.Grows.refl _, by first | rfl | (simp [AnyOrder.nth]; done) | (simp [AnyOrder.nth]; omega)⟩
            · intro vs w9 hR9 hv9
              have hG9 := AnyOrder.Grows.of_drew hR9
              have v25 : vs 25 = .bool true := hv9 25 (by decide)
              clear hR9 hv9
              simp only [AnyOrder.fill, Nat.zero_add, Nat.reduceAdd, List.setIfInBounds_toArray, List.set_cons_zero, List.set_cons_succ]
              rw [v25]
              clear v25
              have HB9 := hid (HBR.out.trans (hG9.mono HBR.out.size))
              clear hG9 c0 c1 c2 c3 c4 p0 hge' hw
              go_wp2_with fail
              go_ret
              exact rightEnd_no (okTo_no HK.out HATT.out) HB9.out
          · have hge' : Op.bytesLess y.key.toList x.key.toList = true := hge
            rw [hge] at HATT
            clear hge
            refine AnyOrder.wp_region_grows_g [
                fun v _ => v = .int .i64 2,
                fun v _ => v = .bool true,
                fun v _ => v = .slice (some ⟨b0, off0, none⟩) L cap,
                fun v _ => v = .int .i64 (k : Int),
                fun v _ => v = .pointer (some ⟨b0, off0 + k * 5, none⟩),
                fun v _ => v = .agg #[.string x.key, .string x.text, .bool x.long, .int .i64 x.page, .int .i64 x.size],
                fun v _ => v = .bool true,
                fun v _ => v = .bool false,
                fun v _ => v = .bool false,
                fun v _ => v = .int .i64 (k : Int),
                fun v _ => v = .bool true,
                fun v _ => v = .bool true,
                fun v _ => v = .slice (some ⟨b0, off0, none⟩) L cap,
                fun v _ => v = .int .i64 (k : Int),
                fun v _ => v = .int .i64 (j : Int),
                fun v _ => v = .pointer (some ⟨b0, off0 + j * 5, none⟩),
                fun v _ => v = .pointer (some ⟨b0, off0 + j * 5, none⟩),
                fun v _ => v = .string y.key,
                fun v _ => v = .slice (some ⟨b0, off0, none⟩) L cap,
                fun v _ => v = .int .i64 (k : Int),
                fun v _ => v = .pointer (some ⟨b0, off0 + k * 5, none⟩),
                fun v _ => v = .pointer (some ⟨b0, off0 + k * 5, none⟩),
                fun v _ => v = .string x.key,
                fun v _ => v = .bool false,
                fun v _ => v = .bool false,
                fun v _ => v = .bool false] hmx (by kernel_rfl) ?_ ?_ ?_
            · intro p hp
              simp only [List.mem_cons, List.not_mem_nil, or_false] at hp
              rcases hp with rfl | rfl | rfl | rfl | rfl | rfl | rfl | rfl | rfl | rfl | rfl | rfl | rfl | rfl | rfl | rfl | rfl | rfl | rfl | rfl | rfl | rfl | rfl | rfl | rfl | rfl
              all_goals first
                | exact AnyOrder.stays_const _
            · simp only [AnyOrder.dstsOf, List.map_cons, List.map_nil, AnyOrder.GSteps, Nat.zero_add, Nat.reduceAdd]
              refine ⟨?_, ?_, ?_, ?_, ?_, ?_, ?_, ?_, ?_, ?_, ?_, ?_, ?_, ?_, ?_, ?_, ?_, ?_, ?_, ?_, ?_, ?_, ?_, ?_, ?_, ?_, trivial⟩
              · intro ρ w' hk
                have k0 : ρ (.tmp 0) = .int .i64 2 := hk.old 0 rfl
                clear hk
                go_simp
                exact ⟨AnyOrder.Grows.refl _, by first | rfl | (simp [AnyOrder.nth]; done) | (simp [AnyOrder.nth]; omega)⟩
              · intro ρ w' hk
                have k27 : ρ (.tmp 27) = .int .i64 2 := hk.at 0 rfl
                have kc := hk.const
                clear hk
                go_simp
                exact ⟨AnyOrder.Grows.refl _, by first | rfl | (simp [AnyOrder.nth]; done) | (simp [AnyOrder.nth]; omega)⟩
              · intro ρ w' hk
                have k1 : ρ (.tmp 1) = .slice (some ⟨b0, off0, none⟩) L cap := hk.old 1 rfl
                clear hk
                go_simp
                exact ⟨AnyOrder.Grows.refl _, by first | rfl | (simp [AnyOrder.nth]; done) | (simp [AnyOrder.nth]; omega)⟩
              · intro ρ w' hk
                have k5 : ρ (.tmp 5) = .int .i64 (k : Int) := hk.old 5 rfl
                clear hk
                go_simp
                exact ⟨AnyOrder.Grows.refl _, by first | rfl | (simp [AnyOrder.nth]; done) | (simp [AnyOrder.nth]; omega)⟩
              · intro ρ w' hk
                have k29 : ρ (.tmp 29) = .slice (some ⟨b0, off0, none⟩) L cap := hk.at 2 rfl
                have k30 : ρ (.tmp 30) = .int .i64 (k : Int) := hk.at 3 rfl
                clear hk
                go_simp
                exact ⟨AnyOrder.Grows.refl _, by first | rfl | (simp [AnyOrder.nth]; done) | (simp [AnyOrder.nth]; omega)⟩
              · intro ρ w' hk
                have k31 : ρ (.tmp 31) = .pointer (some ⟨b0, off0 + k * 5, none⟩) := hk.at 4 rfl
                have m0 := AnyOrder.cell_grows hk.world c0
                have m1 := AnyOrder.cell_grows hk.world c1
                have m2 := AnyOrder.cell_grows hk.world c2
                have m3 := AnyOrder.cell_grows hk.world c3
                have m4 := AnyOrder.cell_grows hk.world c4
                clear hk
                go_simp
                exact ⟨AnyOrder.Grows.refl _, by first | rfl | (simp [AnyOrder.nth]; done) | (simp [AnyOrder.nth]; omega)⟩
              · intro ρ w' hk
                have k28 : ρ (.tmp 28) = .bool true := hk.at 1 rfl
                have k32 : ρ (.tmp 32) = .agg #[.string x.key, .string x.text, .bool x.long, .int .i64 x.page, .int .i64 x.size] := hk.at 5 rfl
                have kf := hk.func
                have kw := AnyOrder.Grows.of_drew hk.world
                clear hk
                go_simp
                refine (may_calls true x w').mono ?_
                rintro e w'' ⟨rfl, hb⟩
                exact ⟨_, rfl, hb, by show Value.bool (mayC true x) = _; rw [HM.out]⟩
              · intro ρ w' hk
                have k33 : ρ (.tmp 33) = .bool true := hk.at 6 rfl
                clear hk
                go_simp
                exact ⟨AnyOrder.Grows.refl _, by first | rfl | (simp [AnyOrder.nth]; done) | (simp [AnyOrder.nth]; omega)⟩
              · intro ρ w' hk
                have k34 : ρ (.tmp 34) = .bool false := hk.at 7 rfl
                clear hk
                go_simp
                exact ⟨AnyOrder.Grows.refl _, by first | rfl | (simp [AnyOrder.nth]; done) | (simp [AnyOrder.nth]; omega)⟩
              · intro ρ w' hk
                refine AnyOrder.guard_run (hk.at 8 rfl) ?_
                have k5 : ρ (.tmp 5) = .int .i64 (k : Int) := hk.old 5 rfl
                clear hk
                go_simp
                exact ⟨AnyOrder.Grows.refl _, by first | rfl | (simp [AnyOrder.nth]; done) | (simp [AnyOrder.nth]; omega)⟩
              · intro ρ w' hk
                refine AnyOrder.guard_run (hk.at 8 rfl) ?_
                have k36 : ρ (.tmp 36) = .int .i64 (k : Int) := hk.at 9 rfl
                have kc := hk.const
                clear hk
                go_simp
                exact ⟨AnyOrder.Grows.refl _, by first | rfl | (simp [AnyOrder.nth]; done) | (simp [AnyOrder.nth]; omega)⟩
              · intro ρ w' hk
                refine AnyOrder.guard_run (hk.at 8 rfl) ?_
                have k37 : ρ (.tmp 37) = .bool true := hk.at 10 rfl
                clear hk
                go_simp
                exact ⟨AnyOrder.Grows.refl _, by first | rfl | (simp [AnyOrder.nth]; done) | (simp [AnyOrder.nth]; omega)⟩
              · intro ρ w' hk
                refine AnyOrder.guard_run (hk.at 11 rfl) ?_
                have k1 : ρ (.tmp 1) = .slice (some ⟨b0, off0, none⟩) L cap := hk.old 1 rfl
                clear hk
                go_simp
                exact ⟨AnyOrder.Grows.refl _, by first | rfl | (simp [AnyOrder.nth]; done) | (simp [AnyOrder.nth]; omega)⟩
              · intro ρ w' hk
                refine AnyOrder.guard_run (hk.at 11 rfl) ?_
                have k5 : ρ (.tmp 5) = .int .i64 (k : Int) := hk.old 5 rfl
                clear hk
                go_simp
                exact ⟨AnyOrder.Grows.refl _, by first | rfl | (simp [AnyOrder.nth]; done) | (simp [AnyOrder.nth]; omega)⟩
              · intro ρ w' hk
                refine AnyOrder.guard_run (hk.at 11 rfl) ?_
                have k40 : ρ (.tmp 40) = .int .i64 (k : Int) := hk.at 13 rfl
                have kc := hk.const
                clear hk
                go_simp
                exact ⟨AnyOrder.Grows.refl _, by first | rfl | (simp [AnyOrder.nth]; done) | (simp [AnyOrder.nth]; omega)⟩
              · intro ρ w' hk
                refine AnyOrder.guard_run (hk.at 11 rfl) ?_
                have k39 : ρ (.tmp 39) = .slice (some ⟨b0, off0, none⟩) L cap := hk.at 12 rfl
                have k41 : ρ (.tmp 41) = .int .i64 (j : Int) := hk.at 14 rfl
                clear hk
                go_simp
                exact ⟨AnyOrder.Grows.refl _, by first | rfl | (simp [AnyOrder.nth]; done) | (simp [AnyOrder.nth]; omega)⟩
              · intro ρ w' hk
                refine AnyOrder.guard_run (hk.at 11 rfl) ?_
                have k42 : ρ (.tmp 42) = .pointer (some ⟨b0, off0 + j * 5, none⟩) := hk.at 15 rfl
                clear hk
                go_simp
                exact ⟨AnyOrder.Grows.refl _, by first | rfl | (simp [AnyOrder.nth]; done) | (simp [AnyOrder.nth]; omega)⟩
              · intro ρ w' hk
                refine AnyOrder.guard_run (hk.at 11 rfl) ?_
                have k43 : ρ (.tmp 43) = .pointer (some ⟨b0, off0 + j * 5, none⟩) := hk.at 16 rfl
                have m0 := AnyOrder.cell_grows hk.world p0
                clear hk
                go_simp
                exact ⟨AnyOrder.Grows.refl _, by first | rfl | (simp [AnyOrder.nth]; done) | (simp [AnyOrder.nth]; omega)⟩
              · intro ρ w' hk
                refine AnyOrder.guard_run (hk.at 11 rfl) ?_
                have k1 : ρ (.tmp 1) = .slice (some ⟨b0, off0, none⟩) L cap := hk.old 1 rfl
                clear hk
                go_simp
                exact ⟨AnyOrder.Grows.refl _, by first | rfl | (simp [AnyOrder.nth]; done) | (simp [AnyOrder.nth]; omega)⟩
              · intro ρ w' hk
                refine AnyOrder.guard_run (hk.at 11 rfl) ?_
                have k5 : ρ (.tmp 5) = .int .i64 (k : Int) := hk.old 5 rfl
                clear hk
                go_simp
                exact ⟨AnyOrder.Grows.refl _, by first | rfl | (simp [AnyOrder.nth]; done) | (simp [AnyOrder.nth]; omega)⟩
              · intro ρ w' hk
                refine AnyOrder.guard_run (hk.at 11 rfl) ?_
                have k45 : ρ (.tmp 45) = .slice (some ⟨b0, off0, none⟩) L cap := hk.at 18 rfl
                have k46 : ρ (.tmp 46) = .int .i64 (k : Int) := hk.at 19 rfl
                clear hk
                go_simp
                exact ⟨AnyOrder.Grows.refl _, by first | rfl | (simp [AnyOrder.nth]; done) | (simp [AnyOrder.nth]; omega)⟩
              · intro ρ w' hk
                refine AnyOrder.guard_run (hk.at 11 rfl) ?_
                have k47 : ρ (.tmp 47) = .pointer (some ⟨b0, off0 + k * 5, none⟩) := hk.at 20 rfl
                clear hk
                go_simp
                exact ⟨AnyOrder.Grows.refl _, by first | rfl | (simp [AnyOrder.nth]; done) | (simp [AnyOrder.nth]; omega)⟩
              · intro ρ w' hk
                refine AnyOrder.guard_run (hk.at 11 rfl) ?_
                have k48 : ρ (.tmp 48) = .pointer (some ⟨b0, off0 + k * 5, none⟩) := hk.at 21 rfl
                have m0 := AnyOrder.cell_grows hk.world c0
                clear hk
                go_simp
                exact ⟨AnyOrder.Grows.refl _, by first | rfl | (simp [AnyOrder.nth]; done) | (simp [AnyOrder.nth]; omega)⟩
              · intro ρ w' hk
                refine AnyOrder.guard_run (hk.at 11 rfl) ?_
                have k44 : ρ (.tmp 44) = .string y.key := hk.at 17 rfl
                have k49 : ρ (.tmp 49) = .string x.key := hk.at 22 rfl
                clear hk
                go_simp
                exact ⟨AnyOrder.Grows.refl _, by first | rfl | (simp [AnyOrder.nth]; done) | (simp [AnyOrder.nth]; omega)⟩
              · intro ρ w' hk
                refine AnyOrder.guard_run (hk.at 8 rfl) ?_
                have k38 : ρ (.tmp 38) = .bool true := hk.at 11 rfl
                have k50 : ρ (.tmp 50) = .bool false := hk.at 23 rfl
                have kc := hk.const
                clear hk
                go_simp
                exact ⟨AnyOrder.Grows.refl _, by first | rfl | (simp [AnyOrder.nth]; done) | (simp [AnyOrder.nth]; omega)⟩
              · intro ρ w' hk
                have k35 : ρ (.tmp 35) = .bool false := hk.at 8 rfl
                have k51 : ρ (.tmp 51) = .bool false := hk.at 24 rfl
                have kc := hk.const
                clear hk
                go_simp
                exact ⟨AnyOrder.Grows.refl _, by first | rfl | (simp [AnyOrder.nth]; done) | (simp [AnyOrder.nth]; omega)⟩
            · intro vs w9 hR9 hv9
              have hG9 := AnyOrder.Grows.of_drew hR9
              have v25 : vs 25 = .bool false := hv9 25 (by decide)
              clear hR9 hv9
              simp only [AnyOrder.fill, Nat.zero_add, Nat.reduceAdd, List.setIfInBounds_toArray, List.set_cons_zero, List.set_cons_succ]
              rw [v25]
              clear v25
              have HB9 := hid (HBR.out.trans (hG9.mono HBR.out.size))
              have HO1 := hid (show okTo true xs (k + 1) = true by rw [okTo_succ, HATT.out, HO.out]; rfl)
              clear hG9 c0 c1 c2 c3 c4 p0 hge' hw
              have hw2 : IntKind.i64.wrap ((k : Int) + 1) = (k : Int) + 1 := IntWalk.i64_in _ (by have := HW9.out; omega)
              go_wp2_with fail
              go_roundw
              case rel => exact ⟨k + 1, hk1, by go_num, HO1.out, HB9.out⟩
              case measure => simp [intOf]; omega
      · have HM := hid (show mayC true x = false by simpa using hm)
        have HAT : okAt true xs k = false := by
          have e : mayC true xs[k] = false := by rw [← HX.out]; exact HM.out
          cases k with
          | zero => rw [okAt_eq hkl rfl]; exact e
          | succ j => rw [okAt_eq' hkl, e, Bool.false_and]
        have HATT := hid HAT
        have HK := hid hkl
        clear HX hm HAT hkl hlt
        refine AnyOrder.wp_region_grows_g [
            fun v _ => v = .int .i64 2,
            fun v _ => v = .bool true,
            fun v _ => v = .slice (some ⟨b0, off0, none⟩) L cap,
            fun v _ => v = .int .i64 (k : Int),
            fun v _ => v = .pointer (some ⟨b0, off0 + k * 5, none⟩),
            fun v _ => v = .agg #[.string x.key, .string x.text, .bool x.long, .int .i64 x.page, .int .i64 x.size],
            fun v _ => v = .bool false,
            fun v _ => v = .bool true,
            fun v _ => v = .bool true,
            fun v _ => v = undef,
            fun v _ => v = undef,
            fun v _ => v = undef,
            fun v _ => v = undef,
            fun v _ => v = undef,
            fun v _ => v = undef,
            fun v _ => v = undef,
            fun v _ => v = undef,
            fun v _ => v = undef,
            fun v _ => v = undef,
            fun v _ => v = undef,
            fun v _ => v = undef,
            fun v _ => v = undef,
            fun v _ => v = undef,
            fun v _ => v = undef,
            fun v _ => v = undef,
            fun v _ => v = .bool true] hmx (by kernel_rfl) ?_ ?_ ?_
        · intro p hp
          simp only [List.mem_cons, List.not_mem_nil, or_false] at hp
          rcases hp with rfl | rfl | rfl | rfl | rfl | rfl | rfl | rfl | rfl | rfl | rfl | rfl | rfl | rfl | rfl | rfl | rfl | rfl | rfl | rfl | rfl | rfl | rfl | rfl | rfl | rfl
          all_goals first
            | exact AnyOrder.stays_const _
        · simp only [AnyOrder.dstsOf, List.map_cons, List.map_nil, AnyOrder.GSteps, Nat.zero_add, Nat.reduceAdd]
          refine ⟨?_, ?_, ?_, ?_, ?_, ?_, ?_, ?_, ?_, ?_, ?_, ?_, ?_, ?_, ?_, ?_, ?_, ?_, ?_, ?_, ?_, ?_, ?_, ?_, ?_, ?_, trivial⟩
          · intro ρ w' hk
            have k0 : ρ (.tmp 0) = .int .i64 2 := hk.old 0 rfl
            clear hk
            go_simp
            exact ⟨AnyOrder.Grows.refl _, by first | rfl | (simp [AnyOrder.nth]; done) | (simp [AnyOrder.nth]; omega)⟩
          · intro ρ w' hk
            have k27 : ρ (.tmp 27) = .int .i64 2 := hk.at 0 rfl
            have kc := hk.const
            clear hk
            go_simp
            exact ⟨AnyOrder.Grows.refl _, by first | rfl | (simp [AnyOrder.nth]; done) | (simp [AnyOrder.nth]; omega)⟩
          · intro ρ w' hk
            have k1 : ρ (.tmp 1) = .slice (some ⟨b0, off0, none⟩) L cap := hk.old 1 rfl
            clear hk
            go_simp
            exact ⟨AnyOrder.Grows.refl _, by first | rfl | (simp [AnyOrder.nth]; done) | (simp [AnyOrder.nth]; omega)⟩
          · intro ρ w' hk
            have k5 : ρ (.tmp 5) = .int .i64 (k : Int) := hk.old 5 rfl
            clear hk
            go_simp
            exact ⟨AnyOrder.Grows.refl _, by first | rfl | (simp [AnyOrder.nth]; done) | (simp [AnyOrder.nth]; omega)⟩
          · intro ρ w' hk
            have k29 : ρ (.tmp 29) = .slice (some ⟨b0, off0, none⟩) L cap := hk.at 2 rfl
            have k30 : ρ (.tmp 30) = .int .i64 (k : Int) := hk.at 3 rfl
            clear hk
            go_simp
            exact ⟨AnyOrder.Grows.refl _, by first | rfl | (simp [AnyOrder.nth]; done) | (simp [AnyOrder.nth]; omega)⟩
          · intro ρ w' hk
            have k31 : ρ (.tmp 31) = .pointer (some ⟨b0, off0 + k * 5, none⟩) := hk.at 4 rfl
            have m0 := AnyOrder.cell_grows hk.world c0
            have m1 := AnyOrder.cell_grows hk.world c1
            have m2 := AnyOrder.cell_grows hk.world c2
            have m3 := AnyOrder.cell_grows hk.world c3
            have m4 := AnyOrder.cell_grows hk.world c4
            clear hk
            go_simp
            exact ⟨AnyOrder.Grows.refl _, by first | rfl | (simp [AnyOrder.nth]; done) | (simp [AnyOrder.nth]; omega)⟩
          · intro ρ w' hk
            have k28 : ρ (.tmp 28) = .bool true := hk.at 1 rfl
            have k32 : ρ (.tmp 32) = .agg #[.string x.key, .string x.text, .bool x.long, .int .i64 x.page, .int .i64 x.size] := hk.at 5 rfl
            have kf := hk.func
            have kw := AnyOrder.Grows.of_drew hk.world
            clear hk
            go_simp
            refine (may_calls true x w').mono ?_
            rintro e w'' ⟨rfl, hb⟩
            exact ⟨_, rfl, hb, by show Value.bool (mayC true x) = _; rw [HM.out]⟩
          · intro ρ w' hk
            have k33 : ρ (.tmp 33) = .bool false := hk.at 6 rfl
            clear hk
            go_simp
            exact ⟨AnyOrder.Grows.refl _, by first | rfl | (simp [AnyOrder.nth]; done) | (simp [AnyOrder.nth]; omega)⟩
          · intro ρ w' hk
            have k34 : ρ (.tmp 34) = .bool true := hk.at 7 rfl
            clear hk
            go_simp
            exact ⟨AnyOrder.Grows.refl _, by first | rfl | (simp [AnyOrder.nth]; done) | (simp [AnyOrder.nth]; omega)⟩
          · intro ρ w' hk
            exact AnyOrder.guard_skip (hk.at 8 rfl) (fun h => by cases h) rfl
          · intro ρ w' hk
            exact AnyOrder.guard_skip (hk.at 8 rfl) (fun h => by cases h) rfl
          · intro ρ w' hk
            exact AnyOrder.guard_skip (hk.at 8 rfl) (fun h => by cases h) rfl
          · intro ρ w' hk
            exact AnyOrder.guard_skip (hk.at 11 rfl) undef_ne rfl
          · intro ρ w' hk
            exact AnyOrder.guard_skip (hk.at 11 rfl) undef_ne rfl
          · intro ρ w' hk
            exact AnyOrder.guard_skip (hk.at 11 rfl) undef_ne rfl
          · intro ρ w' hk
            exact AnyOrder.guard_skip (hk.at 11 rfl) undef_ne rfl
          · intro ρ w' hk
            exact AnyOrder.guard_skip (hk.at 11 rfl) undef_ne rfl
          · intro ρ w' hk
            exact AnyOrder.guard_skip (hk.at 11 rfl) undef_ne rfl
          · intro ρ w' hk
            exact AnyOrder.guard_skip (hk.at 11 rfl) undef_ne rfl
          · intro ρ w' hk
            exact AnyOrder.guard_skip (hk.at 11 rfl) undef_ne rfl
          · intro ρ w' hk
            exact AnyOrder.guard_skip (hk.at 11 rfl) undef_ne rfl
          · intro ρ w' hk
            exact AnyOrder.guard_skip (hk.at 11 rfl) undef_ne rfl
          · intro ρ w' hk
            exact AnyOrder.guard_skip (hk.at 11 rfl) undef_ne rfl
          · intro ρ w' hk
            exact AnyOrder.guard_skip (hk.at 11 rfl) undef_ne rfl
          · intro ρ w' hk
            exact AnyOrder.guard_skip (hk.at 8 rfl) (fun h => by cases h) rfl
          · intro ρ w' hk
            have k35 : ρ (.tmp 35) = .bool true := hk.at 8 rfl
            have k51 : ρ (.tmp 51) = undef := hk.at 24 rfl
            have kc := hk.const
            clear hk
            go_simp
            exact ⟨AnyOrder.Grows.refl _, by first | rfl | (simp [AnyOrder.nth]; done) | (simp [AnyOrder.nth]; omega)⟩
        · intro vs w9 hR9 hv9
          have hG9 := AnyOrder.Grows.of_drew hR9
          have v25 : vs 25 = .bool true := hv9 25 (by decide)
          clear hR9 hv9
          simp only [AnyOrder.fill, Nat.zero_add, Nat.reduceAdd, List.setIfInBounds_toArray, List.set_cons_zero, List.set_cons_succ]
          rw [v25]
          clear v25
          have HB9 := hid (HBR.out.trans (hG9.mono HBR.out.size))
          clear hG9 c0 c1 c2 c3 c4
          go_wp2_with fail
          go_ret
          exact rightEnd_no (okTo_no HK.out HATT.out) HB9.out
    · obtain rfl : k = L := by omega
      have i0 : ¬ ((k : Int) < (k : Int)) := by omega
      clear hx hlt hk
      go_wp2_with fail
      go_ret
      exact rightEnd_ok (by rw [HL.out]; exact HO.out) HBR.out
set_option maxRecDepth 100000 in
set_option maxHeartbeats 8000000 in
theorem right_calls3 (a : Option Addr) (cap : Nat) (xs : List Cl) (w : World) (hx : CellsIn (fun q => q < w.heap.size) w a xs) (hl : xs.length ≤ cap ∧ cap ≤ maxLen) (h0 : xs.length ≠ 0) :
    Calls Try.prog 37 #[.int .i64 3, .slice a xs.length cap] w (RightEnd false xs w) := by
  have hmx : Try.prog.follows .mixedOrders = true := by kernel_rfl
  generalize hL : xs.length = L at *
  have HL := hid hL
  have HLC := hid hl
  clear hL hl
  have i00 : ((L : Int) == 0) = false := by simp; omega
  go_enter Try.func37, Try.ntmps37
  go_wp2_with fail
  go_loopw [5] (fun i wr => ∃ k : Nat, k ≤ L ∧ i = .int .i64 (k : Int) ∧ Hid (okTo false xs k = true) ∧ Below w.heap.size w wr) (fun i _ => L - (intOf i).toNat)
  case atStart => exact ⟨0, Nat.zero_le _, rfl, rfl, Below.refl _ _⟩
  case round =>
    obtain ⟨k, hk, rfl, HO, hbr⟩ := hrel
    have HBR := hid hbr
    clear hbr
    by_cases hlt : k < L
    · have hkl : k < xs.length := by rw [HL.out]; exact hlt
      obtain ⟨b0, off0, rfl, ho0, h0, h1, h2, h3, h4⟩ := hx.at hkl
      have c0 := HBR.out.cell (p := ⟨b0, off0 + k * 5, none⟩) ho0
      have c1 := HBR.out.cell (p := ⟨b0, off0 + k * 5 + 1, none⟩) ho0
      have c2 := HBR.out.cell (p := ⟨b0, off0 + k * 5 + 2, none⟩) ho0
      have c3 := HBR.out.cell (p := ⟨b0, off0 + k * 5 + 3, none⟩) ho0
      have c4 := HBR.out.cell (p := ⟨b0, off0 + k * 5 + 4, none⟩) ho0
      rw [h0] at c0
      rw [h1] at c1
      rw [h2] at c2
      rw [h3] at c3
      rw [h4] at c4
      obtain ⟨x, hxe⟩ : ∃ x, x = xs[k] := ⟨_, rfl⟩
      rw [← hxe] at c0 c1 c2 c3 c4
      have HX := hid hxe
      have HH := hid hx
      have i0 : (k : Int) < (L : Int) := by omega
      clear hx h0 h1 h2 h3 h4 hxe
      go_wp2_with fail
      by_cases hm : mayC false x = true
      · by_cases hk0 : k = 0
        · have HM := hid hm
          have HAT : okAt false xs k = true := by rw [okAt_eq hkl hk0, ← HX.out]; exact hm
          have hk1 : k + 1 ≤ L := hlt
          have i3 : ¬ (0 : Int) < (k : Int) := by omega
          have HK := hid hkl
          have hw2 : IntKind.i64.wrap ((k : Int) + 1) = (k : Int) + 1 := IntWalk.i64_in _ (by have := HLC.out; unfold maxLen at this; omega)
          clear HX hm hkl hlt hk0
          refine AnyOrder.wp_region_grows_g [
              fun v _ => v = .int .i64 3,
              fun v _ => v = .bool false,
              fun v _ => v = .slice (some ⟨b0, off0, none⟩) L cap,
              fun v _ => v = .int .i64 (k : Int),
              fun v _ => v = .pointer (some ⟨b0, off0 + k * 5, none⟩),
              fun v _ => v = .agg #[.string x.key, .string x.text, .bool x.long, .int .i64 x.page, .int .i64 x.size],
              fun v _ => v = .bool true,
              fun v _ => v = .bool false,
              fun v _ => v = .bool false,
              fun v _ => v = .int .i64 (k : Int),
              fun v _ => v = .bool false,
              fun v _ => v = .bool false,
              fun v _ => v = undef,
              fun v _ => v = undef,
              fun v _ => v = undef,
              fun v _ => v = undef,
              fun v _ => v = undef,
              fun v _ => v = undef,
              fun v _ => v = undef,
              fun v _ => v = undef,
              fun v _ => v = undef,
              fun v _ => v = undef,
              fun v _ => v = undef,
              fun v _ => v = undef,
              fun v _ => v = .bool false,
              fun v _ => v = .bool false] hmx (by kernel_rfl) ?_ ?_ ?_
          · intro p hp
            simp only [List.mem_cons, List.not_mem_nil, or_false] at hp
            rcases hp with rfl | rfl | rfl | rfl | rfl | rfl | rfl | rfl | rfl | rfl | rfl | rfl | rfl | rfl | rfl | rfl | rfl | rfl | rfl | rfl | rfl | rfl | rfl | rfl | rfl | rfl
            all_goals first
              | exact AnyOrder.stays_const _
          · simp only [AnyOrder.dstsOf, List.map_cons, List.map_nil, AnyOrder.GSteps, Nat.zero_add, Nat.reduceAdd]
            refine ⟨?_, ?_, ?_, ?_, ?_, ?_, ?_, ?_, ?_, ?_, ?_, ?_, ?_, ?_, ?_, ?_, ?_, ?_, ?_, ?_, ?_, ?_, ?_, ?_, ?_, ?_, trivial⟩
            · intro ρ w' hk
              have k0 : ρ (.tmp 0) = .int .i64 3 := hk.old 0 rfl
              clear hk
              go_simp
              exact ⟨AnyOrder.Grows.refl _, by first | rfl | (simp [AnyOrder.nth]; done) | (simp [AnyOrder.nth]; omega)⟩
            · intro ρ w' hk
              have k27 : ρ (.tmp 27) = .int .i64 3 := hk.at 0 rfl
              have kc := hk.const
              clear hk
              go_simp
              exact ⟨AnyOrder.Grows.refl _, by first | rfl | (simp [AnyOrder.nth]; done) | (simp [AnyOrder.nth]; omega)⟩
            · intro ρ w' hk
              have k1 : ρ (.tmp 1) = .slice (some ⟨b0, off0, none⟩) L cap := hk.old 1 rfl
              clear hk
              go_simp
              exact ⟨AnyOrder.Grows.refl _, by first | rfl | (simp [AnyOrder.nth]; done) | (simp [AnyOrder.nth]; omega)⟩
            · intro ρ w' hk
              have k5 : ρ (.tmp 5) = .int .i64 (k : Int) := hk.old 5 rfl
              clear hk
              go_simp
              exact ⟨AnyOrder.Grows.refl _, by first | rfl | (simp [AnyOrder.nth]; done) | (simp [AnyOrder.nth]; omega)⟩
            · intro ρ w' hk
              have k29 : ρ (.tmp 29) = .slice (some ⟨b0, off0, none⟩) L cap := hk.at 2 rfl
              have k30 : ρ (.tmp 30) = .int .i64 (k : Int) := hk.at 3 rfl
              clear hk
              go_simp
              exact ⟨AnyOrder.Grows.refl _, by first | rfl | (simp [AnyOrder.nth]; done) | (simp [AnyOrder.nth]; omega)⟩
            · intro ρ w' hk
              have k31 : ρ (.tmp 31) = .pointer (some ⟨b0, off0 + k * 5, none⟩) := hk.at 4 rfl
              have m0 := AnyOrder.cell_grows hk.world c0
              have m1 := AnyOrder.cell_grows hk.world c1
              have m2 := AnyOrder.cell_grows hk.world c2
              have m3 := AnyOrder.cell_grows hk.world c3
              have m4 := AnyOrder.cell_grows hk.world c4
              clear hk
              go_simp
              exact ⟨AnyOrder.Grows.refl _, by first | rfl | (simp [AnyOrder.nth]; done) | (simp [AnyOrder.nth]; omega)⟩
            · intro ρ w' hk
              have k28 : ρ (.tmp 28) = .bool false := hk.at 1 rfl
              have k32 : ρ (.tmp 32) = .agg #[.string x.key, .string x.text, .bool x.long, .int .i64 x.page, .int .i64 x.size] := hk.at 5 rfl
              have kf := hk.func
              have kw := AnyOrder.Grows.of_drew hk.world
              clear hk
              go_simp
              refine (may_calls false x w').mono ?_
              rintro e w'' ⟨rfl, hb⟩
              exact ⟨_, rfl, hb, by show Value.bool (mayC false x) = _; rw [HM.out]⟩
            · intro ρ w' hk
              have k33 : ρ (.tmp 33) = .bool true := hk.at 6 rfl
              clear hk
              go_simp
              exact ⟨AnyOrder.Grows.refl _, by first | rfl | (simp [AnyOrder.nth]; done) | (simp [AnyOrder.nth]; omega)⟩
            · intro ρ w' hk
              have k34 : ρ (.tmp 34) = .bool false := hk.at 7 rfl
              clear hk
              go_simp
              exact ⟨AnyOrder.Grows.refl _, by first | rfl | (simp [AnyOrder.nth]; done) | (simp [AnyOrder.nth]; omega)⟩
            · intro ρ w' hk
              refine AnyOrder.guard_run (hk.at 8 rfl) ?_
              have k5 : ρ (.tmp 5) = .int .i64 (k : Int) := hk.old 5 rfl
              clear hk
              go_simp
              exact ⟨AnyOrder.Grows.refl _, by first | rfl | (simp [AnyOrder.nth]; done) | (simp [AnyOrder.nth]; omega)⟩
            · intro ρ w' hk
              refine AnyOrder.guard_run (hk.at 8 rfl) ?_
              have k36 : ρ (.tmp 36) = .int .i64 (k : Int) := hk.at 9 rfl
              have kc := hk.const
              clear hk
              go_simp
              exact ⟨AnyOrder.Grows.refl _, by first | rfl | (simp [AnyOrder.nth]; done) | (simp [AnyOrder.nth]; omega)⟩
            · intro ρ w' hk
              refine AnyOrder.guard_run (hk.at 8 rfl) ?_
              have k37 : ρ (.tmp 37) = .bool false := hk.at 10 rfl
              clear hk
              go_simp
              exact ⟨AnyOrder.Grows.refl _, by first | rfl | (simp [AnyOrder.nth]; done) | (simp [AnyOrder.nth]; omega)⟩
            · intro ρ w' hk
              exact AnyOrder.guard_skip (hk.at 11 rfl) (fun h => by cases h) rfl
            · intro ρ w' hk
              exact AnyOrder.guard_skip (hk.at 11 rfl) (fun h => by cases h) rfl
            · intro ρ w' hk
              exact AnyOrder.guard_skip (hk.at 11 rfl) (fun h => by cases h) rfl
            · intro ρ w' hk
              exact AnyOrder.guard_skip (hk.at 11 rfl) (fun h => by cases h) rfl
            · intro ρ w' hk
              exact AnyOrder.guard_skip (hk.at 11 rfl) (fun h => by cases h) rfl
            · intro ρ w' hk
              exact AnyOrder.guard_skip (hk.at 11 rfl) (fun h => by cases h) rfl
            · intro ρ w' hk
              exact AnyOrder.guard_skip (hk.at 11 rfl) (fun h => by cases h) rfl
            · intro ρ w' hk
              exact AnyOrder.guard_skip (hk.at 11 rfl) (fun h => by cases h) rfl
            · intro ρ w' hk
              exact AnyOrder.guard_skip (hk.at 11 rfl) (fun h => by cases h) rfl
            · intro ρ w' hk
              exact AnyOrder.guard_skip (hk.at 11 rfl) (fun h => by cases h) rfl
            · intro ρ w' hk
              exact AnyOrder.guard_skip (hk.at 11 rfl) (fun h => by cases h) rfl
            · intro ρ w' hk
              exact AnyOrder.guard_skip (hk.at 11 rfl) (fun h => by cases h) rfl
            · intro ρ w' hk
              refine AnyOrder.guard_run (hk.at 8 rfl) ?_
              have k38 : ρ (.tmp 38) = .bool false := hk.at 11 rfl
              have k50 : ρ (.tmp 50) = undef := hk.at 23 rfl
              have kc := hk.const
              clear hk
              go_simp
              exact ⟨AnyOrder.Grows.refl _, by first | rfl | (simp [AnyOrder.nth]; done) | (simp [AnyOrder.nth]; omega)⟩
            · intro ρ w' hk
              have k35 : ρ (.tmp 35) = .bool false := hk.at 8 rfl
              have k51 : ρ (.tmp 51) = .bool false := hk.at 24 rfl
              have kc := hk.const
              clear hk
              go_simp
              exact ⟨AnyOrder.Grows.refl _, by first | rfl | (simp [AnyOrder.nth]; done) | (simp [AnyOrder.nth]; omega)⟩
          · intro vs w9 hR9 hv9
            have hG9 := AnyOrder.Grows.of_drew hR9
            have v25 : vs 25 = .bool false := hv9 25 (by decide)
            clear hR9 hv9
            simp only [AnyOrder.fill, Nat.zero_add, Nat.reduceAdd, List.setIfInBounds_toArray, List.set_cons_zero, List.set_cons_succ]
            rw [v25]
            clear v25
            have HB9 := hid (HBR.out.trans (hG9.mono HBR.out.size))
            have HO1 := hid (show okTo false xs (k + 1) = true by rw [okTo_succ, HAT, HO.out]; rfl)
            clear hG9 c0 c1 c2 c3 c4 HAT
            go_wp2_with fail
            go_roundw
            case rel => exact ⟨k + 1, hk1, by go_num, HO1.out, HB9.out⟩
            case measure => simp [intOf]; omega
        · obtain ⟨j, hkj⟩ : ∃ j, k = j + 1 := ⟨k - 1, by omega⟩
          have HM := hid hm
          have hjl : j < xs.length := by omega
          obtain ⟨b9, off9, eb, -, h0, -, -, -, -⟩ := HH.out.at hjl
          cases eb
          have p0 := HBR.out.cell (p := ⟨b0, off0 + j * 5, none⟩) ho0
          rw [h0] at p0
          obtain ⟨y, hye⟩ : ∃ y, y = xs[j] := ⟨_, rfl⟩
          rw [← hye] at p0
          have i2 : (j : Int) < (L : Int) := by omega
          have i3 : (0 : Int) < (k : Int) := by omega
          have hw : IntKind.i64.wrap ((k : Int) - 1) = (j : Int) := by
            rw [show (k : Int) - 1 = (j : Int) from by omega]
            exact IntWalk.i64_in _ (by have := HLC.out; unfold maxLen at this; omega)
          have HAT : okAt false xs k = keyLt y.key x.key := by
            have e : x = xs[j + 1]'(by omega) := by rw [HX.out]; congr 1
            rw [hkj, okAt_eq' (by omega), hye, ← e, hm, Bool.true_and]
          have HATT := hid HAT
          have HK := hid hkl
          have hk1 : k + 1 ≤ L := hlt
          have HWL : (L : Int) ≤ 9223372036854775807 := by have := HLC.out; unfold maxLen at this; omega
          have HW9 := hid HWL
          clear HX hm HAT h0 hye hjl hkl hk0 hlt HWL hkj
          cases hge : keyLt y.key x.key
          · have hge' : Op.bytesLess y.key.toList x.key.toList = false := hge
            rw [hge] at HATT
            clear hge
            refine AnyOrder.wp_region_grows_g [
                fun v _ => v = .int .i64 3,
                fun v _ => v = .bool false,
                fun v _ => v = .slice (some ⟨b0, off0, none⟩) L cap,
                fun v _ => v = .int .i64 (k : Int),
                fun v _ => v = .pointer (some ⟨b0, off0 + k * 5, none⟩),
                fun v _ => v = .agg #[.string x.key, .string x.text, .bool x.long, .int .i64 x.page, .int .i64 x.size],
                fun v _ => v = .bool true,
                fun v _ => v = .bool false,
                fun v _ => v = .bool false,
                fun v _ => v = .int .i64 (k : Int),
                fun v _ => v = .bool true,
                fun v _ => v = .bool true,
                fun v _ => v = .slice (some ⟨b0, off0, none⟩) L cap,
                fun v _ => v = .int .i64 (k : Int),
                fun v _ => v = .int .i64 (j : Int),
                fun v _ => v = .pointer (some ⟨b0, off0 + j * 5, none⟩),
                fun v _ => v = .pointer (some ⟨b0, off0 + j * 5, none⟩),
                fun v _ => v = .string y.key,
                fun v _ => v = .slice (some ⟨b0, off0, none⟩) L cap,
                fun v _ => v = .int .i64 (k : Int),
                fun v _ => v = .pointer (some ⟨b0, off0 + k * 5, none⟩),
                fun v _ => v = .pointer (some ⟨b0, off0 + k * 5, none⟩),
                fun v _ => v = .string x.key,
                fun v _ => v = .bool true,
                fun v _ => v = .bool true,
                fun v _ => v = .bool true] hmx (by kernel_rfl) ?_ ?_ ?_
            · intro p hp
              simp only [List.mem_cons, List.not_mem_nil, or_false] at hp
              rcases hp with rfl | rfl | rfl | rfl | rfl | rfl | rfl | rfl | rfl | rfl | rfl | rfl | rfl | rfl | rfl | rfl | rfl | rfl | rfl | rfl | rfl | rfl | rfl | rfl | rfl | rfl
              all_goals first
                | exact AnyOrder.stays_const _
            · simp only [AnyOrder.dstsOf, List.map_cons, List.map_nil, AnyOrder.GSteps, Nat.zero_add, Nat.reduceAdd]
              refine ⟨?_, ?_, ?_, ?_, ?_, ?_, ?_, ?_, ?_, ?_, ?_, ?_, ?_, ?_, ?_, ?_, ?_, ?_, ?_, ?_, ?_, ?_, ?_, ?_, ?_, ?_, trivial⟩
              · intro ρ w' hk
                have k0 : ρ (.tmp 0) = .int .i64 3 := hk.old 0 rfl
                clear hk
                go_simp
                exact ⟨AnyOrder.Grows.refl _, by first | rfl | (simp [AnyOrder.nth]; done) | (simp [AnyOrder.nth]; omega)⟩
              · intro ρ w' hk
                have k27 : ρ (.tmp 27) = .int .i64 3 := hk.at 0 rfl
                have kc := hk.const
                clear hk
                go_simp
                exact ⟨AnyOrder.Grows.refl _, by first | rfl | (simp [AnyOrder.nth]; done) | (simp [AnyOrder.nth]; omega)⟩
              · intro ρ w' hk
                have k1 : ρ (.tmp 1) = .slice (some ⟨b0, off0, none⟩) L cap := hk.old 1 rfl
                clear hk
                go_simp
                exact ⟨AnyOrder.Grows.refl _, by first | rfl | (simp [AnyOrder.nth]; done) | (simp [AnyOrder.nth]; omega)⟩
              · intro ρ w' hk
                have k5 : ρ (.tmp 5) = .int .i64 (k : Int) := hk.old 5 rfl
                clear hk
                go_simp
                exact ⟨AnyOrder.Grows.refl _, by first | rfl | (simp [AnyOrder.nth]; done) | (simp [AnyOrder.nth]; omega)⟩
              · intro ρ w' hk
                have k29 : ρ (.tmp 29) = .slice (some ⟨b0, off0, none⟩) L cap := hk.at 2 rfl
                have k30 : ρ (.tmp 30) = .int .i64 (k : Int) := hk.at 3 rfl
                clear hk
                go_simp
                exact ⟨AnyOrder.Grows.refl _, by first | rfl | (simp [AnyOrder.nth]; done) | (simp [AnyOrder.nth]; omega)⟩
              · intro ρ w' hk
                have k31 : ρ (.tmp 31) = .pointer (some ⟨b0, off0 + k * 5, none⟩) := hk.at 4 rfl
                have m0 := AnyOrder.cell_grows hk.world c0
                have m1 := AnyOrder.cell_grows hk.world c1
                have m2 := AnyOrder.cell_grows hk.world c2
                have m3 := AnyOrder.cell_grows hk.world c3
                have m4 := AnyOrder.cell_grows hk.world c4
                clear hk
                go_simp
                exact ⟨AnyOrder.Grows.refl _, by first | rfl | (simp [AnyOrder.nth]; done) | (simp [AnyOrder.nth]; omega)⟩
              · intro ρ w' hk
                have k28 : ρ (.tmp 28) = .bool false := hk.at 1 rfl
                have k32 : ρ (.tmp 32) = .agg #[.string x.key, .string x.text, .bool x.long, .int .i64 x.page, .int .i64 x.size] := hk.at 5 rfl
                have kf := hk.func
                have kw := AnyOrder.Grows.of_drew hk.world
                clear hk
                go_simp
                refine (may_calls false x w').mono ?_
                rintro e w'' ⟨rfl, hb⟩
                exact ⟨_, rfl, hb, by show Value.bool (mayC false x) = _; rw [HM.out]⟩
              · intro ρ w' hk
                have k33 : ρ (.tmp 33) = .bool true := hk.at 6 rfl
                clear hk
                go_simp
                exact ⟨AnyOrder.Grows.refl _, by first | rfl | (simp [AnyOrder.nth]; done) | (simp [AnyOrder.nth]; omega)⟩
              · intro ρ w' hk
                have k34 : ρ (.tmp 34) = .bool false := hk.at 7 rfl
                clear hk
                go_simp
                exact ⟨AnyOrder.Grows.refl _, by first | rfl | (simp [AnyOrder.nth]; done) | (simp [AnyOrder.nth]; omega)⟩
              · intro ρ w' hk
                refine AnyOrder.guard_run (hk.at 8 rfl) ?_
                have k5 : ρ (.tmp 5) = .int .i64 (k : Int) := hk.old 5 rfl
                clear hk
                go_simp
                exact ⟨AnyOrder.Grows.refl _, by first | rfl | (simp [AnyOrder.nth]; done) | (simp [AnyOrder.nth]; omega)⟩
              · intro ρ w' hk
                refine AnyOrder.guard_run (hk.at 8 rfl) ?_
                have k36 : ρ (.tmp 36) = .int .i64 (k : Int) := hk.at 9 rfl
                have kc := hk.const
                clear hk
                go_simp
                exact ⟨AnyOrder.Grows.refl _, by first | rfl | (simp [AnyOrder.nth]; done) | (simp [AnyOrder.nth]; omega)⟩
              · intro ρ w' hk
                refine AnyOrder.guard_run (hk.at 8 rfl) ?_
                have k37 : ρ (.tmp 37) = .bool true := hk.at 10 rfl
                clear hk
                go_simp
                exact ⟨AnyOrder.Grows.refl _, by first | rfl | (simp [AnyOrder.nth]; done) | (simp [AnyOrder.nth]; omega)⟩
              · intro ρ w' hk
                refine AnyOrder.guard_run (hk.at 11 rfl) ?_
                have k1 : ρ (.tmp 1) = .slice (some ⟨b0, off0, none⟩) L cap := hk.old 1 rfl
                clear hk
                go_simp
                exact ⟨AnyOrder.Grows.refl _, by first | rfl | (simp [AnyOrder.nth]; done) | (simp [AnyOrder.nth]; omega)⟩
              · intro ρ w' hk
                refine AnyOrder.guard_run (hk.at 11 rfl) ?_
                have k5 : ρ (.tmp 5) = .int .i64 (k : Int) := hk.old 5 rfl
                clear hk
                go_simp
                exact ⟨AnyOrder.Grows.refl _, by first | rfl | (simp [AnyOrder.nth]; done) | (simp [AnyOrder.nth]; omega)⟩
              · intro ρ w' hk
                refine AnyOrder.guard_run (hk.at 11 rfl) ?_
                have k40 : ρ (.tmp 40) = .int .i64 (k : Int) := hk.at 13 rfl
                have kc := hk.const
                clear hk
                go_simp
                exact ⟨AnyOrder.Grows.refl _, by first | rfl | (simp [AnyOrder.nth]; done) | (simp [AnyOrder.nth]; omega)⟩
              · intro ρ w' hk
                refine AnyOrder.guard_run (hk.at 11 rfl) ?_
                have k39 : ρ (.tmp 39) = .slice (some ⟨b0, off0, none⟩) L cap := hk.at 12 rfl
                have k41 : ρ (.tmp 41) = .int .i64 (j : Int) := hk.at 14 rfl
                clear hk
                go_simp
                exact ⟨AnyOrder.Grows.refl _, by first | rfl | (simp [AnyOrder.nth]; done) | (simp [AnyOrder.nth]; omega)⟩
              · intro ρ w' hk
                refine AnyOrder.guard_run (hk.at 11 rfl) ?_
                have k42 : ρ (.tmp 42) = .pointer (some ⟨b0, off0 + j * 5, none⟩) := hk.at 15 rfl
                clear hk
                go_simp
                exact ⟨AnyOrder.Grows.refl _, by first | rfl | (simp [AnyOrder.nth]; done) | (simp [AnyOrder.nth]; omega)⟩
              · intro ρ w' hk
                refine AnyOrder.guard_run (hk.at 11 rfl) ?_
                have k43 : ρ (.tmp 43) = .pointer (some ⟨b0, off0 + j * 5, none⟩) := hk.at 16 rfl
                have m0 := AnyOrder.cell_grows hk.world p0
                clear hk
                go_simp
                exact ⟨AnyOrder.Grows.refl _, by first | rfl | (simp [AnyOrder.nth]; done) | (simp [AnyOrder.nth]; omega)⟩
              · intro ρ w' hk
                refine AnyOrder.guard_run (hk.at 11 rfl) ?_
                have k1 : ρ (.tmp 1) = .slice (some ⟨b0, off0, none⟩) L cap := hk.old 1 rfl
                clear hk
                go_simp
                exact ⟨AnyOrder.Grows.refl _, by first | rfl | (simp [AnyOrder.nth]; done) | (simp [AnyOrder.nth]; omega)⟩
              · intro ρ w' hk
                refine AnyOrder.guard_run (hk.at 11 rfl) ?_
                have k5 : ρ (.tmp 5) = .int .i64 (k : Int) := hk.old 5 rfl
                clear hk
                go_simp
                exact ⟨AnyOrder.Grows.refl _, by first | rfl | (simp [AnyOrder.nth]; done) | (simp [AnyOrder.nth]; omega)⟩
              · intro ρ w' hk
                refine AnyOrder.guard_run (hk.at 11 rfl) ?_
                have k45 : ρ (.tmp 45) = .slice (some ⟨b0, off0, none⟩) L cap := hk.at 18 rfl
                have k46 : ρ (.tmp 46) = .int .i64 (k : Int) := hk.at 19 rfl
                clear hk
                go_simp
                exact ⟨AnyOrder.Grows.refl _, by first | rfl | (simp [AnyOrder.nth]; done) | (simp [AnyOrder.nth]; omega)⟩
              · intro ρ w' hk
                refine AnyOrder.guard_run (hk.at 11 rfl) ?_
                have k47 : ρ (.tmp 47) = .pointer (some ⟨b0, off0 + k * 5, none⟩) := hk.at 20 rfl
                clear hk
                go_simp
                exact ⟨AnyOrder.Grows.refl _, by first | rfl | (simp [AnyOrder.nth]; done) | (simp [AnyOrder.nth]; omega)⟩
              · intro ρ w' hk
                refine AnyOrder.guard_run (hk.at 11 rfl) ?_
                have k48 : ρ (.tmp 48) = .pointer (some ⟨b0, off0 + k * 5, none⟩) := hk.at 21 rfl
                have m0 := AnyOrder.cell_grows hk.world c0
                clear hk
                go_simp
                exact ⟨AnyOrder.Grows.refl _, by first | rfl | (simp [AnyOrder.nth]; done) | (simp [AnyOrder.nth]; omega)⟩
              · intro ρ w' hk
                refine AnyOrder.guard_run (hk.at 11 rfl) ?_
                have k44 : ρ (.tmp 44) = .string y.key := hk.at 17 rfl
                have k49 : ρ (.tmp 49) = .string x.key := hk.at 22 rfl
                clear hk
                go_simp
                exact ⟨AnyOrder.Grows.refl _, by first | rfl | (simp [AnyOrder.nth]; done) | (simp [AnyOrder.nth]; omega)⟩
              · intro ρ w' hk
                refine AnyOrder.guard_run (hk.at 8 rfl) ?_
                have k38 : ρ (.tmp 38) = .bool true := hk.at 11 rfl
                have k50 : ρ (.tmp 50) = .bool true := hk.at 23 rfl
                have kc := hk.const
                clear hk
                go_simp
                exact ⟨AnyOrder.Grows.refl _, by first | rfl | (simp [AnyOrder.nth]; done) | (simp [AnyOrder.nth]; omega)⟩
              · intro ρ w' hk
                have k35 : ρ (.tmp 35) = .bool false := hk.at 8 rfl
                have k51 : ρ (.tmp 51) = .bool true := hk.at 24 rfl
                have kc := hk.const
                clear hk
                go_simp
                exact ⟨AnyOrder.Grows.refl _, by first | rfl | (simp [AnyOrder.nth]; done) | (simp [AnyOrder.nth]; omega)⟩
            · intro vs w9 hR9 hv9
              have hG9 := AnyOrder.Grows.of_drew hR9
              have v25 : vs 25 = .bool true := hv9 25 (by decide)
              clear hR9 hv9
              simp only [AnyOrder.fill, Nat.zero_add, Nat.reduceAdd, List.setIfInBounds_toArray, List.set_cons_zero, List.set_cons_succ]
              rw [v25]
              clear v25
              have HB9 := hid (HBR.out.trans (hG9.mono HBR.out.size))
              clear hG9 c0 c1 c2 c3 c4 p0 hge' hw
              go_wp2_with fail
              go_ret
              exact rightEnd_no (okTo_no HK.out HATT.out) HB9.out
          · have hge' : Op.bytesLess y.key.toList x.key.toList = true := hge
            rw [hge] at HATT
            clear hge
            refine AnyOrder.wp_region_grows_g [
                fun v _ => v = .int .i64 3,
                fun v _ => v = .bool false,
                fun v _ => v = .slice (some ⟨b0, off0, none⟩) L cap,
                fun v _ => v = .int .i64 (k : Int),
                fun v _ => v = .pointer (some ⟨b0, off0 + k * 5, none⟩),
                fun v _ => v = .agg #[.string x.key, .string x.text, .bool x.long, .int .i64 x.page, .int .i64 x.size],
                fun v _ => v = .bool true,
                fun v _ => v = .bool false,
                fun v _ => v = .bool false,
                fun v _ => v = .int .i64 (k : Int),
                fun v _ => v = .bool true,
                fun v _ => v = .bool true,
                fun v _ => v = .slice (some ⟨b0, off0, none⟩) L cap,
                fun v _ => v = .int .i64 (k : Int),
                fun v _ => v = .int .i64 (j : Int),
                fun v _ => v = .pointer (some ⟨b0, off0 + j * 5, none⟩),
                fun v _ => v = .pointer (some ⟨b0, off0 + j * 5, none⟩),
                fun v _ => v = .string y.key,
                fun v _ => v = .slice (some ⟨b0, off0, none⟩) L cap,
                fun v _ => v = .int .i64 (k : Int),
                fun v _ => v = .pointer (some ⟨b0, off0 + k * 5, none⟩),
                fun v _ => v = .pointer (some ⟨b0, off0 + k * 5, none⟩),
                fun v _ => v = .string x.key,
                fun v _ => v = .bool false,
                fun v _ => v = .bool false,
                fun v _ => v = .bool false] hmx (by kernel_rfl) ?_ ?_ ?_
            · intro p hp
              simp only [List.mem_cons, List.not_mem_nil, or_false] at hp
              rcases hp with rfl | rfl | rfl | rfl | rfl | rfl | rfl | rfl | rfl | rfl | rfl | rfl | rfl | rfl | rfl | rfl | rfl | rfl | rfl | rfl | rfl | rfl | rfl | rfl | rfl | rfl
              all_goals first
                | exact AnyOrder.stays_const _
            · simp only [AnyOrder.dstsOf, List.map_cons, List.map_nil, AnyOrder.GSteps, Nat.zero_add, Nat.reduceAdd]
              refine ⟨?_, ?_, ?_, ?_, ?_, ?_, ?_, ?_, ?_, ?_, ?_, ?_, ?_, ?_, ?_, ?_, ?_, ?_, ?_, ?_, ?_, ?_, ?_, ?_, ?_, ?_, trivial⟩
              · intro ρ w' hk
                have k0 : ρ (.tmp 0) = .int .i64 3 := hk.old 0 rfl
                clear hk
                go_simp
                exact ⟨AnyOrder.Grows.refl _, by first | rfl | (simp [AnyOrder.nth]; done) | (simp [AnyOrder.nth]; omega)⟩
              · intro ρ w' hk
                have k27 : ρ (.tmp 27) = .int .i64 3 := hk.at 0 rfl
                have kc := hk.const
                clear hk
                go_simp
                exact ⟨AnyOrder.Grows.refl _, by first | rfl | (simp [AnyOrder.nth]; done) | (simp [AnyOrder.nth]; omega)⟩
              · intro ρ w' hk
                have k1 : ρ (.tmp 1) = .slice (some ⟨b0, off0, none⟩) L cap := hk.old 1 rfl
                clear hk
                go_simp
                exact ⟨AnyOrder.Grows.refl _, by first | rfl | (simp [AnyOrder.nth]; done) | (simp [AnyOrder.nth]; omega)⟩
              · intro ρ w' hk
                have k5 : ρ (.tmp 5) = .int .i64 (k : Int) := hk.old 5 rfl
                clear hk
                go_simp
                exact ⟨AnyOrder.Grows.refl _, by first | rfl | (simp [AnyOrder.nth]; done) | (simp [AnyOrder.nth]; omega)⟩
              · intro ρ w' hk
                have k29 : ρ (.tmp 29) = .slice (some ⟨b0, off0, none⟩) L cap := hk.at 2 rfl
                have k30 : ρ (.tmp 30) = .int .i64 (k : Int) := hk.at 3 rfl
                clear hk
                go_simp
                exact ⟨AnyOrder.Grows.refl _, by first | rfl | (simp [AnyOrder.nth]; done) | (simp [AnyOrder.nth]; omega)⟩
              · intro ρ w' hk
                have k31 : ρ (.tmp 31) = .pointer (some ⟨b0, off0 + k * 5, none⟩) := hk.at 4 rfl
                have m0 := AnyOrder.cell_grows hk.world c0
                have m1 := AnyOrder.cell_grows hk.world c1
                have m2 := AnyOrder.cell_grows hk.world c2
                have m3 := AnyOrder.cell_grows hk.world c3
                have m4 := AnyOrder.cell_grows hk.world c4
                clear hk
                go_simp
                exact ⟨AnyOrder.Grows.refl _, by first | rfl | (simp [AnyOrder.nth]; done) | (simp [AnyOrder.nth]; omega)⟩
              · intro ρ w' hk
                have k28 : ρ (.tmp 28) = .bool false := hk.at 1 rfl
                have k32 : ρ (.tmp 32) = .agg #[.string x.key, .string x.text, .bool x.long, .int .i64 x.page, .int .i64 x.size] := hk.at 5 rfl
                have kf := hk.func
                have kw := AnyOrder.Grows.of_drew hk.world
                clear hk
                go_simp
                refine (may_calls false x w').mono ?_
                rintro e w'' ⟨rfl, hb⟩
                exact ⟨_, rfl, hb, by show Value.bool (mayC false x) = _; rw [HM.out]⟩
              · intro ρ w' hk
                have k33 : ρ (.tmp 33) = .bool true := hk.at 6 rfl
                clear hk
                go_simp
                exact ⟨AnyOrder.Grows.refl _, by first | rfl | (simp [AnyOrder.nth]; done) | (simp [AnyOrder.nth]; omega)⟩
              · intro ρ w' hk
                have k34 : ρ (.tmp 34) = .bool false := hk.at 7 rfl
                clear hk
                go_simp
                exact ⟨AnyOrder.Grows.refl _, by first | rfl | (simp [AnyOrder.nth]; done) | (simp [AnyOrder.nth]; omega)⟩
              · intro ρ w' hk
                refine AnyOrder.guard_run (hk.at 8 rfl) ?_
                have k5 : ρ (.tmp 5) = .int .i64 (k : Int) := hk.old 5 rfl
                clear hk
                go_simp
                exact ⟨AnyOrder.Grows.refl _, by first | rfl | (simp [AnyOrder.nth]; done) | (simp [AnyOrder.nth]; omega)⟩
              · intro ρ w' hk
                refine AnyOrder.guard_run (hk.at 8 rfl) ?_
                have k36 : ρ (.tmp 36) = .int .i64 (k : Int) := hk.at 9 rfl
                have kc := hk.const
                clear hk
                go_simp
                exact ⟨AnyOrder.Grows.refl _, by first | rfl | (simp [AnyOrder.nth]; done) | (simp [AnyOrder.nth]; omega)⟩
              · intro ρ w' hk
                refine AnyOrder.guard_run (hk.at 8 rfl) ?_
                have k37 : ρ (.tmp 37) = .bool true := hk.at 10 rfl
                clear hk
                go_simp
                exact ⟨AnyOrder.Grows.refl _, by first | rfl | (simp [AnyOrder.nth]; done) | (simp [AnyOrder.nth]; omega)⟩
              · intro ρ w' hk
                refine AnyOrder.guard_run (hk.at 11 rfl) ?_
                have k1 : ρ (.tmp 1) = .slice (some ⟨b0, off0, none⟩) L cap := hk.old 1 rfl
                clear hk
                go_simp
                exact ⟨AnyOrder.Grows.refl _, by first | rfl | (simp [AnyOrder.nth]; done) | (simp [AnyOrder.nth]; omega)⟩
              · intro ρ w' hk
                refine AnyOrder.guard_run (hk.at 11 rfl) ?_
                have k5 : ρ (.tmp 5) = .int .i64 (k : Int) := hk.old 5 rfl
                clear hk
                go_simp
                exact ⟨AnyOrder.Grows.refl _, by first | rfl | (simp [AnyOrder.nth]; done) | (simp [AnyOrder.nth]; omega)⟩
              · intro ρ w' hk
                refine AnyOrder.guard_run (hk.at 11 rfl) ?_
                have k40 : ρ (.tmp 40) = .int .i64 (k : Int) := hk.at 13 rfl
                have kc := hk.const
                clear hk
                go_simp
                exact ⟨AnyOrder.Grows.refl _, by first | rfl | (simp [AnyOrder.nth]; done) | (simp [AnyOrder.nth]; omega)⟩
              · intro ρ w' hk
                refine AnyOrder.guard_run (hk.at 11 rfl) ?_
                have k39 : ρ (.tmp 39) = .slice (some ⟨b0, off0, none⟩) L cap := hk.at 12 rfl
                have k41 : ρ (.tmp 41) = .int .i64 (j : Int) := hk.at 14 rfl
                clear hk
                go_simp
                exact ⟨AnyOrder.Grows.refl _, by first | rfl | (simp [AnyOrder.nth]; done) | (simp [AnyOrder.nth]; omega)⟩
              · intro ρ w' hk
                refine AnyOrder.guard_run (hk.at 11 rfl) ?_
                have k42 : ρ (.tmp 42) = .pointer (some ⟨b0, off0 + j * 5, none⟩) := hk.at 15 rfl
                clear hk
                go_simp
                exact ⟨AnyOrder.Grows.refl _, by first | rfl | (simp [AnyOrder.nth]; done) | (simp [AnyOrder.nth]; omega)⟩
              · intro ρ w' hk
                refine AnyOrder.guard_run (hk.at 11 rfl) ?_
                have k43 : ρ (.tmp 43) = .pointer (some ⟨b0, off0 + j * 5, none⟩) := hk.at 16 rfl
                have m0 := AnyOrder.cell_grows hk.world p0
                clear hk
                go_simp
                exact ⟨AnyOrder.Grows.refl _, by first | rfl | (simp [AnyOrder.nth]; done) | (simp [AnyOrder.nth]; omega)⟩
              · intro ρ w' hk
                refine AnyOrder.guard_run (hk.at 11 rfl) ?_
                have k1 : ρ (.tmp 1) = .slice (some ⟨b0, off0, none⟩) L cap := hk.old 1 rfl
                clear hk
                go_simp
                exact ⟨AnyOrder.Grows.refl _, by first | rfl | (simp [AnyOrder.nth]; done) | (simp [AnyOrder.nth]; omega)⟩
              · intro ρ w' hk
                refine AnyOrder.guard_run (hk.at 11 rfl) ?_
                have k5 : ρ (.tmp 5) = .int .i64 (k : Int) := hk.old 5 rfl
                clear hk
                go_simp
                exact ⟨AnyOrder.Grows.refl _, by first | rfl | (simp [AnyOrder.nth]; done) | (simp [AnyOrder.nth]; omega)⟩
              · intro ρ w' hk
                refine AnyOrder.guard_run (hk.at 11 rfl) ?_
                have k45 : ρ (.tmp 45) = .slice (some ⟨b0, off0, none⟩) L cap := hk.at 18 rfl
                have k46 : ρ (.tmp 46) = .int .i64 (k : Int) := hk.at 19 rfl
                clear hk
                go_simp
                exact ⟨AnyOrder.Grows.refl _, by first | rfl | (simp [AnyOrder.nth]; done) | (simp [AnyOrder.nth]; omega)⟩
              · intro ρ w' hk
                refine AnyOrder.guard_run (hk.at 11 rfl) ?_
                have k47 : ρ (.tmp 47) = .pointer (some ⟨b0, off0 + k * 5, none⟩) := hk.at 20 rfl
                clear hk
                go_simp
                exact ⟨AnyOrder.Grows.refl _, by first | rfl | (simp [AnyOrder.nth]; done) | (simp [AnyOrder.nth]; omega)⟩
              · intro ρ w' hk
                refine AnyOrder.guard_run (hk.at 11 rfl) ?_
                have k48 : ρ (.tmp 48) = .pointer (some ⟨b0, off0 + k * 5, none⟩) := hk.at 21 rfl
                have m0 := AnyOrder.cell_grows hk.world c0
                clear hk
                go_simp
                exact ⟨AnyOrder.Grows.refl _, by first | rfl | (simp [AnyOrder.nth]; done) | (simp [AnyOrder.nth]; omega)⟩
              · intro ρ w' hk
                refine AnyOrder.guard_run (hk.at 11 rfl) ?_
                have k44 : ρ (.tmp 44) = .string y.key := hk.at 17 rfl
                have k49 : ρ (.tmp 49) = .string x.key := hk.at 22 rfl
                clear hk
                go_simp
                exact ⟨AnyOrder.Grows.refl _, by first | rfl | (simp [AnyOrder.nth]; done) | (simp [AnyOrder.nth]; omega)⟩
              · intro ρ w' hk
                refine AnyOrder.guard_run (hk.at 8 rfl) ?_
                have k38 : ρ (.tmp 38) = .bool true := hk.at 11 rfl
                have k50 : ρ (.tmp 50) = .bool false := hk.at 23 rfl
                have kc := hk.const
                clear hk
                go_simp
                exact ⟨AnyOrder.Grows.refl _, by first | rfl | (simp [AnyOrder.nth]; done) | (simp [AnyOrder.nth]; omega)⟩
              · intro ρ w' hk
                have k35 : ρ (.tmp 35) = .bool false := hk.at 8 rfl
                have k51 : ρ (.tmp 51) = .bool false := hk.at 24 rfl
                have kc := hk.const
                clear hk
                go_simp
                exact ⟨AnyOrder.Grows.refl _, by first | rfl | (simp [AnyOrder.nth]; done) | (simp [AnyOrder.nth]; omega)⟩
            · intro vs w9 hR9 hv9
              have hG9 := AnyOrder.Grows.of_drew hR9
              have v25 : vs 25 = .bool false := hv9 25 (by decide)
              clear hR9 hv9
              simp only [AnyOrder.fill, Nat.zero_add, Nat.reduceAdd, List.setIfInBounds_toArray, List.set_cons_zero, List.set_cons_succ]
              rw [v25]
              clear v25
              have HB9 := hid (HBR.out.trans (hG9.mono HBR.out.size))
              have HO1 := hid (show okTo false xs (k + 1) = true by rw [okTo_succ, HATT.out, HO.out]; rfl)
              clear hG9 c0 c1 c2 c3 c4 p0 hge' hw
              have hw2 : IntKind.i64.wrap ((k : Int) + 1) = (k : Int) + 1 := IntWalk.i64_in _ (by have := HW9.out; omega)
              go_wp2_with fail
              go_roundw
              case rel => exact ⟨k + 1, hk1, by go_num, HO1.out, HB9.out⟩
              case measure => simp [intOf]; omega
      · have HM := hid (show mayC false x = false by simpa using hm)
        have HAT : okAt false xs k = false := by
          have e : mayC false xs[k] = false := by rw [← HX.out]; exact HM.out
          cases k with
          | zero => rw [okAt_eq hkl rfl]; exact e
          | succ j => rw [okAt_eq' hkl, e, Bool.false_and]
        have HATT := hid HAT
        have HK := hid hkl
        clear HX hm HAT hkl hlt
        refine AnyOrder.wp_region_grows_g [
            fun v _ => v = .int .i64 3,
            fun v _ => v = .bool false,
            fun v _ => v = .slice (some ⟨b0, off0, none⟩) L cap,
            fun v _ => v = .int .i64 (k : Int),
            fun v _ => v = .pointer (some ⟨b0, off0 + k * 5, none⟩),
            fun v _ => v = .agg #[.string x.key, .string x.text, .bool x.long, .int .i64 x.page, .int .i64 x.size],
            fun v _ => v = .bool false,
            fun v _ => v = .bool true,
            fun v _ => v = .bool true,
            fun v _ => v = undef,
            fun v _ => v = undef,
            fun v _ => v = undef,
            fun v _ => v = undef,
            fun v _ => v = undef,
            fun v _ => v = undef,
            fun v _ => v = undef,
            fun v _ => v = undef,
            fun v _ => v = undef,
            fun v _ => v = undef,
            fun v _ => v = undef,
            fun v _ => v = undef,
            fun v _ => v = undef,
            fun v _ => v = undef,
            fun v _ => v = undef,
            fun v _ => v = undef,
            fun v _ => v = .bool true] hmx (by kernel_rfl) ?_ ?_ ?_
        · intro p hp
          simp only [List.mem_cons, List.not_mem_nil, or_false] at hp
          rcases hp with rfl | rfl | rfl | rfl | rfl | rfl | rfl | rfl | rfl | rfl | rfl | rfl | rfl | rfl | rfl | rfl | rfl | rfl | rfl | rfl | rfl | rfl | rfl | rfl | rfl | rfl
          all_goals first
            | exact AnyOrder.stays_const _
        · simp only [AnyOrder.dstsOf, List.map_cons, List.map_nil, AnyOrder.GSteps, Nat.zero_add, Nat.reduceAdd]
          refine ⟨?_, ?_, ?_, ?_, ?_, ?_, ?_, ?_, ?_, ?_, ?_, ?_, ?_, ?_, ?_, ?_, ?_, ?_, ?_, ?_, ?_, ?_, ?_, ?_, ?_, ?_, trivial⟩
          · intro ρ w' hk
            have k0 : ρ (.tmp 0) = .int .i64 3 := hk.old 0 rfl
            clear hk
            go_simp
            exact ⟨AnyOrder.Grows.refl _, by first | rfl | (simp [AnyOrder.nth]; done) | (simp [AnyOrder.nth]; omega)⟩
          · intro ρ w' hk
            have k27 : ρ (.tmp 27) = .int .i64 3 := hk.at 0 rfl
            have kc := hk.const
            clear hk
            go_simp
            exact ⟨AnyOrder.Grows.refl _, by first | rfl | (simp [AnyOrder.nth]; done) | (simp [AnyOrder.nth]; omega)⟩
          · intro ρ w' hk
            have k1 : ρ (.tmp 1) = .slice (some ⟨b0, off0, none⟩) L cap := hk.old 1 rfl
            clear hk
            go_simp
            exact ⟨AnyOrder.Grows.refl _, by first | rfl | (simp [AnyOrder.nth]; done) | (simp [AnyOrder.nth]; omega)⟩
          · intro ρ w' hk
            have k5 : ρ (.tmp 5) = .int .i64 (k : Int) := hk.old 5 rfl
            clear hk
            go_simp
            exact ⟨AnyOrder.Grows.refl _, by first | rfl | (simp [AnyOrder.nth]; done) | (simp [AnyOrder.nth]; omega)⟩
          · intro ρ w' hk
            have k29 : ρ (.tmp 29) = .slice (some ⟨b0, off0, none⟩) L cap := hk.at 2 rfl
            have k30 : ρ (.tmp 30) = .int .i64 (k : Int) := hk.at 3 rfl
            clear hk
            go_simp
            exact ⟨AnyOrder.Grows.refl _, by first | rfl | (simp [AnyOrder.nth]; done) | (simp [AnyOrder.nth]; omega)⟩
          · intro ρ w' hk
            have k31 : ρ (.tmp 31) = .pointer (some ⟨b0, off0 + k * 5, none⟩) := hk.at 4 rfl
            have m0 := AnyOrder.cell_grows hk.world c0
            have m1 := AnyOrder.cell_grows hk.world c1
            have m2 := AnyOrder.cell_grows hk.world c2
            have m3 := AnyOrder.cell_grows hk.world c3
            have m4 := AnyOrder.cell_grows hk.world c4
            clear hk
            go_simp
            exact ⟨AnyOrder.Grows.refl _, by first | rfl | (simp [AnyOrder.nth]; done) | (simp [AnyOrder.nth]; omega)⟩
          · intro ρ w' hk
            have k28 : ρ (.tmp 28) = .bool false := hk.at 1 rfl
            have k32 : ρ (.tmp 32) = .agg #[.string x.key, .string x.text, .bool x.long, .int .i64 x.page, .int .i64 x.size] := hk.at 5 rfl
            have kf := hk.func
            have kw := AnyOrder.Grows.of_drew hk.world
            clear hk
            go_simp
            refine (may_calls false x w').mono ?_
            rintro e w'' ⟨rfl, hb⟩
            exact ⟨_, rfl, hb, by show Value.bool (mayC false x) = _; rw [HM.out]⟩
          · intro ρ w' hk
            have k33 : ρ (.tmp 33) = .bool false := hk.at 6 rfl
            clear hk
            go_simp
            exact ⟨AnyOrder.Grows.refl _, by first | rfl | (simp [AnyOrder.nth]; done) | (simp [AnyOrder.nth]; omega)⟩
          · intro ρ w' hk
            have k34 : ρ (.tmp 34) = .bool true := hk.at 7 rfl
            clear hk
            go_simp
            exact ⟨AnyOrder.Grows.refl _, by first | rfl | (simp [AnyOrder.nth]; done) | (simp [AnyOrder.nth]; omega)⟩
          · intro ρ w' hk
            exact AnyOrder.guard_skip (hk.at 8 rfl) (fun h => by cases h) rfl
          · intro ρ w' hk
            exact AnyOrder.guard_skip (hk.at 8 rfl) (fun h => by cases h) rfl
          · intro ρ w' hk
            exact AnyOrder.guard_skip (hk.at 8 rfl) (fun h => by cases h) rfl
          · intro ρ w' hk
            exact AnyOrder.guard_skip (hk.at 11 rfl) undef_ne rfl
          · intro ρ w' hk
            exact AnyOrder.guard_skip (hk.at 11 rfl) undef_ne rfl
          · intro ρ w' hk
            exact AnyOrder.guard_skip (hk.at 11 rfl) undef_ne rfl
          · intro ρ w' hk
            exact AnyOrder.guard_skip (hk.at 11 rfl) undef_ne rfl
          · intro ρ w' hk
            exact AnyOrder.guard_skip (hk.at 11 rfl) undef_ne rfl
          · intro ρ w' hk
            exact AnyOrder.guard_skip (hk.at 11 rfl) undef_ne rfl
          · intro ρ w' hk
            exact AnyOrder.guard_skip (hk.at 11 rfl) undef_ne rfl
          · intro ρ w' hk
            exact AnyOrder.guard_skip (hk.at 11 rfl) undef_ne rfl
          · intro ρ w' hk
            exact AnyOrder.guard_skip (hk.at 11 rfl) undef_ne rfl
          · intro ρ w' hk
            exact AnyOrder.guard_skip (hk.at 11 rfl) undef_ne rfl
          · intro ρ w' hk
            exact AnyOrder.guard_skip (hk.at 11 rfl) undef_ne rfl
          · intro ρ w' hk
            exact AnyOrder.guard_skip (hk.at 11 rfl) undef_ne rfl
          · intro ρ w' hk
            exact AnyOrder.guard_skip (hk.at 8 rfl) (fun h => by cases h) rfl
          · intro ρ w' hk
            have k35 : ρ (.tmp 35) = .bool true := hk.at 8 rfl
            have k51 : ρ (.tmp 51) = undef := hk.at 24 rfl
            have kc := hk.const
            clear hk
            go_simp
            exact ⟨AnyOrder.Grows.refl _, by first | rfl | (simp [AnyOrder.nth]; done) | (simp [AnyOrder.nth]; omega)⟩
        · intro vs w9 hR9 hv9
          have hG9 := AnyOrder.Grows.of_drew hR9
          have v25 : vs 25 = .bool true := hv9 25 (by decide)
          clear hR9 hv9
          simp only [AnyOrder.fill, Nat.zero_add, Nat.reduceAdd, List.setIfInBounds_toArray, List.set_cons_zero, List.set_cons_succ]
          rw [v25]
          clear v25
          have HB9 := hid (HBR.out.trans (hG9.mono HBR.out.size))
          clear hG9 c0 c1 c2 c3 c4
          go_wp2_with fail
          go_ret
          exact rightEnd_no (okTo_no HK.out HATT.out) HB9.out
    · obtain rfl : k = L := by omega
      have i0 : ¬ ((k : Int) < (k : Int)) := by omega
      clear hx hlt hk
      go_wp2_with fail
      go_ret
      exact rightEnd_ok (by rw [HL.out]; exact HO.out) HBR.out
theorem rightC_2 (xs : List Cl) : rightC 2 xs = okTo true xs xs.length := rfl
theorem rightC_3 (xs : List Cl) (h : xs.length ≠ 0) : rightC 3 xs = okTo false xs xs.length := by
  unfold rightC
  rw [show decide ((3 : Int) = 2) = false from rfl, show decide ((3 : Int) = 3) = true from rfl, decide_eq_true h]
  rfl
theorem rightC_30 : rightC 3 [] = false := rfl
theorem rightC_else {k : Int} (xs : List Cl) (h2 : k ≠ 2) (h3 : k ≠ 3) : rightC k xs = false := by
  unfold rightC
  simp [h2, h3]
theorem right_calls (k : Int) (v : Value) (xs : List Cl) (w : World) (hp : PartC (fun q => q < w.heap.size) w v xs) : Calls Try.prog 37 #[.int .i64 k, v] w fun e w' => e = .returned (.bool (rightC k xs)) ∧ Below w.heap.size w w' := by
  obtain ⟨a, cap, rfl, hx, h1, h2, -⟩ := hp
  by_cases k2 : k = 2
  · subst k2
    rw [rightC_2]
    exact right_calls2 a cap xs w hx ⟨h1, h2⟩
  · by_cases k3 : k = 3
    · subst k3
      by_cases hn : xs.length = 0
      · obtain rfl := List.eq_nil_of_length_eq_zero hn
        rw [rightC_30]
        clear hx hn
        go_enter Try.func37, Try.ntmps37
        go_wp2_with fail
        go_ret
        exact ⟨rfl, Below.refl _ _⟩
      · rw [rightC_3 xs hn]
        exact right_calls3 a cap xs w hx ⟨h1, h2⟩ hn
    · rw [rightC_else xs k2 k3]
      clear hx
      have e2 : (k == 2) = false := by simp [k2]
      have e3 : (k == 3) = false := by simp [k3]
      go_enter Try.func37, Try.ntmps37
      go_wp2_with fail
      go_ret
      exact ⟨rfl, Below.refl _ _⟩
set_option maxRecDepth 100000 in
theorem check_calls (k : Int) (v : Value) (xs : List Cl) (w : World) (hp : PartC (fun q => q < w.heap.size) w v xs) : Calls Try.prog 38 #[.int .i64 k, v] w fun e w' => e = .returned (.int .i64 (if rightC k xs then 0 else 2)) ∧ Below w.heap.size w w' := by
  obtain ⟨a, cap, rfl, hx, h1, h2, -⟩ := hp
  have hb1 : Below w.heap.size w (w.alloc (.map ruleEs 2)) := (Below.refl _ _).alloc (Nat.le_refl _) _
  have HB1 := hid hb1
  clear hb1
  by_cases k2 : k = 2
  · subst k2
    rw [rightC_2]
    exact check_calls2 a cap xs w hx ⟨h1, h2⟩
  · by_cases k3 : k = 3
    · subst k3
      by_cases hn : xs.length = 0
      · obtain rfl := List.eq_nil_of_length_eq_zero hn
        rw [rightC_30]
        clear hx hn
        have hlk := run_look (w.alloc (.map ruleEs 2)) w.heap.size (heap_alloc_new w _) 3
        have e3 : ((3 : Int) = 2) = False := by simp
        simp only [ruleOf, e3, if_false, if_true, ruleF, Option.isSome_some] at hlk
        go_enter Try.func38, Try.ntmps38
        go_wp2_with fail
        refine (rules_calls _).mono ?_
        rintro e w1 ⟨rfl, rfl⟩
        generalize w.alloc (.map ruleEs 2) = w1 at *
        go_wp2_with fail
        go_ret
        exact ⟨rfl, HB1.out⟩
      · rw [rightC_3 xs hn]
        exact check_calls3 a cap xs w hx ⟨h1, h2⟩ hn
    · rw [rightC_else xs k2 k3]
      clear hx
      have hlk := run_look (w.alloc (.map ruleEs 2)) w.heap.size (heap_alloc_new w _) k
      simp only [ruleOf, k2, k3, if_false, Option.isSome_none] at hlk
      go_enter Try.func38, Try.ntmps38
      go_wp2_with fail
      refine (rules_calls _).mono ?_
      rintro e w1 ⟨rfl, rfl⟩
      generalize w.alloc (.map ruleEs 2) = w1 at *
      go_wp2_with fail
      go_ret
      exact ⟨rfl, HB1.out⟩
end Go.Proofs.Ytkpadhjlopcejaa
