/-
  Check's walk (printed by mkcheck.py).
-/
import Derived.Test.YtkpadhjlopcejaaSMap
import Derived.Test.YtkpadhjlopcejaaSGuard
namespace Go.Proofs.Ytkpadhjlopcejaa
open Go.RowKit
theorem undef_ne {b : Bool} : undef ≠ .bool b := fun h => by unfold undef at h; cases h
theorem okTo_no {leaf : Bool} {l : List Cl} {k : Nat} (hk : k < l.length) (h : okAt leaf l k = false) : okTo leaf l l.length = false :=
  okTo_false (n := k + 1) (by rw [okTo_succ, h, Bool.and_false]) (by omega)
def CheckEnd (leaf : Bool) (xs : List Cl) (w : World) (e : Ending) (w' : World) : Prop := e = .returned (.int .i64 (if okTo leaf xs xs.length then 0 else 2)) ∧ Below w.heap.size w w'
theorem checkEnd_no {leaf : Bool} {xs : List Cl} {w w' : World} (h : okTo leaf xs xs.length = false) (hb : Below w.heap.size w w') : CheckEnd leaf xs w (.returned (.int .i64 2)) w' := ⟨by rw [h]; rfl, hb⟩
theorem checkEnd_ok {leaf : Bool} {xs : List Cl} {w w' : World} (h : okTo leaf xs xs.length = true) (hb : Below w.heap.size w w') : CheckEnd leaf xs w (.returned (.int .i64 0)) w' := ⟨by rw [h]; rfl, hb⟩
set_option maxRecDepth 100000 in
set_option maxHeartbeats 8000000 in
theorem check_calls2 (a : Option Addr) (cap : Nat) (xs : List Cl) (w : World) (hx : CellsIn (fun q => q < w.heap.size) w a xs) (hl : xs.length ≤ cap ∧ cap ≤ maxLen) :
    Calls Try.prog 38 #[.int .i64 2, .slice a xs.length cap] w (CheckEnd true xs w) := by
  have hmx : Try.prog.follows .mixedOrders = true := by kernel_rfl
  generalize hL : xs.length = L at *
  have hb1 : Below w.heap.size w (w.alloc (.map ruleEs 2)) := (Below.refl _ _).alloc (Nat.le_refl _) _
  have hlk := run_look (w.alloc (.map ruleEs 2)) w.heap.size (heap_alloc_new w _) 2
  have e3 : ((3 : Int) = 2) = False := by simp
  simp only [ruleOf, if_true, ruleF, Option.isSome_some] at hlk
  clear e3
  have HL := hid hL
  have HLC := hid hl
  clear hL hl
  
  go_enter Try.func38, Try.ntmps38
  go_wp2_with fail
  refine (rules_calls _).mono ?_
  rintro e w1 ⟨rfl, rfl⟩
  have HB1 := hid hb1
  generalize w.alloc (.map ruleEs 2) = w1 at *
  clear hb1
  go_wp2_with fail
  clear hlk
  go_loopw [28] (fun i wr => ∃ k : Nat, k ≤ L ∧ i = .int .i64 (k : Int) ∧ Hid (okTo true xs k = true) ∧ Below w.heap.size w wr) (fun i _ => L - (intOf i).toNat)
  case atStart => exact ⟨0, Nat.zero_le _, rfl, rfl, HB1.out⟩
  case round =>
    obtain ⟨k, hk, rfl, HO, hbr⟩ := hrel
    have HBR := hid hbr
    clear hbr
    by_cases hlt : k < L
    · have hkl : k < xs.length := by rw [HL.out]; exact hlt
      obtain ⟨b0, off0, rfl, ho0, h0, h1, h2, h3, h4⟩ := hx.at hkl
      have d0 := HBR.out.cell (p := ⟨b0, off0 + k * 5, none⟩) ho0
      have d1 := HBR.out.cell (p := ⟨b0, off0 + k * 5 + 1, none⟩) ho0
      have d2 := HBR.out.cell (p := ⟨b0, off0 + k * 5 + 2, none⟩) ho0
      have d3 := HBR.out.cell (p := ⟨b0, off0 + k * 5 + 3, none⟩) ho0
      have d4 := HBR.out.cell (p := ⟨b0, off0 + k * 5 + 4, none⟩) ho0
      rw [h0] at d0
      rw [h1] at d1
      rw [h2] at d2
      rw [h3] at d3
      rw [h4] at d4
      obtain ⟨x, hxe⟩ : ∃ x, x = xs[k] := ⟨_, rfl⟩
      rw [← hxe] at d0 d1 d2 d3 d4
      have HX := hid hxe
      have HH := hid hx
      have i0 : (k : Int) < (L : Int) := by omega
      clear hx h0 h1 h2 h3 h4 hxe
      go_wp2_with fail
      have hbs : Below w.heap.size w (wr.alloc (.cells (rowC x).toArray 81)) := HBR.out.alloc HBR.out.size _
      have hblk := Blk.new wr (rowC x) 81
      simp only [rowC] at hbs hblk
      have hwr : wr.heap.size = wr.heap.size := rfl
      generalize hc : wr.heap.size = C at *
      generalize wr.alloc (.cells [.string x.key, .string x.text, .bool x.long, .int .i64 x.page, .int .i64 x.size].toArray 81) = ws at *
      have c0 := hblk.cell 0
      have c1 := hblk.cell 1
      have c2 := hblk.cell 2
      have c3 := hblk.cell 3
      have c4 := hblk.cell 4
      simp only [List.getElem?_cons_zero, List.getElem?_cons_succ] at c0 c1 c2 c3 c4
      have HBS := hid hbs
      have HC := hid hc
      clear hbs hblk hwr hc d0 d1 d2 d3 d4
      by_cases hm : mayLeaf x = true
      · by_cases hk0 : k = 0
        · have HM := hid hm
          have HAT : okAt true xs k = true := by rw [okAt_eq hkl hk0, ← HX.out]; exact hm
          have hk1 : k + 1 ≤ L := hlt
          subst hk0
          have HK := hid hkl
          clear HX hm hkl hlt
          refine AnyOrder.wp_region_grows_g [
              fun v _ => v = .func (.func 72) #[] #[],
              fun v _ => v = .agg #[.string x.key, .string x.text, .bool x.long, .int .i64 x.page, .int .i64 x.size],
              fun v _ => v = .bool true,
              fun v _ => v = .bool false,
              fun v _ => v = .bool false,
              fun v _ => v = .int .i64 ((0 : Nat) : Int),
              fun v _ => v = .bool false,
              fun v _ => v = .bool false,
              fun v _ => v = undef,
              fun v _ => v = undef,
              fun v _ => v = undef,
              fun v _ => v = undef,
              fun v _ => v = undef,
              fun v _ => v = undef,
              fun v _ => v = undef,
              fun v _ => v = undef,
              fun v _ => v = undef,
              fun v _ => v = .bool false,
              fun v _ => v = .bool false] hmx (by kernel_rfl) ?_ ?_ ?_
          · intro p hp
            simp only [List.mem_cons, List.not_mem_nil, or_false] at hp
            rcases hp with rfl | rfl | rfl | rfl | rfl | rfl | rfl | rfl | rfl | rfl | rfl | rfl | rfl | rfl | rfl | rfl | rfl | rfl | rfl
            all_goals first
              | exact AnyOrder.stays_const _
          · simp only [AnyOrder.dstsOf, List.map_cons, List.map_nil, AnyOrder.GSteps, Nat.zero_add, Nat.reduceAdd]
            refine ⟨?_, ?_, ?_, ?_, ?_, ?_, ?_, ?_, ?_, ?_, ?_, ?_, ?_, ?_, ?_, ?_, ?_, ?_, ?_, trivial⟩
            · intro ρ w' hk
              have k5 : ρ (.tmp 5) = .func (.func 72) #[] #[] := hk.old 5 rfl
              clear hk
              go_simp
              exact ⟨AnyOrder.Grows.refl _, by first | rfl | simp [AnyOrder.nth]⟩
            · intro ρ w' hk
              have k8 : ρ (.tmp 8) = .pointer (some ⟨C, 0, none⟩) := hk.old 8 rfl
              have m0 := AnyOrder.cell_grows hk.world c0
              have m1 := AnyOrder.cell_grows hk.world c1
              have m2 := AnyOrder.cell_grows hk.world c2
              have m3 := AnyOrder.cell_grows hk.world c3
              have m4 := AnyOrder.cell_grows hk.world c4
              clear hk
              go_simp
              exact ⟨AnyOrder.Grows.refl _, by first | rfl | simp [AnyOrder.nth]⟩
            · intro ρ w' hk
              have k33 : ρ (.tmp 33) = .func (.func 72) #[] #[] := hk.at 0 rfl
              have k34 : ρ (.tmp 34) = .agg #[.string x.key, .string x.text, .bool x.long, .int .i64 x.page, .int .i64 x.size] := hk.at 1 rfl
              have kw := AnyOrder.Grows.of_drew hk.world
              clear hk
              go_simp
              refine (leaf_calls x w').mono ?_
              rintro e w'' ⟨rfl, hb⟩
              exact ⟨_, rfl, hb, by show Value.bool (mayLeaf x) = _; rw [HM.out]⟩
            · intro ρ w' hk
              have k35 : ρ (.tmp 35) = .bool true := hk.at 2 rfl
              clear hk
              go_simp
              exact ⟨AnyOrder.Grows.refl _, by first | rfl | simp [AnyOrder.nth]⟩
            · intro ρ w' hk
              have k36 : ρ (.tmp 36) = .bool false := hk.at 3 rfl
              clear hk
              go_simp
              exact ⟨AnyOrder.Grows.refl _, by first | rfl | simp [AnyOrder.nth]⟩
            · intro ρ w' hk
              refine AnyOrder.guard_run (hk.at 4 rfl) ?_
              have k7 : ρ (.tmp 7) = .int .i64 ((0 : Nat) : Int) := hk.old 7 rfl
              clear hk
              go_simp
              exact ⟨AnyOrder.Grows.refl _, by first | rfl | simp [AnyOrder.nth]⟩
            · intro ρ w' hk
              refine AnyOrder.guard_run (hk.at 4 rfl) ?_
              have k38 : ρ (.tmp 38) = .int .i64 ((0 : Nat) : Int) := hk.at 5 rfl
              have kc := hk.const
              clear hk
              go_simp
              exact ⟨AnyOrder.Grows.refl _, by first | rfl | simp [AnyOrder.nth]⟩
            · intro ρ w' hk
              refine AnyOrder.guard_run (hk.at 4 rfl) ?_
              have k39 : ρ (.tmp 39) = .bool false := hk.at 6 rfl
              clear hk
              go_simp
              exact ⟨AnyOrder.Grows.refl _, by first | rfl | simp [AnyOrder.nth]⟩
            · intro ρ w' hk
              exact AnyOrder.guard_skip (hk.at 7 rfl) (fun h => by cases h) rfl
            · intro ρ w' hk
              exact AnyOrder.guard_skip (hk.at 7 rfl) (fun h => by cases h) rfl
            · intro ρ w' hk
              exact AnyOrder.guard_skip (hk.at 7 rfl) (fun h => by cases h) rfl
            · intro ρ w' hk
              exact AnyOrder.guard_skip (hk.at 7 rfl) (fun h => by cases h) rfl
            · intro ρ w' hk
              exact AnyOrder.guard_skip (hk.at 7 rfl) (fun h => by cases h) rfl
            · intro ρ w' hk
              exact AnyOrder.guard_skip (hk.at 7 rfl) (fun h => by cases h) rfl
            · intro ρ w' hk
              exact AnyOrder.guard_skip (hk.at 7 rfl) (fun h => by cases h) rfl
            · intro ρ w' hk
              exact AnyOrder.guard_skip (hk.at 7 rfl) (fun h => by cases h) rfl
            · intro ρ w' hk
              exact AnyOrder.guard_skip (hk.at 7 rfl) (fun h => by cases h) rfl
            · intro ρ w' hk
              refine AnyOrder.guard_run (hk.at 4 rfl) ?_
              have k40 : ρ (.tmp 40) = .bool false := hk.at 7 rfl
              have k49 : ρ (.tmp 49) = undef := hk.at 16 rfl
              have kc := hk.const
              clear hk
              go_simp
              exact ⟨AnyOrder.Grows.refl _, by first | rfl | simp [AnyOrder.nth]⟩
            · intro ρ w' hk
              have k37 : ρ (.tmp 37) = .bool false := hk.at 4 rfl
              have k50 : ρ (.tmp 50) = .bool false := hk.at 17 rfl
              have kc := hk.const
              clear hk
              go_simp
              exact ⟨AnyOrder.Grows.refl _, by first | rfl | simp [AnyOrder.nth]⟩
          · intro vs w9 hR9 hv9
            have hG9 := AnyOrder.Grows.of_drew hR9
            have v18 : vs 18 = .bool false := hv9 18 (by decide)
            clear hR9 hv9
            simp only [AnyOrder.fill, Nat.zero_add, Nat.reduceAdd, List.setIfInBounds_toArray, List.set_cons_zero, List.set_cons_succ]
            rw [v18]
            clear v18
            have HB9 := hid (HBS.out.trans (hG9.mono HBS.out.size))
            have HO1 := hid (show okTo true xs (0 + 1) = true by rw [okTo_succ, HAT, HO.out]; rfl)
            clear hG9 c0 c1 c2 c3 c4 HAT
            go_wp2_with fail
            go_roundw
            case rel => exact ⟨0 + 1, hk1, by go_num, HO1.out, HB9.out⟩
            case measure => simp [intOf]; omega
        · obtain ⟨j, rfl⟩ : ∃ j, k = j + 1 := ⟨k - 1, by omega⟩
          have HM := hid hm
          have hjl : j < xs.length := by omega
          obtain ⟨b9, off9, eb, -, h0, -, -, -, -⟩ := HH.out.at hjl
          cases eb
          have p0 := HBS.out.cell (p := ⟨b0, off0 + j * 5, none⟩) ho0
          rw [h0] at p0
          obtain ⟨y, hye⟩ : ∃ y, y = xs[j] := ⟨_, rfl⟩
          rw [← hye] at p0
          have i2 : (j : Int) < (L : Int) := by omega
          have hw : IntKind.i64.wrap (j : Int) = (j : Int) := IntWalk.i64_in _ (by have := HLC.out; unfold maxLen at this; omega)
          have HAT : okAt true xs (j + 1) = keyLt y.key x.key := by rw [okAt_eq' hkl, hye, HX.out, ← HX.out]; show (mayLeaf x && _) = _; rw [hm, Bool.true_and]
          have HATT := hid HAT
          have HK := hid hkl
          have hk1 : j + 1 + 1 ≤ L := hlt
          have HWL : (L : Int) ≤ 9223372036854775807 := by have := HLC.out; unfold maxLen at this; omega
          have HW9 := hid HWL
          clear HX hm HAT h0 hye hjl hkl hk0 hlt HWL
          cases hge : keyLt y.key x.key
          · have hge' : Op.bytesLess y.key.toList x.key.toList = false := hge
            rw [hge] at HATT
            clear hge
            refine AnyOrder.wp_region_grows_g [
                fun v _ => v = .func (.func 72) #[] #[],
                fun v _ => v = .agg #[.string x.key, .string x.text, .bool x.long, .int .i64 x.page, .int .i64 x.size],
                fun v _ => v = .bool true,
                fun v _ => v = .bool false,
                fun v _ => v = .bool false,
                fun v _ => v = .int .i64 ((j + 1 : Nat) : Int),
                fun v _ => v = .bool true,
                fun v _ => v = .bool true,
                fun v _ => v = .slice (some ⟨b0, off0, none⟩) L cap,
                fun v _ => v = .int .i64 ((j + 1 : Nat) : Int),
                fun v _ => v = .int .i64 (j : Int),
                fun v _ => v = .pointer (some ⟨b0, off0 + j * 5, none⟩),
                fun v _ => v = .pointer (some ⟨b0, off0 + j * 5, none⟩),
                fun v _ => v = .string y.key,
                fun v _ => v = .pointer (some ⟨C, 0, none⟩),
                fun v _ => v = .string x.key,
                fun v _ => v = .bool true,
                fun v _ => v = .bool true,
                fun v _ => v = .bool true] hmx (by kernel_rfl) ?_ ?_ ?_
            · intro p hp
              simp only [List.mem_cons, List.not_mem_nil, or_false] at hp
              rcases hp with rfl | rfl | rfl | rfl | rfl | rfl | rfl | rfl | rfl | rfl | rfl | rfl | rfl | rfl | rfl | rfl | rfl | rfl | rfl
              all_goals first
                | exact AnyOrder.stays_const _
            · simp only [AnyOrder.dstsOf, List.map_cons, List.map_nil, AnyOrder.GSteps, Nat.zero_add, Nat.reduceAdd]
              refine ⟨?_, ?_, ?_, ?_, ?_, ?_, ?_, ?_, ?_, ?_, ?_, ?_, ?_, ?_, ?_, ?_, ?_, ?_, ?_, trivial⟩
              · intro ρ w' hk
                have k5 : ρ (.tmp 5) = .func (.func 72) #[] #[] := hk.old 5 rfl
                clear hk
                go_simp
                exact ⟨AnyOrder.Grows.refl _, by first | rfl | simp [AnyOrder.nth]⟩
              · intro ρ w' hk
                have k8 : ρ (.tmp 8) = .pointer (some ⟨C, 0, none⟩) := hk.old 8 rfl
                have m0 := AnyOrder.cell_grows hk.world c0
                have m1 := AnyOrder.cell_grows hk.world c1
                have m2 := AnyOrder.cell_grows hk.world c2
                have m3 := AnyOrder.cell_grows hk.world c3
                have m4 := AnyOrder.cell_grows hk.world c4
                clear hk
                go_simp
                exact ⟨AnyOrder.Grows.refl _, by first | rfl | simp [AnyOrder.nth]⟩
              · intro ρ w' hk
                have k33 : ρ (.tmp 33) = .func (.func 72) #[] #[] := hk.at 0 rfl
                have k34 : ρ (.tmp 34) = .agg #[.string x.key, .string x.text, .bool x.long, .int .i64 x.page, .int .i64 x.size] := hk.at 1 rfl
                have kw := AnyOrder.Grows.of_drew hk.world
                clear hk
                go_simp
                refine (leaf_calls x w').mono ?_
                rintro e w'' ⟨rfl, hb⟩
                exact ⟨_, rfl, hb, by show Value.bool (mayLeaf x) = _; rw [HM.out]⟩
              · intro ρ w' hk
                have k35 : ρ (.tmp 35) = .bool true := hk.at 2 rfl
                clear hk
                go_simp
                exact ⟨AnyOrder.Grows.refl _, by first | rfl | simp [AnyOrder.nth]⟩
              · intro ρ w' hk
                have k36 : ρ (.tmp 36) = .bool false := hk.at 3 rfl
                clear hk
                go_simp
                exact ⟨AnyOrder.Grows.refl _, by first | rfl | simp [AnyOrder.nth]⟩
              · intro ρ w' hk
                refine AnyOrder.guard_run (hk.at 4 rfl) ?_
                have k7 : ρ (.tmp 7) = .int .i64 ((j + 1 : Nat) : Int) := hk.old 7 rfl
                clear hk
                go_simp
                exact ⟨AnyOrder.Grows.refl _, by first | rfl | simp [AnyOrder.nth]⟩
              · intro ρ w' hk
                refine AnyOrder.guard_run (hk.at 4 rfl) ?_
                have k38 : ρ (.tmp 38) = .int .i64 ((j + 1 : Nat) : Int) := hk.at 5 rfl
                have kc := hk.const
                clear hk
                go_simp
                exact ⟨AnyOrder.Grows.refl _, by first | rfl | simp [AnyOrder.nth]⟩
              · intro ρ w' hk
                refine AnyOrder.guard_run (hk.at 4 rfl) ?_
                have k39 : ρ (.tmp 39) = .bool true := hk.at 6 rfl
                clear hk
                go_simp
                exact ⟨AnyOrder.Grows.refl _, by first | rfl | simp [AnyOrder.nth]⟩
              · intro ρ w' hk
                refine AnyOrder.guard_run (hk.at 7 rfl) ?_
                have k1 : ρ (.tmp 1) = .slice (some ⟨b0, off0, none⟩) L cap := hk.old 1 rfl
                clear hk
                go_simp
                exact ⟨AnyOrder.Grows.refl _, by first | rfl | simp [AnyOrder.nth]⟩
              · intro ρ w' hk
                refine AnyOrder.guard_run (hk.at 7 rfl) ?_
                have k7 : ρ (.tmp 7) = .int .i64 ((j + 1 : Nat) : Int) := hk.old 7 rfl
                clear hk
                go_simp
                exact ⟨AnyOrder.Grows.refl _, by first | rfl | simp [AnyOrder.nth]⟩
              · intro ρ w' hk
                refine AnyOrder.guard_run (hk.at 7 rfl) ?_
                have k42 : ρ (.tmp 42) = .int .i64 ((j + 1 : Nat) : Int) := hk.at 9 rfl
                have kc := hk.const
                clear hk
                go_simp
                exact ⟨AnyOrder.Grows.refl _, by first | rfl | simp [AnyOrder.nth]⟩
              · intro ρ w' hk
                refine AnyOrder.guard_run (hk.at 7 rfl) ?_
                have k41 : ρ (.tmp 41) = .slice (some ⟨b0, off0, none⟩) L cap := hk.at 8 rfl
                have k43 : ρ (.tmp 43) = .int .i64 (j : Int) := hk.at 10 rfl
                clear hk
                go_simp
                exact ⟨AnyOrder.Grows.refl _, by first | rfl | simp [AnyOrder.nth]⟩
              · intro ρ w' hk
                refine AnyOrder.guard_run (hk.at 7 rfl) ?_
                have k44 : ρ (.tmp 44) = .pointer (some ⟨b0, off0 + j * 5, none⟩) := hk.at 11 rfl
                clear hk
                go_simp
                exact ⟨AnyOrder.Grows.refl _, by first | rfl | simp [AnyOrder.nth]⟩
              · intro ρ w' hk
                refine AnyOrder.guard_run (hk.at 7 rfl) ?_
                have k45 : ρ (.tmp 45) = .pointer (some ⟨b0, off0 + j * 5, none⟩) := hk.at 12 rfl
                have m0 := AnyOrder.cell_grows hk.world p0
                clear hk
                go_simp
                exact ⟨AnyOrder.Grows.refl _, by first | rfl | simp [AnyOrder.nth]⟩
              · intro ρ w' hk
                refine AnyOrder.guard_run (hk.at 7 rfl) ?_
                have k8 : ρ (.tmp 8) = .pointer (some ⟨C, 0, none⟩) := hk.old 8 rfl
                clear hk
                go_simp
                exact ⟨AnyOrder.Grows.refl _, by first | rfl | simp [AnyOrder.nth]⟩
              · intro ρ w' hk
                refine AnyOrder.guard_run (hk.at 7 rfl) ?_
                have k47 : ρ (.tmp 47) = .pointer (some ⟨C, 0, none⟩) := hk.at 14 rfl
                have m0 := AnyOrder.cell_grows hk.world c0
                clear hk
                go_simp
                exact ⟨AnyOrder.Grows.refl _, by first | rfl | simp [AnyOrder.nth]⟩
              · intro ρ w' hk
                refine AnyOrder.guard_run (hk.at 7 rfl) ?_
                have k46 : ρ (.tmp 46) = .string y.key := hk.at 13 rfl
                have k48 : ρ (.tmp 48) = .string x.key := hk.at 15 rfl
                clear hk
                go_simp
                exact ⟨AnyOrder.Grows.refl _, by first | rfl | simp [AnyOrder.nth]⟩
              · intro ρ w' hk
                refine AnyOrder.guard_run (hk.at 4 rfl) ?_
                have k40 : ρ (.tmp 40) = .bool true := hk.at 7 rfl
                have k49 : ρ (.tmp 49) = .bool true := hk.at 16 rfl
                have kc := hk.const
                clear hk
                go_simp
                exact ⟨AnyOrder.Grows.refl _, by first | rfl | simp [AnyOrder.nth]⟩
              · intro ρ w' hk
                have k37 : ρ (.tmp 37) = .bool false := hk.at 4 rfl
                have k50 : ρ (.tmp 50) = .bool true := hk.at 17 rfl
                have kc := hk.const
                clear hk
                go_simp
                exact ⟨AnyOrder.Grows.refl _, by first | rfl | simp [AnyOrder.nth]⟩
            · intro vs w9 hR9 hv9
              have hG9 := AnyOrder.Grows.of_drew hR9
              have v18 : vs 18 = .bool true := hv9 18 (by decide)
              clear hR9 hv9
              simp only [AnyOrder.fill, Nat.zero_add, Nat.reduceAdd, List.setIfInBounds_toArray, List.set_cons_zero, List.set_cons_succ]
              rw [v18]
              clear v18
              have HB9 := hid (HBS.out.trans (hG9.mono HBS.out.size))
              clear hG9 c0 c1 c2 c3 c4 p0 hge' hw
              go_wp2_with fail
              go_ret
              exact checkEnd_no (okTo_no HK.out HATT.out) HB9.out
          · have hge' : Op.bytesLess y.key.toList x.key.toList = true := hge
            rw [hge] at HATT
            clear hge
            refine AnyOrder.wp_region_grows_g [
                fun v _ => v = .func (.func 72) #[] #[],
                fun v _ => v = .agg #[.string x.key, .string x.text, .bool x.long, .int .i64 x.page, .int .i64 x.size],
                fun v _ => v = .bool true,
                fun v _ => v = .bool false,
                fun v _ => v = .bool false,
                fun v _ => v = .int .i64 ((j + 1 : Nat) : Int),
                fun v _ => v = .bool true,
                fun v _ => v = .bool true,
                fun v _ => v = .slice (some ⟨b0, off0, none⟩) L cap,
                fun v _ => v = .int .i64 ((j + 1 : Nat) : Int),
                fun v _ => v = .int .i64 (j : Int),
                fun v _ => v = .pointer (some ⟨b0, off0 + j * 5, none⟩),
                fun v _ => v = .pointer (some ⟨b0, off0 + j * 5, none⟩),
                fun v _ => v = .string y.key,
                fun v _ => v = .pointer (some ⟨C, 0, none⟩),
                fun v _ => v = .string x.key,
                fun v _ => v = .bool false,
                fun v _ => v = .bool false,
                fun v _ => v = .bool false] hmx (by kernel_rfl) ?_ ?_ ?_
            · intro p hp
              simp only [List.mem_cons, List.not_mem_nil, or_false] at hp
              rcases hp with rfl | rfl | rfl | rfl | rfl | rfl | rfl | rfl | rfl | rfl | rfl | rfl | rfl | rfl | rfl | rfl | rfl | rfl | rfl
              all_goals first
                | exact AnyOrder.stays_const _
            · simp only [AnyOrder.dstsOf, List.map_cons, List.map_nil, AnyOrder.GSteps, Nat.zero_add, Nat.reduceAdd]
              refine ⟨?_, ?_, ?_, ?_, ?_, ?_, ?_, ?_, ?_, ?_, ?_, ?_, ?_, ?_, ?_, ?_, ?_, ?_, ?_, trivial⟩
              · intro ρ w' hk
                have k5 : ρ (.tmp 5) = .func (.func 72) #[] #[] := hk.old 5 rfl
                clear hk
                go_simp
                exact ⟨AnyOrder.Grows.refl _, by first | rfl | simp [AnyOrder.nth]⟩
              · intro ρ w' hk
                have k8 : ρ (.tmp 8) = .pointer (some ⟨C, 0, none⟩) := hk.old 8 rfl
                have m0 := AnyOrder.cell_grows hk.world c0
                have m1 := AnyOrder.cell_grows hk.world c1
                have m2 := AnyOrder.cell_grows hk.world c2
                have m3 := AnyOrder.cell_grows hk.world c3
                have m4 := AnyOrder.cell_grows hk.world c4
                clear hk
                go_simp
                exact ⟨AnyOrder.Grows.refl _, by first | rfl | simp [AnyOrder.nth]⟩
              · intro ρ w' hk
                have k33 : ρ (.tmp 33) = .func (.func 72) #[] #[] := hk.at 0 rfl
                have k34 : ρ (.tmp 34) = .agg #[.string x.key, .string x.text, .bool x.long, .int .i64 x.page, .int .i64 x.size] := hk.at 1 rfl
                have kw := AnyOrder.Grows.of_drew hk.world
                clear hk
                go_simp
                refine (leaf_calls x w').mono ?_
                rintro e w'' ⟨rfl, hb⟩
                exact ⟨_, rfl, hb, by show Value.bool (mayLeaf x) = _; rw [HM.out]⟩
              · intro ρ w' hk
                have k35 : ρ (.tmp 35) = .bool true := hk.at 2 rfl
                clear hk
                go_simp
                exact ⟨AnyOrder.Grows.refl _, by first | rfl | simp [AnyOrder.nth]⟩
              · intro ρ w' hk
                have k36 : ρ (.tmp 36) = .bool false := hk.at 3 rfl
                clear hk
                go_simp
                exact ⟨AnyOrder.Grows.refl _, by first | rfl | simp [AnyOrder.nth]⟩
              · intro ρ w' hk
                refine AnyOrder.guard_run (hk.at 4 rfl) ?_
                have k7 : ρ (.tmp 7) = .int .i64 ((j + 1 : Nat) : Int) := hk.old 7 rfl
                clear hk
                go_simp
                exact ⟨AnyOrder.Grows.refl _, by first | rfl | simp [AnyOrder.nth]⟩
              · intro ρ w' hk
                refine AnyOrder.guard_run (hk.at 4 rfl) ?_
                have k38 : ρ (.tmp 38) = .int .i64 ((j + 1 : Nat) : Int) := hk.at 5 rfl
                have kc := hk.const
                clear hk
                go_simp
                exact ⟨AnyOrder.Grows.refl _, by first | rfl | simp [AnyOrder.nth]⟩
              · intro ρ w' hk
                refine AnyOrder.guard_run (hk.at 4 rfl) ?_
                have k39 : ρ (.tmp 39) = .bool true := hk.at 6 rfl
                clear hk
                go_simp
                exact ⟨AnyOrder.Grows.refl _, by first | rfl | simp [AnyOrder.nth]⟩
              · intro ρ w' hk
                refine AnyOrder.guard_run (hk.at 7 rfl) ?_
                have k1 : ρ (.tmp 1) = .slice (some ⟨b0, off0, none⟩) L cap := hk.old 1 rfl
                clear hk
                go_simp
                exact ⟨AnyOrder.Grows.refl _, by first | rfl | simp [AnyOrder.nth]⟩
              · intro ρ w' hk
                refine AnyOrder.guard_run (hk.at 7 rfl) ?_
                have k7 : ρ (.tmp 7) = .int .i64 ((j + 1 : Nat) : Int) := hk.old 7 rfl
                clear hk
                go_simp
                exact ⟨AnyOrder.Grows.refl _, by first | rfl | simp [AnyOrder.nth]⟩
              · intro ρ w' hk
                refine AnyOrder.guard_run (hk.at 7 rfl) ?_
                have k42 : ρ (.tmp 42) = .int .i64 ((j + 1 : Nat) : Int) := hk.at 9 rfl
                have kc := hk.const
                clear hk
                go_simp
                exact ⟨AnyOrder.Grows.refl _, by first | rfl | simp [AnyOrder.nth]⟩
              · intro ρ w' hk
                refine AnyOrder.guard_run (hk.at 7 rfl) ?_
                have k41 : ρ (.tmp 41) = .slice (some ⟨b0, off0, none⟩) L cap := hk.at 8 rfl
                have k43 : ρ (.tmp 43) = .int .i64 (j : Int) := hk.at 10 rfl
                clear hk
                go_simp
                exact ⟨AnyOrder.Grows.refl _, by first | rfl | simp [AnyOrder.nth]⟩
              · intro ρ w' hk
                refine AnyOrder.guard_run (hk.at 7 rfl) ?_
                have k44 : ρ (.tmp 44) = .pointer (some ⟨b0, off0 + j * 5, none⟩) := hk.at 11 rfl
                clear hk
                go_simp
                exact ⟨AnyOrder.Grows.refl _, by first | rfl | simp [AnyOrder.nth]⟩
              · intro ρ w' hk
                refine AnyOrder.guard_run (hk.at 7 rfl) ?_
                have k45 : ρ (.tmp 45) = .pointer (some ⟨b0, off0 + j * 5, none⟩) := hk.at 12 rfl
                have m0 := AnyOrder.cell_grows hk.world p0
                clear hk
                go_simp
                exact ⟨AnyOrder.Grows.refl _, by first | rfl | simp [AnyOrder.nth]⟩
              · intro ρ w' hk
                refine AnyOrder.guard_run (hk.at 7 rfl) ?_
                have k8 : ρ (.tmp 8) = .pointer (some ⟨C, 0, none⟩) := hk.old 8 rfl
                clear hk
                go_simp
                exact ⟨AnyOrder.Grows.refl _, by first | rfl | simp [AnyOrder.nth]⟩
              · intro ρ w' hk
                refine AnyOrder.guard_run (hk.at 7 rfl) ?_
                have k47 : ρ (.tmp 47) = .pointer (some ⟨C, 0, none⟩) := hk.at 14 rfl
                have m0 := AnyOrder.cell_grows hk.world c0
                clear hk
                go_simp
                exact ⟨AnyOrder.Grows.refl _, by first | rfl | simp [AnyOrder.nth]⟩
              · intro ρ w' hk
                refine AnyOrder.guard_run (hk.at 7 rfl) ?_
                have k46 : ρ (.tmp 46) = .string y.key := hk.at 13 rfl
                have k48 : ρ (.tmp 48) = .string x.key := hk.at 15 rfl
                clear hk
                go_simp
                exact ⟨AnyOrder.Grows.refl _, by first | rfl | simp [AnyOrder.nth]⟩
              · intro ρ w' hk
                refine AnyOrder.guard_run (hk.at 4 rfl) ?_
                have k40 : ρ (.tmp 40) = .bool true := hk.at 7 rfl
                have k49 : ρ (.tmp 49) = .bool false := hk.at 16 rfl
                have kc := hk.const
                clear hk
                go_simp
                exact ⟨AnyOrder.Grows.refl _, by first | rfl | simp [AnyOrder.nth]⟩
              · intro ρ w' hk
                have k37 : ρ (.tmp 37) = .bool false := hk.at 4 rfl
                have k50 : ρ (.tmp 50) = .bool false := hk.at 17 rfl
                have kc := hk.const
                clear hk
                go_simp
                exact ⟨AnyOrder.Grows.refl _, by first | rfl | simp [AnyOrder.nth]⟩
            · intro vs w9 hR9 hv9
              have hG9 := AnyOrder.Grows.of_drew hR9
              have v18 : vs 18 = .bool false := hv9 18 (by decide)
              clear hR9 hv9
              simp only [AnyOrder.fill, Nat.zero_add, Nat.reduceAdd, List.setIfInBounds_toArray, List.set_cons_zero, List.set_cons_succ]
              rw [v18]
              clear v18
              have HB9 := hid (HBS.out.trans (hG9.mono HBS.out.size))
              have HO1 := hid (show okTo true xs (j + 1 + 1) = true by rw [okTo_succ, HATT.out, HO.out]; rfl)
              clear hG9 c0 c1 c2 c3 c4 p0 hge' hw
              have hw2 : IntKind.i64.wrap ((j : Int) + 1 + 1) = (j : Int) + 1 + 1 := IntWalk.i64_in _ (by have := HW9.out; omega)
              go_wp2_with fail
              go_roundw
              case rel => exact ⟨j + 1 + 1, hk1, by go_num, HO1.out, HB9.out⟩
              case measure => simp [intOf]; omega
      · have HM := hid (show mayLeaf x = false by simpa using hm)
        have HAT : okAt true xs k = false := by
          have e : mayC true xs[k] = false := by rw [← HX.out]; exact HM.out
          cases k with
          | zero => rw [okAt_eq hkl rfl]; exact e
          | succ j => rw [okAt_eq' hkl, e, Bool.false_and]
        have HATT := hid HAT
        have HK := hid hkl
        clear HX hm HAT hkl hlt
        refine AnyOrder.wp_region_grows_g [
            fun v _ => v = .func (.func 72) #[] #[],
            fun v _ => v = .agg #[.string x.key, .string x.text, .bool x.long, .int .i64 x.page, .int .i64 x.size],
            fun v _ => v = .bool false,
            fun v _ => v = .bool true,
            fun v _ => v = .bool true,
            fun v _ => v = undef,
            fun v _ => v = undef,
            fun v _ => v = undef,
            fun v _ => v = undef,
            fun v _ => v = undef,
            fun v _ => v = undef,
            fun v _ => v = undef,
            fun v _ => v = undef,
            fun v _ => v = undef,
            fun v _ => v = undef,
            fun v _ => v = undef,
            fun v _ => v = undef,
            fun v _ => v = undef,
            fun v _ => v = .bool true] hmx (by kernel_rfl) ?_ ?_ ?_
        · intro p hp
          simp only [List.mem_cons, List.not_mem_nil, or_false] at hp
          rcases hp with rfl | rfl | rfl | rfl | rfl | rfl | rfl | rfl | rfl | rfl | rfl | rfl | rfl | rfl | rfl | rfl | rfl | rfl | rfl
          all_goals first
            | exact AnyOrder.stays_const _
        · simp only [AnyOrder.dstsOf, List.map_cons, List.map_nil, AnyOrder.GSteps, Nat.zero_add, Nat.reduceAdd]
          refine ⟨?_, ?_, ?_, ?_, ?_, ?_, ?_, ?_, ?_, ?_, ?_, ?_, ?_, ?_, ?_, ?_, ?_, ?_, ?_, trivial⟩
          · intro ρ w' hk
            have k5 : ρ (.tmp 5) = .func (.func 72) #[] #[] := hk.old 5 rfl
            clear hk
            go_simp
            exact ⟨AnyOrder.Grows.refl _, by first | rfl | simp [AnyOrder.nth]⟩
          · intro ρ w' hk
            have k8 : ρ (.tmp 8) = .pointer (some ⟨C, 0, none⟩) := hk.old 8 rfl
            have m0 := AnyOrder.cell_grows hk.world c0
            have m1 := AnyOrder.cell_grows hk.world c1
            have m2 := AnyOrder.cell_grows hk.world c2
            have m3 := AnyOrder.cell_grows hk.world c3
            have m4 := AnyOrder.cell_grows hk.world c4
            clear hk
            go_simp
            exact ⟨AnyOrder.Grows.refl _, by first | rfl | simp [AnyOrder.nth]⟩
          · intro ρ w' hk
            have k33 : ρ (.tmp 33) = .func (.func 72) #[] #[] := hk.at 0 rfl
            have k34 : ρ (.tmp 34) = .agg #[.string x.key, .string x.text, .bool x.long, .int .i64 x.page, .int .i64 x.size] := hk.at 1 rfl
            have kw := AnyOrder.Grows.of_drew hk.world
            clear hk
            go_simp
            refine (leaf_calls x w').mono ?_
            rintro e w'' ⟨rfl, hb⟩
            exact ⟨_, rfl, hb, by show Value.bool (mayLeaf x) = _; rw [HM.out]⟩
          · intro ρ w' hk
            have k35 : ρ (.tmp 35) = .bool false := hk.at 2 rfl
            clear hk
            go_simp
            exact ⟨AnyOrder.Grows.refl _, by first | rfl | simp [AnyOrder.nth]⟩
          · intro ρ w' hk
            have k36 : ρ (.tmp 36) = .bool true := hk.at 3 rfl
            clear hk
            go_simp
            exact ⟨AnyOrder.Grows.refl _, by first | rfl | simp [AnyOrder.nth]⟩
          · intro ρ w' hk
            exact AnyOrder.guard_skip (hk.at 4 rfl) (fun h => by cases h) rfl
          · intro ρ w' hk
            exact AnyOrder.guard_skip (hk.at 4 rfl) (fun h => by cases h) rfl
          · intro ρ w' hk
            exact AnyOrder.guard_skip (hk.at 4 rfl) (fun h => by cases h) rfl
          · intro ρ w' hk
            exact AnyOrder.guard_skip (hk.at 7 rfl) undef_ne rfl
          · intro ρ w' hk
            exact AnyOrder.guard_skip (hk.at 7 rfl) undef_ne rfl
          · intro ρ w' hk
            exact AnyOrder.guard_skip (hk.at 7 rfl) undef_ne rfl
          · intro ρ w' hk
            exact AnyOrder.guard_skip (hk.at 7 rfl) undef_ne rfl
          · intro ρ w' hk
            exact AnyOrder.guard_skip (hk.at 7 rfl) undef_ne rfl
          · intro ρ w' hk
            exact AnyOrder.guard_skip (hk.at 7 rfl) undef_ne rfl
          · intro ρ w' hk
            exact AnyOrder.guard_skip (hk.at 7 rfl) undef_ne rfl
          · intro ρ w' hk
            exact AnyOrder.guard_skip (hk.at 7 rfl) undef_ne rfl
          · intro ρ w' hk
            exact AnyOrder.guard_skip (hk.at 7 rfl) undef_ne rfl
          · intro ρ w' hk
            exact AnyOrder.guard_skip (hk.at 4 rfl) (fun h => by cases h) rfl
          · intro ρ w' hk
            have k37 : ρ (.tmp 37) = .bool true := hk.at 4 rfl
            have k50 : ρ (.tmp 50) = undef := hk.at 17 rfl
            have kc := hk.const
            clear hk
            go_simp
            exact ⟨AnyOrder.Grows.refl _, by first | rfl | simp [AnyOrder.nth]⟩
        · intro vs w9 hR9 hv9
          have hG9 := AnyOrder.Grows.of_drew hR9
          have v18 : vs 18 = .bool true := hv9 18 (by decide)
          clear hR9 hv9
          simp only [AnyOrder.fill, Nat.zero_add, Nat.reduceAdd, List.setIfInBounds_toArray, List.set_cons_zero, List.set_cons_succ]
          rw [v18]
          clear v18
          have HB9 := hid (HBS.out.trans (hG9.mono HBS.out.size))
          clear hG9 c0 c1 c2 c3 c4
          go_wp2_with fail
          go_ret
          exact checkEnd_no (okTo_no HK.out HATT.out) HB9.out
    · obtain rfl : k = L := by omega
      have i0 : ¬ ((k : Int) < (k : Int)) := by omega
      clear hx hlt hk
      go_wp2_with fail
      go_ret
      exact checkEnd_ok (by rw [HL.out]; exact HO.out) HBR.out
set_option maxRecDepth 100000 in
set_option maxHeartbeats 8000000 in
theorem check_calls3 (a : Option Addr) (cap : Nat) (xs : List Cl) (w : World) (hx : CellsIn (fun q => q < w.heap.size) w a xs) (hl : xs.length ≤ cap ∧ cap ≤ maxLen) (h0 : xs.length ≠ 0) :
    Calls Try.prog 38 #[.int .i64 3, .slice a xs.length cap] w (CheckEnd false xs w) := by
  have hmx : Try.prog.follows .mixedOrders = true := by kernel_rfl
  generalize hL : xs.length = L at *
  have hb1 : Below w.heap.size w (w.alloc (.map ruleEs 2)) := (Below.refl _ _).alloc (Nat.le_refl _) _
  have hlk := run_look (w.alloc (.map ruleEs 2)) w.heap.size (heap_alloc_new w _) 3
  have e3 : ((3 : Int) = 2) = False := by simp
  simp only [ruleOf, e3, if_false, if_true, ruleF, Option.isSome_some] at hlk
  clear e3
  have HL := hid hL
  have HLC := hid hl
  clear hL hl
  have i00 : ((L : Int) == 0) = false := by simp; omega
  go_enter Try.func38, Try.ntmps38
  go_wp2_with fail
  refine (rules_calls _).mono ?_
  rintro e w1 ⟨rfl, rfl⟩
  have HB1 := hid hb1
  generalize w.alloc (.map ruleEs 2) = w1 at *
  clear hb1
  go_wp2_with fail
  clear hlk
  go_loopw [28] (fun i wr => ∃ k : Nat, k ≤ L ∧ i = .int .i64 (k : Int) ∧ Hid (okTo false xs k = true) ∧ Below w.heap.size w wr) (fun i _ => L - (intOf i).toNat)
  case atStart => exact ⟨0, Nat.zero_le _, rfl, rfl, HB1.out⟩
  case round =>
    obtain ⟨k, hk, rfl, HO, hbr⟩ := hrel
    have HBR := hid hbr
    clear hbr
    by_cases hlt : k < L
    · have hkl : k < xs.length := by rw [HL.out]; exact hlt
      obtain ⟨b0, off0, rfl, ho0, h0, h1, h2, h3, h4⟩ := hx.at hkl
      have d0 := HBR.out.cell (p := ⟨b0, off0 + k * 5, none⟩) ho0
      have d1 := HBR.out.cell (p := ⟨b0, off0 + k * 5 + 1, none⟩) ho0
      have d2 := HBR.out.cell (p := ⟨b0, off0 + k * 5 + 2, none⟩) ho0
      have d3 := HBR.out.cell (p := ⟨b0, off0 + k * 5 + 3, none⟩) ho0
      have d4 := HBR.out.cell (p := ⟨b0, off0 + k * 5 + 4, none⟩) ho0
      rw [h0] at d0
      rw [h1] at d1
      rw [h2] at d2
      rw [h3] at d3
      rw [h4] at d4
      obtain ⟨x, hxe⟩ : ∃ x, x = xs[k] := ⟨_, rfl⟩
      rw [← hxe] at d0 d1 d2 d3 d4
      have HX := hid hxe
      have HH := hid hx
      have i0 : (k : Int) < (L : Int) := by omega
      clear hx h0 h1 h2 h3 h4 hxe
      go_wp2_with fail
      have hbs : Below w.heap.size w (wr.alloc (.cells (rowC x).toArray 81)) := HBR.out.alloc HBR.out.size _
      have hblk := Blk.new wr (rowC x) 81
      simp only [rowC] at hbs hblk
      have hwr : wr.heap.size = wr.heap.size := rfl
      generalize hc : wr.heap.size = C at *
      generalize wr.alloc (.cells [.string x.key, .string x.text, .bool x.long, .int .i64 x.page, .int .i64 x.size].toArray 81) = ws at *
      have c0 := hblk.cell 0
      have c1 := hblk.cell 1
      have c2 := hblk.cell 2
      have c3 := hblk.cell 3
      have c4 := hblk.cell 4
      simp only [List.getElem?_cons_zero, List.getElem?_cons_succ] at c0 c1 c2 c3 c4
      have HBS := hid hbs
      have HC := hid hc
      clear hbs hblk hwr hc d0 d1 d2 d3 d4
      by_cases hm : mayBranch x = true
      · by_cases hk0 : k = 0
        · have HM := hid hm
          have HAT : okAt false xs k = true := by rw [okAt_eq hkl hk0, ← HX.out]; exact hm
          have hk1 : k + 1 ≤ L := hlt
          subst hk0
          have HK := hid hkl
          clear HX hm hkl hlt
          refine AnyOrder.wp_region_grows_g [
              fun v _ => v = .func (.func 74) #[] #[],
              fun v _ => v = .agg #[.string x.key, .string x.text, .bool x.long, .int .i64 x.page, .int .i64 x.size],
              fun v _ => v = .bool true,
              fun v _ => v = .bool false,
              fun v _ => v = .bool false,
              fun v _ => v = .int .i64 ((0 : Nat) : Int),
              fun v _ => v = .bool false,
              fun v _ => v = .bool false,
              fun v _ => v = undef,
              fun v _ => v = undef,
              fun v _ => v = undef,
              fun v _ => v = undef,
              fun v _ => v = undef,
              fun v _ => v = undef,
              fun v _ => v = undef,
              fun v _ => v = undef,
              fun v _ => v = undef,
              fun v _ => v = .bool false,
              fun v _ => v = .bool false] hmx (by kernel_rfl) ?_ ?_ ?_
          · intro p hp
            simp only [List.mem_cons, List.not_mem_nil, or_false] at hp
            rcases hp with rfl | rfl | rfl | rfl | rfl | rfl | rfl | rfl | rfl | rfl | rfl | rfl | rfl | rfl | rfl | rfl | rfl | rfl | rfl
            all_goals first
              | exact AnyOrder.stays_const _
          · simp only [AnyOrder.dstsOf, List.map_cons, List.map_nil, AnyOrder.GSteps, Nat.zero_add, Nat.reduceAdd]
            refine ⟨?_, ?_, ?_, ?_, ?_, ?_, ?_, ?_, ?_, ?_, ?_, ?_, ?_, ?_, ?_, ?_, ?_, ?_, ?_, trivial⟩
            · intro ρ w' hk
              have k5 : ρ (.tmp 5) = .func (.func 74) #[] #[] := hk.old 5 rfl
              clear hk
              go_simp
              exact ⟨AnyOrder.Grows.refl _, by first | rfl | simp [AnyOrder.nth]⟩
            · intro ρ w' hk
              have k8 : ρ (.tmp 8) = .pointer (some ⟨C, 0, none⟩) := hk.old 8 rfl
              have m0 := AnyOrder.cell_grows hk.world c0
              have m1 := AnyOrder.cell_grows hk.world c1
              have m2 := AnyOrder.cell_grows hk.world c2
              have m3 := AnyOrder.cell_grows hk.world c3
              have m4 := AnyOrder.cell_grows hk.world c4
              clear hk
              go_simp
              exact ⟨AnyOrder.Grows.refl _, by first | rfl | simp [AnyOrder.nth]⟩
            · intro ρ w' hk
              have k33 : ρ (.tmp 33) = .func (.func 74) #[] #[] := hk.at 0 rfl
              have k34 : ρ (.tmp 34) = .agg #[.string x.key, .string x.text, .bool x.long, .int .i64 x.page, .int .i64 x.size] := hk.at 1 rfl
              have kw := AnyOrder.Grows.of_drew hk.world
              clear hk
              go_simp
              refine (branch_calls x w').mono ?_
              rintro e w'' ⟨rfl, hb⟩
              exact ⟨_, rfl, hb, by show Value.bool (mayBranch x) = _; rw [HM.out]⟩
            · intro ρ w' hk
              have k35 : ρ (.tmp 35) = .bool true := hk.at 2 rfl
              clear hk
              go_simp
              exact ⟨AnyOrder.Grows.refl _, by first | rfl | simp [AnyOrder.nth]⟩
            · intro ρ w' hk
              have k36 : ρ (.tmp 36) = .bool false := hk.at 3 rfl
              clear hk
              go_simp
              exact ⟨AnyOrder.Grows.refl _, by first | rfl | simp [AnyOrder.nth]⟩
            · intro ρ w' hk
              refine AnyOrder.guard_run (hk.at 4 rfl) ?_
              have k7 : ρ (.tmp 7) = .int .i64 ((0 : Nat) : Int) := hk.old 7 rfl
              clear hk
              go_simp
              exact ⟨AnyOrder.Grows.refl _, by first | rfl | simp [AnyOrder.nth]⟩
            · intro ρ w' hk
              refine AnyOrder.guard_run (hk.at 4 rfl) ?_
              have k38 : ρ (.tmp 38) = .int .i64 ((0 : Nat) : Int) := hk.at 5 rfl
              have kc := hk.const
              clear hk
              go_simp
              exact ⟨AnyOrder.Grows.refl _, by first | rfl | simp [AnyOrder.nth]⟩
            · intro ρ w' hk
              refine AnyOrder.guard_run (hk.at 4 rfl) ?_
              have k39 : ρ (.tmp 39) = .bool false := hk.at 6 rfl
              clear hk
              go_simp
              exact ⟨AnyOrder.Grows.refl _, by first | rfl | simp [AnyOrder.nth]⟩
            · intro ρ w' hk
              exact AnyOrder.guard_skip (hk.at 7 rfl) (fun h => by cases h) rfl
            · intro ρ w' hk
              exact AnyOrder.guard_skip (hk.at 7 rfl) (fun h => by cases h) rfl
            · intro ρ w' hk
              exact AnyOrder.guard_skip (hk.at 7 rfl) (fun h => by cases h) rfl
            · intro ρ w' hk
              exact AnyOrder.guard_skip (hk.at 7 rfl) (fun h => by cases h) rfl
            · intro ρ w' hk
              exact AnyOrder.guard_skip (hk.at 7 rfl) (fun h => by cases h) rfl
            · intro ρ w' hk
              exact AnyOrder.guard_skip (hk.at 7 rfl) (fun h => by cases h) rfl
            · intro ρ w' hk
              exact AnyOrder.guard_skip (hk.at 7 rfl) (fun h => by cases h) rfl
            · intro ρ w' hk
              exact AnyOrder.guard_skip (hk.at 7 rfl) (fun h => by cases h) rfl
            · intro ρ w' hk
              exact AnyOrder.guard_skip (hk.at 7 rfl) (fun h => by cases h) rfl
            · intro ρ w' hk
              refine AnyOrder.guard_run (hk.at 4 rfl) ?_
              have k40 : ρ (.tmp 40) = .bool false := hk.at 7 rfl
              have k49 : ρ (.tmp 49) = undef := hk.at 16 rfl
              have kc := hk.const
              clear hk
              go_simp
              exact ⟨AnyOrder.Grows.refl _, by first | rfl | simp [AnyOrder.nth]⟩
            · intro ρ w' hk
              have k37 : ρ (.tmp 37) = .bool false := hk.at 4 rfl
              have k50 : ρ (.tmp 50) = .bool false := hk.at 17 rfl
              have kc := hk.const
              clear hk
              go_simp
              exact ⟨AnyOrder.Grows.refl _, by first | rfl | simp [AnyOrder.nth]⟩
          · intro vs w9 hR9 hv9
            have hG9 := AnyOrder.Grows.of_drew hR9
            have v18 : vs 18 = .bool false := hv9 18 (by decide)
            clear hR9 hv9
            simp only [AnyOrder.fill, Nat.zero_add, Nat.reduceAdd, List.setIfInBounds_toArray, List.set_cons_zero, List.set_cons_succ]
            rw [v18]
            clear v18
            have HB9 := hid (HBS.out.trans (hG9.mono HBS.out.size))
            have HO1 := hid (show okTo false xs (0 + 1) = true by rw [okTo_succ, HAT, HO.out]; rfl)
            clear hG9 c0 c1 c2 c3 c4 HAT
            go_wp2_with fail
            go_roundw
            case rel => exact ⟨0 + 1, hk1, by go_num, HO1.out, HB9.out⟩
            case measure => simp [intOf]; omega
        · obtain ⟨j, rfl⟩ : ∃ j, k = j + 1 := ⟨k - 1, by omega⟩
          have HM := hid hm
          have hjl : j < xs.length := by omega
          obtain ⟨b9, off9, eb, -, h0, -, -, -, -⟩ := HH.out.at hjl
          cases eb
          have p0 := HBS.out.cell (p := ⟨b0, off0 + j * 5, none⟩) ho0
          rw [h0] at p0
          obtain ⟨y, hye⟩ : ∃ y, y = xs[j] := ⟨_, rfl⟩
          rw [← hye] at p0
          have i2 : (j : Int) < (L : Int) := by omega
          have hw : IntKind.i64.wrap (j : Int) = (j : Int) := IntWalk.i64_in _ (by have := HLC.out; unfold maxLen at this; omega)
          have HAT : okAt false xs (j + 1) = keyLt y.key x.key := by rw [okAt_eq' hkl, hye, HX.out, ← HX.out]; show (mayBranch x && _) = _; rw [hm, Bool.true_and]
          have HATT := hid HAT
          have HK := hid hkl
          have hk1 : j + 1 + 1 ≤ L := hlt
          have HWL : (L : Int) ≤ 9223372036854775807 := by have := HLC.out; unfold maxLen at this; omega
          have HW9 := hid HWL
          clear HX hm HAT h0 hye hjl hkl hk0 hlt HWL
          cases hge : keyLt y.key x.key
          · have hge' : Op.bytesLess y.key.toList x.key.toList = false := hge
            rw [hge] at HATT
            clear hge
            refine AnyOrder.wp_region_grows_g [
                fun v _ => v = .func (.func 74) #[] #[],
                fun v _ => v = .agg #[.string x.key, .string x.text, .bool x.long, .int .i64 x.page, .int .i64 x.size],
                fun v _ => v = .bool true,
                fun v _ => v = .bool false,
                fun v _ => v = .bool false,
                fun v _ => v = .int .i64 ((j + 1 : Nat) : Int),
                fun v _ => v = .bool true,
                fun v _ => v = .bool true,
                fun v _ => v = .slice (some ⟨b0, off0, none⟩) L cap,
                fun v _ => v = .int .i64 ((j + 1 : Nat) : Int),
                fun v _ => v = .int .i64 (j : Int),
                fun v _ => v = .pointer (some ⟨b0, off0 + j * 5, none⟩),
                fun v _ => v = .pointer (some ⟨b0, off0 + j * 5, none⟩),
                fun v _ => v = .string y.key,
                fun v _ => v = .pointer (some ⟨C, 0, none⟩),
                fun v _ => v = .string x.key,
                fun v _ => v = .bool true,
                fun v _ => v = .bool true,
                fun v _ => v = .bool true] hmx (by kernel_rfl) ?_ ?_ ?_
            · intro p hp
              simp only [List.mem_cons, List.not_mem_nil, or_false] at hp
              rcases hp with rfl | rfl | rfl | rfl | rfl | rfl | rfl | rfl | rfl | rfl | rfl | rfl | rfl | rfl | rfl | rfl | rfl | rfl | rfl
              all_goals first
                | exact AnyOrder.stays_const _
            · simp only [AnyOrder.dstsOf, List.map_cons, List.map_nil, AnyOrder.GSteps, Nat.zero_add, Nat.reduceAdd]
              refine ⟨?_, ?_, ?_, ?_, ?_, ?_, ?_, ?_, ?_, ?_, ?_, ?_, ?_, ?_, ?_, ?_, ?_, ?_, ?_, trivial⟩
              · intro ρ w' hk
                have k5 : ρ (.tmp 5) = .func (.func 74) #[] #[] := hk.old 5 rfl
                clear hk
                go_simp
                exact ⟨AnyOrder.Grows.refl _, by first | rfl | simp [AnyOrder.nth]⟩
              · intro ρ w' hk
                have k8 : ρ (.tmp 8) = .pointer (some ⟨C, 0, none⟩) := hk.old 8 rfl
                have m0 := AnyOrder.cell_grows hk.world c0
                have m1 := AnyOrder.cell_grows hk.world c1
                have m2 := AnyOrder.cell_grows hk.world c2
                have m3 := AnyOrder.cell_grows hk.world c3
                have m4 := AnyOrder.cell_grows hk.world c4
                clear hk
                go_simp
                exact ⟨AnyOrder.Grows.refl _, by first | rfl | simp [AnyOrder.nth]⟩
              · intro ρ w' hk
                have k33 : ρ (.tmp 33) = .func (.func 74) #[] #[] := hk.at 0 rfl
                have k34 : ρ (.tmp 34) = .agg #[.string x.key, .string x.text, .bool x.long, .int .i64 x.page, .int .i64 x.size] := hk.at 1 rfl
                have kw := AnyOrder.Grows.of_drew hk.world
                clear hk
                go_simp
                refine (branch_calls x w').mono ?_
                rintro e w'' ⟨rfl, hb⟩
                exact ⟨_, rfl, hb, by show Value.bool (mayBranch x) = _; rw [HM.out]⟩
              · intro ρ w' hk
                have k35 : ρ (.tmp 35) = .bool true := hk.at 2 rfl
                clear hk
                go_simp
                exact ⟨AnyOrder.Grows.refl _, by first | rfl | simp [AnyOrder.nth]⟩
              · intro ρ w' hk
                have k36 : ρ (.tmp 36) = .bool false := hk.at 3 rfl
                clear hk
                go_simp
                exact ⟨AnyOrder.Grows.refl _, by first | rfl | simp [AnyOrder.nth]⟩
              · intro ρ w' hk
                refine AnyOrder.guard_run (hk.at 4 rfl) ?_
                have k7 : ρ (.tmp 7) = .int .i64 ((j + 1 : Nat) : Int) := hk.old 7 rfl
                clear hk
                go_simp
                exact ⟨AnyOrder.Grows.refl _, by first | rfl | simp [AnyOrder.nth]⟩
              · intro ρ w' hk
                refine AnyOrder.guard_run (hk.at 4 rfl) ?_
                have k38 : ρ (.tmp 38) = .int .i64 ((j + 1 : Nat) : Int) := hk.at 5 rfl
                have kc := hk.const
                clear hk
                go_simp
                exact ⟨AnyOrder.Grows.refl _, by first | rfl | simp [AnyOrder.nth]⟩
              · intro ρ w' hk
                refine AnyOrder.guard_run (hk.at 4 rfl) ?_
                have k39 : ρ (.tmp 39) = .bool true := hk.at 6 rfl
                clear hk
                go_simp
                exact ⟨AnyOrder.Grows.refl _, by first | rfl | simp [AnyOrder.nth]⟩
              · intro ρ w' hk
                refine AnyOrder.guard_run (hk.at 7 rfl) ?_
                have k1 : ρ (.tmp 1) = .slice (some ⟨b0, off0, none⟩) L cap := hk.old 1 rfl
                clear hk
                go_simp
                exact ⟨AnyOrder.Grows.refl _, by first | rfl | simp [AnyOrder.nth]⟩
              · intro ρ w' hk
                refine AnyOrder.guard_run (hk.at 7 rfl) ?_
                have k7 : ρ (.tmp 7) = .int .i64 ((j + 1 : Nat) : Int) := hk.old 7 rfl
                clear hk
                go_simp
                exact ⟨AnyOrder.Grows.refl _, by first | rfl | simp [AnyOrder.nth]⟩
              · intro ρ w' hk
                refine AnyOrder.guard_run (hk.at 7 rfl) ?_
                have k42 : ρ (.tmp 42) = .int .i64 ((j + 1 : Nat) : Int) := hk.at 9 rfl
                have kc := hk.const
                clear hk
                go_simp
                exact ⟨AnyOrder.Grows.refl _, by first | rfl | simp [AnyOrder.nth]⟩
              · intro ρ w' hk
                refine AnyOrder.guard_run (hk.at 7 rfl) ?_
                have k41 : ρ (.tmp 41) = .slice (some ⟨b0, off0, none⟩) L cap := hk.at 8 rfl
                have k43 : ρ (.tmp 43) = .int .i64 (j : Int) := hk.at 10 rfl
                clear hk
                go_simp
                exact ⟨AnyOrder.Grows.refl _, by first | rfl | simp [AnyOrder.nth]⟩
              · intro ρ w' hk
                refine AnyOrder.guard_run (hk.at 7 rfl) ?_
                have k44 : ρ (.tmp 44) = .pointer (some ⟨b0, off0 + j * 5, none⟩) := hk.at 11 rfl
                clear hk
                go_simp
                exact ⟨AnyOrder.Grows.refl _, by first | rfl | simp [AnyOrder.nth]⟩
              · intro ρ w' hk
                refine AnyOrder.guard_run (hk.at 7 rfl) ?_
                have k45 : ρ (.tmp 45) = .pointer (some ⟨b0, off0 + j * 5, none⟩) := hk.at 12 rfl
                have m0 := AnyOrder.cell_grows hk.world p0
                clear hk
                go_simp
                exact ⟨AnyOrder.Grows.refl _, by first | rfl | simp [AnyOrder.nth]⟩
              · intro ρ w' hk
                refine AnyOrder.guard_run (hk.at 7 rfl) ?_
                have k8 : ρ (.tmp 8) = .pointer (some ⟨C, 0, none⟩) := hk.old 8 rfl
                clear hk
                go_simp
                exact ⟨AnyOrder.Grows.refl _, by first | rfl | simp [AnyOrder.nth]⟩
              · intro ρ w' hk
                refine AnyOrder.guard_run (hk.at 7 rfl) ?_
                have k47 : ρ (.tmp 47) = .pointer (some ⟨C, 0, none⟩) := hk.at 14 rfl
                have m0 := AnyOrder.cell_grows hk.world c0
                clear hk
                go_simp
                exact ⟨AnyOrder.Grows.refl _, by first | rfl | simp [AnyOrder.nth]⟩
              · intro ρ w' hk
                refine AnyOrder.guard_run (hk.at 7 rfl) ?_
                have k46 : ρ (.tmp 46) = .string y.key := hk.at 13 rfl
                have k48 : ρ (.tmp 48) = .string x.key := hk.at 15 rfl
                clear hk
                go_simp
                exact ⟨AnyOrder.Grows.refl _, by first | rfl | simp [AnyOrder.nth]⟩
              · intro ρ w' hk
                refine AnyOrder.guard_run (hk.at 4 rfl) ?_
                have k40 : ρ (.tmp 40) = .bool true := hk.at 7 rfl
                have k49 : ρ (.tmp 49) = .bool true := hk.at 16 rfl
                have kc := hk.const
                clear hk
                go_simp
                exact ⟨AnyOrder.Grows.refl _, by first | rfl | simp [AnyOrder.nth]⟩
              · intro ρ w' hk
                have k37 : ρ (.tmp 37) = .bool false := hk.at 4 rfl
                have k50 : ρ (.tmp 50) = .bool true := hk.at 17 rfl
                have kc := hk.const
                clear hk
                go_simp
                exact ⟨AnyOrder.Grows.refl _, by first | rfl | simp [AnyOrder.nth]⟩
            · intro vs w9 hR9 hv9
              have hG9 := AnyOrder.Grows.of_drew hR9
              have v18 : vs 18 = .bool true := hv9 18 (by decide)
              clear hR9 hv9
              simp only [AnyOrder.fill, Nat.zero_add, Nat.reduceAdd, List.setIfInBounds_toArray, List.set_cons_zero, List.set_cons_succ]
              rw [v18]
              clear v18
              have HB9 := hid (HBS.out.trans (hG9.mono HBS.out.size))
              clear hG9 c0 c1 c2 c3 c4 p0 hge' hw
              go_wp2_with fail
              go_ret
              exact checkEnd_no (okTo_no HK.out HATT.out) HB9.out
          · have hge' : Op.bytesLess y.key.toList x.key.toList = true := hge
            rw [hge] at HATT
            clear hge
            refine AnyOrder.wp_region_grows_g [
                fun v _ => v = .func (.func 74) #[] #[],
                fun v _ => v = .agg #[.string x.key, .string x.text, .bool x.long, .int .i64 x.page, .int .i64 x.size],
                fun v _ => v = .bool true,
                fun v _ => v = .bool false,
                fun v _ => v = .bool false,
                fun v _ => v = .int .i64 ((j + 1 : Nat) : Int),
                fun v _ => v = .bool true,
                fun v _ => v = .bool true,
                fun v _ => v = .slice (some ⟨b0, off0, none⟩) L cap,
                fun v _ => v = .int .i64 ((j + 1 : Nat) : Int),
                fun v _ => v = .int .i64 (j : Int),
                fun v _ => v = .pointer (some ⟨b0, off0 + j * 5, none⟩),
                fun v _ => v = .pointer (some ⟨b0, off0 + j * 5, none⟩),
                fun v _ => v = .string y.key,
                fun v _ => v = .pointer (some ⟨C, 0, none⟩),
                fun v _ => v = .string x.key,
                fun v _ => v = .bool false,
                fun v _ => v = .bool false,
                fun v _ => v = .bool false] hmx (by kernel_rfl) ?_ ?_ ?_
            · intro p hp
              simp only [List.mem_cons, List.not_mem_nil, or_false] at hp
              rcases hp with rfl | rfl | rfl | rfl | rfl | rfl | rfl | rfl | rfl | rfl | rfl | rfl | rfl | rfl | rfl | rfl | rfl | rfl | rfl
              all_goals first
                | exact AnyOrder.stays_const _
            · simp only [AnyOrder.dstsOf, List.map_cons, List.map_nil, AnyOrder.GSteps, Nat.zero_add, Nat.reduceAdd]
              refine ⟨?_, ?_, ?_, ?_, ?_, ?_, ?_, ?_, ?_, ?_, ?_, ?_, ?_, ?_, ?_, ?_, ?_, ?_, ?_, trivial⟩
              · intro ρ w' hk
                have k5 : ρ (.tmp 5) = .func (.func 74) #[] #[] := hk.old 5 rfl
                clear hk
                go_simp
                exact ⟨AnyOrder.Grows.refl _, by first | rfl | simp [AnyOrder.nth]⟩
              · intro ρ w' hk
                have k8 : ρ (.tmp 8) = .pointer (some ⟨C, 0, none⟩) := hk.old 8 rfl
                have m0 := AnyOrder.cell_grows hk.world c0
                have m1 := AnyOrder.cell_grows hk.world c1
                have m2 := AnyOrder.cell_grows hk.world c2
                have m3 := AnyOrder.cell_grows hk.world c3
                have m4 := AnyOrder.cell_grows hk.world c4
                clear hk
                go_simp
                exact ⟨AnyOrder.Grows.refl _, by first | rfl | simp [AnyOrder.nth]⟩
              · intro ρ w' hk
                have k33 : ρ (.tmp 33) = .func (.func 74) #[] #[] := hk.at 0 rfl
                have k34 : ρ (.tmp 34) = .agg #[.string x.key, .string x.text, .bool x.long, .int .i64 x.page, .int .i64 x.size] := hk.at 1 rfl
                have kw := AnyOrder.Grows.of_drew hk.world
                clear hk
                go_simp
                refine (branch_calls x w').mono ?_
                rintro e w'' ⟨rfl, hb⟩
                exact ⟨_, rfl, hb, by show Value.bool (mayBranch x) = _; rw [HM.out]⟩
              · intro ρ w' hk
                have k35 : ρ (.tmp 35) = .bool true := hk.at 2 rfl
                clear hk
                go_simp
                exact ⟨AnyOrder.Grows.refl _, by first | rfl | simp [AnyOrder.nth]⟩
              · intro ρ w' hk
                have k36 : ρ (.tmp 36) = .bool false := hk.at 3 rfl
                clear hk
                go_simp
                exact ⟨AnyOrder.Grows.refl _, by first | rfl | simp [AnyOrder.nth]⟩
              · intro ρ w' hk
                refine AnyOrder.guard_run (hk.at 4 rfl) ?_
                have k7 : ρ (.tmp 7) = .int .i64 ((j + 1 : Nat) : Int) := hk.old 7 rfl
                clear hk
                go_simp
                exact ⟨AnyOrder.Grows.refl _, by first | rfl | simp [AnyOrder.nth]⟩
              · intro ρ w' hk
                refine AnyOrder.guard_run (hk.at 4 rfl) ?_
                have k38 : ρ (.tmp 38) = .int .i64 ((j + 1 : Nat) : Int) := hk.at 5 rfl
                have kc := hk.const
                clear hk
                go_simp
                exact ⟨AnyOrder.Grows.refl _, by first | rfl | simp [AnyOrder.nth]⟩
              · intro ρ w' hk
                refine AnyOrder.guard_run (hk.at 4 rfl) ?_
                have k39 : ρ (.tmp 39) = .bool true := hk.at 6 rfl
                clear hk
                go_simp
                exact ⟨AnyOrder.Grows.refl _, by first | rfl | simp [AnyOrder.nth]⟩
              · intro ρ w' hk
                refine AnyOrder.guard_run (hk.at 7 rfl) ?_
                have k1 : ρ (.tmp 1) = .slice (some ⟨b0, off0, none⟩) L cap := hk.old 1 rfl
                clear hk
                go_simp
                exact ⟨AnyOrder.Grows.refl _, by first | rfl | simp [AnyOrder.nth]⟩
              · intro ρ w' hk
                refine AnyOrder.guard_run (hk.at 7 rfl) ?_
                have k7 : ρ (.tmp 7) = .int .i64 ((j + 1 : Nat) : Int) := hk.old 7 rfl
                clear hk
                go_simp
                exact ⟨AnyOrder.Grows.refl _, by first | rfl | simp [AnyOrder.nth]⟩
              · intro ρ w' hk
                refine AnyOrder.guard_run (hk.at 7 rfl) ?_
                have k42 : ρ (.tmp 42) = .int .i64 ((j + 1 : Nat) : Int) := hk.at 9 rfl
                have kc := hk.const
                clear hk
                go_simp
                exact ⟨AnyOrder.Grows.refl _, by first | rfl | simp [AnyOrder.nth]⟩
              · intro ρ w' hk
                refine AnyOrder.guard_run (hk.at 7 rfl) ?_
                have k41 : ρ (.tmp 41) = .slice (some ⟨b0, off0, none⟩) L cap := hk.at 8 rfl
                have k43 : ρ (.tmp 43) = .int .i64 (j : Int) := hk.at 10 rfl
                clear hk
                go_simp
                exact ⟨AnyOrder.Grows.refl _, by first | rfl | simp [AnyOrder.nth]⟩
              · intro ρ w' hk
                refine AnyOrder.guard_run (hk.at 7 rfl) ?_
                have k44 : ρ (.tmp 44) = .pointer (some ⟨b0, off0 + j * 5, none⟩) := hk.at 11 rfl
                clear hk
                go_simp
                exact ⟨AnyOrder.Grows.refl _, by first | rfl | simp [AnyOrder.nth]⟩
              · intro ρ w' hk
                refine AnyOrder.guard_run (hk.at 7 rfl) ?_
                have k45 : ρ (.tmp 45) = .pointer (some ⟨b0, off0 + j * 5, none⟩) := hk.at 12 rfl
                have m0 := AnyOrder.cell_grows hk.world p0
                clear hk
                go_simp
                exact ⟨AnyOrder.Grows.refl _, by first | rfl | simp [AnyOrder.nth]⟩
              · intro ρ w' hk
                refine AnyOrder.guard_run (hk.at 7 rfl) ?_
                have k8 : ρ (.tmp 8) = .pointer (some ⟨C, 0, none⟩) := hk.old 8 rfl
                clear hk
                go_simp
                exact ⟨AnyOrder.Grows.refl _, by first | rfl | simp [AnyOrder.nth]⟩
              · intro ρ w' hk
                refine AnyOrder.guard_run (hk.at 7 rfl) ?_
                have k47 : ρ (.tmp 47) = .pointer (some ⟨C, 0, none⟩) := hk.at 14 rfl
                have m0 := AnyOrder.cell_grows hk.world c0
                clear hk
                go_simp
                exact ⟨AnyOrder.Grows.refl _, by first | rfl | simp [AnyOrder.nth]⟩
              · intro ρ w' hk
                refine AnyOrder.guard_run (hk.at 7 rfl) ?_
                have k46 : ρ (.tmp 46) = .string y.key := hk.at 13 rfl
                have k48 : ρ (.tmp 48) = .string x.key := hk.at 15 rfl
                clear hk
                go_simp
                exact ⟨AnyOrder.Grows.refl _, by first | rfl | simp [AnyOrder.nth]⟩
              · intro ρ w' hk
                refine AnyOrder.guard_run (hk.at 4 rfl) ?_
                have k40 : ρ (.tmp 40) = .bool true := hk.at 7 rfl
                have k49 : ρ (.tmp 49) = .bool false := hk.at 16 rfl
                have kc := hk.const
                clear hk
                go_simp
                exact ⟨AnyOrder.Grows.refl _, by first | rfl | simp [AnyOrder.nth]⟩
              · intro ρ w' hk
                have k37 : ρ (.tmp 37) = .bool false := hk.at 4 rfl
                have k50 : ρ (.tmp 50) = .bool false := hk.at 17 rfl
                have kc := hk.const
                clear hk
                go_simp
                exact ⟨AnyOrder.Grows.refl _, by first | rfl | simp [AnyOrder.nth]⟩
            · intro vs w9 hR9 hv9
              have hG9 := AnyOrder.Grows.of_drew hR9
              have v18 : vs 18 = .bool false := hv9 18 (by decide)
              clear hR9 hv9
              simp only [AnyOrder.fill, Nat.zero_add, Nat.reduceAdd, List.setIfInBounds_toArray, List.set_cons_zero, List.set_cons_succ]
              rw [v18]
              clear v18
              have HB9 := hid (HBS.out.trans (hG9.mono HBS.out.size))
              have HO1 := hid (show okTo false xs (j + 1 + 1) = true by rw [okTo_succ, HATT.out, HO.out]; rfl)
              clear hG9 c0 c1 c2 c3 c4 p0 hge' hw
              have hw2 : IntKind.i64.wrap ((j : Int) + 1 + 1) = (j : Int) + 1 + 1 := IntWalk.i64_in _ (by have := HW9.out; omega)
              go_wp2_with fail
              go_roundw
              case rel => exact ⟨j + 1 + 1, hk1, by go_num, HO1.out, HB9.out⟩
              case measure => simp [intOf]; omega
      · have HM := hid (show mayBranch x = false by simpa using hm)
        have HAT : okAt false xs k = false := by
          have e : mayC false xs[k] = false := by rw [← HX.out]; exact HM.out
          cases k with
          | zero => rw [okAt_eq hkl rfl]; exact e
          | succ j => rw [okAt_eq' hkl, e, Bool.false_and]
        have HATT := hid HAT
        have HK := hid hkl
        clear HX hm HAT hkl hlt
        refine AnyOrder.wp_region_grows_g [
            fun v _ => v = .func (.func 74) #[] #[],
            fun v _ => v = .agg #[.string x.key, .string x.text, .bool x.long, .int .i64 x.page, .int .i64 x.size],
            fun v _ => v = .bool false,
            fun v _ => v = .bool true,
            fun v _ => v = .bool true,
            fun v _ => v = undef,
            fun v _ => v = undef,
            fun v _ => v = undef,
            fun v _ => v = undef,
            fun v _ => v = undef,
            fun v _ => v = undef,
            fun v _ => v = undef,
            fun v _ => v = undef,
            fun v _ => v = undef,
            fun v _ => v = undef,
            fun v _ => v = undef,
            fun v _ => v = undef,
            fun v _ => v = undef,
            fun v _ => v = .bool true] hmx (by kernel_rfl) ?_ ?_ ?_
        · intro p hp
          simp only [List.mem_cons, List.not_mem_nil, or_false] at hp
          rcases hp with rfl | rfl | rfl | rfl | rfl | rfl | rfl | rfl | rfl | rfl | rfl | rfl | rfl | rfl | rfl | rfl | rfl | rfl | rfl
          all_goals first
            | exact AnyOrder.stays_const _
        · simp only [AnyOrder.dstsOf, List.map_cons, List.map_nil, AnyOrder.GSteps, Nat.zero_add, Nat.reduceAdd]
          refine ⟨?_, ?_, ?_, ?_, ?_, ?_, ?_, ?_, ?_, ?_, ?_, ?_, ?_, ?_, ?_, ?_, ?_, ?_, ?_, trivial⟩
          · intro ρ w' hk
            have k5 : ρ (.tmp 5) = .func (.func 74) #[] #[] := hk.old 5 rfl
            clear hk
            go_simp
            exact ⟨AnyOrder.Grows.refl _, by first | rfl | simp [AnyOrder.nth]⟩
          · intro ρ w' hk
            have k8 : ρ (.tmp 8) = .pointer (some ⟨C, 0, none⟩) := hk.old 8 rfl
            have m0 := AnyOrder.cell_grows hk.world c0
            have m1 := AnyOrder.cell_grows hk.world c1
            have m2 := AnyOrder.cell_grows hk.world c2
            have m3 := AnyOrder.cell_grows hk.world c3
            have m4 := AnyOrder.cell_grows hk.world c4
            clear hk
            go_simp
            exact ⟨AnyOrder.Grows.refl _, by first | rfl | simp [AnyOrder.nth]⟩
          · intro ρ w' hk
            have k33 : ρ (.tmp 33) = .func (.func 74) #[] #[] := hk.at 0 rfl
            have k34 : ρ (.tmp 34) = .agg #[.string x.key, .string x.text, .bool x.long, .int .i64 x.page, .int .i64 x.size] := hk.at 1 rfl
            have kw := AnyOrder.Grows.of_drew hk.world
            clear hk
            go_simp
            refine (branch_calls x w').mono ?_
            rintro e w'' ⟨rfl, hb⟩
            exact ⟨_, rfl, hb, by show Value.bool (mayBranch x) = _; rw [HM.out]⟩
          · intro ρ w' hk
            have k35 : ρ (.tmp 35) = .bool false := hk.at 2 rfl
            clear hk
            go_simp
            exact ⟨AnyOrder.Grows.refl _, by first | rfl | simp [AnyOrder.nth]⟩
          · intro ρ w' hk
            have k36 : ρ (.tmp 36) = .bool true := hk.at 3 rfl
            clear hk
            go_simp
            exact ⟨AnyOrder.Grows.refl _, by first | rfl | simp [AnyOrder.nth]⟩
          · intro ρ w' hk
            exact AnyOrder.guard_skip (hk.at 4 rfl) (fun h => by cases h) rfl
          · intro ρ w' hk
            exact AnyOrder.guard_skip (hk.at 4 rfl) (fun h => by cases h) rfl
          · intro ρ w' hk
            exact AnyOrder.guard_skip (hk.at 4 rfl) (fun h => by cases h) rfl
          · intro ρ w' hk
            exact AnyOrder.guard_skip (hk.at 7 rfl) undef_ne rfl
          · intro ρ w' hk
            exact AnyOrder.guard_skip (hk.at 7 rfl) undef_ne rfl
          · intro ρ w' hk
            exact AnyOrder.guard_skip (hk.at 7 rfl) undef_ne rfl
          · intro ρ w' hk
            exact AnyOrder.guard_skip (hk.at 7 rfl) undef_ne rfl
          · intro ρ w' hk
            exact AnyOrder.guard_skip (hk.at 7 rfl) undef_ne rfl
          · intro ρ w' hk
            exact AnyOrder.guard_skip (hk.at 7 rfl) undef_ne rfl
          · intro ρ w' hk
            exact AnyOrder.guard_skip (hk.at 7 rfl) undef_ne rfl
          · intro ρ w' hk
            exact AnyOrder.guard_skip (hk.at 7 rfl) undef_ne rfl
          · intro ρ w' hk
            exact AnyOrder.guard_skip (hk.at 7 rfl) undef_ne rfl
          · intro ρ w' hk
            exact AnyOrder.guard_skip (hk.at 4 rfl) (fun h => by cases h) rfl
          · intro ρ w' hk
            have k37 : ρ (.tmp 37) = .bool true := hk.at 4 rfl
            have k50 : ρ (.tmp 50) = undef := hk.at 17 rfl
            have kc := hk.const
            clear hk
            go_simp
            exact ⟨AnyOrder.Grows.refl _, by first | rfl | simp [AnyOrder.nth]⟩
        · intro vs w9 hR9 hv9
          have hG9 := AnyOrder.Grows.of_drew hR9
          have v18 : vs 18 = .bool true := hv9 18 (by decide)
          clear hR9 hv9
          simp only [AnyOrder.fill, Nat.zero_add, Nat.reduceAdd, List.setIfInBounds_toArray, List.set_cons_zero, List.set_cons_succ]
          rw [v18]
          clear v18
          have HB9 := hid (HBS.out.trans (hG9.mono HBS.out.size))
          clear hG9 c0 c1 c2 c3 c4
          go_wp2_with fail
          go_ret
          exact checkEnd_no (okTo_no HK.out HATT.out) HB9.out
    · obtain rfl : k = L := by omega
      have i0 : ¬ ((k : Int) < (k : Int)) := by omega
      clear hx hlt hk
      go_wp2_with fail
      go_ret
      exact checkEnd_ok (by rw [HL.out]; exact HO.out) HBR.out
end Go.Proofs.Ytkpadhjlopcejaa
