/-
  The walk of the document's Find (printed by mkrfind.py).
-/
import Derived.Test.YtkpadhjlopcejaaSFind
namespace Go.Proofs.Ytkpadhjlopcejaa
open Go.RowKit
set_option maxRecDepth 100000 in
set_option maxHeartbeats 4000000 in
theorem rfind_calls (v : Value) (xs : List Cl) (key : ByteArray) (w : World) (hp : PartC (fun q => q < w.heap.size) w v xs) : Calls Try.prog 44 #[v, .string key] w (FindEnd xs key w) := by
  have hmx : Try.prog.follows .mixedOrders = true := by kernel_rfl
  obtain ⟨a, cap, rfl, hx, hl1, hl2, -⟩ := hp
  generalize hL : xs.length = L at *
  have HL := hid hL
  have HLC := hid (show (L : Int) ≤ 9223372036854775807 by unfold maxLen at hl2; omega)
  clear hL hl1 hl2
  go_enter Try.func44, Try.ntmps44
  go_wp2_with fail
  go_loop [6] (fun i => ∃ k : Nat, k ≤ L ∧ i = .int .i64 (k : Int) ∧ Hid (∀ i (h : i < xs.length), i < k → keyLt (xs[i]).key key = true)) (fun i => L - (intOf i).toNat)
  case atStart => exact ⟨0, Nat.zero_le _, rfl, fun i _ h => absurd h (Nat.not_lt_zero _)⟩
  case round =>
    obtain ⟨k, hk, rfl, HJ⟩ := hrel
    by_cases hlt : k < L
    · have hkl : k < xs.length := by rw [HL.out]; exact hlt
      obtain ⟨b0, off0, rfl, ho0, h0, -, -, -, -⟩ := hx.at hkl
      have hha := hasAt_eq (key := key) hkl
      have hgt := fun i (h : i < xs.length) => HJ.out i h
      obtain ⟨x, hxe⟩ : ∃ x, x = xs[k] := ⟨_, rfl⟩
      rw [← hxe] at h0 hha
      have HX := hid hxe
      have HHA := hid hha
      have i0 : (k : Int) < (L : Int) := by omega
      have hw : IntKind.i64.wrap ((k : Int) + 1) = (k : Int) + 1 := IntWalk.i64_in _ (by have := HLC.out; omega)
      have HK := hid hlt
      clear hx hha hxe hgt hk hlt
      cases hkt : keyLt x.key key
      · have hkt' : Op.bytesLess x.key.toList key.toList = false := hkt
        have HAT := hid (show IsAt xs key k from ⟨by have := HK.out; rw [HL.out]; omega, HJ.out, fun _ => by rw [← HX.out]; exact hkt⟩)
        clear hkt HX hkl
        go_wp2_with fail
        generalize hq : (x.key.toList == key.toList) = q at *
        refine AnyOrder.wp_region_grows_g [
            fun v _ => v = .int .i64 (k : Int),
            fun v _ => v = .int .i64 (k : Int),
            fun v _ => v = .slice (some ⟨b0, off0, none⟩) L cap,
            fun v _ => v = .int .i64 (L : Int),
            fun v _ => v = .bool true,
            fun v _ => v = .bool true,
            fun v _ => v = .slice (some ⟨b0, off0, none⟩) L cap,
            fun v _ => v = .int .i64 (k : Int),
            fun v _ => v = .pointer (some ⟨b0, off0 + k * 5, none⟩),
            fun v _ => v = .pointer (some ⟨b0, off0 + k * 5, none⟩),
            fun v _ => v = .string x.key,
            fun v _ => v = .string key,
            fun v _ => v = .bool q,
            fun v _ => v = .bool q,
            fun v _ => v = .int .i64 (k : Int),
            fun v _ => v = .bool q] hmx (by kernel_rfl) ?_ ?_ ?_
        · intro p hp
          simp only [List.mem_cons, List.not_mem_nil, or_false] at hp
          rcases hp with rfl | rfl | rfl | rfl | rfl | rfl | rfl | rfl | rfl | rfl | rfl | rfl | rfl | rfl | rfl | rfl
          all_goals first
            | exact AnyOrder.stays_const _
        · simp only [AnyOrder.dstsOf, List.map_cons, List.map_nil, AnyOrder.GSteps, Nat.zero_add, Nat.reduceAdd]
          refine ⟨?_, ?_, ?_, ?_, ?_, ?_, ?_, ?_, ?_, ?_, ?_, ?_, ?_, ?_, ?_, ?_, trivial⟩
          · intro ρ w' hk
            have k6 : ρ (.tmp 6) = .int .i64 (k : Int) := hk.old 6 rfl
            clear hk
            go_simp
            exact ⟨AnyOrder.Grows.refl _, by first | rfl | (simp [AnyOrder.nth]; done) | (simp [AnyOrder.nth]; omega)⟩
          · intro ρ w' hk
            have k6 : ρ (.tmp 6) = .int .i64 (k : Int) := hk.old 6 rfl
            clear hk
            go_simp
            exact ⟨AnyOrder.Grows.refl _, by first | rfl | (simp [AnyOrder.nth]; done) | (simp [AnyOrder.nth]; omega)⟩
          · intro ρ w' hk
            have k0 : ρ (.tmp 0) = .slice (some ⟨b0, off0, none⟩) L cap := hk.old 0 rfl
            clear hk
            go_simp
            exact ⟨AnyOrder.Grows.refl _, by first | rfl | (simp [AnyOrder.nth]; done) | (simp [AnyOrder.nth]; omega)⟩
          · intro ρ w' hk
            have k24 : ρ (.tmp 24) = .slice (some ⟨b0, off0, none⟩) L cap := hk.at 2 rfl
            clear hk
            go_simp
            exact ⟨AnyOrder.Grows.refl _, by first | rfl | (simp [AnyOrder.nth]; done) | (simp [AnyOrder.nth]; omega)⟩
          · intro ρ w' hk
            have k23 : ρ (.tmp 23) = .int .i64 (k : Int) := hk.at 1 rfl
            have k25 : ρ (.tmp 25) = .int .i64 (L : Int) := hk.at 3 rfl
            clear hk
            go_simp
            exact ⟨AnyOrder.Grows.refl _, by first | rfl | (simp [AnyOrder.nth]; done) | (simp [AnyOrder.nth]; omega)⟩
          · intro ρ w' hk
            have k26 : ρ (.tmp 26) = .bool true := hk.at 4 rfl
            clear hk
            go_simp
            exact ⟨AnyOrder.Grows.refl _, by first | rfl | (simp [AnyOrder.nth]; done) | (simp [AnyOrder.nth]; omega)⟩
          · intro ρ w' hk
            refine AnyOrder.guard_run (hk.at 5 rfl) ?_
            have k0 : ρ (.tmp 0) = .slice (some ⟨b0, off0, none⟩) L cap := hk.old 0 rfl
            clear hk
            go_simp
            exact ⟨AnyOrder.Grows.refl _, by first | rfl | (simp [AnyOrder.nth]; done) | (simp [AnyOrder.nth]; omega)⟩
          · intro ρ w' hk
            refine AnyOrder.guard_run (hk.at 5 rfl) ?_
            have k6 : ρ (.tmp 6) = .int .i64 (k : Int) := hk.old 6 rfl
            clear hk
            go_simp
            exact ⟨AnyOrder.Grows.refl _, by first | rfl | (simp [AnyOrder.nth]; done) | (simp [AnyOrder.nth]; omega)⟩
          · intro ρ w' hk
            refine AnyOrder.guard_run (hk.at 5 rfl) ?_
            have k28 : ρ (.tmp 28) = .slice (some ⟨b0, off0, none⟩) L cap := hk.at 6 rfl
            have k29 : ρ (.tmp 29) = .int .i64 (k : Int) := hk.at 7 rfl
            clear hk
            go_simp
            exact ⟨AnyOrder.Grows.refl _, by first | rfl | (simp [AnyOrder.nth]; done) | (simp [AnyOrder.nth]; omega)⟩
          · intro ρ w' hk
            refine AnyOrder.guard_run (hk.at 5 rfl) ?_
            have k30 : ρ (.tmp 30) = .pointer (some ⟨b0, off0 + k * 5, none⟩) := hk.at 8 rfl
            clear hk
            go_simp
            exact ⟨AnyOrder.Grows.refl _, by first | rfl | (simp [AnyOrder.nth]; done) | (simp [AnyOrder.nth]; omega)⟩
          · intro ρ w' hk
            refine AnyOrder.guard_run (hk.at 5 rfl) ?_
            have k31 : ρ (.tmp 31) = .pointer (some ⟨b0, off0 + k * 5, none⟩) := hk.at 9 rfl
            have m0 := AnyOrder.cell_grows hk.world h0
            clear hk
            go_simp
            exact ⟨AnyOrder.Grows.refl _, by first | rfl | (simp [AnyOrder.nth]; done) | (simp [AnyOrder.nth]; omega)⟩
          · intro ρ w' hk
            refine AnyOrder.guard_run (hk.at 5 rfl) ?_
            have k1 : ρ (.tmp 1) = .string key := hk.old 1 rfl
            clear hk
            go_simp
            exact ⟨AnyOrder.Grows.refl _, by first | rfl | (simp [AnyOrder.nth]; done) | (simp [AnyOrder.nth]; omega)⟩
          · intro ρ w' hk
            refine AnyOrder.guard_run (hk.at 5 rfl) ?_
            have k32 : ρ (.tmp 32) = .string x.key := hk.at 10 rfl
            have k33 : ρ (.tmp 33) = .string key := hk.at 11 rfl
            clear hk
            go_simp
            exact ⟨AnyOrder.Grows.refl _, by first | rfl | (simp [AnyOrder.nth]; done) | (simp [AnyOrder.nth]; omega)⟩
          · intro ρ w' hk
            have k27 : ρ (.tmp 27) = .bool true := hk.at 5 rfl
            have k34 : ρ (.tmp 34) = .bool q := hk.at 12 rfl
            have kc := hk.const
            clear hk
            go_simp
            exact ⟨AnyOrder.Grows.refl _, by first | rfl | (simp [AnyOrder.nth]; done) | (simp [AnyOrder.nth]; omega)⟩
          · intro ρ w' hk
            have k22 : ρ (.tmp 22) = .int .i64 (k : Int) := hk.at 0 rfl
            clear hk
            go_simp
            exact ⟨AnyOrder.Grows.refl _, by first | rfl | (simp [AnyOrder.nth]; done) | (simp [AnyOrder.nth]; omega)⟩
          · intro ρ w' hk
            have k35 : ρ (.tmp 35) = .bool q := hk.at 13 rfl
            clear hk
            go_simp
            exact ⟨AnyOrder.Grows.refl _, by first | rfl | (simp [AnyOrder.nth]; done) | (simp [AnyOrder.nth]; omega)⟩
        · intro vs w9 hR9 hv9
          have hG9 := AnyOrder.Grows.of_drew hR9
          have v14 : vs 14 = .int .i64 (k : Int) := hv9 14 (by decide)
          have v15 : vs 15 = .bool q := hv9 15 (by decide)
          clear hR9 hv9
          simp only [AnyOrder.fill, Nat.zero_add, Nat.reduceAdd, List.setIfInBounds_toArray, List.set_cons_zero, List.set_cons_succ]
          rw [v14]
          clear v14
          rw [v15]
          clear v15
          have HG := hid hG9
          clear hG9 h0 hq
          go_wp2_with fail
          go_ret2
          exact ⟨k, by rw [HHA.out]; rfl, HAT.out, HG.out⟩
      · have hkt' : Op.bytesLess x.key.toList key.toList = true := hkt
        have HJ1 := hid (show ∀ i (h : i < xs.length), i < k + 1 → keyLt (xs[i]).key key = true from fun i h hik => by
          by_cases e : i = k
          · subst e; rw [← HX.out]; exact hkt
          · exact HJ.out i h (by omega))
        clear hkt HX hkl
        go_wp2_with fail
        go_round
        case rel => exact ⟨k + 1, HK.out, by go_num, HJ1.out⟩
        case measure => simp [intOf]; have := HK.out; omega
    · obtain rfl : k = L := by omega
      have i0 : ¬ (k : Int) < (k : Int) := by omega
      have HHA := hid (show hasAt xs key k = false from hasAt_none (by rw [HL.out]; omega))
      have HAT := hid (show IsAt xs key k from ⟨by rw [HL.out]; omega, HJ.out, fun h => absurd h (by rw [HL.out]; omega)⟩)
      clear hx hlt hk
      go_wp2_with fail
      refine AnyOrder.wp_region_grows_g [
          fun v _ => v = .int .i64 (k : Int),
          fun v _ => v = .int .i64 (k : Int),
          fun v _ => v = .slice a k cap,
          fun v _ => v = .int .i64 (k : Int),
          fun v _ => v = .bool false,
          fun v _ => v = .bool false,
          fun v _ => v = undef,
          fun v _ => v = undef,
          fun v _ => v = undef,
          fun v _ => v = undef,
          fun v _ => v = undef,
          fun v _ => v = undef,
          fun v _ => v = undef,
          fun v _ => v = .bool false,
          fun v _ => v = .int .i64 (k : Int),
          fun v _ => v = .bool false] hmx (by kernel_rfl) ?_ ?_ ?_
      · intro p hp
        simp only [List.mem_cons, List.not_mem_nil, or_false] at hp
        rcases hp with rfl | rfl | rfl | rfl | rfl | rfl | rfl | rfl | rfl | rfl | rfl | rfl | rfl | rfl | rfl | rfl
        all_goals first
          | exact AnyOrder.stays_const _
      · simp only [AnyOrder.dstsOf, List.map_cons, List.map_nil, AnyOrder.GSteps, Nat.zero_add, Nat.reduceAdd]
        refine ⟨?_, ?_, ?_, ?_, ?_, ?_, ?_, ?_, ?_, ?_, ?_, ?_, ?_, ?_, ?_, ?_, trivial⟩
        · intro ρ w' hk
          have k6 : ρ (.tmp 6) = .int .i64 (k : Int) := hk.old 6 rfl
          clear hk
          go_simp
          exact ⟨AnyOrder.Grows.refl _, by first | rfl | (simp [AnyOrder.nth]; done) | (simp [AnyOrder.nth]; omega)⟩
        · intro ρ w' hk
          have k6 : ρ (.tmp 6) = .int .i64 (k : Int) := hk.old 6 rfl
          clear hk
          go_simp
          exact ⟨AnyOrder.Grows.refl _, by first | rfl | (simp [AnyOrder.nth]; done) | (simp [AnyOrder.nth]; omega)⟩
        · intro ρ w' hk
          have k0 : ρ (.tmp 0) = .slice a k cap := hk.old 0 rfl
          clear hk
          go_simp
          exact ⟨AnyOrder.Grows.refl _, by first | rfl | (simp [AnyOrder.nth]; done) | (simp [AnyOrder.nth]; omega)⟩
        · intro ρ w' hk
          have k24 : ρ (.tmp 24) = .slice a k cap := hk.at 2 rfl
          clear hk
          go_simp
          exact ⟨AnyOrder.Grows.refl _, by first | rfl | (simp [AnyOrder.nth]; done) | (simp [AnyOrder.nth]; omega)⟩
        · intro ρ w' hk
          have k23 : ρ (.tmp 23) = .int .i64 (k : Int) := hk.at 1 rfl
          have k25 : ρ (.tmp 25) = .int .i64 (k : Int) := hk.at 3 rfl
          clear hk
          go_simp
          exact ⟨AnyOrder.Grows.refl _, by first | rfl | (simp [AnyOrder.nth]; done) | (simp [AnyOrder.nth]; omega)⟩
        · intro ρ w' hk
          have k26 : ρ (.tmp 26) = .bool false := hk.at 4 rfl
          clear hk
          go_simp
          exact ⟨AnyOrder.Grows.refl _, by first | rfl | (simp [AnyOrder.nth]; done) | (simp [AnyOrder.nth]; omega)⟩
        · intro ρ w' hk
          exact AnyOrder.guard_skip (hk.at 5 rfl) (fun h => by cases h) rfl
        · intro ρ w' hk
          exact AnyOrder.guard_skip (hk.at 5 rfl) (fun h => by cases h) rfl
        · intro ρ w' hk
          exact AnyOrder.guard_skip (hk.at 5 rfl) (fun h => by cases h) rfl
        · intro ρ w' hk
          exact AnyOrder.guard_skip (hk.at 5 rfl) (fun h => by cases h) rfl
        · intro ρ w' hk
          exact AnyOrder.guard_skip (hk.at 5 rfl) (fun h => by cases h) rfl
        · intro ρ w' hk
          exact AnyOrder.guard_skip (hk.at 5 rfl) (fun h => by cases h) rfl
        · intro ρ w' hk
          exact AnyOrder.guard_skip (hk.at 5 rfl) (fun h => by cases h) rfl
        · intro ρ w' hk
          have k27 : ρ (.tmp 27) = .bool false := hk.at 5 rfl
          have k34 : ρ (.tmp 34) = undef := hk.at 12 rfl
          have kc := hk.const
          clear hk
          go_simp
          exact ⟨AnyOrder.Grows.refl _, by first | rfl | (simp [AnyOrder.nth]; done) | (simp [AnyOrder.nth]; omega)⟩
        · intro ρ w' hk
          have k22 : ρ (.tmp 22) = .int .i64 (k : Int) := hk.at 0 rfl
          clear hk
          go_simp
          exact ⟨AnyOrder.Grows.refl _, by first | rfl | (simp [AnyOrder.nth]; done) | (simp [AnyOrder.nth]; omega)⟩
        · intro ρ w' hk
          have k35 : ρ (.tmp 35) = .bool false := hk.at 13 rfl
          clear hk
          go_simp
          exact ⟨AnyOrder.Grows.refl _, by first | rfl | (simp [AnyOrder.nth]; done) | (simp [AnyOrder.nth]; omega)⟩
      · intro vs w9 hR9 hv9
        have hG9 := AnyOrder.Grows.of_drew hR9
        have v14 : vs 14 = .int .i64 (k : Int) := hv9 14 (by decide)
        have v15 : vs 15 = .bool false := hv9 15 (by decide)
        clear hR9 hv9
        simp only [AnyOrder.fill, Nat.zero_add, Nat.reduceAdd, List.setIfInBounds_toArray, List.set_cons_zero, List.set_cons_succ]
        rw [v14]
        clear v14
        rw [v15]
        clear v15
        have HG := hid hG9
        clear hG9
        go_wp2_with fail
        go_ret2
        exact ⟨k, by rw [HHA.out]; rfl, HAT.out, HG.out⟩
end Go.Proofs.Ytkpadhjlopcejaa
