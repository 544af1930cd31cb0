/-
  SlotsAll: its walk, and its arguments opened (printed by mkall.py).
-/
import Derived.Test.YtkpadhjlopcejaaSizesWalk
namespace Go.Proofs.Ytkpadhjlopcejaa
open Go.RowKit Go.ChangeShapes Go.WideShapes Go.ChangeAt
theorem at_self {xs : List Cl} (hr : Rising xs) {k : Nat} (hk : k < xs.length) : IsAt xs xs[k].key k ∧ hasAt xs xs[k].key k = true :=
  ⟨⟨by omega, fun i hi hik => hr.lt hik hk, fun _ => keyLt_irrefl _⟩, by rw [hasAt_eq hk]; simp⟩
theorem less_asymm {a b : List UInt8} (h : Op.bytesLess a b = true) : Op.bytesLess b a = false := by
  cases h2 : Op.bytesLess b a with
  | false => rfl
  | true =>
    have := less_trans _ _ _ h h2
    rw [less_irrefl] at this
    cases this
theorem at_next {xs : List Cl} (hr : Rising xs) {k : Nat} (hk : k < xs.length) (key0 : ByteArray) (h0 : key0.toList = xs[k].key.toList ++ [0]) : IsAt xs key0 (k + 1) := by
  refine ⟨by omega, fun i hi hik => ?_, fun hn => ?_⟩
  · show Op.bytesLess _ key0.toList = true
    rw [h0, less_snoc]
    by_cases e : i = k
    · subst e; rw [less_irrefl]; rfl
    · have := hr.lt (show i < k by omega) hk
      rw [less_asymm this]; rfl
  · show Op.bytesLess _ key0.toList = false
    rw [h0, less_snoc]
    have := hr k hn
    have h2 : Op.bytesLess xs[k].key.toList xs[k + 1].key.toList = true := this
    rw [h2]; rfl
def AlEnd (w : World) (e : Ending) (w' : World) : Prop := e = .returned (.bool true) ∧ Below w.heap.size w w'
set_option maxRecDepth 100000 in
set_option maxHeartbeats 8000000 in
theorem sall_walk (k : Int) (v : Value) (xs : List Cl) (w : World) (hp : PartC (fun q => q < w.heap.size) w v xs) : Calls Try.prog 13 #[.int .i64 k, v] w (AlEnd w) := by
  have hmx : Try.prog.follows .mixedOrders = true := by kernel_rfl
  have HP := hid hp
  have HR := hid (right_calls k v xs w hp)
  obtain ⟨a, cap, rfl, hx, hc1, hc2, -⟩ := hp
  have HF := hid (fewc_calls a cap xs _ w hx)
  have HK := hid (known_end' w w (Below.refl _ _))
  have HX := hid hx
  generalize hL : xs.length = L at *
  have HL := hid hL
  have HC := hid (show L ≤ cap ∧ cap ≤ maxLen from ⟨hc1, hc2⟩)
  clear hx hL hc1 hc2
  go_enter Try.func13, Try.ntmps13
  go_wp2_with fail
  refine HF.out.mono ?_
  rintro e w1 ⟨b, rfl, rfl, hb⟩
  cases b
  · go_wp2_with fail
    refine HK.out.mono ?_
    rintro e w2 ⟨rfl, b2⟩
    have HB2 := hid b2
    clear b2
    go_wp2_with fail
    go_ret
    exact ⟨rfl, HB2.out⟩
  · have HN := hid (hb rfl).1
    have HKS := hid (hb rfl).2
    rw [HL.out] at HN
    clear hb
    go_wp2_with fail
    refine HR.out.mono ?_
    rintro e w2 ⟨rfl, b2⟩
    have HB2 := hid b2
    have HK2 := hid (known_end' w w2 b2)
    clear b2
    by_cases hr : rightC k xs = true
    · rw [hr]
      have HRS := hid (rightC_rising hr)
      clear hr
      go_wp2_with fail
      go_loopw [5] (fun i wr => ∃ j : Nat, j ≤ L ∧ i = .int .i64 (j : Int) ∧ Below w.heap.size w wr) (fun i _ => L - (intOf i).toNat)
      case atStart => exact ⟨0, Nat.zero_le _, rfl, HB2.out⟩
      case round =>
        obtain ⟨j, hj, rfl, hbr⟩ := hrel
        have HBR := hid hbr
        clear hbr
        by_cases hlt : j < L
        · have hjl : j < xs.length := by rw [HL.out]; exact hlt
          obtain ⟨b0, off0, rfl, ho0, h0, -⟩ := HX.out.at hjl
          have HO0 := hid ho0
          have c0 := HBR.out.cell (p := ⟨b0, off0 + j * 5, none⟩) ho0
          rw [h0] at c0
          have hself := at_self HRS.out hjl
          have hks := (HKS.out j hjl).1
          have hnext := fun key0 h => at_next HRS.out hjl key0 h
          obtain ⟨x, hxe⟩ : ∃ x, x = xs[j] := ⟨_, rfl⟩
          rw [← hxe] at c0 hself hks
          have i9 : ¬ 9223372036854775807 < x.key.size + 1 := by omega
          have hnext2 : ∀ key0 : ByteArray, key0.toList = x.key.toList ++ [0] → IsAt xs key0 (j + 1) := fun key0 h => hnext key0 (by rw [← hxe]; exact h)
          have HS := hid hself
          have HNX := hid hnext2
          have HJ := hid hlt
          have i0 : (j : Int) < (L : Int) := by omega
          have hw1 : IntKind.i64.wrap ((j : Int) + 1) = (j : Int) + 1 := IntWalk.i64_in _ (by have := HN.out; omega)
          have HFD := hid (find_calls _ xs x.key wr ((HP.out.below HBR.out).mono fun q hq => Nat.lt_of_lt_of_le hq HBR.out.size) HRS.out (by rw [HL.out]; have := HN.out; omega))
          clear h0 hself hnext hnext2 hxe hlt hj hjl ho0 hks
          go_wp2_with fail
          refine HFD.out.mono ?_
          rintro e w3 ⟨n, rfl, hat, b3⟩
          obtain rfl := hat.uniq HS.out.1
          rw [HS.out.2]
          have HB3 := hid (HBR.out.trans (b3.mono HBR.out.size))
          have hc3 := (cell_lt c0)
          have c3 := b3.cell (p := ⟨b0, off0 + n * 5, none⟩) hc3
          rw [c0] at c3
          clear b3 hat c0 hc3
          go_wp2_with fail
          have hk0 : (x.key ++ (⟨#[0]⟩ : ByteArray)).toList = x.key.toList ++ [0] := by rw [ByteArray.toList_eq, ByteArray.toList_eq, ByteArray.data_append]; simp
          have hat0 := HNX.out _ hk0
          have hke : x.key ++ (⟨#[0]⟩ : ByteArray) = x.key ++ (⟨#[0]⟩ : ByteArray) := rfl
          have HFE := hid (fun key0 => find_calls _ xs key0 w3 ((HP.out.below HB3.out).mono fun q hq => Nat.lt_of_lt_of_le hq HB3.out.size) HRS.out (by rw [HL.out]; have := HN.out; omega))
          obtain ⟨key0, hkey0⟩ : ∃ y, y = x.key ++ (⟨#[0]⟩ : ByteArray) := ⟨_, rfl⟩
          rw [← hkey0] at hat0 hk0 ⊢
          have HAT0 := hid hat0
          have HKY := hid hkey0
          have HK0 := hid hk0
          clear hat0 hke hk0 hkey0
          refine (HFE.out key0).mono ?_
          rintro e w4 ⟨m, rfl, hat, b4⟩
          obtain rfl := hat.uniq HAT0.out
          have HB4 := hid (HB3.out.trans (b4.mono HB3.out.size))
          have c4 := b4.cell (p := ⟨b0, off0 + n * 5, none⟩) (cell_lt c3)
          rw [c3] at c4
          clear b4 hat c3
          go_wp2_with fail
          by_cases hn1 : n + 1 < L
          · have hnx : n + 1 < xs.length := by rw [HL.out]; exact hn1
            obtain ⟨b9, off9, eb, -, h9, -⟩ := HX.out.at hnx
            cases eb
            have c9 := HB4.out.cell (p := ⟨b0, off0 + (n + 1) * 5, none⟩) HO0.out
            rw [h9] at c9
            have hha := hasAt_eq (key := key0) hnx
            obtain ⟨y, hye⟩ : ∃ y, y = xs[n + 1] := ⟨_, rfl⟩
            rw [← hye] at c9 hha
            obtain ⟨q, hq⟩ : ∃ q, q = (y.key.toList == key0.toList) := ⟨_, rfl⟩
            rw [← hq] at hha
            rw [hha]
            have hq2 := hq.symm
            have i8 : (n : Int) + 1 < (L : Int) := by omega
            have i7 : ((n : Int) + 1).toNat = n + 1 := by omega
            have i6 : (0 : Int) ≤ (n : Int) + 1 := by omega
            have HJ1 := hid (show n + 1 ≤ L by omega)
            clear hnx h9 hye hha hn1 hq
            refine AnyOrder.wp_region_grows_g [
                fun v _ => v = .int .i64 (n : Int),
                fun v _ => v = .int .i64 (n : Int),
                fun v _ => v = .bool false,
                fun v _ => v = .bool false,
                fun v _ => v = .bool true,
                fun v _ => v = .bool false,
                fun v _ => v = .bool false,
                fun v _ => v = .bool false,
                fun v _ => v = .int .i64 ((n : Int) + 1),
                fun v _ => v = .int .i64 (n : Int),
                fun v _ => v = .int .i64 ((n : Int) + 1),
                fun v _ => v = .bool false,
                fun v _ => v = .bool false,
                fun v _ => v = .bool false,
                fun v _ => v = .bool q,
                fun v _ => v = .int .i64 (n : Int),
                fun v _ => v = .int .i64 ((n : Int) + 1),
                fun v _ => v = .slice (some ⟨b0, off0, none⟩) L cap,
                fun v _ => v = .int .i64 (L : Int),
                fun v _ => v = .bool true,
                fun v _ => v = .bool true,
                fun v _ => v = .slice (some ⟨b0, off0, none⟩) L cap,
                fun v _ => v = .int .i64 (n : Int),
                fun v _ => v = .int .i64 ((n : Int) + 1),
                fun v _ => v = .pointer (some ⟨b0, off0 + (n + 1) * 5, none⟩),
                fun v _ => v = .pointer (some ⟨b0, off0 + (n + 1) * 5, none⟩),
                fun v _ => v = .string y.key,
                fun v _ => v = .slice (some ⟨b0, off0, none⟩) L cap,
                fun v _ => v = .int .i64 (n : Int),
                fun v _ => v = .pointer (some ⟨b0, off0 + n * 5, none⟩),
                fun v _ => v = .pointer (some ⟨b0, off0 + n * 5, none⟩),
                fun v _ => v = .string x.key,
                fun v _ => v = .string key0,
                fun v _ => v = .bool q,
                fun v _ => v = .bool q,
                fun v _ => v = .bool false,
                fun v _ => v = .bool false] hmx (by kernel_rfl) ?_ ?_ ?_
            · intro p hp
              simp only [List.mem_cons, List.not_mem_nil, or_false] at hp
              rcases hp with rfl | rfl | rfl | rfl | rfl | rfl | rfl | rfl | rfl | rfl | rfl | rfl | rfl | rfl | rfl | rfl | rfl | rfl | rfl | rfl | rfl | rfl | rfl | rfl | rfl | rfl | rfl | rfl | rfl | rfl | rfl | rfl | rfl | rfl | rfl | rfl | rfl
              all_goals first
                | exact AnyOrder.stays_const _
            · simp only [AnyOrder.dstsOf, List.map_cons, List.map_nil, AnyOrder.GSteps, Nat.zero_add, Nat.reduceAdd]
              refine ⟨?_, ?_, ?_, ?_, ?_, ?_, ?_, ?_, ?_, ?_, ?_, ?_, ?_, ?_, ?_, ?_, ?_, ?_, ?_, ?_, ?_, ?_, ?_, ?_, ?_, ?_, ?_, ?_, ?_, ?_, ?_, ?_, ?_, ?_, ?_, ?_, ?_, trivial⟩
              · intro ρ w' hk
                have k6 : ρ (.tmp 6) = .int .i64 (n : Int) := hk.old 6 rfl
                clear hk
                go_simp
                exact ⟨AnyOrder.Grows.refl _, by first | rfl | (simp [AnyOrder.nth]; done) | (simp [AnyOrder.nth]; omega)⟩
              · intro ρ w' hk
                have k5 : ρ (.tmp 5) = .int .i64 (n : Int) := hk.old 5 rfl
                clear hk
                go_simp
                exact ⟨AnyOrder.Grows.refl _, by first | rfl | (simp [AnyOrder.nth]; done) | (simp [AnyOrder.nth]; omega)⟩
              · intro ρ w' hk
                have k47 : ρ (.tmp 47) = .int .i64 (n : Int) := hk.at 0 rfl
                have k48 : ρ (.tmp 48) = .int .i64 (n : Int) := hk.at 1 rfl
                clear hk
                go_simp
                exact ⟨AnyOrder.Grows.refl _, by first | rfl | (simp [AnyOrder.nth]; done) | (simp [AnyOrder.nth]; omega)⟩
              · intro ρ w' hk
                have k49 : ρ (.tmp 49) = .bool false := hk.at 2 rfl
                clear hk
                go_simp
                exact ⟨AnyOrder.Grows.refl _, by first | rfl | (simp [AnyOrder.nth]; done) | (simp [AnyOrder.nth]; omega)⟩
              · intro ρ w' hk
                refine AnyOrder.guard_run (hk.at 3 rfl) ?_
                have k7 : ρ (.tmp 7) = .bool true := hk.old 7 rfl
                clear hk
                go_simp
                exact ⟨AnyOrder.Grows.refl _, by first | rfl | (simp [AnyOrder.nth]; done) | (simp [AnyOrder.nth]; omega)⟩
              · intro ρ w' hk
                refine AnyOrder.guard_run (hk.at 3 rfl) ?_
                have k51 : ρ (.tmp 51) = .bool true := hk.at 4 rfl
                clear hk
                go_simp
                exact ⟨AnyOrder.Grows.refl _, by first | rfl | (simp [AnyOrder.nth]; done) | (simp [AnyOrder.nth]; omega)⟩
              · intro ρ w' hk
                have k50 : ρ (.tmp 50) = .bool false := hk.at 3 rfl
                have k52 : ρ (.tmp 52) = .bool false := hk.at 5 rfl
                have kc := hk.const
                clear hk
                go_simp
                exact ⟨AnyOrder.Grows.refl _, by first | rfl | (simp [AnyOrder.nth]; done) | (simp [AnyOrder.nth]; omega)⟩
              · intro ρ w' hk
                have k53 : ρ (.tmp 53) = .bool false := hk.at 6 rfl
                clear hk
                go_simp
                exact ⟨AnyOrder.Grows.refl _, by first | rfl | (simp [AnyOrder.nth]; done) | (simp [AnyOrder.nth]; omega)⟩
              · intro ρ w' hk
                refine AnyOrder.guard_run (hk.at 7 rfl) ?_
                have k8 : ρ (.tmp 8) = .int .i64 ((n : Int) + 1) := hk.old 8 rfl
                clear hk
                go_simp
                exact ⟨AnyOrder.Grows.refl _, by first | rfl | (simp [AnyOrder.nth]; done) | (simp [AnyOrder.nth]; omega)⟩
              · intro ρ w' hk
                refine AnyOrder.guard_run (hk.at 7 rfl) ?_
                have k5 : ρ (.tmp 5) = .int .i64 (n : Int) := hk.old 5 rfl
                clear hk
                go_simp
                exact ⟨AnyOrder.Grows.refl _, by first | rfl | (simp [AnyOrder.nth]; done) | (simp [AnyOrder.nth]; omega)⟩
              · intro ρ w' hk
                refine AnyOrder.guard_run (hk.at 7 rfl) ?_
                have k56 : ρ (.tmp 56) = .int .i64 (n : Int) := hk.at 9 rfl
                have kc := hk.const
                clear hk
                go_simp
                exact ⟨AnyOrder.Grows.refl _, by first | rfl | (simp [AnyOrder.nth]; done) | (simp [AnyOrder.nth]; omega)⟩
              · intro ρ w' hk
                refine AnyOrder.guard_run (hk.at 7 rfl) ?_
                have k55 : ρ (.tmp 55) = .int .i64 ((n : Int) + 1) := hk.at 8 rfl
                have k57 : ρ (.tmp 57) = .int .i64 ((n : Int) + 1) := hk.at 10 rfl
                clear hk
                go_simp
                exact ⟨AnyOrder.Grows.refl _, by first | rfl | (simp [AnyOrder.nth]; done) | (simp [AnyOrder.nth]; omega)⟩
              · intro ρ w' hk
                have k54 : ρ (.tmp 54) = .bool false := hk.at 7 rfl
                have k58 : ρ (.tmp 58) = .bool false := hk.at 11 rfl
                have kc := hk.const
                clear hk
                go_simp
                exact ⟨AnyOrder.Grows.refl _, by first | rfl | (simp [AnyOrder.nth]; done) | (simp [AnyOrder.nth]; omega)⟩
              · intro ρ w' hk
                have k59 : ρ (.tmp 59) = .bool false := hk.at 12 rfl
                clear hk
                go_simp
                exact ⟨AnyOrder.Grows.refl _, by first | rfl | (simp [AnyOrder.nth]; done) | (simp [AnyOrder.nth]; omega)⟩
              · intro ρ w' hk
                refine AnyOrder.guard_run (hk.at 13 rfl) ?_
                have k9 : ρ (.tmp 9) = .bool q := hk.old 9 rfl
                clear hk
                go_simp
                exact ⟨AnyOrder.Grows.refl _, by first | rfl | (simp [AnyOrder.nth]; done) | (simp [AnyOrder.nth]; omega)⟩
              · intro ρ w' hk
                refine AnyOrder.guard_run (hk.at 13 rfl) ?_
                have k5 : ρ (.tmp 5) = .int .i64 (n : Int) := hk.old 5 rfl
                clear hk
                go_simp
                exact ⟨AnyOrder.Grows.refl _, by first | rfl | (simp [AnyOrder.nth]; done) | (simp [AnyOrder.nth]; omega)⟩
              · intro ρ w' hk
                refine AnyOrder.guard_run (hk.at 13 rfl) ?_
                have k62 : ρ (.tmp 62) = .int .i64 (n : Int) := hk.at 15 rfl
                have kc := hk.const
                clear hk
                go_simp
                exact ⟨AnyOrder.Grows.refl _, by first | rfl | (simp [AnyOrder.nth]; done) | (simp [AnyOrder.nth]; omega)⟩
              · intro ρ w' hk
                refine AnyOrder.guard_run (hk.at 13 rfl) ?_
                have k1 : ρ (.tmp 1) = .slice (some ⟨b0, off0, none⟩) L cap := hk.old 1 rfl
                clear hk
                go_simp
                exact ⟨AnyOrder.Grows.refl _, by first | rfl | (simp [AnyOrder.nth]; done) | (simp [AnyOrder.nth]; omega)⟩
              · intro ρ w' hk
                refine AnyOrder.guard_run (hk.at 13 rfl) ?_
                have k64 : ρ (.tmp 64) = .slice (some ⟨b0, off0, none⟩) L cap := hk.at 17 rfl
                clear hk
                go_simp
                exact ⟨AnyOrder.Grows.refl _, by first | rfl | (simp [AnyOrder.nth]; done) | (simp [AnyOrder.nth]; omega)⟩
              · intro ρ w' hk
                refine AnyOrder.guard_run (hk.at 13 rfl) ?_
                have k63 : ρ (.tmp 63) = .int .i64 ((n : Int) + 1) := hk.at 16 rfl
                have k65 : ρ (.tmp 65) = .int .i64 (L : Int) := hk.at 18 rfl
                clear hk
                go_simp
                exact ⟨AnyOrder.Grows.refl _, by first | rfl | (simp [AnyOrder.nth]; done) | (simp [AnyOrder.nth]; omega)⟩
              · intro ρ w' hk
                refine AnyOrder.guard_run (hk.at 13 rfl) ?_
                have k66 : ρ (.tmp 66) = .bool true := hk.at 19 rfl
                clear hk
                go_simp
                exact ⟨AnyOrder.Grows.refl _, by first | rfl | (simp [AnyOrder.nth]; done) | (simp [AnyOrder.nth]; omega)⟩
              · intro ρ w' hk
                refine AnyOrder.guard_run (hk.at 20 rfl) ?_
                have k1 : ρ (.tmp 1) = .slice (some ⟨b0, off0, none⟩) L cap := hk.old 1 rfl
                clear hk
                go_simp
                exact ⟨AnyOrder.Grows.refl _, by first | rfl | (simp [AnyOrder.nth]; done) | (simp [AnyOrder.nth]; omega)⟩
              · intro ρ w' hk
                refine AnyOrder.guard_run (hk.at 20 rfl) ?_
                have k5 : ρ (.tmp 5) = .int .i64 (n : Int) := hk.old 5 rfl
                clear hk
                go_simp
                exact ⟨AnyOrder.Grows.refl _, by first | rfl | (simp [AnyOrder.nth]; done) | (simp [AnyOrder.nth]; omega)⟩
              · intro ρ w' hk
                refine AnyOrder.guard_run (hk.at 20 rfl) ?_
                have k69 : ρ (.tmp 69) = .int .i64 (n : Int) := hk.at 22 rfl
                have kc := hk.const
                clear hk
                go_simp
                exact ⟨AnyOrder.Grows.refl _, by first | rfl | (simp [AnyOrder.nth]; done) | (simp [AnyOrder.nth]; omega)⟩
              · intro ρ w' hk
                refine AnyOrder.guard_run (hk.at 20 rfl) ?_
                have k68 : ρ (.tmp 68) = .slice (some ⟨b0, off0, none⟩) L cap := hk.at 21 rfl
                have k70 : ρ (.tmp 70) = .int .i64 ((n : Int) + 1) := hk.at 23 rfl
                clear hk
                go_simp
                exact ⟨AnyOrder.Grows.refl _, by first | rfl | (simp [AnyOrder.nth]; done) | (simp [AnyOrder.nth]; omega)⟩
              · intro ρ w' hk
                refine AnyOrder.guard_run (hk.at 20 rfl) ?_
                have k71 : ρ (.tmp 71) = .pointer (some ⟨b0, off0 + (n + 1) * 5, none⟩) := hk.at 24 rfl
                clear hk
                go_simp
                exact ⟨AnyOrder.Grows.refl _, by first | rfl | (simp [AnyOrder.nth]; done) | (simp [AnyOrder.nth]; omega)⟩
              · intro ρ w' hk
                refine AnyOrder.guard_run (hk.at 20 rfl) ?_
                have k72 : ρ (.tmp 72) = .pointer (some ⟨b0, off0 + (n + 1) * 5, none⟩) := hk.at 25 rfl
                have m0 := AnyOrder.cell_grows hk.world c9
                clear hk
                go_simp
                exact ⟨AnyOrder.Grows.refl _, by first | rfl | (simp [AnyOrder.nth]; done) | (simp [AnyOrder.nth]; omega)⟩
              · intro ρ w' hk
                refine AnyOrder.guard_run (hk.at 20 rfl) ?_
                have k1 : ρ (.tmp 1) = .slice (some ⟨b0, off0, none⟩) L cap := hk.old 1 rfl
                clear hk
                go_simp
                exact ⟨AnyOrder.Grows.refl _, by first | rfl | (simp [AnyOrder.nth]; done) | (simp [AnyOrder.nth]; omega)⟩
              · intro ρ w' hk
                refine AnyOrder.guard_run (hk.at 20 rfl) ?_
                have k5 : ρ (.tmp 5) = .int .i64 (n : Int) := hk.old 5 rfl
                clear hk
                go_simp
                exact ⟨AnyOrder.Grows.refl _, by first | rfl | (simp [AnyOrder.nth]; done) | (simp [AnyOrder.nth]; omega)⟩
              · intro ρ w' hk
                refine AnyOrder.guard_run (hk.at 20 rfl) ?_
                have k74 : ρ (.tmp 74) = .slice (some ⟨b0, off0, none⟩) L cap := hk.at 27 rfl
                have k75 : ρ (.tmp 75) = .int .i64 (n : Int) := hk.at 28 rfl
                clear hk
                go_simp
                exact ⟨AnyOrder.Grows.refl _, by first | rfl | (simp [AnyOrder.nth]; done) | (simp [AnyOrder.nth]; omega)⟩
              · intro ρ w' hk
                refine AnyOrder.guard_run (hk.at 20 rfl) ?_
                have k76 : ρ (.tmp 76) = .pointer (some ⟨b0, off0 + n * 5, none⟩) := hk.at 29 rfl
                clear hk
                go_simp
                exact ⟨AnyOrder.Grows.refl _, by first | rfl | (simp [AnyOrder.nth]; done) | (simp [AnyOrder.nth]; omega)⟩
              · intro ρ w' hk
                refine AnyOrder.guard_run (hk.at 20 rfl) ?_
                have k77 : ρ (.tmp 77) = .pointer (some ⟨b0, off0 + n * 5, none⟩) := hk.at 30 rfl
                have m0 := AnyOrder.cell_grows hk.world c4
                clear hk
                go_simp
                exact ⟨AnyOrder.Grows.refl _, by first | rfl | (simp [AnyOrder.nth]; done) | (simp [AnyOrder.nth]; omega)⟩
              · intro ρ w' hk
                refine AnyOrder.guard_run (hk.at 20 rfl) ?_
                have k78 : ρ (.tmp 78) = .string x.key := hk.at 31 rfl
                have kc := hk.const
                have kw := AnyOrder.Grows.of_drew hk.world
                clear hk
                have hk9 := HKY.out
                go_simp
                exact ⟨AnyOrder.Grows.refl _, by first | rfl | (simp [AnyOrder.nth]; done) | (simp [AnyOrder.nth]; omega)⟩
              · intro ρ w' hk
                refine AnyOrder.guard_run (hk.at 20 rfl) ?_
                have k73 : ρ (.tmp 73) = .string y.key := hk.at 26 rfl
                have k79 : ρ (.tmp 79) = .string key0 := hk.at 32 rfl
                clear hk
                go_simp
                exact ⟨AnyOrder.Grows.refl _, by first | rfl | (simp [AnyOrder.nth]; done) | (simp [AnyOrder.nth]; omega)⟩
              · intro ρ w' hk
                refine AnyOrder.guard_run (hk.at 13 rfl) ?_
                have k67 : ρ (.tmp 67) = .bool true := hk.at 20 rfl
                have k80 : ρ (.tmp 80) = .bool q := hk.at 33 rfl
                have kc := hk.const
                clear hk
                go_simp
                exact ⟨AnyOrder.Grows.refl _, by first | rfl | (simp [AnyOrder.nth]; done) | (simp [AnyOrder.nth]; omega)⟩
              · intro ρ w' hk
                refine AnyOrder.guard_run (hk.at 13 rfl) ?_
                have k61 : ρ (.tmp 61) = .bool q := hk.at 14 rfl
                have k81 : ρ (.tmp 81) = .bool q := hk.at 34 rfl
                clear hk
                go_simp
                exact ⟨AnyOrder.Grows.refl _, by first | rfl | (simp [AnyOrder.nth]; done) | (simp [AnyOrder.nth]; omega)⟩
              · intro ρ w' hk
                have k60 : ρ (.tmp 60) = .bool false := hk.at 13 rfl
                have k82 : ρ (.tmp 82) = .bool false := hk.at 35 rfl
                have kc := hk.const
                clear hk
                go_simp
                exact ⟨AnyOrder.Grows.refl _, by first | rfl | (simp [AnyOrder.nth]; done) | (simp [AnyOrder.nth]; omega)⟩
            · intro vs w9 hR9 hv9
              have hG9 := AnyOrder.Grows.of_drew hR9
              have v36 : vs 36 = .bool false := hv9 36 (by decide)
              clear hR9 hv9
              simp only [AnyOrder.fill, Nat.zero_add, Nat.reduceAdd, List.setIfInBounds_toArray, List.set_cons_zero, List.set_cons_succ]
              rw [v36]
              clear v36
              have HB9 := hid (HB4.out.trans (hG9.mono HB4.out.size))
              clear hG9 c4 c9 hq2
              go_wp2_with fail
              go_roundw
              case rel => exact ⟨n + 1, HJ1.out, by go_num, HB9.out⟩
              case measure => simp [intOf]; have := HJ.out; omega
          · have hha : hasAt xs key0 (n + 1) = false := hasAt_none (by rw [HL.out]; omega)
            rw [hha]
            have i8 : ¬ (n : Int) + 1 < (L : Int) := by omega
            have HJ1 := hid (show n + 1 ≤ L from HJ.out)
            clear hha hn1
            refine AnyOrder.wp_region_grows_g [
                fun v _ => v = .int .i64 (n : Int),
                fun v _ => v = .int .i64 (n : Int),
                fun v _ => v = .bool false,
                fun v _ => v = .bool false,
                fun v _ => v = .bool true,
                fun v _ => v = .bool false,
                fun v _ => v = .bool false,
                fun v _ => v = .bool false,
                fun v _ => v = .int .i64 ((n : Int) + 1),
                fun v _ => v = .int .i64 (n : Int),
                fun v _ => v = .int .i64 ((n : Int) + 1),
                fun v _ => v = .bool false,
                fun v _ => v = .bool false,
                fun v _ => v = .bool false,
                fun v _ => v = .bool false,
                fun v _ => v = .int .i64 (n : Int),
                fun v _ => v = .int .i64 ((n : Int) + 1),
                fun v _ => v = .slice (some ⟨b0, off0, none⟩) L cap,
                fun v _ => v = .int .i64 (L : Int),
                fun v _ => v = .bool false,
                fun v _ => v = .bool false,
                fun v _ => v = undef,
                fun v _ => v = undef,
                fun v _ => v = undef,
                fun v _ => v = undef,
                fun v _ => v = undef,
                fun v _ => v = undef,
                fun v _ => v = undef,
                fun v _ => v = undef,
                fun v _ => v = undef,
                fun v _ => v = undef,
                fun v _ => v = undef,
                fun v _ => v = undef,
                fun v _ => v = undef,
                fun v _ => v = .bool false,
                fun v _ => v = .bool false,
                fun v _ => v = .bool false] hmx (by kernel_rfl) ?_ ?_ ?_
            · intro p hp
              simp only [List.mem_cons, List.not_mem_nil, or_false] at hp
              rcases hp with rfl | rfl | rfl | rfl | rfl | rfl | rfl | rfl | rfl | rfl | rfl | rfl | rfl | rfl | rfl | rfl | rfl | rfl | rfl | rfl | rfl | rfl | rfl | rfl | rfl | rfl | rfl | rfl | rfl | rfl | rfl | rfl | rfl | rfl | rfl | rfl | rfl
              all_goals first
                | exact AnyOrder.stays_const _
            · simp only [AnyOrder.dstsOf, List.map_cons, List.map_nil, AnyOrder.GSteps, Nat.zero_add, Nat.reduceAdd]
              refine ⟨?_, ?_, ?_, ?_, ?_, ?_, ?_, ?_, ?_, ?_, ?_, ?_, ?_, ?_, ?_, ?_, ?_, ?_, ?_, ?_, ?_, ?_, ?_, ?_, ?_, ?_, ?_, ?_, ?_, ?_, ?_, ?_, ?_, ?_, ?_, ?_, ?_, trivial⟩
              · intro ρ w' hk
                have k6 : ρ (.tmp 6) = .int .i64 (n : Int) := hk.old 6 rfl
                clear hk
                go_simp
                exact ⟨AnyOrder.Grows.refl _, by first | rfl | (simp [AnyOrder.nth]; done) | (simp [AnyOrder.nth]; omega)⟩
              · intro ρ w' hk
                have k5 : ρ (.tmp 5) = .int .i64 (n : Int) := hk.old 5 rfl
                clear hk
                go_simp
                exact ⟨AnyOrder.Grows.refl _, by first | rfl | (simp [AnyOrder.nth]; done) | (simp [AnyOrder.nth]; omega)⟩
              · intro ρ w' hk
                have k47 : ρ (.tmp 47) = .int .i64 (n : Int) := hk.at 0 rfl
                have k48 : ρ (.tmp 48) = .int .i64 (n : Int) := hk.at 1 rfl
                clear hk
                go_simp
                exact ⟨AnyOrder.Grows.refl _, by first | rfl | (simp [AnyOrder.nth]; done) | (simp [AnyOrder.nth]; omega)⟩
              · intro ρ w' hk
                have k49 : ρ (.tmp 49) = .bool false := hk.at 2 rfl
                clear hk
                go_simp
                exact ⟨AnyOrder.Grows.refl _, by first | rfl | (simp [AnyOrder.nth]; done) | (simp [AnyOrder.nth]; omega)⟩
              · intro ρ w' hk
                refine AnyOrder.guard_run (hk.at 3 rfl) ?_
                have k7 : ρ (.tmp 7) = .bool true := hk.old 7 rfl
                clear hk
                go_simp
                exact ⟨AnyOrder.Grows.refl _, by first | rfl | (simp [AnyOrder.nth]; done) | (simp [AnyOrder.nth]; omega)⟩
              · intro ρ w' hk
                refine AnyOrder.guard_run (hk.at 3 rfl) ?_
                have k51 : ρ (.tmp 51) = .bool true := hk.at 4 rfl
                clear hk
                go_simp
                exact ⟨AnyOrder.Grows.refl _, by first | rfl | (simp [AnyOrder.nth]; done) | (simp [AnyOrder.nth]; omega)⟩
              · intro ρ w' hk
                have k50 : ρ (.tmp 50) = .bool false := hk.at 3 rfl
                have k52 : ρ (.tmp 52) = .bool false := hk.at 5 rfl
                have kc := hk.const
                clear hk
                go_simp
                exact ⟨AnyOrder.Grows.refl _, by first | rfl | (simp [AnyOrder.nth]; done) | (simp [AnyOrder.nth]; omega)⟩
              · intro ρ w' hk
                have k53 : ρ (.tmp 53) = .bool false := hk.at 6 rfl
                clear hk
                go_simp
                exact ⟨AnyOrder.Grows.refl _, by first | rfl | (simp [AnyOrder.nth]; done) | (simp [AnyOrder.nth]; omega)⟩
              · intro ρ w' hk
                refine AnyOrder.guard_run (hk.at 7 rfl) ?_
                have k8 : ρ (.tmp 8) = .int .i64 ((n : Int) + 1) := hk.old 8 rfl
                clear hk
                go_simp
                exact ⟨AnyOrder.Grows.refl _, by first | rfl | (simp [AnyOrder.nth]; done) | (simp [AnyOrder.nth]; omega)⟩
              · intro ρ w' hk
                refine AnyOrder.guard_run (hk.at 7 rfl) ?_
                have k5 : ρ (.tmp 5) = .int .i64 (n : Int) := hk.old 5 rfl
                clear hk
                go_simp
                exact ⟨AnyOrder.Grows.refl _, by first | rfl | (simp [AnyOrder.nth]; done) | (simp [AnyOrder.nth]; omega)⟩
              · intro ρ w' hk
                refine AnyOrder.guard_run (hk.at 7 rfl) ?_
                have k56 : ρ (.tmp 56) = .int .i64 (n : Int) := hk.at 9 rfl
                have kc := hk.const
                clear hk
                go_simp
                exact ⟨AnyOrder.Grows.refl _, by first | rfl | (simp [AnyOrder.nth]; done) | (simp [AnyOrder.nth]; omega)⟩
              · intro ρ w' hk
                refine AnyOrder.guard_run (hk.at 7 rfl) ?_
                have k55 : ρ (.tmp 55) = .int .i64 ((n : Int) + 1) := hk.at 8 rfl
                have k57 : ρ (.tmp 57) = .int .i64 ((n : Int) + 1) := hk.at 10 rfl
                clear hk
                go_simp
                exact ⟨AnyOrder.Grows.refl _, by first | rfl | (simp [AnyOrder.nth]; done) | (simp [AnyOrder.nth]; omega)⟩
              · intro ρ w' hk
                have k54 : ρ (.tmp 54) = .bool false := hk.at 7 rfl
                have k58 : ρ (.tmp 58) = .bool false := hk.at 11 rfl
                have kc := hk.const
                clear hk
                go_simp
                exact ⟨AnyOrder.Grows.refl _, by first | rfl | (simp [AnyOrder.nth]; done) | (simp [AnyOrder.nth]; omega)⟩
              · intro ρ w' hk
                have k59 : ρ (.tmp 59) = .bool false := hk.at 12 rfl
                clear hk
                go_simp
                exact ⟨AnyOrder.Grows.refl _, by first | rfl | (simp [AnyOrder.nth]; done) | (simp [AnyOrder.nth]; omega)⟩
              · intro ρ w' hk
                refine AnyOrder.guard_run (hk.at 13 rfl) ?_
                have k9 : ρ (.tmp 9) = .bool false := hk.old 9 rfl
                clear hk
                go_simp
                exact ⟨AnyOrder.Grows.refl _, by first | rfl | (simp [AnyOrder.nth]; done) | (simp [AnyOrder.nth]; omega)⟩
              · intro ρ w' hk
                refine AnyOrder.guard_run (hk.at 13 rfl) ?_
                have k5 : ρ (.tmp 5) = .int .i64 (n : Int) := hk.old 5 rfl
                clear hk
                go_simp
                exact ⟨AnyOrder.Grows.refl _, by first | rfl | (simp [AnyOrder.nth]; done) | (simp [AnyOrder.nth]; omega)⟩
              · intro ρ w' hk
                refine AnyOrder.guard_run (hk.at 13 rfl) ?_
                have k62 : ρ (.tmp 62) = .int .i64 (n : Int) := hk.at 15 rfl
                have kc := hk.const
                clear hk
                go_simp
                exact ⟨AnyOrder.Grows.refl _, by first | rfl | (simp [AnyOrder.nth]; done) | (simp [AnyOrder.nth]; omega)⟩
              · intro ρ w' hk
                refine AnyOrder.guard_run (hk.at 13 rfl) ?_
                have k1 : ρ (.tmp 1) = .slice (some ⟨b0, off0, none⟩) L cap := hk.old 1 rfl
                clear hk
                go_simp
                exact ⟨AnyOrder.Grows.refl _, by first | rfl | (simp [AnyOrder.nth]; done) | (simp [AnyOrder.nth]; omega)⟩
              · intro ρ w' hk
                refine AnyOrder.guard_run (hk.at 13 rfl) ?_
                have k64 : ρ (.tmp 64) = .slice (some ⟨b0, off0, none⟩) L cap := hk.at 17 rfl
                clear hk
                go_simp
                exact ⟨AnyOrder.Grows.refl _, by first | rfl | (simp [AnyOrder.nth]; done) | (simp [AnyOrder.nth]; omega)⟩
              · intro ρ w' hk
                refine AnyOrder.guard_run (hk.at 13 rfl) ?_
                have k63 : ρ (.tmp 63) = .int .i64 ((n : Int) + 1) := hk.at 16 rfl
                have k65 : ρ (.tmp 65) = .int .i64 (L : Int) := hk.at 18 rfl
                clear hk
                go_simp
                exact ⟨AnyOrder.Grows.refl _, by first | rfl | (simp [AnyOrder.nth]; done) | (simp [AnyOrder.nth]; omega)⟩
              · intro ρ w' hk
                refine AnyOrder.guard_run (hk.at 13 rfl) ?_
                have k66 : ρ (.tmp 66) = .bool false := hk.at 19 rfl
                clear hk
                go_simp
                exact ⟨AnyOrder.Grows.refl _, by first | rfl | (simp [AnyOrder.nth]; done) | (simp [AnyOrder.nth]; omega)⟩
              · intro ρ w' hk
                exact AnyOrder.guard_skip (hk.at 20 rfl) (fun h => by cases h) rfl
              · intro ρ w' hk
                exact AnyOrder.guard_skip (hk.at 20 rfl) (fun h => by cases h) rfl
              · intro ρ w' hk
                exact AnyOrder.guard_skip (hk.at 20 rfl) (fun h => by cases h) rfl
              · intro ρ w' hk
                exact AnyOrder.guard_skip (hk.at 20 rfl) (fun h => by cases h) rfl
              · intro ρ w' hk
                exact AnyOrder.guard_skip (hk.at 20 rfl) (fun h => by cases h) rfl
              · intro ρ w' hk
                exact AnyOrder.guard_skip (hk.at 20 rfl) (fun h => by cases h) rfl
              · intro ρ w' hk
                exact AnyOrder.guard_skip (hk.at 20 rfl) (fun h => by cases h) rfl
              · intro ρ w' hk
                exact AnyOrder.guard_skip (hk.at 20 rfl) (fun h => by cases h) rfl
              · intro ρ w' hk
                exact AnyOrder.guard_skip (hk.at 20 rfl) (fun h => by cases h) rfl
              · intro ρ w' hk
                exact AnyOrder.guard_skip (hk.at 20 rfl) (fun h => by cases h) rfl
              · intro ρ w' hk
                exact AnyOrder.guard_skip (hk.at 20 rfl) (fun h => by cases h) rfl
              · intro ρ w' hk
                exact AnyOrder.guard_skip (hk.at 20 rfl) (fun h => by cases h) rfl
              · intro ρ w' hk
                exact AnyOrder.guard_skip (hk.at 20 rfl) (fun h => by cases h) rfl
              · intro ρ w' hk
                refine AnyOrder.guard_run (hk.at 13 rfl) ?_
                have k67 : ρ (.tmp 67) = .bool false := hk.at 20 rfl
                have k80 : ρ (.tmp 80) = undef := hk.at 33 rfl
                have kc := hk.const
                clear hk
                go_simp
                exact ⟨AnyOrder.Grows.refl _, by first | rfl | (simp [AnyOrder.nth]; done) | (simp [AnyOrder.nth]; omega)⟩
              · intro ρ w' hk
                refine AnyOrder.guard_run (hk.at 13 rfl) ?_
                have k61 : ρ (.tmp 61) = .bool false := hk.at 14 rfl
                have k81 : ρ (.tmp 81) = .bool false := hk.at 34 rfl
                clear hk
                go_simp
                exact ⟨AnyOrder.Grows.refl _, by first | rfl | (simp [AnyOrder.nth]; done) | (simp [AnyOrder.nth]; omega)⟩
              · intro ρ w' hk
                have k60 : ρ (.tmp 60) = .bool false := hk.at 13 rfl
                have k82 : ρ (.tmp 82) = .bool false := hk.at 35 rfl
                have kc := hk.const
                clear hk
                go_simp
                exact ⟨AnyOrder.Grows.refl _, by first | rfl | (simp [AnyOrder.nth]; done) | (simp [AnyOrder.nth]; omega)⟩
            · intro vs w9 hR9 hv9
              have hG9 := AnyOrder.Grows.of_drew hR9
              have v36 : vs 36 = .bool false := hv9 36 (by decide)
              clear hR9 hv9
              simp only [AnyOrder.fill, Nat.zero_add, Nat.reduceAdd, List.setIfInBounds_toArray, List.set_cons_zero, List.set_cons_succ]
              rw [v36]
              clear v36
              have HB9 := hid (HB4.out.trans (hG9.mono HB4.out.size))
              clear hG9 c4
              go_wp2_with fail
              go_roundw
              case rel => exact ⟨n + 1, HJ1.out, by go_num, HB9.out⟩
              case measure => simp [intOf]; have := HJ.out; omega
        · obtain rfl : j = L := by omega
          have i0 : ¬ (j : Int) < (j : Int) := by omega
          have HK4 := hid (known_end' w wr HBR.out)
          clear hlt hj
          go_wp2_with fail
          refine HK4.out.mono ?_
          rintro e w5 ⟨rfl, b5⟩
          have HB5 := hid b5
          clear b5
          go_wp2_with fail
          go_ret
          exact ⟨rfl, HB5.out⟩
    · have hr' : rightC k xs = false := by simpa using hr
      rw [hr']
      clear hr hr'
      go_wp2_with fail
      refine HK2.out.mono ?_
      rintro e w3 ⟨rfl, b3⟩
      have HB3 := hid b3
      clear b3
      go_wp2_with fail
      go_ret
      exact ⟨rfl, HB3.out⟩
set_option maxRecDepth 100000 in
theorem slotsAll_open {H : Type} (enc : TypeId × Value → H) (W : World) (base : Nat) (v0 v1 : Value) (d0 d1 : DataW H) (p0 p1 : List MemPlace) (o0 : Value.okWide Try.prog W .any base 60 v0) (o1 : Value.okWide Try.prog W .any base 61 v1)
    (h0 : DataW.Trod enc Try.prog W 0 (fun _ => true) true 60 v0 d0 p0) (h1 : DataW.Trod enc Try.prog W 0 (fun _ => true) true 61 v1 d1 p1) :
    Calls Try.prog 13 #[v0, v1] W fun e w' => e = .returned (.bool true) ∧ Below W.heap.size W w' := by
  obtain ⟨k, rfl, -⟩ := open_int Try.underlying60 o0 h0
  obtain ⟨xs, hx⟩ := cells_of enc W base v1 d1 p1 o1 h1
  exact sall_walk k v1 xs W hx
end Go.Proofs.Ytkpadhjlopcejaa
