/-
  Where a key stands: the walks of first, Find, and the document's Find (printed by mkfind.py).
-/
import Derived.Test.YtkpadhjlopcejaaSCheck
namespace Go.Proofs.Ytkpadhjlopcejaa
open Go.RowKit
/-- what the closure has caught -/
structure Caught (w : World) (b2 b3 : Nat) (a : Option Addr) (cap : Nat) (xs : List Cl) (key : ByteArray) : Prop where
  cells : CellsIn (fun q => q < w.heap.size) w a xs
  c2 : w.cell? ⟨b2, 0, none⟩ = some (.slice a xs.length cap)
  c3 : w.cell? ⟨b3, 0, none⟩ = some (.string key)
theorem Caught.grows {w w' : World} {b2 b3 : Nat} {a : Option Addr} {cap : Nat} {xs : List Cl} {key : ByteArray} (h : Caught w b2 b3 a cap xs key) (hb : Below w.heap.size w w') : Caught w' b2 b3 a cap xs key :=
  ⟨(h.cells.kept (Kept.of_below hb fun _ h => h)).mono fun _ hk => Nat.lt_of_lt_of_le hk hb.size, by rw [hb.cell (p := ⟨b2, 0, none⟩) (cell_lt h.c2)]; exact h.c2, by rw [hb.cell (p := ⟨b3, 0, none⟩) (cell_lt h.c3)]; exact h.c3⟩
def BoolEnd (b : Bool) (w : World) (e : Ending) (w' : World) : Prop := e = .returned (.bool b) ∧ Below w.heap.size w w'
set_option maxRecDepth 100000 in
set_option maxHeartbeats 2000000 in
theorem caught_calls (w : World) (b2 b3 : Nat) (a : Option Addr) (cap : Nat) (xs : List Cl) (key : ByteArray) (h : Caught w b2 b3 a cap xs key) (k : Nat) (hk : k < xs.length) :
    Calls Try.prog 67 #[.int .i64 (k : Int), .pointer (some ⟨b2, 0, none⟩), .pointer (some ⟨b3, 0, none⟩)] w (BoolEnd (!keyLt xs[k].key key) w) := by
  have hmx : Try.prog.follows .mixedOrders = true := by kernel_rfl
  obtain ⟨b0, off0, rfl, ho0, h0, -, -, -, -⟩ := h.cells.at hk
  have c2 := h.c2
  have c3 := h.c3
  have i0 : (k : Int) < (xs.length : Int) := by omega
  generalize xs[k] = x at *
  generalize xs.length = L at *
  have hlt : Op.bytesLess x.key.toList key.toList = keyLt x.key key := rfl
  generalize keyLt x.key key = r at *
  clear h hk
  go_enter Try.func67, Try.ntmps67
  go_wp2_with fail
  refine AnyOrder.wp_region_grows_g [
      fun v _ => v = .slice (some ⟨b0, off0, none⟩) L cap,
      fun v _ => v = .int .i64 (k : Int),
      fun v _ => v = .pointer (some ⟨b0, off0 + k * 5, none⟩),
      fun v _ => v = .pointer (some ⟨b0, off0 + k * 5, none⟩),
      fun v _ => v = .string x.key,
      fun v _ => v = .string key,
      fun v _ => v = .bool (!r),
      fun v _ => v = .bool (!r)] hmx (by kernel_rfl) ?_ ?_ ?_
  · intro p hp
    simp only [List.mem_cons, List.not_mem_nil, or_false] at hp
    rcases hp with rfl | rfl | rfl | rfl | rfl | rfl | rfl | rfl
    all_goals first
      | exact AnyOrder.stays_const _
  · simp only [AnyOrder.dstsOf, List.map_cons, List.map_nil, AnyOrder.GSteps, Nat.zero_add, Nat.reduceAdd]
    refine ⟨?_, ?_, ?_, ?_, ?_, ?_, ?_, ?_, trivial⟩
    · intro ρ w' hk
      have k1 : ρ (.tmp 1) = .pointer (some ⟨b2, 0, none⟩) := hk.old 1 rfl
      have m0 := AnyOrder.cell_grows hk.world c2
      clear hk
      go_simp
      exact ⟨AnyOrder.Grows.refl _, by first | rfl | (simp [AnyOrder.nth]; done) | (simp [AnyOrder.nth]; omega)⟩
    · intro ρ w' hk
      have k0 : ρ (.tmp 0) = .int .i64 (k : Int) := hk.old 0 rfl
      clear hk
      go_simp
      exact ⟨AnyOrder.Grows.refl _, by first | rfl | (simp [AnyOrder.nth]; done) | (simp [AnyOrder.nth]; omega)⟩
    · intro ρ w' hk
      have k5 : ρ (.tmp 5) = .slice (some ⟨b0, off0, none⟩) L cap := hk.at 0 rfl
      have k6 : ρ (.tmp 6) = .int .i64 (k : Int) := hk.at 1 rfl
      clear hk
      go_simp
      exact ⟨AnyOrder.Grows.refl _, by first | rfl | (simp [AnyOrder.nth]; done) | (simp [AnyOrder.nth]; omega)⟩
    · intro ρ w' hk
      have k7 : ρ (.tmp 7) = .pointer (some ⟨b0, off0 + k * 5, none⟩) := hk.at 2 rfl
      clear hk
      go_simp
      exact ⟨AnyOrder.Grows.refl _, by first | rfl | (simp [AnyOrder.nth]; done) | (simp [AnyOrder.nth]; omega)⟩
    · intro ρ w' hk
      have k8 : ρ (.tmp 8) = .pointer (some ⟨b0, off0 + k * 5, none⟩) := hk.at 3 rfl
      have m0 := AnyOrder.cell_grows hk.world h0
      clear hk
      go_simp
      exact ⟨AnyOrder.Grows.refl _, by first | rfl | (simp [AnyOrder.nth]; done) | (simp [AnyOrder.nth]; omega)⟩
    · intro ρ w' hk
      have k2 : ρ (.tmp 2) = .pointer (some ⟨b3, 0, none⟩) := hk.old 2 rfl
      have m0 := AnyOrder.cell_grows hk.world c3
      clear hk
      go_simp
      exact ⟨AnyOrder.Grows.refl _, by first | rfl | (simp [AnyOrder.nth]; done) | (simp [AnyOrder.nth]; omega)⟩
    · intro ρ w' hk
      have k9 : ρ (.tmp 9) = .string x.key := hk.at 4 rfl
      have k10 : ρ (.tmp 10) = .string key := hk.at 5 rfl
      clear hk
      go_simp
      exact ⟨AnyOrder.Grows.refl _, by first | rfl | (simp [AnyOrder.nth]; done) | (simp [AnyOrder.nth]; omega)⟩
    · intro ρ w' hk
      have k11 : ρ (.tmp 11) = .bool (!r) := hk.at 6 rfl
      clear hk
      go_simp
      exact ⟨AnyOrder.Grows.refl _, by first | rfl | (simp [AnyOrder.nth]; done) | (simp [AnyOrder.nth]; omega)⟩
  · intro vs w9 hR9 hv9
    have hG9 := AnyOrder.Grows.of_drew hR9
    have v7 : vs 7 = .bool (!r) := hv9 7 (by decide)
    clear hR9 hv9
    simp only [AnyOrder.fill, Nat.zero_add, Nat.reduceAdd, List.setIfInBounds_toArray, List.set_cons_zero, List.set_cons_succ]
    rw [v7]
    clear v7
    have HG := hid hG9
    go_wp2_with fail
    go_ret
    exact ⟨rfl, HG.out⟩
def FirstEnd (xs : List Cl) (key : ByteArray) (w : World) (e : Ending) (w' : World) : Prop := ∃ n : Nat, e = .returned (.int .i64 (n : Int)) ∧ IsAt xs key n ∧ Below w.heap.size w w'
set_option maxRecDepth 100000 in
set_option maxHeartbeats 2000000 in
theorem first_calls (w : World) (b2 b3 : Nat) (a : Option Addr) (cap : Nat) (xs : List Cl) (key : ByteArray) (h : Caught w b2 b3 a cap xs key) (hr : Rising xs) (hn : xs.length ≤ 1099511627776) :
    Calls Try.prog 66 #[.int .i64 (xs.length : Int), .func (.func 67) #[] #[.pointer (some ⟨b2, 0, none⟩), .pointer (some ⟨b3, 0, none⟩)]] w (FirstEnd xs key w) := by
  have H := hid h
  have HR := hid hr
  generalize hL : xs.length = L at *
  have HL := hid hL
  have HN := hid hn
  clear h hr hL hn
  go_enter Try.func66, Try.ntmps66
  go_wp2_with fail
  go_loopw [0, 5] (fun n m wr => ∃ lo hi : Nat, lo ≤ hi ∧ hi ≤ L ∧ n = .int .i64 (hi : Int) ∧ m = .int .i64 (lo : Int) ∧ Hid (∀ i (h : i < xs.length), i < lo → keyLt (xs[i]).key key = true) ∧ Hid (∀ h : hi < xs.length, keyLt (xs[hi]).key key = false) ∧ Below w.heap.size w wr) (fun n m _ => (intOf n).toNat - (intOf m).toNat)
  case atStart => exact ⟨0, L, Nat.zero_le _, Nat.le_refl _, rfl, rfl, fun i _ h => absurd h (Nat.not_lt_zero _), fun h => absurd h (by rw [HL.out]; omega), Below.refl _ _⟩
  case round =>
    obtain ⟨lo, hi, h1, h2, rfl, rfl, HLO, HHI, hb⟩ := hrel
    have HB := hid hb
    clear hb
    by_cases hlt : lo < hi
    · obtain ⟨mid, hmid⟩ : ∃ m, m = (lo + hi) / 2 := ⟨_, rfl⟩
      have hml : mid < xs.length := by rw [HL.out]; omega
      have i0 : (lo : Int) < (hi : Int) := by omega
      have hw1 : IntKind.i64.wrap ((lo : Int) + (hi : Int)) = (lo : Int) + (hi : Int) := IntWalk.i64_in _ (by have := HN.out; omega)
      have hw2 : IntKind.i64.wrap (((lo : Int) + (hi : Int)).tdiv 2) = (mid : Int) := by
        rw [show ((lo : Int) + (hi : Int)).tdiv 2 = (mid : Int) from by rw [Int.tdiv_eq_ediv_of_nonneg (by omega)]; omega]
        exact IntWalk.i64_in _ (by have := HN.out; omega)
      have hw3 : IntKind.i64.wrap ((mid : Int) + 1) = (mid : Int) + 1 := IntWalk.i64_in _ (by have := HN.out; omega)
      have hm1 : lo ≤ mid ∧ mid < hi := by omega
      have HM1 := hid hm1
      have HH := hid h2
      have HLH := hid h1
      have HC := hid (caught_calls wr b2 b3 a cap xs key (H.out.grows (HB.out.mono (by exact Nat.le_refl _))) mid hml)
      have HX := hid (below_mid HR.out hml (key := key))
      have HY := hid (show ∀ h : mid < xs.length, keyLt xs[mid].key key = keyLt xs[mid].key key from fun _ => rfl)
      obtain ⟨r, hre⟩ : ∃ r, keyLt (xs[mid]).key key = r := ⟨_, rfl⟩
      rw [hre] at HX HC
      have HRE := hid hre
      clear hmid hm1 hlt h1 h2 hre HY
      go_wp2_with fail
      refine HC.out.mono ?_
      rintro e w2 ⟨rfl, b2⟩
      have HB2 := hid (HB.out.trans (b2.mono HB.out.size))
      clear b2
      cases r
      · go_wp2_with fail
        go_roundw
        case rel => exact ⟨lo, mid, HM1.out.1, by have := HM1.out.2; have := HH.out; omega, rfl, rfl, HLO.out, fun _ => HRE.out, HB2.out⟩
        case measure => simp [intOf]; have := HM1.out; omega
      · go_wp2_with fail
        go_roundw
        case rel => exact ⟨mid + 1, hi, by have := HM1.out; omega, HH.out, rfl, by go_num, HX.out (by trivial), HHI.out, HB2.out⟩
        case measure => simp [intOf]; have := HM1.out; omega
    · obtain rfl : lo = hi := by omega
      have i0 : ¬ (lo : Int) < (lo : Int) := by omega
      have HH := hid h2
      clear hlt h1 h2
      go_wp2_with fail
      go_ret
      exact ⟨lo, rfl, ⟨by rw [HL.out]; exact HH.out, HLO.out, HHI.out⟩, HB.out⟩
def FindEnd (xs : List Cl) (key : ByteArray) (w : World) (e : Ending) (w' : World) : Prop := ∃ n : Nat, e = .returned (.tuple #[.int .i64 (n : Int), .bool (hasAt xs key n)]) ∧ IsAt xs key n ∧ Below w.heap.size w w'
set_option maxRecDepth 100000 in
set_option maxHeartbeats 2000000 in
theorem find_calls (v : Value) (xs : List Cl) (key : ByteArray) (w : World) (hp : PartC (fun q => q < w.heap.size) w v xs) (hr : Rising xs) (hn : xs.length ≤ 1099511627776) :
    Calls Try.prog 43 #[v, .string key] w (FindEnd xs key w) := by
  have hmx : Try.prog.follows .mixedOrders = true := by kernel_rfl
  have hmf : ∀ (fn : Fn) (first cap : Array Value) (w : World), (Instr.makeFunc fn first cap).run Try.prog w = .ok (.func fn first cap) w := fun _ _ _ _ => rfl
  obtain ⟨a, cap, rfl, hx, hl, hc, -⟩ := hp
  have hb1 : Below w.heap.size w (w.alloc (.cells #[.slice a xs.length cap] 61)) := (Below.refl _ _).alloc (Nat.le_refl _) _
  have hb2 : Below w.heap.size w ((w.alloc (.cells #[.slice a xs.length cap] 61)).alloc (.cells #[.string key] 9)) := hb1.alloc hb1.size _
  have hk1 := Blk.new w [.slice a xs.length cap] 61
  have hk2 := Blk.new (w.alloc (.cells #[.slice a xs.length cap] 61)) [.string key] 9
  have hk3 := hk1.alloc (.cells #[.string key] 9)
  have e1 : (w.alloc (.cells #[.slice a xs.length cap] 61)).heap.size = w.heap.size + 1 := by simp
  rw [e1] at hk2
  have H := hid (show Caught ((w.alloc (.cells #[.slice a xs.length cap] 61)).alloc (.cells #[.string key] 9)) w.heap.size (w.heap.size + 1) a cap xs key from
    ⟨(hx.kept (Kept.of_below hb2 fun _ h => h)).mono fun q hq => by simp; omega, hk3.cell 0, hk2.cell 0⟩)
  have HB2 := hid hb2
  have HF := hid (first_calls _ _ _ a cap xs key H.out hr hn)
  clear hx hl hc hb1 hb2 hk1 hk2 hk3 e1 hr hn
  generalize hL : xs.length = L at *
  go_enter Try.func43, Try.ntmps43
  go_wp2_with fail
  generalize (w.alloc (.cells #[.slice a L cap] 61)).alloc (.cells #[.string key] 9) = w1 at *
  refine HF.out.mono ?_
  rintro e w2 ⟨n, rfl, hat, b2⟩
  have H2 := hid (H.out.grows b2)
  have HB3 := hid (HB2.out.trans (b2.mono HB2.out.size))
  have HAT := hid hat
  have HL := hid hL
  have c2 := H2.out.c2
  have c3 := H2.out.c3
  rw [hL] at c2
  generalize hB : w.heap.size = B at *
  have HBB := hid hB
  clear b2 hat hL hB H HF
  go_wp2_with fail
  by_cases hnl : n < L
  · have hnx : n < xs.length := by rw [HL.out]; exact hnl
    obtain ⟨b0, off0, rfl, ho0, h0, -, -, -, -⟩ := H2.out.cells.at hnx
    have hha := hasAt_eq (key := key) hnx
    generalize xs[n] = x at *
    have i0 : (n : Int) < (L : Int) := by omega
    generalize hq : (x.key.toList == key.toList) = q at *
    have HHA := hid hha
    clear hha hnl hnx
    refine AnyOrder.wp_region_grows_g [
        fun v _ => v = .int .i64 (n : Int),
        fun v _ => v = .int .i64 (n : Int),
        fun v _ => v = .slice (some ⟨b0, off0, none⟩) L cap,
        fun v _ => v = .int .i64 (L : Int),
        fun v _ => v = .bool true,
        fun v _ => v = .bool true,
        fun v _ => v = .slice (some ⟨b0, off0, none⟩) L cap,
        fun v _ => v = .int .i64 (n : Int),
        fun v _ => v = .pointer (some ⟨b0, off0 + n * 5, none⟩),
        fun v _ => v = .pointer (some ⟨b0, off0 + n * 5, none⟩),
        fun v _ => v = .string x.key,
        fun v _ => v = .string key,
        fun v _ => v = .bool q,
        fun v _ => v = .bool q,
        fun v _ => v = .int .i64 (n : Int),
        fun v _ => v = .bool q] hmx (by kernel_rfl) ?_ ?_ ?_
    · intro p hp
      simp only [List.mem_cons, List.not_mem_nil, or_false] at hp
      rcases hp with rfl | rfl | rfl | rfl | rfl | rfl | rfl | rfl | rfl | rfl | rfl | rfl | rfl | rfl | rfl | rfl
      all_goals first
        | exact AnyOrder.stays_const _
    · simp only [AnyOrder.dstsOf, List.map_cons, List.map_nil, AnyOrder.GSteps, Nat.zero_add, Nat.reduceAdd]
      refine ⟨?_, ?_, ?_, ?_, ?_, ?_, ?_, ?_, ?_, ?_, ?_, ?_, ?_, ?_, ?_, ?_, trivial⟩
      · intro ρ w' hk
        have k6 : ρ (.tmp 6) = .int .i64 (n : Int) := hk.old 6 rfl
        clear hk
        go_simp
        exact ⟨AnyOrder.Grows.refl _, by first | rfl | (simp [AnyOrder.nth]; done) | (simp [AnyOrder.nth]; omega)⟩
      · intro ρ w' hk
        have k6 : ρ (.tmp 6) = .int .i64 (n : Int) := hk.old 6 rfl
        clear hk
        go_simp
        exact ⟨AnyOrder.Grows.refl _, by first | rfl | (simp [AnyOrder.nth]; done) | (simp [AnyOrder.nth]; omega)⟩
      · intro ρ w' hk
        have k2 : ρ (.tmp 2) = .pointer (some ⟨B, 0, none⟩) := hk.old 2 rfl
        have m0 := AnyOrder.cell_grows hk.world c2
        clear hk
        go_simp
        exact ⟨AnyOrder.Grows.refl _, by first | rfl | (simp [AnyOrder.nth]; done) | (simp [AnyOrder.nth]; omega)⟩
      · intro ρ w' hk
        have k13 : ρ (.tmp 13) = .slice (some ⟨b0, off0, none⟩) L cap := hk.at 2 rfl
        clear hk
        go_simp
        exact ⟨AnyOrder.Grows.refl _, by first | rfl | (simp [AnyOrder.nth]; done) | (simp [AnyOrder.nth]; omega)⟩
      · intro ρ w' hk
        have k12 : ρ (.tmp 12) = .int .i64 (n : Int) := hk.at 1 rfl
        have k14 : ρ (.tmp 14) = .int .i64 (L : Int) := hk.at 3 rfl
        clear hk
        go_simp
        exact ⟨AnyOrder.Grows.refl _, by first | rfl | (simp [AnyOrder.nth]; done) | (simp [AnyOrder.nth]; omega)⟩
      · intro ρ w' hk
        have k15 : ρ (.tmp 15) = .bool true := hk.at 4 rfl
        clear hk
        go_simp
        exact ⟨AnyOrder.Grows.refl _, by first | rfl | (simp [AnyOrder.nth]; done) | (simp [AnyOrder.nth]; omega)⟩
      · intro ρ w' hk
        refine AnyOrder.guard_run (hk.at 5 rfl) ?_
        have k2 : ρ (.tmp 2) = .pointer (some ⟨B, 0, none⟩) := hk.old 2 rfl
        have m0 := AnyOrder.cell_grows hk.world c2
        clear hk
        go_simp
        exact ⟨AnyOrder.Grows.refl _, by first | rfl | (simp [AnyOrder.nth]; done) | (simp [AnyOrder.nth]; omega)⟩
      · intro ρ w' hk
        refine AnyOrder.guard_run (hk.at 5 rfl) ?_
        have k6 : ρ (.tmp 6) = .int .i64 (n : Int) := hk.old 6 rfl
        clear hk
        go_simp
        exact ⟨AnyOrder.Grows.refl _, by first | rfl | (simp [AnyOrder.nth]; done) | (simp [AnyOrder.nth]; omega)⟩
      · intro ρ w' hk
        refine AnyOrder.guard_run (hk.at 5 rfl) ?_
        have k17 : ρ (.tmp 17) = .slice (some ⟨b0, off0, none⟩) L cap := hk.at 6 rfl
        have k18 : ρ (.tmp 18) = .int .i64 (n : Int) := hk.at 7 rfl
        clear hk
        go_simp
        exact ⟨AnyOrder.Grows.refl _, by first | rfl | (simp [AnyOrder.nth]; done) | (simp [AnyOrder.nth]; omega)⟩
      · intro ρ w' hk
        refine AnyOrder.guard_run (hk.at 5 rfl) ?_
        have k19 : ρ (.tmp 19) = .pointer (some ⟨b0, off0 + n * 5, none⟩) := hk.at 8 rfl
        clear hk
        go_simp
        exact ⟨AnyOrder.Grows.refl _, by first | rfl | (simp [AnyOrder.nth]; done) | (simp [AnyOrder.nth]; omega)⟩
      · intro ρ w' hk
        refine AnyOrder.guard_run (hk.at 5 rfl) ?_
        have k20 : ρ (.tmp 20) = .pointer (some ⟨b0, off0 + n * 5, none⟩) := hk.at 9 rfl
        have m0 := AnyOrder.cell_grows hk.world h0
        clear hk
        go_simp
        exact ⟨AnyOrder.Grows.refl _, by first | rfl | (simp [AnyOrder.nth]; done) | (simp [AnyOrder.nth]; omega)⟩
      · intro ρ w' hk
        refine AnyOrder.guard_run (hk.at 5 rfl) ?_
        have k3 : ρ (.tmp 3) = .pointer (some ⟨B + 1, 0, none⟩) := hk.old 3 rfl
        have m0 := AnyOrder.cell_grows hk.world c3
        clear hk
        go_simp
        exact ⟨AnyOrder.Grows.refl _, by first | rfl | (simp [AnyOrder.nth]; done) | (simp [AnyOrder.nth]; omega)⟩
      · intro ρ w' hk
        refine AnyOrder.guard_run (hk.at 5 rfl) ?_
        have k21 : ρ (.tmp 21) = .string x.key := hk.at 10 rfl
        have k22 : ρ (.tmp 22) = .string key := hk.at 11 rfl
        clear hk
        go_simp
        exact ⟨AnyOrder.Grows.refl _, by first | rfl | (simp [AnyOrder.nth]; done) | (simp [AnyOrder.nth]; omega)⟩
      · intro ρ w' hk
        have k16 : ρ (.tmp 16) = .bool true := hk.at 5 rfl
        have k23 : ρ (.tmp 23) = .bool q := hk.at 12 rfl
        have kc := hk.const
        clear hk
        go_simp
        exact ⟨AnyOrder.Grows.refl _, by first | rfl | (simp [AnyOrder.nth]; done) | (simp [AnyOrder.nth]; omega)⟩
      · intro ρ w' hk
        have k11 : ρ (.tmp 11) = .int .i64 (n : Int) := hk.at 0 rfl
        clear hk
        go_simp
        exact ⟨AnyOrder.Grows.refl _, by first | rfl | (simp [AnyOrder.nth]; done) | (simp [AnyOrder.nth]; omega)⟩
      · intro ρ w' hk
        have k24 : ρ (.tmp 24) = .bool q := hk.at 13 rfl
        clear hk
        go_simp
        exact ⟨AnyOrder.Grows.refl _, by first | rfl | (simp [AnyOrder.nth]; done) | (simp [AnyOrder.nth]; omega)⟩
    · intro vs w9 hR9 hv9
      have hG9 := AnyOrder.Grows.of_drew hR9
      have v14 : vs 14 = .int .i64 (n : Int) := hv9 14 (by decide)
      have v15 : vs 15 = .bool q := hv9 15 (by decide)
      clear hR9 hv9
      simp only [AnyOrder.fill, Nat.zero_add, Nat.reduceAdd, List.setIfInBounds_toArray, List.set_cons_zero, List.set_cons_succ]
      rw [v14]
      clear v14
      rw [v15]
      clear v15
      have HG := hid hG9
      clear hG9 c2 c3 h0 hq
      go_wp2_with fail
      go_ret2
      have hbb := HBB.out
      subst hbb
      exact ⟨n, by rw [HHA.out]; rfl, HAT.out, HB3.out.trans (HG.out.mono HB3.out.size)⟩
  · have i0 : ¬ (n : Int) < (L : Int) := by omega
    have HHA := hid (show hasAt xs key n = false from hasAt_none (by rw [HL.out]; omega))
    clear hnl
    refine AnyOrder.wp_region_grows_g [
        fun v _ => v = .int .i64 (n : Int),
        fun v _ => v = .int .i64 (n : Int),
        fun v _ => v = .slice a L cap,
        fun v _ => v = .int .i64 (L : Int),
        fun v _ => v = .bool false,
        fun v _ => v = .bool false,
        fun v _ => v = undef,
        fun v _ => v = undef,
        fun v _ => v = undef,
        fun v _ => v = undef,
        fun v _ => v = undef,
        fun v _ => v = undef,
        fun v _ => v = undef,
        fun v _ => v = .bool false,
        fun v _ => v = .int .i64 (n : Int),
        fun v _ => v = .bool false] hmx (by kernel_rfl) ?_ ?_ ?_
    · intro p hp
      simp only [List.mem_cons, List.not_mem_nil, or_false] at hp
      rcases hp with rfl | rfl | rfl | rfl | rfl | rfl | rfl | rfl | rfl | rfl | rfl | rfl | rfl | rfl | rfl | rfl
      all_goals first
        | exact AnyOrder.stays_const _
    · simp only [AnyOrder.dstsOf, List.map_cons, List.map_nil, AnyOrder.GSteps, Nat.zero_add, Nat.reduceAdd]
      refine ⟨?_, ?_, ?_, ?_, ?_, ?_, ?_, ?_, ?_, ?_, ?_, ?_, ?_, ?_, ?_, ?_, trivial⟩
      · intro ρ w' hk
        have k6 : ρ (.tmp 6) = .int .i64 (n : Int) := hk.old 6 rfl
        clear hk
        go_simp
        exact ⟨AnyOrder.Grows.refl _, by first | rfl | (simp [AnyOrder.nth]; done) | (simp [AnyOrder.nth]; omega)⟩
      · intro ρ w' hk
        have k6 : ρ (.tmp 6) = .int .i64 (n : Int) := hk.old 6 rfl
        clear hk
        go_simp
        exact ⟨AnyOrder.Grows.refl _, by first | rfl | (simp [AnyOrder.nth]; done) | (simp [AnyOrder.nth]; omega)⟩
      · intro ρ w' hk
        have k2 : ρ (.tmp 2) = .pointer (some ⟨B, 0, none⟩) := hk.old 2 rfl
        have m0 := AnyOrder.cell_grows hk.world c2
        clear hk
        go_simp
        exact ⟨AnyOrder.Grows.refl _, by first | rfl | (simp [AnyOrder.nth]; done) | (simp [AnyOrder.nth]; omega)⟩
      · intro ρ w' hk
        have k13 : ρ (.tmp 13) = .slice a L cap := hk.at 2 rfl
        clear hk
        go_simp
        exact ⟨AnyOrder.Grows.refl _, by first | rfl | (simp [AnyOrder.nth]; done) | (simp [AnyOrder.nth]; omega)⟩
      · intro ρ w' hk
        have k12 : ρ (.tmp 12) = .int .i64 (n : Int) := hk.at 1 rfl
        have k14 : ρ (.tmp 14) = .int .i64 (L : Int) := hk.at 3 rfl
        clear hk
        go_simp
        exact ⟨AnyOrder.Grows.refl _, by first | rfl | (simp [AnyOrder.nth]; done) | (simp [AnyOrder.nth]; omega)⟩
      · intro ρ w' hk
        have k15 : ρ (.tmp 15) = .bool false := hk.at 4 rfl
        clear hk
        go_simp
        exact ⟨AnyOrder.Grows.refl _, by first | rfl | (simp [AnyOrder.nth]; done) | (simp [AnyOrder.nth]; omega)⟩
      · intro ρ w' hk
        exact AnyOrder.guard_skip (hk.at 5 rfl) (fun h => by cases h) rfl
      · intro ρ w' hk
        exact AnyOrder.guard_skip (hk.at 5 rfl) (fun h => by cases h) rfl
      · intro ρ w' hk
        exact AnyOrder.guard_skip (hk.at 5 rfl) (fun h => by cases h) rfl
      · intro ρ w' hk
        exact AnyOrder.guard_skip (hk.at 5 rfl) (fun h => by cases h) rfl
      · intro ρ w' hk
        exact AnyOrder.guard_skip (hk.at 5 rfl) (fun h => by cases h) rfl
      · intro ρ w' hk
        exact AnyOrder.guard_skip (hk.at 5 rfl) (fun h => by cases h) rfl
      · intro ρ w' hk
        exact AnyOrder.guard_skip (hk.at 5 rfl) (fun h => by cases h) rfl
      · intro ρ w' hk
        have k16 : ρ (.tmp 16) = .bool false := hk.at 5 rfl
        have k23 : ρ (.tmp 23) = undef := hk.at 12 rfl
        have kc := hk.const
        clear hk
        go_simp
        exact ⟨AnyOrder.Grows.refl _, by first | rfl | (simp [AnyOrder.nth]; done) | (simp [AnyOrder.nth]; omega)⟩
      · intro ρ w' hk
        have k11 : ρ (.tmp 11) = .int .i64 (n : Int) := hk.at 0 rfl
        clear hk
        go_simp
        exact ⟨AnyOrder.Grows.refl _, by first | rfl | (simp [AnyOrder.nth]; done) | (simp [AnyOrder.nth]; omega)⟩
      · intro ρ w' hk
        have k24 : ρ (.tmp 24) = .bool false := hk.at 13 rfl
        clear hk
        go_simp
        exact ⟨AnyOrder.Grows.refl _, by first | rfl | (simp [AnyOrder.nth]; done) | (simp [AnyOrder.nth]; omega)⟩
    · intro vs w9 hR9 hv9
      have hG9 := AnyOrder.Grows.of_drew hR9
      have v14 : vs 14 = .int .i64 (n : Int) := hv9 14 (by decide)
      have v15 : vs 15 = .bool false := hv9 15 (by decide)
      clear hR9 hv9
      simp only [AnyOrder.fill, Nat.zero_add, Nat.reduceAdd, List.setIfInBounds_toArray, List.set_cons_zero, List.set_cons_succ]
      rw [v14]
      clear v14
      rw [v15]
      clear v15
      have HG := hid hG9
      clear hG9 c2 c3
      go_wp2_with fail
      go_ret2
      have hbb := HBB.out
      subst hbb
      exact ⟨n, by rw [HHA.out]; rfl, HAT.out, HB3.out.trans (HG.out.mono HB3.out.size)⟩
end Go.Proofs.Ytkpadhjlopcejaa
