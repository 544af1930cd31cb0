/-
  CrcThree: three runs, bit by bit: the walk.
-/
import Derived.Test.YtgefenjjabjfmaaApp
import Derived.Test.YtgefenjjabjfmaaAny
import Derived.StillTailTactics
import Derived.WalkLawsBesides
import Derived.WalkSpells
namespace Go.Proofs.Ytgefenjjabjfmaa
open Go.RowKit Go.Shelf
attribute [local go_sem] AnyOrder.opK_value AnyOrder.opK_skip AnyOrder.opK_enter
theorem makeB (w : World) (n : Nat) (hn : n ≤ 1099511627776) : (Instr.makeSlice 22 (.int .i64 (n : Int)) (.int .i64 (n : Int))).run Try.prog w = .ok (.slice (some ⟨w.heap.size, 0, none⟩) n n) (w.alloc (.cells (List.replicate n (Value.int .u8 0)).toArray 5)) := by
  obtain ⟨i0, hi, hz0, hz1, hz2⟩ := info_parts (show (Try.prog.info? 5).map (fun i => (i.zero, i.size, i.bytes)) = some (some (.int .u8 0), 1, 1) by kernel_rfl)
  have := run_make (P := Try.prog) w 22 5 i0 (.int .u8 0) Try.underlying22 hi hz0 .i64 .i64 n n (by omega) (by omega) (by rw [hz2]; omega) (by omega)
  rw [this]
  have e : (madeCells (Value.int .u8 0).cells ((n : Int).toNat * i0.size)) = (List.replicate n (Value.int .u8 0)).toArray := by
    rw [hz1, Nat.mul_one, Int.toNat_natCast]
    apply Array.ext'
    have := toList_madeCells_one (.int .u8 0) n
    simpa [Value.cells] using this
  rw [e]
  simp
theorem sumOne (w : World) (bb : Nat) (a : Option Addr) (l : List UInt8) (cap : Nat) (hb : Blk w bb [.slice a l.length cap]) (h : BytesIn (fun k => k < w.heap.size) w a l) (hl : l.length ≤ 1099511627776) :
    Calls Try.prog 12 #[.slice (some ⟨bb, 0, none⟩) 1 1] w fun e w' => e = .returned (.int .u32 ((Crc.sum l : Nat) : Int)) ∧ Below w.heap.size w w' := by
  have := sumF_any 1 (some ⟨bb, 0, none⟩) [l] w (by simp [maxLen]) (PartsIn.of_one hb hb.lt h (by unfold maxLen; omega)) (by simp; omega)
  simpa using this
theorem zip3_get (k : Nat) : ∀ (xs ys zs : List UInt8) (h0 : k < xs.length) (h1 : k < ys.length) (h2 : k < zs.length), (Crc.zip3 xs ys zs)[k]? = some (xs[k] ^^^ ys[k] ^^^ zs[k]) := by
  induction k with
  | zero =>
    intro xs ys zs h0 h1 h2
    match xs, ys, zs, h0, h1, h2 with
    | a :: xs, b :: ys, c :: zs, _, _, _ => rfl
  | succ k ih =>
    intro xs ys zs h0 h1 h2
    match xs, ys, zs, h0, h1, h2 with
    | a :: xs, b :: ys, c :: zs, h0, h1, h2 =>
      have := ih xs ys zs (by simpa using h0) (by simpa using h1) (by simpa using h2)
      simpa [Crc.zip3] using this
theorem zip3_length (xs : List UInt8) : ∀ (ys zs : List UInt8), ys.length = xs.length → zs.length = xs.length → (Crc.zip3 xs ys zs).length = xs.length := by
  induction xs with
  | nil => intro ys zs _ _; simp [Crc.zip3]
  | cons a xs ih =>
    intro ys zs h1 h2
    match ys, zs, h1, h2 with
    | b :: ys, c :: zs, h1, h2 => simp [Crc.zip3, ih ys zs (by simpa using h1) (by simpa using h2)]
set_option maxHeartbeats 2000000 in
theorem crcThree_walk (a b c : Option Addr) (c0 c1 c2 : Nat) (l0 l1 l2 : List UInt8) (w : World) (hc0 : l0.length ≤ c0) (hc1 : l1.length ≤ c1) (hc2 : l2.length ≤ c2)
    (h0 : BytesIn (fun k => k < w.heap.size) w a l0) (h1 : BytesIn (fun k => k < w.heap.size) w b l1) (h2 : BytesIn (fun k => k < w.heap.size) w c l2) :
    Calls Try.prog 6 #[.slice a l0.length c0, .slice b l1.length c1, .slice c l2.length c2] w fun e w' => e = .returned (.bool true) ∧ Below w.heap.size w w' := by
  obtain ⟨n, hn⟩ : ∃ n : Nat, n = (if l2.length < (if l1.length < l0.length then l1.length else l0.length) then l2.length else (if l1.length < l0.length then l1.length else l0.length)) := ⟨_, rfl⟩
  have hmin : ∀ (ts : Array TypeId) (t : TypeId), (Builtin.min_ ts t #[.int .i64 (l0.length : Int), .int .i64 (l1.length : Int), .int .i64 (l2.length : Int)]).run Try.prog w = .ok (.int .i64 (n : Int)) w := by
    intro ts t
    rw [run_min_int3]
    have e1 : (if (l1.length : Int) < (l0.length : Int) then (l1.length : Int) else (l0.length : Int)) = ((if l1.length < l0.length then l1.length else l0.length : Nat) : Int) := by split <;> split <;> omega
    rw [e1]
    have e2 : ∀ p q : Nat, (if (p : Int) < (q : Int) then (p : Int) else (q : Int)) = ((if p < q then p else q : Nat) : Int) := by intro p q; split <;> split <;> omega
    rw [e2, ← hn]
  have hm0 : n ≤ l0.length := by rw [hn]; split <;> split <;> omega
  have hm1 : n ≤ l1.length := by rw [hn]; split <;> split <;> omega
  have hm2 : n ≤ l2.length := by rw [hn]; split <;> split <;> omega
  clear hn
  generalize hL0 : l0.length = L0 at *
  generalize hL1 : l1.length = L1 at *
  generalize hL2 : l2.length = L2 at *
  have HL0 := hid hL0
  have HL1 := hid hL1
  have HL2 := hid hL2
  clear hL0 hL1 hL2
  by_cases hb : 1000 < n
  · go_enter Try.func6, Try.ntmps6
    go_wp2_with fail
    refine (known_any _).mono ?_
    rintro e w' ⟨rfl, hb⟩
    go_wp2
    go_ret
    exact ⟨rfl, hb⟩
  · have hmk := makeB w n (by omega)
    go_enter Try.func6, Try.ntmps6
    go_wp2_with fail
    have hmx : Try.prog.follows .mixedOrders = true := by kernel_rfl
    go_loopw [9] (fun i wr => ∃ (k : Nat) (vs : List Value), k ≤ n ∧ i = .int .i64 k ∧ Below w.heap.size w wr ∧ Blk wr w.heap.size vs ∧ Hid (vs.length = n) ∧
      Hid (∀ j, j < k → vs[j]? = ((Crc.zip3 (l0.take n) (l1.take n) (l2.take n)).map fun x => Value.int .u8 (x.toNat : Int))[j]?)) (fun i _ => n - (intOf i).toNat)
    case atStart =>
      exact ⟨0, List.replicate n (.int .u8 0), by omega, rfl, (Below.refl _ _).alloc (Nat.le_refl _) _, by simpa using Blk.new w (List.replicate n (.int .u8 0)) 5, by show _ = _; simp, fun j hj => by omega⟩
    case round =>
      obtain ⟨k, vs, hk, rfl, hbel, hB, HLEN, HV⟩ := hrel
      by_cases hlt : k < n
      · obtain ⟨b0, off0, rfl, ho0, hd0⟩ := h0 k (by rw [HL0.out]; omega)
        obtain ⟨b1, off1, rfl, ho1, hd1⟩ := h1 k (by rw [HL1.out]; omega)
        obtain ⟨b2, off2, rfl, ho2, hd2⟩ := h2 k (by rw [HL2.out]; omega)
        rw [← hbel.cell (p := ⟨b0, off0 + k, none⟩) ho0] at hd0
        rw [← hbel.cell (p := ⟨b1, off1 + k, none⟩) ho1] at hd1
        rw [← hbel.cell (p := ⟨b2, off2 + k, none⟩) ho2] at hd2
        obtain ⟨v0, hcell⟩ := hB.some k (by rw [HLEN.out]; omega)
        have hfr := hB.frozen k
        have hz : (Crc.zip3 (l0.take n) (l1.take n) (l2.take n))[k]? = some (l0[k]'(by rw [HL0.out]; omega) ^^^ l1[k]'(by rw [HL1.out]; omega) ^^^ l2[k]'(by rw [HL2.out]; omega)) := by
          rw [zip3_get _ _ _ _ (by simp [HL0.out]; omega) (by simp [HL1.out]; omega) (by simp [HL2.out]; omega)]
          simp
        have hx := (l0[k]'(by rw [HL0.out]; omega)).toNat_lt
        have hy := (l1[k]'(by rw [HL1.out]; omega)).toNat_lt
        have hz2 := (l2[k]'(by rw [HL2.out]; omega)).toNat_lt
        have hxyz : (l0[k]'(by rw [HL0.out]; omega) ^^^ l1[k]'(by rw [HL1.out]; omega) ^^^ l2[k]'(by rw [HL2.out]; omega)).toNat = (l0[k]'(by rw [HL0.out]; omega)).toNat ^^^ (l1[k]'(by rw [HL1.out]; omega)).toNat ^^^ (l2[k]'(by rw [HL2.out]; omega)).toNat := by simp
        generalize (l0[k]'(by rw [HL0.out]; omega)).toNat = x at hd0 hx hxyz
        generalize (l1[k]'(by rw [HL1.out]; omega)).toNat = y at hd1 hy hxyz
        generalize (l2[k]'(by rw [HL2.out]; omega)).toNat = z at hd2 hz2 hxyz
        have x1 := xor_u8 x y hx hy
        have x2 := xor_u8 (x ^^^ y) z (Crc.xor_lt8 hx hy) hz2
        have HZ := hid hz
        have HXYZ := hid hxyz
        clear hz hxyz h0 h1 h2
        have i0 : (k : Int) < (L0 : Int) := by omega
        have i1 : (k : Int) < (L1 : Int) := by omega
        have i2 : (k : Int) < (L2 : Int) := by omega
        have i3 : (k : Int) < (n : Int) := by omega
        go_wp2_with fail
        refine wp_region_still_tail 17 hmx (by kernel_rfl) ?_
        simp only [List.take_succ_cons, List.take_zero, List.drop_succ_cons, List.drop_zero]
        change wpStill _ _ wr.drew _ _ _
        repeat still_step
        refine wpStill_nil ?_
        change wpList _ _ _ _ _ wr.drew
        go_wp2_with fail
        go_roundw
        case rel =>
          refine ⟨k + 1, vs.set k (.int .u8 ((x ^^^ y ^^^ z : Nat) : Int)), by omega, by go_num, (hbel.setCell (p := ⟨w.heap.size, k, none⟩) (Nat.le_refl _) _).drew, (hB.set _ _).drew, by show _ = _; simp; exact HLEN.out, ?_⟩
          intro j hj
          by_cases e : j = k
          · subst e
            rw [List.getElem?_set_self (by rw [HLEN.out]; omega), List.getElem?_map, HZ.out]
            simp [HXYZ.out]
          · rw [List.getElem?_set_ne (by omega)]
            exact HV.out j (by omega)
        case measure => simp [intOf]; omega
      · have HK := hid (show k = n by omega)
        go_wp2_with fail
        obtain ⟨dl, hdl⟩ : ∃ dl, dl = Crc.zip3 (l0.take n) (l1.take n) (l2.take n) := ⟨_, rfl⟩
        have hsum : Crc.sum dl = Crc.sum (l0.take n) ^^^ Crc.sum (l1.take n) ^^^ Crc.sum (l2.take n) := by
          rw [hdl]
          exact Crc.sum_zip3 _ _ _ (by simp [HL0.out, HL1.out]; omega) (by simp [HL0.out, HL2.out]; omega)
        have hdn : dl.length = n := by
          rw [hdl, zip3_length _ _ _ (by simp [HL0.out, HL1.out]; omega) (by simp [HL0.out, HL2.out]; omega)]
          simp [HL0.out]; omega
        have hvs : vs = dl.map fun x => Value.int .u8 (x.toNat : Int) := by
          apply List.ext_getElem?
          intro j
          by_cases hj : j < n
          · rw [hdl]; exact HV.out j (by rw [HK.out]; exact hj)
          · rw [List.getElem?_eq_none (by rw [HLEN.out]; omega), List.getElem?_eq_none (by simp [hdn]; omega)]
        rw [hvs] at hB
        have HB := hid hB
        have HSUM := hid hsum
        have HDN := hid hdn
        clear hB hsum hdn hvs hdl HV
        refine AnyOrder.wp_region_grows [
          fun v _ => v = .slice (some ⟨w.heap.size, 0, none⟩) n n,
          fun v w' => ∃ b, v = .slice (some ⟨b, 0, none⟩) 1 1 ∧ Blk w' b [.slice (some ⟨w.heap.size, 0, none⟩) n n],
          fun v _ => v = .int .u32 ((Crc.sum dl : Nat) : Int),
          fun v _ => v = .slice a L0 c0,
          fun v _ => v = .int .i64 (n : Int),
          fun v _ => v = .slice a n c0,
          fun v w' => ∃ b, v = .slice (some ⟨b, 0, none⟩) 1 1 ∧ Blk w' b [.slice a n c0],
          fun v _ => v = .int .u32 ((Crc.sum (l0.take n) : Nat) : Int),
          fun v _ => v = .slice b L1 c1,
          fun v _ => v = .int .i64 (n : Int),
          fun v _ => v = .slice b n c1,
          fun v w' => ∃ bb, v = .slice (some ⟨bb, 0, none⟩) 1 1 ∧ Blk w' bb [.slice b n c1],
          fun v _ => v = .int .u32 ((Crc.sum (l1.take n) : Nat) : Int),
          fun v _ => v = .int .u32 ((Crc.sum (l0.take n) ^^^ Crc.sum (l1.take n) : Nat) : Int),
          fun v _ => v = .slice c L2 c2,
          fun v _ => v = .int .i64 (n : Int),
          fun v _ => v = .slice c n c2,
          fun v w' => ∃ bb, v = .slice (some ⟨bb, 0, none⟩) 1 1 ∧ Blk w' bb [.slice c n c2],
          fun v _ => v = .int .u32 ((Crc.sum (l2.take n) : Nat) : Int),
          fun v _ => v = .int .u32 ((Crc.sum dl : Nat) : Int),
          fun v _ => v = .bool true, fun v _ => v = .bool true, fun v _ => v = .bool true, fun v _ => v = .bool true, fun v _ => v = .bool true] hmx (by kernel_rfl) ?_ ?_ ?_
        · intro p hp
          simp only [List.mem_cons, List.not_mem_nil, or_false] at hp
          rcases hp with rfl | rfl | rfl | rfl | rfl | rfl | rfl | rfl | rfl | rfl | rfl | rfl | rfl | rfl | rfl | rfl | rfl | rfl | rfl | rfl | rfl | rfl | rfl | rfl | rfl
          all_goals first
            | exact AnyOrder.stays_const _
            | (rintro v w1 w2 hg ⟨b, rfl, hb⟩; exact ⟨b, rfl, hb.below hg hb.lt⟩)
        · simp only [AnyOrder.dstsOf, List.map_cons, List.map_nil, AnyOrder.Steps, Nat.zero_add, Nat.reduceAdd]
          refine ⟨?_, ?_, ?_, ?_, ?_, ?_, ?_, ?_, ?_, ?_, ?_, ?_, ?_, ?_, ?_, ?_, ?_, ?_, ?_, ?_, ?_, ?_, ?_, ?_, ?_, trivial⟩
          · intro ρ w' hk
            have k1 := hk.old 8 rfl
            clear hk
            simp at k1
            go_simp
            exact ⟨AnyOrder.Grows.refl _, rfl⟩
          · intro ρ w' hk
            have k1 : ρ (.tmp 44) = .slice (some ⟨w.heap.size, 0, none⟩) n n := hk.at 0 rfl
            clear hk
            go_simp
            exact ⟨AnyOrder.Grows.alloc _ _, _, rfl, Blk.new w' [_] 22⟩
          · intro ρ w' hk
            obtain ⟨bb, k1, k2⟩ : ∃ b', ρ (.tmp 45) = .slice (some ⟨b', 0, none⟩) 1 1 ∧ Blk w' b' [.slice (some ⟨w.heap.size, 0, none⟩) n n] := hk.at 1 rfl
            have kw := hk.world
            have kf := hk.func
            clear hk
            go_simp
            have e := HDN.out
            have k3 : BytesIn (fun k => k < w'.heap.size) w' (some ⟨w.heap.size, 0, none⟩) dl := BytesIn.of_row (HB.out.drew.below kw HB.out.lt).row (Nat.lt_of_lt_of_le HB.out.lt kw.size)
            refine (sumOne w' bb _ dl n (by rw [e]; exact k2) k3 (by omega)).mono ?_
            rintro e w'' ⟨rfl, hb⟩
            exact ⟨_, rfl, hb, rfl⟩
          · intro ρ w' hk
            have k1 := hk.old 0 rfl
            clear hk
            simp at k1
            go_simp
            exact ⟨AnyOrder.Grows.refl _, rfl⟩
          · intro ρ w' hk
            have k1 := hk.old 7 rfl
            clear hk
            simp at k1
            go_simp
            exact ⟨AnyOrder.Grows.refl _, rfl⟩
          · intro ρ w' hk
            have k1 : ρ (.tmp 47) = .slice a L0 c0 := hk.at 3 rfl
            have k2 : ρ (.tmp 48) = .int .i64 n := hk.at 4 rfl
            have k3 : n ≤ c0 := by omega
            clear hk
            go_simp
            exact ⟨AnyOrder.Grows.refl _, rfl⟩
          · intro ρ w' hk
            have k1 : ρ (.tmp 49) = .slice a n c0 := hk.at 5 rfl
            clear hk
            go_simp
            exact ⟨AnyOrder.Grows.alloc _ _, _, rfl, Blk.new w' [_] 22⟩
          · intro ρ w' hk
            obtain ⟨bb, k1, k2⟩ : ∃ b', ρ (.tmp 50) = .slice (some ⟨b', 0, none⟩) 1 1 ∧ Blk w' b' [.slice a n c0] := hk.at 6 rfl
            have kw := hk.world
            have kf := hk.func
            clear hk
            go_simp
            have e : (l0.take n).length = n := by simp [HL0.out]; omega
            have k3 : BytesIn (fun k => k < w'.heap.size) w' a (l0.take n) := (h0.take n).grows (hbel.trans (Below.mono (Below.trans (Below.refl _ _).drew kw) hbel.size))
            refine (sumOne w' bb _ (l0.take n) c0 (by rw [e]; exact k2) k3 (by omega)).mono ?_
            rintro e w'' ⟨rfl, hb⟩
            exact ⟨_, rfl, hb, rfl⟩
          · intro ρ w' hk
            have k1 := hk.old 1 rfl
            clear hk
            simp at k1
            go_simp
            exact ⟨AnyOrder.Grows.refl _, rfl⟩
          · intro ρ w' hk
            have k1 := hk.old 7 rfl
            clear hk
            simp at k1
            go_simp
            exact ⟨AnyOrder.Grows.refl _, rfl⟩
          · intro ρ w' hk
            have k1 : ρ (.tmp 52) = .slice b L1 c1 := hk.at 8 rfl
            have k2 : ρ (.tmp 53) = .int .i64 n := hk.at 9 rfl
            have k3 : n ≤ c1 := by omega
            clear hk
            go_simp
            exact ⟨AnyOrder.Grows.refl _, rfl⟩
          · intro ρ w' hk
            have k1 : ρ (.tmp 54) = .slice b n c1 := hk.at 10 rfl
            clear hk
            go_simp
            exact ⟨AnyOrder.Grows.alloc _ _, _, rfl, Blk.new w' [_] 22⟩
          · intro ρ w' hk
            obtain ⟨bb, k1, k2⟩ : ∃ b', ρ (.tmp 55) = .slice (some ⟨b', 0, none⟩) 1 1 ∧ Blk w' b' [.slice b n c1] := hk.at 11 rfl
            have kw := hk.world
            have kf := hk.func
            clear hk
            go_simp
            have e : (l1.take n).length = n := by simp [HL1.out]; omega
            have k3 : BytesIn (fun k => k < w'.heap.size) w' b (l1.take n) := (h1.take n).grows (hbel.trans (Below.mono (Below.trans (Below.refl _ _).drew kw) hbel.size))
            refine (sumOne w' bb _ (l1.take n) c1 (by rw [e]; exact k2) k3 (by omega)).mono ?_
            rintro e w'' ⟨rfl, hb⟩
            exact ⟨_, rfl, hb, rfl⟩
          · intro ρ w' hk
            have k1 : ρ (.tmp 51) = .int .u32 ((Crc.sum (l0.take n) : Nat) : Int) := hk.at 7 rfl
            have k2 : ρ (.tmp 56) = .int .u32 ((Crc.sum (l1.take n) : Nat) : Int) := hk.at 12 rfl
            have k3 := xor_u32 _ _ (Crc.sum_lt (l0.take n)) (Crc.sum_lt (l1.take n))
            clear hk
            go_simp
            exact ⟨AnyOrder.Grows.refl _, rfl⟩
          · intro ρ w' hk
            have k1 := hk.old 2 rfl
            clear hk
            simp at k1
            go_simp
            exact ⟨AnyOrder.Grows.refl _, rfl⟩
          · intro ρ w' hk
            have k1 := hk.old 7 rfl
            clear hk
            simp at k1
            go_simp
            exact ⟨AnyOrder.Grows.refl _, rfl⟩
          · intro ρ w' hk
            have k1 : ρ (.tmp 58) = .slice c L2 c2 := hk.at 14 rfl
            have k2 : ρ (.tmp 59) = .int .i64 n := hk.at 15 rfl
            have k3 : n ≤ c2 := by omega
            clear hk
            go_simp
            exact ⟨AnyOrder.Grows.refl _, rfl⟩
          · intro ρ w' hk
            have k1 : ρ (.tmp 60) = .slice c n c2 := hk.at 16 rfl
            clear hk
            go_simp
            exact ⟨AnyOrder.Grows.alloc _ _, _, rfl, Blk.new w' [_] 22⟩
          · intro ρ w' hk
            obtain ⟨bb, k1, k2⟩ : ∃ b', ρ (.tmp 61) = .slice (some ⟨b', 0, none⟩) 1 1 ∧ Blk w' b' [.slice c n c2] := hk.at 17 rfl
            have kw := hk.world
            have kf := hk.func
            clear hk
            go_simp
            have e : (l2.take n).length = n := by simp [HL2.out]; omega
            have k3 : BytesIn (fun k => k < w'.heap.size) w' c (l2.take n) := (h2.take n).grows (hbel.trans (Below.mono (Below.trans (Below.refl _ _).drew kw) hbel.size))
            refine (sumOne w' bb _ (l2.take n) c2 (by rw [e]; exact k2) k3 (by omega)).mono ?_
            rintro e w'' ⟨rfl, hb⟩
            exact ⟨_, rfl, hb, rfl⟩
          · intro ρ w' hk
            have k1 : ρ (.tmp 57) = .int .u32 ((Crc.sum (l0.take n) ^^^ Crc.sum (l1.take n) : Nat) : Int) := hk.at 13 rfl
            have k2 : ρ (.tmp 62) = .int .u32 ((Crc.sum (l2.take n) : Nat) : Int) := hk.at 18 rfl
            have k3 := xor_u32 _ _ (Crc.xor_lt (Crc.sum_lt (l0.take n)) (Crc.sum_lt (l1.take n))) (Crc.sum_lt (l2.take n))
            clear hk
            go_simp
            exact ⟨AnyOrder.Grows.refl _, by rw [HSUM.out]; rfl⟩
          · intro ρ w' hk
            have k1 : ρ (.tmp 46) = .int .u32 ((Crc.sum dl : Nat) : Int) := hk.at 2 rfl
            have k2 : ρ (.tmp 63) = .int .u32 ((Crc.sum dl : Nat) : Int) := hk.at 19 rfl
            clear hk
            go_simp
            exact ⟨AnyOrder.Grows.refl _, rfl⟩
          · intro ρ w' hk
            have k1 : ρ (.tmp 64) = .bool true := hk.at 20 rfl
            clear hk
            go_simp
            exact ⟨AnyOrder.Grows.refl _, rfl⟩
          · intro ρ w' hk
            have k1 : ρ (.tmp 65) = .bool true := hk.at 21 rfl
            have kf := hk.func
            clear hk
            refine ⟨true, k1, rfl, fun _ => ?_, fun h => absurd rfl h⟩
            go_simp
            refine (known_any _).mono ?_
            rintro e w'' ⟨rfl, hb⟩
            exact ⟨_, rfl, hb, rfl⟩
          · intro ρ w' hk
            have k1 : ρ (.tmp 65) = .bool true := hk.at 21 rfl
            have k2 : ρ (.tmp 66) = .bool true := hk.at 22 rfl
            have kc := hk.const
            clear hk
            go_simp
            exact ⟨AnyOrder.Grows.refl _, rfl⟩
          · intro ρ w' hk
            have k1 : ρ (.tmp 67) = .bool true := hk.at 23 rfl
            clear hk
            go_simp
            exact ⟨AnyOrder.Grows.refl _, rfl⟩
        · intro vs' w' hg hv
          have v24 : vs' 24 = .bool true := hv 24 (by simp)
          clear hv
          simp only [AnyOrder.fill, Nat.zero_add, Nat.reduceAdd, List.setIfInBounds_toArray, List.set_cons_zero, List.set_cons_succ]
          rw [v24]
          go_wp2_with fail
          go_ret
          exact ⟨rfl, hbel.trans (Below.mono (Below.trans (Below.refl _ _).drew hg) hbel.size)⟩
end Go.Proofs.Ytgefenjjabjfmaa
