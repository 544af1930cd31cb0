/-
  CrcTurned: bytes of which one to three bits are turned: the walk.
-/
import Derived.Test.YtgefenjjabjfmaaApp
import Derived.Test.YtgefenjjabjfmaaAny
import Derived.StillTailTactics
import Derived.WalkLawsBesides
import Derived.WalkSpells
namespace Go.Proofs.Ytgefenjjabjfmaa
open Go.RowKit Go.Shelf
attribute [local go_sem] AnyOrder.opK_value AnyOrder.opK_skip AnyOrder.opK_enter
/-- a string out of a slice of bytes -/
theorem run_strB {w : World} {a : Option Addr} {l : List UInt8} (c : Nat) (h : BytesIn (fun k => k < w.heap.size) w a l) :
    (convert 22 9 (.slice a l.length c)).run Try.prog w = .ok (.string ⟨l.toArray⟩) w := by
  cases l with
  | nil =>
    cases a with
    | none =>
      rw [List.length_nil, run_convert_bytes_string w 22 9 5 none 0 c Try.underlying22 Try.underlying5 Try.underlying9]
      rfl
    | some a =>
      exact run_convert_bytes_back w 22 9 5 a c [] Try.underlying22 Try.underlying5 Try.underlying9 (by simp)
  | cons x l =>
    obtain ⟨b, off, rfl, _, _⟩ := h 0 (by simp)
    refine run_convert_bytes_back w 22 9 5 _ c (x :: l) Try.underlying22 Try.underlying5 Try.underlying9 ?_
    intro j hj
    obtain ⟨b2, off2, e, _, hc⟩ := h j hj
    cases e
    rw [addr_add]
    simpa using hc
theorem OwnB.drew {w : World} {base : Nat} {v : Value} {l : List UInt8} (h : OwnB w base v l) : OwnB w.drew base v l := h
theorem OwnB.cellAt {w : World} {base : Nat} {v : Value} {l : List UInt8} (h : OwnB w base v l) (i : Nat) (hi : i < l.length) :
    ∃ g cap, v = .slice (some ⟨g, 0, none⟩) l.length cap ∧ base ≤ g ∧ w.cell? ⟨g, i, none⟩ = some (.int .u8 (l[i].toNat : Int)) ∧ w.frozen? ⟨g, i, none⟩ = false ∧
      ∀ x : UInt8, OwnB (w.setCell ⟨g, i, none⟩ (.int .u8 (x.toNat : Int))) base v (l.set i x) := by
  obtain ⟨h1, h2⟩ := h
  rcases h2 with ⟨rfl, hl⟩ | ⟨g, cap, cur, rfl, hg, hh, hn, hm, hsz, ht⟩
  · omega
  · have e : cur[i]? = some (.int .u8 (l[i].toNat : Int)) := by
      have : (cur.toList.take (l.length * 1))[i]? = (l.map fun x => Value.int .u8 (x.toNat : Int))[i]? := by rw [ht]
      rw [List.getElem?_take_of_lt (by omega)] at this
      simpa [hi] using this
    refine ⟨g, cap, rfl, hg, by simp [World.cell?, hh, e], by simp [World.frozen?, hh], fun x => ⟨by simp, .inr ⟨g, cap, cur.setIfInBounds i (.int .u8 (x.toNat : Int)), by simp, hg, ?_, by simpa using hn, hm, by simpa using hsz, ?_⟩⟩⟩
    · simp [World.setCell, Array.getElem?_modify, hh]
    · rw [Array.toList_setIfInBounds, List.length_set, List.take_set, ht, List.map_set]
/-- the bytes behind so many turns -/
def turns (l : List UInt8) (k0 k1 k2 : Int) : Nat → List UInt8
  | 0 => l
  | 1 => Crc.turnI l k0
  | 2 => Crc.turnI (Crc.turnI l k0) k1
  | _ => Crc.turnI (Crc.turnI (Crc.turnI l k0) k1) k2
theorem modify_set (l : List UInt8) (i : Nat) (f : UInt8 → UInt8) (h : i < l.length) : l.modify i f = l.set i (f l[i]) := by
  apply List.ext_getElem?
  intro j
  rw [List.getElem?_modify, List.getElem?_set]
  by_cases e : i = j
  · subst e; simp [h]
  · simp [e]
theorem turns_length (l : List UInt8) (k0 k1 k2 : Int) (i : Nat) : (turns l k0 k1 k2 i).length = l.length := by
  unfold turns; split <;> simp [Crc.turnI_length]
def pick3 (k0 k1 k2 : Int) : Nat → Int
  | 0 => k0
  | 1 => k1
  | _ => k2
theorem turns_succ (l : List UInt8) (k0 k1 k2 : Int) (i : Nat) (h : i < 3) : turns l k0 k1 k2 (i + 1) = Crc.turnI (turns l k0 k1 k2 i) (pick3 k0 k1 k2 i) := by
  have : i = 0 ∨ i = 1 ∨ i = 2 := by omega
  rcases this with rfl | rfl | rfl <;> rfl
theorem sumOne (w : World) (bb : Nat) (a : Option Addr) (l : List UInt8) (cap : Nat) (hb : Blk w bb [.slice a l.length cap]) (h : BytesIn (fun k => k < w.heap.size) w a l) (hl : l.length ≤ 1099511627776) :
    Calls Try.prog 12 #[.slice (some ⟨bb, 0, none⟩) 1 1] w fun e w' => e = .returned (.int .u32 ((Crc.sum l : Nat) : Int)) ∧ Below w.heap.size w w' := by
  have := sumF_any 1 (some ⟨bb, 0, none⟩) [l] w (by simp [maxLen]) (PartsIn.of_one hb hb.lt h (by unfold maxLen; omega)) (by simp; omega)
  simpa using this
set_option maxHeartbeats 2000000 in
theorem crcTurned_walk (a : Option Addr) (c0 : Nat) (l : List UInt8) (k0 k1 k2 : Int) (w : World) (hm0 : l.length ≤ maxLen) (h0 : BytesIn (fun k => k < w.heap.size) w a l) (hn0 : a = none → c0 = 0) :
    Calls Try.prog 4 #[.slice a l.length c0, .agg #[.int .i64 k0, .int .i64 k1, .int .i64 k2]] w fun e w' => e = .returned (.bool true) ∧ Below w.heap.size w w' := by
  by_cases hbig : 1000 < l.length
  · go_enter Try.func4, Try.ntmps4
    go_wp2_with fail
    refine (known_any _).mono ?_
    rintro e w' ⟨rfl, hb⟩
    go_wp2
    go_ret
    exact ⟨rfl, ((Below.refl _ _).alloc (Nat.le_refl _) _).trans (hb.mono (by simp))⟩
  · have ht := Crc.turned l (by omega) k0 k1 k2
    have HT := hid ht
    clear ht
    have hmx : Try.prog.follows .mixedOrders = true := by kernel_rfl
    go_enter Try.func4, Try.ntmps4
    have hB0 : Below w.heap.size w (w.alloc (.cells #[.int .i64 k0, .int .i64 k1, .int .i64 k2] 30)) := (Below.refl _ _).alloc (Nat.le_refl _) _
    have hbox := Blk.new w [.int .i64 k0, .int .i64 k1, .int .i64 k2] 30
    have g0 := h0.grows hB0
    go_wp2_with (at_builtin; refine wpList_appendB rfl (.const (.slice none 0 0)) (.tmp 11) rfl (w.heap.size + 1) (.slice none 0 0) [] rfl (OwnB.nil _ _) a l.length c0 l rfl rfl hn0 g0 (by simp; omega) (by simp) ?_; intro v1 w5 hv1 hg1; have hB5 := grown_below hg1 (OwnB.nil _ (w.heap.size + 1)) (by simp); clear hg1)
    rw [List.nil_append] at hv1
    have hB1 : Below w.heap.size w w5 := hB0.trans (hB5.mono (by omega))
    have hbx5 := hbox.below hB5 (by omega)
    obtain ⟨a1, cap1, rfl, _⟩ := hv1.slice
    generalize hn : l.length = n at *
    have HN := hid hn
    clear hn hbox g0 hB0 hB5
    go_loopw [6] (fun i wr => ∃ k : Nat, k ≤ 3 ∧ i = .int .i64 k ∧ Below w.heap.size w wr ∧ OwnB wr (w.heap.size + 1) (.slice a1 n cap1) (turns l k0 k1 k2 k) ∧ Blk wr w.heap.size [.int .i64 k0, .int .i64 k1, .int .i64 k2]) (fun i _ => 3 - (intOf i).toNat)
    case atStart => exact ⟨0, by omega, rfl, hB1, hv1, hbx5⟩
    case round =>
      obtain ⟨k, hk, rfl, hbel, hown, hbx⟩ := hrel
      by_cases hlt : k < 3
      · have hcx : wr.cell? ⟨w.heap.size, k, none⟩ = some (.int .i64 (pick3 k0 k1 k2 k)) := by
          rw [hbx.cell]
          have : k = 0 ∨ k = 1 ∨ k = 2 := by omega
          rcases this with rfl | rfl | rfl <;> rfl
        have hts := turns_succ l k0 k1 k2 k hlt
        have hlen := turns_length l k0 k1 k2 k
        rw [HN.out] at hlen
        generalize pick3 k0 k1 k2 k = kd at hcx hts
        generalize turns l k0 k1 k2 k = lt at hts hlen hown
        have i3 : (k : Int) < 3 := by omega
        by_cases hin : 0 ≤ kd ∧ kd < 8 * (n : Int)
        · obtain ⟨hin0, hin1⟩ := hin
          obtain ⟨m, rfl⟩ := Int.eq_ofNat_of_zero_le hin0
          have hm8 : m < 8 * n := by omega
          obtain ⟨g, cp, hv, hgb, hcl, hfr, hset⟩ := hown.cellAt (m / 8) (by omega)
          obtain ⟨y, hy⟩ : ∃ y : UInt8, y = lt[m / 8]'(by omega) ^^^ (1 <<< UInt8.ofNat (m % 8)) := ⟨_, rfl⟩
          have hset := hset y
          have hz := (lt[m / 8]'(by omega)).toNat_lt
          have hxv : y.toNat = (lt[m / 8]'(by omega)).toNat ^^^ 2 ^ (m % 8) := by rw [hy, UInt8.toNat_xor, Crc.bit_toNat _ (by omega)]
          have he : turns l k0 k1 k2 (k + 1) = lt.set (m / 8) y := by
            rw [hts]; unfold Crc.turnI; rw [if_pos ⟨hin0, by rw [hlen]; exact hin1⟩]
            rw [Int.toNat_natCast, hy]
            unfold Crc.turn
            exact modify_set lt (m / 8) _ (by omega)
          rw [hxv] at hset
          clear hy
          generalize (lt[m / 8]'(by omega)).toNat = z at hcl hz hset hxv
          have hp := Nat.pow_lt_pow_right (a := 2) (by omega) (show m % 8 < 8 by omega)
          have x1 : bits .xor .u8 (z : Int) (IntKind.u8.wrap (2 ^ (m % 8))) = ((z ^^^ 2 ^ (m % 8) : Nat) : Int) := by
            rw [show ((2 : Int) ^ (m % 8)) = ((2 ^ (m % 8) : Nat) : Int) from by simp, u8_of _ (by omega)]
            exact xor_u8 z (2 ^ (m % 8)) hz (by omega)
          have hv1' : a1 = some ⟨g, 0, none⟩ := by cases hv; rfl
          subst hv1'
          have HE := hid he
          have HX := hid hxv
          clear hts he hxv hv
          have wq : IntKind.i64.wrap ((m : Int) / 8) = ((m / 8 : Nat) : Int) := by rw [IntWalk.i64_in _ (by omega)]; rfl
          have wm : (m : Int).tmod 8 = ((m % 8 : Nat) : Int) := by rw [Int.tmod_eq_emod_of_nonneg (by omega)]; rfl
          have hql : m / 8 < n := by omega
          have hr8 : m % 8 < 8 := by omega
          generalize m / 8 = q at *
          generalize m % 8 = r at *
          have hql2 : (q : Int) < (n : Int) := by omega
          have hr2 : (r : Int) < 8 := by omega
          go_wp2_with fail
          refine wp_region_still_tail 14 hmx (by kernel_rfl) ?_
          simp only [List.take_succ_cons, List.take_zero, List.drop_succ_cons, List.drop_zero]
          change wpStill _ _ wr.drew _ _ _
          repeat still_step
          refine wpStill_nil ?_
          change wpList _ _ _ _ _ wr.drew
          go_wp2_with fail
          go_roundw
          case rel => exact ⟨k + 1, by omega, by go_num, (hbel.setCell (p := ⟨g, q, none⟩) (by simp; omega) _).drew, by rw [HE.out]; exact hset.drew, (hbx.other (by omega) _ _).drew⟩
          case measure => simp [intOf]; omega
        · have e : turns l k0 k1 k2 (k + 1) = lt := by
            rw [hts]; unfold Crc.turnI; rw [if_neg (by rw [hlen]; exact hin)]
          have E := hid e
          clear e hts
          by_cases hpos : 0 ≤ kd
          · have hge : ¬ kd < 8 * (n : Int) := fun h => hin ⟨hpos, h⟩
            clear hin
            go_wp2_with fail
            go_roundw
            case rel => exact ⟨k + 1, by omega, by go_num, hbel, by rw [E.out]; exact hown, hbx⟩
            case measure => simp [intOf]; omega
          · clear hin
            go_wp2_with fail
            go_roundw
            case rel => exact ⟨k + 1, by omega, by go_num, hbel, by rw [E.out]; exact hown, hbx⟩
            case measure => simp [intOf]; omega
      · have hk3 : k = 3 := by omega
        rw [hk3] at hown
        obtain ⟨l', hl'⟩ : ∃ l', l' = turns l k0 k1 k2 3 := ⟨_, rfl⟩
        rw [← hl'] at hown
        have hlen : l'.length = n := by rw [hl', turns_length]; exact HN.out
        have HT2 : Hid (Crc.sum l = Crc.sum l' ↔ l = l') := by rw [hl']; exact HT
        obtain ⟨a2, cap2, hv2, hby2, _⟩ := hown.slice
        rw [hlen] at hv2
        have hv3 : a2 = a1 ∧ cap2 = cap1 := by cases hv2; exact ⟨rfl, rfl⟩
        obtain ⟨rfl, rfl⟩ := hv3
        have g0 := h0.grows hbel
        have HLEN := hid hlen
        have HK := hid hk3
        clear hv2 hlen hl' hown hk3 HT h0 hv1 hbx5 hB1
        go_wp2_with fail
        refine AnyOrder.wp_region_grows [
          fun v _ => v = .slice a n c0,
          fun v w' => ∃ b', v = .slice (some ⟨b', 0, none⟩) 1 1 ∧ Blk w' b' [.slice a n c0],
          fun v _ => v = .int .u32 ((Crc.sum l : Nat) : Int),
          fun v _ => v = .slice a2 n cap2,
          fun v w' => ∃ b', v = .slice (some ⟨b', 0, none⟩) 1 1 ∧ Blk w' b' [.slice a2 n cap2],
          fun v _ => v = .int .u32 ((Crc.sum l' : Nat) : Int),
          fun v _ => v = .bool (decide (l = l')),
          fun v _ => v = .slice a n c0, fun v _ => v = .string ⟨l.toArray⟩, fun v _ => v = .slice a2 n cap2, fun v _ => v = .string ⟨l'.toArray⟩,
          fun v _ => v = .bool (decide (l = l')),
          fun v _ => v = .bool true, fun v _ => v = .bool true, fun v _ => v = .bool true, fun v _ => v = .bool true, fun v _ => v = .bool true] hmx (by kernel_rfl) ?_ ?_ ?_
        · intro p hp
          simp only [List.mem_cons, List.not_mem_nil, or_false] at hp
          rcases hp with rfl | rfl | rfl | rfl | rfl | rfl | rfl | rfl | rfl | rfl | rfl | rfl | rfl | rfl | rfl | rfl | rfl
          all_goals first
            | exact AnyOrder.stays_const _
            | (rintro v w1 w2 hg ⟨b, rfl, hb⟩; exact ⟨b, rfl, hb.below hg hb.lt⟩)
        · simp only [AnyOrder.dstsOf, List.map_cons, List.map_nil, AnyOrder.Steps, Nat.zero_add, Nat.reduceAdd]
          refine ⟨?_, ?_, ?_, ?_, ?_, ?_, ?_, ?_, ?_, ?_, ?_, ?_, ?_, ?_, ?_, ?_, ?_, trivial⟩
          · intro ρ w' hk
            have k1 := hk.old 0 rfl
            clear hk
            simp at k1
            go_simp
            exact ⟨AnyOrder.Grows.refl _, rfl⟩
          · intro ρ w' hk
            have k1 : ρ (.tmp 44) = .slice a n c0 := hk.at 0 rfl
            clear hk
            go_simp
            exact ⟨AnyOrder.Grows.alloc _ _, _, rfl, Blk.new w' [_] 22⟩
          · intro ρ w' hk
            obtain ⟨bb, k1, k2⟩ : ∃ b', ρ (.tmp 45) = .slice (some ⟨b', 0, none⟩) 1 1 ∧ Blk w' b' [.slice a n c0] := hk.at 1 rfl
            have kw := hk.world
            have kf := hk.func
            clear hk
            go_simp
            have k3 : BytesIn (fun k => k < w'.heap.size) w' a l := g0.grows (Below.trans (Below.refl _ _).drew kw)
            refine (sumOne w' bb _ l c0 (by rw [HN.out]; exact k2) k3 (by rw [HN.out]; omega)).mono ?_
            rintro e w'' ⟨rfl, hb⟩
            exact ⟨_, rfl, hb, rfl⟩
          · intro ρ w' hk
            have k1 := hk.old 5 rfl
            clear hk
            simp at k1
            go_simp
            exact ⟨AnyOrder.Grows.refl _, rfl⟩
          · intro ρ w' hk
            have k1 : ρ (.tmp 47) = .slice a2 n cap2 := hk.at 3 rfl
            clear hk
            go_simp
            exact ⟨AnyOrder.Grows.alloc _ _, _, rfl, Blk.new w' [_] 22⟩
          · intro ρ w' hk
            obtain ⟨bb, k1, k2⟩ : ∃ b', ρ (.tmp 48) = .slice (some ⟨b', 0, none⟩) 1 1 ∧ Blk w' b' [.slice a2 n cap2] := hk.at 4 rfl
            have kw := hk.world
            have kf := hk.func
            clear hk
            go_simp
            have k3 : BytesIn (fun k => k < w'.heap.size) w' a2 l' := hby2.grows (Below.trans (Below.refl _ _).drew kw)
            refine (sumOne w' bb _ l' cap2 (by rw [HLEN.out]; exact k2) k3 (by rw [HLEN.out]; omega)).mono ?_
            rintro e w'' ⟨rfl, hb⟩
            exact ⟨_, rfl, hb, rfl⟩
          · intro ρ w' hk
            have k1 : ρ (.tmp 46) = .int .u32 ((Crc.sum l : Nat) : Int) := hk.at 2 rfl
            have k2 : ρ (.tmp 49) = .int .u32 ((Crc.sum l' : Nat) : Int) := hk.at 5 rfl
            clear hk
            go_simp
            refine ⟨AnyOrder.Grows.refl _, ?_⟩
            show Value.bool _ = Value.bool _
            congr 1
            rw [Bool.eq_iff_iff, decide_eq_true_eq, ← HT2.out]
            simp
            omega
          · intro ρ w' hk
            have k1 := hk.old 0 rfl
            clear hk
            simp at k1
            go_simp
            exact ⟨AnyOrder.Grows.refl _, rfl⟩
          · intro ρ w' hk
            have k1 : ρ (.tmp 51) = .slice a n c0 := hk.at 7 rfl
            have kw := hk.world
            have k3 : BytesIn (fun k => k < w'.heap.size) w' a l := g0.grows (Below.trans (Below.refl _ _).drew kw)
            have k4 := run_strB c0 k3
            rw [HN.out] at k4
            clear hk
            go_simp
            exact ⟨AnyOrder.Grows.refl _, rfl⟩
          · intro ρ w' hk
            have k1 := hk.old 5 rfl
            clear hk
            simp at k1
            go_simp
            exact ⟨AnyOrder.Grows.refl _, rfl⟩
          · intro ρ w' hk
            have k1 : ρ (.tmp 53) = .slice a2 n cap2 := hk.at 9 rfl
            have kw := hk.world
            have k3 : BytesIn (fun k => k < w'.heap.size) w' a2 l' := hby2.grows (Below.trans (Below.refl _ _).drew kw)
            have k4 := run_strB cap2 k3
            rw [HLEN.out] at k4
            clear hk
            go_simp
            exact ⟨AnyOrder.Grows.refl _, rfl⟩
          · intro ρ w' hk
            have k1 : ρ (.tmp 52) = .string ⟨l.toArray⟩ := hk.at 8 rfl
            have k2 : ρ (.tmp 54) = .string ⟨l'.toArray⟩ := hk.at 10 rfl
            clear hk
            go_simp
            refine ⟨AnyOrder.Grows.refl _, ?_⟩
            show Value.bool _ = Value.bool _
            congr 1
            rw [Bool.eq_iff_iff, decide_eq_true_eq]
            simp
          · intro ρ w' hk
            have k1 : ρ (.tmp 50) = .bool (decide (l = l')) := hk.at 6 rfl
            have k2 : ρ (.tmp 55) = .bool (decide (l = l')) := hk.at 11 rfl
            clear hk
            go_simp
            exact ⟨AnyOrder.Grows.refl _, rfl⟩
          · intro ρ w' hk
            have k1 : ρ (.tmp 56) = .bool true := hk.at 12 rfl
            clear hk
            go_simp
            exact ⟨AnyOrder.Grows.refl _, rfl⟩
          · intro ρ w' hk
            have k1 : ρ (.tmp 57) = .bool true := hk.at 13 rfl
            have kf := hk.func
            clear hk
            refine ⟨true, k1, rfl, fun _ => ?_, fun h => absurd rfl h⟩
            go_simp
            refine (known_any _).mono ?_
            rintro e w'' ⟨rfl, hb⟩
            exact ⟨_, rfl, hb, rfl⟩
          · intro ρ w' hk
            have k1 : ρ (.tmp 57) = .bool true := hk.at 13 rfl
            have k2 : ρ (.tmp 58) = .bool true := hk.at 14 rfl
            have kc := hk.const
            clear hk
            go_simp
            exact ⟨AnyOrder.Grows.refl _, rfl⟩
          · intro ρ w' hk
            have k1 : ρ (.tmp 59) = .bool true := hk.at 15 rfl
            clear hk
            go_simp
            exact ⟨AnyOrder.Grows.refl _, rfl⟩
        · intro vs' w' hg hv
          have v16 : vs' 16 = .bool true := hv 16 (by simp)
          clear hv
          simp only [AnyOrder.fill, Nat.zero_add, Nat.reduceAdd, List.setIfInBounds_toArray, List.set_cons_zero, List.set_cons_succ]
          rw [v16]
          go_wp2_with fail
          go_ret
          exact ⟨rfl, hbel.trans (Below.mono (Below.trans (Below.refl _ _).drew hg) hbel.size)⟩
end Go.Proofs.Ytgefenjjabjfmaa
