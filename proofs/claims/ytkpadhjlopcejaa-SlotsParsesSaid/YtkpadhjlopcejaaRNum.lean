/-
  A reader: the walk of Number.
-/
import Derived.Test.YtkpadhjlopcejaaTake
namespace Go.Proofs.Ytkpadhjlopcejaa
open Go.RowKit
theorem or_u64 (a b : Nat) (ha : a < 18446744073709551616) (hb : b < 18446744073709551616) : bits .or .u64 (a : Int) (b : Int) = ((a ||| b : Nat) : Int) := by
  have h2 : a ||| b < 2 ^ 64 := Nat.or_lt_two_pow (by omega) (by omega)
  show IntKind.u64.wrap ((BitVec.ofInt 64 (a : Int) ||| BitVec.ofInt 64 (b : Int)).toNat : Int) = _
  rw [BitVec.toNat_or, bvn (by omega), bvn (by omega), IntKind.wrap_u64]
  omega
theorem or_add (x b : Nat) (hb : b < 256) : x * 256 ||| b = 256 * x + b := by
  have := Nat.two_pow_add_eq_or_of_lt (i := 8) (b := b) hb x
  rw [Nat.mul_comm x 256]
  exact this.symm
/-- what reading a number tells, and what is left -/
def readNum (l : List UInt8) (k : Int) : (Nat × Int) × List UInt8 :=
  if 1 ≤ k ∧ k ≤ 8 then if l.length < k.toNat then ((0, 130), l) else ((val (l.take k.toNat), 0), l.drop k.toNat) else ((0, 2), l)
def NEnd (ok : Nat → Prop) (R : Nat) (r : (Nat × Int) × List UInt8) (w : World) (e : Ending) (w' : World) : Prop :=
  e = .returned (.tuple #[.int .u64 (r.1.1 : Int), .int .i64 r.1.2]) ∧ RdAt ok w' R r.2 ∧ Kept (fun k => k < w.heap.size ∧ k ≠ R) w w'
theorem rnumber_none (p : Option Addr) (k : Int) (w : World) (hn : Calls Try.prog 53 #[.pointer p] w fun e w' => e = .returned (.bool true) ∧ w = w') : Calls Try.prog 24 #[.pointer p, .int .i64 k] w fun e w' => e = .returned (.tuple #[.int .u64 0, .int .i64 1]) ∧ w = w' := by
  have HN := hid hn
  clear hn
  go_enter Try.func24, Try.ntmps24
  go_wp2_with fail
  refine HN.out.mono ?_
  rintro e w' ⟨rfl, rfl⟩
  go_wp2_with fail
  go_ret2
  exact ⟨rfl, rfl⟩
theorem val_step (l : List UInt8) (j : Nat) (h : j < l.length) (h8 : j < 8) : bits .or .u64 (IntKind.u64.wrap ((val (l.take j) : Int) * 256)) (l[j].toNat : Int) = ((val (l.take (j + 1)) : Nat) : Int) ∧ val (l.take j) < 72057594037927936 := by
  have hv := val_lt (l.take j)
  have hl : (l.take j).length = j := by simp; omega
  rw [hl] at hv
  have hp : (256 : Nat) ^ j ≤ 256 ^ 7 := Nat.pow_le_pow_right (by decide) (by omega)
  have h7 : (256 : Nat) ^ 7 = 72057594037927936 := by decide
  have hb := l[j].toNat_lt
  rw [take_snoc l j h, val_snoc]
  generalize val (l.take j) = x at *
  have hx : x < 72057594037927936 := by omega
  refine ⟨?_, hx⟩
  have e : IntKind.u64.wrap ((x : Int) * 256) = ((x * 256 : Nat) : Int) := by rw [IntKind.wrap_u64]; omega
  rw [e, or_u64 _ _ (by omega) (by omega), or_add _ _ hb]
set_option maxRecDepth 10000 in
set_option maxHeartbeats 1000000 in
theorem rnumber_calls (ok : Nat → Prop) (R : Nat) (l : List UInt8) (k : Int) (w : World) (h : RdAt ok w R l) : Calls Try.prog 24 #[.pointer (some ⟨R, 0, none⟩), .int .i64 k] w (NEnd ok R (readNum l k) w) := by
  obtain ⟨v, h1, _⟩ := id h
  have c1 := h1.cell 1
  simp only [List.getElem?_cons_zero, List.getElem?_cons_succ] at c1
  have hR := h.lt
  have H := hid h
  have HW := hid (wide_calls k)
  clear h h1
  by_cases hk : 1 ≤ k ∧ k ≤ 8
  · obtain ⟨m, rfl⟩ : ∃ m : Nat, k = m := ⟨k.toNat, by omega⟩
    rw [decide_eq_true hk] at HW
    have hb0 : Below w.heap.size w (w.alloc (.cells #[.pointer (some ⟨R, 0, none⟩)] 34)) := (Below.refl _ _).alloc (Nat.le_refl _) _
    have hnew := Blk.new w [.pointer (some ⟨R, 0, none⟩)] 34
    have HT := hid (take_calls ok R w.heap.size m l _ (H.out.grows hb0) (hnew.cell 0) (by omega))
    have HB0 := hid hb0
    have HK := hid hk
    clear hb0 hnew hk
    by_cases hlt : l.length < m
    · have e : readNum l m = ((0, 130), l) := by unfold readNum; rw [if_pos HK.out, if_pos (by rw [Int.toNat_natCast]; exact hlt)]
      have HE := hid e
      have HLT := hid hlt
      clear e hlt
      go_enter Try.func24, Try.ntmps24
      go_wp2_with fail
      refine (rnone_at R true _ c1).mono ?_
      rintro e w' ⟨rfl, rfl⟩
      go_wp2_with fail
      refine (HW.out _).mono ?_
      rintro e w' ⟨rfl, rfl⟩
      go_wp2_with fail
      refine (mkfun_calls _ _).mono ?_
      rintro e w' ⟨rfl, rfl⟩
      go_wp2_with fail
      refine HT.out.mono ?_
      intro e w' ht
      unfold TakeEnd at ht
      rw [if_pos HLT.out] at ht
      obtain ⟨rfl, rfl⟩ := ht
      go_wp2_with fail
      go_ret2
      rw [HE.out]
      exact ⟨rfl, H.out.grows HB0.out, Kept.of_below HB0.out fun _ h => h.1⟩
    · have e : readNum l m = ((val (l.take m), 0), l.drop m) := by unfold readNum; rw [if_pos HK.out, if_neg (by rw [Int.toNat_natCast]; exact hlt), Int.toNat_natCast]
      have HE := hid e
      have HLT := hid hlt
      have hstep := fun (j : Nat) (hj : j < m) => val_step (l.take m) j (by rw [List.length_take]; omega) (by have := HK.out; omega)
      have hlen : (l.take m).length = m := by rw [List.length_take]; omega
      have HST := hid hstep
      have HLEN := hid hlen
      have hge : m ≤ l.length := by omega
      clear e hstep hlen
      go_enter Try.func24, Try.ntmps24
      go_wp2_with fail
      refine (rnone_at R true _ c1).mono ?_
      rintro e w' ⟨rfl, rfl⟩
      go_wp2_with fail
      refine (HW.out _).mono ?_
      rintro e w' ⟨rfl, rfl⟩
      go_wp2_with fail
      refine (mkfun_calls _ _).mono ?_
      rintro e w' ⟨rfl, rfl⟩
      go_wp2_with fail
      refine HT.out.mono ?_
      intro e w2 ht
      unfold TakeEnd at ht
      rw [if_neg HLT.out] at ht
      obtain ⟨v2, rfl, ⟨a2, c2, rfl, p2, -⟩, r2, k2, z2⟩ := ht
      have HR2 := hid r2
      have HK2 := hid k2
      have HZ2 := hid z2
      rw [HLEN.out]
      clear r2 k2 z2
      go_wp2_with fail
      go_loop [8, 9, 27] (fun n _ i => ∃ j : Nat, j ≤ m ∧ i = .int .i64 (j : Int) ∧ n = .int .u64 ((val ((l.take m).take j) : Nat) : Int)) (fun _ _ i => m - (intOf i).toNat)
      case atStart => exact ⟨0, Nat.zero_le _, rfl, rfl⟩
      case round =>
        obtain ⟨j, hj, rfl, rfl⟩ := hrel
        by_cases hjm : j < m
        · obtain ⟨b0, off0, rfl, ho0, hd0⟩ := p2 j (by rw [HLEN.out]; exact hjm)
          obtain ⟨hs, hx⟩ := HST.out j hjm
          have hb := ((l.take m)[j]'(by rw [HLEN.out]; exact hjm)).toNat_lt
          obtain ⟨y, hy⟩ : ∃ y, y = val ((l.take m).take (j + 1)) := ⟨_, rfl⟩
          rw [← hy] at hs
          have HY := hid hy
          generalize val ((l.take m).take j) = x at hs hx
          generalize ((l.take m)[j]'(by rw [HLEN.out]; exact hjm)).toNat = b at hs hb hd0
          have i0 : (j : Int) < (m : Int) := by omega
          have hb2 : b < 256 := hb
          clear hx hb p2 hge hy
          go_wp2_with fail
          go_round
          case rel => exact ⟨j + 1, hjm, by go_num, by rw [HY.out]⟩
          case measure => simp [intOf]; omega
        · have hjm' : j = m := by omega
          have i0 : ¬ ((j : Int) < (m : Int)) := by omega
          have htt : (l.take m).take j = l.take m := List.take_of_length_le (by rw [HLEN.out]; omega)
          rw [htt]
          have HJ := hid hjm'
          clear htt hjm' p2 hge
          go_wp2_with fail
          go_ret2
          rw [HE.out]
          exact ⟨rfl, HR2.out, (Kept.of_below HB0.out fun _ h => h.1).trans (HK2.out.shrink fun _ h => h.2)⟩
  · rw [decide_eq_false hk] at HW
    have e : readNum l k = ((0, 2), l) := by unfold readNum; rw [if_neg hk]
    have HE := hid e
    clear e hk
    go_enter Try.func24, Try.ntmps24
    go_wp2_with fail
    refine (rnone_at R true _ c1).mono ?_
    rintro e w' ⟨rfl, rfl⟩
    go_wp2_with fail
    refine (HW.out _).mono ?_
    rintro e w' ⟨rfl, rfl⟩
    go_wp2_with fail
    go_ret2
    rw [HE.out]
    exact ⟨rfl, H.out, Kept.refl _ _⟩
end Go.Proofs.Ytkpadhjlopcejaa
