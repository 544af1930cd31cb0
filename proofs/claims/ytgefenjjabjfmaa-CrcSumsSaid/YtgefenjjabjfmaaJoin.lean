/-
  The walks of a join, of the words of all bytes, of a new sum.
-/
import Derived.Test.YtgefenjjabjfmaaSteps
namespace Go.Proofs.Ytgefenjjabjfmaa
open Go.RowKit
theorem and1_i64 (a : Nat) (ha : a < 9223372036854775808) : bits .and .i64 (a : Int) 1 = ((a % 2 : Nat) : Int) := by
  show IntKind.i64.wrap ((BitVec.ofInt 64 (a : Int) &&& BitVec.ofInt 64 ((1 : Nat) : Int)).toNat : Int) = _
  rw [BitVec.toNat_and, bvn (by omega), bvn (by omega), Nat.and_one_is_mod]
  simp [IntKind.wrap, IntKind.bits, IntKind.signed]; omega
theorem half_pow (i : Nat) (h : 1 ≤ i) : Crc.halves 1 (2 ^ i) = 2 ^ (i - 1) := by
  have := Crc.halves_shift 1 (2 ^ (i - 1))
  rw [← this]
  congr 1
  rw [Nat.pow_one, ← Nat.pow_succ']
  congr 1
  omega
theorem shl1_u32 (i : Nat) (h : i < 32) : (2 : Int) ^ i % 4294967296 = ((2 ^ i : Nat) : Int) := by
  have := Nat.pow_lt_pow_right (a := 2) (by omega) h
  have e : ((2 : Int) ^ i) = ((2 ^ i : Nat) : Int) := by simp
  rw [e]
  generalize 2 ^ i = z at *
  omega
theorem join_any (a b n : Nat) (w : World) (ha : a < 4294967296) (hb : b < 4294967296) (hn : n ≤ 1099511627776) :
    Calls Try.prog 11 #[.int .u32 (a : Int), .int .u32 (b : Int), .int .i64 (n : Int)] w fun e w' => e = .returned (.tuple #[.int .u32 ((Crc.halves (8 * n) a ^^^ b : Nat) : Int), .int .i64 0]) ∧ Below w.heap.size w w' := by
  go_enter Try.func11, Try.ntmps11
  have hn' : (n : Int) ≤ 1099511627776 := by omega
  go_wp2
  go_loopw [9] (fun i wr => ∃ (k : Nat) (vs : List Value), 1 ≤ k ∧ k ≤ 32 ∧ i = .int .i64 k ∧ Below w.heap.size w wr ∧ Blk wr w.heap.size vs ∧ vs.length = 32 ∧ (∀ i, i < k → vs[i]? = some (.int .u32 ((Crc.halves 1 (2 ^ i) : Nat) : Int)))) (fun i _ => 32 - (intOf i).toNat)
  case atStart =>
    refine ⟨1, .int .u32 3988292384 :: List.replicate 31 (.int .u32 0), by omega, by omega, rfl, (Below.refl _ _).alloc (Nat.le_refl _) _, Blk.new w _ _, rfl, fun i hi => ?_⟩
    obtain rfl : i = 0 := by omega
    rfl
  case round =>
    obtain ⟨k, vs, hk1, hk, rfl, hbel, hB, hlen, hv⟩ := hrel
    by_cases hlt : k < 32
    · obtain ⟨v0, hcell⟩ := hB.some k (by omega)
      have hfr := hB.frozen k
      have HV := hid hv
      have HLEN := hid hlen
      clear hv hlen
      have HP := hid (half_pow k hk1)
      have HT := hid (shl1_u32 (k - 1) (by omega))
      go_wp2
      go_roundw
      case rel =>
        refine ⟨k + 1, vs.set k (.int .u32 (2 ^ (k - 1) % 4294967296)), by omega, by omega, by go_num, hbel.setCell (p := ⟨w.heap.size, k, none⟩) (Nat.le_refl _) _, hB.set _ _, by simp; exact HLEN.out, ?_⟩
        intro i hi
        by_cases e : i = k
        · subst e
          rw [List.getElem?_set_self (by rw [HLEN.out]; exact hlt), HP.out, HT.out]
        · rw [List.getElem?_set_ne (by omega)]
          exact HV.out i (by omega)
      case measure => simp [intOf]; omega
    · have HLEN := hid hlen
      have HV := hid hv
      clear hlen hv
      have HS : StepAt wr w.heap.size 1 := ⟨hB.lt, fun i hi => by rw [hB.cell]; exact HV.out i (by omega)⟩
      clear HV
      go_wp2_with fail
      refine (twice_any _ _ _ HS).mono ?_
      rintro e w1 ⟨rfl, hb1, hs1, hz1⟩
      have hbel1 := hbel.trans (hb1.mono hbel.size)
      clear hz1 hb1 HS hB hbel
      go_wp2_with fail
      refine (twice_any _ _ _ hs1).mono ?_
      rintro e w2 ⟨rfl, hb2, hs2, hz2⟩
      have hbel2 := hbel1.trans (hb2.mono hbel1.size)
      clear hz2 hb2 hs1 hbel1
      go_wp2_with fail
      refine (twice_any _ _ _ hs2).mono ?_
      rintro e w3 ⟨rfl, hb3, hs3, hz3⟩
      have hbel3 := hbel2.trans (hb3.mono hbel2.size)
      clear hz3 hb3 hs2 hbel2
      go_wp2_with fail
      go_loopw [0, 2, 10] (fun x m p wr => ∃ (a' m' B j : Nat), a' < 4294967296 ∧ m' ≤ 1099511627776 ∧ x = .int .u32 a' ∧ m = .int .i64 m' ∧ p = .pointer (some ⟨B, 0, none⟩) ∧ StepAt wr B j ∧ Below w.heap.size w wr ∧ Hid (Crc.halves (j * m') a' = Crc.halves (8 * n) a)) (fun _ m _ _ => (intOf m).toNat)
      case atStart => exact ⟨a, n, w2.heap.size, _, ha, hn, rfl, rfl, rfl, hs3, hbel3, rfl⟩
      case round =>
        obtain ⟨a', m', B, j, ha', hm', rfl, rfl, rfl, hst, hbl, hh⟩ := hrel
        by_cases hpos : 0 < m'
        · have a1 := and1_i64 m' (by omega)
          by_cases hm : m' % 2 = 1
          · have e : Crc.halves (2 * j * (m' / 2)) (Crc.halves j a') = Crc.halves (8 * n) a := by
              rw [← hh.out, ← Crc.halves_add]
              congr 1
              conv => rhs; rw [show m' = 1 + 2 * (m' / 2) from by omega]
              rw [Nat.mul_add, Nat.mul_one, Nat.mul_comm 2 j, Nat.mul_assoc]
            have hl := Crc.halves_lt j ha'
            have E := hid e
            have hm' : (bits BinOp.and IntKind.i64 (m' : Int) 1 == 1) = true := by rw [a1]; simp; omega
            clear a1 e hm
            go_wp2_with fail
            refine (of_any B j _ _ hst ha').mono ?_
            rintro e w4 ⟨rfl, rfl⟩
            go_wp2_with fail
            refine (twice_any _ _ _ hst).mono ?_
            rintro e w5 ⟨rfl, hb5, hs5, hz5⟩
            have hbl5 := hbl.trans (hb5.mono hbl.size)
            clear hz5 hb5 hbl hst
            go_wp2_with fail
            go_roundw
            case rel => exact ⟨_, m' / 2, _, 2 * j, hl, by omega, rfl, by go_num, rfl, hs5, hbl5, E⟩
            case measure => simp [intOf]; omega
          · have e : Crc.halves (2 * j * (m' / 2)) a' = Crc.halves (8 * n) a := by
              rw [← hh.out]
              congr 1
              conv => rhs; rw [show m' = 2 * (m' / 2) from by omega]
              rw [Nat.mul_comm 2 j, Nat.mul_assoc]
            have E := hid e
            have hm' : (bits BinOp.and IntKind.i64 (m' : Int) 1 == 1) = false := by rw [a1]; simp; omega
            clear a1 e hm
            go_wp2_with fail
            refine (twice_any _ _ _ hst).mono ?_
            rintro e w5 ⟨rfl, hb5, hs5, hz5⟩
            have hbl5 := hbl.trans (hb5.mono hbl.size)
            clear hz5 hb5 hbl hst
            go_wp2_with fail
            go_roundw
            case rel => exact ⟨_, m' / 2, _, 2 * j, ha', by omega, rfl, by go_num, rfl, hs5, hbl5, E⟩
            case measure => simp [intOf]; omega
        · clear hst
          have hz : m' = 0 := by omega
          have hr := hh.out
          rw [hz, Nat.mul_zero] at hr
          have x1 := xor_u32 a' b ha' hb
          have HR := hid hr
          clear hr hh
          go_wp2
          go_ret2
          exact ⟨by rw [← HR.out]; rfl, hbl⟩
/-- the words of all bytes, as the cells of a block -/
def WordsAt (w : World) (b : Nat) : Prop := b < w.heap.size ∧ ∀ i, i < 256 → w.cell? ⟨b, i, none⟩ = some (.int .u32 ((Crc.word i : Nat) : Int))
theorem WordsAt.below {w w' : World} {B b : Nat} (h : WordsAt w b) (hb : Below B w w') (hB : b < B) : WordsAt w' b :=
  ⟨Nat.lt_of_lt_of_le h.1 hb.size, fun i hi => by rw [hb.cell (p := ⟨b, i, none⟩) hB]; exact h.2 i hi⟩
theorem u8_of (k : Nat) (h : k < 256) : IntKind.u8.wrap (k : Int) = (k : Int) := by
  simp [IntKind.wrap, IntKind.bits, IntKind.signed]; omega
theorem zero60 (w : World) : (zeroValue 60).run Try.prog w = .ok (.agg (List.replicate 256 (Value.int .u32 0)).toArray) w := by kernel_rfl
set_option maxRecDepth 100000 in
theorem words_any (w : World) :
    Calls Try.prog 24 #[] w fun e w' => e = .returned (.pointer (some ⟨w.heap.size, 0, none⟩)) ∧ Below w.heap.size w w' ∧ WordsAt w' w.heap.size ∧ w'.heap.size = w.heap.size + 1 := by
  have hz := zero60
  generalize hvs : List.replicate 256 (Value.int .u32 0) = vs0 at hz
  have HVS := hid hvs
  clear hvs
  go_enter Try.func24, Try.ntmps24
  go_wp2
  go_loopw [2, 3] (fun _ i wr => ∃ (k : Nat) (vs : List Value), k ≤ 256 ∧ i = .int .i64 k ∧ Below w.heap.size w wr ∧ wr.heap.size = w.heap.size + 1 ∧ Blk wr w.heap.size vs ∧ vs.length = 256 ∧ (∀ i, i < k → vs[i]? = some (.int .u32 ((Crc.word i : Nat) : Int)))) (fun _ i _ => 256 - (intOf i).toNat)
  case atStart =>
    exact ⟨0, vs0, by omega, rfl, (Below.refl _ _).alloc (Nat.le_refl _) _, by simp, Blk.new w _ _, by rw [← HVS.out, List.length_replicate], fun i hi => by omega⟩
  case round =>
    obtain ⟨k, vs, hk, rfl, hbel, hsz, hB, hlen, hv⟩ := hrel
    by_cases hlt : k < 256
    · obtain ⟨v0, hcell⟩ := hB.some k (by omega)
      have hfr := hB.frozen k
      have HV := hid hv
      have HLEN := hid hlen
      have HSZ := hid hsz
      have hu := u8_of k hlt
      clear hv hlen hsz
      go_wp2_with (go_at_call 19; refine (word_any k _ hlt).mono ?_; rintro e w' ⟨rfl, rfl⟩)
      go_roundw
      case rel =>
        refine ⟨k + 1, vs.set k (.int .u32 ((Crc.word k : Nat) : Int)), by omega, by go_num, hbel.setCell (p := ⟨w.heap.size, k, none⟩) (Nat.le_refl _) _, by simp; exact HSZ.out, hB.set _ _, by simp; exact HLEN.out, ?_⟩
        intro i hi
        by_cases e : i = k
        · subst e
          rw [List.getElem?_set_self (by rw [HLEN.out]; exact hlt)]
        · rw [List.getElem?_set_ne (by omega)]
          exact HV.out i (by omega)
      case measure => simp [intOf]; omega
    · have HV := hid hv
      have HSZ := hid hsz
      clear hv hsz
      go_wp2
      go_ret
      refine ⟨rfl, hbel, ⟨hB.lt, fun i hi => ?_⟩, HSZ.out⟩
      rw [hB.cell]
      exact HV.out i (by omega)
theorem new_any (w : World) :
    Calls Try.prog 14 #[] w fun e w' => e = .returned (.pointer (some ⟨w.heap.size + 1, 0, none⟩)) ∧ Below w.heap.size w w' ∧ WordsAt w' w.heap.size ∧ w'.heap.size = w.heap.size + 2 ∧ Blk w' (w.heap.size + 1) [.int .i64 0, .pointer (some ⟨w.heap.size, 0, none⟩), .int .u32 4294967295] := by
  go_enter Try.func14, Try.ntmps14
  go_wp2_with (go_at_call 24; refine (words_any _).mono ?_; rintro e w1 ⟨rfl, hb1, hw1, hz1⟩; have HZ1 := hid hz1; clear hz1)
  go_ret
  refine ⟨by rw [← HZ1.out]; rfl, hb1.alloc hb1.size _, hw1.below ((Below.refl w1.heap.size w1).alloc (Nat.le_refl _) _) hw1.1, by simp [HZ1.out], ?_⟩
  rw [← HZ1.out]
  exact Blk.new w1 _ _
end Go.Proofs.Ytgefenjjabjfmaa
