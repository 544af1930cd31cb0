/-
  The walks of the words of bytes, of the reference's sum, of the steps of a join.
-/
import Derived.Test.YtgefenjjabjfmaaBase
namespace Go.Proofs.Ytgefenjjabjfmaa
open Go.RowKit
theorem word_any (b : Nat) (w : World) (hb : b < 256) :
    Calls Try.prog 19 #[.int .u8 (b : Int)] w fun e w' => e = .returned (.int .u32 ((Crc.word b : Nat) : Int)) ∧ w = w' := by
  go_enter Try.func19, Try.ntmps19
  go_wp2
  go_loop [3, 6] (fun v i => ∃ k x : Nat, k ≤ 8 ∧ x < 4294967296 ∧ i = .int .i64 k ∧ v = .int .u32 x ∧ Hid (Crc.halves (8 - k) x = Crc.word b)) (fun _ i => 8 - (intOf i).toNat)
  case atStart => exact ⟨0, b, by omega, by omega, rfl, rfl, rfl⟩
  case round =>
    obtain ⟨k, x, hk, hx, rfl, rfl, hh⟩ := hrel
    by_cases hlt : k < 8
    · have st : Crc.halves (8 - (k + 1)) (Crc.half x) = Crc.word b := by
        rw [← hh.out, show 8 - k = (8 - (k + 1)) + 1 from by omega]; rfl
      have a1 := and1_u32 x hx
      have hl : Crc.half x < 4294967296 := Crc.half_lt hx
      have x1 := xor_u32 (x / 2) 3988292384 (by omega) (by omega)
      have hd : Crc.half x = x / 2 ^^^ (x % 2 * Crc.poly) := rfl
      generalize Crc.half x = y at st hl hd
      have ST : Hid (Crc.halves (8 - (k + 1)) y = Crc.word b) := st
      have A1 := hid a1
      have X1 := hid x1
      have HD := hid hd
      clear st a1 x1 hd
      go_wp2
      · rename_i hb
        rw [A1.out] at hb
        have e : x % 2 = 1 := by have := beq_iff_eq.1 hb; omega
        go_round
        case rel => 
          refine ⟨k + 1, y, by omega, hl, by go_num, ?_, ST⟩
          rw [HD.out, e, Nat.one_mul]
          exact congrArg (Value.int .u32) X1.out
        case measure => simp [intOf]; omega
      · rename_i hb
        rw [A1.out] at hb
        have e : x % 2 = 0 := by have := beq_eq_false_iff_ne.1 hb; omega
        go_round
        case rel =>
          refine ⟨k + 1, y, by omega, hl, by go_num, ?_, ST⟩
          rw [HD.out, e, Nat.zero_mul, Nat.xor_zero]
          rfl
        case measure => simp [intOf]; omega
    · obtain rfl : k = 8 := by omega
      go_wp2
      go_ret
      have := hh.out
      simp only [Nat.sub_self, Crc.halves] at this
      exact ⟨by rw [← this]; rfl, rfl⟩
theorem rword_any (b : Nat) (w : World) (hb : b < 256) :
    Calls Try.prog 20 #[.int .u8 (b : Int)] w fun e w' => e = .returned (.int .u32 ((Crc.word b : Nat) : Int)) ∧ w = w' := by
  go_enter Try.func20, Try.ntmps20
  go_wp2
  go_loop [3, 4, 5] (fun v i o => ∃ k x : Nat, k ≤ 8 ∧ x < 4294967296 ∧ i = .int .i64 k ∧ v = .int .u32 x ∧ Hid (Crc.halves (8 - k) x = Crc.word b)) (fun _ i _ => 8 - (intOf i).toNat)
  case atStart => exact ⟨0, b, by omega, by omega, rfl, rfl, rfl⟩
  case round =>
    obtain ⟨k, x, hk, hx, rfl, rfl, hh⟩ := hrel
    by_cases hlt : k < 8
    · have st : Crc.halves (8 - (k + 1)) (Crc.half x) = Crc.word b := by
        rw [← hh.out, show 8 - k = (8 - (k + 1)) + 1 from by omega]; rfl
      have hl : Crc.half x < 4294967296 := Crc.half_lt hx
      have x1 := xor_u32 (x / 2) 3988292384 (by omega) (by omega)
      have hd := half_any x
      generalize Crc.half x = y at st hl hd
      have ST := hid st
      have X1 := hid x1
      have HD := hid hd
      clear st x1 hd
      by_cases hm : x % 2 = 1
      · have hm' : ((x : Int) % 2 == 1) = true := by simp; omega
        have HM := hid hm
        clear hm
        go_wp2
        go_round
        case rel => 
          refine ⟨k + 1, y, by omega, hl, by go_num, ?_, ST⟩
          rw [HD.out, if_pos HM.out]
          exact congrArg (Value.int .u32) X1.out
        case measure => simp [intOf]; omega
      · have hm' : ((x : Int) % 2 == 1) = false := by simp; omega
        have HM := hid hm
        clear hm
        go_wp2
        go_round
        case rel =>
          refine ⟨k + 1, y, by omega, hl, by go_num, ?_, ST⟩
          rw [HD.out, if_neg HM.out]
          rfl
        case measure => simp [intOf]; omega
    · obtain rfl : k = 8 := by omega
      go_wp2
      go_ret
      have := hh.out
      simp only [Nat.sub_self, Crc.halves] at this
      exact ⟨by rw [← this]; rfl, rfl⟩
theorem take_snoc {α : Type} (l : List α) (k : Nat) (h : k < l.length) : l.take (k + 1) = l.take k ++ [l[k]] := by
  rw [List.take_succ_eq_append_getElem h]
theorem rsum_any (a : Option Addr) (cap : Nat) (l : List UInt8) (w : World) (hl : l.length ≤ maxLen) (hb : Bytes w a l) :
    Calls Try.prog 10 #[.slice a l.length cap] w fun e w' => e = .returned (.int .u32 ((Crc.sum l : Nat) : Int)) ∧ w = w' := by
  unfold maxLen at hl
  go_enter Try.func10, Try.ntmps10
  go_wp2
  go_loop [3, 4] (fun v i => ∃ k x : Nat, k ≤ l.length ∧ x < 4294967296 ∧ i = .int .i64 k ∧ v = .int .u32 x ∧ Hid (x = Crc.run Crc.ones (l.take k))) (fun _ i => l.length - (intOf i).toNat)
  case atStart => exact ⟨0, 4294967295, by omega, by omega, rfl, rfl, rfl⟩
  case round =>
    obtain ⟨k, x, hk, hx, rfl, rfl, hh⟩ := hrel
    by_cases hlt : k < l.length
    · obtain ⟨blk, off, rfl, hblk, hc⟩ := hb k hlt
      have hu := l[k].toNat_lt
      generalize hz : l[k].toNat = z at hc hu
      have HZ := hid hz
      clear hz hb
      have x1 : bits .xor .u8 ((x : Int) % 256) (z : Int) = ((x % 256 ^^^ z : Nat) : Int) := xor_u8 (x % 256) z (by omega) (by omega)
      have hw := Crc.xor_lt8 (a := x % 256) (b := z) (by omega) hu
      have hw2 := Crc.halves_lt 8 (x := x % 256 ^^^ z) (by omega)
      have x2 : bits .xor .u32 (Crc.word (x % 256 ^^^ z) : Int) ((x : Int) / 256) = ((Crc.word (x % 256 ^^^ z) ^^^ x / 256 : Nat) : Int) := xor_u32 _ (x / 256) hw2 (by omega)
      go_wp2_with (go_at_call 20; refine (rword_any _ _ hw).mono ?_; rintro e w' ⟨rfl, rfl⟩)
      go_round
      case rel =>
        refine ⟨k + 1, Crc.word (x % 256 ^^^ z) ^^^ x / 256, by omega, Crc.xor_lt hw2 (by omega), by go_num, rfl, ?_⟩
        show _ = _
        rw [take_snoc l k hlt, Crc.run_append, ← hh.out]
        show _ = Crc.upd x l[k]
        unfold Crc.upd
        rw [HZ.out]
      case measure => simp [intOf]; omega
    · obtain rfl : k = l.length := by omega
      have hn := Crc.not_eq x hx
      go_wp2
      go_ret
      refine ⟨ret_int ?_, rfl⟩
      have := hh.out
      rw [List.take_length] at this
      unfold Crc.sum
      rw [← this, hn]
      omega
/-- a step of 'halves j', as the cells of a block -/
def StepAt (w : World) (b j : Nat) : Prop := b < w.heap.size ∧ ∀ i, i < 32 → w.cell? ⟨b, i, none⟩ = some (.int .u32 ((Crc.halves j (2 ^ i) : Nat) : Int))
theorem StepAt.below {w w' : World} {B b j : Nat} (h : StepAt w b j) (hb : Below B w w') (hB : w.heap.size ≤ B) : StepAt w' b j :=
  ⟨Nat.lt_of_lt_of_le h.1 hb.size, fun i hi => by rw [hb.cell (p := ⟨b, i, none⟩) (Nat.lt_of_lt_of_le h.1 hB)]; exact h.2 i hi⟩
theorem shr_bit (n i : Nat) (hn : n < 4294967296) : bits .and .u32 ((n : Int) / 2 ^ i) 1 = ((n / 2 ^ i % 2 : Nat) : Int) := by
  have := and1_u32 (n / 2 ^ i) (Nat.lt_of_le_of_lt (Nat.div_le_self _ _) hn)
  rw [← this]
  congr 1
theorem mod_succ_xor (n k : Nat) : n % 2 ^ (k + 1) = (n % 2 ^ k) ^^^ (n / 2 ^ k % 2 * 2 ^ k) := by
  apply Nat.eq_of_testBit_eq; intro i
  have hb : n / 2 ^ k % 2 = (n.testBit k).toNat := by rw [Nat.testBit_eq_decide_div_mod_eq]; have : n / 2 ^ k % 2 = 0 ∨ n / 2 ^ k % 2 = 1 := by omega
                                                      rcases this with e | e <;> rw [e] <;> rfl
  rw [Nat.testBit_xor, Nat.testBit_mod_two_pow, Nat.testBit_mod_two_pow, hb, Nat.mul_comm, Nat.testBit_two_pow_mul]
  rcases Nat.lt_trichotomy i k with h | h | h
  · simp [h, show i < k + 1 from by omega, show ¬ k ≤ i from by omega]
  · subst h
    cases n.testBit i <;> simp
  · have h1 : ¬ i < k + 1 := by omega
    have h2 : ¬ i < k := by omega
    have h3 : i - k ≠ 0 := by omega
    have h4 : Nat.testBit 1 (i - k) = false := Nat.testBit_lt_two_pow (Nat.one_lt_two_pow h3)
    cases n.testBit k <;> simp [h1, h2, h4]
theorem of_any (b j n : Nat) (w : World) (hs : StepAt w b j) (hn : n < 4294967296) :
    Calls Try.prog 22 #[.pointer (some ⟨b, 0, none⟩), .int .u32 (n : Int)] w fun e w' => e = .returned (.int .u32 ((Crc.halves j n : Nat) : Int)) ∧ w = w' := by
  obtain ⟨hb, hc⟩ := hs
  go_enter Try.func22, Try.ntmps22
  go_wp2
  go_loop [5, 6, 7] (fun v _ i => ∃ k x : Nat, k ≤ 32 ∧ x < 4294967296 ∧ i = .int .i64 k ∧ v = .int .u32 x ∧ Hid (x = Crc.halves j (n % 2 ^ k))) (fun _ _ i => 32 - (intOf i).toNat)
  case atStart => exact ⟨0, 0, by omega, by omega, rfl, rfl, by show _ = _; rw [Nat.pow_zero, Nat.mod_one, Crc.halves_zero]⟩
  case round =>
    obtain ⟨k, x, hk, hx, rfl, rfl, hh⟩ := hrel
    by_cases hlt : k < 32
    · have hck := hc k hlt
      have hyl := Crc.halves_lt j (x := 2 ^ k) (by have := Nat.pow_lt_pow_right (a := 2) (by omega) hlt; omega)
      have hst : Crc.halves j (n % 2 ^ (k + 1)) = Crc.halves j (n % 2 ^ k) ^^^ Crc.halves j (n / 2 ^ k % 2 * 2 ^ k) := by rw [mod_succ_xor, Crc.halves_xor]
      rw [← hh.out] at hst
      have HST := hid hst
      clear hst
      generalize hy : Crc.halves j (2 ^ k) = y at hck hyl
      have HY := hid hy
      have S1 := hid (shr_bit n k hn)
      clear hy hc
      have x1 := xor_u32 x y hx hyl
      go_wp2_with fail
      · rename_i hb
        rw [S1.out] at hb
        have e : n / 2 ^ k % 2 = 1 := by have := beq_iff_eq.1 hb; omega
        go_round
        case rel =>
          refine ⟨k + 1, x ^^^ y, by omega, Crc.xor_lt hx hyl, by go_num, rfl, ?_⟩
          show _ = _
          rw [HST.out, e, Nat.one_mul, HY.out]
        case measure => simp [intOf]; omega
      · rename_i hb
        rw [S1.out] at hb
        have e : n / 2 ^ k % 2 = 0 := by have := beq_eq_false_iff_ne.1 hb; omega
        go_round
        case rel =>
          refine ⟨k + 1, x, by omega, hx, by go_num, rfl, ?_⟩
          show _ = _
          rw [HST.out, e, Nat.zero_mul, Crc.halves_zero, Nat.xor_zero]
        case measure => simp [intOf]; omega
    · clear hc
      go_wp2
      go_ret
      have := hh.out
      rw [show k = 32 from by omega, Nat.mod_eq_of_lt hn] at this
      exact ⟨by rw [this]; rfl, rfl⟩
theorem twice_any (b j : Nat) (w : World) (hs : StepAt w b j) :
    Calls Try.prog 21 #[.pointer (some ⟨b, 0, none⟩)] w fun e w' => e = .returned (.pointer (some ⟨w.heap.size, 0, none⟩)) ∧ Below w.heap.size w w' ∧ StepAt w' w.heap.size (2 * j) ∧ w'.heap.size = w.heap.size + 1 := by
  go_enter Try.func21, Try.ntmps21
  go_wp2
  go_loopw [4, 5] (fun _ i wr => ∃ (k : Nat) (vs : List Value), k ≤ 32 ∧ i = .int .i64 k ∧ Below w.heap.size w wr ∧ wr.heap.size = w.heap.size + 1 ∧ Blk wr w.heap.size vs ∧ vs.length = 32 ∧ (∀ i, i < k → vs[i]? = some (.int .u32 ((Crc.halves (2 * j) (2 ^ i) : Nat) : Int)))) (fun _ i _ => 32 - (intOf i).toNat)
  case atStart =>
    refine ⟨0, List.replicate 32 (.int .u32 0), by omega, rfl, (Below.refl _ _).alloc (Nat.le_refl _) _, by simp, Blk.new w _ _, rfl, fun i hi => by omega⟩
  case round =>
    obtain ⟨k, vs, hk, rfl, hbel, hsz, hB, hlen, hv⟩ := hrel
    by_cases hlt : k < 32
    · have hst : StepAt wr b j := hs.below hbel (Nat.le_refl _)
      have hck := hst.2 k hlt
      have hyl := Crc.halves_lt j (x := 2 ^ k) (by have := Nat.pow_lt_pow_right (a := 2) (by omega) hlt; omega)
      generalize hy : Crc.halves j (2 ^ k) = y at hck hyl
      have HY := hid hy
      obtain ⟨v0, hcell⟩ := hB.some k (by omega)
      have hfr := hB.frozen k
      have HV := hid hv
      have HLEN := hid hlen
      have HSZ := hid hsz
      clear hy hv hlen hsz
      go_wp2_with (go_at_call 22; refine (of_any b j _ _ hst hyl).mono ?_; rintro e w' ⟨rfl, rfl⟩)
      go_roundw
      case rel =>
        refine ⟨k + 1, vs.set k (.int .u32 ((Crc.halves j y : Nat) : Int)), by omega, by go_num, hbel.setCell (p := ⟨w.heap.size, k, none⟩) (Nat.le_refl _) _, by simp; exact HSZ.out, hB.set _ _, by simp; exact HLEN.out, ?_⟩
        intro i hi
        by_cases e : i = k
        · subst e
          rw [List.getElem?_set_self (by rw [HLEN.out]; exact hlt), ← HY.out, Nat.two_mul, Crc.halves_add]
        · rw [List.getElem?_set_ne (by omega)]
          exact HV.out i (by omega)
      case measure => simp [intOf]; omega
    · have HV := hid hv
      have HSZ := hid hsz
      clear hv hsz
      go_wp2
      go_ret
      refine ⟨rfl, hbel, ⟨hB.lt, fun i hi => ?_⟩, HSZ.out⟩
      rw [hB.cell]
      exact HV.out i (by omega)
end Go.Proofs.Ytgefenjjabjfmaa
