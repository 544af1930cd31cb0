/-
  The document's answers for wire: the walks of Number, Text, Read.
-/
import Derived.Test.YtkpadhjlopcejaaBackPlain
namespace Go.Proofs.Ytkpadhjlopcejaa
open Go.RowKit
theorem made_zero (k : Nat) : (madeCells (Value.int .u8 0).cells (k * 1)).toList = cellsB (List.replicate k 0) := by
  unfold madeCells cellsB
  apply List.ext_getElem
  · simp
  · intro i h1 h2
    simp [Value.cells, Nat.mod_one]
/-- what lies in the bytes when those from j on are laid -/
def half (n k j : Nat) : List UInt8 := List.replicate j 0 ++ (be n k).drop j
theorem half_length (n k j : Nat) (h : j ≤ k) : (half n k j).length = k := by unfold half; rw [List.length_append, List.length_replicate, List.length_drop, be_length]; omega
theorem be_get (n k i : Nat) (h : i < k) : (be n k)[i]'(by rw [be_length]; exact h) = UInt8.ofNat (n / 256 ^ (k - 1 - i)) := by
  have hd := be_drop n k (k - i) (by omega)
  rw [show k - (k - i) = i from by omega, show k - i = (k - 1 - i) + 1 from by omega, List.drop_eq_getElem_cons (by rw [be_length]; exact h), be] at hd
  exact (List.cons.inj hd).1
theorem half_step (n k i : Nat) (h : i < k) : (half n k (i + 1)).set i (UInt8.ofNat (n / 256 ^ (k - 1 - i))) = half n k i := by
  unfold half
  rw [← be_get n k i h, List.drop_eq_getElem_cons (show i < (be n k).length by rw [be_length]; exact h)]
  rw [List.replicate_succ', List.append_assoc, List.singleton_append, List.set_append_right _ _ (by simp), List.length_replicate, Nat.sub_self, List.set_cons_zero]
theorem div_step (n k i : Nat) (h : i < k) : n / 256 ^ (k - 1 - i) / 256 = n / 256 ^ (k - i) := by
  rw [Nat.div_div_eq_div_mul, ← Nat.pow_succ, show (k - 1 - i).succ = k - i from by omega]
theorem refnum_out (n : Int) (k : Int) (w : World) (hk : ¬ (1 ≤ k ∧ k ≤ 8)) : Calls Try.prog 28 #[.int .u64 n, .int .i64 k] w fun e w' =>
    e = .returned (.tuple #[.slice none 0 0, .bool false]) ∧ w = w' := by
  go_enter Try.func28, Try.ntmps28
  by_cases h1 : k < 1
  · clear hk
    go_wp2
    go_ret2
    exact ⟨rfl, rfl⟩
  · have h2 : k > 8 := by omega
    clear hk
    go_wp2
    go_ret2
    exact ⟨rfl, rfl⟩
theorem div_wrap (q : Nat) (h : q < 18446744073709551616) : IntKind.u64.wrap ((q : Int) / 256) = ((q / 256 : Nat) : Int) := by
  rw [IntKind.wrap_u64]; omega
set_option maxRecDepth 10000 in
set_option maxHeartbeats 1000000 in
theorem refnum_calls (n k : Nat) (w : World) (hn : n < 18446744073709551616) (hk : 1 ≤ k ∧ k ≤ 8) : Calls Try.prog 28 #[.int .u64 (n : Int), .int .i64 (k : Int)] w fun e w' =>
    ∃ v, e = .returned (.tuple #[v, .bool (decide (n < 256 ^ k))]) ∧ OwnB w' w.heap.size v (be n k) ∧ Below w.heap.size w w' := by
  have i1 : ¬ (k : Int) < 1 := by omega
  have i2 : ¬ (k : Int) > 8 := by omega
  have HN := hid hn
  clear hn
  obtain ⟨i0, hi, hz0, hz1, hz2⟩ := info_parts info5
  obtain ⟨w1, hmk, hown, hg⟩ := run_makeSlice_full (P := Try.prog) (w := w) w.heap.size 36 5 i0 (.int .u8 0) 1 Try.underlying36 hi hz0 hz1 .i64 .i64 k (by omega) (by rw [hz2]; omega) (by unfold maxLen; omega) (Nat.le_refl _)
  have ho : OwnB w1 w.heap.size (.slice (some ⟨w.heap.size, 0, none⟩) k k) (half n k k) := by
    unfold OwnB
    rw [half_length n k k (Nat.le_refl _)]
    unfold half
    rw [List.drop_of_length_le (by rw [be_length]; exact Nat.le_refl _), List.append_nil, ← made_zero k]
    exact hown
  have hb : Below w.heap.size w w1 := ⟨hg.os, hg.tape, hg.output, hg.size, fun j hj => hg.block j hj (by simp)⟩
  have hend : decide (n / 256 ^ (k - 0) = 0) = decide (n < 256 ^ k) := by
    rw [decide_eq_decide, Nat.sub_zero]
    exact ⟨fun h => Nat.lt_of_not_le fun h' => by have := Nat.div_pos h' (Nat.pow_pos (n := k) (show 0 < 256 by decide)); omega, fun h => Nat.div_eq_of_lt h⟩
  have HO := hid ho
  have HB := hid hb
  have HEND := hid hend
  have HK := hid hk
  clear hown hg ho hb hend hk hi hz0 hz1 hz2
  go_enter Try.func28, Try.ntmps28
  go_wp2_with fail
  clear hmk
  go_loopw [0, 7] (fun m i wr => ∃ j : Nat, j ≤ k ∧ i = .int .i64 ((j : Int) - 1) ∧ m = .int .u64 ((n / 256 ^ (k - j) : Nat) : Int) ∧ OwnB wr w.heap.size (.slice (some ⟨w.heap.size, 0, none⟩) k k) (half n k j) ∧ Below w.heap.size w wr) (fun _ i _ => (intOf i + 1).toNat)
  case atStart => exact ⟨k, Nat.le_refl _, rfl, by rw [Nat.sub_self]; simp, HO.out, HB.out⟩
  case round =>
    obtain ⟨j, hj, rfl, rfl, hown, hbel⟩ := hrel
    by_cases h0 : j = 0
    · subst h0
      have i0 : ¬ ((0 : Int) ≤ ((0 : Nat) : Int) - 1) := by omega
      have hend := HEND.out
      have HOW := hid hown
      have HBE := hid hbel
      have hhalf : half n k 0 = be n k := by unfold half; rfl
      rw [hhalf] at HOW
      generalize n / 256 ^ (k - 0) = q at hend ⊢
      have hq : ((q : Int) == 0) = decide (n < 256 ^ k) := by rw [← hend, Bool.eq_iff_iff]; simp
      have HQ := hid hq
      clear hown hbel hhalf hj hend hq HEND
      go_wp2_with fail
      go_ret2
      rw [← HQ.out]
      exact ⟨_, rfl, HOW.out, HBE.out⟩
    · obtain ⟨i, rfl⟩ : ∃ i, j = i + 1 := ⟨j - 1, by omega⟩
      have hst := half_step n k i (by omega)
      have hdv := div_step n k i (by omega)
      have ei : ((i + 1 : Nat) : Int) - 1 = (i : Int) := by omega
      rw [ei]
      have ek : k - (i + 1) = k - 1 - i := by omega
      rw [ek] 
      have i0 : (0 : Int) ≤ (i : Int) := by omega
      have i3 : (i : Int) < (k : Int) := by omega
      have hl := half_length n k (i + 1) (by omega)
      have hcell := hown.cellAt i (by omega)
      obtain ⟨g, cp, hv, hgg, hgb, hcl, hfr, hset⟩ := hcell
      have hgw : w.heap.size = g := by simpa [Value.ownBlock] using hgg
      subst hgw
      have hs := hset (UInt8.ofNat (n / 256 ^ (k - 1 - i)))
      rw [hst] at hs
      have hqn : n / 256 ^ (k - 1 - i) < 18446744073709551616 := Nat.lt_of_le_of_lt (Nat.div_le_self _ _) HN.out
      generalize n / 256 ^ (k - 1 - i) = q at hs hdv hqn ⊢
      have HDW := hid (div_wrap q hqn)
      clear hqn
      have HDV := hid hdv
      have hby : ((UInt8.ofNat q).toNat : Int) = (q : Int) % 256 := by rw [UInt8.toNat_ofNat']; rfl
      rw [hby] at hs
      have hbs : ∀ u, Below w.heap.size w (wr.setCell ⟨w.heap.size, i, none⟩ u) := fun u => hbel.setCell (p := ⟨w.heap.size, i, none⟩) (Nat.le_refl _) u
      have HS := hid hs
      have HBS := hid hbs
      generalize (half n k (i + 1))[i]'(by omega) = old at hcl
      have hq0 : (0 : Int) ≤ (q : Int) := by omega
      clear hs hbs hset hown hbel hst hdv hv hgg hgb hl hby ei ek h0
      go_wp2_with fail
      go_roundw
      case rel => exact ⟨i, by omega, rfl, by rw [← HDV.out, HDW.out], HS.out, HBS.out _⟩
      case measure => simp [intOf]
/-- the document's answer: a number's bytes -/
theorem reftext_out (s : ByteArray) (w : World) (h : 65535 < s.size) : Calls Try.prog 29 #[.string s] w fun e w' => e = .returned (.tuple #[.slice none 0 0, .bool false]) ∧ w = w' := by
  have h' : (65535 : Int) < (s.size : Int) := by omega
  go_enter Try.func29, Try.ntmps29
  go_wp2_with fail
  go_ret2
  exact ⟨rfl, rfl⟩
theorem be_two (m : Nat) : be m 2 = [UInt8.ofNat (m / 256), UInt8.ofNat m] := by
  simp [be]
theorem two_lit (w : World) (x y : UInt8) (t : TypeId) (hx : t = 5) : OwnB (w.alloc (.cells #[.int .u8 (x.toNat : Int), .int .u8 (y.toNat : Int)] t)) w.heap.size (.slice (some ⟨w.heap.size, 0, none⟩) 2 2) [x, y] := by
  subst hx
  exact ⟨rfl, .inr ⟨w.heap.size, 2, _, rfl, Nat.le_refl _, heap_alloc_new w _, Nat.le_refl _, by decide, rfl, rfl⟩⟩
set_option maxRecDepth 10000 in
theorem reftext_calls (s : ByteArray) (w : World) (h : s.size ≤ 65535) : Calls Try.prog 29 #[.string s] w fun e w' =>
    ∃ v, e = .returned (.tuple #[v, .bool true]) ∧ OwnB w' w.heap.size v (be s.data.toList.length 2 ++ s.data.toList) ∧ Below w.heap.size w w' := by
  have h' : ¬ (65535 : Int) < (s.size : Int) := by omega
  have hb := be_two s.size
  have hx : ((UInt8.ofNat (s.size / 256)).toNat : Int) = (s.size : Int) / 256 := by rw [UInt8.toNat_ofNat']; omega
  have hy : ((UInt8.ofNat s.size).toNat : Int) = (s.size : Int) % 256 := by rw [UInt8.toNat_ofNat']; rfl
  have hlit := two_lit w (UInt8.ofNat (s.size / 256)) (UInt8.ofNat s.size) 5 rfl
  rw [hx, hy, ← hb] at hlit
  have hle : s.data.toList.length = s.size := by simp
  rw [hle]
  have HLIT := hid hlit
  have H := hid h
  have hbA : Below w.heap.size w (w.alloc (.cells #[.int .u8 ((s.size : Int) / 256), .int .u8 ((s.size : Int) % 256)] 5)) := (Below.refl _ _).alloc (Nat.le_refl _) _
  have HBA := hid hbA
  clear hb hx hy hlit hbA hle
  go_enter Try.func29, Try.ntmps29
  go_wp2_with (at_builtin; refine wpList_appendS rfl (.tmp 15) (.tmp 16) rfl w.heap.size _ _ rfl HLIT.out s rfl (by have := H.out; rw [be_length]; omega) HBA.out.size ?_; intro v2 w2 hv2 hg2; have HV2 := hid hv2; have HB2 := hid (HBA.out.trans (grown_belowB hg2 HLIT.out HBA.out.size)); obtain ⟨a2, n2, c2, rfl⟩ : ∃ a n c, v2 = .slice a n c := (by obtain ⟨a, c, e, _⟩ := hv2.part; exact ⟨a, _, c, e⟩); clear hv2 hg2)
  go_ret2
  exact ⟨_, rfl, HV2.out, HB2.out⟩
theorem refread_short (a : Option Addr) (cap : Nat) (l : List UInt8) (k : Int) (w : World) (h : (l.length : Int) < k) : Calls Try.prog 31 #[.slice a l.length cap, .int .i64 k] w fun e w' => e = .returned (.tuple #[.int .u64 0, .bool false]) ∧ w = w' := by
  generalize l.length = n at *
  go_enter Try.func31, Try.ntmps31
  go_wp2_with fail
  go_ret2
  exact ⟨rfl, rfl⟩
theorem val_step2 (l : List UInt8) (j : Nat) (h : j < l.length) (h8 : j < 8) : IntKind.u64.wrap (256 * (val (l.take j) : Int)) = ((256 * val (l.take j) : Nat) : Int) ∧ IntKind.u64.wrap (256 * (val (l.take j) : Int) + (l[j].toNat : Int)) = ((val (l.take (j + 1)) : Nat) : Int) := by
  have hv := val_lt (l.take j)
  have hl : (l.take j).length = j := by simp; omega
  rw [hl] at hv
  have hp : (256 : Nat) ^ j ≤ 256 ^ 7 := Nat.pow_le_pow_right (by decide) (by omega)
  have h7 : (256 : Nat) ^ 7 = 72057594037927936 := by decide
  have hb := l[j].toNat_lt
  rw [take_snoc l j h, val_snoc]
  generalize val (l.take j) = x at *
  generalize l[j].toNat = b at *
  rw [IntKind.wrap_u64, IntKind.wrap_u64]
  omega
set_option maxRecDepth 10000 in
set_option maxHeartbeats 1000000 in
theorem refread_calls (a : Option Addr) (cap : Nat) (l : List UInt8) (k : Nat) (ok : Nat → Prop) (w : World) (hb : BytesIn ok w a l) (hk : k ≤ l.length) (hk8 : k ≤ 8) : Calls Try.prog 31 #[.slice a l.length cap, .int .i64 (k : Int)] w fun e w' => e = .returned (.tuple #[.int .u64 ((val (l.take k) : Nat) : Int), .bool true]) ∧ w = w' := by
  have HST := hid (fun (j : Nat) (hj : j < l.length) (h8 : j < 8) => val_step2 l j hj h8)
  generalize hN : l.length = n at hk ⊢
  have HN := hid hN
  have i0 : ¬ (n : Int) < (k : Int) := by omega
  clear hN
  go_enter Try.func31, Try.ntmps31
  go_wp2_with fail
  go_loop [6, 7] (fun v i => ∃ j : Nat, j ≤ k ∧ i = .int .i64 (j : Int) ∧ v = .int .u64 ((val (l.take j) : Nat) : Int)) (fun _ i => k - (intOf i).toNat)
  case atStart => exact ⟨0, Nat.zero_le _, rfl, rfl⟩
  case round =>
    obtain ⟨j, hj, rfl, rfl⟩ := hrel
    by_cases hlt : j < k
    · obtain ⟨b0, off0, rfl, ho0, hd0⟩ := hb j (by rw [HN.out]; omega)
      obtain ⟨s1, s2⟩ := HST.out j (by rw [HN.out]; omega) (by omega)
      have hb8 := (l[j]'(by rw [HN.out]; omega)).toNat_lt
      obtain ⟨y, hy⟩ : ∃ y, y = val (l.take (j + 1)) := ⟨_, rfl⟩
      rw [← hy] at s2
      have HY := hid hy
      generalize val (l.take j) = x at s1 s2
      generalize (l[j]'(by rw [HN.out]; omega)).toNat = b at s2 hb8 hd0
      have hb256 : b < 256 := hb8
      have i1 : (j : Int) < (k : Int) := by omega
      have i2 : (j : Int) < (n : Int) := by omega
      clear hb hb8 hy
      go_wp2_with fail
      go_round
      case rel => exact ⟨j + 1, hlt, by go_num, by rw [HY.out]⟩
      case measure => simp [intOf]; omega
    · have hjk : j = k := by omega
      subst hjk
      have i1 : ¬ (j : Int) < (j : Int) := by omega
      clear hb hlt hj
      go_wp2_with fail
      go_ret2
      exact ⟨rfl, rfl⟩
end Go.Proofs.Ytkpadhjlopcejaa
