/-
  A cell's bytes: the walks of raw and its closure (printed by mkraw.py).
-/
import Derived.Test.YtkpadhjlopcejaaSRight
import Derived.Test.YtkpadhjlopcejaaWState
namespace Go.Proofs.Ytkpadhjlopcejaa
open Go.RowKit
theorem one_litB (w : World) (x : UInt8) (z : Int) (hz : z = (x.toNat : Int)) : OwnB (w.alloc (.cells #[.int .u8 z] 5)) w.heap.size (.slice (some ⟨w.heap.size, 0, none⟩) 1 1) [x] := by
  subst hz
  exact ⟨rfl, .inr ⟨w.heap.size, 1, _, rfl, Nat.le_refl _, heap_alloc_new w _, Nat.le_refl _, by decide, rfl, rfl⟩⟩
theorem u8_size (n : Nat) (h : n ≤ 255) : IntKind.u8.wrap (n : Int) = ((UInt8.ofNat n).toNat : Int) := by
  rw [byte_small (by omega)]
  exact IntWalk.u8_in _ (by omega)
def ShortEnd (s : ByteArray) (w : World) (e : Ending) (w' : World) : Prop := ∃ v, e = .returned v ∧ OwnB w' w.heap.size v (shortB s) ∧ Below w.heap.size w w'
theorem short_calls (s : ByteArray) (w : World) (hs : s.size ≤ 255) : Calls Try.prog 76 #[.string s] w (ShortEnd s w) := by
  have hlit := one_litB w (UInt8.ofNat s.size) (IntKind.u8.wrap (s.size : Int)) (u8_size s.size hs)
  have hba : Below w.heap.size w (w.alloc (.cells #[.int .u8 (IntKind.u8.wrap (s.size : Int))] 5)) := (Below.refl _ _).alloc (Nat.le_refl _) _
  have HS := hid hs
  have HL := hid hlit
  have HB := hid hba
  clear hs hlit hba
  go_enter Try.func76, Try.ntmps76
  generalize hN : (IntKind.u8.wrap (s.size : Int)) = z at *
  go_wp2_with (at_builtin; refine wpList_appendS rfl (.tmp 6) (.tmp 7) rfl w.heap.size _ _ rfl HL.out s rfl (by have := HS.out; simp; omega) (by simp) ?_; intro v2 w2 hv2 hg2; obtain ⟨a2, n2, c2, rfl⟩ : ∃ a n c, v2 = .slice a n c := (by obtain ⟨a, c, e, _⟩ := hv2.part; exact ⟨a, _, c, e⟩); have HV2 := hid hv2; have HB2 := hid (HB.out.trans (grown_belowB hg2 HL.out (by simp))); clear hv2 hg2)
  go_ret
  exact ⟨_, rfl, HV2.out, HB2.out⟩
def RawEnd (leaf : Bool) (x : Cl) (w : World) (e : Ending) (w' : World) : Prop := ∃ v, e = .returned v ∧ OwnB w' w.heap.size v (rawC leaf x) ∧ Below w.heap.size w w'
set_option maxRecDepth 100000 in
set_option maxHeartbeats 4000000 in
theorem raw_inline (key text : ByteArray) (page size : Int) (w : World) (hk : key.size ≤ 255) (ht : text.size ≤ 255) : Calls Try.prog 71 #[.int .i64 2, aggC ⟨key, text, false, page, size⟩] w (RawEnd true ⟨key, text, false, page, size⟩ w) := by
  have hr : rawC true ⟨key, text, false, page, size⟩ = shortB key ++ [0] ++ shortB text := by unfold rawC; simp
  have HR := hid hr
  have HK := hid hk
  have HT := hid ht
  clear hr hk ht
  have HW := hid ((Below.refl w.heap.size w).alloc (Nat.le_refl _) (.cells (rowC ⟨key, text, false, page, size⟩).toArray 81))
  have hblk := Blk.new w (rowC ⟨key, text, false, page, size⟩) 81
  simp only [rowC] at HW hblk
  unfold aggC
  go_enter Try.func71, Try.ntmps71
  go_wp2_with fail
  generalize hW1 : w.alloc (.cells [.string key, .string text, .bool false, .int .i64 page, .int .i64 size].toArray 81) = w1 at *
  have c0 := hblk.cell 0
  have c1 := hblk.cell 1
  have c2 := hblk.cell 2
  have c3 := hblk.cell 3
  have c4 := hblk.cell 4
  simp only [List.getElem?_cons_zero, List.getElem?_cons_succ] at c0 c1 c2 c3 c4
  have HC := hid hblk.lt
  have HCS := hid (show w.heap.size ≤ w1.heap.size from HW.out.size)
  generalize hCC : w.heap.size = C at *
  have HCE := hid hCC
  clear hblk hW1 hCC
  refine (wst_new w1.heap.size w1 w1 (Nat.le_refl _) (Below.refl _ _)).mono ?_
  rintro e w2 ⟨P, rfl, a2, -, -⟩
  have A2 := hid a2
  clear a2
  have e0 := A2.out.below.cell (p := ⟨C, 0, none⟩) HC.out
  rw [c0] at e0
  have e1 := A2.out.below.cell (p := ⟨C, 1, none⟩) HC.out
  rw [c1] at e1
  have e2 := A2.out.below.cell (p := ⟨C, 2, none⟩) HC.out
  rw [c2] at e2
  have e3 := A2.out.below.cell (p := ⟨C, 3, none⟩) HC.out
  rw [c3] at e3
  have e4 := A2.out.below.cell (p := ⟨C, 4, none⟩) HC.out
  rw [c4] at e4
  go_wp2_with fail
  refine (A2.out.truth false).mono ?_
  rw [show written [] (some [if false then 1 else 0]) 2 = ([0], 0) from rfl]
  rintro e w3 ⟨rfl, a3, -⟩
  have A3 := hid a3
  clear a3 A2 e0 e1 e2 e3 e4
  have e0 := A3.out.below.cell (p := ⟨C, 0, none⟩) HC.out
  rw [c0] at e0
  have e1 := A3.out.below.cell (p := ⟨C, 1, none⟩) HC.out
  rw [c1] at e1
  have e2 := A3.out.below.cell (p := ⟨C, 2, none⟩) HC.out
  rw [c2] at e2
  have e3 := A3.out.below.cell (p := ⟨C, 3, none⟩) HC.out
  rw [c3] at e3
  have e4 := A3.out.below.cell (p := ⟨C, 4, none⟩) HC.out
  rw [c4] at e4
  go_wp2_with fail
  refine (short_calls key w3 HK.out).mono ?_
  rintro e w4 ⟨v4, rfl, o4, b4⟩
  have A4 := hid (A3.out.grows b4)
  have O4 := hid (o4.mono (base' := w1.heap.size) fun k hk => Nat.le_trans A3.out.below.size (o4.block hk).1)
  obtain ⟨a4, n4, c4', rfl⟩ : ∃ a n c, v4 = .slice a n c := by obtain ⟨a, c, e, _⟩ := o4.part; exact ⟨a, _, c, e⟩
  clear o4 b4 A3 e0 e1 e2 e3 e4
  have e0 := A4.out.below.cell (p := ⟨C, 0, none⟩) HC.out
  rw [c0] at e0
  have e1 := A4.out.below.cell (p := ⟨C, 1, none⟩) HC.out
  rw [c1] at e1
  have e2 := A4.out.below.cell (p := ⟨C, 2, none⟩) HC.out
  rw [c2] at e2
  have e3 := A4.out.below.cell (p := ⟨C, 3, none⟩) HC.out
  rw [c3] at e3
  have e4 := A4.out.below.cell (p := ⟨C, 4, none⟩) HC.out
  rw [c4] at e4
  go_wp2_with fail
  refine A4.out.bytes.mono ?_
  rintro e w5 ⟨v5, rfl, o5, a5, b5⟩
  have O5 := hid (O4.out.below b5)
  have B5 := hid (A4.out.below.trans (b5.mono A4.out.below.size))
  obtain ⟨x5, c5, rfl, p5, -, -, s5⟩ := o5.part
  have P5 := hid p5
  have S5 := hid s5
  clear o5 a5 b5 p5 s5 A4 O4 e0 e1 e2 e3 e4
  go_wp2_with (at_builtin; refine wpList_appendB rfl (.tmp 19) (.tmp 21) rfl w1.heap.size _ _ rfl O5.out x5 1 c5 [0] rfl rfl S5.out _ P5.out (by have := HK.out; rw [shortB_length]; omega) B5.out.size ?_; intro v6 w6 hv hg ho; have HB6 := hid (B5.out.trans (grown_belowB hg O5.out B5.out.size)); have HV6 := hid hv; obtain ⟨a6, n6, c6, rfl⟩ : ∃ a n c, v6 = .slice a n c := (by obtain ⟨a, c, e, _⟩ := hv.part; exact ⟨a, _, c, e⟩); clear hv hg ho; clear O5 B5 P5 S5; have e0 := HB6.out.cell (p := ⟨C, 0, none⟩) HC.out; rw [c0] at e0; have e1 := HB6.out.cell (p := ⟨C, 1, none⟩) HC.out; rw [c1] at e1; have e2 := HB6.out.cell (p := ⟨C, 2, none⟩) HC.out; rw [c2] at e2; have e3 := HB6.out.cell (p := ⟨C, 3, none⟩) HC.out; rw [c3] at e3; have e4 := HB6.out.cell (p := ⟨C, 4, none⟩) HC.out; rw [c4] at e4)
  go_wp2_with fail
  refine (short_calls text w6 HT.out).mono ?_
  rintro e w7 ⟨v7, rfl, o7, b7⟩
  have O7 := hid (HV6.out.below b7)
  have B7 := hid (HB6.out.trans (b7.mono HB6.out.size))
  have hl7 := shortB_length text
  generalize hL7 : shortB text = l7 at *
  obtain ⟨x7, c7, rfl, p7, -, -, s7⟩ := o7.part
  generalize hN7 : l7.length = N7 at *
  have HN7 := hid hN7
  have HL7 := hid hl7
  have HR7 := hid hL7
  have P7 := hid p7
  have S7 := hid s7
  clear o7 b7 p7 s7 hN7 hL7 hl7 HB6 HV6 e0 e1 e2 e3 e4
  go_wp2_with (at_builtin; refine wpList_appendB rfl (.tmp 30) (.tmp 34) rfl w1.heap.size _ _ rfl O7.out x7 N7 c7 l7 HN7.out rfl S7.out _ P7.out (by have := HK.out; have := HT.out; have := HL7.out; rw [List.length_append, shortB_length]; simp; omega) B7.out.size ?_; intro v8 w8 hv hg ho; have HB8 := hid (B7.out.trans (grown_belowB hg O7.out B7.out.size)); have HV8 := hid hv; obtain ⟨a8, n8, c8, rfl⟩ : ∃ a n c, v8 = .slice a n c := (by obtain ⟨a, c, e, _⟩ := hv.part; exact ⟨a, _, c, e⟩); clear hv hg ho)
  go_ret
  have hcc := HCE.out
  subst hcc
  refine ⟨_, rfl, ?_, HW.out.trans (HB8.out.mono HCS.out)⟩
  rw [HR.out]
  exact HV8.out.mono fun k hk => Nat.le_trans HCS.out (HV8.out.block hk).1
set_option maxRecDepth 100000 in
set_option maxHeartbeats 4000000 in
theorem raw_long (key text : ByteArray) (p q : Nat) (w : World) (hk : key.size ≤ 255) (hp : p < 4294967296) (hq : q < 4294967296) : Calls Try.prog 71 #[.int .i64 2, aggC ⟨key, text, true, (p : Int), (q : Int)⟩] w (RawEnd true ⟨key, text, true, (p : Int), (q : Int)⟩ w) := by
  have hr : rawC true ⟨key, text, true, (p : Int), (q : Int)⟩ = shortB key ++ [1] ++ (be p 4 ++ be q 4) := by unfold rawC; simp
  have HR := hid hr
  have HK := hid hk
  have hw1 : IntKind.u64.wrap (p : Int) = (p : Int) := IntWalk.u64_in _ (by omega)
  have hw2 : IntKind.u64.wrap (q : Int) = (q : Int) := IntWalk.u64_in _ (by omega)
  have hnp : written [] (numB p 4) 2 = (be p 4, 0) := by
    unfold numB written
    rw [if_pos ⟨by decide, by show p < 256 ^ 4; omega⟩]
    simp [be_length]
  have hnq : written (be p 4) (numB q 4) 2 = (be p 4 ++ be q 4, 0) := by
    unfold numB written
    rw [if_pos ⟨by decide, by show q < 256 ^ 4; omega⟩]
    simp [be_length]
  have HP := hid hp
  have HQ := hid hq
  have HNP := hid hnp
  have HNQ := hid hnq
  clear hr hk hp hq hnp hnq
  have HW := hid ((Below.refl w.heap.size w).alloc (Nat.le_refl _) (.cells (rowC ⟨key, text, true, (p : Int), (q : Int)⟩).toArray 81))
  have hblk := Blk.new w (rowC ⟨key, text, true, (p : Int), (q : Int)⟩) 81
  simp only [rowC] at HW hblk
  unfold aggC
  go_enter Try.func71, Try.ntmps71
  go_wp2_with fail
  generalize hW1 : w.alloc (.cells [.string key, .string text, .bool true, .int .i64 (p : Int), .int .i64 (q : Int)].toArray 81) = w1 at *
  have c0 := hblk.cell 0
  have c1 := hblk.cell 1
  have c2 := hblk.cell 2
  have c3 := hblk.cell 3
  have c4 := hblk.cell 4
  simp only [List.getElem?_cons_zero, List.getElem?_cons_succ] at c0 c1 c2 c3 c4
  have HC := hid hblk.lt
  have HCS := hid (show w.heap.size ≤ w1.heap.size from HW.out.size)
  generalize hCC : w.heap.size = C at *
  have HCE := hid hCC
  clear hblk hW1 hCC
  refine (wst_new w1.heap.size w1 w1 (Nat.le_refl _) (Below.refl _ _)).mono ?_
  rintro e w2 ⟨P, rfl, a2, -, -⟩
  have A2 := hid a2
  clear a2
  have e0 := A2.out.below.cell (p := ⟨C, 0, none⟩) HC.out
  rw [c0] at e0
  have e1 := A2.out.below.cell (p := ⟨C, 1, none⟩) HC.out
  rw [c1] at e1
  have e2 := A2.out.below.cell (p := ⟨C, 2, none⟩) HC.out
  rw [c2] at e2
  have e3 := A2.out.below.cell (p := ⟨C, 3, none⟩) HC.out
  rw [c3] at e3
  have e4 := A2.out.below.cell (p := ⟨C, 4, none⟩) HC.out
  rw [c4] at e4
  go_wp2_with fail
  refine (A2.out.truth true).mono ?_
  rw [show written [] (some [if true then 1 else 0]) 2 = ([1], 0) from rfl]
  rintro e w3 ⟨rfl, a3, -⟩
  have A3 := hid a3
  clear a3 A2 e0 e1 e2 e3 e4
  have e0 := A3.out.below.cell (p := ⟨C, 0, none⟩) HC.out
  rw [c0] at e0
  have e1 := A3.out.below.cell (p := ⟨C, 1, none⟩) HC.out
  rw [c1] at e1
  have e2 := A3.out.below.cell (p := ⟨C, 2, none⟩) HC.out
  rw [c2] at e2
  have e3 := A3.out.below.cell (p := ⟨C, 3, none⟩) HC.out
  rw [c3] at e3
  have e4 := A3.out.below.cell (p := ⟨C, 4, none⟩) HC.out
  rw [c4] at e4
  go_wp2_with fail
  refine (short_calls key w3 HK.out).mono ?_
  rintro e w4 ⟨v4, rfl, o4, b4⟩
  have A4 := hid (A3.out.grows b4)
  have O4 := hid (o4.mono (base' := w1.heap.size) fun k hk => Nat.le_trans A3.out.below.size (o4.block hk).1)
  obtain ⟨a4, n4, c4', rfl⟩ : ∃ a n c, v4 = .slice a n c := by obtain ⟨a, c, e, _⟩ := o4.part; exact ⟨a, _, c, e⟩
  clear o4 b4 A3 e0 e1 e2 e3 e4
  have e0 := A4.out.below.cell (p := ⟨C, 0, none⟩) HC.out
  rw [c0] at e0
  have e1 := A4.out.below.cell (p := ⟨C, 1, none⟩) HC.out
  rw [c1] at e1
  have e2 := A4.out.below.cell (p := ⟨C, 2, none⟩) HC.out
  rw [c2] at e2
  have e3 := A4.out.below.cell (p := ⟨C, 3, none⟩) HC.out
  rw [c3] at e3
  have e4 := A4.out.below.cell (p := ⟨C, 4, none⟩) HC.out
  rw [c4] at e4
  go_wp2_with fail
  refine A4.out.bytes.mono ?_
  rintro e w5 ⟨v5, rfl, o5, a5, b5⟩
  have O5 := hid (O4.out.below b5)
  have B5 := hid (A4.out.below.trans (b5.mono A4.out.below.size))
  obtain ⟨x5, c5, rfl, p5, -, -, s5⟩ := o5.part
  have P5 := hid p5
  have S5 := hid s5
  clear o5 a5 b5 p5 s5 A4 O4 e0 e1 e2 e3 e4
  go_wp2_with (at_builtin; refine wpList_appendB rfl (.tmp 19) (.tmp 21) rfl w1.heap.size _ _ rfl O5.out x5 1 c5 [1] rfl rfl S5.out _ P5.out (by have := HK.out; rw [shortB_length]; omega) B5.out.size ?_; intro v6 w6 hv hg ho; have HB6 := hid (B5.out.trans (grown_belowB hg O5.out B5.out.size)); have HV6 := hid hv; obtain ⟨a6, n6, c6, rfl⟩ : ∃ a n c, v6 = .slice a n c := (by obtain ⟨a, c, e, _⟩ := hv.part; exact ⟨a, _, c, e⟩); clear hv hg ho; clear O5 B5 P5 S5; have e0 := HB6.out.cell (p := ⟨C, 0, none⟩) HC.out; rw [c0] at e0; have e1 := HB6.out.cell (p := ⟨C, 1, none⟩) HC.out; rw [c1] at e1; have e2 := HB6.out.cell (p := ⟨C, 2, none⟩) HC.out; rw [c2] at e2; have e3 := HB6.out.cell (p := ⟨C, 3, none⟩) HC.out; rw [c3] at e3; have e4 := HB6.out.cell (p := ⟨C, 4, none⟩) HC.out; rw [c4] at e4)
  go_wp2_with fail
  refine (wst_new w1.heap.size w1 w6 HB6.out.size HB6.out).mono ?_
  rintro e w7 ⟨P7, rfl, a7, b7, -⟩
  have A7 := hid a7
  have O7 := hid (HV6.out.below b7)
  have V7 := hid (show ∀ k, Value.ownBlock (.slice a6 n6 c6) = some k → k < w6.heap.size from fun k hk => (HV6.out.block hk).2)
  clear a7 b7 HB6 HV6 e0 e1 e2 e3 e4
  have e0 := A7.out.below.cell (p := ⟨C, 0, none⟩) HC.out
  rw [c0] at e0
  have e1 := A7.out.below.cell (p := ⟨C, 1, none⟩) HC.out
  rw [c1] at e1
  have e2 := A7.out.below.cell (p := ⟨C, 2, none⟩) HC.out
  rw [c2] at e2
  have e3 := A7.out.below.cell (p := ⟨C, 3, none⟩) HC.out
  rw [c3] at e3
  have e4 := A7.out.below.cell (p := ⟨C, 4, none⟩) HC.out
  rw [c4] at e4
  go_wp2_with fail
  refine (A7.out.number p 4 (by have := HP.out; omega)).mono ?_
  rw [HNP.out]
  rintro e w8 ⟨rfl, a8, k8⟩
  have A8 := hid a8
  have O8 := hid (O7.out.kept k8 V7.out)
  clear a8 k8 A7 O7 e0 e1 e2 e3 e4
  have e0 := A8.out.below.cell (p := ⟨C, 0, none⟩) HC.out
  rw [c0] at e0
  have e1 := A8.out.below.cell (p := ⟨C, 1, none⟩) HC.out
  rw [c1] at e1
  have e2 := A8.out.below.cell (p := ⟨C, 2, none⟩) HC.out
  rw [c2] at e2
  have e3 := A8.out.below.cell (p := ⟨C, 3, none⟩) HC.out
  rw [c3] at e3
  have e4 := A8.out.below.cell (p := ⟨C, 4, none⟩) HC.out
  rw [c4] at e4
  go_wp2_with fail
  refine (A8.out.number q 4 (by have := HQ.out; omega)).mono ?_
  rw [HNQ.out]
  rintro e w9 ⟨rfl, a9, k9⟩
  have A9 := hid a9
  have O9 := hid (O8.out.kept k9 V7.out)
  clear a9 k9 A8 O8
  have HLN := hid (show (be p 4 ++ be q 4).length = 8 from by simp [be_length])
  go_wp2_with fail
  refine A9.out.bytes.mono ?_
  rintro e w10 ⟨v10, rfl, o10, a10, b10⟩
  have O10 := hid (O9.out.below b10)
  have B10 := hid (A9.out.below.trans (b10.mono A9.out.below.size))
  generalize hl10 : (be p 4 ++ be q 4) = l10 at *
  obtain ⟨x10, c10, rfl, p10, -, -, s10⟩ := o10.part
  have hn10 : l10.length = 8 := HLN.out
  rw [hn10]
  have P10 := hid p10
  have S10 := hid s10
  have HL10 := hid hl10
  clear o10 a10 b10 p10 s10 hn10 hl10 A9 O9
  go_wp2_with (at_builtin; refine wpList_appendB rfl (.tmp 49) (.tmp 51) rfl w1.heap.size _ _ rfl O10.out x10 8 c10 l10 HLN.out rfl S10.out _ P10.out (by have := HK.out; rw [List.length_append, shortB_length]; simp; omega) B10.out.size ?_; intro v12 w12 hv hg ho; have HB12 := hid (B10.out.trans (grown_belowB hg O10.out B10.out.size)); have HV12 := hid hv; obtain ⟨a12, n12, c12, rfl⟩ : ∃ a n c, v12 = .slice a n c := (by obtain ⟨a, c, e, _⟩ := hv.part; exact ⟨a, _, c, e⟩); clear hv hg ho)
  go_ret
  have hcc := HCE.out
  subst hcc
  refine ⟨_, rfl, ?_, HW.out.trans (HB12.out.mono HCS.out)⟩
  rw [HR.out]
  exact HV12.out.mono fun k hk => Nat.le_trans HCS.out (HV12.out.block hk).1
set_option maxRecDepth 100000 in
set_option maxHeartbeats 4000000 in
theorem raw_branch (key text : ByteArray) (lg : Bool) (p : Nat) (size : Int) (w : World) (hk : key.size ≤ 255) (hp : p < 4294967296) : Calls Try.prog 71 #[.int .i64 3, aggC ⟨key, text, lg, (p : Int), size⟩] w (RawEnd false ⟨key, text, lg, (p : Int), size⟩ w) := by
  have hr : rawC false ⟨key, text, lg, (p : Int), size⟩ = shortB key ++ [] ++ be p 4 := by unfold rawC; simp
  have HR := hid hr
  have HK := hid hk
  have hw1 : IntKind.u64.wrap (p : Int) = (p : Int) := IntWalk.u64_in _ (by omega)
  have hnp : written [] (numB p 4) 2 = (be p 4, 0) := by
    unfold numB written
    rw [if_pos ⟨by decide, by show p < 256 ^ 4; omega⟩]
    simp [be_length]
  have HP := hid hp
  have HNP := hid hnp
  clear hr hk hp hnp
  have HW := hid ((Below.refl w.heap.size w).alloc (Nat.le_refl _) (.cells (rowC ⟨key, text, lg, (p : Int), size⟩).toArray 81))
  have hblk := Blk.new w (rowC ⟨key, text, lg, (p : Int), size⟩) 81
  simp only [rowC] at HW hblk
  unfold aggC
  go_enter Try.func71, Try.ntmps71
  go_wp2_with fail
  generalize hW1 : w.alloc (.cells [.string key, .string text, .bool lg, .int .i64 (p : Int), .int .i64 size].toArray 81) = w1 at *
  have c0 := hblk.cell 0
  have c1 := hblk.cell 1
  have c2 := hblk.cell 2
  have c3 := hblk.cell 3
  have c4 := hblk.cell 4
  simp only [List.getElem?_cons_zero, List.getElem?_cons_succ] at c0 c1 c2 c3 c4
  have HC := hid hblk.lt
  have HCS := hid (show w.heap.size ≤ w1.heap.size from HW.out.size)
  generalize hCC : w.heap.size = C at *
  have HCE := hid hCC
  clear hblk hW1 hCC
  refine (wst_new w1.heap.size w1 w1 (Nat.le_refl _) (Below.refl _ _)).mono ?_
  rintro e w2 ⟨P, rfl, a2, -, -⟩
  have A2 := hid a2
  clear a2
  have e0 := A2.out.below.cell (p := ⟨C, 0, none⟩) HC.out
  rw [c0] at e0
  have e1 := A2.out.below.cell (p := ⟨C, 1, none⟩) HC.out
  rw [c1] at e1
  have e2 := A2.out.below.cell (p := ⟨C, 2, none⟩) HC.out
  rw [c2] at e2
  have e3 := A2.out.below.cell (p := ⟨C, 3, none⟩) HC.out
  rw [c3] at e3
  have e4 := A2.out.below.cell (p := ⟨C, 4, none⟩) HC.out
  rw [c4] at e4
  obtain ⟨w3, h3⟩ : ∃ z, z = w2 := ⟨_, rfl⟩
  rw [← h3] at A2 e0 e1 e2 e3 e4 ⊢
  have A3 := A2
  clear A2 h3
  go_wp2_with fail
  refine (short_calls key w3 HK.out).mono ?_
  rintro e w4 ⟨v4, rfl, o4, b4⟩
  have A4 := hid (A3.out.grows b4)
  have O4 := hid (o4.mono (base' := w1.heap.size) fun k hk => Nat.le_trans A3.out.below.size (o4.block hk).1)
  obtain ⟨a4, n4, c4', rfl⟩ : ∃ a n c, v4 = .slice a n c := by obtain ⟨a, c, e, _⟩ := o4.part; exact ⟨a, _, c, e⟩
  clear o4 b4 A3 e0 e1 e2 e3 e4
  have e0 := A4.out.below.cell (p := ⟨C, 0, none⟩) HC.out
  rw [c0] at e0
  have e1 := A4.out.below.cell (p := ⟨C, 1, none⟩) HC.out
  rw [c1] at e1
  have e2 := A4.out.below.cell (p := ⟨C, 2, none⟩) HC.out
  rw [c2] at e2
  have e3 := A4.out.below.cell (p := ⟨C, 3, none⟩) HC.out
  rw [c3] at e3
  have e4 := A4.out.below.cell (p := ⟨C, 4, none⟩) HC.out
  rw [c4] at e4
  go_wp2_with fail
  refine A4.out.bytes.mono ?_
  rintro e w5 ⟨v5, rfl, o5, a5, b5⟩
  have O5 := hid (O4.out.below b5)
  have B5 := hid (A4.out.below.trans (b5.mono A4.out.below.size))
  obtain ⟨x5, c5, rfl, p5, -, -, s5⟩ := o5.part
  have P5 := hid p5
  have S5 := hid s5
  clear o5 a5 b5 p5 s5 A4 O4 e0 e1 e2 e3 e4
  go_wp2_with (at_builtin; refine wpList_appendB rfl (.tmp 19) (.tmp 21) rfl w1.heap.size _ _ rfl O5.out x5 0 c5 [] rfl rfl S5.out _ P5.out (by have := HK.out; rw [shortB_length]; omega) B5.out.size ?_; intro v6 w6 hv hg ho; have HB6 := hid (B5.out.trans (grown_belowB hg O5.out B5.out.size)); have HV6 := hid hv; obtain ⟨a6, n6, c6, rfl⟩ : ∃ a n c, v6 = .slice a n c := (by obtain ⟨a, c, e, _⟩ := hv.part; exact ⟨a, _, c, e⟩); clear hv hg ho; clear O5 B5 P5 S5; have e0 := HB6.out.cell (p := ⟨C, 0, none⟩) HC.out; rw [c0] at e0; have e1 := HB6.out.cell (p := ⟨C, 1, none⟩) HC.out; rw [c1] at e1; have e2 := HB6.out.cell (p := ⟨C, 2, none⟩) HC.out; rw [c2] at e2; have e3 := HB6.out.cell (p := ⟨C, 3, none⟩) HC.out; rw [c3] at e3; have e4 := HB6.out.cell (p := ⟨C, 4, none⟩) HC.out; rw [c4] at e4)
  go_wp2_with fail
  refine (wst_new w1.heap.size w1 w6 HB6.out.size HB6.out).mono ?_
  rintro e w7 ⟨P7, rfl, a7, b7, -⟩
  have A7 := hid a7
  have O7 := hid (HV6.out.below b7)
  have V7 := hid (show ∀ k, Value.ownBlock (.slice a6 n6 c6) = some k → k < w6.heap.size from fun k hk => (HV6.out.block hk).2)
  clear a7 b7 HB6 HV6 e0 e1 e2 e3 e4
  have e0 := A7.out.below.cell (p := ⟨C, 0, none⟩) HC.out
  rw [c0] at e0
  have e1 := A7.out.below.cell (p := ⟨C, 1, none⟩) HC.out
  rw [c1] at e1
  have e2 := A7.out.below.cell (p := ⟨C, 2, none⟩) HC.out
  rw [c2] at e2
  have e3 := A7.out.below.cell (p := ⟨C, 3, none⟩) HC.out
  rw [c3] at e3
  have e4 := A7.out.below.cell (p := ⟨C, 4, none⟩) HC.out
  rw [c4] at e4
  go_wp2_with fail
  refine (A7.out.number p 4 (by have := HP.out; omega)).mono ?_
  rw [HNP.out]
  rintro e w8 ⟨rfl, a8, k8⟩
  have A8 := hid a8
  have O8 := hid (O7.out.kept k8 V7.out)
  clear a8 k8 A7 O7 e0 e1 e2 e3 e4
  have e0 := A8.out.below.cell (p := ⟨C, 0, none⟩) HC.out
  rw [c0] at e0
  have e1 := A8.out.below.cell (p := ⟨C, 1, none⟩) HC.out
  rw [c1] at e1
  have e2 := A8.out.below.cell (p := ⟨C, 2, none⟩) HC.out
  rw [c2] at e2
  have e3 := A8.out.below.cell (p := ⟨C, 3, none⟩) HC.out
  rw [c3] at e3
  have e4 := A8.out.below.cell (p := ⟨C, 4, none⟩) HC.out
  rw [c4] at e4
  have A9 := A8
  have O9 := O8
  clear A8 O8
  have HLN := hid (show (be p 4).length = 4 from be_length p 4)
  go_wp2_with fail
  refine A9.out.bytes.mono ?_
  rintro e w10 ⟨v10, rfl, o10, a10, b10⟩
  have O10 := hid (O9.out.below b10)
  have B10 := hid (A9.out.below.trans (b10.mono A9.out.below.size))
  generalize hl10 : (be p 4) = l10 at *
  obtain ⟨x10, c10, rfl, p10, -, -, s10⟩ := o10.part
  have hn10 : l10.length = 4 := HLN.out
  rw [hn10]
  have P10 := hid p10
  have S10 := hid s10
  have HL10 := hid hl10
  clear o10 a10 b10 p10 s10 hn10 hl10 A9 O9
  go_wp2_with (at_builtin; refine wpList_appendB rfl (.tmp 49) (.tmp 51) rfl w1.heap.size _ _ rfl O10.out x10 4 c10 l10 HLN.out rfl S10.out _ P10.out (by have := HK.out; rw [List.length_append, shortB_length]; simp; omega) B10.out.size ?_; intro v12 w12 hv hg ho; have HB12 := hid (B10.out.trans (grown_belowB hg O10.out B10.out.size)); have HV12 := hid hv; obtain ⟨a12, n12, c12, rfl⟩ : ∃ a n c, v12 = .slice a n c := (by obtain ⟨a, c, e, _⟩ := hv.part; exact ⟨a, _, c, e⟩); clear hv hg ho)
  go_ret
  have hcc := HCE.out
  subst hcc
  refine ⟨_, rfl, ?_, HW.out.trans (HB12.out.mono HCS.out)⟩
  rw [HR.out]
  exact HV12.out.mono fun k hk => Nat.le_trans HCS.out (HV12.out.block hk).1
theorem raw_calls (leaf : Bool) (x : Cl) (w : World) (hm : mayC leaf x = true) : Calls Try.prog 71 #[.int .i64 (if leaf then 2 else 3), aggC x] w (RawEnd leaf x w) := by
  obtain ⟨key, text, long, page, size⟩ := x
  unfold mayC at hm
  cases leaf
  · simp [mayBranch, between] at hm
    obtain ⟨⟨⟨⟨h1, h2⟩, h3⟩, h4⟩, h5, h6⟩ := hm
    obtain ⟨p, rfl⟩ : ∃ p : Nat, page = p := ⟨page.toNat, by omega⟩
    exact raw_branch key text long p size w (by omega) (by omega)
  · simp [mayLeaf, between] at hm
    obtain ⟨⟨h1, h1'⟩, hm⟩ := hm
    cases long
    · simp at hm
      exact raw_inline key text page size w (by omega) (by omega)
    · simp at hm
      obtain ⟨p, rfl⟩ : ∃ p : Nat, page = p := ⟨page.toNat, by omega⟩
      obtain ⟨q, rfl⟩ : ∃ q : Nat, size = q := ⟨size.toNat, by omega⟩
      exact raw_long key text p q w (by omega) (by omega) (by omega)
end Go.Proofs.Ytkpadhjlopcejaa
