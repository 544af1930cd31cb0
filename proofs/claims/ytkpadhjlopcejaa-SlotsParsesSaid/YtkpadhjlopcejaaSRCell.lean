/-
  The document's bytes of a cell: the walks of number and cell (printed by mkrcell.py).
-/
import Derived.Test.YtkpadhjlopcejaaSAll
import Derived.Test.YtkpadhjlopcejaaWritesPlain
import Derived.Deep.CutRange
import Derived.Deep.CutBlock
namespace Go.Proofs.Ytkpadhjlopcejaa
open Go.RowKit
theorem refnumber_calls (n : Nat) (b : Nat) (w : World) (hn : n < 9223372036854775807) (hb : 1 ≤ b ∧ b ≤ 8) : Calls Try.prog 59 #[.int .i64 (n : Int), .int .i64 (b : Int)] w (BytesEnd (be n b) w) := by
  have hr := refnum_both n b w (by omega)
  have e : (numA n b).2 = be n b := by unfold numA; rw [if_pos (by omega), Int.toNat_natCast]
  rw [e] at hr
  have HR := hid hr
  have hw : IntKind.u64.wrap (n : Int) = (n : Int) := IntWalk.u64_in _ (by omega)
  generalize (numA n b).1 = q at *
  clear hr e
  go_enter Try.func59, Try.ntmps59
  go_wp2_with fail
  refine HR.out.mono ?_
  rintro e w1 ⟨v, rfl, o, bb⟩
  have HO := hid o
  have HB := hid bb
  obtain ⟨a, n1, c, rfl⟩ : ∃ a n c, v = .slice a n c := by obtain ⟨a, c, e, _⟩ := o.part; exact ⟨a, _, c, e⟩
  clear o bb
  go_wp2_with fail
  go_ret
  exact ⟨_, rfl, HO.out, HB.out⟩
theorem lit1 (w : World) (x : UInt8) (z : Int) (hz : z = (x.toNat : Int)) : OwnB (w.alloc (.cells #[.int .u8 z] 5)) w.heap.size (.slice (some ⟨w.heap.size, 0, none⟩) 1 1) [x] := one_litB w x z hz
theorem lit2 (w : World) (x : UInt8) (z : Int) (hz : z = (x.toNat : Int)) : OwnB (w.alloc (.cells #[.int .u8 0, .int .u8 z] 5)) w.heap.size (.slice (some ⟨w.heap.size, 0, none⟩) 2 2) [0, x] := by
  subst hz
  exact ⟨rfl, .inr ⟨w.heap.size, 2, _, rfl, Nat.le_refl _, heap_alloc_new w _, Nat.le_refl _, by decide, rfl, rfl⟩⟩
set_option maxRecDepth 100000 in
set_option maxHeartbeats 4000000 in
theorem rcell_inline (key text : ByteArray) (page size : Int) (w : World) (hk : key.size ≤ 255) (ht : text.size ≤ 255) : Calls Try.prog 60 #[.bool true, aggC ⟨key, text, false, page, size⟩] w (RawEnd true ⟨key, text, false, page, size⟩ w) := by
  have hr : rawC true ⟨key, text, false, page, size⟩ = ([UInt8.ofNat key.size] ++ key.data.toList) ++ [0, UInt8.ofNat text.size] ++ text.data.toList := by unfold rawC shortB; simp
  have HR := hid hr
  have HK := hid hk
  obtain ⟨z, hz⟩ : ∃ z, IntKind.u8.wrap (key.size : Int) = z := ⟨_, rfl⟩
  have HZ := hid (show z = ((UInt8.ofNat key.size).toNat : Int) by rw [← hz]; exact u8_size _ hk)
  obtain ⟨y, hy⟩ : ∃ z, IntKind.u8.wrap (text.size : Int) = z := ⟨_, rfl⟩
  have HY := hid (show y = ((UInt8.ofNat text.size).toNat : Int) by rw [← hy]; exact u8_size _ ht)
  have HT := hid ht
  clear ht
  have HW := hid ((Below.refl w.heap.size w).alloc (Nat.le_refl _) (.cells (rowC ⟨key, text, false, page, size⟩).toArray 81))
  have hblk := Blk.new w (rowC ⟨key, text, false, page, size⟩) 81
  simp only [rowC] at HW hblk
  unfold aggC
  clear hr hk
  go_enter Try.func60, Try.ntmps60
  go_upto_region 1 with fail
  generalize hW1 : w.alloc (.cells [.string key, .string text, .bool false, .int .i64 page, .int .i64 size].toArray 81) = w1 at *
  have c0 := hblk.cell 0
  have c1 := hblk.cell 1
  have c2 := hblk.cell 2
  have c3 := hblk.cell 3
  have c4 := hblk.cell 4
  simp only [List.getElem?_cons_zero, List.getElem?_cons_succ] at c0 c1 c2 c3 c4
  have HC := hid hblk.lt
  have HCS := hid (show w.heap.size ≤ w1.heap.size from HW.out.size)
  generalize hCC : w.heap.size = C at *
  have HCE := hid hCC
  clear hblk hW1 hCC
  have HL1 := hid (lit1 w1 (UInt8.ofNat key.size) z HZ.out)
  have HB1 := hid ((Below.refl w1.heap.size w1).alloc (Nat.le_refl _) (.cells #[.int .u8 z] 5))
  have a0 := HB1.out.cell (p := ⟨C, 0, none⟩) HC.out
  rw [c0] at a0
  have a1 := HB1.out.cell (p := ⟨C, 1, none⟩) HC.out
  rw [c1] at a1
  have a2 := HB1.out.cell (p := ⟨C, 2, none⟩) HC.out
  rw [c2] at a2
  have a3 := HB1.out.cell (p := ⟨C, 3, none⟩) HC.out
  rw [c3] at a3
  have a4 := HB1.out.cell (p := ⟨C, 4, none⟩) HC.out
  rw [c4] at a4
  go_wp2_with (at_builtin; first | (refine wpList_appendS rfl (.tmp 10) (.tmp 12) rfl w1.heap.size _ _ rfl HL1.out key rfl (by have := HK.out; simp only [List.length_cons, List.length_nil]; omega) HB1.out.size ?_; intro v2 w2 hv hg; have HB2 := hid (HB1.out.trans (grown_belowB hg HL1.out HB1.out.size)); have HV2 := hid hv; obtain ⟨ad2, nn2, cc2, rfl⟩ : ∃ a n c, v2 = .slice a n c := (by obtain ⟨a, c, e, _⟩ := hv.part; exact ⟨a, _, c, e⟩); clear hv hg; have e0 := HB2.out.cell (p := ⟨C, 0, none⟩) HC.out; rw [c0] at e0; have e1 := HB2.out.cell (p := ⟨C, 1, none⟩) HC.out; rw [c1] at e1; have e2 := HB2.out.cell (p := ⟨C, 2, none⟩) HC.out; rw [c2] at e2; have e3 := HB2.out.cell (p := ⟨C, 3, none⟩) HC.out; rw [c3] at e3; have e4 := HB2.out.cell (p := ⟨C, 4, none⟩) HC.out; rw [c4] at e4; have HL3 := hid (lit2 w2 (UInt8.ofNat text.size) y HY.out); have hbl := (Below.refl w2.heap.size w2).alloc (o := .cells #[.int .u8 0, .int .u8 y] 5) (Nat.le_refl _); have HO3 := hid (HV2.out.below hbl); have HB3 := hid (HB2.out.trans (hbl.mono HB2.out.size)); clear hbl) | (refine wpList_appendB rfl (.tmp 20) (.tmp 25) rfl w1.heap.size _ _ rfl HO3.out (some ⟨w2.heap.size, 0, none⟩) 2 2 _ rfl rfl (fun e => by cases e) _ HL3.out.part.at.1 (by have := HK.out; have hd : key.data.toList.length = key.size := (by simp); simp only [List.length_append, List.length_cons, List.length_nil]; omega) HB3.out.size ?_; intro v4 w4 hv hg ho; have HB4 := hid (HB3.out.trans (grown_belowB hg HO3.out HB3.out.size)); have HV4 := hid hv; obtain ⟨ad4, nn4, cc4, rfl⟩ : ∃ a n c, v4 = .slice a n c := (by obtain ⟨a, c, e, _⟩ := hv.part; exact ⟨a, _, c, e⟩); clear hv hg ho; clear e0 e1 e2 e3 e4; have e0 := HB4.out.cell (p := ⟨C, 0, none⟩) HC.out; rw [c0] at e0; have e1 := HB4.out.cell (p := ⟨C, 1, none⟩) HC.out; rw [c1] at e1; have e2 := HB4.out.cell (p := ⟨C, 2, none⟩) HC.out; rw [c2] at e2; have e3 := HB4.out.cell (p := ⟨C, 3, none⟩) HC.out; rw [c3] at e3; have e4 := HB4.out.cell (p := ⟨C, 4, none⟩) HC.out; rw [c4] at e4) | (refine wpList_appendS rfl (.tmp 27) (.tmp 29) rfl w1.heap.size _ _ rfl HV4.out text rfl (by have := HK.out; have := HT.out; have hd : key.data.toList.length = key.size := (by simp); simp only [List.length_append, List.length_cons, List.length_nil]; omega) HB4.out.size ?_; intro v5 w5 hv hg; have HB5 := hid (HB4.out.trans (grown_belowB hg HV4.out HB4.out.size)); have HV5 := hid hv; obtain ⟨ad5, nn5, cc5, rfl⟩ : ∃ a n c, v5 = .slice a n c := (by obtain ⟨a, c, e, _⟩ := hv.part; exact ⟨a, _, c, e⟩); clear hv hg))
  go_ret
  have hcc := HCE.out
  subst hcc
  refine ⟨_, rfl, ?_, HW.out.trans (HB5.out.mono HCS.out)⟩
  rw [HR.out]
  exact HV5.out.mono fun k hk => Nat.le_trans HCS.out (HV5.out.block hk).1
set_option maxRecDepth 100000 in
set_option maxHeartbeats 4000000 in
theorem rcell_long (key text : ByteArray) (p q : Nat) (w : World) (hk : key.size ≤ 255) (hp : p < 4294967296) (hq : q < 4294967296) : Calls Try.prog 60 #[.bool true, aggC ⟨key, text, true, (p : Int), (q : Int)⟩] w (RawEnd true ⟨key, text, true, (p : Int), (q : Int)⟩ w) := by
  have hr : rawC true ⟨key, text, true, (p : Int), (q : Int)⟩ = ([UInt8.ofNat key.size] ++ key.data.toList) ++ [1] ++ be p 4 ++ be q 4 := by unfold rawC shortB; simp
  have HR := hid hr
  have HK := hid hk
  obtain ⟨z, hz⟩ : ∃ z, IntKind.u8.wrap (key.size : Int) = z := ⟨_, rfl⟩
  have HZ := hid (show z = ((UInt8.ofNat key.size).toNat : Int) by rw [← hz]; exact u8_size _ hk)
  have HP := hid hp
  have HQ := hid hq
  clear hp hq
  have HW := hid ((Below.refl w.heap.size w).alloc (Nat.le_refl _) (.cells (rowC ⟨key, text, true, (p : Int), (q : Int)⟩).toArray 81))
  have hblk := Blk.new w (rowC ⟨key, text, true, (p : Int), (q : Int)⟩) 81
  simp only [rowC] at HW hblk
  unfold aggC
  clear hr hk
  go_enter Try.func60, Try.ntmps60
  go_upto_region 1 with fail
  generalize hW1 : w.alloc (.cells [.string key, .string text, .bool true, .int .i64 (p : Int), .int .i64 (q : Int)].toArray 81) = w1 at *
  have c0 := hblk.cell 0
  have c1 := hblk.cell 1
  have c2 := hblk.cell 2
  have c3 := hblk.cell 3
  have c4 := hblk.cell 4
  simp only [List.getElem?_cons_zero, List.getElem?_cons_succ] at c0 c1 c2 c3 c4
  have HC := hid hblk.lt
  have HCS := hid (show w.heap.size ≤ w1.heap.size from HW.out.size)
  generalize hCC : w.heap.size = C at *
  have HCE := hid hCC
  clear hblk hW1 hCC
  have HL1 := hid (lit1 w1 (UInt8.ofNat key.size) z HZ.out)
  have HB1 := hid ((Below.refl w1.heap.size w1).alloc (Nat.le_refl _) (.cells #[.int .u8 z] 5))
  have a0 := HB1.out.cell (p := ⟨C, 0, none⟩) HC.out
  rw [c0] at a0
  have a1 := HB1.out.cell (p := ⟨C, 1, none⟩) HC.out
  rw [c1] at a1
  have a2 := HB1.out.cell (p := ⟨C, 2, none⟩) HC.out
  rw [c2] at a2
  have a3 := HB1.out.cell (p := ⟨C, 3, none⟩) HC.out
  rw [c3] at a3
  have a4 := HB1.out.cell (p := ⟨C, 4, none⟩) HC.out
  rw [c4] at a4
  go_wp2_with (at_builtin; first | (refine wpList_appendS rfl (.tmp 10) (.tmp 12) rfl w1.heap.size _ _ rfl HL1.out key rfl (by have := HK.out; simp only [List.length_cons, List.length_nil]; omega) HB1.out.size ?_; intro v2 w2 hv hg; have HB2 := hid (HB1.out.trans (grown_belowB hg HL1.out HB1.out.size)); have HV2 := hid hv; obtain ⟨ad2, nn2, cc2, rfl⟩ : ∃ a n c, v2 = .slice a n c := (by obtain ⟨a, c, e, _⟩ := hv.part; exact ⟨a, _, c, e⟩); clear hv hg; have e0 := HB2.out.cell (p := ⟨C, 0, none⟩) HC.out; rw [c0] at e0; have e1 := HB2.out.cell (p := ⟨C, 1, none⟩) HC.out; rw [c1] at e1; have e2 := HB2.out.cell (p := ⟨C, 2, none⟩) HC.out; rw [c2] at e2; have e3 := HB2.out.cell (p := ⟨C, 3, none⟩) HC.out; rw [c3] at e3; have e4 := HB2.out.cell (p := ⟨C, 4, none⟩) HC.out; rw [c4] at e4; have HL3 := hid (lit1 w2 1 1 rfl); have hbl := (Below.refl w2.heap.size w2).alloc (o := .cells #[.int .u8 1] 5) (Nat.le_refl _); have HO3 := hid (HV2.out.below hbl); have HB3 := hid (HB2.out.trans (hbl.mono HB2.out.size)); clear hbl) | (refine wpList_appendB rfl (.tmp 32) (.tmp 33) rfl w1.heap.size _ _ rfl HO3.out (some ⟨w2.heap.size, 0, none⟩) 1 1 _ rfl rfl (fun e => by cases e) _ HL3.out.part.at.1 (by have := HK.out; have hd : key.data.toList.length = key.size := (by simp); simp only [List.length_append, List.length_cons, List.length_nil]; omega) HB3.out.size ?_; intro v4 w4 hv hg ho; have HB4 := hid (HB3.out.trans (grown_belowB hg HO3.out HB3.out.size)); have HV4 := hid hv; obtain ⟨ad4, nn4, cc4, rfl⟩ : ∃ a n c, v4 = .slice a n c := (by obtain ⟨a, c, e, _⟩ := hv.part; exact ⟨a, _, c, e⟩); clear hv hg ho; clear e0 e1 e2 e3 e4; have e0 := HB4.out.cell (p := ⟨C, 0, none⟩) HC.out; rw [c0] at e0; have e1 := HB4.out.cell (p := ⟨C, 1, none⟩) HC.out; rw [c1] at e1; have e2 := HB4.out.cell (p := ⟨C, 2, none⟩) HC.out; rw [c2] at e2; have e3 := HB4.out.cell (p := ⟨C, 3, none⟩) HC.out; rw [c3] at e3; have e4 := HB4.out.cell (p := ⟨C, 4, none⟩) HC.out; rw [c4] at e4))
  refine (refnumber_calls p 4 w4 (by have := HP.out; omega) (by omega)).mono ?_
  rintro e w6 ⟨v6, rfl, o6, b6⟩
  have HO6 := hid (HV4.out.below b6)
  have HB6 := hid (HB4.out.trans (b6.mono HB4.out.size))
  obtain ⟨x6, cp6, rfl, p6, -, -, s6⟩ := o6.part
  generalize hl6 : be p 4 = l6 at *
  have hn6 : l6.length = 4 := by rw [← hl6, be_length]
  rw [hn6]
  have P6 := hid p6
  have S6 := hid s6
  have HN6 := hid hn6
  have HL6 := hid hl6
  clear o6 b6 p6 s6 hn6 hl6 e0 e1 e2 e3 e4
  go_wp2_with (at_builtin; refine wpList_appendB rfl (.tmp 35) (.tmp 38) rfl w1.heap.size _ _ rfl HO6.out x6 4 cp6 l6 HN6.out rfl S6.out _ P6.out (by have := HK.out; have hd : key.data.toList.length = key.size := (by simp); simp only [List.length_append, List.length_cons, List.length_nil]; omega) HB6.out.size ?_; intro v7 w7 hv hg ho; have HB7 := hid (HB6.out.trans (grown_belowB hg HO6.out HB6.out.size)); have HV7 := hid hv; obtain ⟨ad7, nn7, cc7, rfl⟩ : ∃ a n c, v7 = .slice a n c := (by obtain ⟨a, c, e, _⟩ := hv.part; exact ⟨a, _, c, e⟩); clear hv hg ho; have e0 := HB7.out.cell (p := ⟨C, 0, none⟩) HC.out; rw [c0] at e0; have e1 := HB7.out.cell (p := ⟨C, 1, none⟩) HC.out; rw [c1] at e1; have e2 := HB7.out.cell (p := ⟨C, 2, none⟩) HC.out; rw [c2] at e2; have e3 := HB7.out.cell (p := ⟨C, 3, none⟩) HC.out; rw [c3] at e3; have e4 := HB7.out.cell (p := ⟨C, 4, none⟩) HC.out; rw [c4] at e4)
  refine (refnumber_calls q 4 w7 (by have := HQ.out; omega) (by omega)).mono ?_
  rintro e w8 ⟨v8, rfl, o8, b8⟩
  have HO8 := hid (HV7.out.below b8)
  have HB8 := hid (HB7.out.trans (b8.mono HB7.out.size))
  obtain ⟨x8, cp8, rfl, p8, -, -, s8⟩ := o8.part
  generalize hl8 : be q 4 = l8 at *
  have hn8 : l8.length = 4 := by rw [← hl8, be_length]
  rw [hn8]
  have P8 := hid p8
  have S8 := hid s8
  have HN8 := hid hn8
  have HL8 := hid hl8
  clear o8 b8 p8 s8 hn8 hl8 e0 e1 e2 e3 e4
  go_wp2_with (at_builtin; refine wpList_appendB rfl (.tmp 41) (.tmp 44) rfl w1.heap.size _ _ rfl HO8.out x8 4 cp8 l8 HN8.out rfl S8.out _ P8.out (by have := HK.out; have hd : key.data.toList.length = key.size := (by simp); have := HN6.out; simp only [List.length_append, List.length_cons, List.length_nil]; omega) HB8.out.size ?_; intro v9 w9 hv hg ho; have HB9 := hid (HB8.out.trans (grown_belowB hg HO8.out HB8.out.size)); have HV9 := hid hv; obtain ⟨ad9, nn9, cc9, rfl⟩ : ∃ a n c, v9 = .slice a n c := (by obtain ⟨a, c, e, _⟩ := hv.part; exact ⟨a, _, c, e⟩); clear hv hg ho)
  go_ret
  have hcc := HCE.out
  subst hcc
  refine ⟨_, rfl, ?_, HW.out.trans (HB9.out.mono HCS.out)⟩
  rw [HR.out]
  exact HV9.out.mono fun k hk => Nat.le_trans HCS.out (HV9.out.block hk).1
set_option maxRecDepth 100000 in
set_option maxHeartbeats 4000000 in
theorem rcell_branch (key text : ByteArray) (lg : Bool) (p : Nat) (size : Int) (w : World) (hk : key.size ≤ 255) (hp : p < 4294967296) : Calls Try.prog 60 #[.bool false, aggC ⟨key, text, lg, (p : Int), size⟩] w (RawEnd false ⟨key, text, lg, (p : Int), size⟩ w) := by
  have hr : rawC false ⟨key, text, lg, (p : Int), size⟩ = ([UInt8.ofNat key.size] ++ key.data.toList) ++ be p 4 := by unfold rawC shortB; simp
  have HR := hid hr
  have HK := hid hk
  obtain ⟨z, hz⟩ : ∃ z, IntKind.u8.wrap (key.size : Int) = z := ⟨_, rfl⟩
  have HZ := hid (show z = ((UInt8.ofNat key.size).toNat : Int) by rw [← hz]; exact u8_size _ hk)
  have HP := hid hp
  clear hp
  have HW := hid ((Below.refl w.heap.size w).alloc (Nat.le_refl _) (.cells (rowC ⟨key, text, lg, (p : Int), size⟩).toArray 81))
  have hblk := Blk.new w (rowC ⟨key, text, lg, (p : Int), size⟩) 81
  simp only [rowC] at HW hblk
  unfold aggC
  clear hr hk
  go_enter Try.func60, Try.ntmps60
  go_upto_region 1 with fail
  generalize hW1 : w.alloc (.cells [.string key, .string text, .bool lg, .int .i64 (p : Int), .int .i64 size].toArray 81) = w1 at *
  have c0 := hblk.cell 0
  have c1 := hblk.cell 1
  have c2 := hblk.cell 2
  have c3 := hblk.cell 3
  have c4 := hblk.cell 4
  simp only [List.getElem?_cons_zero, List.getElem?_cons_succ] at c0 c1 c2 c3 c4
  have HC := hid hblk.lt
  have HCS := hid (show w.heap.size ≤ w1.heap.size from HW.out.size)
  generalize hCC : w.heap.size = C at *
  have HCE := hid hCC
  clear hblk hW1 hCC
  have HL1 := hid (lit1 w1 (UInt8.ofNat key.size) z HZ.out)
  have HB1 := hid ((Below.refl w1.heap.size w1).alloc (Nat.le_refl _) (.cells #[.int .u8 z] 5))
  have a0 := HB1.out.cell (p := ⟨C, 0, none⟩) HC.out
  rw [c0] at a0
  have a1 := HB1.out.cell (p := ⟨C, 1, none⟩) HC.out
  rw [c1] at a1
  have a2 := HB1.out.cell (p := ⟨C, 2, none⟩) HC.out
  rw [c2] at a2
  have a3 := HB1.out.cell (p := ⟨C, 3, none⟩) HC.out
  rw [c3] at a3
  have a4 := HB1.out.cell (p := ⟨C, 4, none⟩) HC.out
  rw [c4] at a4
  go_wp2_with (at_builtin; first | (refine wpList_appendS rfl (.tmp 10) (.tmp 12) rfl w1.heap.size _ _ rfl HL1.out key rfl (by have := HK.out; simp only [List.length_cons, List.length_nil]; omega) HB1.out.size ?_; intro v2 w2 hv hg; have HB2 := hid (HB1.out.trans (grown_belowB hg HL1.out HB1.out.size)); have HV2 := hid hv; obtain ⟨ad2, nn2, cc2, rfl⟩ : ∃ a n c, v2 = .slice a n c := (by obtain ⟨a, c, e, _⟩ := hv.part; exact ⟨a, _, c, e⟩); clear hv hg; have e0 := HB2.out.cell (p := ⟨C, 0, none⟩) HC.out; rw [c0] at e0; have e1 := HB2.out.cell (p := ⟨C, 1, none⟩) HC.out; rw [c1] at e1; have e2 := HB2.out.cell (p := ⟨C, 2, none⟩) HC.out; rw [c2] at e2; have e3 := HB2.out.cell (p := ⟨C, 3, none⟩) HC.out; rw [c3] at e3; have e4 := HB2.out.cell (p := ⟨C, 4, none⟩) HC.out; rw [c4] at e4))
  refine (refnumber_calls p 4 w2 (by have := HP.out; omega) (by omega)).mono ?_
  rintro e w6 ⟨v6, rfl, o6, b6⟩
  have HO6 := hid (HV2.out.below b6)
  have HB6 := hid (HB2.out.trans (b6.mono HB2.out.size))
  obtain ⟨x6, cp6, rfl, p6, -, -, s6⟩ := o6.part
  generalize hl6 : be p 4 = l6 at *
  have hn6 : l6.length = 4 := by rw [← hl6, be_length]
  rw [hn6]
  have P6 := hid p6
  have S6 := hid s6
  have HN6 := hid hn6
  have HL6 := hid hl6
  clear o6 b6 p6 s6 hn6 hl6 e0 e1 e2 e3 e4
  go_wp2_with (at_builtin; refine wpList_appendB rfl (.tmp 35) (.tmp 38) rfl w1.heap.size _ _ rfl HO6.out x6 4 cp6 l6 HN6.out rfl S6.out _ P6.out (by have := HK.out; have hd : key.data.toList.length = key.size := (by simp); simp only [List.length_append, List.length_cons, List.length_nil]; omega) HB6.out.size ?_; intro v7 w7 hv hg ho; have HB7 := hid (HB6.out.trans (grown_belowB hg HO6.out HB6.out.size)); have HV7 := hid hv; obtain ⟨ad7, nn7, cc7, rfl⟩ : ∃ a n c, v7 = .slice a n c := (by obtain ⟨a, c, e, _⟩ := hv.part; exact ⟨a, _, c, e⟩); clear hv hg ho)
  go_ret
  have hcc := HCE.out
  subst hcc
  refine ⟨_, rfl, ?_, HW.out.trans (HB7.out.mono HCS.out)⟩
  rw [HR.out]
  exact HV7.out.mono fun k hk => Nat.le_trans HCS.out (HV7.out.block hk).1
theorem rcell_calls (leaf : Bool) (x : Cl) (w : World) (hm : mayC leaf x = true) : Calls Try.prog 60 #[.bool leaf, aggC x] w (RawEnd leaf x w) := by
  obtain ⟨key, text, long, page, size⟩ := x
  unfold mayC at hm
  cases leaf
  · simp [mayBranch, between] at hm
    obtain ⟨⟨⟨⟨h1, h2⟩, h3⟩, h4⟩, h5, h6⟩ := hm
    obtain ⟨p, rfl⟩ : ∃ p : Nat, page = p := ⟨page.toNat, by omega⟩
    exact rcell_branch key text long p size w (by omega) (by omega)
  · simp [mayLeaf, between] at hm
    obtain ⟨⟨h1, h1'⟩, hm⟩ := hm
    cases long
    · simp at hm
      exact rcell_inline key text page size w (by omega) (by omega)
    · simp at hm
      obtain ⟨p, rfl⟩ : ∃ p : Nat, page = p := ⟨page.toNat, by omega⟩
      obtain ⟨q, rfl⟩ : ∃ q : Nat, size = q := ⟨size.toNat, by omega⟩
      exact rcell_long key text p q w (by omega) (by omega) (by omega)
end Go.Proofs.Ytkpadhjlopcejaa
