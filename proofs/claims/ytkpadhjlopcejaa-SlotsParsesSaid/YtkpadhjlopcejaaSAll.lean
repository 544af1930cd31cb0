/-
  The bytes of cells: the walks of width, all, Size, Raw.
-/
import Derived.Test.YtkpadhjlopcejaaSRaw
namespace Go.Proofs.Ytkpadhjlopcejaa
open Go.RowKit
def kindK (leaf : Bool) : Int := if leaf then 2 else 3
theorem rawk_calls (leaf : Bool) (x : Cl) (w : World) (hm : mayC leaf x = true) : Calls Try.prog 71 #[.int .i64 (kindK leaf), aggC x] w (RawEnd leaf x w) := raw_calls leaf x w hm
/-- the cells' bytes at v, the numbers at P -/
structure AllAt (w0 : World) (P : Nat) (wr : World) (v : Value) (l r : List UInt8) : Prop where
  st : Wst w0.heap.size w0 (fun k => v.ownBlock = some k) wr P r
  own : OwnB wr w0.heap.size v l
theorem AllAt.grows {w0 : World} {P : Nat} {wr w' : World} {v : Value} {l r : List UInt8} (h : AllAt w0 P wr v l r) (hb : Below wr.heap.size wr w') : AllAt w0 P w' v l r :=
  ⟨(h.st.grows hb).less fun _ hk => .inl hk, h.own.below hb⟩
theorem AllAt.wrote {w0 : World} {P : Nat} {wr w' : World} {v : Value} {l r r' : List UInt8} (h : AllAt w0 P wr v l r) (h1 : Wst w0.heap.size w0 (fun k => v.ownBlock = some k) w' P r') (hk : Kept (fun k => v.ownBlock = some k) wr w') : AllAt w0 P w' v l r' :=
  ⟨h1, h.own.kept hk fun _ e => e⟩
theorem AllAt.laid {w0 : World} {P : Nat} {w1 w3 : World} {v v' : Value} {l b r : List UInt8} (h : AllAt w0 P w1 v l r)
    (h3 : OwnB w3 w0.heap.size v' (l ++ b)) (hg : w1.grownBy w3 v.ownBlock) (hv : v'.ownBlock = v.ownBlock ∨ v'.ownBlock = some w1.heap.size) : AllAt w0 P w3 v' (l ++ b) r := by
  have hk : Kept (fun k => k < w1.heap.size ∧ ¬ v.ownBlock = some k) w1 w3 := Kept.of_grown hg fun k hk => ⟨hk.1, fun e => hk.2 e.symm⟩
  refine ⟨(h.st.other (tch := fun k => v.ownBlock = some k) hk (fun k hk => hk) (fun k hk => (h.own.block hk).1)).less fun k hk => ?_, h3⟩
  rcases hv with hv | hv
  · exact .inl (hv ▸ hk)
  · have : k = w1.heap.size := by rw [hv] at hk; exact (Option.some.inj hk).symm
    exact .inr ⟨by omega, (h3.block hk).2⟩
def WidthEnd (n : Nat) (w : World) (e : Ending) (w' : World) : Prop := e = .returned (.int .i64 (n : Int)) ∧ Below w.heap.size w w'
set_option maxRecDepth 100000 in
set_option maxHeartbeats 4000000 in
theorem width_calls (leaf : Bool) (v : Value) (xs : List Cl) (w : World) (hp : PartC (fun q => q < w.heap.size) w v xs) (hm : ∀ x ∈ xs, mayC leaf x = true) (hn : xs.length ≤ 400) :
    Calls Try.prog 56 #[.int .i64 (kindK leaf), v] w (WidthEnd (widthC leaf xs) w) := by
  obtain ⟨a, cap, rfl, hx, -, -, -⟩ := hp
  generalize hL : xs.length = L at *
  have HL := hid hL
  have HM := hid hm
  have HN := hid hn
  have HRAW := hid (fun (x : Cl) (w : World) (h : mayC leaf x = true) => rawk_calls leaf x w h)
  generalize kindK leaf = K at *
  clear hL hm hn
  go_enter Try.func56, Try.ntmps56
  go_wp2_with fail
  go_loopw [5, 10] (fun n i wr => ∃ k m : Nat, k ≤ L ∧ i = .int .i64 (k : Int) ∧ n = .int .i64 (m : Int) ∧ Hid (m = 2 + 2 * k + (rawS leaf (xs.take k)).length ∧ m ≤ 50000) ∧ Below w.heap.size w wr) (fun _ i _ => L - (intOf i).toNat)
  case atStart => exact ⟨0, 2, Nat.zero_le _, rfl, rfl, ⟨by simp [rawS], by omega⟩, Below.refl _ _⟩
  case round =>
    obtain ⟨k, m, hk, rfl, rfl, HE, hbr⟩ := hrel
    have HBR := hid hbr
    clear hbr
    by_cases hlt : k < L
    · have hkl : k < xs.length := by rw [HL.out]; exact hlt
      obtain ⟨b0, off0, rfl, ho0, h0, h1, h2, h3, h4⟩ := hx.at hkl
      have d0 := HBR.out.cell (p := ⟨b0, off0 + k * 5, none⟩) ho0
      have d1 := HBR.out.cell (p := ⟨b0, off0 + k * 5 + 1, none⟩) ho0
      have d2 := HBR.out.cell (p := ⟨b0, off0 + k * 5 + 2, none⟩) ho0
      have d3 := HBR.out.cell (p := ⟨b0, off0 + k * 5 + 3, none⟩) ho0
      have d4 := HBR.out.cell (p := ⟨b0, off0 + k * 5 + 4, none⟩) ho0
      rw [h0] at d0
      rw [h1] at d1
      rw [h2] at d2
      rw [h3] at d3
      rw [h4] at d4
      have hup := rawS_up leaf xs k hkl
      have hmx := HM.out _ (List.getElem_mem hkl)
      obtain ⟨x, hxe⟩ : ∃ x, x = xs[k] := ⟨_, rfl⟩
      rw [← hxe] at d0 d1 d2 d3 d4 hup hmx
      have hle := (rawC_length hmx).1
      have hall := rawS_length (leaf := leaf) (l := xs.take k) fun y hy => HM.out y (List.mem_of_mem_take hy)
      obtain ⟨nr, hnr⟩ : ∃ n, n = (rawC leaf x).length := ⟨_, rfl⟩
      rw [← hnr] at hle
      have hE' : m + (2 + nr) = 2 + 2 * (k + 1) + (rawS leaf (xs.take (k + 1))).length ∧ m + (2 + nr) ≤ 50000 := by
        rw [hup, List.length_append, ← hnr]
        have := HE.out.1
        rw [List.length_take] at hall
        have := HN.out
        omega
      have HE' := hid hE'
      have HMX := hid hmx
      have HNR := hid hnr
      have HLE := hid hle
      have i0 : (k : Int) < (L : Int) := by omega
      have hw1 : IntKind.i64.wrap ((k : Int) + 1) = (k : Int) + 1 := IntWalk.i64_in _ (by have := HN.out; omega)
      have hw2 : IntKind.i64.wrap (2 + (nr : Int)) = ((2 + nr : Nat) : Int) := by rw [IntWalk.i64_in _ (by omega)]; omega
      have hw3 : IntKind.i64.wrap ((m : Int) + ((2 + nr : Nat) : Int)) = ((m + (2 + nr) : Nat) : Int) := by rw [IntWalk.i64_in _ (by have := HE.out.2; omega)]; omega
      have HW3 := hid hw3
      have HW2 := hid hw2
      clear hx h0 h1 h2 h3 h4 hxe hup hall hE' hnr hmx hle hw3 hw2
      go_wp2_with fail
      have hbs := HBR.out.alloc (o := .cells (rowC x).toArray 81) HBR.out.size
      simp only [rowC] at hbs
      generalize wr.alloc (.cells [.string x.key, .string x.text, .bool x.long, .int .i64 x.page, .int .i64 x.size].toArray 81) = ws at *
      refine (HRAW.out x _ HMX.out).mono ?_
      rintro e w2 ⟨v2, rfl, o2, b2⟩
      have HB2 := hid (hbs.trans (b2.mono hbs.size))
      obtain ⟨x2, c2, rfl, -⟩ := o2.part
      rw [← HNR.out]
      clear o2 b2 hbs d0 d1 d2 d3 d4
      have hw2 := HW2.out
      have hw3 := HW3.out
      generalize 2 + nr = nr2 at *
      go_wp2_with fail
      go_roundw
      case rel => exact ⟨k + 1, m + nr2, hlt, by go_num, by go_num, HE'.out, HB2.out⟩
      case measure => simp [intOf]; omega
    · obtain rfl : k = L := by omega
      have i0 : ¬ ((k : Int) < (k : Int)) := by omega
      have hE := HE.out.1
      rw [show xs.take k = xs from List.take_of_length_le (by rw [HL.out]; omega)] at hE
      have HE2 := hid hE
      clear hx hlt hk hE
      go_wp2_with fail
      go_ret
      refine ⟨?_, HBR.out⟩
      unfold widthC
      rw [HL.out, ← HE2.out]
      rfl
def BytesEnd (l : List UInt8) (w : World) (e : Ending) (w' : World) : Prop := ∃ v, e = .returned v ∧ OwnB w' w.heap.size v l ∧ Below w.heap.size w w'
theorem written_be (r : List UInt8) (n : Nat) (k : Nat) (hk : 1 ≤ k ∧ k ≤ 8) (hn : n < 256 ^ k) (hr : r.length ≤ 60000) : written r (numB n k) 2 = (r ++ be n k, 0) := by
  unfold numB written
  rw [if_pos ⟨by omega, by rw [Int.toNat_natCast]; exact hn⟩, Int.toNat_natCast]
  simp only
  rw [if_neg (by rw [be_length]; omega)]
theorem written_be2 (r : List UInt8) (n : Nat) (hn : n < 65536) (hr : r.length ≤ 60000) : written r (numB n 2) 2 = (r ++ be n 2, 0) := written_be r n 2 (by omega) hn hr
set_option maxRecDepth 100000 in
set_option maxHeartbeats 4000000 in
theorem all_calls (leaf : Bool) (v : Value) (xs : List Cl) (w : World) (hp : PartC (fun q => q < w.heap.size) w v xs) (hm : ∀ x ∈ xs, mayC leaf x = true) (hn : xs.length ≤ 400) :
    Calls Try.prog 55 #[.int .i64 (kindK leaf), v] w (BytesEnd (allC leaf xs) w) := by
  obtain ⟨a, cap, rfl, hx, -, -, -⟩ := hp
  generalize hL : xs.length = L at *
  have HL := hid hL
  have HM := hid hm
  have HN := hid hn
  have HRAW := hid (fun (x : Cl) (w : World) (h : mayC leaf x = true) => rawk_calls leaf x w h)
  generalize kindK leaf = K at *
  have hw0 : IntKind.u64.wrap (L : Int) = (L : Int) := IntWalk.u64_in _ (by omega)
  clear hL hm hn
  go_enter Try.func55, Try.ntmps55
  go_wp2_with fail
  refine (wst_new w.heap.size w w (Nat.le_refl _) (Below.refl _ _)).mono ?_
  rintro e w1 ⟨P, rfl, a1, -, -⟩
  have A1 := hid a1
  clear a1
  go_wp2_with fail
  refine (A1.out.number L 2 (by have := HN.out; omega)).mono ?_
  rw [written_be2 [] L (by have := HN.out; omega) (by simp), List.nil_append]
  rintro e w2 ⟨rfl, a2, -⟩
  have A2 := hid (show AllAt w P w2 (.slice none 0 0) [] (be L 2) from ⟨a2.less (fun k hk => by cases hk), OwnB.nil _ _⟩)
  clear a2 A1
  go_wp2_with fail
  go_loopw [6, 17] (fun v i wr => ∃ (k : Nat) (av : Option Addr) (nv cv : Nat), v = .slice av nv cv ∧ k ≤ L ∧ i = .int .i64 (k : Int) ∧ AllAt w P wr (.slice av nv cv) (rawS leaf (xs.take k)) (be L 2 ++ offTo leaf xs L k)) (fun _ i _ => L - (intOf i).toNat)
  case atStart => exact ⟨0, _, _, _, rfl, Nat.zero_le _, rfl, by simpa [rawS, offTo] using A2.out⟩
  case round =>
    obtain ⟨k, av, nv, cv, rfl, hk, rfl, hat⟩ := hrel
    have HAT := hid hat
    have hnv : (rawS leaf (xs.take k)).length = nv := hat.own.part.at.2.1
    have hall := rawS_length (leaf := leaf) (l := xs.take k) fun y hy => HM.out y (List.mem_of_mem_take hy)
    rw [List.length_take] at hall
    have hnv5 : nv ≤ 44400 := by have := HN.out; omega
    have HNV := hid hnv
    clear hat hnv hall A2
    by_cases hlt : k < L
    · have hkl : k < xs.length := by rw [HL.out]; exact hlt
      obtain ⟨b0, off0, rfl, ho0, h0, h1, h2, h3, h4⟩ := hx.at hkl
      have d0 := HAT.out.st.below.cell (p := ⟨b0, off0 + k * 5, none⟩) ho0
      have d1 := HAT.out.st.below.cell (p := ⟨b0, off0 + k * 5 + 1, none⟩) ho0
      have d2 := HAT.out.st.below.cell (p := ⟨b0, off0 + k * 5 + 2, none⟩) ho0
      have d3 := HAT.out.st.below.cell (p := ⟨b0, off0 + k * 5 + 3, none⟩) ho0
      have d4 := HAT.out.st.below.cell (p := ⟨b0, off0 + k * 5 + 4, none⟩) ho0
      rw [h0] at d0
      rw [h1] at d1
      rw [h2] at d2
      rw [h3] at d3
      rw [h4] at d4
      have hup := rawS_up leaf xs k hkl
      have hmx := HM.out _ (List.getElem_mem hkl)
      obtain ⟨x, hxe⟩ : ∃ x, x = xs[k] := ⟨_, rfl⟩
      rw [← hxe] at d0 d1 d2 d3 d4 hup hmx
      have hle := (rawC_length hmx).1
      obtain ⟨m, hm⟩ : ∃ m, m = 2 + 2 * L + nv := ⟨_, rfl⟩
      have hwr : written (be L 2 ++ offTo leaf xs L k) (numB m 2) 2 = (be L 2 ++ offTo leaf xs L (k + 1), 0) := by
        rw [written_be2 _ m (by have := HN.out; omega) (by rw [List.length_append, be_length, offTo_length]; have := HN.out; omega), offTo, HNV.out, hm, List.append_assoc]
      have HWR := hid hwr
      have HUP := hid hup
      have HMX := hid hmx
      have HLE := hid hle
      have HX := hid hx
      have HMM := hid (show m < 18446744073709551616 by have := HN.out; omega)
      have i0 : (k : Int) < (L : Int) := by omega
      have hw1 : IntKind.i64.wrap ((k : Int) + 1) = (k : Int) + 1 := IntWalk.i64_in _ (by have := HN.out; omega)
      have hw2 : IntKind.i64.wrap (2 * (L : Int)) = 2 * (L : Int) := IntWalk.i64_in _ (by have := HN.out; omega)
      have hw3 : IntKind.i64.wrap (2 + 2 * (L : Int)) = 2 + 2 * (L : Int) := IntWalk.i64_in _ (by have := HN.out; omega)
      have hw4 : IntKind.i64.wrap (2 + 2 * (L : Int) + (nv : Int)) = (m : Int) := by rw [IntWalk.i64_in _ (by have := HN.out; omega)]; omega
      have hw5 : IntKind.u64.wrap (m : Int) = (m : Int) := IntWalk.u64_in _ (by have := HN.out; omega)
      clear hx h0 h1 h2 h3 h4 hxe hup hmx hle hm hwr
      go_wp2_with fail
      have hbs := (Below.refl wr.heap.size wr).alloc (o := .cells (rowC x).toArray 81) (Nat.le_refl _)
      have hblk := Blk.new wr (rowC x) 81
      simp only [rowC] at hbs hblk
      generalize hC : wr.heap.size = C at *
      generalize wr.alloc (.cells [.string x.key, .string x.text, .bool x.long, .int .i64 x.page, .int .i64 x.size].toArray 81) = ws at *
      have HB1 := hid (HAT.out.st.grows (by rw [hC]; exact hbs))
      have HO1 := hid (HAT.out.own.below (by rw [hC]; exact hbs))
      have c0 := hblk.cell 0
      have c1 := hblk.cell 1
      have c2 := hblk.cell 2
      have c3 := hblk.cell 3
      have c4 := hblk.cell 4
      simp only [List.getElem?_cons_zero, List.getElem?_cons_succ] at c0 c1 c2 c3 c4
      have HCL := hid (show wr.heap.size ≤ C ∧ C < ws.heap.size from ⟨by omega, hblk.lt⟩)
      clear hbs hblk d0 d1 d2 d3 d4
      refine (HB1.out.number m 2 HMM.out).mono ?_
      rw [HWR.out]
      rintro e w3 ⟨rfl, a3, k3⟩
      have HB3 := hid (show AllAt w P w3 (.slice av nv cv) (rawS leaf (xs.take k)) (be L 2 ++ offTo leaf xs L (k + 1)) from ⟨a3.less fun q hq => .inl hq, HO1.out.kept k3 fun q hq => .inl hq⟩)
      have e0 := k3.cell (p := ⟨C, 0, none⟩) (.inr HCL.out)
      have e1 := k3.cell (p := ⟨C, 1, none⟩) (.inr HCL.out)
      have e2 := k3.cell (p := ⟨C, 2, none⟩) (.inr HCL.out)
      have e3 := k3.cell (p := ⟨C, 3, none⟩) (.inr HCL.out)
      have e4 := k3.cell (p := ⟨C, 4, none⟩) (.inr HCL.out)
      rw [c0] at e0
      rw [c1] at e1
      rw [c2] at e2
      rw [c3] at e3
      rw [c4] at e4
      clear a3 k3 c0 c1 c2 c3 c4 HB1 HO1 hC hw2 hw3 hw4 hw5
      go_wp2_with fail
      refine (HRAW.out x _ HMX.out).mono ?_
      rintro e w4 ⟨v4, rfl, o4, b4⟩
      have HB4 := hid (HB3.out.grows b4)
      obtain ⟨x4, c4, rfl, p4, -, -, s4⟩ := o4.part
      have P4 := hid p4
      have S4 := hid s4
      generalize hn4 : (rawC leaf x).length = n4 at *
      have HN4 := hid hn4
      clear o4 b4 p4 s4 hn4 e0 e1 e2 e3 e4
      have HL4 := hid (show (rawS leaf (xs.take k)).length + n4 ≤ 1099511627776 by have := HNV.out; have := HLE.out; omega)
      go_wp2_with (at_builtin; refine wpList_appendB rfl (.tmp 31) (.tmp 34) rfl w.heap.size _ _ rfl HB4.out.own x4 n4 c4 _ HN4.out rfl S4.out _ P4.out HL4.out HB4.out.st.below.size ?_; intro v5 w5 hv hg ho; have HB5 := hid (HB4.out.laid hv hg ho); obtain ⟨a5, n5, c5, rfl⟩ : ∃ a n c, v5 = .slice a n c := (by obtain ⟨a, c, e, _⟩ := hv.part; exact ⟨a, _, c, e⟩); clear hv hg ho)
      go_roundw
      case rel =>
        refine ⟨k + 1, _, _, _, rfl, hlt, by go_num, ?_⟩
        rw [HUP.out]
        exact HB5.out
      case measure => simp [intOf]; omega
    · obtain rfl : k = L := by omega
      have i0 : ¬ ((k : Int) < (k : Int)) := by omega
      have hE := HAT.out
      rw [show xs.take k = xs from List.take_of_length_le (by rw [HL.out]; omega)] at hE HNV
      have HE := hid hE
      have HN5 := hid hnv5
      clear hx hlt hk hE HAT
      go_wp2_with fail
      refine HE.out.st.bytes.mono ?_
      rintro e w3 ⟨v3, rfl, o3, a3, b3⟩
      have HB3 := hid (HE.out.grows b3)
      obtain ⟨x3, c3, rfl, -⟩ := o3.part
      have HO3 := hid (o3.mono (base' := w.heap.size) fun q e => by have := (o3.block e).1; have := HE.out.st.below.size; omega)
      have HLEN := hid (show (be k 2 ++ offTo leaf xs k k).length + nv ≤ 1099511627776 by have := HN.out; rw [List.length_append, be_length, offTo_length]; omega)
      clear o3 a3 b3
      generalize hn3 : (be k 2 ++ offTo leaf xs k k).length = n3 at HO3 ⊢
      clear hn3
      go_wp2_with (at_builtin; refine wpList_appendB rfl (.tmp 38) (.tmp 39) rfl w.heap.size _ _ rfl HO3.out av nv cv _ HNV.out rfl HB3.out.own.part.at.2.2.2.2 _ HB3.out.own.part.at.1 HLEN.out HB3.out.st.below.size ?_; intro v4 w4 hv hg ho; have HV4 := hid hv; have HB4 := hid (HB3.out.st.below.trans (grown_belowB hg HO3.out HB3.out.st.below.size)); obtain ⟨a4, n4, c4, rfl⟩ : ∃ a n c, v4 = .slice a n c := (by obtain ⟨a, c, e, _⟩ := hv.part; exact ⟨a, _, c, e⟩); clear hv hg ho)
      go_ret
      refine ⟨_, rfl, ?_, HB4.out⟩
      unfold allC
      rw [HL.out]
      exact HV4.out
theorem rightC_k {k : Int} {xs : List Cl} (h : rightC k xs = true) : k = kindK (decide (k = 2)) := by
  rcases rightC_kind h with rfl | rfl
  · rfl
  · rfl
def sizeC (k : Int) (xs : List Cl) : Int × Int := if rightC k xs = true then ((widthC (decide (k = 2)) xs : Nat), 0) else (0, 2)
set_option maxRecDepth 100000 in
theorem size_calls (k : Int) (v : Value) (xs : List Cl) (w : World) (hp : PartC (fun q => q < w.heap.size) w v xs) (hn : xs.length ≤ 400) : Calls Try.prog 36 #[.int .i64 k, v] w fun e w' => e = .returned (.tuple #[.int .i64 (sizeC k xs).1, .int .i64 (sizeC k xs).2]) ∧ Below w.heap.size w w' := by
  have HC := hid (check_calls k v xs w hp)
  have HN := hid hn
  unfold sizeC
  by_cases hr : rightC k xs = true
  · rw [if_pos hr] at HC ⊢
    have HR := hid hr
    have HW := hid (fun (w' : World) (h : PartC (fun q => q < w'.heap.size) w' v xs) => width_calls (decide (k = 2)) v xs w' h (rightC_may hr) hn)
    rw [← rightC_k hr] at HW
    have HP := hid hp
    obtain ⟨a, cap, rfl, -⟩ := hp
    clear hr hn
    generalize xs.length = n at *
    go_enter Try.func36, Try.ntmps36
    go_wp2_with fail
    refine HC.out.mono ?_
    rintro e w1 ⟨rfl, b1⟩
    have HB := hid b1
    clear b1
    go_wp2_with fail
    refine (HW.out w1 ((HP.out.below HB.out).mono fun q hq => Nat.lt_of_lt_of_le hq HB.out.size)).mono ?_
    rintro e w2 ⟨rfl, b2⟩
    have HB2 := hid (HB.out.trans (b2.mono HB.out.size))
    clear b2
    go_wp2_with fail
    go_ret2
    exact ⟨rfl, HB2.out⟩
  · rw [if_neg hr] at HC ⊢
    obtain ⟨a, cap, rfl, -⟩ := hp
    clear hr hn
    generalize xs.length = n at *
    go_enter Try.func36, Try.ntmps36
    go_wp2_with fail
    refine HC.out.mono ?_
    rintro e w1 ⟨rfl, b1⟩
    have HB := hid b1
    clear b1
    go_wp2_with fail
    go_ret2
    exact ⟨rfl, HB.out⟩
def rawErr (k : Int) (xs : List Cl) : Int := if rightC k xs = true then if 232 < widthC (decide (k = 2)) xs then 150 else 0 else 2
def rawOut (k : Int) (xs : List Cl) : List UInt8 := if rawErr k xs = 0 then allC (decide (k = 2)) xs else []
set_option maxRecDepth 100000 in
theorem Raw_calls (k : Int) (v : Value) (xs : List Cl) (w : World) (hp : PartC (fun q => q < w.heap.size) w v xs) (hn : xs.length ≤ 400) : Calls Try.prog 35 #[.int .i64 k, v] w fun e w' => ∃ vb, e = .returned (.tuple #[vb, .int .i64 (rawErr k xs)]) ∧ OwnB w' w.heap.size vb (rawOut k xs) ∧ Below w.heap.size w w' := by
  have HC := hid (size_calls k v xs w hp hn)
  unfold rawOut rawErr
  unfold sizeC at HC
  by_cases hr : rightC k xs = true
  · rw [if_pos hr] at HC
    simp only [if_pos hr]
    have HW := hid (fun (w' : World) (h : PartC (fun q => q < w'.heap.size) w' v xs) => all_calls (decide (k = 2)) v xs w' h (rightC_may hr) hn)
    rw [← rightC_k hr] at HW
    have HP := hid hp
    obtain ⟨a, cap, rfl, -⟩ := hp
    clear hr hn
    generalize xs.length = n at *
    generalize widthC (decide (k = 2)) xs = m at *
    by_cases hm : 232 < m
    · rw [if_pos hm, if_neg (by decide)]
      have i1 : (232 : Int) < (m : Int) := by omega
      go_enter Try.func35, Try.ntmps35
      go_wp2_with fail
      refine HC.out.mono ?_
      rintro e w1 ⟨rfl, b1⟩
      have HB := hid b1
      clear b1 hm
      go_wp2_with fail
      go_ret2
      exact ⟨_, rfl, OwnB.nil _ _, HB.out⟩
    · rw [if_neg hm, if_pos rfl]
      have i1 : ¬ (232 : Int) < (m : Int) := by omega
      go_enter Try.func35, Try.ntmps35
      go_wp2_with fail
      refine HC.out.mono ?_
      rintro e w1 ⟨rfl, b1⟩
      have HB := hid b1
      clear b1 hm
      go_wp2_with fail
      refine (HW.out w1 ((HP.out.below HB.out).mono fun q hq => Nat.lt_of_lt_of_le hq HB.out.size)).mono ?_
      rintro e w2 ⟨v2, rfl, o2, b2⟩
      have HO2 := hid (o2.mono (base' := w.heap.size) fun q e => Nat.le_trans HB.out.size (o2.block e).1)
      have HB2 := hid (HB.out.trans (b2.mono HB.out.size))
      obtain ⟨a2, n2, c2, rfl⟩ : ∃ a n c, v2 = .slice a n c := by obtain ⟨a, c, e, _⟩ := o2.part; exact ⟨a, _, c, e⟩
      clear b2 o2
      go_wp2_with fail
      go_ret2
      exact ⟨_, rfl, HO2.out, HB2.out⟩
  · rw [if_neg hr] at HC
    simp only [if_neg hr]
    rw [if_neg (by decide)]
    obtain ⟨a, cap, rfl, -⟩ := hp
    clear hr hn
    generalize xs.length = n at *
    go_enter Try.func35, Try.ntmps35
    go_wp2_with fail
    refine HC.out.mono ?_
    rintro e w1 ⟨rfl, b1⟩
    have HB := hid b1
    clear b1
    go_wp2_with fail
    go_ret2
    exact ⟨_, rfl, OwnB.nil _ _, HB.out⟩
end Go.Proofs.Ytkpadhjlopcejaa
