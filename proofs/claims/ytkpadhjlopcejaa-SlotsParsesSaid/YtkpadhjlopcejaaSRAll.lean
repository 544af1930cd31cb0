/-
  The document's bytes of cells: the walk of All.
-/
import Derived.Test.YtkpadhjlopcejaaSRCell
namespace Go.Proofs.Ytkpadhjlopcejaa
open Go.RowKit
structure TwoAt (w0 wr : World) (vb vc : Value) (r l : List UInt8) : Prop where
  below : Below w0.heap.size w0 wr
  left : OwnB wr w0.heap.size vb r
  right : OwnB wr w0.heap.size vc l
  apart : ∀ q, vb.ownBlock = some q → vc.ownBlock ≠ some q
theorem TwoAt.grows {w0 wr w' : World} {vb vc : Value} {r l : List UInt8} (h : TwoAt w0 wr vb vc r l) (hb : Below wr.heap.size wr w') : TwoAt w0 w' vb vc r l :=
  ⟨h.below.trans (hb.mono h.below.size), h.left.below hb, h.right.below hb, h.apart⟩
theorem TwoAt.onLeft {w0 w2 w3 : World} {vb vb' vc : Value} {r r' l : List UInt8} (h : TwoAt w0 w2 vb vc r l) (h3 : OwnB w3 w0.heap.size vb' r') (hg : w2.grownBy w3 vb.ownBlock) (hv : vb'.ownBlock = vb.ownBlock ∨ vb'.ownBlock = some w2.heap.size) : TwoAt w0 w3 vb' vc r' l := by
  refine ⟨h.below.trans (grown_belowB hg h.left h.below.size), h3, h.right.keptB fun k o hk hh => ?_, fun q hq hc => ?_⟩
  · rw [hg.block k (h.right.block hk).2 (fun e => h.apart k e.symm hk)]; exact hh
  · rcases hv with hv | hv
    · exact h.apart q (hv ▸ hq) hc
    · have : q = w2.heap.size := by rw [hv] at hq; exact (Option.some.inj hq).symm
      have := (h.right.block hc).2
      omega
theorem TwoAt.onRight {w0 w2 w3 : World} {vb vc vc' : Value} {r l l' : List UInt8} (h : TwoAt w0 w2 vb vc r l) (h3 : OwnB w3 w0.heap.size vc' l') (hg : w2.grownBy w3 vc.ownBlock) (hv : vc'.ownBlock = vc.ownBlock ∨ vc'.ownBlock = some w2.heap.size) : TwoAt w0 w3 vb vc' r l' := by
  refine ⟨h.below.trans (grown_belowB hg h.right h.below.size), h.left.keptB fun k o hk hh => ?_, h3, fun q hq hc => ?_⟩
  · rw [hg.block k (h.left.block hk).2 (fun e => h.apart k hk e.symm)]; exact hh
  · rcases hv with hv | hv
    · exact h.apart q hq (hv ▸ hc)
    · have : q = w2.heap.size := by rw [hv] at hc; exact (Option.some.inj hc).symm
      have := (h.left.block hq).2
      omega
set_option maxRecDepth 100000 in
set_option maxHeartbeats 4000000 in
theorem rall_calls (leaf : Bool) (v : Value) (xs : List Cl) (w : World) (hp : PartC (fun q => q < w.heap.size) w v xs) (hm : ∀ x ∈ xs, mayC leaf x = true) (hn : xs.length ≤ 400) :
    Calls Try.prog 39 #[.int .i64 (kindK leaf), v] w (BytesEnd (allC leaf xs) w) := by
  obtain ⟨a, cap, rfl, hx, -, -, -⟩ := hp
  generalize hL : xs.length = L at *
  have HL := hid hL
  have HM := hid hm
  have HN := hid hn
  have hK : (kindK leaf == 2) = leaf := by cases leaf <;> rfl
  generalize kindK leaf = K at *
  have hw0 : IntKind.i64.wrap (2 * (L : Int)) = 2 * (L : Int) := IntWalk.i64_in _ (by omega)
  have hw1 : IntKind.i64.wrap (2 + 2 * (L : Int)) = 2 + 2 * (L : Int) := IntWalk.i64_in _ (by omega)
  clear hL hm hn
  go_enter Try.func39, Try.ntmps39
  go_wp2_with fail
  refine (refnumber_calls L 2 w (by have := HN.out; omega) (by omega)).mono ?_
  rintro e w1 ⟨v1, rfl, o1, b1⟩
  have A1 := hid (show TwoAt w w1 v1 (.slice none 0 0) (be L 2) [] from ⟨b1, o1, OwnB.nil _ _, fun q _ h => by cases h⟩)
  obtain ⟨x1, n1, c1, rfl⟩ : ∃ a n c, v1 = .slice a n c := by obtain ⟨a, c, e, _⟩ := o1.part; exact ⟨a, _, c, e⟩
  clear o1 b1
  go_wp2_with fail
  clear hw0 hw1
  go_loopw [5, 7, 8] (fun b v i wr => ∃ (k : Nat) (ab : Option Addr) (nb cb : Nat) (av : Option Addr) (nv cv : Nat), b = .slice ab nb cb ∧ v = .slice av nv cv ∧ k ≤ L ∧ i = .int .i64 (k : Int) ∧ TwoAt w wr (.slice ab nb cb) (.slice av nv cv) (be L 2 ++ offTo leaf xs L k) (rawS leaf (xs.take k))) (fun _ _ i _ => L - (intOf i).toNat)
  case atStart => exact ⟨0, _, _, _, _, _, _, rfl, rfl, Nat.zero_le _, rfl, by simpa [rawS, offTo] using A1.out⟩
  case round =>
    obtain ⟨k, ab, nb, cb, av, nv, cv, rfl, rfl, hk, rfl, hat⟩ := hrel
    have HAT := hid hat
    have hnv : (rawS leaf (xs.take k)).length = nv := hat.right.part.at.2.1
    have hall := rawS_length (leaf := leaf) (l := xs.take k) fun y hy => HM.out y (List.mem_of_mem_take hy)
    rw [List.length_take] at hall
    have hnv5 : nv ≤ 44400 := by have := HN.out; omega
    have HNV := hid hnv
    clear hat hnv hall A1
    by_cases hlt : k < L
    · have hkl : k < xs.length := by rw [HL.out]; exact hlt
      obtain ⟨b0, off0, rfl, ho0, h0, h1, h2, h3, h4⟩ := hx.at hkl
      have d0 := HAT.out.below.cell (p := ⟨b0, off0 + k * 5, none⟩) ho0
      have d1 := HAT.out.below.cell (p := ⟨b0, off0 + k * 5 + 1, none⟩) ho0
      have d2 := HAT.out.below.cell (p := ⟨b0, off0 + k * 5 + 2, none⟩) ho0
      have d3 := HAT.out.below.cell (p := ⟨b0, off0 + k * 5 + 3, none⟩) ho0
      have d4 := HAT.out.below.cell (p := ⟨b0, off0 + k * 5 + 4, none⟩) ho0
      rw [h0] at d0
      rw [h1] at d1
      rw [h2] at d2
      rw [h3] at d3
      rw [h4] at d4
      have hup := rawS_up leaf xs k hkl
      have hmx := HM.out _ (List.getElem_mem hkl)
      obtain ⟨x, hxe⟩ : ∃ x, x = xs[k] := ⟨_, rfl⟩
      rw [← hxe] at d0 d1 d2 d3 d4 hup hmx
      have hle := (rawC_length hmx).1
      obtain ⟨m, hm⟩ : ∃ m, m = 2 + 2 * L + nv := ⟨_, rfl⟩
      have HOF := hid (show be L 2 ++ offTo leaf xs L k ++ be m 2 = be L 2 ++ offTo leaf xs L (k + 1) by rw [offTo, HNV.out, hm, List.append_assoc])
      have HUP := hid hup
      have HMX := hid hmx
      have HLE := hid hle
      have HX := hid hx
      have HMM := hid (show m < 9223372036854775807 by have := HN.out; omega)
      have HLB := hid (show (be L 2 ++ offTo leaf xs L k).length + 2 ≤ 1099511627776 by rw [List.length_append, be_length, offTo_length]; have := HN.out; omega)
      have i0 : (k : Int) < (L : Int) := by omega
      have hw1 : IntKind.i64.wrap ((k : Int) + 1) = (k : Int) + 1 := IntWalk.i64_in _ (by have := HN.out; omega)
      have hw4 : IntKind.i64.wrap (2 + 2 * (L : Int) + (nv : Int)) = (m : Int) := by rw [IntWalk.i64_in _ (by have := HN.out; omega)]; omega
      have hrc := fun w' => rcell_calls leaf x w' HMX.out
      have HRC := hid hrc
      clear hx h0 h1 h2 h3 h4 hxe hup hmx hle hm hrc
      go_wp2_with fail
      refine (HRC.out _).mono ?_
      rintro e w4 ⟨v4, rfl, o4, b4⟩
      have HB4 := hid (HAT.out.grows b4)
      obtain ⟨x4, c4, rfl, -⟩ := o4.part
      have HO4 := hid o4
      generalize hn4 : (rawC leaf x).length = n4 at *
      have HN4 := hid hn4
      clear b4 o4 hn4 d0 d1 d2 d3 d4
      go_wp2_with fail
      refine (refnumber_calls m 2 w4 HMM.out (by omega)).mono ?_
      rintro e w5 ⟨v5, rfl, o5, b5⟩
      have HB5 := hid (HB4.out.grows b5)
      have HO45 := hid (HO4.out.below b5)
      obtain ⟨x5, c5, rfl, p5, -, -, s5⟩ := o5.part
      generalize hl5 : be m 2 = l5 at *
      have hn5 : l5.length = 2 := by rw [← hl5, be_length]
      rw [hn5]
      have P5 := hid p5
      have S5 := hid s5
      have HN5 := hid hn5
      have HOB := hid (show ∀ q, Value.ownBlock (.slice x4 n4 c4) = some q → wr.heap.size ≤ q from fun q e => (HO4.out.block e).1)
      clear o5 b5 p5 s5 hn5 hl5 hw4
      have HLC := hid (show (rawS leaf (xs.take k)).length + n4 ≤ 1099511627776 by have := HNV.out; have := HLE.out; have := HN4.out; omega)
      go_wp2_with (at_builtin; first
        | (refine wpList_appendB rfl (.tmp 30) (.tmp 35) rfl w.heap.size _ _ rfl HB5.out.left x5 2 c5 l5 HN5.out rfl S5.out _ P5.out HLB.out HB5.out.below.size ?_; intro v6 w6 hv hg ho; rw [HOF.out] at hv; have HB6 := hid (HB5.out.onLeft hv hg ho); have HO6 := hid (HO45.out.keptB fun q o hq hh => (by rw [hg.block q (HO45.out.block hq).2 (fun e => by have := HOB.out q hq; have := (HAT.out.left.block e.symm).2; omega)]; exact hh)); obtain ⟨a6, n6, c6, rfl⟩ : ∃ a n c, v6 = .slice a n c := (by obtain ⟨a, c, e, _⟩ := hv.part; exact ⟨a, _, c, e⟩); clear hv hg ho)
        | (refine wpList_appendB rfl (.tmp 37) (.tmp 38) rfl w.heap.size _ _ rfl HB6.out.right x4 n4 c4 (rawC leaf x) HN4.out rfl HO6.out.part.at.2.2.2.2 _ HO6.out.part.at.1 HLC.out HB6.out.below.size ?_; intro v7 w7 hv hg ho; rw [← HUP.out] at hv; have HB7 := hid (HB6.out.onRight hv hg ho); obtain ⟨a7, n7, c7, rfl⟩ : ∃ a n c, v7 = .slice a n c := (by obtain ⟨a, c, e, _⟩ := hv.part; exact ⟨a, _, c, e⟩); clear hv hg ho))
      go_roundw
      case rel => exact ⟨k + 1, _, _, _, _, _, _, rfl, rfl, hlt, by go_num, HB7.out⟩
      case measure => simp [intOf]; omega
    · obtain rfl : k = L := by omega
      have i0 : ¬ ((k : Int) < (k : Int)) := by omega
      have hE := HAT.out
      rw [show xs.take k = xs from List.take_of_length_le (by rw [HL.out]; omega)] at hE HNV
      have HE := hid hE
      have HLEN := hid (show (be k 2 ++ offTo leaf xs k k).length + nv ≤ 1099511627776 by have := HN.out; rw [List.length_append, be_length, offTo_length]; omega)
      clear hx hlt hk hE HAT hnv5
      go_wp2_with (at_builtin; refine wpList_appendB rfl (.tmp 40) (.tmp 41) rfl w.heap.size _ _ rfl HE.out.left av nv cv _ HNV.out rfl HE.out.right.part.at.2.2.2.2 _ HE.out.right.part.at.1 HLEN.out HE.out.below.size ?_; intro v4 w4 hv hg ho; have HV4 := hid hv; have HB4 := hid (HE.out.below.trans (grown_belowB hg HE.out.left HE.out.below.size)); obtain ⟨a4, n4, c4, rfl⟩ : ∃ a n c, v4 = .slice a n c := (by obtain ⟨a, c, e, _⟩ := hv.part; exact ⟨a, _, c, e⟩); clear hv hg ho)
      go_ret
      refine ⟨_, rfl, ?_, HB4.out⟩
      unfold allC
      rw [HL.out]
      exact HV4.out
end Go.Proofs.Ytkpadhjlopcejaa
