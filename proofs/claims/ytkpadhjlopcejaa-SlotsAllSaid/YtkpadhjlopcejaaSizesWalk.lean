/-
  SlotsSizes: its walk, and its arguments opened.
-/
import Derived.Test.YtkpadhjlopcejaaSKnown
namespace Go.Proofs.Ytkpadhjlopcejaa
open Go.RowKit Go.ChangeShapes Go.WideShapes Go.ChangeAt
theorem right_one {k : Int} {xs : List Cl} {x : Cl} (h : rightC k xs = true) (hx : x ∈ xs) : rightC k [x] = true := by
  have hm := rightC_may h x hx
  have ho : okTo (decide (k = 2)) [x] [x].length = true := by
    show (okTo (decide (k = 2)) [x] (0 + 1)) = true
    rw [okTo_succ, okAt_eq (show 0 < 1 by decide) rfl]
    exact Bool.and_eq_true_iff.2 ⟨rfl, hm⟩
  unfold rightC at h ⊢
  rw [ho, Bool.and_true]
  rcases rightC_kind (k := k) (l := xs) h with rfl | rfl
  · rfl
  · rfl
theorem one_part {ok : Nat → Prop} {w : World} {b0 off0 cap : Nat} {xs : List Cl} (h : CellsIn ok w (some ⟨b0, off0, none⟩) xs) {k : Nat} (hk : k < xs.length) (hc : xs.length ≤ cap ∧ cap ≤ maxLen) : PartC ok w (.slice (some ⟨b0, off0 + k * 5, none⟩) 1 (cap - k)) [xs[k]] := by
  refine ⟨_, _, rfl, fun i hi => ?_, by show 1 ≤ _; omega, by omega, fun e => by cases e⟩
  obtain rfl : i = 0 := by simp at hi; omega
  obtain ⟨b, off, e, ho, hcl⟩ := h k hk
  cases e
  refine ⟨_, _, rfl, ho, fun j hj => ?_⟩
  rw [Nat.zero_mul, Nat.add_zero]
  exact hcl j hj
theorem known_end' (w0 w : World) (hb : Below w0.heap.size w0 w) : Calls Try.prog 34 #[] w fun e w' => e = .returned (.bool true) ∧ Below w0.heap.size w0 w' :=
  (known_calls w).mono fun _ _ h => ⟨h.1, hb.trans (h.2.mono hb.size)⟩
def SzEnd (w : World) (e : Ending) (w' : World) : Prop := e = .returned (.bool true) ∧ Below w.heap.size w w'
set_option maxRecDepth 100000 in
set_option maxHeartbeats 8000000 in
theorem ssizes_walk (k : Int) (v : Value) (xs : List Cl) (w : World) (hp : PartC (fun q => q < w.heap.size) w v xs) : Calls Try.prog 12 #[.int .i64 k, v] w (SzEnd w) := by
  have HP := hid hp
  have HR := hid (right_calls k v xs w hp)
  obtain ⟨a, cap, rfl, hx, hc1, hc2, -⟩ := hp
  have HF := hid (fewc_calls a cap xs _ w hx)
  have HK := hid (known_end' w w (Below.refl _ _))
  have HX := hid hx
  generalize hL : xs.length = L at *
  have HL := hid hL
  have HC := hid (show L ≤ cap ∧ cap ≤ maxLen from ⟨hc1, hc2⟩)
  clear hx hL hc1 hc2
  go_enter Try.func12, Try.ntmps12
  go_wp2_with fail
  refine HF.out.mono ?_
  rintro e w1 ⟨b, rfl, rfl, hb⟩
  cases b
  · go_wp2_with fail
    refine HK.out.mono ?_
    rintro e w2 ⟨rfl, b2⟩
    have HB2 := hid b2
    clear b2
    go_wp2_with fail
    go_ret
    exact ⟨rfl, HB2.out⟩
  · have HN := hid (hb rfl).1
    rw [HL.out] at HN
    clear hb
    go_wp2_with fail
    refine HR.out.mono ?_
    rintro e w2 ⟨rfl, b2⟩
    have HB2 := hid b2
    have HK2 := hid (known_end' w w2 b2)
    clear b2
    by_cases hr : rightC k xs = true
    · rw [hr]
      have HRC := hid hr
      clear hr
      go_wp2_with fail
      go_loopw [5, 6] (fun s i wr => ∃ (j m : Nat), j ≤ L ∧ m ≤ 100000 ∧ i = .int .i64 (j : Int) ∧ s = .int .i64 (m : Int) ∧ Hid (m = widthC (decide (k = 2)) (xs.take j)) ∧ Below w.heap.size w wr) (fun _ i _ => L - (intOf i).toNat)
      case atStart => exact ⟨0, 2, Nat.zero_le _, by omega, rfl, rfl, rfl, HB2.out⟩
      case round =>
        obtain ⟨j, m, hj, hm, rfl, rfl, HM, hbr⟩ := hrel
        have HBR := hid hbr
        clear hbr
        by_cases hlt : j < L
        · have hjl : j < xs.length := by rw [HL.out]; exact hlt
          obtain ⟨b0, off0, rfl, ho0, -⟩ := HX.out.at hjl
          have hpart := (one_part HX.out hjl (by rw [HL.out]; exact HC.out)).below HBR.out
          have hmem : xs[j] ∈ xs := List.getElem_mem hjl
          have hone := right_one HRC.out hmem
          have hwo := widthC_one (rightC_may HRC.out _ hmem)
          have hwt := widthC_take (leaf := decide (k = 2)) hjl
          have hwa : widthC (decide (k = 2)) (xs.take (j + 1)) ≤ 100000 := by
            have h1 := rawS_length (leaf := decide (k = 2)) (l := xs.take (j + 1)) fun y hy => rightC_may HRC.out y (List.mem_of_mem_take hy)
            have h2 : (xs.take (j + 1)).length ≤ 60 := by rw [List.length_take]; have := HN.out; omega
            unfold widthC
            omega
          have hsz := size_calls k _ [xs[j]] wr (hpart.mono fun q hq => Nat.lt_of_lt_of_le hq HBR.out.size) (by show 1 ≤ 400; omega)
          unfold sizeC at hsz
          rw [if_pos hone] at hsz
          generalize widthC (decide (k = 2)) [xs[j]] = n at *
          obtain ⟨m2, hm2⟩ : ∃ m2, m2 = widthC (decide (k = 2)) (xs.take (j + 1)) := ⟨_, rfl⟩
          have HSZ := hid hsz
          have HM2 := hid hm2
          have hmn : m + n = m2 + 2 := by rw [HM.out, hm2]; omega
          have HJ := hid hlt
          have HMB := hid (show m2 ≤ 100000 by rw [hm2]; exact hwa)
          have i0 : (j : Int) < (L : Int) := by omega
          have i1 : ¬ (n : Int) < 3 := by omega
          have i2 : ¬ (113 : Int) < (n : Int) - 2 := by omega
          have i3 : (0 : Int) ≤ (j : Int) := by omega
          have i4 : (j : Int) ≤ (j : Int) + 1 := by omega
          have i5 : (j : Int) + 1 ≤ (cap : Int) := by have := HC.out; omega
          have i6 : ¬ cap = j := by have := HC.out; omega
          have i7 : ((j : Int) + 1).toNat = j + 1 := by omega
          have i8 : j + 1 - j = 1 := by omega
          have hw1 : IntKind.i64.wrap ((j : Int) + 1) = (j : Int) + 1 := IntWalk.i64_in _ (by have := HN.out; omega)
          have hw2 : IntKind.i64.wrap ((n : Int) - 2) = (n : Int) - 2 := IntWalk.i64_in _ (by omega)
          have hw3 : IntKind.i64.wrap ((m : Int) + (n : Int)) = (m : Int) + (n : Int) := IntWalk.i64_in _ (by omega)
          have hw4 : IntKind.i64.wrap ((m : Int) + (n : Int) - 2) = (m2 : Int) := by rw [IntWalk.i64_in _ (by omega)]; omega
          clear hpart hmem hone hwo hwt hwa hsz hm2 hmn hlt hj hm hjl
          go_wp2_with fail
          refine HSZ.out.mono ?_
          rintro e w4 ⟨rfl, b4⟩
          have HB4 := hid (HBR.out.trans (b4.mono HBR.out.size))
          clear b4
          go_wp2_with fail
          go_roundw
          case rel => exact ⟨j + 1, m2, HJ.out, HMB.out, by go_num, rfl, HM2, HB4.out⟩
          case measure => simp [intOf]; have := HJ.out; omega
        · obtain rfl : j = L := by omega
          have i0 : ¬ (j : Int) < (j : Int) := by omega
          have hmw : m = widthC (decide (k = 2)) xs := by rw [HM.out, List.take_of_length_le (by rw [HL.out]; omega)]
          have hsz := size_calls k _ xs wr ((HP.out.below HBR.out).mono fun q hq => Nat.lt_of_lt_of_le hq HBR.out.size) (by rw [HL.out]; have := HN.out; omega)
          unfold sizeC at hsz
          rw [if_pos HRC.out, ← hmw] at hsz
          have HSZ := hid hsz
          clear hsz hmw hlt hj hm
          go_wp2_with fail
          refine HSZ.out.mono ?_
          rintro e w4 ⟨rfl, b4⟩
          have HB4 := hid (HBR.out.trans (b4.mono HBR.out.size))
          have HK4 := hid (known_end' w w4 HB4.out)
          clear b4
          go_wp2_with fail
          refine HK4.out.mono ?_
          rintro e w5 ⟨rfl, b5⟩
          have HB5 := hid b5
          clear b5
          go_wp2_with fail
          go_ret
          exact ⟨rfl, HB5.out⟩
    · have hr' : rightC k xs = false := by simpa using hr
      rw [hr']
      clear hr hr'
      go_wp2_with fail
      refine HK2.out.mono ?_
      rintro e w3 ⟨rfl, b3⟩
      have HB3 := hid b3
      clear b3
      go_wp2_with fail
      go_ret
      exact ⟨rfl, HB3.out⟩
set_option maxRecDepth 100000 in
theorem slotsSizes_open {H : Type} (enc : TypeId × Value → H) (W : World) (base : Nat) (v0 v1 : Value) (d0 d1 : DataW H) (p0 p1 : List MemPlace) (o0 : Value.okWide Try.prog W .any base 60 v0) (o1 : Value.okWide Try.prog W .any base 61 v1)
    (h0 : DataW.Trod enc Try.prog W 0 (fun _ => true) true 60 v0 d0 p0) (h1 : DataW.Trod enc Try.prog W 0 (fun _ => true) true 61 v1 d1 p1) :
    Calls Try.prog 12 #[v0, v1] W fun e w' => e = .returned (.bool true) ∧ Below W.heap.size W w' := by
  obtain ⟨k, rfl, -⟩ := open_int Try.underlying60 o0 h0
  obtain ⟨xs, hx⟩ := cells_of enc W base v1 d1 p1 o1 h1
  exact ssizes_walk k v1 xs W hx
end Go.Proofs.Ytkpadhjlopcejaa
