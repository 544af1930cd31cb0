/-
  The reader of cells: short's walk.
-/
import Derived.Test.YtkpadhjlopcejaaSMust
namespace Go.Proofs.Ytkpadhjlopcejaa
open Go.RowKit
def TextEnd (ok : Nat → Prop) (R : Nat) (x : Option (ByteArray × List UInt8)) (w : World) (e : Ending) (w' : World) : Prop :=
  (match x with | some (s, r) => e = .returned (.string s) ∧ RdAt ok w' R r | none => e = .panicked (stopV 151)) ∧ Kept (fun q => q < w.heap.size ∧ q ≠ R) w w'
theorem readN_one (y : UInt8) (t : List UInt8) : readN 1 (y :: t) = some ((y.toNat : Int), t) := by
  unfold readN
  rw [if_neg (by simp)]
  simp [val, valFrom]
theorem readN_nil : readN 1 [] = none := rfl
theorem u8_in (x : UInt8) : IntKind.u8.wrap (x.toNat : Int) = (x.toNat : Int) := IntWalk.u8_in _ (by have := x.toNat_lt; omega)
theorem text_ok {ok : Nat → Prop} {R : Nat} {x : UInt8} {r : List UInt8} {w : World} {e : Ending} {w' : World} (h : ¬ r.length < x.toNat) (he : e = .returned (.string ⟨(r.take x.toNat).toArray⟩)) (hr : RdAt ok w' R (r.drop x.toNat)) (hk : Kept (fun q => q < w.heap.size ∧ q ≠ R) w w') : TextEnd ok R (readS (x :: r)) w e w' := by
  have e : readS (x :: r) = some (⟨(r.take x.toNat).toArray⟩, r.drop x.toNat) := by rw [readS, if_neg h]
  rw [e]
  exact ⟨⟨he, hr⟩, hk⟩
theorem text_no {ok : Nat → Prop} {R : Nat} {x : UInt8} {r : List UInt8} {w : World} {w' : World} (h : r.length < x.toNat) (hk : Kept (fun q => q < w.heap.size ∧ q ≠ R) w w') : TextEnd ok R (readS (x :: r)) w (.panicked (stopV 151)) w' := by
  have e : readS (x :: r) = none := by rw [readS, if_pos h]
  rw [e]
  exact ⟨rfl, hk⟩
/-- what the loop of short keeps -/
structure ShortAt (ok : Nat → Prop) (R : Nat) (r : List UInt8) (w1 : World) (j : Nat) (v : Value) (wr : World) : Prop where
  own : OwnB wr w1.heap.size v (r.take j)
  rd : RdAt ok wr R (r.drop j)
  kept : Kept (fun q => q < w1.heap.size ∧ q ≠ R) w1 wr
  okw : ∀ k, ok k → k < w1.heap.size
  low : R < w1.heap.size
theorem ShortAt.read {ok : Nat → Prop} {R : Nat} {r : List UInt8} {w1 : World} {j : Nat} {v : Value} {wr w' : World} (h : ShortAt ok R r w1 j v wr) (hk : Kept (fun q => q < wr.heap.size ∧ q ≠ R) wr w') :
    OwnB w' w1.heap.size v (r.take j) ∧ Kept (fun q => q < w1.heap.size ∧ q ≠ R) w1 w' :=
  ⟨h.own.kept hk fun q e => ⟨(h.own.block e).2, by have := (h.own.block e).1; have := h.low; omega⟩, h.kept.trans (hk.shrink fun q (hq : q < w1.heap.size ∧ q ≠ R) => ⟨Nat.lt_of_lt_of_le hq.1 h.kept.size, hq.2⟩)⟩
theorem ShortAt.laid {ok : Nat → Prop} {R : Nat} {r : List UInt8} {w1 : World} {j : Nat} {v v' : Value} {wr w' w2 w3 : World} (h : ShortAt ok R r w1 j v wr) (hr : RdAt ok w' R (r.drop (j + 1))) (hk : Kept (fun q => q < wr.heap.size ∧ q ≠ R) wr w') (hb : Below w'.heap.size w' w2)
    (h3 : OwnB w3 w1.heap.size v' (r.take (j + 1))) (hg : w2.grownBy w3 v.ownBlock) : ShortAt ok R r w1 (j + 1) v' w3 := by
  obtain ⟨a1, a2⟩ := h.read hk
  have hkk : Kept (fun q => q < w1.heap.size) w' w3 := (Kept.of_below hb fun q hq => Nat.lt_of_lt_of_le hq a2.size).trans (Kept.of_grown hg fun q hq => ⟨Nat.lt_of_lt_of_le hq (Nat.le_trans a2.size hb.size), fun e => by have := (a1.block e.symm).1; omega⟩)
  exact ⟨h3, hr.kept hkk h.low h.okw, a2.trans (hkk.shrink fun q hq => hq.1), h.okw, h.low⟩
set_option maxRecDepth 100000 in
set_option maxHeartbeats 4000000 in
theorem rd_short (ok : Nat → Prop) (R : Nat) (l : List UInt8) (w : World) (h : RdAt ok w R l) :
    Calls Try.prog 75 #[.agg #[.pointer (some ⟨R, 0, none⟩)]] w (TextEnd ok R (readS l) w) := by
  have hb1 : Below w.heap.size w (w.alloc (.cells #[.pointer (some ⟨R, 0, none⟩)] 107)) := (Below.refl _ _).alloc (Nat.le_refl _) _
  have hblk := (Blk.new w [.pointer (some ⟨R, 0, none⟩)] 107).cell 0
  simp only [List.getElem?_cons_zero] at hblk
  have H1 := hid (h.grows hb1)
  have HB := hid hb1
  have HR := hid h.lt
  have HOK := hid (show ∀ k, ok k → k < w.heap.size from fun k hk => by obtain ⟨_, _, _, _, h4⟩ := h; exact (h4 k hk).1)
  have HC := hid (rd_number ok R l 1 _ (by omega) H1.out)
  have HSZ := hid (show w.heap.size < (w.alloc (.cells #[.pointer (some ⟨R, 0, none⟩)] 107)).heap.size by simp)
  cases l with
  | nil =>
    rw [readN_nil] at HC
    clear h hb1
    go_enter Try.func75, Try.ntmps75
    go_wp2_with fail
    generalize w.alloc (.cells #[.pointer (some ⟨R, 0, none⟩)] 107) = w1 at *
    refine HC.out.mono ?_
    rintro e w2 ⟨rfl, k2⟩
    exact ⟨rfl, rfl, (Kept.of_below HB.out fun q hq => hq.1).trans (k2.shrink fun q (hq : q < w.heap.size ∧ q ≠ R) => ⟨Nat.lt_of_lt_of_le hq.1 HB.out.size, hq.2⟩)⟩
  | cons x r =>
    rw [readN_one] at HC
    have hx := x.toNat_lt
    obtain ⟨n, hn⟩ : ∃ n, n = x.toNat := ⟨_, rfl⟩
    rw [← hn] at HC hx
    have HN := hid hn
    have HLEN := hid h.len
    clear h hb1 hn
    go_enter Try.func75, Try.ntmps75
    go_wp2_with fail
    generalize hw1 : w.alloc (.cells #[.pointer (some ⟨R, 0, none⟩)] 107) = w1 at *
    generalize hC : w.heap.size = C at *
    have HCC := hid hC
    clear hw1 hC
    refine HC.out.mono ?_
    rintro e w2 ⟨⟨rfl, r2⟩, k2⟩
    have HA := hid (show ShortAt ok R r w1 0 (.slice none 0 0) w2 from ⟨OwnB.nil _ _, r2, k2, fun k hk => by have := HOK.out k hk; have := HSZ.out; omega, by have := HR.out; have := HSZ.out; omega⟩)
    have hc2 := k2.cell (p := ⟨C, 0, none⟩) ⟨HSZ.out, by have := HR.out; show C ≠ R; omega⟩
    rw [hblk] at hc2
    clear r2 k2
    go_wp2_with fail
    go_loopw [3, 6] (fun v i wr => ∃ (j : Nat) (av : Option Addr) (nv cv : Nat), v = .slice av nv cv ∧ j ≤ n ∧ j ≤ r.length ∧ i = .int .i64 (j : Int) ∧ ShortAt ok R r w1 j (.slice av nv cv) wr) (fun _ i _ => n - (intOf i).toNat)
    case atStart => exact ⟨0, _, _, _, rfl, Nat.zero_le _, Nat.zero_le _, rfl, HA.out⟩
    case round =>
      obtain ⟨j, av, nv, cv, rfl, hj, hjr, rfl, hat⟩ := hrel
      have HAT := hid hat
      have hc3 := hat.kept.cell (p := ⟨C, 0, none⟩) ⟨HSZ.out, by have := HR.out; show C ≠ R; omega⟩
      rw [hblk] at hc3
      clear hat hc2
      by_cases hlt : j < n
      · have i0 : (j : Int) < (n : Int) := by omega
        have HC3 := hid (rd_number ok R (r.drop j) 1 wr (by omega) HAT.out.rd)
        by_cases hl : j < r.length
        · rw [List.drop_eq_getElem_cons hl, readN_one] at HC3
          have htk := take_snoc r j hl
          generalize r[j] = y at *
          have hlit := one_litB
          have HTK := hid htk
          have hw1 : IntKind.u8.wrap (y.toNat : Int) = (y.toNat : Int) := u8_in y
          have hw2 : IntKind.i64.wrap ((j : Int) + 1) = (j : Int) + 1 := IntWalk.i64_in _ (by omega)
          have HL := hid hl
          have HJ := hid hlt
          clear hj hjr hlt hl htk hx hlit
          go_wp2_with fail
          refine HC3.out.mono ?_
          rintro e w4 ⟨⟨rfl, r4⟩, k4⟩
          have HR4 := hid r4
          have HK4 := hid k4
          have HP4 := hid (part_lit w4 [y] 5 (by show 1 ≤ maxLen; decide))
          have HB4 := hid ((Below.refl w4.heap.size w4).alloc (o := .cells #[.int .u8 (y.toNat : Int)] 5) (Nat.le_refl _))
          have hrd := HAT.out.read k4
          have HO4 := hid (hrd.1.below HB4.out)
          have HS4 := hid (show w1.heap.size ≤ (w4.alloc (.cells #[.int .u8 (y.toNat : Int)] 5)).heap.size from Nat.le_trans hrd.2.size HB4.out.size)
          clear r4 k4 hrd
          go_wp2_with (at_builtin; refine wpList_appendB rfl (.tmp 8) (.tmp 12) rfl w1.heap.size _ _ rfl HO4.out (some ⟨w4.heap.size, 0, none⟩) 1 1 [y] rfl rfl (fun e => by cases e) _ HP4.out.at.1 (by have := HLEN.out; rw [List.length_take]; simp at this; omega) HS4.out ?_; intro v5 w5 hv hg ho; rw [← HTK.out] at hv; have HB5 := hid (HAT.out.laid HR4.out HK4.out HB4.out hv hg); obtain ⟨a5, n5, c5, rfl⟩ : ∃ a n c, v5 = .slice a n c := (by obtain ⟨a, c, e, _⟩ := hv.part; exact ⟨a, _, c, e⟩); clear hv hg ho)
          go_roundw
          case rel => exact ⟨j + 1, _, _, _, rfl, HJ.out, HL.out, by go_num, HB5.out⟩
          case measure => simp [intOf]; have := HJ.out; omega
        · rw [List.drop_of_length_le (by omega), readN_nil] at HC3
          have HL := hid hl
          have HJ := hid hlt
          clear hj hjr hlt hl hx
          go_wp2_with fail
          refine HC3.out.mono ?_
          rintro e w4 ⟨rfl, k4⟩
          have hk5 := HAT.out.kept.trans (k4.shrink fun q (hq : q < w1.heap.size ∧ q ≠ R) => ⟨Nat.lt_of_lt_of_le hq.1 HAT.out.kept.size, hq.2⟩)
          have hcc := HCC.out
          subst hcc
          exact ⟨rfl, text_no (by have := HL.out; have := HJ.out; have := HN.out; omega) ((Kept.of_below HB.out fun q hq => hq.1).trans (hk5.shrink fun q (hq : q < w.heap.size ∧ q ≠ R) => ⟨by have := HSZ.out; omega, hq.2⟩))⟩
      · obtain rfl : j = n := by omega
        have i0 : ¬ (j : Int) < (j : Int) := by omega
        have HJR := hid hjr
        have hnv : (r.take j).length = nv := HAT.out.own.part.at.2.1
        have hcv := run_strB (w := wr) nv cv hnv HAT.out.own.part.at.1
        have HNV := hid hnv
        clear hlt hj hjr hx hnv
        go_wp2_with fail
        go_ret
        have hcc := HCC.out
        subst hcc
        refine text_ok (by have := HJR.out; have := HN.out; omega) (by rw [← HN.out]; rfl) (by rw [← HN.out]; exact HAT.out.rd) ((Kept.of_below HB.out fun q hq => hq.1).trans (HAT.out.kept.shrink fun q (hq : q < w.heap.size ∧ q ≠ R) => ⟨by have := HSZ.out; omega, hq.2⟩))
end Go.Proofs.Ytkpadhjlopcejaa
