/-
  A writer: the walks of Truth, Text.
-/
import Derived.Test.YtkpadhjlopcejaaWriter
namespace Go.Proofs.Ytkpadhjlopcejaa
open Go.RowKit
theorem numB_bit (b : Bool) : numB (if b then 1 else 0) 1 = some [if b then 1 else 0] := by cases b <;> rfl
theorem truth_none (p : Option Addr) (b : Bool) (w : World) (hn : Calls Try.prog 48 #[.pointer p] w fun e w' => e = .returned (.bool true) ∧ w = w') : Calls Try.prog 21 #[.pointer p, .bool b] w fun e w' => e = .returned (.int .i64 1) ∧ w = w' := by
  have h1 := hid (number_none p 1 1 w hn)
  have h0 := hid (number_none p 0 1 w hn)
  clear hn
  go_enter Try.func21, Try.ntmps21
  cases b
  · go_wp2_with fail
    refine h0.out.mono ?_
    rintro e w' ⟨rfl, rfl⟩
    go_wp2_with fail
    go_ret
    exact ⟨rfl, rfl⟩
  · go_wp2_with fail
    refine h1.out.mono ?_
    rintro e w' ⟨rfl, rfl⟩
    go_wp2_with fail
    go_ret
    exact ⟨rfl, rfl⟩
theorem truth_calls (P : Nat) (v : Value) (l : List UInt8) (b : Bool) (w : World) (h : WrAt w P v l) : Calls Try.prog 21 #[.pointer (some ⟨P, 0, none⟩), .bool b] w (WEnd (written l (some [if b then 1 else 0]) 2) P v w) := by
  have hc := number_calls P v l (if b then 1 else 0) 1 w h (by cases b <;> decide)
  rw [numB_bit] at hc
  have HC := hid hc
  clear hc h
  cases b
  · go_enter Try.func21, Try.ntmps21
    go_wp2_with fail
    refine HC.out.mono ?_
    intro e w1 hp
    have HP := hid hp
    clear hp
    obtain ⟨v', rfl, hr⟩ := HP.out
    clear hr
    go_wp2_with fail
    go_ret
    exact HP.out
  · go_enter Try.func21, Try.ntmps21
    go_wp2_with fail
    refine HC.out.mono ?_
    intro e w1 hp
    have HP := hid hp
    clear hp
    obtain ⟨v', rfl, hr⟩ := HP.out
    clear hr
    go_wp2_with fail
    go_ret
    exact HP.out
/-- a text's bytes, if it is not too long -/
def textB (s : List UInt8) : Option (List UInt8) := if s.length ≤ 65535 then some (be s.length 2 ++ s) else none
theorem text_none (p : Option Addr) (s : ByteArray) (w : World) (hn : Calls Try.prog 48 #[.pointer p] w fun e w' => e = .returned (.bool true) ∧ w = w') : Calls Try.prog 20 #[.pointer p, .string s] w fun e w' => e = .returned (.int .i64 1) ∧ w = w' := by
  have HN := hid hn
  clear hn
  go_enter Try.func20, Try.ntmps20
  go_wp2_with fail
  refine HN.out.mono ?_
  rintro e w' ⟨rfl, rfl⟩
  go_wp2_with fail
  go_ret
  exact ⟨rfl, rfl⟩
set_option maxRecDepth 10000 in
theorem text_calls (P : Nat) (v : Value) (l : List UInt8) (s : ByteArray) (w : World) (h : WrAt w P v l) : Calls Try.prog 20 #[.pointer (some ⟨P, 0, none⟩), .string s] w (WEnd (written l (textB s.data.toList) 3) P v w) := by
  have c1 := h.1.cell 1
  simp only [List.getElem?_cons_zero, List.getElem?_cons_succ] at c1
  have H := hid h
  clear h
  have hsl : s.data.toList.length = s.size := by simp
  by_cases hs : s.size ≤ 65535
  · have e : textB s.data.toList = some (be s.size 2 ++ s.data.toList) := by unfold textB; rw [hsl, if_pos hs]
    have HE := hid e
    have hs' : ¬ (65535 : Int) < (s.size : Int) := by omega
    have HL := hid (laid_calls s.size 2 w (by omega) (by decide))
    have HS := hid hs
    clear e hs hsl
    go_enter Try.func20, Try.ntmps20
    go_wp2_with fail
    refine (wnone_at P true _ c1).mono ?_
    rintro e w' ⟨rfl, rfl⟩
    go_wp2_with fail
    refine HL.out.mono ?_
    rintro e w1 ⟨vb, rfl, ho, hb⟩
    have HO := hid ho
    have HB := hid hb
    clear ho hb
    obtain ⟨a, n, c, rfl⟩ : ∃ a n c, vb = .slice a n c := by obtain ⟨a, c, e, _⟩ := HO.out.part; exact ⟨a, _, c, e⟩
    go_wp2_with (at_builtin; refine wpList_appendS rfl (.tmp 16) (.tmp 17) rfl w.heap.size _ _ rfl HO.out s rfl (by have := HS.out; rw [be_length]; omega) HB.out.size ?_; intro v2 w2 hv2 hg2; obtain ⟨a2, n2, c2, rfl⟩ : ∃ a n c, v2 = .slice a n c := (by obtain ⟨a, c, e, _⟩ := hv2.part; exact ⟨a, _, c, e⟩); have HV2 := hid hv2; have HB2 := hid (HB.out.trans (grown_belowB hg2 HO.out HB.out.size)); clear hv2 hg2)
    refine (put_calls P v _ l _ _ w2 (H.out.grows HB2.out) HV2.out.part (by have := HS.out; rw [List.length_append, be_length]; simp; omega)).mono ?_
    intro e w3 hp
    have hp2 := wend_put (no := 3) HB2.out hp
    rw [← HE.out] at hp2
    have HP := hid hp2
    clear hp hp2
    obtain ⟨v', rfl, hr⟩ := HP.out
    clear hr
    go_wp2_with fail
    go_ret
    exact HP.out
  · have e : textB s.data.toList = none := by unfold textB; rw [hsl, if_neg hs]
    have HE := hid e
    have hs' : (65535 : Int) < (s.size : Int) := by omega
    clear e hs hsl
    go_enter Try.func20, Try.ntmps20
    go_wp2_with fail
    refine (wnone_at P true _ c1).mono ?_
    rintro e w' ⟨rfl, rfl⟩
    go_wp2_with fail
    go_ret
    rw [HE.out]
    exact wend_same H.out (Below.refl _ _)
theorem bytes_none (p : Option Addr) (w : World) (hn : Calls Try.prog 48 #[.pointer p] w fun e w' => e = .returned (.bool true) ∧ w = w') : Calls Try.prog 23 #[.pointer p] w fun e w' => e = .returned (.slice none 0 0) ∧ w = w' := by
  have HN := hid hn
  clear hn
  go_enter Try.func23, Try.ntmps23
  go_wp2_with fail
  refine HN.out.mono ?_
  rintro e w' ⟨rfl, rfl⟩
  go_wp2_with fail
  go_ret
  exact ⟨rfl, rfl⟩
theorem len_none (p : Option Addr) (w : World) (hn : Calls Try.prog 48 #[.pointer p] w fun e w' => e = .returned (.bool true) ∧ w = w') : Calls Try.prog 30 #[.pointer p] w fun e w' => e = .returned (.int .i64 0) ∧ w = w' := by
  have HN := hid hn
  clear hn
  go_enter Try.func30, Try.ntmps30
  go_wp2_with fail
  refine HN.out.mono ?_
  rintro e w' ⟨rfl, rfl⟩
  go_wp2_with fail
  go_ret
  exact ⟨rfl, rfl⟩
end Go.Proofs.Ytkpadhjlopcejaa
