/-
  The reader of cells: the walks of must, number.
-/
import Derived.Test.YtkpadhjlopcejaaSAll
namespace Go.Proofs.Ytkpadhjlopcejaa
open Go.RowKit
def stopV (why : Int) : List PanicEntry := [{ v := .iface 104 (.agg #[.int .i64 why]), recovered := false }]
theorem must_ok (why : Int) (w : World) : Calls Try.prog 62 #[.bool true, .int .i64 why] w fun e w' => e = .returned (.tuple #[]) ∧ w = w' := by
  go_enter Try.func62, Try.ntmps62
  go_wp2_with fail
  go_end0
  exact ⟨rfl, rfl⟩
theorem must_no (why : Int) (w : World) : Calls Try.prog 62 #[.bool false, .int .i64 why] w fun e w' => e = .panicked (stopV why) ∧ w = w' := by
  go_enter Try.func62, Try.ntmps62
  go_wp2_with fail
  exact ⟨rfl, rfl, rfl⟩
def NumEnd (ok : Nat → Prop) (R : Nat) (x : Option (Int × List UInt8)) (w : World) (e : Ending) (w' : World) : Prop :=
  (match x with | some (n, r) => e = .returned (.int .i64 n) ∧ RdAt ok w' R r | none => e = .panicked (stopV 151)) ∧ Kept (fun q => q < w.heap.size ∧ q ≠ R) w w'
theorem readNum_short {l : List UInt8} {k : Nat} (hk : 1 ≤ k ∧ k ≤ 4) (h : l.length < k) : readNum l k = ((0, 130), l) := by
  unfold readNum; rw [if_pos (by omega), Int.toNat_natCast, if_pos h]
theorem readNum_long {l : List UInt8} {k : Nat} (hk : 1 ≤ k ∧ k ≤ 4) (h : ¬ l.length < k) : readNum l k = ((val (l.take k), 0), l.drop k) := by
  unfold readNum; rw [if_pos (by omega), Int.toNat_natCast, if_neg h]
theorem val_four {l : List UInt8} {k : Nat} (hk : k ≤ 4) : val (l.take k) < 4294967296 := by
  have h := val_lt (l.take k)
  have h2 : (l.take k).length ≤ 4 := by rw [List.length_take]; omega
  exact Nat.lt_of_lt_of_le h (Nat.pow_le_pow_right (by decide) h2)
set_option maxRecDepth 100000 in
set_option maxHeartbeats 2000000 in
theorem rd_number (ok : Nat → Prop) (R : Nat) (l : List UInt8) (k : Nat) (w : World) (hk : 1 ≤ k ∧ k ≤ 4) (h : RdAt ok w R l) :
    Calls Try.prog 63 #[.agg #[.pointer (some ⟨R, 0, none⟩)], .int .i64 (k : Int)] w (NumEnd ok R (readN k l) w) := by
  have hb1 : Below w.heap.size w (w.alloc (.cells #[.pointer (some ⟨R, 0, none⟩)] 107)) := (Below.refl _ _).alloc (Nat.le_refl _) _
  have hblk := (Blk.new w [.pointer (some ⟨R, 0, none⟩)] 107).cell 0
  simp only [List.getElem?_cons_zero] at hblk
  have H1 := hid (h.grows hb1)
  have HB := hid hb1
  have HR := hid h.lt
  by_cases hl : l.length < k
  · have HC := hid (rnumber_calls ok R l k _ H1.out)
    rw [readNum_short hk hl] at HC
    have hn : readN k l = none := by unfold readN; rw [if_pos hl]
    rw [hn]
    clear h hb1 hl hn hk
    go_enter Try.func63, Try.ntmps63
    go_wp2_with fail
    generalize w.alloc (.cells #[.pointer (some ⟨R, 0, none⟩)] 107) = w1 at *
    refine HC.out.mono ?_
    rintro e w2 ⟨rfl, -, k2⟩
    have HK := hid ((Kept.of_below HB.out fun q hq => hq.1).trans (k2.shrink fun q (hq : q < w.heap.size ∧ q ≠ R) => ⟨Nat.lt_of_lt_of_le hq.1 HB.out.size, hq.2⟩))
    clear k2 hblk
    go_wp2_with fail
    refine (must_no 151 _).mono ?_
    rintro e w3 ⟨rfl, rfl⟩
    exact ⟨rfl, rfl, HK.out⟩
  · have HC := hid (rnumber_calls ok R l k _ H1.out)
    rw [readNum_long hk hl] at HC
    have hn : readN k l = some (((val (l.take k) : Nat) : Int), l.drop k) := by unfold readN; rw [if_neg hl]
    rw [hn]
    have hv := val_four (l := l) (k := k) hk.2
    have hw : IntKind.i64.wrap ((val (l.take k) : Nat) : Int) = ((val (l.take k) : Nat) : Int) := IntWalk.i64_in _ (by omega)
    generalize val (l.take k) = n at *
    clear h hb1 hl hn hk hv
    go_enter Try.func63, Try.ntmps63
    go_wp2_with fail
    generalize w.alloc (.cells #[.pointer (some ⟨R, 0, none⟩)] 107) = w1 at *
    refine HC.out.mono ?_
    rintro e w2 ⟨rfl, r2, k2⟩
    have HK := hid ((Kept.of_below HB.out fun q hq => hq.1).trans (k2.shrink fun q (hq : q < w.heap.size ∧ q ≠ R) => ⟨Nat.lt_of_lt_of_le hq.1 HB.out.size, hq.2⟩))
    have HR2 := hid r2
    clear k2 hblk r2
    go_wp2_with fail
    refine (must_ok 151 _).mono ?_
    rintro e w3 ⟨rfl, rfl⟩
    go_wp2_with fail
    go_ret
    exact ⟨⟨rfl, HR2.out⟩, HK.out⟩
end Go.Proofs.Ytkpadhjlopcejaa
