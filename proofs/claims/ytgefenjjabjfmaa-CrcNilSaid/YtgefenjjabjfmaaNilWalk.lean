/-
  CrcNil: sums that are not there answer ErrNil: the walk.
-/
import Derived.Test.YtgefenjjabjfmaaKnown
namespace Go.Proofs.Ytgefenjjabjfmaa
open Go.RowKit Go.Shelf
def NoneAt (w : World) (p : Option Addr) : Prop := Calls Try.prog 25 #[.pointer p] w fun e w' => e = .returned (.bool true) ∧ w = w'
theorem write_none (p : Option Addr) (v : Value) (w : World) (h : NoneAt w p) : Calls Try.prog 16 #[.pointer p, v] w fun e w' => e = .returned (.int .i64 1) ∧ w = w' := by
  go_enter Try.func16, Try.ntmps16
  go_wp2_with fail
  refine Calls.mono h ?_
  rintro e w' ⟨rfl, rfl⟩
  go_wp2
  go_ret
  exact ⟨rfl, rfl⟩
theorem sum_none (p : Option Addr) (w : World) (h : NoneAt w p) : Calls Try.prog 17 #[.pointer p] w fun e w' => e = .returned (.int .u32 0) ∧ w = w' := by
  go_enter Try.func17, Try.ntmps17
  go_wp2_with fail
  refine Calls.mono h ?_
  rintro e w' ⟨rfl, rfl⟩
  go_wp2
  go_ret
  exact ⟨rfl, rfl⟩
theorem len_none (p : Option Addr) (w : World) (h : NoneAt w p) : Calls Try.prog 18 #[.pointer p] w fun e w' => e = .returned (.int .i64 0) ∧ w = w' := by
  go_enter Try.func18, Try.ntmps18
  go_wp2_with fail
  refine Calls.mono h ?_
  rintro e w' ⟨rfl, rfl⟩
  go_wp2
  go_ret
  exact ⟨rfl, rfl⟩
theorem copy_none (p : Option Addr) (w : World) (h : NoneAt w p) : Calls Try.prog 15 #[.pointer p] w fun e w' => e = .returned (.pointer none) ∧ w = w' := by
  go_enter Try.func15, Try.ntmps15
  go_wp2_with fail
  refine Calls.mono h ?_
  rintro e w' ⟨rfl, rfl⟩
  go_wp2
  go_ret
  exact ⟨rfl, rfl⟩
theorem crcNil_walk (a : Option Addr) (len cap : Nat) (w : World) : Calls Try.prog 8 #[.slice a len cap] w fun e w' => e = .returned (.bool true) ∧ Below w.heap.size w w' := by
  by_cases hl : 100 < len
  · go_enter Try.func8, Try.ntmps8
    go_wp2_with fail
    refine (known_any _).mono ?_
    rintro e w' ⟨rfl, hb⟩
    go_wp2
    go_ret
    exact ⟨rfl, hb⟩
  · go_enter Try.func8, Try.ntmps8
    go_wp2_with fail
    have hz : NoneAt (w.alloc (.cells #[.int .i64 0, .pointer none, .int .u32 0] 49)) (some ⟨w.heap.size, 0, none⟩) := none_zero _ _ _ _ (Blk.new w _ _)
    have hn : NoneAt (w.alloc (.cells #[.int .i64 0, .pointer none, .int .u32 0] 49)) none := none_nil _
    have HZ := hid hz
    have HN := hid hn
    clear hz hn
    refine (write_none _ _ _ HN.out).mono ?_
    rintro e w' ⟨rfl, rfl⟩
    go_wp2_with fail
    refine (write_none _ _ _ HZ.out).mono ?_
    rintro e w' ⟨rfl, rfl⟩
    go_wp2_with fail
    refine (sum_none _ _ HN.out).mono ?_
    rintro e w' ⟨rfl, rfl⟩
    go_wp2_with fail
    refine (sum_none _ _ HZ.out).mono ?_
    rintro e w' ⟨rfl, rfl⟩
    go_wp2_with fail
    refine (len_none _ _ HN.out).mono ?_
    rintro e w' ⟨rfl, rfl⟩
    go_wp2_with fail
    refine (len_none _ _ HZ.out).mono ?_
    rintro e w' ⟨rfl, rfl⟩
    go_wp2_with fail
    refine (copy_none _ _ HN.out).mono ?_
    rintro e w' ⟨rfl, rfl⟩
    go_wp2_with fail
    refine (known_any _).mono ?_
    rintro e w' ⟨rfl, hb⟩
    go_wp2
    go_ret
    exact ⟨rfl, ((Below.refl _ _).alloc (Nat.le_refl _) _).trans (hb.mono (by simp))⟩
end Go.Proofs.Ytgefenjjabjfmaa
