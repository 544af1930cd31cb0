/-
  Parse's deferred function: what it does with a panic, and without one.
-/
import Derived.Test.YtkpadhjlopcejaaSCell
import Derived.Defers
import Derived.Recover
namespace Go.Proofs.Ytkpadhjlopcejaa
open Go.RowKit
set_option maxRecDepth 100000 in
set_option maxHeartbeats 2000000 in
theorem catch_idle (p q : Addr) (w : World) : CallsD Try.prog 61 #[.pointer (some p), .pointer (some q)] .returning w fun e u' w' => e = .returned (.tuple #[]) ∧ u' = .returning ∧ w' = w := by
  refine callsD_of_wpS Try.func61 rfl fun c₀ cs hu => ?_
  apply wpS_seq
  apply wpS_region
  simp [wpOpsS, go_sem, recoverD, hu, Try.ntmps61, Exit.thenS]
  refine wpS_of_wp ?_
  go_wp2_with fail
  cases c₀
  simp_all [bodyPostS, results, Try.results61]
def Caught1 (bp bq : Nat) (why : Int) (w w' : World) : Prop := Blk w' bp [.slice none 0 0] ∧ Blk w' bq [.int .i64 why] ∧ Kept (fun k => k < w.heap.size ∧ k ≠ bp ∧ k ≠ bq) w w'
set_option maxRecDepth 100000 in
set_option maxHeartbeats 4000000 in
theorem catch_panic (bp bq : Nat) (why : Int) (v0 v1 : Value) (w : World) (h0 : Blk w bp [v0]) (h1 : Blk w bq [v1]) (hne : bp ≠ bq) :
    CallsD Try.prog 61 #[.pointer (some ⟨bp, 0, none⟩), .pointer (some ⟨bq, 0, none⟩)] (.panicking (stopV why)) w fun e u' w' => e = .returned (.tuple #[]) ∧ u' = .panicking [{ v := .iface 104 (.agg #[.int .i64 why]), recovered := true }] ∧ Caught1 bp bq why w w' := by
  have hta : (Instr.typeAssert (.iface 104 (.agg #[.int .i64 why])) 20 104 true).run Try.prog w = .ok (.tuple #[.agg #[.int .i64 why], .bool true]) w := by kernel_rfl
  refine callsD_of_wpS Try.func61 rfl fun c₀ cs hu => ?_
  apply wpS_seq
  apply wpS_region
  simp [wpOpsS, go_sem, recoverD, hu, stopV, Try.ntmps61, Exit.thenS]
  refine wpS_of_wp ?_
  have e : (#[.pointer (some ⟨bp, 0, none⟩), .pointer (some ⟨bq, 0, none⟩)] ++ (Array.replicate 11 undef).setIfInBounds 3 (.iface 104 (.agg #[.int .i64 why])) : Array Value) =
    #[.pointer (some ⟨bp, 0, none⟩), .pointer (some ⟨bq, 0, none⟩), undef, undef, undef, .iface 104 (.agg #[.int .i64 why]), undef, undef, undef, undef, undef, undef, undef] := rfl
  rw [e]
  clear e
  go_wp2_with fail
  have hb0 := h0.alloc (.cells #[.int .i64 why] 104)
  have hb1 := h1.alloc (.cells #[.int .i64 why] 104)
  have HK := hid (show Kept (fun k => k < w.heap.size) w (w.alloc (.cells #[.int .i64 why] 104)) from Kept.of_below ((Below.refl w.heap.size w).alloc (Nat.le_refl _) _) fun _ h => h)
  have cn := (Blk.new w [.int .i64 why] 104).cell 0
  simp only [List.getElem?_cons_zero] at cn
  have n0 : bp ≠ w.heap.size := by have := h0.lt; omega
  have n1 : bq ≠ w.heap.size := by have := h1.lt; omega
  generalize w.alloc (.cells #[.int .i64 why] 104) = w1 at *
  have c0 := hb0.cell 0
  have c1 := hb1.cell 0
  have f0 := hb0.frozen 0
  have f1 := hb1.frozen 0
  simp only [List.getElem?_cons_zero] at c0 c1
  generalize hC : w.heap.size = C at *
  have HB0 := hid hb0
  have HB1 := hid hb1
  have HC := hid hC
  clear hb0 hb1 h0 h1 hC
  go_region
  have hfin : Caught1 bp bq why w ((w1.setCell ⟨bp, 0, none⟩ (.slice none 0 0)).setCell ⟨bq, 0, none⟩ (.int .i64 why)).drew := by
    refine ⟨(((HB0.out.set 0 _).other hne 0 _)).drew, ((HB1.out.other (Ne.symm hne) 0 _).set 0 _).drew, ?_⟩
    rw [HC.out]
    exact (((HK.out.shrink (ok' := fun k => k < C ∧ k ≠ bp ∧ k ≠ bq) fun k hk => hk.1).setCell (by simp) _).setCell (by simp) _).drew
  have HF := hid hfin
  generalize ((w1.setCell ⟨bp, 0, none⟩ (.slice none 0 0)).setCell ⟨bq, 0, none⟩ (.int .i64 why)).drew = wf at *
  clear hfin c0 c1 f0 f1 cn n0 n1 hta HK HB0 HB1 HC hne
  go_wp2_with fail
  cases c₀
  simp_all [bodyPostS, results, Try.results61]
  exact HF.out
end Go.Proofs.Ytkpadhjlopcejaa
