/-
  The walks of a sum under way's methods, and of Sum.
-/
import Derived.Test.YtgefenjjabjfmaaAdd
namespace Go.Proofs.Ytgefenjjabjfmaa
open Go.RowKit Go.Shelf
theorem none_no (A B : Nat) (n s : Value) (w : World) (hA : Blk w A [n, .pointer (some ⟨B, 0, none⟩), s]) :
    Calls Try.prog 25 #[.pointer (some ⟨A, 0, none⟩)] w fun e w' => e = .returned (.bool false) ∧ w = w' := by
  have c1 := hA.cell 1
  simp only [List.getElem?_cons_zero, List.getElem?_cons_succ] at c1
  go_enter Try.func25, Try.ntmps25
  go_wp2
  go_ret
  exact ⟨rfl, rfl⟩
theorem none_nil (w : World) : Calls Try.prog 25 #[.pointer none] w fun e w' => e = .returned (.bool true) ∧ w = w' := by
  go_enter Try.func25, Try.ntmps25
  go_wp2
  go_ret
  exact ⟨rfl, rfl⟩
theorem none_zero (A : Nat) (n s : Value) (w : World) (hA : Blk w A [n, .pointer none, s]) :
    Calls Try.prog 25 #[.pointer (some ⟨A, 0, none⟩)] w fun e w' => e = .returned (.bool true) ∧ w = w' := by
  have c1 := hA.cell 1
  simp only [List.getElem?_cons_zero, List.getElem?_cons_succ] at c1
  go_enter Try.func25, Try.ntmps25
  go_wp2
  go_ret
  exact ⟨rfl, rfl⟩
theorem sumM_any (A B n s : Nat) (w : World) (hs : s < 4294967296) (hA : Blk w A [.int .i64 n, .pointer (some ⟨B, 0, none⟩), .int .u32 s]) :
    Calls Try.prog 17 #[.pointer (some ⟨A, 0, none⟩)] w fun e w' => e = .returned (.int .u32 ((s ^^^ Crc.ones : Nat) : Int)) ∧ w = w' := by
  have c2 := hA.cell 2
  simp only [List.getElem?_cons_zero, List.getElem?_cons_succ] at c2
  go_enter Try.func17, Try.ntmps17
  go_wp2_with (go_at_call 25; refine (none_no A B _ _ _ hA).mono ?_; rintro e w' ⟨rfl, rfl⟩)
  go_ret
  refine ⟨ret_int ?_, rfl⟩
  have := xor_u32 Crc.ones s (by decide) hs
  rw [Nat.xor_comm s]
  exact this
theorem lenM_any (A B n s : Nat) (w : World) (hA : Blk w A [.int .i64 n, .pointer (some ⟨B, 0, none⟩), .int .u32 s]) :
    Calls Try.prog 18 #[.pointer (some ⟨A, 0, none⟩)] w fun e w' => e = .returned (.int .i64 n) ∧ w = w' := by
  have c2 := hA.cell 0
  simp only [List.getElem?_cons_zero] at c2
  go_enter Try.func18, Try.ntmps18
  go_wp2_with (go_at_call 25; refine (none_no A B _ _ _ hA).mono ?_; rintro e w' ⟨rfl, rfl⟩)
  go_ret
  exact ⟨rfl, rfl⟩
theorem copyM_any (A B n s : Nat) (w : World) (hA : Blk w A [.int .i64 n, .pointer (some ⟨B, 0, none⟩), .int .u32 s]) :
    Calls Try.prog 15 #[.pointer (some ⟨A, 0, none⟩)] w fun e w' => e = .returned (.pointer (some ⟨w.heap.size, 0, none⟩)) ∧ Below w.heap.size w w' ∧ Blk w' w.heap.size [.int .i64 n, .pointer (some ⟨B, 0, none⟩), .int .u32 s] ∧ w'.heap.size = w.heap.size + 1 := by
  have c0 := hA.cell 0
  have c1 := hA.cell 1
  have c2 := hA.cell 2
  simp only [List.getElem?_cons_zero, List.getElem?_cons_succ] at c0 c1 c2
  go_enter Try.func15, Try.ntmps15
  go_wp2_with (go_at_call 25; refine (none_no A B _ _ _ hA).mono ?_; rintro e w' ⟨rfl, rfl⟩)
  go_ret
  exact ⟨rfl, (Below.refl _ _).alloc (Nat.le_refl _) _, Blk.new w _ _, by simp⟩
theorem BytesIn.one {ok : Nat → Prop} {w : World} {a : Option Addr} {l : List UInt8} (cap b : Nat) (h : BytesIn ok w a l) (hb : ok b) (hl : l.length ≤ maxLen) (hc : w.cell? ⟨b, 0, none⟩ = some (.slice a l.length cap)) :
    PartsIn ok w (some ⟨b, 0, none⟩) [l] := by
  intro i hi
  obtain rfl : i = 0 := by simpa using hi
  exact ⟨b, 0, a, cap, rfl, hb, by simpa using hc, h, hl⟩
theorem writeM_any (A B n s cap : Nat) (a : Option Addr) (l : List UInt8) (w : World) (hA : Blk w A [.int .i64 n, .pointer (some ⟨B, 0, none⟩), .int .u32 s]) (hB : WordsAt w B) (hBA : B ≠ A) (hs : s < 4294967296)
    (hl : l.length ≤ maxLen) (hp : BytesIn (fun k => k < w.heap.size ∧ k ≠ A) w a l) (hn : n + l.length < 4611686018427387904) :
    Calls Try.prog 16 #[.pointer (some ⟨A, 0, none⟩), .slice a l.length cap] w fun e w' => e = .returned (.int .i64 0) ∧ Kept (fun k => k < w.heap.size ∧ k ≠ A) w w' ∧
      Blk w' A [.int .i64 ((n + l.length : Nat) : Int), .pointer (some ⟨B, 0, none⟩), .int .u32 ((Crc.run s l : Nat) : Int)] := by
  have hAlt := hA.lt
  go_enter Try.func16, Try.ntmps16
  go_wp2_with (go_at_call 25; refine (none_no A B _ _ _ hA).mono ?_; rintro e w' ⟨rfl, rfl⟩)
  have hb1 : Below w.heap.size w (w.alloc (.cells #[.slice a l.length cap] 22)) := (Below.refl _ _).alloc (Nat.le_refl _) _
  have hk : Kept (fun k => k < w.heap.size ∧ k ≠ A) w (w.alloc (.cells #[.slice a l.length cap] 22)) := Kept.of_below hb1 (fun k hk => hk.1)
  have hcl := (Blk.new w [.slice a l.length cap] 22).cell 0
  have hp1 : PartsIn (fun k => k < (w.alloc (.cells #[.slice a l.length cap] 22)).heap.size ∧ k ≠ A) (w.alloc (.cells #[.slice a l.length cap] 22)) (some ⟨w.heap.size, 0, none⟩) [l] := by
    refine BytesIn.one cap _ ?_ ⟨by simp, by omega⟩ hl hcl
    intro i hi
    obtain ⟨b, off, e, ho, hc⟩ := (hp.kept hk) i hi
    exact ⟨b, off, e, ⟨by simp; omega, ho.2⟩, hc⟩
  have hadd := callsIn_wide.1 (add_in 3 (by omega) A B n s 1 _ [l] _ (hA.alloc _) (hB.below hb1 hB.1) hBA hs (by simp [maxLen]) hp1 (by simpa using hn))
  refine hadd.mono ?_
  rintro e w' ⟨rfl, hk2, hA2⟩
  go_wp2
  go_ret
  refine ⟨rfl, hk.trans ⟨hk2.os, hk2.tape, hk2.output, hk2.size, fun k hk => hk2.block k ⟨by simp; omega, hk.2⟩⟩, ?_⟩
  simpa using hA2
theorem sumF_any (cap : Nat) (a : Option Addr) (ls : List (List UInt8)) (w : World) (hl : ls.length ≤ maxLen) (hp : PartsIn (fun k => k < w.heap.size) w a ls) (hn : ls.flatten.length < 4611686018427387904) :
    Calls Try.prog 12 #[.slice a ls.length cap] w fun e w' => e = .returned (.int .u32 ((Crc.sum ls.flatten : Nat) : Int)) ∧ Below w.heap.size w w' := by
  go_enter Try.func12, Try.ntmps12
  go_wp2_with fail
  refine (new_any w).mono ?_
  rintro e w1 ⟨rfl, hb1, hw1, hz1, hA1⟩
  have HZ := hid hz1
  go_wp2_with fail
  have hp1 : PartsIn (fun k => k < w1.heap.size ∧ k ≠ w.heap.size + 1) w1 a ls := by
    have := hp.kept (Kept.of_below hb1 (fun k hk => hk))
    intro i hi
    obtain ⟨b, off, c, cap', e, ho, hc, hb, hm⟩ := this i hi
    refine ⟨b, off, c, cap', e, by omega, hc, ?_, hm⟩
    intro j hj
    obtain ⟨b2, off2, e2, ho2, hc2⟩ := hb j hj
    exact ⟨b2, off2, e2, by omega, hc2⟩
  have hadd := callsIn_wide.1 (add_in 3 (by omega) (w.heap.size + 1) w.heap.size 0 4294967295 cap a ls w1 hA1 hw1 (by omega) (by omega) hl hp1 (by omega))
  refine hadd.mono ?_
  rintro e w2 ⟨rfl, hk2, hA2⟩
  go_wp2_with fail
  refine (sumM_any _ _ _ _ _ (Crc.run_lt _ (by omega)) hA2).mono ?_
  rintro e w3 ⟨rfl, rfl⟩
  go_wp2
  go_ret
  refine ⟨rfl, hb1.trans ⟨hk2.os, hk2.tape, hk2.output, hk2.size, fun k hk => hk2.block k ⟨by omega, by omega⟩⟩⟩
end Go.Proofs.Ytgefenjjabjfmaa
