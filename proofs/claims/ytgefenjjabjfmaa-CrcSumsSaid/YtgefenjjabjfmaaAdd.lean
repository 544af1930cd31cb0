/-
  A sum under way takes the bytes of parts: the walk of add.
-/
import Derived.Test.YtgefenjjabjfmaaEach
import Derived.Test.YtgefenjjabjfmaaRound
namespace Go.Proofs.Ytgefenjjabjfmaa
open Go.RowKit Go.Shelf
attribute [local go_sem] Oper.semAt_some
theorem Kept.drew {ok : Nat → Prop} {a w : World} (h : Kept ok a w) : Kept ok a w.drew := ⟨h.os, h.tape, h.output, h.size, h.block⟩
theorem u8_wrap (n : Nat) : IntKind.u8.wrap (n : Int) = ((n % 256 : Nat) : Int) := by
  simp [IntKind.wrap, IntKind.bits, IntKind.signed]
theorem each_stops (F : Fence) (n : Nat) (h7 : F.fn 27) (hro : F.round = none) (hn : 1 ≤ n) (Bs cap : Nat) (a : Option Addr) (ls : List (List UInt8)) (ok : Nat → Prop) (hreach : ls.length ≤ maxLen) (w : World)
    (hB : Bs < w.heap.size) (hc : w.cell? ⟨Bs, 0, none⟩ = some (.slice a ls.length cap)) (hp : PartsIn ok w a ls) (hok : ∀ k, ok k → k < w.heap.size) :
    SeqStopsK F n Try.prog 27 #[.pointer (some ⟨Bs, 0, none⟩)] (fun x : UInt8 => #[Value.int .u8 (x.toNat : Int)]) (Kept ok) (fun ys => ys = ls.flatten) (fun pre => pre <+: ls.flatten) ls.flatten.length w :=
  fun l J Jx W hW _ _ hY h0 =>
    each1_in F n h7 hro hn l Bs cap a ls ok hreach J Jx hY W ((hW.cell (p := ⟨Bs, 0, none⟩) hB).trans hc) (hp.kept (Kept.of_below hW hok)) h0
theorem each_in (F : Fence) (n : Nat) (h5 : F.fn 26) (hro : F.round = none) (a : Option Addr) (len cap : Nat) (w : World) :
    CallsIn F n Try.prog 26 #[.slice a len cap] w fun e w' => e = .returned (.func (.func 27) #[] #[.pointer (some ⟨w.heap.size, 0, none⟩)]) ∧ w.alloc (.cells #[.slice a len cap] 35) = w' := by
  refine callsIn_of_wp Try.func26 rfl h5 ?_ hro
  simp only [Try.ntmps26, List.size_toArray, List.length_cons, List.length_nil, Nat.reduceAdd, Nat.reduceSub, Array.replicate_succ, Array.replicate_zero, List.push_toArray, List.append_toArray, List.nil_append, List.cons_append]
  gi_wp2
  go_ret
  exact ⟨rfl, rfl⟩
theorem blk_own (A : Nat) (f : List UInt8 → List Value) : Own (fun (pre : List UInt8) W => Blk W A (f pre)) := fun s X Y row hs hg hr => by
  have hlt := hs.lt
  obtain ⟨t, h⟩ := hs
  refine ⟨t, (hg.block A hlt (fun e => ?_)).trans h⟩
  obtain ⟨o, ho, hc⟩ := hr A e.symm
  rw [h] at ho; cases ho; cases hc
theorem kept_ownFrom (ok : Nat → Prop) (w : World) (B : Nat) (hok : ∀ k, ok k → k < B) : OwnFrom B (fun (_ : List UInt8) W => Kept ok w W ∧ B ≤ W.heap.size) := fun s X Y row hs hg hr =>
  ⟨hs.1.trans ⟨hg.os, hg.tape, hg.output, hg.size, fun k hk => hg.block k (by have := hok k hk; have := hs.2; omega) (fun e => by have := (hr k e.symm).1; have := hok k hk; omega)⟩, Nat.le_trans hs.2 hg.size⟩
set_option maxRecDepth 100000 in
set_option maxHeartbeats 1000000 in
theorem add_in (m : Nat) (hm : 3 ≤ m) (A B n s cap : Nat) (a : Option Addr) (ls : List (List UInt8)) (w : World) (hA : Blk w A [.int .i64 n, .pointer (some ⟨B, 0, none⟩), .int .u32 s]) (hB : WordsAt w B) (hBA : B ≠ A) (hs : s < 4294967296)
    (hl : ls.length ≤ maxLen) (hp : PartsIn (fun k => k < w.heap.size ∧ k ≠ A) w a ls) (hn : n + ls.flatten.length < 4611686018427387904) :
    CallsIn Fence.wide m Try.prog 23 #[.pointer (some ⟨A, 0, none⟩), .slice a ls.length cap] w fun e w' => e = .returned (.tuple #[]) ∧ Kept (fun k => k < w.heap.size ∧ k ≠ A) w w' ∧
      Blk w' A [.int .i64 ((n + ls.flatten.length : Nat) : Int), .pointer (some ⟨B, 0, none⟩), .int .u32 ((Crc.run s ls.flatten : Nat) : Int)] := by
  have h1 : 1 ≤ m := by omega
  obtain ⟨F, hF⟩ : ∃ F : Fence, F = Fence.wide := ⟨_, rfl⟩
  have h23 : F.fn 23 := by rw [hF]; trivial
  have h26 : F.fn 26 := by rw [hF]; trivial
  have h27 : F.fn 27 := by rw [hF]; trivial
  have hro : F.round = none := by rw [hF]; rfl
  rw [← hF]
  have HF := hid hF
  clear hF
  refine callsIn_of_wp_marks Try.func23 rfl h23 ?_ hro
  simp only [Try.ntmps23, List.size_toArray, List.length_cons, List.length_nil, Nat.reduceAdd, Nat.reduceSub, Array.replicate_succ, Array.replicate_zero, List.push_toArray, List.append_toArray, List.nil_append, List.cons_append]
  gi_wp2_with (gi_at_call 26; refine (each_in F (m - 1) h26 hro _ _ _ _).mono ?_; rintro e w' ⟨rfl, rfl⟩)
  have HL := hid hl
  have hw0 : Below w.heap.size w ((w.alloc (.cells #[.pointer (some ⟨A, 0, none⟩)] 38)).alloc (.cells #[.slice a ls.length cap] 35)) := ((Below.refl _ w).alloc (Nat.le_refl _) _).alloc (by simp) _
  have hAlt := hA.lt
  have hbox : ((w.alloc (.cells #[.pointer (some ⟨A, 0, none⟩)] 38)).alloc (.cells #[.slice a ls.length cap] 35)).cell? ⟨w.heap.size + 1, 0, none⟩ = some (.slice a ls.length cap) := by
    have := (Blk.new (w.alloc (.cells #[.pointer (some ⟨A, 0, none⟩)] 38)) [.slice a ls.length cap] 35).cell 0
    rw [World.size_alloc] at this
    exact this
  have hbx2 : Blk ((w.alloc (.cells #[.pointer (some ⟨A, 0, none⟩)] 38)).alloc (.cells #[.slice a ls.length cap] 35)) w.heap.size [.pointer (some ⟨A, 0, none⟩)] := (Blk.new w [.pointer (some ⟨A, 0, none⟩)] 38).alloc _
  have hBW : WordsAt ((w.alloc (.cells #[.pointer (some ⟨A, 0, none⟩)] 38)).alloc (.cells #[.slice a ls.length cap] 35)) B := hB.below hw0 hB.1
  refine wpIn_rangeFunc_ownG hro h1 (gf := 27) (lb := #[.pointer (some ⟨w.heap.size + 1, 0, none⟩)]) rfl h27 (enters_of Try.func27 (by kernel_rfl) rfl)
    (each_stops F (m - 1) h27 hro (by omega) (w.heap.size + 1) cap a ls (fun k => k < w.heap.size ∧ k ≠ A) hl _ (by simp) hbox (hp.kept (Kept.of_below hw0 (fun k hk => hk.1))) (fun k hk => by simp; omega)) (fun h k => h.trans k) (keptK_b (fun k hk => by simp; omega)) (Below.refl _ _) (fun _ => rfl)
    (fun pre W => (Blk W w.heap.size [.pointer (some ⟨A, 0, none⟩)] ∧ Blk W A [.int .i64 ((n + pre.length : Nat) : Int), .pointer (some ⟨B, 0, none⟩), .int .u32 ((Crc.run s pre : Nat) : Int)]) ∧ (Kept (fun k => k < w.heap.size ∧ k ≠ A) w W ∧ w.heap.size + 2 ≤ W.heap.size))
    (fun _ _ _ => False)
    (OwnFrom.and (OwnFrom.and (Own.from (blk_own _ (fun _ => _)) _) (Own.from (blk_own _ _) _)) (by have := kept_ownFrom (fun k => k < w.heap.size ∧ k ≠ A) w (w.heap.size + 2) (fun k hk => by omega); simpa using this))
    (fun _ _ _ _ _ hs _ _ => hs)
    ⟨⟨hbx2, (hA.alloc _).alloc _⟩, Kept.of_below hw0 (fun k hk => hk.1), by simp⟩
    (fun x => { tmps := #[.pointer (some ⟨A, 0, none⟩), .slice a ls.length cap, .pointer (some ⟨w.heap.size, 0, none⟩), undef, .int .u8 (x.toNat : Int), .slice a ls.length cap, .func (.func 27) #[] #[.pointer (some ⟨w.heap.size + 1, 0, none⟩)], .int .u8 (x.toNat : Int), undef, undef, undef, undef, undef, undef, undef, undef, undef, undef, undef, undef, undef, undef, undef, undef, undef, undef, undef, undef, undef, undef, undef, undef, undef, undef, undef, undef, undef, undef, undef, undef], defers := [] }) ?assign ?body ?done ?stop
  case assign =>
    intro l x W K hK
    gi_wp2
    exact hK
  case body =>
    rintro l pre x W ⟨⟨hb1, hb2⟩, hk⟩ hlen
    have hW := hB.2
    have hst := Crc.run_lt pre hs
    have hup : Crc.run s (pre ++ [x]) = Crc.word ((Crc.run s pre % 256) ^^^ x.toNat) ^^^ (Crc.run s pre / 256) := by rw [Crc.run_append]; rfl
    have hxl := x.toNat_lt
    generalize Crc.run s pre = st at hb2 hst hup
    generalize hz : x.toNat = z at hxl hup
    have hi := Crc.xor_lt8 (a := st % 256) (b := z) (by omega) (by omega)
    have hwc := (hk.1.cell (p := ⟨B, st % 256 ^^^ z, none⟩) ⟨hB.1, hBA⟩).trans (hW _ hi)
    have hwl := Crc.halves_lt 8 (x := st % 256 ^^^ z) (by omega)
    have c0 := hb1.cell 0
    have c1 := hb2.cell 0
    have c2 := hb2.cell 1
    have c3 := hb2.cell 2
    simp only [List.getElem?_cons_zero, List.getElem?_cons_succ] at c0 c1 c2 c3
    have f0 := hb2.frozen 0
    have f2 := hb2.frozen 2
    have x1 : bits .xor .u8 (IntKind.u8.wrap (st : Int)) (z : Int) = ((st % 256 ^^^ z : Nat) : Int) := by rw [u8_wrap]; exact xor_u8 (st % 256) z (by omega) (by omega)
    have hi2 : ((st % 256 ^^^ z : Nat) : Int) < 256 := by omega
    have x2 : bits .xor .u32 (Crc.word (st % 256 ^^^ z) : Int) ((st : Int) / 256) = ((Crc.word (st % 256 ^^^ z) ^^^ st / 256 : Nat) : Int) := xor_u32 _ (st / 256) hwl (by omega)
    have HUP := hid hup
    have HZ := hid hz
    have HLEN := hid hlen
    have HN := hid hn
    have hnb : ((n + pre.length : Nat) : Int) < 4611686018427387904 := by omega
    clear hup hz hlen hn hW
    have hmx : Try.prog.follows .mixedOrders = true := by kernel_rfl
    gi_wp2
    rw [HF.out]
    refine wpIn_region_still_tail 23 hmx (by kernel_rfl) (by kernel_rfl) ?_
    simp only [List.take_succ_cons, List.take_zero, List.drop_succ_cons, List.drop_zero]
    change wpStill _ _ W.drew _ _ _
    repeat still_step
    refine wpStill_nil ?_
    change wpListIn _ _ _ _ _ _ _ W.drew
    gi_wp2
    have hnA : ¬ (fun k => k < w.heap.size ∧ k ≠ A) A := fun h => h.2 rfl
    refine ⟨(((KeepsOthers.setCell _ _ _).trans (KeepsOthers.setCell _ _ _)).trans (KeepsOthers.drew _)).from _, ?_, ⟨?_, ?_⟩, ?_, ?_⟩
    · exact (((Kept.refl _ W).setCell (p := ⟨A, 2, none⟩) hnA _).setCell (p := ⟨A, 0, none⟩) hnA _).drew
    · exact ((hb1.other (by omega) 2 _).other (by omega) 0 _).drew
    · have := (hb2.set 2 (.int .u32 ((Crc.word (st % 256 ^^^ z) ^^^ st / 256 : Nat) : Int))).set 0 (.int .i64 ((n : Int) + pre.length + 1))
      rw [HUP.out, show ((n + (pre ++ [x]).length : Nat) : Int) = (n : Int) + pre.length + 1 from by simp; omega]
      exact this.drew
    · exact ((hk.1.setCell (p := ⟨A, 2, none⟩) hnA _).setCell (p := ⟨A, 0, none⟩) hnA _).drew
    · simpa using hk.2
  case done =>
    rintro D ys W hD rfl ⟨⟨hb1, hb2⟩, hk⟩ hK
    gi_wp2
    refine ⟨by simp, .inl ⟨_, _, rfl, run_takeDeferred hK, ?_⟩⟩
    have hDl : w.heap.size ≤ D := by simp at hD; omega
    have hDn : A ≠ D := by omega
    refine ⟨_, results_none rfl _ _ _, rfl, hk.1.trans (keptK_b (w := w) (fun k hk => hk.1) W D _ _ hDl hK rfl rfl), ?_⟩
    obtain ⟨t, hb2⟩ := hb2
    exact ⟨t, ((grownBy_putObj' W D (.deferred none)).block A (by omega) (by simp; omega)).trans hb2⟩
  case stop =>
    rintro D c pre W _ _ h _
    exact h.elim
end Go.Proofs.Ytgefenjjabjfmaa
