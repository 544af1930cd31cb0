/-
  InboxPlay: its walk.
-/
import Derived.Test.YtnhcikbglcaboaaDoorDoes
import Derived.ProofKit
import Derived.OpenShut
import Derived.Deep.SlicePairs
namespace Go.Proofs.YtnhcikbglcaboaaDoor
open Go.RowKit Go.Shelf
/-- calls, in blocks of which 'ok' speaks -/
def ActsIn (ok : Nat → Prop) (w : World) (a : Option Addr) (xs : List (Int × Int)) : Prop :=
  ∀ i (h : i < xs.length), ∃ b off, a = some ⟨b, off, none⟩ ∧ ok b ∧ w.cell? ⟨b, off + i * 2, none⟩ = some (.int .i64 xs[i].1) ∧ w.cell? ⟨b, off + i * 2 + 1, none⟩ = some (.int .i64 xs[i].2)
def actAll (most : Int) (xs : List (Int × Int)) : List Nat := xs.foldl (fun l x => act l most x.1 x.2) []
theorem actAll_up (most : Int) (xs : List (Int × Int)) (k : Nat) (h : k < xs.length) : actAll most (xs.take (k + 1)) = act (actAll most (xs.take k)) most xs[k].1 xs[k].2 := by
  rw [take_snoc xs k h]
  unfold actAll
  rw [List.foldl_append]
  rfl
theorem play_out (most id : Int) (a : Option Addr) (len cap : Nat) (w : World) (hT : TabAt w) (h : 60 < len) : Calls Tryd.prog 3 #[.int .i64 most, .slice a len cap, .int .i64 id] w fun e w' => e = .returned (.bool true) ∧ Below w.heap.size w w' := by
  have HK := hid (known_calls w hT)
  have h' : (60 : Int) < (len : Int) := by omega
  go_enter Tryd.func3, Tryd.ntmps3
  go_wp2_with (refine HK.out.mono ?_; rintro e w' ⟨rfl, hB⟩)
  go_ret
  exact ⟨rfl, hB⟩
theorem play_bad (most id : Int) (a : Option Addr) (len cap : Nat) (w : World) (hT : TabAt w) (h : ¬ 60 < len) (hm : ¬ (1 ≤ most ∧ most ≤ 1000)) : Calls Tryd.prog 3 #[.int .i64 most, .slice a len cap, .int .i64 id] w fun e w' => e = .returned (.bool true) ∧ Below w.heap.size w w' := by
  have HK := hid (known_calls w hT)
  have HN := hid (new_bad most w hm)
  have h' : ¬ (60 : Int) < (len : Int) := by omega
  by_cases h1 : most < 1
  · clear hm
    go_enter Tryd.func3, Tryd.ntmps3
    go_wp2_with fail
    refine HN.out.mono ?_
    rintro e w' ⟨rfl, rfl⟩
    go_wp2_with (refine HK.out.mono ?_; rintro e w' ⟨rfl, hB⟩)
    go_ret
    exact ⟨rfl, hB⟩
  · have h2 : most > 1000 := by omega
    clear hm
    go_enter Tryd.func3, Tryd.ntmps3
    go_wp2_with fail
    refine HN.out.mono ?_
    rintro e w' ⟨rfl, rfl⟩
    go_wp2_with (refine HK.out.mono ?_; rintro e w' ⟨rfl, hB⟩)
    go_ret
    exact ⟨rfl, hB⟩
theorem cast_len (l : List Nat) : (l.map fun x : Nat => (x : Int)).length = l.length := List.length_map _
set_option maxRecDepth 100000 in
set_option maxHeartbeats 4000000 in
theorem play_in (most id : Int) (a : Option Addr) (cap : Nat) (xs : List (Int × Int)) (w : World) (hT : TabAt w) (h6 : xs.length ≤ 60) (hm : 1 ≤ most ∧ most ≤ 1000) (hl : ActsIn (fun k => k < w.heap.size) w a xs) :
    Calls Tryd.prog 3 #[.int .i64 most, .slice a xs.length cap, .int .i64 id] w fun e w' => e = .returned (.bool true) ∧ Below w.heap.size w w' := by
  have h0 := hT.1
  generalize hL : xs.length = L
  have HL := hid hL
  have hL6 : L ≤ 60 := by omega
  have hL6' : ¬ (60 : Int) < (L : Int) := by omega
  have g1 : ¬ most < 1 := by omega
  have g2 : ¬ most > 1000 := by omega
  clear hL h6
  go_enter Tryd.func3, Tryd.ntmps3
  go_wp2_with fail
  refine (new_calls' most w w w.heap.size h0 (Below.refl _ _) (Nat.le_refl _) hT hm).mono ?_
  rintro e w1 ⟨A, S, rfl, s1, hb1, hA, hS⟩
  go_wp2_with fail
  go_loopw [9, 10, 11, 12] (fun g i _ _ wr => ∃ k : Nat, k ≤ L ∧ i = .int .i64 (k : Int) ∧ St w.heap.size w wr A S most (actAll most (xs.take k)) ∧ ListIn (fun b => b < wr.heap.size ∧ b ≠ S) wr g ((actAll most (xs.take k)).map fun x : Nat => (x : Int))) (fun _ i _ _ _ => L - (intOf i).toNat)
  case atStart => exact ⟨0, by omega, rfl, s1, ListIn.nil _ _⟩
  case round =>
    obtain ⟨k, hk, rfl, hst, hg⟩ := hrel
    by_cases hlt : k < L
    · have hkl : k < xs.length := by rw [HL.out]; exact hlt
      obtain ⟨b0, off0, rfl, ho0, hd0, hd1⟩ := hl k hkl
      have hc0 := hst.below.cell (p := ⟨b0, off0 + k * 2, none⟩) ho0
      have hc1 := hst.below.cell (p := ⟨b0, off0 + k * 2 + 1, none⟩) ho0
      rw [hd0] at hc0
      rw [hd1] at hc1
      have hup := actAll_up most xs k hkl
      generalize xs[k].1 = x at hc0 hup
      generalize xs[k].2 = y at hc1 hup
      have HUP := hid hup
      have i0 : (k : Int) < (L : Int) := by omega
      have HST := hid hst
      have HG := hid hg
      clear hup hd0 hd1 hst hg
      go_wp2_with fail
      refine (does_calls x y u9 _ HST.out HG.out (fun k hk => hk)).mono ?_
      rintro e w2 ⟨v2, rfl, s2, l2, k2⟩
      rw [← HUP.out] at s2 l2
      have hsrt := s2.sorted
      have l2' : ListIn (fun b => b < w2.heap.size ∧ b ≠ S) w2 v2 ((actAll most (xs.take (k + 1))).map fun x : Nat => (x : Int)) := l2.mono fun b hb => by
        have := k2.size
        have := HST.out.lt
        rcases hb with hb | hb
        · exact ⟨by omega, hb.2⟩
        · exact ⟨by omega, by omega⟩
      obtain ⟨a2, c2, rfl, i2, r2⟩ := l2'
      rw [cast_len] at r2 ⊢
      have S2 := hid s2
      have I2 := hid i2
      have R2 := hid r2
      have HSRT := hid hsrt
      clear s2 l2 k2 hsrt i2 r2
      go_wp2_with fail
      refine (all_calls' S2.out).mono ?_
      rintro e w3 ⟨a3, c3, rfl, i3, -, -, -, s3, b3⟩
      have hz := b3.size
      have hsame := same_calls a3 a2 c3 c2 _ _ (fun b => b < w3.heap.size) w3 (i3.mono fun b hb => hb.2) ((I2.out.kept (Kept.of_below b3 fun b hb => hb.1)).mono fun b hb => by have := hb.1; omega) (by rw [cast_len]; have := HSRT.out.2.2; omega) (by rw [cast_len]; have := HSRT.out.2.2; omega)
      rw [cast_len, decide_eq_true rfl] at hsame
      have S3 := hid s3
      have B3 := hid b3
      have HSAME := hid hsame
      generalize hN : (actAll most (xs.take (k + 1))).length = N
      rw [hN] at HSAME
      have HN := hid hN
      clear i3 s3 b3 hz hsame hN
      go_wp2_with fail
      refine HSAME.out.mono ?_
      rintro e w4 ⟨rfl, m, rfl⟩
      have S4 := hid (S3.out.kept (Kept.drewN (fun _ => True) w3 m) trivial trivial (fun _ _ => trivial))
      go_wp2_with fail
      refine (len_calls' S4.out).mono ?_
      rintro e w5 ⟨rfl, s5, b5⟩
      rw [HN.out]
      have S5 := hid s5
      have B5 := hid b5
      clear s5 b5
      go_wp2_with fail
      go_roundw
      case rel =>
        refine ⟨k + 1, hlt, by go_num, S5.out, a2, c2, by rw [cast_len, HN.out], ?_, by rw [cast_len]; exact R2.out⟩
        have h2 := B3.out.size
        have h3 : w3.heap.size ≤ w5.heap.size := B5.out.size
        have := I2.out.kept (w' := w5) ((Kept.of_below B3.out fun b hb => hb.1).trans ((Kept.drewN _ w3 m).trans (Kept.of_below B5.out fun b hb => by have := hb.1; show b < w3.heap.size; omega)))
        exact this.mono fun b hb => ⟨by have := hb.1; omega, hb.2⟩
      case measure => simp [intOf]; omega
    · have hkL : k = L := by omega
      have htk : xs.take k = xs := List.take_of_length_le (by rw [HL.out]; omega)
      rw [htk] at hst hg
      have hsrt := hst.sorted
      obtain ⟨a2, c2, rfl, i2, r2⟩ := hg
      have hf := find_calls a2 c2 _ id _ _ i2 (by rw [cast_len]; have := hsrt.2.2; omega) (cast_sorted hsrt.1)
      have hin : decide (id ∈ (actAll most xs).map fun x : Nat => (x : Int)) = has (actAll most xs) id := by
        unfold has
        rw [decide_eq_decide]
        exact in_cast hsrt.2.1 id
      rw [hin, cast_len] at hf
      rw [cast_len]
      generalize (actAll most xs).length = N at hf ⊢
      have HF := hid hf
      have HST := hid hst
      have i0 : ¬ ((k : Int) < (L : Int)) := by omega
      clear htk hsrt hf hin hst i2 r2 hl
      go_wp2_with fail
      refine HF.out.mono ?_
      rintro e w2 ⟨rfl, m, rfl⟩
      have S2 := hid (HST.out.kept (Kept.drewN (fun _ => True) wr m) trivial trivial (fun _ _ => trivial))
      go_wp2_with fail
      refine (has_calls' id S2.out).mono ?_
      rintro e w3 ⟨rfl, m3, rfl⟩
      have S3 := hid (HST.out.kept (Kept.drewN (fun _ => True) wr (m + m3)) trivial trivial (fun _ _ => trivial))
      go_wp2_with fail
      refine (known_after S3.out).mono ?_
      rintro e w4 ⟨rfl, hB⟩
      go_wp2_with fail
      go_ret
      exact ⟨rfl, hB⟩
open Go.ChangeShapes Go.WideShapes Go.ChangeAt
/-- what the shell tells of a slice of calls -/
theorem acts_of {H : Type} (enc : TypeId × Value → H) (W : World) (base : Nat) (v : Value) (d : DataW H) (p : List MemPlace) (o : Value.okWide Tryd.prog W .any base 22 v)
    (h : DataW.Trod enc Tryd.prog W 0 (fun _ => true) true 22 v d p) : ∃ (a : Option Addr) (cap : Nat) (xs : List (Int × Int)), v = .slice a xs.length cap ∧ ActsIn (fun k => k < W.heap.size) W a xs := by
  obtain ⟨a0, len0, cap0, rfl⟩ := okWide_slice Tryd.underlying22 o
  obtain ⟨fuel, hf⟩ := h
  rcases Go.Deep.open_slice_pairs Tryd.underlying22 Tryd.underlying32 (by kernel_rfl) rfl rfl (by kernel_rfl) (by kernel_rfl) hf with ⟨hcs, _⟩ | ⟨x, l, c, m, n, V0, V1, D0, D1, P0, P1, hcs, _, hl, hm, hmm, _, hi⟩
  · simp [Value.cells] at hcs
    obtain ⟨rfl, rfl, rfl⟩ := hcs
    exact ⟨none, 0, [], rfl, fun i h => absurd h (Nat.not_lt_zero _)⟩
  · simp [Value.cells] at hcs
    obtain ⟨rfl, rfl, rfl⟩ := hcs
    have hm' : m = cap0 := by simpa using hmm
    have each : ∀ i, i < len0 → ∃ q : Int × Int, W.cell? (x.add (i * 2)) = some (.int .i64 q.1) ∧ W.cell? (x.add (i * 2 + 1)) = some (.int .i64 q.2) := by
      intro i hi'
      obtain ⟨h1, h2, h3, h4⟩ := hi i (by omega)
      obtain ⟨n1, e1, _⟩ := DataW.trod_int Tryd.underlying3 h3
      obtain ⟨n2, e2, _⟩ := DataW.trod_int Tryd.underlying2 h4
      have e1' : V0 i = .int .i64 n1 := by simpa using e1
      have e2' : V1 i = .int .i64 n2 := by simpa using e2
      exact ⟨(n1, n2), by rw [h1, e1'], by rw [h2, e2']⟩
    obtain ⟨q, hq⟩ := Go.Deep.choose_lt each
    refine ⟨some x, cap0, (List.range len0).map q, by simp, fun i hil => ?_⟩
    have hi' : i < len0 := by simpa using hil
    obtain ⟨h1, h2⟩ := hq i hi'
    obtain ⟨b, off, spot⟩ := x
    have hspot : spot = none := by
      have := World.cell?_spot (hq 0 (by omega)).1
      simpa [Addr.add] using this
    subst hspot
    rw [addr_add] at h1 h2
    refine ⟨b, off, rfl, cell_lt h1, ?_, ?_⟩
    · rw [h1]; simp
    · rw [show off + i * 2 + 1 = off + (i * 2 + 1) from by omega, h2]; simp
theorem inboxPlay_open {H : Type} (enc : TypeId × Value → H) (W : World) (base : Nat) (v0 v1 v2 : Value) (d0 d1 d2 : DataW H) (p0 p1 p2 : List MemPlace) (o0 : Value.okWide Tryd.prog W .any base 3 v0) (o1 : Value.okWide Tryd.prog W .any base 22 v1) (o2 : Value.okWide Tryd.prog W .any base 2 v2)
    (h0 : DataW.Trod enc Tryd.prog W 0 (fun _ => true) true 3 v0 d0 p0) (h1 : DataW.Trod enc Tryd.prog W 0 (fun _ => true) true 22 v1 d1 p1) (h2 : DataW.Trod enc Tryd.prog W 0 (fun _ => true) true 2 v2 d2 p2) (hT : TabAt W) :
    Calls Tryd.prog 3 #[v0, v1, v2] W fun e w' => e = .returned (.bool true) ∧ Below W.heap.size W w' := by
  obtain ⟨a, rfl, -⟩ := open_int Tryd.underlying3 o0 h0
  obtain ⟨b, rfl, -⟩ := open_int Tryd.underlying2 o2 h2
  obtain ⟨ad, cap, xs, rfl, hx⟩ := acts_of enc W base v1 d1 p1 o1 h1
  by_cases hl : 60 < xs.length
  · exact play_out a b ad _ cap W hT hl
  · by_cases hm : 1 ≤ a ∧ a ≤ 1000
    · exact play_in a b ad cap xs W hT (by omega) hm hx
    · exact play_bad a b ad _ cap W hT hl hm
end Go.Proofs.YtnhcikbglcaboaaDoor
