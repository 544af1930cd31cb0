/-
  InboxCopies: its walk.
-/
import Derived.Test.YtnhcikbglcaboaaDoorPlayWalk
import Derived.Test.YtnhcikbglcaboaaDoorOrderWalk
namespace Go.Proofs.YtnhcikbglcaboaaDoor
open Go.RowKit Go.Shelf
theorem copies_out (most : Int) (a b : Option Addr) (la ca lb cb : Nat) (q : Int) (hq : IntKind.i64.wrap ((la : Int) + (lb : Int)) = q) (w : World) (hT : TabAt w) (h : 60 < q ∨ most < 1 ∨ 1000 < most) : Calls Tryd.prog 7 #[.int .i64 most, .slice a la ca, .slice b lb cb] w fun e w' => e = .returned (.bool true) ∧ Below w.heap.size w w' := by
  have HK := hid (known_calls w hT)
  by_cases h1 : 60 < q
  · clear h
    go_enter Tryd.func7, Tryd.ntmps7
    go_wp2_with (refine HK.out.mono ?_; rintro e w' ⟨rfl, hB⟩)
    go_ret
    exact ⟨rfl, hB⟩
  · by_cases h2 : most < 1
    · clear h
      go_enter Tryd.func7, Tryd.ntmps7
      go_wp2_with (refine HK.out.mono ?_; rintro e w' ⟨rfl, hB⟩)
      go_ret
      exact ⟨rfl, hB⟩
    · have h3 : 1000 < most := by omega
      clear h
      go_enter Tryd.func7, Tryd.ntmps7
      go_wp2_with (refine HK.out.mono ?_; rintro e w' ⟨rfl, hB⟩)
      go_ret
      exact ⟨rfl, hB⟩
/-- two inboxes side by side, and a list for each -/
structure Side (B : Nat) (w0 w : World) (A S A2 S2 : Nat) (most : Int) (v v2 : Value) (l l2 : List Nat) : Prop where
  one : St B w0 w A S most l
  two : St B w0 w A2 S2 most l2
  apart : S ≠ A2 ∧ S ≠ S2 ∧ S2 ≠ A
  g : ListIn (fun b => b < w.heap.size ∧ b ≠ S ∧ b ≠ S2) w v (l.map fun x : Nat => (x : Int))
  o : ListIn (fun b => b < w.heap.size ∧ b ≠ S ∧ b ≠ S2) w v2 (l2.map fun x : Nat => (x : Int))
theorem Side.grows {B A S A2 S2 : Nat} {w0 w w' : World} {most : Int} {v v2 : Value} {l l2 : List Nat} (h : Side B w0 w A S A2 S2 most v v2 l l2) (hb : Below w.heap.size w w') : Side B w0 w' A S A2 S2 most v v2 l l2 :=
  ⟨h.one.grows hb, h.two.grows hb, h.apart, (h.g.kept (Kept.of_below hb fun _ h => h.1)).mono fun _ h => ⟨Nat.lt_of_lt_of_le h.1 hb.size, h.2⟩, (h.o.kept (Kept.of_below hb fun _ h => h.1)).mono fun _ h => ⟨Nat.lt_of_lt_of_le h.1 hb.size, h.2⟩⟩
theorem Side.drewN {B A S A2 S2 : Nat} {w0 w : World} {most : Int} {v v2 : Value} {l l2 : List Nat} (h : Side B w0 w A S A2 S2 most v v2 l l2) (m : Nat) : Side B w0 (World.drewN w m) A S A2 S2 most v v2 l l2 :=
  h.grows ⟨rfl, rfl, rfl, Nat.le_refl _, fun _ _ => rfl⟩
theorem Side.does {B A S A2 S2 : Nat} {w0 w : World} {most : Int} {v v2 : Value} {l l2 : List Nat} (h : Side B w0 w A S A2 S2 most v v2 l l2) (kind id : Int) : Calls Tryd.prog 11 #[.pointer (some ⟨A2, 0, none⟩), v2, .int .i64 most, .agg #[.int .i64 kind, .int .i64 id]] w fun e w' =>
    ∃ v', e = .returned (.tuple #[v', .bool true]) ∧ Side B w0 w' A S A2 S2 most v v' l (act l2 most kind id) := by
  refine (does_calls kind id v2 _ h.two h.o (fun k hk => ⟨hk.1, hk.2.2⟩)).mono ?_
  rintro e w' ⟨v', rfl, h1, h2, h3⟩
  have hz := h3.size
  have hlt := h.one.lt
  have hlt2 := h.two.lt
  have hlo := h.one.low
  have hlo2 := h.two.low
  have hap := h.apart
  refine ⟨v', rfl, h.one.kept h3 ⟨hlt.1, by omega⟩ ⟨hlt.2.1, by omega⟩ (fun b hb => ⟨by omega, by omega⟩), h1, hap, (h.g.kept ⟨h3.os, h3.tape, h3.output, h3.size, fun b hb => h3.block b ⟨hb.1, hb.2.2⟩⟩).mono fun b hb => ⟨by omega, hb.2⟩, h2.mono fun b hb => ?_⟩
  rcases hb with hb | hb
  · exact ⟨by omega, hb.2⟩
  · exact ⟨hb.2, by omega, by omega⟩
def actFrom (most : Int) (l : List Nat) (xs : List (Int × Int)) : List Nat := xs.foldl (fun l x => act l most x.1 x.2) l
theorem actFrom_up (most : Int) (l : List Nat) (xs : List (Int × Int)) (k : Nat) (h : k < xs.length) : actFrom most l (xs.take (k + 1)) = act (actFrom most l (xs.take k)) most xs[k].1 xs[k].2 := by
  rw [take_snoc xs k h]
  unfold actFrom
  rw [List.foldl_append]
  rfl
theorem map_cast_inj {l l2 : List Nat} : (l.map fun x : Nat => (x : Int)) = (l2.map fun x : Nat => (x : Int)) ↔ l = l2 :=
  ⟨fun h => by
    have e : ∀ l : List Nat, (l.map fun x : Nat => (x : Int)).map Int.toNat = l := fun l => by
      rw [List.map_map]
      exact (List.map_congr_left (g := id) fun x _ => by simp).trans (List.map_id l)
    rw [← e l, h, e l2], fun h => by rw [h]⟩
theorem Side.later {B A S A2 S2 : Nat} {w0 w w' : World} {most : Int} {v v2 : Value} {l l2 : List Nat} (h : Side B w0 w A S A2 S2 most v v2 l l2) (hd : ∃ m, w' = World.drewN w m) : Side B w0 w' A S A2 S2 most v v2 l l2 := by
  obtain ⟨m, rfl⟩ := hd
  exact h.drewN m
theorem St.later {B A S : Nat} {w0 w w' : World} {most : Int} {l : List Nat} (h : St B w0 w A S most l) (hd : ∃ m, w' = World.drewN w m) : St B w0 w' A S most l := by
  obtain ⟨m, rfl⟩ := hd
  exact h.kept (Kept.drewN (fun _ => True) w m) trivial trivial (fun _ _ => trivial)
theorem ListIn.at {ok : Nat → Prop} {w : World} {a : Option Addr} {N c : Nat} {l : List Int} (h : ListIn ok w (.slice a N c) l) : IntsIn ok w a l := by
  obtain ⟨a', c', e, h1, _⟩ := h
  cases e
  exact h1
/-- All of an inbox, held against a list -/
theorem all_same {B A S : Nat} {w0 w w' : World} {most : Int} {l : List Nat} {a a2 : Option Addr} {c c2 N : Nat} (hs : St B w0 w A S most l) (hN : l.length = N) (hi : IntsIn (fun k => w.heap.size ≤ k ∧ k < w'.heap.size) w' a (l.map fun x : Nat => (x : Int))) (hb : Below w.heap.size w w')
    (hg : IntsIn (fun k => k < w.heap.size) w a2 (l.map fun x : Nat => (x : Int))) : Calls Tryd.prog 12 #[.slice a N c, .slice a2 N c2] w' fun e w'' => e = .returned (.bool true) ∧ ∃ m, w'' = World.drewN w' m := by
  have hz := hb.size
  have hl := hs.sorted.2.2
  have := same_calls a a2 c c2 _ _ (fun b => b < w'.heap.size) w' (hi.mono fun b hb => hb.2) ((hg.kept (Kept.of_below hb fun b hb => hb)).mono fun b hb => by have := hb; omega) (by rw [cast_len]; omega) (by rw [cast_len]; omega)
  rw [cast_len, decide_eq_true rfl, hN] at this
  exact this
set_option maxRecDepth 100000 in
set_option maxHeartbeats 1000000 in
theorem copies_in (most : Int) (a b : Option Addr) (ca cb : Nat) (xs ys : List (Int × Int)) (q : Int) (hq : IntKind.i64.wrap ((xs.length : Int) + (ys.length : Int)) = q) (w : World) (hT : TabAt w) (h1 : ¬ 60 < q) (hm : 1 ≤ most ∧ most ≤ 1000)
    (hx : ActsIn (fun k => k < w.heap.size) w a xs) (hy : ActsIn (fun k => k < w.heap.size) w b ys) (hbx : xs.length ≤ 9223372036854775807) (hby : ys.length ≤ 9223372036854775807) :
    Calls Tryd.prog 7 #[.int .i64 most, .slice a xs.length ca, .slice b ys.length cb] w fun e w' => e = .returned (.bool true) ∧ Below w.heap.size w w' := by
  have h0 := hT.1
  generalize hL : xs.length = L at *
  generalize hM : ys.length = M at *
  have HL := hid hL
  have HM := hid hM
  have g1 : ¬ most < 1 := by omega
  have g2 : ¬ most > 1000 := by omega
  clear hL hM
  go_enter Tryd.func7, Tryd.ntmps7
  go_wp2_with fail
  refine (new_calls' most w w w.heap.size h0 (Below.refl _ _) (Nat.le_refl _) hT hm).mono ?_
  rintro e w1 ⟨A, S, rfl, s1, hb1, hA, hS⟩
  clear hq h1
  go_wp2_with fail
  go_loopw [9, 10] (fun g i wr => ∃ k : Nat, k ≤ L ∧ i = .int .i64 (k : Int) ∧ St w.heap.size w wr A S most (actAll most (xs.take k)) ∧ ListIn (fun b => b < wr.heap.size ∧ b ≠ S) wr g ((actAll most (xs.take k)).map fun x : Nat => (x : Int))) (fun _ i _ => L - (intOf i).toNat)
  case atStart => exact ⟨0, by omega, rfl, s1, ListIn.nil _ _⟩
  case round =>
    obtain ⟨k, hk, rfl, hst, hg⟩ := hrel
    by_cases hlt : k < L
    · have hkl : k < xs.length := by rw [HL.out]; exact hlt
      obtain ⟨b0, off0, rfl, ho0, hd0, hd1⟩ := hx k hkl
      have hc0 := hst.below.cell (p := ⟨b0, off0 + k * 2, none⟩) ho0
      have hc1 := hst.below.cell (p := ⟨b0, off0 + k * 2 + 1, none⟩) ho0
      rw [hd0] at hc0
      rw [hd1] at hc1
      have hup := actAll_up most xs k hkl
      generalize xs[k].1 = x at hc0 hup
      generalize xs[k].2 = y at hc1 hup
      have HUP := hid hup
      have i0 : (k : Int) < (L : Int) := by omega
      have HST := hid hst
      have HG := hid hg
      clear hup hd0 hd1 hst hg hy
      go_wp2_with fail
      refine (does_calls x y _ _ HST.out HG.out (fun k hk => hk)).mono ?_
      rintro e w2 ⟨v2, rfl, s2, l2, k2⟩
      rw [← HUP.out] at s2 l2
      have l2' : ListIn (fun b => b < w2.heap.size ∧ b ≠ S) w2 v2 ((actAll most (xs.take (k + 1))).map fun x : Nat => (x : Int)) := l2.mono fun b hb => by
        have := k2.size
        have := HST.out.lt
        rcases hb with hb | hb
        · exact ⟨by omega, hb.2⟩
        · exact ⟨by omega, by omega⟩
      have S2 := hid s2
      have L2 := hid l2'
      clear s2 l2 k2 l2'
      go_wp2_with fail
      go_roundw
      case rel => exact ⟨k + 1, hlt, by go_num, S2.out, L2.out⟩
      case measure => simp [intOf]; omega
    · have hkL : k = L := by omega
      have htk : xs.take k = xs := List.take_of_length_le (by rw [HL.out]; omega)
      rw [htk] at hst hg
      have HST := hid hst
      have HG := hid hg
      have i0 : ¬ ((k : Int) < (L : Int)) := by omega
      clear htk hst hg hx hkL
      go_wp2_with fail
      refine (copy_calls' HST.out).mono ?_
      rintro e w2 ⟨A2, S2, rfl, s2, t2, hA2, hS2, hb2⟩
      have hlt1 := HST.out.lt
      have hside : Side w.heap.size w w2 A S A2 S2 most u9 u9 (actAll most xs) (actAll most xs) := by
        have hgl : ListIn (fun b => b < w2.heap.size ∧ b ≠ S ∧ b ≠ S2) w2 u9 ((actAll most xs).map fun x : Nat => (x : Int)) := (HG.out.kept (Kept.of_below hb2 fun _ h => h.1)).mono fun b hb => ⟨by have := hb2.size; omega, hb.2, by omega⟩
        exact ⟨s2, t2, ⟨by omega, by omega, by omega⟩, hgl, hgl⟩
      have HS := hid hside
      clear s2 t2 hA2 hS2 hb2 hlt1 hside
      go_wp2_with fail
      go_loopw [12, 13] (fun o i wr => ∃ k : Nat, k ≤ M ∧ i = .int .i64 (k : Int) ∧ Side w.heap.size w wr A S A2 S2 most u9 o (actAll most xs) (actFrom most (actAll most xs) (ys.take k))) (fun _ i _ => M - (intOf i).toNat)
      case atStart => exact ⟨0, by omega, rfl, HS.out⟩
      case round =>
        obtain ⟨j, hj, rfl, hst⟩ := hrel
        by_cases hjt : j < M
        · have hkl : j < ys.length := by rw [HM.out]; exact hjt
          obtain ⟨b0, off0, rfl, ho0, hd0, hd1⟩ := hy j hkl
          have hc0 := hst.one.below.cell (p := ⟨b0, off0 + j * 2, none⟩) ho0
          have hc1 := hst.one.below.cell (p := ⟨b0, off0 + j * 2 + 1, none⟩) ho0
          rw [hd0] at hc0
          rw [hd1] at hc1
          have hup := actFrom_up most (actAll most xs) ys j hkl
          generalize ys[j].1 = x at hc0 hup
          generalize ys[j].2 = y at hc1 hup
          have HUP := hid hup
          have i1 : (j : Int) < (M : Int) := by omega
          have HST2 := hid hst
          clear hup hd0 hd1 hst
          go_wp2_with fail
          refine (HST2.out.does x y).mono ?_
          rintro e w3 ⟨v2, rfl, s3⟩
          rw [← HUP.out] at s3
          have S3 := hid s3
          clear s3
          go_wp2_with fail
          go_roundw
          case rel => exact ⟨j + 1, hjt, by go_num, S3.out⟩
          case measure => simp [intOf]; omega
        · have i1 : ¬ ((j : Int) < (M : Int)) := by omega
          have HST2 := hid hst
          clear hst hy
          generalize actFrom most (actAll most xs) (ys.take j) = l2 at HST2
          generalize actAll most xs = l1 at *
          obtain ⟨a1, c1, rfl, gi1, gr1⟩ := HST2.out.g
          obtain ⟨a2, c2, rfl, gi2, gr2⟩ := HST2.out.o
          generalize hN1 : l1.length = N1
          generalize hN2 : l2.length = N2
          rw [cast_len, hN1] at HST2 ⊢
          rw [cast_len, hN2] at HST2 ⊢
          have HN1 := hid hN1
          have HN2 := hid hN2
          have hmm : 1 ≤ most % 1000 + 1 ∧ most % 1000 + 1 ≤ 1000 := by omega
          have hme : most ≠ most % 1000 + 1 := by omega
          have HME := hid hme
          clear gi1 gr1 gi2 gr2 HG HS hN1 hN2 hme
          go_wp2_with fail
          generalize most % 1000 + 1 = m2 at hmm HME ⊢
          refine (new_calls' m2 w wr w.heap.size h0 HST2.out.one.below HST2.out.one.below.size HST2.out.one.table hmm).mono ?_
          rintro e w3 ⟨A3, S3, rfl, d3, hb3, -, -⟩
          have X3 := hid (HST2.out.grows hb3)
          have D3 := hid d3
          clear d3 hb3 HST2
          go_wp2_with fail
          refine (all_calls' X3.out.one).mono ?_
          rintro e w4 ⟨a4, c4, rfl, i4, -, -, -, s4, hb4⟩
          rw [HN1.out]
          have X4 := hid (X3.out.grows hb4)
          have D4 := hid (D3.out.grows hb4)
          have gi1 := X3.out.g.at
          have SM := hid (all_same (c := c4) (c2 := c1) X3.out.one HN1.out i4 hb4 (gi1.mono fun b hb => hb.1))
          clear i4 s4 hb4 gi1
          go_wp2_with fail
          refine SM.out.mono ?_
          rintro e w5 ⟨rfl, hd5⟩
          have X5 := hid (X4.out.later hd5)
          have D5 := hid (D4.out.later hd5)
          clear hd5 SM
          go_wp2_with fail
          refine (all_calls' X5.out.two).mono ?_
          rintro e w6 ⟨a6, c6, rfl, i6, -, -, -, s6, hb6⟩
          rw [HN2.out]
          have X6 := hid (X5.out.grows hb6)
          have D6 := hid (D5.out.grows hb6)
          have gi2 := X5.out.o.at
          have SM := hid (all_same (c := c6) (c2 := c2) X5.out.two HN2.out i6 hb6 (gi2.mono fun b hb => hb.1))
          clear i6 s6 hb6 gi2
          go_wp2_with fail
          refine SM.out.mono ?_
          rintro e w7 ⟨rfl, hd7⟩
          have X7 := hid (X6.out.later hd7)
          have D7 := hid (D6.out.later hd7)
          clear hd7 SM
          go_wp2_with fail
          refine (isame_calls X7.out.one X7.out.two).mono ?_
          rintro e w8 ⟨rfl, hd8⟩
          have X8 := hid (X7.out.later hd8)
          have D8 := hid (D7.out.later hd8)
          have hbq : decide (most = most ∧ l1 = l2) = decide (l1 = l2) := by simp
          rw [hbq]
          have gi1 := X8.out.g.at
          have gi2 := X8.out.o.at
          have hl1 := X8.out.one.sorted.2.2
          have hl2 := X8.out.two.sorted.2.2
          have hsm := same_calls a1 a2 c1 c2 _ _ _ w8 gi1 gi2 (by rw [cast_len]; omega) (by rw [cast_len]; omega)
          rw [cast_len, cast_len, HN1.out, HN2.out, show decide ((l1.map fun x : Nat => (x : Int)) = l2.map fun x : Nat => (x : Int)) = decide (l1 = l2) from decide_eq_decide.2 map_cast_inj] at hsm
          generalize decide (l1 = l2) = bq at hsm ⊢
          have HSM := hid hsm
          clear hd8 hbq gi1 gi2 hl1 hl2 hsm
          go_wp2_with fail
          refine HSM.out.mono ?_
          rintro e w9 ⟨rfl, hd9⟩
          have X9 := hid (X8.out.later hd9)
          have D9 := hid (D8.out.later hd9)
          clear hd9 HSM
          go_wp2_with fail
          refine (copy_calls' X9.out.one).mono ?_
          rintro e w10 ⟨A4, S4, rfl, s10, t10, -, -, hb10⟩
          have X10 := hid (X9.out.grows hb10)
          have D10 := hid (D9.out.grows hb10)
          have SA := hid (isame_calls s10 t10)
          clear s10 t10 hb10
          rw [decide_eq_true (show most = most ∧ l1 = l1 from ⟨rfl, rfl⟩)] at SA
          go_wp2_with fail
          refine SA.out.mono ?_
          rintro e w11 ⟨rfl, hd11⟩
          have X11 := hid (X10.out.later hd11)
          have D11 := hid (D10.out.later hd11)
          clear hd11 SA
          obtain ⟨ws, hi11, -⟩ := X11.out.one.words
          have NI := hid (isame_nil A S most ws w11 hi11)
          clear hi11
          go_wp2_with fail
          refine NI.out.mono ?_
          rintro e w12 ⟨rfl, rfl⟩
          go_wp2_with fail
          refine (isame_calls X11.out.one D11.out).mono ?_
          rintro e w13 ⟨rfl, hd13⟩
          rw [decide_eq_false (show ¬ (most = m2 ∧ l1 = []) from fun h => HME.out h.1)]
          have X13 := hid (X11.out.later hd13)
          clear hd13
          go_wp2_with fail
          refine (known_after X13.out.one).mono ?_
          rintro e w14 ⟨rfl, hB⟩
          go_wp2_with fail
          go_ret
          exact ⟨rfl, hB⟩
open Go.ChangeShapes Go.WideShapes Go.ChangeAt
theorem acts_le {H : Type} (enc : TypeId × Value → H) (W : World) (a : Option Addr) (len cap : Nat) (d : DataW H) (p : List MemPlace)
    (h : DataW.Trod enc Tryd.prog W 0 (fun _ => true) true 22 (.slice a len cap) d p) : len ≤ 9223372036854775807 := by
  obtain ⟨fuel, hf⟩ := h
  rcases Go.Deep.open_slice_pairs Tryd.underlying22 Tryd.underlying32 (by kernel_rfl) rfl rfl (by kernel_rfl) (by kernel_rfl) hf with ⟨hcs, _⟩ | ⟨x, l, c, m, n, V0, V1, D0, D1, P0, P1, hcs, _, hl, hm, hmm, _, hi⟩
  · simp [Value.cells] at hcs
    omega
  · simp [Value.cells] at hcs
    unfold maxLen at hm
    omega
theorem inboxCopies_open {H : Type} (enc : TypeId × Value → H) (W : World) (base : Nat) (v0 v1 v2 : Value) (d0 d1 d2 : DataW H) (p0 p1 p2 : List MemPlace) (o0 : Value.okWide Tryd.prog W .any base 3 v0) (o1 : Value.okWide Tryd.prog W .any base 22 v1) (o2 : Value.okWide Tryd.prog W .any base 22 v2)
    (h0 : DataW.Trod enc Tryd.prog W 0 (fun _ => true) true 3 v0 d0 p0) (h1 : DataW.Trod enc Tryd.prog W 0 (fun _ => true) true 22 v1 d1 p1) (h2 : DataW.Trod enc Tryd.prog W 0 (fun _ => true) true 22 v2 d2 p2) (hT : TabAt W) :
    Calls Tryd.prog 7 #[v0, v1, v2] W fun e w' => e = .returned (.bool true) ∧ Below W.heap.size W w' := by
  obtain ⟨m, rfl, -⟩ := open_int Tryd.underlying3 o0 h0
  obtain ⟨a, ca, xs, rfl, hx⟩ := acts_of enc W base v1 d1 p1 o1 h1
  obtain ⟨b, cb, ys, rfl, hy⟩ := acts_of enc W base v2 d2 p2 o2 h2
  have hbx := acts_le enc W a xs.length ca d1 p1 h1
  have hby := acts_le enc W b ys.length cb d2 p2 h2
  by_cases h : 60 < IntKind.i64.wrap ((xs.length : Int) + (ys.length : Int)) ∨ m < 1 ∨ 1000 < m
  · exact copies_out m a b _ ca _ cb _ rfl W hT h
  · exact copies_in m a b ca cb xs ys _ rfl W hT (by omega) (by omega) hx hy hbx hby
end Go.Proofs.YtnhcikbglcaboaaDoor
