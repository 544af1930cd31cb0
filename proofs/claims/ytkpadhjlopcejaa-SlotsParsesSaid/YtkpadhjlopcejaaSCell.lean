/-
  The reader of cells: cell's walk.
-/
import Derived.Test.YtkpadhjlopcejaaSShort
import Derived.Deep.CutRange
import Derived.Deep.CutBlock
namespace Go.Proofs.Ytkpadhjlopcejaa
open Go.RowKit
def ClEnd (ok : Nat → Prop) (R : Nat) (x : Option (Cl × List UInt8)) (w : World) (e : Ending) (w' : World) : Prop :=
  (match x with | some (c, r) => e = .returned (aggC c) ∧ RdAt ok w' R r | none => e = .panicked (stopV 151)) ∧ Kept (fun q => q < w.heap.size ∧ q ≠ R) w w'
def zeroRow : List Value := [.string ⟨#[]⟩, .string ⟨#[]⟩, .bool false, .int .i64 0, .int .i64 0]
structure CellAt (ok : Nat → Prop) (R : Nat) (w : World) (C5 : Nat) (x : Cl) (l : List UInt8) (wr : World) : Prop where
  low : w.heap.size + 2 ≤ C5
  c2 : wr.cell? ⟨w.heap.size, 0, none⟩ = some (.pointer (some ⟨R, 0, none⟩))
  b4 : Blk wr (w.heap.size + 1) zeroRow
  b5 : Blk wr C5 (rowC x)
  rd : RdAt ok wr R l
  kept : Kept (fun q => q < w.heap.size ∧ q ≠ R) w wr
theorem CellAt.read {ok : Nat → Prop} {R : Nat} {w : World} {C5 : Nat} {x : Cl} {l l' : List UInt8} {wr w' : World} (h : CellAt ok R w C5 x l wr) (hR : R < w.heap.size) (hr : RdAt ok w' R l') (hk : Kept (fun q => q < wr.heap.size ∧ q ≠ R) wr w') : CellAt ok R w C5 x l' w' := by
  have h4 := h.b4.lt
  have h5 := h.b5.lt
  have hl := h.low
  refine ⟨hl, ?_, h.b4.kept hk ⟨h4, by omega⟩, h.b5.kept hk ⟨h5, by omega⟩, hr, h.kept.trans (hk.shrink fun q (hq : q < w.heap.size ∧ q ≠ R) => ⟨Nat.lt_of_lt_of_le hq.1 h.kept.size, hq.2⟩)⟩
  rw [hk.cell (p := ⟨w.heap.size, 0, none⟩) ⟨by show w.heap.size < _; omega, by show w.heap.size ≠ R; omega⟩]
  exact h.c2
theorem CellAt.put {ok : Nat → Prop} {R : Nat} {w : World} {C5 : Nat} {x x' : Cl} {l : List UInt8} {wr : World} (h : CellAt ok R w C5 x l wr) (hR : R < w.heap.size) (hok : ∀ k, ok k → k < w.heap.size) (j : Nat) (v : Value) (hx : rowC x' = (rowC x).set j v) : CellAt ok R w C5 x' l (wr.setCell ⟨C5, j, none⟩ v) := by
  have hl := h.low
  have hk : Kept (fun q => q ≠ C5) wr (wr.setCell ⟨C5, j, none⟩ v) := (Kept.refl _ _).setCell (by simp) _
  refine ⟨hl, ?_, h.b4.kept hk (by omega), ?_, h.rd.kept hk (by omega) (fun k hk => by have := hok k hk; omega), h.kept.trans (hk.shrink fun q hq => by omega)⟩
  · rw [hk.cell (p := ⟨w.heap.size, 0, none⟩) (by show w.heap.size ≠ C5; omega)]
    exact h.c2
  · rw [hx]; exact h.b5.set j v
theorem set5 {w : World} {B : Nat} {vs : List Value} (h : Blk w B vs) (hl : vs.length = 5) (u0 u1 u2 u3 u4 : Value) :
    Blk (((((w.setCell ⟨B, 0, none⟩ u0).setCell ⟨B, 1, none⟩ u1).setCell ⟨B, 2, none⟩ u2).setCell ⟨B, 3, none⟩ u3).setCell ⟨B, 4, none⟩ u4) B [u0, u1, u2, u3, u4] := by
  have := ((((h.set 0 u0).set 1 u1).set 2 u2).set 3 u3).set 4 u4
  match vs, hl with
  | [_, _, _, _, _], _ => exact this
def done5 (w : World) (B : Nat) (x : Cl) : World := ((((w.setCell ⟨B, 0, none⟩ (.string x.key)).setCell ⟨B, 1, none⟩ (.string x.text)).setCell ⟨B, 2, none⟩ (.bool x.long)).setCell ⟨B, 3, none⟩ (.int .i64 x.page)).setCell ⟨B, 4, none⟩ (.int .i64 x.size)
theorem CellAt.done {ok : Nat → Prop} {R : Nat} {w : World} {C5 : Nat} {x : Cl} {l : List UInt8} {wr : World} (h : CellAt ok R w C5 x l wr) (hR : R < w.heap.size) (hok : ∀ k, ok k → k < w.heap.size) :
    Blk (done5 wr (w.heap.size + 1) x) (w.heap.size + 1) (rowC x) ∧ RdAt ok (done5 wr (w.heap.size + 1) x) R l ∧ Kept (fun q => q < w.heap.size ∧ q ≠ R) w (done5 wr (w.heap.size + 1) x) := by
  have hk : Kept (fun q => q ≠ w.heap.size + 1) wr (done5 wr (w.heap.size + 1) x) := (((((Kept.refl _ _).setCell (by simp) _).setCell (by simp) _).setCell (by simp) _).setCell (by simp) _).setCell (by simp) _
  exact ⟨set5 h.b4 rfl _ _ _ _ _, h.rd.kept hk (by omega) (fun k hk => by have := hok k hk; omega), h.kept.trans (hk.shrink fun q hq => by omega)⟩
theorem cell_ret {ok : Nat → Prop} {R : Nat} {w wf : World} {x : Cl} {l : List UInt8} {y : Option (Cl × List UInt8)} {a : Act} (hy : y = some (x, l)) (hd : a.defers = []) (ht : a.tmps.getD 4 undef = .pointer (some ⟨w.heap.size + 1, 0, none⟩))
    (h : Blk wf (w.heap.size + 1) (rowC x) ∧ RdAt ok wf R l ∧ Kept (fun q => q < w.heap.size ∧ q ≠ R) w wf) : bodyPost Try.prog Try.f64 (ClEnd ok R y w) .ret a wf := by
  obtain ⟨h1, h2, h3⟩ := h
  have c0 := h1.cell 0
  have c1 := h1.cell 1
  have c2 := h1.cell 2
  have c3 := h1.cell 3
  have c4 := h1.cell 4
  simp only [rowC, List.getElem?_cons_zero, List.getElem?_cons_succ] at c0 c1 c2 c3 c4
  have ht2 : a.tmps[4]?.getD undef = .pointer (some ⟨w.heap.size + 1, 0, none⟩) := by rw [← ht, Array.getD_eq_getD_getElem?]
  refine bodyPost_ret (v := aggC x) ?_ hd ?_
  · unfold aggC
    simp [results, Try.results64, go_sem, ht2, c0, c1, c2, c3, c4]
  · rw [hy]; exact ⟨⟨rfl, h2⟩, h3⟩
theorem cell_panic {ok : Nat → Prop} {R : Nat} {w wf : World} {y : Option (Cl × List UInt8)} {a : Act} (hy : y = none) (hd : a.defers = []) (h : Kept (fun q => q < w.heap.size ∧ q ≠ R) w wf) : bodyPost Try.prog Try.f64 (ClEnd ok R y w) (.panic (stopV 151)) a wf := by
  refine ⟨hd, ?_⟩
  rw [hy]
  exact ⟨rfl, h⟩
set_option maxRecDepth 100000 in
set_option maxHeartbeats 8000000 in
theorem rd_branch (ok : Nat → Prop) (R : Nat) (l : List UInt8) (w : World) (h : RdAt ok w R l) :
    Calls Try.prog 64 #[.agg #[.pointer (some ⟨R, 0, none⟩)], .int .i64 3] w (ClEnd ok R (readC false l) w) := by
  have hb1 : Below w.heap.size w (w.alloc (.cells #[.pointer (some ⟨R, 0, none⟩)] 107)) := (Below.refl _ _).alloc (Nat.le_refl _) _
  have hb2 : Below w.heap.size w ((w.alloc (.cells #[.pointer (some ⟨R, 0, none⟩)] 107)).alloc (.cells zeroRow.toArray 81)) := hb1.alloc hb1.size _
  have hblk := ((Blk.new w [.pointer (some ⟨R, 0, none⟩)] 107).alloc (.cells zeroRow.toArray 81)).cell 0
  have hb4 := Blk.new (w.alloc (.cells #[.pointer (some ⟨R, 0, none⟩)] 107)) zeroRow 81
  have e1 : (w.alloc (.cells #[.pointer (some ⟨R, 0, none⟩)] 107)).heap.size = w.heap.size + 1 := by simp
  rw [e1] at hb4
  have e2 : ((w.alloc (.cells #[.pointer (some ⟨R, 0, none⟩)] 107)).alloc (.cells zeroRow.toArray 81)).heap.size = w.heap.size + 2 := by simp
  simp only [List.getElem?_cons_zero, zeroRow] at hblk hb2 hb4 e2
  have HZ := hid e2
  have H1 := hid (h.grows hb2)
  have HB := hid hb2
  have HR := hid h.lt
  have HB4 := hid hb4
  have HOK := hid (show ∀ k, ok k → k < w.heap.size from fun k hk => by obtain ⟨_, _, _, _, h4⟩ := h; exact (h4 k hk).1)
  have HC := hid (rd_short ok R l _ H1.out)
  clear h hb1 hb2 hb4 e1 e2
  go_enter Try.func64, Try.ntmps64
  go_wp2_with fail
  generalize (w.alloc (.cells #[.pointer (some ⟨R, 0, none⟩)] 107)).alloc (.cells #[.string ⟨#[]⟩, .string ⟨#[]⟩, .bool false, .int .i64 0, .int .i64 0] 81) = w1 at *
  cases hs : readS l with
  | none =>
    rw [hs] at HC
    refine HC.out.mono ?_
    rintro e w2 ⟨rfl, k2⟩
    exact cell_panic (by unfold readC; simp [hs]) rfl ((Kept.of_below HB.out fun q hq => hq.1).trans (k2.shrink fun q (hq : q < w.heap.size ∧ q ≠ R) => ⟨Nat.lt_of_lt_of_le hq.1 HB.out.size, hq.2⟩))
  | some x1 =>
    obtain ⟨key, l1⟩ := x1
    rw [hs] at HC
    have HS := hid hs
    clear hs
    refine HC.out.mono ?_
    rintro e w2 ⟨⟨rfl, r2⟩, k2⟩
    have hz := HZ.out
    have hc2 := k2.cell (p := ⟨w.heap.size, 0, none⟩) ⟨by show w.heap.size < _; omega, by have := HR.out; show w.heap.size ≠ R; omega⟩
    rw [hblk] at hc2
    have hb4 := HB4.out.kept k2 ⟨by omega, by have := HR.out; omega⟩
    have hs2 := k2.size
    have hnew := Blk.new w2 (rowC ⟨key, ⟨#[]⟩, false, 0, 0⟩) 81
    have hba : Below w2.heap.size w2 (w2.alloc (.cells (rowC ⟨key, ⟨#[]⟩, false, 0, 0⟩).toArray 81)) := (Below.refl _ _).alloc (Nat.le_refl _) _
    have hat : CellAt ok R w w2.heap.size ⟨key, ⟨#[]⟩, false, 0, 0⟩ l1 (w2.alloc (.cells (rowC ⟨key, ⟨#[]⟩, false, 0, 0⟩).toArray 81)) :=
      ⟨by omega, by rw [hba.cell (p := ⟨w.heap.size, 0, none⟩) (by show w.heap.size < _; omega)]; exact hc2, hb4.alloc _, hnew, r2.grows hba, ((Kept.of_below HB.out fun q hq => hq.1).trans (k2.shrink fun q (hq : q < w.heap.size ∧ q ≠ R) => ⟨Nat.lt_of_lt_of_le hq.1 HB.out.size, hq.2⟩)).trans (Kept.of_below hba fun q hq => by have := HB.out.size; omega)⟩
    simp only [rowC] at hat
    have HAT := hid hat
    clear r2 k2 hz hb4 hs2 hnew hba hat HC HB4 HB H1 HZ hblk
    go_upto_region 2 with fail
    generalize w2.alloc (.cells [.string key, .string ⟨#[]⟩, .bool false, .int .i64 0, .int .i64 0].toArray 81) = w3 at *
    generalize w2.heap.size = C5 at *
    have hne : w.heap.size + 1 ≠ C5 := by have := HAT.out.low; omega
    have hne0 : w.heap.size ≠ C5 := by have := HAT.out.low; omega
    clear hc2
    have c0 := HAT.out.b5.cell 0
    have f0 := HAT.out.b5.frozen 0
    have c1 := HAT.out.b5.cell 1
    have f1 := HAT.out.b5.frozen 1
    have c2 := HAT.out.b5.cell 2
    have f2 := HAT.out.b5.frozen 2
    have c3 := HAT.out.b5.cell 3
    have f3 := HAT.out.b5.frozen 3
    have c4 := HAT.out.b5.cell 4
    have f4 := HAT.out.b5.frozen 4
    have z0 := HAT.out.c2
    have z1 := HAT.out.b4.cell 0
    have y1 := HAT.out.b4.frozen 0
    have z2 := HAT.out.b4.cell 1
    have y2 := HAT.out.b4.frozen 1
    have z3 := HAT.out.b4.cell 2
    have y3 := HAT.out.b4.frozen 2
    have z4 := HAT.out.b4.cell 3
    have y4 := HAT.out.b4.frozen 3
    have z5 := HAT.out.b4.cell 4
    have y5 := HAT.out.b4.frozen 4
    simp only [rowC, zeroRow, List.getElem?_cons_zero, List.getElem?_cons_succ] at c0 c1 c2 c3 c4 z1 z2 z3 z4 z5
    go_wp2_with fail
    clear c0 c1 c2 c3 c4 f0 f1 f2 f3 f4 z0 z1 z2 z3 z4 z5 y1 y2 y3 y4 y5
    have HN := hid (rd_number ok R l1 4 _ (by omega) HAT.out.rd)
    cases hn : readN 4 l1 with
    | none =>
      rw [hn] at HN
      refine HN.out.mono ?_
      rintro e w4 ⟨rfl, k4⟩
      exact cell_panic (by unfold readC; simp [HS.out, hn]) rfl (HAT.out.kept.trans (k4.shrink fun q (hq : q < w.heap.size ∧ q ≠ R) => ⟨Nat.lt_of_lt_of_le hq.1 HAT.out.kept.size, hq.2⟩))
    | some x2 =>
      obtain ⟨p, l2⟩ := x2
      rw [hn] at HN
      have HN2 := hid hn
      clear hn
      refine HN.out.mono ?_
      rintro e w4 ⟨⟨rfl, r4⟩, k4⟩
      have HA4 := hid (HAT.out.read HR.out r4 k4)
      have HA5 := hid (HA4.out.put HR.out HOK.out 3 (.int .i64 p) (x' := ⟨key, ⟨#[]⟩, false, p, 0⟩) rfl)
      clear r4 k4 HAT HN
      have c0 := HA4.out.b5.cell 0
      have f0 := HA4.out.b5.frozen 0
      have c1 := HA4.out.b5.cell 1
      have f1 := HA4.out.b5.frozen 1
      have c2 := HA4.out.b5.cell 2
      have f2 := HA4.out.b5.frozen 2
      have c3 := HA4.out.b5.cell 3
      have f3 := HA4.out.b5.frozen 3
      have c4 := HA4.out.b5.cell 4
      have f4 := HA4.out.b5.frozen 4
      have z0 := HA4.out.c2
      have z1 := HA4.out.b4.cell 0
      have y1 := HA4.out.b4.frozen 0
      have z2 := HA4.out.b4.cell 1
      have y2 := HA4.out.b4.frozen 1
      have z3 := HA4.out.b4.cell 2
      have y3 := HA4.out.b4.frozen 2
      have z4 := HA4.out.b4.cell 3
      have y4 := HA4.out.b4.frozen 3
      have z5 := HA4.out.b4.cell 4
      have y5 := HA4.out.b4.frozen 4
      simp only [rowC, zeroRow, List.getElem?_cons_zero, List.getElem?_cons_succ] at c0 c1 c2 c3 c4 z1 z2 z3 z4 z5
      go_wp2_with fail
      exact cell_ret (by unfold readC; simp [HS.out, HN2.out]) rfl rfl (HA5.out.done HR.out HOK.out)
set_option maxRecDepth 100000 in
set_option maxHeartbeats 8000000 in
theorem rd_leaf (ok : Nat → Prop) (R : Nat) (l : List UInt8) (w : World) (h : RdAt ok w R l) :
    Calls Try.prog 64 #[.agg #[.pointer (some ⟨R, 0, none⟩)], .int .i64 2] w (ClEnd ok R (readC true l) w) := by
  have hb1 : Below w.heap.size w (w.alloc (.cells #[.pointer (some ⟨R, 0, none⟩)] 107)) := (Below.refl _ _).alloc (Nat.le_refl _) _
  have hb2 : Below w.heap.size w ((w.alloc (.cells #[.pointer (some ⟨R, 0, none⟩)] 107)).alloc (.cells zeroRow.toArray 81)) := hb1.alloc hb1.size _
  have hblk := ((Blk.new w [.pointer (some ⟨R, 0, none⟩)] 107).alloc (.cells zeroRow.toArray 81)).cell 0
  have hb4 := Blk.new (w.alloc (.cells #[.pointer (some ⟨R, 0, none⟩)] 107)) zeroRow 81
  have e1 : (w.alloc (.cells #[.pointer (some ⟨R, 0, none⟩)] 107)).heap.size = w.heap.size + 1 := by simp
  rw [e1] at hb4
  have e2 : ((w.alloc (.cells #[.pointer (some ⟨R, 0, none⟩)] 107)).alloc (.cells zeroRow.toArray 81)).heap.size = w.heap.size + 2 := by simp
  simp only [List.getElem?_cons_zero, zeroRow] at hblk hb2 hb4 e2
  have HZ := hid e2
  have H1 := hid (h.grows hb2)
  have HB := hid hb2
  have HR := hid h.lt
  have HB4 := hid hb4
  have HOK := hid (show ∀ k, ok k → k < w.heap.size from fun k hk => by obtain ⟨_, _, _, _, h4⟩ := h; exact (h4 k hk).1)
  have HC := hid (rd_short ok R l _ H1.out)
  clear h hb1 hb2 hb4 e1 e2
  go_enter Try.func64, Try.ntmps64
  go_wp2_with fail
  generalize (w.alloc (.cells #[.pointer (some ⟨R, 0, none⟩)] 107)).alloc (.cells #[.string ⟨#[]⟩, .string ⟨#[]⟩, .bool false, .int .i64 0, .int .i64 0] 81) = w1 at *
  cases hs : readS l with
  | none =>
    rw [hs] at HC
    refine HC.out.mono ?_
    rintro e w2 ⟨rfl, k2⟩
    exact cell_panic (by unfold readC; simp [hs]) rfl ((Kept.of_below HB.out fun q hq => hq.1).trans (k2.shrink fun q (hq : q < w.heap.size ∧ q ≠ R) => ⟨Nat.lt_of_lt_of_le hq.1 HB.out.size, hq.2⟩))
  | some x1 =>
    obtain ⟨key, l1⟩ := x1
    rw [hs] at HC
    have HS := hid hs
    clear hs
    refine HC.out.mono ?_
    rintro e w2 ⟨⟨rfl, r2⟩, k2⟩
    have hz := HZ.out
    have hc2 := k2.cell (p := ⟨w.heap.size, 0, none⟩) ⟨by show w.heap.size < _; omega, by have := HR.out; show w.heap.size ≠ R; omega⟩
    rw [hblk] at hc2
    have hb4 := HB4.out.kept k2 ⟨by omega, by have := HR.out; omega⟩
    have hs2 := k2.size
    have hnew := Blk.new w2 (rowC ⟨key, ⟨#[]⟩, false, 0, 0⟩) 81
    have hba : Below w2.heap.size w2 (w2.alloc (.cells (rowC ⟨key, ⟨#[]⟩, false, 0, 0⟩).toArray 81)) := (Below.refl _ _).alloc (Nat.le_refl _) _
    have hat : CellAt ok R w w2.heap.size ⟨key, ⟨#[]⟩, false, 0, 0⟩ l1 (w2.alloc (.cells (rowC ⟨key, ⟨#[]⟩, false, 0, 0⟩).toArray 81)) :=
      ⟨by omega, by rw [hba.cell (p := ⟨w.heap.size, 0, none⟩) (by show w.heap.size < _; omega)]; exact hc2, hb4.alloc _, hnew, r2.grows hba, ((Kept.of_below HB.out fun q hq => hq.1).trans (k2.shrink fun q (hq : q < w.heap.size ∧ q ≠ R) => ⟨Nat.lt_of_lt_of_le hq.1 HB.out.size, hq.2⟩)).trans (Kept.of_below hba fun q hq => by have := HB.out.size; omega)⟩
    simp only [rowC] at hat
    have HAT := hid hat
    clear r2 k2 hz hb4 hs2 hnew hba hat HC HB4 HB H1 HZ hblk
    go_upto_region 2 with fail
    generalize w2.alloc (.cells [.string key, .string ⟨#[]⟩, .bool false, .int .i64 0, .int .i64 0].toArray 81) = w3 at *
    generalize w2.heap.size = C5 at *
    have hne : w.heap.size + 1 ≠ C5 := by have := HAT.out.low; omega
    have hne0 : w.heap.size ≠ C5 := by have := HAT.out.low; omega
    clear hc2
    have c0 := HAT.out.b5.cell 0
    have f0 := HAT.out.b5.frozen 0
    have c1 := HAT.out.b5.cell 1
    have f1 := HAT.out.b5.frozen 1
    have c2 := HAT.out.b5.cell 2
    have f2 := HAT.out.b5.frozen 2
    have c3 := HAT.out.b5.cell 3
    have f3 := HAT.out.b5.frozen 3
    have c4 := HAT.out.b5.cell 4
    have f4 := HAT.out.b5.frozen 4
    have z0 := HAT.out.c2
    have z1 := HAT.out.b4.cell 0
    have y1 := HAT.out.b4.frozen 0
    have z2 := HAT.out.b4.cell 1
    have y2 := HAT.out.b4.frozen 1
    have z3 := HAT.out.b4.cell 2
    have y3 := HAT.out.b4.frozen 2
    have z4 := HAT.out.b4.cell 3
    have y4 := HAT.out.b4.frozen 3
    have z5 := HAT.out.b4.cell 4
    have y5 := HAT.out.b4.frozen 4
    simp only [rowC, zeroRow, List.getElem?_cons_zero, List.getElem?_cons_succ] at c0 c1 c2 c3 c4 z1 z2 z3 z4 z5
    go_wp2_with fail
    clear c0 c1 c2 c3 c4 f0 f1 f2 f3 f4 z0 z1 z2 z3 z4 z5 y1 y2 y3 y4 y5
    have HT := hid (rtruth_calls ok R l1 _ HAT.out.rd)
    cases l1 with
    | nil =>
      rw [show readTruth [] = ((false, 130), []) from rfl] at HT
      refine HT.out.mono ?_
      rintro e w4 ⟨rfl, r4, k4⟩
      have HK := hid (HAT.out.kept.trans (k4.shrink fun q (hq : q < w.heap.size ∧ q ≠ R) => ⟨Nat.lt_of_lt_of_le hq.1 HAT.out.kept.size, hq.2⟩))
      clear k4 r4
      go_wp2_with fail
      refine (must_no 151 _).mono ?_
      rintro e w5 ⟨rfl, rfl⟩
      exact cell_panic (by unfold readC; simp [HS.out]) rfl HK.out
    | cons y l2 =>
      by_cases hy : 1 < y.toNat
      · have ht : readTruth (y :: l2) = ((false, 130), y :: l2) := by rw [readTruth, if_pos hy]
        rw [ht] at HT
        have hy0 : ¬ y.toNat = 0 := by omega
        have hy1 : ¬ y.toNat = 1 := by omega
        refine HT.out.mono ?_
        rintro e w4 ⟨rfl, r4, k4⟩
        have HK := hid (HAT.out.kept.trans (k4.shrink fun q (hq : q < w.heap.size ∧ q ≠ R) => ⟨Nat.lt_of_lt_of_le hq.1 HAT.out.kept.size, hq.2⟩))
        clear k4 r4
        go_wp2_with fail
        refine (must_no 151 _).mono ?_
        rintro e w5 ⟨rfl, rfl⟩
        exact cell_panic (by unfold readC; simp [HS.out, hy0, hy1]) rfl HK.out
      · have ht : readTruth (y :: l2) = ((decide (y.toNat = 1), 0), l2) := by rw [readTruth, if_neg hy]
        rw [ht] at HT
        by_cases hy1 : y.toNat = 1
        · rw [decide_eq_true hy1] at HT
          refine HT.out.mono ?_
          rintro e w4 ⟨rfl, r4, k4⟩
          have HA4 := hid (HAT.out.read HR.out r4 k4)
          have HA5 := hid (HA4.out.put HR.out HOK.out 2 (.bool true) (x' := ⟨key, ⟨#[]⟩, true, 0, 0⟩) rfl)
          clear r4 k4 HAT HT
          go_wp2_with fail
          refine (must_ok 151 _).mono ?_
          rintro e w5 ⟨rfl, rfl⟩
          have c0 := HA4.out.b5.cell 0
          have f0 := HA4.out.b5.frozen 0
          have c1 := HA4.out.b5.cell 1
          have f1 := HA4.out.b5.frozen 1
          have c2 := HA4.out.b5.cell 2
          have f2 := HA4.out.b5.frozen 2
          have c3 := HA4.out.b5.cell 3
          have f3 := HA4.out.b5.frozen 3
          have c4 := HA4.out.b5.cell 4
          have f4 := HA4.out.b5.frozen 4
          have z0 := HA4.out.c2
          have z1 := HA4.out.b4.cell 0
          have y1 := HA4.out.b4.frozen 0
          have z2 := HA4.out.b4.cell 1
          have y2 := HA4.out.b4.frozen 1
          have z3 := HA4.out.b4.cell 2
          have y3 := HA4.out.b4.frozen 2
          have z4 := HA4.out.b4.cell 3
          have y4 := HA4.out.b4.frozen 3
          have z5 := HA4.out.b4.cell 4
          have y5 := HA4.out.b4.frozen 4
          simp only [rowC, zeroRow, List.getElem?_cons_zero, List.getElem?_cons_succ] at c0 c1 c2 c3 c4 z1 z2 z3 z4 z5
          go_wp2_with fail
          clear c0 c1 c2 c3 c4 f0 f1 f2 f3 f4 z0 z1 z2 z3 z4 z5 y1 y2 y3 y4 y5
          have HN := hid (rd_number ok R l2 4 _ (by omega) HA5.out.rd)
          cases hn : readN 4 l2 with
          | none =>
            rw [hn] at HN
            refine HN.out.mono ?_
            rintro e w9 ⟨rfl, k9⟩
            exact cell_panic (by unfold readC; simp [HS.out, hy1, hn]) rfl (HA5.out.kept.trans (k9.shrink fun q (hq : q < w.heap.size ∧ q ≠ R) => ⟨Nat.lt_of_lt_of_le hq.1 HA5.out.kept.size, hq.2⟩))
          | some x2 =>
            obtain ⟨p, l3⟩ := x2
            rw [hn] at HN
            have HN2 := hid hn
            clear hn
            refine HN.out.mono ?_
            rintro e w6 ⟨⟨rfl, r6⟩, k6⟩
            have HA6 := hid (HA5.out.read HR.out r6 k6)
            have HA7 := hid (HA6.out.put HR.out HOK.out 3 (.int .i64 p) (x' := ⟨key, ⟨#[]⟩, true, p, 0⟩) rfl)
            clear r6 k6 HA5 HA4 HN
            have c0 := HA6.out.b5.cell 0
            have f0 := HA6.out.b5.frozen 0
            have c1 := HA6.out.b5.cell 1
            have f1 := HA6.out.b5.frozen 1
            have c2 := HA6.out.b5.cell 2
            have f2 := HA6.out.b5.frozen 2
            have c3 := HA6.out.b5.cell 3
            have f3 := HA6.out.b5.frozen 3
            have c4 := HA6.out.b5.cell 4
            have f4 := HA6.out.b5.frozen 4
            have z0 := HA6.out.c2
            have z1 := HA6.out.b4.cell 0
            have y1 := HA6.out.b4.frozen 0
            have z2 := HA6.out.b4.cell 1
            have y2 := HA6.out.b4.frozen 1
            have z3 := HA6.out.b4.cell 2
            have y3 := HA6.out.b4.frozen 2
            have z4 := HA6.out.b4.cell 3
            have y4 := HA6.out.b4.frozen 3
            have z5 := HA6.out.b4.cell 4
            have y5 := HA6.out.b4.frozen 4
            simp only [rowC, zeroRow, List.getElem?_cons_zero, List.getElem?_cons_succ] at c0 c1 c2 c3 c4 z1 z2 z3 z4 z5
            go_wp2_with fail
            clear c0 c1 c2 c3 c4 f0 f1 f2 f3 f4 z0 z1 z2 z3 z4 z5 y1 y2 y3 y4 y5
            have HN := hid (rd_number ok R l3 4 _ (by omega) HA7.out.rd)
            cases hn : readN 4 l3 with
            | none =>
              rw [hn] at HN
              refine HN.out.mono ?_
              rintro e w9 ⟨rfl, k9⟩
              exact cell_panic (by unfold readC; simp [HS.out, hy1, HN2.out, hn]) rfl (HA7.out.kept.trans (k9.shrink fun q (hq : q < w.heap.size ∧ q ≠ R) => ⟨Nat.lt_of_lt_of_le hq.1 HA7.out.kept.size, hq.2⟩))
            | some x3 =>
              obtain ⟨p2, l4⟩ := x3
              rw [hn] at HN
              have HN3 := hid hn
              clear hn
              refine HN.out.mono ?_
              rintro e w8 ⟨⟨rfl, r8⟩, k8⟩
              have HA8 := hid (HA7.out.read HR.out r8 k8)
              have HA9 := hid (HA8.out.put HR.out HOK.out 4 (.int .i64 p2) (x' := ⟨key, ⟨#[]⟩, true, p, p2⟩) rfl)
              clear r8 k8 HA7 HA6 HN
              have c0 := HA8.out.b5.cell 0
              have f0 := HA8.out.b5.frozen 0
              have c1 := HA8.out.b5.cell 1
              have f1 := HA8.out.b5.frozen 1
              have c2 := HA8.out.b5.cell 2
              have f2 := HA8.out.b5.frozen 2
              have c3 := HA8.out.b5.cell 3
              have f3 := HA8.out.b5.frozen 3
              have c4 := HA8.out.b5.cell 4
              have f4 := HA8.out.b5.frozen 4
              have z0 := HA8.out.c2
              have z1 := HA8.out.b4.cell 0
              have y1 := HA8.out.b4.frozen 0
              have z2 := HA8.out.b4.cell 1
              have y2 := HA8.out.b4.frozen 1
              have z3 := HA8.out.b4.cell 2
              have y3 := HA8.out.b4.frozen 2
              have z4 := HA8.out.b4.cell 3
              have y4 := HA8.out.b4.frozen 3
              have z5 := HA8.out.b4.cell 4
              have y5 := HA8.out.b4.frozen 4
              simp only [rowC, zeroRow, List.getElem?_cons_zero, List.getElem?_cons_succ] at c0 c1 c2 c3 c4 z1 z2 z3 z4 z5
              go_wp2_with fail
              exact cell_ret (by unfold readC; simp [HS.out, hy1, HN2.out, HN3.out]) rfl rfl (HA9.out.done HR.out HOK.out)
        · have hy0 : y.toNat = 0 := by omega
          rw [decide_eq_false hy1] at HT
          refine HT.out.mono ?_
          rintro e w4 ⟨rfl, r4, k4⟩
          have HA4 := hid (HAT.out.read HR.out r4 k4)
          have HA5 := hid (HA4.out.put HR.out HOK.out 2 (.bool false) (x' := ⟨key, ⟨#[]⟩, false, 0, 0⟩) rfl)
          clear r4 k4 HAT HT
          go_wp2_with fail
          refine (must_ok 151 _).mono ?_
          rintro e w5 ⟨rfl, rfl⟩
          have c0 := HA4.out.b5.cell 0
          have f0 := HA4.out.b5.frozen 0
          have c1 := HA4.out.b5.cell 1
          have f1 := HA4.out.b5.frozen 1
          have c2 := HA4.out.b5.cell 2
          have f2 := HA4.out.b5.frozen 2
          have c3 := HA4.out.b5.cell 3
          have f3 := HA4.out.b5.frozen 3
          have c4 := HA4.out.b5.cell 4
          have f4 := HA4.out.b5.frozen 4
          have z0 := HA4.out.c2
          have z1 := HA4.out.b4.cell 0
          have y1 := HA4.out.b4.frozen 0
          have z2 := HA4.out.b4.cell 1
          have y2 := HA4.out.b4.frozen 1
          have z3 := HA4.out.b4.cell 2
          have y3 := HA4.out.b4.frozen 2
          have z4 := HA4.out.b4.cell 3
          have y4 := HA4.out.b4.frozen 3
          have z5 := HA4.out.b4.cell 4
          have y5 := HA4.out.b4.frozen 4
          simp only [rowC, zeroRow, List.getElem?_cons_zero, List.getElem?_cons_succ] at c0 c1 c2 c3 c4 z1 z2 z3 z4 z5
          go_wp2_with fail
          clear c0 c1 c2 c3 c4 f0 f1 f2 f3 f4 z0 z1 z2 z3 z4 z5 y1 y2 y3 y4 y5
          have HN := hid (rd_short ok R l2 _ HA5.out.rd)
          cases hn : readS l2 with
          | none =>
            rw [hn] at HN
            refine HN.out.mono ?_
            rintro e w9 ⟨rfl, k9⟩
            exact cell_panic (by unfold readC; simp [HS.out, hy0, hn]) rfl (HA5.out.kept.trans (k9.shrink fun q (hq : q < w.heap.size ∧ q ≠ R) => ⟨Nat.lt_of_lt_of_le hq.1 HA5.out.kept.size, hq.2⟩))
          | some x2 =>
            obtain ⟨t, l3⟩ := x2
            rw [hn] at HN
            have HN2 := hid hn
            clear hn
            refine HN.out.mono ?_
            rintro e w6 ⟨⟨rfl, r6⟩, k6⟩
            have HA6 := hid (HA5.out.read HR.out r6 k6)
            have HA7 := hid (HA6.out.put HR.out HOK.out 1 (.string t) (x' := ⟨key, t, false, 0, 0⟩) rfl)
            clear r6 k6 HA5 HA4 HN
            have c0 := HA6.out.b5.cell 0
            have f0 := HA6.out.b5.frozen 0
            have c1 := HA6.out.b5.cell 1
            have f1 := HA6.out.b5.frozen 1
            have c2 := HA6.out.b5.cell 2
            have f2 := HA6.out.b5.frozen 2
            have c3 := HA6.out.b5.cell 3
            have f3 := HA6.out.b5.frozen 3
            have c4 := HA6.out.b5.cell 4
            have f4 := HA6.out.b5.frozen 4
            have z0 := HA6.out.c2
            have z1 := HA6.out.b4.cell 0
            have y1 := HA6.out.b4.frozen 0
            have z2 := HA6.out.b4.cell 1
            have y2 := HA6.out.b4.frozen 1
            have z3 := HA6.out.b4.cell 2
            have y3 := HA6.out.b4.frozen 2
            have z4 := HA6.out.b4.cell 3
            have y4 := HA6.out.b4.frozen 3
            have z5 := HA6.out.b4.cell 4
            have y5 := HA6.out.b4.frozen 4
            simp only [rowC, zeroRow, List.getElem?_cons_zero, List.getElem?_cons_succ] at c0 c1 c2 c3 c4 z1 z2 z3 z4 z5
            go_wp2_with fail
            exact cell_ret (by unfold readC; simp [HS.out, hy0, HN2.out]) rfl rfl (HA7.out.done HR.out HOK.out)
end Go.Proofs.Ytkpadhjlopcejaa
