/-
  The walk of the document's Parse (printed by mkrparse.py).
-/
import Derived.Test.YtkpadhjlopcejaaSRText
import Derived.Test.YtkpadhjlopcejaaSParse
import Derived.Test.YtkpadhjlopcejaaRawWalk
import Derived.Test.YtkpadhjlopcejaaReadsPlain
import Derived.Test.YtkpadhjlopcejaaSCell
namespace Go.Proofs.Ytkpadhjlopcejaa
open Go.RowKit
theorem val_pair (x y : UInt8) (l : List UInt8) : val ((x :: y :: l).take 2) = 256 * x.toNat + y.toNat := by
  show valFrom 0 [x, y] = _
  simp [valFrom]
abbrev Old (w : World) : Nat → Prop := fun q => q < w.heap.size
/-- a round of the document's Parse: the cell under way stands in block C -/
structure RP (w : World) (cs : List Cl) (out : Value) (C : Nat) (x : Cl) (v : Value) (rest : List UInt8) (wr : World) : Prop where
  low : w.heap.size ≤ C
  below : Below w.heap.size w wr
  blk : Blk wr C (rowC x)
  own : OwnC wr w.heap.size out cs
  olt : ∀ q, out.ownBlock = some q → q < C
  part : PartB (Old w) wr v rest
theorem RP.start {w : World} {cs : List Cl} {out v : Value} {rest : List UInt8} {wr : World} (hb : Below w.heap.size w wr) (ho : OwnC wr w.heap.size out cs) (hp : PartB (Old w) wr v rest) :
    RP w cs out wr.heap.size ⟨⟨#[]⟩, ⟨#[]⟩, false, 0, 0⟩ v rest (wr.alloc (.cells zeroRow.toArray 81)) := by
  have hba : Below wr.heap.size wr (wr.alloc (.cells zeroRow.toArray 81)) := (Below.refl _ _).alloc (Nat.le_refl _) _
  exact ⟨hb.size, hb.trans (hba.mono hb.size), Blk.new wr zeroRow 81, ho.below hba, fun q hq => (ho.block hq).2, hp.kept (Kept.of_below hba fun q hq => Nat.lt_of_lt_of_le hq hb.size)⟩
theorem RP.text {w : World} {cs : List Cl} {out v v' : Value} {C : Nat} {x : Cl} {rest rest' : List UInt8} {wr w' : World} (h : RP w cs out C x v rest wr) (hb : Below wr.heap.size wr w') (hp : PartB (Old w) w' v' rest') : RP w cs out C x v' rest' w' :=
  ⟨h.low, h.below.trans (hb.mono h.below.size), h.blk.below hb h.blk.lt, h.own.below hb, h.olt, hp⟩
theorem RP.left {w : World} {cs : List Cl} {out v v' : Value} {C : Nat} {x : Cl} {rest rest' : List UInt8} {wr : World} (h : RP w cs out C x v rest wr) (hp : PartB (Old w) wr v' rest') : RP w cs out C x v' rest' wr :=
  ⟨h.low, h.below, h.blk, h.own, h.olt, hp⟩
theorem RP.put {w : World} {cs : List Cl} {out v : Value} {C : Nat} {x x' : Cl} {rest : List UInt8} {wr : World} (h : RP w cs out C x v rest wr) (j : Nat) (u : Value) (hx : rowC x' = (rowC x).set j u) : RP w cs out C x' v rest (wr.setCell ⟨C, j, none⟩ u) := by
  have hl := h.low
  have hk : Kept (fun q => q ≠ C) wr (wr.setCell ⟨C, j, none⟩ u) := (Kept.refl _ _).setCell (by simp) _
  refine ⟨hl, kept_below h.below hk fun q hq => by omega, ?_, h.own.kept hk fun q hq => by have := h.olt q hq; omega, h.olt, h.part.kept (hk.shrink fun q (hq : q < w.heap.size) => by omega)⟩
  rw [hx]; exact h.blk.set j u
theorem RP.drew {w : World} {cs : List Cl} {out v : Value} {C : Nat} {x : Cl} {rest : List UInt8} {wr : World} (h : RP w cs out C x v rest wr) : RP w cs out C x v rest wr.drew :=
  ⟨h.low, h.below.drew, h.blk, h.own, h.olt, h.part⟩
theorem RP.done {w : World} {cs : List Cl} {out v' v : Value} {C : Nat} {x : Cl} {rest : List UInt8} {wr w2 w3 : World} (h : RP w cs out C x v rest wr) (hb : Below wr.heap.size wr w2) (ho : OwnC w3 w.heap.size v' (cs ++ [x])) (hg : w2.grownBy w3 out.ownBlock) :
    Below w.heap.size w w3 ∧ OwnC w3 w.heap.size v' (cs ++ [x]) ∧ PartB (Old w) w3 v rest := by
  have h2 := h.text hb (h.part.kept (Kept.of_below hb fun q (hq : q < w.heap.size) => Nat.lt_of_lt_of_le hq h.below.size))
  have hk : Below w.heap.size w2 w3 := grown_belowC hg h2.own h2.below.size
  exact ⟨h2.below.trans hk, ho, h2.part.kept (Kept.of_below hk fun q hq => hq)⟩
theorem RP.fail {w : World} {cs : List Cl} {out v : Value} {C : Nat} {x : Cl} {rest : List UInt8} {wr w' : World} (h : RP w cs out C x v rest wr) (hb : Below wr.heap.size wr w') : Below w.heap.size w w' := h.below.trans (hb.mono h.below.size)
theorem part_cut {ok : Nat → Prop} {w : World} {b0 off0 n c m : Nat} {l : List UInt8} (h : PartB ok w (.slice (some ⟨b0, off0, none⟩) n c) l) (hm : m ≤ n) :
    (c = m → PartB ok w (.slice (some ⟨b0, off0, none⟩) (n - m) (c - m)) (l.drop m)) ∧ (¬ c = m → PartB ok w (.slice (some ⟨b0, off0 + m, none⟩) (n - m) (c - m)) (l.drop m)) := by
  obtain ⟨h1, h2⟩ := h.slice m hm
  rw [Option.map_some, addr_add] at h2
  exact ⟨fun e => by have := h1 e; rwa [show c - m = 0 from by omega], h2⟩
theorem parse_fail {k : Int} {leaf : Bool} {b rest : List UInt8} {n j : Nat} {cs : List Cl} (hk : k = 2 ∨ k = 3) (hl : decide (k = 2) = leaf) (hn : n = val (b.take 2)) (hj : j < n) (hr : readLs leaf (b.drop (2 + 2 * n)) j = some (cs, rest)) (hx : readL leaf rest = none) : parseC k b = ([], 151) := by
  subst hl
  subst hn
  refine parseL_none hk (show j + 1 ≤ _ from hj) ?_
  rw [readLs, hr]
  simp only [hx]
theorem read_more {leaf : Bool} {l rest rest' : List UInt8} {j : Nat} {cs : List Cl} {c : Cl} (hr : readLs leaf l j = some (cs, rest)) (hx : readL leaf rest = some (c, rest')) : readLs leaf l (j + 1) = some (cs ++ [c], rest') := by
  rw [readLs, hr]
  simp only [hx]
theorem new_row (wr : World) (x : Cl) (t : TypeId) : ∀ j u, (rowC x)[j]? = some u → (wr.alloc (.cells (rowC x).toArray t)).cell? ((⟨wr.heap.size, 0, none⟩ : Addr).add j) = some u := by
  intro j u h
  rw [addr_add, Nat.zero_add, (Blk.new wr (rowC x) t).cell, h]
theorem readL_long_short {l r : List UInt8} {key : ByteArray} {z : UInt8} (h : readS l = some (key, z :: r)) (hz : z.toNat = 1) (hr : r.length < 8) : readL true l = none := by
  by_cases h4 : r.length < 4
  · simp [readL, h, hz, readN, h4]
  · simp [readL, h, hz, readN, h4, show r.length - 4 < 4 by omega]
theorem readL_long {l r : List UInt8} {key : ByteArray} {z : UInt8} (h : readS l = some (key, z :: r)) (hz : z.toNat = 1) (hr : ¬ r.length < 8) : readL true l = some (⟨key, ⟨#[]⟩, true, (val (r.take 4) : Nat), (val ((r.drop 4).take 4) : Nat)⟩, (r.drop 4).drop 4) := by
  simp [readL, h, hz, readN, show ¬ r.length < 4 by omega, show ¬ r.length - 4 < 4 by omega]
theorem readL_inline_none {l r : List UInt8} {key : ByteArray} {z : UInt8} (h : readS l = some (key, z :: r)) (hz : ¬ z.toNat = 1) (hr : readS r = none) : readL true l = none := by
  simp [readL, h, hz, hr]
theorem readL_inline {l r r' : List UInt8} {key t : ByteArray} {z : UInt8} (h : readS l = some (key, z :: r)) (hz : ¬ z.toNat = 1) (hr : readS r = some (t, r')) : readL true l = some (⟨key, t, false, 0, 0⟩, r') := by
  simp [readL, h, hz, hr]
theorem readL_branch_short {l r : List UInt8} {key : ByteArray} (h : readS l = some (key, r)) (hr : r.length < 4) : readL false l = none := by
  simp [readL, h, readN, hr]
theorem readL_branch {l r : List UInt8} {key : ByteArray} (h : readS l = some (key, r)) (hr : ¬ r.length < 4) : readL false l = some (⟨key, ⟨#[]⟩, false, (val (r.take 4) : Nat), 0⟩, r.drop 4) := by
  simp [readL, h, readN, hr]
theorem parse_end0 {k : Int} {b : List UInt8} {w w' : World} (hp : parseC k b = ([], 151)) (hb : Below w.heap.size w w') : ParseEnd k b w (.returned (.tuple #[.slice none 0 0, .int .i64 151])) w' :=
  ⟨_, by rw [hp], by rw [hp]; exact OwnC.nil _ _, hb⟩
set_option maxRecDepth 100000 in
set_option maxHeartbeats 16000000 in
theorem rparse_2 (vb : Value) (b : List UInt8) (w : World) (hp : PartB (Old w) w vb b) : Calls Try.prog 42 #[.int .i64 2, vb] w (ParseEnd 2 b w) := by
  have hmx : Try.prog.follows .mixedOrders = true := by kernel_rfl
  have HP := hid hp
  obtain ⟨ab, cb, rfl, hx, hc1, hc2, hc3⟩ := hp
  by_cases g1 : b.length < 2
  · have HE := hid (parse_short (k := 2) (.inl rfl) (.inr g1))
    have i1 : (b.length : Int) < 2 := by omega
    generalize b.length = n0 at *
    clear hx hc1 hc2 hc3 g1
    go_enter Try.func42, Try.ntmps42
    go_wp2_with fail
    exact bodyPost_ret (v := .tuple #[.slice none 0 0, .int .i64 151]) (by simp [results, Try.results42, go_sem]) rfl (parse_end0 HE.out (Below.refl _ _))
  by_cases g2 : 232 < b.length
  · have HE := hid (parse_short (k := 2) (.inl rfl) (.inl g2))
    have i1 : ¬ (b.length : Int) < 2 := by omega
    have i2 : (232 : Int) < (b.length : Int) := by omega
    generalize b.length = n0 at *
    clear hx hc1 hc2 hc3 g1 g2
    go_enter Try.func42, Try.ntmps42
    go_wp2_with fail
    exact bodyPost_ret (v := .tuple #[.slice none 0 0, .int .i64 151]) (by simp [results, Try.results42, go_sem]) rfl (parse_end0 HE.out (Below.refl _ _))
  have G12 := hid (show ¬ (232 < b.length ∨ b.length < 2) by omega)
  obtain ⟨x, y, r0, rfl⟩ : ∃ x y r, b = x :: y :: r := by
    match b, g1 with
    | x :: y :: r, _ => exact ⟨x, y, r, rfl⟩
    | [x], h => exact absurd (by simp) h
    | [], h => exact absurd (by simp) h
  obtain ⟨b0, off0, rfl, ho0, c0⟩ := hx 0 (by simp)
  obtain ⟨b0', off0', e0, -, c1⟩ := hx 1 (by simp)
  cases e0
  simp only [List.getElem_cons_zero, List.getElem_cons_succ, Nat.add_zero] at c0 c1
  have hv := val_pair x y r0
  have hxl := x.toNat_lt
  have hyl := y.toNat_lt
  obtain ⟨B, hB⟩ : ∃ B, B = x :: y :: r0 := ⟨_, rfl⟩
  rw [← hB] at hv HP hc1 g1 g2 G12 ⊢
  obtain ⟨n, hn⟩ : ∃ n, n = val (B.take 2) := ⟨_, rfl⟩
  have HN := hid hn
  rw [← hn] at hv
  generalize hX : x.toNat = xn at *
  generalize hY : y.toNat = yn at *
  have hm := fun h => partB_high (ok := Old w) (w := w) (a := some ⟨b0, off0, none⟩) (cap := cb) (l := B) HP.out.at.1 ⟨hc1, hc2, fun e => by cases e⟩ (2 + 2 * n) h
  have hfew := fun h => parse_few (k := 2) (b := B) (.inl rfl) (by rw [← hn]; exact h)
  generalize hL : B.length = L at *
  have HL := hid hL
  have i1 : ¬ (L : Int) < 2 := by omega
  have i2 : ¬ (232 : Int) < (L : Int) := by omega
  have i3 : (0 : Int) < (L : Int) := by omega
  have i4 : (1 : Int) < (L : Int) := by omega
  have w1 : IntKind.i64.wrap (256 * (xn : Int)) = 256 * (xn : Int) := IntWalk.i64_in _ (by omega)
  have w2 : IntKind.i64.wrap (256 * (xn : Int) + (yn : Int)) = (n : Int) := by rw [hv]; exact IntWalk.i64_in _ (by omega)
  have w3 : IntKind.i64.wrap (2 * (n : Int)) = 2 * (n : Int) := IntWalk.i64_in _ (by omega)
  have w4 : IntKind.i64.wrap (2 + 2 * (n : Int)) = 2 + 2 * (n : Int) := IntWalk.i64_in _ (by omega)
  by_cases gf : L < 2 + 2 * n
  · have HE := hid (hfew gf)
    have i5 : (L : Int) < 2 + 2 * (n : Int) := by omega
    clear hm hfew gf hc1 hc2 hc3 g1 g2 hv hn hX hY hL hx hB
    go_enter Try.func42, Try.ntmps42
    go_upto_region 5 with fail
    go_quiet (fail)
    go_wp2_with fail
    exact bodyPost_ret (v := .tuple #[.slice none 0 0, .int .i64 151]) (by simp [results, Try.results42, go_sem]) rfl (parse_end0 HE.out (below_drewN (Below.refl w.heap.size w) nq))
  have HM := hid (hm (by omega))
  have HGF := hid gf
  have HG := hid (show n ≤ 115 by omega)
  have i5 : ¬ (L : Int) < 2 + 2 * (n : Int) := by omega
  have i6 : (0 : Int) ≤ 2 + 2 * (n : Int) := by omega
  have i7 : 2 + 2 * (n : Int) ≤ (L : Int) := by omega
  have i8 : (2 + 2 * (n : Int)).toNat = 2 + 2 * n := by omega
  have i9 : (L : Int) ≤ (cb : Int) := by omega
  clear hm hfew gf hc1 hc2 hc3 g1 g2 hv hn hX hY hL hx hB
  go_enter Try.func42, Try.ntmps42
  go_upto_region 5 with fail
  go_quiet (fail)
  go_upto_region 8 with fail
  go_cut [7] from 17 (fun left wx => PartB (Old w) wx left (B.drop (2 + 2 * n)) ∧ Below w.heap.size w wx)
  case first =>
    by_cases hcm : cb = 2 + 2 * n
    · have hct : (cb = 2 + 2 * n) = True := eq_true hcm
      have HCM := hid hcm
      clear hcm
      go_wp2_with fail
      go_meet
      exact ⟨((part_cut HP.out (by omega)).1 HCM.out).kept (Kept.drewN _ _ _), below_drewN (Below.refl _ _) _⟩
    · have HCM := hid hcm
      go_wp2_with fail
      go_meet
      exact ⟨((part_cut HP.out (by omega)).2 HCM.out).kept (Kept.drewN _ _ _), below_drewN (Below.refl _ _) _⟩
  case rest =>
    obtain ⟨hpt, hbl⟩ := hcut
    have HPT := hid hpt
    have HBL := hid hbl
    clear hpt hbl i1 i2 i3 i4 i5 i6 i7 i8 i9 w1 w2 w3 w4 c0 c1 hxl hyl
    go_wp2_with fail
    go_loopw [7, 8, 9] (fun left out i wr => ∃ (j : Nat) (cs : List Cl) (rest : List UInt8), j ≤ n ∧ i = .int .i64 (j : Int) ∧ Hid (readLs true (B.drop (2 + 2 * n)) j = some (cs, rest)) ∧ Below w.heap.size w wr ∧ OwnC wr w.heap.size out cs ∧ PartB (Old w) wr left rest) (fun _ _ i _ => n - (intOf i).toNat)
    case atStart => exact ⟨0, [], _, Nat.zero_le _, rfl, rfl, HBL.out, OwnC.nil _ _, HPT.out⟩
    case round =>
      obtain ⟨j, cs, rest, hj, rfl, HR, hb, ho, hpt⟩ := hrel
      have HJ := hid hj
      have HCL := hid (show cs.length ≤ 115 by have := readLs_length HR.out; have := HG.out; omega)
      by_cases hlt : j < n
      · have i0 : (j : Int) < (n : Int) := by omega
        have HLT := hid hlt
        have HR0 := hid (RP.start hb ho hpt)
        obtain ⟨av, cv, rfl, -⟩ := hpt
        clear hb ho hj hlt
        have HT := hid (rtx_calls (Old w) _ rest _ HR0.out.part fun q hq => Nat.lt_of_lt_of_le hq HR0.out.below.size)
        simp only [zeroRow] at HR0 HT
        go_wp2_with fail
        generalize wr.alloc (.cells #[.string ⟨#[]⟩, .string ⟨#[]⟩, .bool false, .int .i64 0, .int .i64 0] 81) = w1 at *
        generalize wr.heap.size = C at *
        cases hs : readS rest with
        | none =>
          have HE := hid (parse_fail (k := 2) (b := B) (.inl rfl) rfl HN.out HLT.out HR.out (by simp [readL, hs]))
          rw [hs] at HT
          refine HT.out.mono ?_
          rintro e w2 ⟨rfl, hb2⟩
          have HF := hid (HR0.out.fail hb2)
          clear hb2 HT HR0 hs
          go_wp2_with fail
          exact bodyPost_ret (v := .tuple #[.slice none 0 0, .int .i64 151]) (by simp [results, Try.results42, go_sem]) rfl (parse_end0 HE.out HF.out)
        | some x1 =>
          obtain ⟨key, r1⟩ := x1
          have HS := hid hs
          rw [hs] at HT
          clear hs
          refine HT.out.mono ?_
          rintro e w2 ⟨⟨v1, rfl, hp2⟩, hb2⟩
          have HR2 := hid (HR0.out.text hb2 hp2)
          obtain ⟨a1, c1, rfl, -⟩ := hp2
          clear hb2 HT HR0
          have HR3 := hid (HR2.out.put 0 (.string key) (x' := ⟨key, ⟨#[]⟩, false, 0, 0⟩) rfl)
          have d0 := HR2.out.blk.cell 0
          have f0 := HR2.out.blk.frozen 0
          simp only [rowC, List.getElem?_cons_zero] at d0
          cases r1 with
          | nil =>
            have HE := hid (parse_fail (k := 2) (b := B) (.inl rfl) rfl HN.out HLT.out HR.out (by simp [readL, HS.out]))
            simp only [List.length_nil]
            go_wp2_with fail
            exact bodyPost_ret (v := .tuple #[.slice none 0 0, .int .i64 151]) (by simp [results, Try.results42, go_sem]) rfl (parse_end0 HE.out HR3.out.below)
          | cons z r2 =>
            obtain ⟨b1, o1, rfl, ho1, cz⟩ := HR3.out.part.at.1 0 (by simp)
            simp only [List.getElem_cons_zero, Nat.add_zero] at cz
            have HZ := hid (And.intro ho1 cz)
            clear ho1 cz
            have hzl := z.toNat_lt
            obtain ⟨zn, hzn⟩ : ∃ n, n = z.toNat := ⟨_, rfl⟩
            rw [← hzn] at HZ hzl
            have HZN := hid hzn
            clear hzn
            obtain ⟨r2l, hr2l⟩ : ∃ n, n = r2.length := ⟨_, rfl⟩
            have HRL := hid hr2l
            simp only [List.length_cons, ← hr2l] at HR2 HR3 ⊢
            have j1 : ¬ (r2l : Int) + 1 < 1 := by omega
            have j2 : (0 : Int) < (r2l : Int) + 1 := by omega
            have j3 : (1 : Int) ≤ (r2l : Int) + 1 := by omega
            clear hr2l
            go_upto_region 22 with fail
            generalize w2.setCell ⟨C, 0, none⟩ (.string key) = w3 at *
            clear d0 f0 HR2
            have cz := HZ.out.2
            have hne : b1 ≠ C := by have h1 : b1 < w.heap.size := HZ.out.1; have := HR3.out.low; omega
            have HCC := hid (show r2l + 1 ≤ c1 from HR3.out.part.at.2.2.1)
            have j4 : (1 : Int) ≤ (c1 : Int) := by have := HCC.out; omega
            have j5 : (r2l : Int) + 1 ≤ (c1 : Int) := by have := HCC.out; omega
            have d2 := HR3.out.blk.cell 2
            have f2 := HR3.out.blk.frozen 2
            simp only [rowC, List.getElem?_cons_zero, List.getElem?_cons_succ] at d2
            by_cases hz : zn = 1
            · have t1 : ((zn : Int) == 1) = true := by rw [hz]; rfl
              have t2 : ((zn : Int) != 1) = false := by rw [hz]; rfl
              have HZ1 := hid hz
              have HR4 := hid (HR3.out.put 2 (.bool true) (x' := ⟨key, ⟨#[]⟩, true, 0, 0⟩) rfl).drew
              clear hz
              go_region
              generalize (w3.setCell ⟨C, 2, none⟩ (.bool true)).drew = w4 at *
              clear cz d2 f2 HR3 HZ t1 t2 hne
              go_upto_region 23 with fail
              go_cut [7] from 52 to 134 (fun left wx => Hid (RP w cs u8 C ⟨key, ⟨#[]⟩, true, 0, 0⟩ left r2 wx))
              case first =>
                by_cases hcm : c1 = 1
                · have hct : (c1 = 1) = True := eq_true hcm
                  have HCM := hid hcm
                  clear hcm
                  go_wp2_with fail
                  go_meet
                  exact hid (HR4.out.left ((part_cut HR4.out.part (show 1 ≤ r2l + 1 by omega)).1 HCM.out))
                · have HCM := hid hcm
                  go_wp2_with fail
                  go_meet
                  exact hid (HR4.out.left ((part_cut HR4.out.part (show 1 ≤ r2l + 1 by omega)).2 HCM.out))
              case rest =>
                obtain ⟨a2, c2, rfl, -⟩ := hcut.out.part
                have HR2 := hcut
                clear hcut
                obtain ⟨m2, hm2⟩ : ∃ n, n = (r2).length := ⟨_, rfl⟩
                have HM2 := hid hm2
                simp only [← hm2] at HR2 ⊢
                clear hm2
                by_cases h8 : m2 < 8
                · have HE := hid (parse_fail (k := 2) (b := B) (.inl rfl) rfl HN.out HLT.out HR.out (readL_long_short HS.out (by rw [← HZN.out]; exact HZ1.out) (by rw [← HM2.out]; exact h8)))
                  by_cases h4 : m2 < 4
                  · have e1 : (m2 : Int) < 4 := by omega
                    clear h4 h8
                    go_wp2_with fail
                    exact bodyPost_ret (v := .tuple #[.slice none 0 0, .int .i64 151]) (by simp [results, Try.results42, go_sem]) rfl (parse_end0 HE.out HR2.out.below)
                  · have e1 : ¬ (m2 : Int) < 4 := by omega
                    have e2 : (m2 : Int) < 8 := by omega
                    clear h4 h8
                    go_wp2_with fail
                    exact bodyPost_ret (v := .tuple #[.slice none 0 0, .int .i64 151]) (by simp [results, Try.results42, go_sem]) rfl (parse_end0 HE.out HR2.out.below)
                · have HL8 := hid h8
                  have H42 := hid (show 4 ≤ m2 by omega)
                  have g4 : ¬ (m2 : Int) < 4 := by omega
                  have g8 : ¬ (m2 : Int) < 8 := by omega
                  clear h8
                  obtain ⟨b2, o2, rfl, -⟩ := HR2.out.part.at.1 0 (by rw [← HM2.out]; have := H42.out; omega)
                  have HCC2 := hid HR2.out.part.at.2.2.1
                  obtain ⟨p2, hp2⟩ : ∃ p, p = val ((r2).take 4) := ⟨_, rfl⟩
                  have HP2 := hid hp2
                  have HPL2 := hid (show p2 < 4294967296 by rw [hp2]; exact val_four (by omega))
                  have HN2 := hid (show Calls Try.prog 31 #[.slice (some ⟨b2, o2, none⟩) m2 c2, .int .i64 4] wc fun e w' => e = .returned (.tuple #[.int .u64 (p2 : Int), .bool true]) ∧ wc = w' from by have := refread_calls (some ⟨b2, o2, none⟩) c2 (r2) 4 (Old w) wc HR2.out.part.at.1 (by have := HM2.out; have := H42.out; omega) (by omega); rw [← HM2.out, ← hp2] at this; exact this)
                  clear hp2
                  go_wp2_with fail
                  refine HN2.out.mono ?_
                  rintro e w' ⟨rfl, rfl⟩
                  clear HN2
                  go_upto_region 32 with fail
                  go_cut [7] from 52 to 134 (fun left wx => Hid (RP w cs u8 C ⟨key, ⟨#[]⟩, true, (p2 : Int), 0⟩ left ((r2).drop 4) wx))
                  case first =>
                    have dd := HR2.out.blk.cell 3
                    have df := HR2.out.blk.frozen 3
                    simp only [rowC, List.getElem?_cons_zero, List.getElem?_cons_succ] at dd
                    have hpl := HPL2.out
                    have hw : IntKind.i64.wrap (p2 : Int) = (p2 : Int) := IntWalk.i64_in _ (by omega)
                    have e1 : (4 : Int) ≤ (m2 : Int) := by have := H42.out; omega
                    have e2 : (m2 : Int) ≤ (c2 : Int) := by have := HCC2.out; omega
                    have e3 : (4 : Int) ≤ (c2 : Int) := by omega
                    have HQ := hid (HR2.out.put 3 (.int .i64 (p2 : Int)) (x' := ⟨key, ⟨#[]⟩, true, (p2 : Int), 0⟩) rfl).drew
                    have HQP := hid (part_cut HQ.out.part (show 4 ≤ m2 from H42.out))
                    by_cases hcm : c2 = 4
                    · have hct : (c2 = 4) = True := eq_true hcm
                      have HCM := hid hcm
                      clear hcm hpl
                      go_region
                      all_goals go_wp2_with fail
                      all_goals go_meet
                      all_goals exact hid (HQ.out.left (HQP.out.1 HCM.out))
                    · have HCM := hid hcm
                      clear hpl
                      go_region
                      all_goals go_wp2_with fail
                      all_goals go_meet
                      all_goals exact hid (HQ.out.left (HQP.out.2 HCM.out))
                  case rest =>
                    clear g4 g8 HR2
                    obtain ⟨a4, c4, rfl, -⟩ := hcut.out.part
                    have HR4 := hcut
                    clear hcut
                    obtain ⟨m4, hm4⟩ : ∃ n, n = (r2.drop 4).length := ⟨_, rfl⟩
                    have HM4 := hid hm4
                    simp only [← hm4] at HR4 ⊢
                    clear hm4
                    have H44 := hid (show 4 ≤ m4 by rw [HM4.out, List.length_drop, ← HM2.out]; have := HL8.out; omega)
                    obtain ⟨b4, o4, rfl, -⟩ := HR4.out.part.at.1 0 (by rw [← HM4.out]; have := H44.out; omega)
                    have HCC4 := hid HR4.out.part.at.2.2.1
                    obtain ⟨p4, hp4⟩ : ∃ p, p = val ((r2.drop 4).take 4) := ⟨_, rfl⟩
                    have HP4 := hid hp4
                    have HPL4 := hid (show p4 < 4294967296 by rw [hp4]; exact val_four (by omega))
                    have HN4 := hid (show Calls Try.prog 31 #[.slice (some ⟨b4, o4, none⟩) m4 c4, .int .i64 4] wc fun e w' => e = .returned (.tuple #[.int .u64 (p4 : Int), .bool true]) ∧ wc = w' from by have := refread_calls (some ⟨b4, o4, none⟩) c4 (r2.drop 4) 4 (Old w) wc HR4.out.part.at.1 (by have := HM4.out; have := H44.out; omega) (by omega); rw [← HM4.out, ← hp4] at this; exact this)
                    clear hp4
                    go_wp2_with fail
                    refine HN4.out.mono ?_
                    rintro e w' ⟨rfl, rfl⟩
                    clear HN4
                    go_upto_region 35 with fail
                    go_cut [7] from 52 to 134 (fun left wx => Hid (RP w cs u8 C ⟨key, ⟨#[]⟩, true, (p2 : Int), (p4 : Int)⟩ left ((r2.drop 4).drop 4) wx))
                    case first =>
                      have dd := HR4.out.blk.cell 4
                      have df := HR4.out.blk.frozen 4
                      simp only [rowC, List.getElem?_cons_zero, List.getElem?_cons_succ] at dd
                      have hpl := HPL4.out
                      have hw : IntKind.i64.wrap (p4 : Int) = (p4 : Int) := IntWalk.i64_in _ (by omega)
                      have e1 : (4 : Int) ≤ (m4 : Int) := by have := H44.out; omega
                      have e2 : (m4 : Int) ≤ (c4 : Int) := by have := HCC4.out; omega
                      have e3 : (4 : Int) ≤ (c4 : Int) := by omega
                      have HQ := hid (HR4.out.put 4 (.int .i64 (p4 : Int)) (x' := ⟨key, ⟨#[]⟩, true, (p2 : Int), (p4 : Int)⟩) rfl).drew
                      have HQP := hid (part_cut HQ.out.part (show 4 ≤ m4 from H44.out))
                      by_cases hcm : c4 = 4
                      · have hct : (c4 = 4) = True := eq_true hcm
                        have HCM := hid hcm
                        clear hcm hpl
                        go_region
                        all_goals go_wp2_with fail
                        all_goals go_meet
                        all_goals exact hid (HQ.out.left (HQP.out.1 HCM.out))
                      · have HCM := hid hcm
                        clear hpl
                        go_region
                        all_goals go_wp2_with fail
                        all_goals go_meet
                        all_goals exact hid (HQ.out.left (HQP.out.2 HCM.out))
                    case rest =>
                      clear HR4
                      obtain ⟨a9, c9, rfl, -⟩ := hcut.out.part
                      have HR9 := hcut
                      clear hcut
                      obtain ⟨m9, hm9⟩ : ∃ n, n = ((r2.drop 4).drop 4).length := ⟨_, rfl⟩
                      have HM9 := hid hm9
                      simp only [← hm9] at HR9 ⊢
                      clear hm9
                      have b0' := HR9.out.blk.cell 0
                      have b1' := HR9.out.blk.cell 1
                      have b2' := HR9.out.blk.cell 2
                      have b3' := HR9.out.blk.cell 3
                      have b4' := HR9.out.blk.cell 4
                      simp only [rowC, List.getElem?_cons_zero, List.getElem?_cons_succ] at b0' b1' b2' b3' b4'
                      have hwj : IntKind.i64.wrap ((j : Int) + 1) = (j : Int) + 1 := IntWalk.i64_in _ (by have := HG.out; omega)
                      have HBA := hid (show Below wc.heap.size wc (wc.alloc (.cells (rowC ⟨key, ⟨#[]⟩, true, (p2 : Int), (p4 : Int)⟩).toArray 81)) from (Below.refl _ _).alloc (Nat.le_refl _) _)
                      go_wp2_with (at_builtin; refine wpList_appendC1 rfl (.tmp 131) (.tmp 133) rfl w.heap.size _ cs rfl (HR9.out.own.below HBA.out) ⟨wc.heap.size, 0, none⟩ ⟨key, ⟨#[]⟩, true, (p2 : Int), (p4 : Int)⟩ 1 rfl (new_row wc ⟨key, ⟨#[]⟩, true, (p2 : Int), (p4 : Int)⟩ 81) (by have := HCL.out; omega) (Nat.le_trans HR9.out.below.size HBA.out.size) ?_; intro v9 w9 hv9 hg9 ho9; have HY := hid (HR9.out.done HBA.out hv9 hg9); clear hv9 hg9 ho9)
                      go_roundw
                      case rel => exact ⟨j + 1, cs ++ [⟨key, ⟨#[]⟩, true, (p2 : Int), (p4 : Int)⟩], _, HLT.out, by go_num, read_more HR.out (by rw [HP2.out, HP4.out]; exact readL_long HS.out (by rw [← HZN.out]; exact HZ1.out) (by rw [← HM2.out]; exact HL8.out)), HY.out.1, HY.out.2.1, HY.out.2.2⟩
                      case measure => simp [intOf]; have := HLT.out; omega
            · have t1 : ((zn : Int) == 1) = false := by simp only [beq_eq_false_iff_ne]; omega
              have t2 : ((zn : Int) != 1) = true := by simp only [bne_iff_ne]; omega
              have HZ1 := hid hz
              have HR4 := hid (HR3.out.put 2 (.bool false) (x' := ⟨key, ⟨#[]⟩, false, 0, 0⟩) rfl).drew
              clear hz
              go_region
              generalize (w3.setCell ⟨C, 2, none⟩ (.bool false)).drew = w4 at *
              clear cz d2 f2 HR3 HZ t1 hne
              go_upto_region 23 with fail
              clear t2
              go_cut [7] from 52 to 134 (fun left wx => Hid (RP w cs u8 C ⟨key, ⟨#[]⟩, false, 0, 0⟩ left r2 wx))
              case first =>
                by_cases hcm : c1 = 1
                · have hct : (c1 = 1) = True := eq_true hcm
                  have HCM := hid hcm
                  clear hcm
                  go_wp2_with fail
                  go_meet
                  exact hid (HR4.out.left ((part_cut HR4.out.part (show 1 ≤ r2l + 1 by omega)).1 HCM.out))
                · have HCM := hid hcm
                  go_wp2_with fail
                  go_meet
                  exact hid (HR4.out.left ((part_cut HR4.out.part (show 1 ≤ r2l + 1 by omega)).2 HCM.out))
              case rest =>
                clear HR4
                have HT2 := hid (rtx_calls (Old w) _ r2 _ hcut.out.part fun q hq => Nat.lt_of_lt_of_le hq hcut.out.below.size)
                have HR5 := hcut
                obtain ⟨a2, c2, rfl, -⟩ := hcut.out.part
                clear hcut
                go_wp2_with fail
                cases hs2 : readS r2 with
                | none =>
                  have HE := hid (parse_fail (k := 2) (b := B) (.inl rfl) rfl HN.out HLT.out HR.out (readL_inline_none HS.out (by rw [← HZN.out]; exact HZ1.out) hs2))
                  rw [hs2] at HT2
                  refine HT2.out.mono ?_
                  rintro e w5 ⟨rfl, hb5⟩
                  have HF := hid (HR5.out.fail hb5)
                  clear hb5 HT2 HR5 hs2
                  go_wp2_with fail
                  exact bodyPost_ret (v := .tuple #[.slice none 0 0, .int .i64 151]) (by simp [results, Try.results42, go_sem]) rfl (parse_end0 HE.out HF.out)
                | some y1 =>
                  obtain ⟨t, r3⟩ := y1
                  have HS2 := hid hs2
                  rw [hs2] at HT2
                  clear hs2
                  refine HT2.out.mono ?_
                  rintro e w5 ⟨⟨v5, rfl, hp5⟩, hb5⟩
                  have HR6 := hid (HR5.out.text hb5 hp5)
                  obtain ⟨a5, c5, rfl, -⟩ := hp5
                  obtain ⟨m5, hm5⟩ : ∃ n, n = r3.length := ⟨_, rfl⟩
                  simp only [← hm5] at HR6 ⊢
                  clear hm5 hb5 HT2 HR5
                  have HR7 := hid (HR6.out.put 1 (.string t) (x' := ⟨key, t, false, 0, 0⟩) rfl)
                  have d1 := HR6.out.blk.cell 1
                  have f1 := HR6.out.blk.frozen 1
                  simp only [rowC, List.getElem?_cons_zero, List.getElem?_cons_succ] at d1
                  go_upto_region 36 with fail
                  generalize w5.setCell ⟨C, 1, none⟩ (.string t) = w6 at *
                  clear d1 f1 HR6
                  have b0' := HR7.out.blk.cell 0
                  have b1' := HR7.out.blk.cell 1
                  have b2' := HR7.out.blk.cell 2
                  have b3' := HR7.out.blk.cell 3
                  have b4' := HR7.out.blk.cell 4
                  simp only [rowC, List.getElem?_cons_zero, List.getElem?_cons_succ] at b0' b1' b2' b3' b4'
                  have hwj : IntKind.i64.wrap ((j : Int) + 1) = (j : Int) + 1 := IntWalk.i64_in _ (by have := HG.out; omega)
                  have HBA := hid (show Below w6.heap.size w6 (w6.alloc (.cells (rowC ⟨key, t, false, 0, 0⟩).toArray 81)) from (Below.refl _ _).alloc (Nat.le_refl _) _)
                  go_wp2_with (at_builtin; refine wpList_appendC1 rfl (.tmp 131) (.tmp 133) rfl w.heap.size _ cs rfl (HR7.out.own.below HBA.out) ⟨w6.heap.size, 0, none⟩ ⟨key, t, false, 0, 0⟩ 1 rfl (new_row w6 ⟨key, t, false, 0, 0⟩ 81) (by have := HCL.out; omega) (Nat.le_trans HR7.out.below.size HBA.out.size) ?_; intro v9 w9 hv9 hg9 ho9; have HY := hid (HR7.out.done HBA.out hv9 hg9); clear hv9 hg9 ho9)
                  go_roundw
                  case rel => exact ⟨j + 1, cs ++ [⟨key, t, false, 0, 0⟩], _, HLT.out, by go_num, read_more HR.out (readL_inline HS.out (by rw [← HZN.out]; exact HZ1.out) HS2.out), HY.out.1, HY.out.2.1, HY.out.2.2⟩
                  case measure => simp [intOf]; have := HLT.out; omega

      · have hjn : j = n := by omega
        have i0 : ¬ (j : Int) < (n : Int) := by omega
        have HPE := hid (parseL_end (k := 2) (b := B) (cs := cs) (rest := rest) (.inl rfl) (by rw [HL.out]; exact G12.out) (by rw [← HN.out, HL.out]; exact HGF.out) (by rw [← HN.out, ← hjn]; rw [← hjn] at HR; exact HR.out))
        rw [show decide ((2 : Int) = 2) = true from rfl] at HPE
        have HO := hid ho
        have HBR := hid hb
        clear hlt hj hjn hpt hb ho HPT HBL HR HJ
        go_upto_region 37 with fail
        by_cases hr : rightC 2 cs = true
        · have HRR := hid hr
          obtain ⟨AL, hal⟩ : ∃ AL, AL = allC true cs := ⟨_, rfl⟩
          have HAL := hid (show allC (decide ((2 : Int) = 2)) cs = AL from hal.symm)
          by_cases ha : AL = B
          · have HE := hid (show parseC 2 B = (cs, 0) by rw [HPE.out, if_pos ⟨hr, by rw [← hal]; exact ha⟩])
            subst ha
            clear hal hr HPE
            refine AnyOrder.wp_region_grows_g [
                fun v _ => v = .int .i64 2,
                fun v _ => v = u8,
                fun v _ => v = .bool true,
                fun v _ => v = .bool false,
                fun v _ => v = .bool false,
                fun v _ => v = .int .i64 2,
                fun v _ => v = u8,
                fun v w' => OwnB w' wr.heap.size v AL,
                fun v _ => v = .string ⟨AL.toArray⟩,
                fun v _ => v = .slice (some ⟨b0, off0, none⟩) L cb,
                fun v _ => v = .string ⟨AL.toArray⟩,
                fun v _ => v = .bool false,
                fun v _ => v = .bool false] hmx (by kernel_rfl) ?_ ?_ ?_
            · intro p hp
              simp only [List.mem_cons, List.not_mem_nil, or_false] at hp
              rcases hp with rfl | rfl | rfl | rfl | rfl | rfl | rfl | rfl | rfl | rfl | rfl | rfl | rfl
              all_goals first
                | exact AnyOrder.stays_const _
                | (intro v w1 w2 hg hb; exact OwnB.below hb hg)
            · simp only [AnyOrder.dstsOf, List.map_cons, List.map_nil, AnyOrder.GSteps, Nat.zero_add, Nat.reduceAdd]
              refine ⟨?_, ?_, ?_, ?_, ?_, ?_, ?_, ?_, ?_, ?_, ?_, ?_, ?_, trivial⟩
              · intro ρ w' hk
                have k0 : ρ (.tmp 0) = .int .i64 2 := hk.old 0 rfl
                clear hk
                go_simp
                exact ⟨AnyOrder.Grows.refl _, by first | rfl | (simp [AnyOrder.nth]; done) | (simp [AnyOrder.nth]; omega)⟩
              · intro ρ w' hk
                have k8 : ρ (.tmp 8) = u8 := hk.old 8 rfl
                clear hk
                go_simp
                exact ⟨AnyOrder.Grows.refl _, by first | rfl | (simp [AnyOrder.nth]; done) | (simp [AnyOrder.nth]; omega)⟩
              · intro ρ w' hk
                have k135 : ρ (.tmp 135) = .int .i64 2 := hk.at 0 rfl
                have k136 : ρ (.tmp 136) = u8 := hk.at 1 rfl
                have kf := hk.func
                have kw := AnyOrder.Grows.of_drew hk.world
                clear hk
                go_simp
                refine (right_calls 2 _ cs w' (HO.out.below kw).low).mono ?_
                rintro e w'' ⟨rfl, hb⟩
                rw [HRR.out]
                exact ⟨_, rfl, hb, rfl⟩
              · intro ρ w' hk
                have k137 : ρ (.tmp 137) = .bool true := hk.at 2 rfl
                clear hk
                go_simp
                exact ⟨AnyOrder.Grows.refl _, by first | rfl | (simp [AnyOrder.nth]; done) | (simp [AnyOrder.nth]; omega)⟩
              · intro ρ w' hk
                have k138 : ρ (.tmp 138) = .bool false := hk.at 3 rfl
                clear hk
                go_simp
                exact ⟨AnyOrder.Grows.refl _, by first | rfl | (simp [AnyOrder.nth]; done) | (simp [AnyOrder.nth]; omega)⟩
              · intro ρ w' hk
                refine AnyOrder.guard_run (hk.at 4 rfl) ?_
                have k0 : ρ (.tmp 0) = .int .i64 2 := hk.old 0 rfl
                clear hk
                go_simp
                exact ⟨AnyOrder.Grows.refl _, by first | rfl | (simp [AnyOrder.nth]; done) | (simp [AnyOrder.nth]; omega)⟩
              · intro ρ w' hk
                refine AnyOrder.guard_run (hk.at 4 rfl) ?_
                have k8 : ρ (.tmp 8) = u8 := hk.old 8 rfl
                clear hk
                go_simp
                exact ⟨AnyOrder.Grows.refl _, by first | rfl | (simp [AnyOrder.nth]; done) | (simp [AnyOrder.nth]; omega)⟩
              · intro ρ w' hk
                refine AnyOrder.guard_run (hk.at 4 rfl) ?_
                have k140 : ρ (.tmp 140) = .int .i64 2 := hk.at 5 rfl
                have k141 : ρ (.tmp 141) = u8 := hk.at 6 rfl
                have kf := hk.func
                have kw := AnyOrder.Grows.of_drew hk.world
                clear hk
                go_simp
                refine (rallk_calls 2 _ cs w' (HO.out.below kw).low HRR.out (by have := HCL.out; omega)).mono ?_
                rintro e w'' ⟨v, rfl, ho, hb⟩
                rw [HAL.out] at ho
                exact ⟨_, rfl, hb, ho.mono fun q e => by have := (ho.block e).1; have := kw.size; omega⟩
              · intro ρ w' hk
                refine AnyOrder.guard_run (hk.at 4 rfl) ?_
                have k142 : OwnB w' wr.heap.size (ρ (.tmp 142)) AL := hk.at 7 rfl
                have kw := AnyOrder.Grows.of_drew hk.world
                clear hk
                obtain ⟨ca, cc, e, hb, -⟩ := k142.part
                have hcv := run_strB (w := w') _ cc rfl hb
                clear k142 hb
                go_simp
                exact ⟨AnyOrder.Grows.refl _, by first | rfl | (simp [AnyOrder.nth]; done) | (simp [AnyOrder.nth]; omega)⟩
              · intro ρ w' hk
                refine AnyOrder.guard_run (hk.at 4 rfl) ?_
                have k1 : ρ (.tmp 1) = .slice (some ⟨b0, off0, none⟩) L cb := hk.old 1 rfl
                clear hk
                go_simp
                exact ⟨AnyOrder.Grows.refl _, by first | rfl | (simp [AnyOrder.nth]; done) | (simp [AnyOrder.nth]; omega)⟩
              · intro ρ w' hk
                refine AnyOrder.guard_run (hk.at 4 rfl) ?_
                have k144 : ρ (.tmp 144) = .slice (some ⟨b0, off0, none⟩) L cb := hk.at 9 rfl
                have kw := AnyOrder.Grows.of_drew hk.world
                clear hk
                have hcv := run_strB (w := w') L cb HL.out (HP.out.kept (Kept.of_below (HBR.out.trans (kw.mono HBR.out.size)) fun q hq => hq)).at.1
                clear kw
                go_simp
                exact ⟨AnyOrder.Grows.refl _, by first | rfl | (simp [AnyOrder.nth]; done) | (simp [AnyOrder.nth]; omega)⟩
              · intro ρ w' hk
                refine AnyOrder.guard_run (hk.at 4 rfl) ?_
                have k143 : ρ (.tmp 143) = .string ⟨AL.toArray⟩ := hk.at 8 rfl
                have k145 : ρ (.tmp 145) = .string ⟨AL.toArray⟩ := hk.at 10 rfl
                clear hk
                go_simp
                exact ⟨AnyOrder.Grows.refl _, by first | rfl | (simp [AnyOrder.nth]; done) | (simp [AnyOrder.nth]; omega)⟩
              · intro ρ w' hk
                have k139 : ρ (.tmp 139) = .bool false := hk.at 4 rfl
                have k146 : ρ (.tmp 146) = .bool false := hk.at 11 rfl
                have kc := hk.const
                clear hk
                go_simp
                exact ⟨AnyOrder.Grows.refl _, by first | rfl | (simp [AnyOrder.nth]; done) | (simp [AnyOrder.nth]; omega)⟩
            · intro vs w9 hR9 hv9
              have hG9 := AnyOrder.Grows.of_drew hR9
              have v12 : vs 12 = .bool false := hv9 12 (by decide)
              clear hR9 hv9
              simp only [AnyOrder.fill, Nat.zero_add, Nat.reduceAdd, List.setIfInBounds_toArray, List.set_cons_zero, List.set_cons_succ]
              rw [v12]
              clear v12
              have HG9 := hid hG9
              clear hG9
              go_wp2_with fail
              exact bodyPost_ret (v := .tuple #[u8, .int .i64 0]) (by simp [results, Try.results42, go_sem]) rfl ⟨_, by rw [HE.out], by rw [HE.out]; exact HO.out.below HG9.out, HBR.out.trans (HG9.out.mono HBR.out.size)⟩
          · have HE := hid (show parseC 2 B = ([], 151) by rw [HPE.out, if_neg fun h => ha (by rw [hal]; exact h.2)])
            clear hal hr HPE
            refine AnyOrder.wp_region_grows_g [
                fun v _ => v = .int .i64 2,
                fun v _ => v = u8,
                fun v _ => v = .bool true,
                fun v _ => v = .bool false,
                fun v _ => v = .bool false,
                fun v _ => v = .int .i64 2,
                fun v _ => v = u8,
                fun v w' => OwnB w' wr.heap.size v AL,
                fun v _ => v = .string ⟨AL.toArray⟩,
                fun v _ => v = .slice (some ⟨b0, off0, none⟩) L cb,
                fun v _ => v = .string ⟨B.toArray⟩,
                fun v _ => v = .bool true,
                fun v _ => v = .bool true] hmx (by kernel_rfl) ?_ ?_ ?_
            · intro p hp
              simp only [List.mem_cons, List.not_mem_nil, or_false] at hp
              rcases hp with rfl | rfl | rfl | rfl | rfl | rfl | rfl | rfl | rfl | rfl | rfl | rfl | rfl
              all_goals first
                | exact AnyOrder.stays_const _
                | (intro v w1 w2 hg hb; exact OwnB.below hb hg)
            · simp only [AnyOrder.dstsOf, List.map_cons, List.map_nil, AnyOrder.GSteps, Nat.zero_add, Nat.reduceAdd]
              refine ⟨?_, ?_, ?_, ?_, ?_, ?_, ?_, ?_, ?_, ?_, ?_, ?_, ?_, trivial⟩
              · intro ρ w' hk
                have k0 : ρ (.tmp 0) = .int .i64 2 := hk.old 0 rfl
                clear hk
                go_simp
                exact ⟨AnyOrder.Grows.refl _, by first | rfl | (simp [AnyOrder.nth]; done) | (simp [AnyOrder.nth]; omega)⟩
              · intro ρ w' hk
                have k8 : ρ (.tmp 8) = u8 := hk.old 8 rfl
                clear hk
                go_simp
                exact ⟨AnyOrder.Grows.refl _, by first | rfl | (simp [AnyOrder.nth]; done) | (simp [AnyOrder.nth]; omega)⟩
              · intro ρ w' hk
                have k135 : ρ (.tmp 135) = .int .i64 2 := hk.at 0 rfl
                have k136 : ρ (.tmp 136) = u8 := hk.at 1 rfl
                have kf := hk.func
                have kw := AnyOrder.Grows.of_drew hk.world
                clear hk
                go_simp
                refine (right_calls 2 _ cs w' (HO.out.below kw).low).mono ?_
                rintro e w'' ⟨rfl, hb⟩
                rw [HRR.out]
                exact ⟨_, rfl, hb, rfl⟩
              · intro ρ w' hk
                have k137 : ρ (.tmp 137) = .bool true := hk.at 2 rfl
                clear hk
                go_simp
                exact ⟨AnyOrder.Grows.refl _, by first | rfl | (simp [AnyOrder.nth]; done) | (simp [AnyOrder.nth]; omega)⟩
              · intro ρ w' hk
                have k138 : ρ (.tmp 138) = .bool false := hk.at 3 rfl
                clear hk
                go_simp
                exact ⟨AnyOrder.Grows.refl _, by first | rfl | (simp [AnyOrder.nth]; done) | (simp [AnyOrder.nth]; omega)⟩
              · intro ρ w' hk
                refine AnyOrder.guard_run (hk.at 4 rfl) ?_
                have k0 : ρ (.tmp 0) = .int .i64 2 := hk.old 0 rfl
                clear hk
                go_simp
                exact ⟨AnyOrder.Grows.refl _, by first | rfl | (simp [AnyOrder.nth]; done) | (simp [AnyOrder.nth]; omega)⟩
              · intro ρ w' hk
                refine AnyOrder.guard_run (hk.at 4 rfl) ?_
                have k8 : ρ (.tmp 8) = u8 := hk.old 8 rfl
                clear hk
                go_simp
                exact ⟨AnyOrder.Grows.refl _, by first | rfl | (simp [AnyOrder.nth]; done) | (simp [AnyOrder.nth]; omega)⟩
              · intro ρ w' hk
                refine AnyOrder.guard_run (hk.at 4 rfl) ?_
                have k140 : ρ (.tmp 140) = .int .i64 2 := hk.at 5 rfl
                have k141 : ρ (.tmp 141) = u8 := hk.at 6 rfl
                have kf := hk.func
                have kw := AnyOrder.Grows.of_drew hk.world
                clear hk
                go_simp
                refine (rallk_calls 2 _ cs w' (HO.out.below kw).low HRR.out (by have := HCL.out; omega)).mono ?_
                rintro e w'' ⟨v, rfl, ho, hb⟩
                rw [HAL.out] at ho
                exact ⟨_, rfl, hb, ho.mono fun q e => by have := (ho.block e).1; have := kw.size; omega⟩
              · intro ρ w' hk
                refine AnyOrder.guard_run (hk.at 4 rfl) ?_
                have k142 : OwnB w' wr.heap.size (ρ (.tmp 142)) AL := hk.at 7 rfl
                have kw := AnyOrder.Grows.of_drew hk.world
                clear hk
                obtain ⟨ca, cc, e, hb, -⟩ := k142.part
                have hcv := run_strB (w := w') _ cc rfl hb
                clear k142 hb
                go_simp
                exact ⟨AnyOrder.Grows.refl _, by first | rfl | (simp [AnyOrder.nth]; done) | (simp [AnyOrder.nth]; omega)⟩
              · intro ρ w' hk
                refine AnyOrder.guard_run (hk.at 4 rfl) ?_
                have k1 : ρ (.tmp 1) = .slice (some ⟨b0, off0, none⟩) L cb := hk.old 1 rfl
                clear hk
                go_simp
                exact ⟨AnyOrder.Grows.refl _, by first | rfl | (simp [AnyOrder.nth]; done) | (simp [AnyOrder.nth]; omega)⟩
              · intro ρ w' hk
                refine AnyOrder.guard_run (hk.at 4 rfl) ?_
                have k144 : ρ (.tmp 144) = .slice (some ⟨b0, off0, none⟩) L cb := hk.at 9 rfl
                have kw := AnyOrder.Grows.of_drew hk.world
                clear hk
                have hcv := run_strB (w := w') L cb HL.out (HP.out.kept (Kept.of_below (HBR.out.trans (kw.mono HBR.out.size)) fun q hq => hq)).at.1
                clear kw
                go_simp
                exact ⟨AnyOrder.Grows.refl _, by first | rfl | (simp [AnyOrder.nth]; done) | (simp [AnyOrder.nth]; omega)⟩
              · intro ρ w' hk
                refine AnyOrder.guard_run (hk.at 4 rfl) ?_
                have k143 : ρ (.tmp 143) = .string ⟨AL.toArray⟩ := hk.at 8 rfl
                have k145 : ρ (.tmp 145) = .string ⟨B.toArray⟩ := hk.at 10 rfl
                clear hk
                go_simp
                exact ⟨AnyOrder.Grows.refl _, by first | rfl | (simp [AnyOrder.nth]; done) | (simp [AnyOrder.nth]; omega)⟩
              · intro ρ w' hk
                have k139 : ρ (.tmp 139) = .bool false := hk.at 4 rfl
                have k146 : ρ (.tmp 146) = .bool true := hk.at 11 rfl
                have kc := hk.const
                clear hk
                go_simp
                exact ⟨AnyOrder.Grows.refl _, by first | rfl | (simp [AnyOrder.nth]; done) | (simp [AnyOrder.nth]; omega)⟩
            · intro vs w9 hR9 hv9
              have hG9 := AnyOrder.Grows.of_drew hR9
              have v12 : vs 12 = .bool true := hv9 12 (by decide)
              clear hR9 hv9
              simp only [AnyOrder.fill, Nat.zero_add, Nat.reduceAdd, List.setIfInBounds_toArray, List.set_cons_zero, List.set_cons_succ]
              rw [v12]
              clear v12
              have HG9 := hid hG9
              clear hG9
              go_wp2_with fail
              exact bodyPost_ret (v := .tuple #[.slice none 0 0, .int .i64 151]) (by simp [results, Try.results42, go_sem]) rfl (parse_end0 HE.out (HBR.out.trans (HG9.out.mono HBR.out.size)))
        · have HE := hid (show parseC 2 B = ([], 151) by rw [HPE.out, if_neg fun h => hr h.1])
          have HRR := hid (show rightC 2 cs = false by simpa using hr)
          clear hr HPE
          refine AnyOrder.wp_region_grows_g [
              fun v _ => v = .int .i64 2,
              fun v _ => v = u8,
              fun v _ => v = .bool false,
              fun v _ => v = .bool true,
              fun v _ => v = .bool true,
              fun v _ => v = undef,
              fun v _ => v = undef,
              fun v _ => v = undef,
              fun v _ => v = undef,
              fun v _ => v = undef,
              fun v _ => v = undef,
              fun v _ => v = undef,
              fun v _ => v = .bool true] hmx (by kernel_rfl) ?_ ?_ ?_
          · intro p hp
            simp only [List.mem_cons, List.not_mem_nil, or_false] at hp
            rcases hp with rfl | rfl | rfl | rfl | rfl | rfl | rfl | rfl | rfl | rfl | rfl | rfl | rfl
            all_goals first
              | exact AnyOrder.stays_const _
          · simp only [AnyOrder.dstsOf, List.map_cons, List.map_nil, AnyOrder.GSteps, Nat.zero_add, Nat.reduceAdd]
            refine ⟨?_, ?_, ?_, ?_, ?_, ?_, ?_, ?_, ?_, ?_, ?_, ?_, ?_, trivial⟩
            · intro ρ w' hk
              have k0 : ρ (.tmp 0) = .int .i64 2 := hk.old 0 rfl
              clear hk
              go_simp
              exact ⟨AnyOrder.Grows.refl _, by first | rfl | (simp [AnyOrder.nth]; done) | (simp [AnyOrder.nth]; omega)⟩
            · intro ρ w' hk
              have k8 : ρ (.tmp 8) = u8 := hk.old 8 rfl
              clear hk
              go_simp
              exact ⟨AnyOrder.Grows.refl _, by first | rfl | (simp [AnyOrder.nth]; done) | (simp [AnyOrder.nth]; omega)⟩
            · intro ρ w' hk
              have k135 : ρ (.tmp 135) = .int .i64 2 := hk.at 0 rfl
              have k136 : ρ (.tmp 136) = u8 := hk.at 1 rfl
              have kf := hk.func
              have kw := AnyOrder.Grows.of_drew hk.world
              clear hk
              go_simp
              refine (right_calls 2 _ cs w' (HO.out.below kw).low).mono ?_
              rintro e w'' ⟨rfl, hb⟩
              rw [HRR.out]
              exact ⟨_, rfl, hb, rfl⟩
            · intro ρ w' hk
              have k137 : ρ (.tmp 137) = .bool false := hk.at 2 rfl
              clear hk
              go_simp
              exact ⟨AnyOrder.Grows.refl _, by first | rfl | (simp [AnyOrder.nth]; done) | (simp [AnyOrder.nth]; omega)⟩
            · intro ρ w' hk
              have k138 : ρ (.tmp 138) = .bool true := hk.at 3 rfl
              clear hk
              go_simp
              exact ⟨AnyOrder.Grows.refl _, by first | rfl | (simp [AnyOrder.nth]; done) | (simp [AnyOrder.nth]; omega)⟩
            · intro ρ w' hk
              exact AnyOrder.guard_skip (hk.at 4 rfl) (fun h => by cases h) rfl
            · intro ρ w' hk
              exact AnyOrder.guard_skip (hk.at 4 rfl) (fun h => by cases h) rfl
            · intro ρ w' hk
              exact AnyOrder.guard_skip (hk.at 4 rfl) (fun h => by cases h) rfl
            · intro ρ w' hk
              exact AnyOrder.guard_skip (hk.at 4 rfl) (fun h => by cases h) rfl
            · intro ρ w' hk
              exact AnyOrder.guard_skip (hk.at 4 rfl) (fun h => by cases h) rfl
            · intro ρ w' hk
              exact AnyOrder.guard_skip (hk.at 4 rfl) (fun h => by cases h) rfl
            · intro ρ w' hk
              exact AnyOrder.guard_skip (hk.at 4 rfl) (fun h => by cases h) rfl
            · intro ρ w' hk
              have k139 : ρ (.tmp 139) = .bool true := hk.at 4 rfl
              have k146 : ρ (.tmp 146) = undef := hk.at 11 rfl
              have kc := hk.const
              clear hk
              go_simp
              exact ⟨AnyOrder.Grows.refl _, by first | rfl | (simp [AnyOrder.nth]; done) | (simp [AnyOrder.nth]; omega)⟩
          · intro vs w9 hR9 hv9
            have hG9 := AnyOrder.Grows.of_drew hR9
            have v12 : vs 12 = .bool true := hv9 12 (by decide)
            clear hR9 hv9
            simp only [AnyOrder.fill, Nat.zero_add, Nat.reduceAdd, List.setIfInBounds_toArray, List.set_cons_zero, List.set_cons_succ]
            rw [v12]
            clear v12
            have HG9 := hid hG9
            clear hG9
            go_wp2_with fail
            exact bodyPost_ret (v := .tuple #[.slice none 0 0, .int .i64 151]) (by simp [results, Try.results42, go_sem]) rfl (parse_end0 HE.out (HBR.out.trans (HG9.out.mono HBR.out.size)))
set_option maxRecDepth 100000 in
set_option maxHeartbeats 16000000 in
theorem rparse_3 (vb : Value) (b : List UInt8) (w : World) (hp : PartB (Old w) w vb b) : Calls Try.prog 42 #[.int .i64 3, vb] w (ParseEnd 3 b w) := by
  have hmx : Try.prog.follows .mixedOrders = true := by kernel_rfl
  have HP := hid hp
  obtain ⟨ab, cb, rfl, hx, hc1, hc2, hc3⟩ := hp
  by_cases g1 : b.length < 2
  · have HE := hid (parse_short (k := 3) (.inr rfl) (.inr g1))
    have i1 : (b.length : Int) < 2 := by omega
    generalize b.length = n0 at *
    clear hx hc1 hc2 hc3 g1
    go_enter Try.func42, Try.ntmps42
    go_wp2_with fail
    exact bodyPost_ret (v := .tuple #[.slice none 0 0, .int .i64 151]) (by simp [results, Try.results42, go_sem]) rfl (parse_end0 HE.out (Below.refl _ _))
  by_cases g2 : 232 < b.length
  · have HE := hid (parse_short (k := 3) (.inr rfl) (.inl g2))
    have i1 : ¬ (b.length : Int) < 2 := by omega
    have i2 : (232 : Int) < (b.length : Int) := by omega
    generalize b.length = n0 at *
    clear hx hc1 hc2 hc3 g1 g2
    go_enter Try.func42, Try.ntmps42
    go_wp2_with fail
    exact bodyPost_ret (v := .tuple #[.slice none 0 0, .int .i64 151]) (by simp [results, Try.results42, go_sem]) rfl (parse_end0 HE.out (Below.refl _ _))
  have G12 := hid (show ¬ (232 < b.length ∨ b.length < 2) by omega)
  obtain ⟨x, y, r0, rfl⟩ : ∃ x y r, b = x :: y :: r := by
    match b, g1 with
    | x :: y :: r, _ => exact ⟨x, y, r, rfl⟩
    | [x], h => exact absurd (by simp) h
    | [], h => exact absurd (by simp) h
  obtain ⟨b0, off0, rfl, ho0, c0⟩ := hx 0 (by simp)
  obtain ⟨b0', off0', e0, -, c1⟩ := hx 1 (by simp)
  cases e0
  simp only [List.getElem_cons_zero, List.getElem_cons_succ, Nat.add_zero] at c0 c1
  have hv := val_pair x y r0
  have hxl := x.toNat_lt
  have hyl := y.toNat_lt
  obtain ⟨B, hB⟩ : ∃ B, B = x :: y :: r0 := ⟨_, rfl⟩
  rw [← hB] at hv HP hc1 g1 g2 G12 ⊢
  obtain ⟨n, hn⟩ : ∃ n, n = val (B.take 2) := ⟨_, rfl⟩
  have HN := hid hn
  rw [← hn] at hv
  generalize hX : x.toNat = xn at *
  generalize hY : y.toNat = yn at *
  have hm := fun h => partB_high (ok := Old w) (w := w) (a := some ⟨b0, off0, none⟩) (cap := cb) (l := B) HP.out.at.1 ⟨hc1, hc2, fun e => by cases e⟩ (2 + 2 * n) h
  have hfew := fun h => parse_few (k := 3) (b := B) (.inr rfl) (by rw [← hn]; exact h)
  generalize hL : B.length = L at *
  have HL := hid hL
  have i1 : ¬ (L : Int) < 2 := by omega
  have i2 : ¬ (232 : Int) < (L : Int) := by omega
  have i3 : (0 : Int) < (L : Int) := by omega
  have i4 : (1 : Int) < (L : Int) := by omega
  have w1 : IntKind.i64.wrap (256 * (xn : Int)) = 256 * (xn : Int) := IntWalk.i64_in _ (by omega)
  have w2 : IntKind.i64.wrap (256 * (xn : Int) + (yn : Int)) = (n : Int) := by rw [hv]; exact IntWalk.i64_in _ (by omega)
  have w3 : IntKind.i64.wrap (2 * (n : Int)) = 2 * (n : Int) := IntWalk.i64_in _ (by omega)
  have w4 : IntKind.i64.wrap (2 + 2 * (n : Int)) = 2 + 2 * (n : Int) := IntWalk.i64_in _ (by omega)
  by_cases gf : L < 2 + 2 * n
  · have HE := hid (hfew gf)
    have i5 : (L : Int) < 2 + 2 * (n : Int) := by omega
    clear hm hfew gf hc1 hc2 hc3 g1 g2 hv hn hX hY hL hx hB
    go_enter Try.func42, Try.ntmps42
    go_upto_region 5 with fail
    go_quiet (fail)
    go_wp2_with fail
    exact bodyPost_ret (v := .tuple #[.slice none 0 0, .int .i64 151]) (by simp [results, Try.results42, go_sem]) rfl (parse_end0 HE.out (below_drewN (Below.refl w.heap.size w) nq))
  have HM := hid (hm (by omega))
  have HGF := hid gf
  have HG := hid (show n ≤ 115 by omega)
  have i5 : ¬ (L : Int) < 2 + 2 * (n : Int) := by omega
  have i6 : (0 : Int) ≤ 2 + 2 * (n : Int) := by omega
  have i7 : 2 + 2 * (n : Int) ≤ (L : Int) := by omega
  have i8 : (2 + 2 * (n : Int)).toNat = 2 + 2 * n := by omega
  have i9 : (L : Int) ≤ (cb : Int) := by omega
  clear hm hfew gf hc1 hc2 hc3 g1 g2 hv hn hX hY hL hx hB
  go_enter Try.func42, Try.ntmps42
  go_upto_region 5 with fail
  go_quiet (fail)
  go_upto_region 8 with fail
  go_cut [7] from 17 (fun left wx => PartB (Old w) wx left (B.drop (2 + 2 * n)) ∧ Below w.heap.size w wx)
  case first =>
    by_cases hcm : cb = 2 + 2 * n
    · have hct : (cb = 2 + 2 * n) = True := eq_true hcm
      have HCM := hid hcm
      clear hcm
      go_wp2_with fail
      go_meet
      exact ⟨((part_cut HP.out (by omega)).1 HCM.out).kept (Kept.drewN _ _ _), below_drewN (Below.refl _ _) _⟩
    · have HCM := hid hcm
      go_wp2_with fail
      go_meet
      exact ⟨((part_cut HP.out (by omega)).2 HCM.out).kept (Kept.drewN _ _ _), below_drewN (Below.refl _ _) _⟩
  case rest =>
    obtain ⟨hpt, hbl⟩ := hcut
    have HPT := hid hpt
    have HBL := hid hbl
    clear hpt hbl i1 i2 i3 i4 i5 i6 i7 i8 i9 w1 w2 w3 w4 c0 c1 hxl hyl
    go_wp2_with fail
    go_loopw [7, 8, 9] (fun left out i wr => ∃ (j : Nat) (cs : List Cl) (rest : List UInt8), j ≤ n ∧ i = .int .i64 (j : Int) ∧ Hid (readLs false (B.drop (2 + 2 * n)) j = some (cs, rest)) ∧ Below w.heap.size w wr ∧ OwnC wr w.heap.size out cs ∧ PartB (Old w) wr left rest) (fun _ _ i _ => n - (intOf i).toNat)
    case atStart => exact ⟨0, [], _, Nat.zero_le _, rfl, rfl, HBL.out, OwnC.nil _ _, HPT.out⟩
    case round =>
      obtain ⟨j, cs, rest, hj, rfl, HR, hb, ho, hpt⟩ := hrel
      have HJ := hid hj
      have HCL := hid (show cs.length ≤ 115 by have := readLs_length HR.out; have := HG.out; omega)
      by_cases hlt : j < n
      · have i0 : (j : Int) < (n : Int) := by omega
        have HLT := hid hlt
        have HR0 := hid (RP.start hb ho hpt)
        obtain ⟨av, cv, rfl, -⟩ := hpt
        clear hb ho hj hlt
        have HT := hid (rtx_calls (Old w) _ rest _ HR0.out.part fun q hq => Nat.lt_of_lt_of_le hq HR0.out.below.size)
        simp only [zeroRow] at HR0 HT
        go_wp2_with fail
        generalize wr.alloc (.cells #[.string ⟨#[]⟩, .string ⟨#[]⟩, .bool false, .int .i64 0, .int .i64 0] 81) = w1 at *
        generalize wr.heap.size = C at *
        cases hs : readS rest with
        | none =>
          have HE := hid (parse_fail (k := 3) (b := B) (.inr rfl) rfl HN.out HLT.out HR.out (by simp [readL, hs]))
          rw [hs] at HT
          refine HT.out.mono ?_
          rintro e w2 ⟨rfl, hb2⟩
          have HF := hid (HR0.out.fail hb2)
          clear hb2 HT HR0 hs
          go_wp2_with fail
          exact bodyPost_ret (v := .tuple #[.slice none 0 0, .int .i64 151]) (by simp [results, Try.results42, go_sem]) rfl (parse_end0 HE.out HF.out)
        | some x1 =>
          obtain ⟨key, r1⟩ := x1
          have HS := hid hs
          rw [hs] at HT
          clear hs
          refine HT.out.mono ?_
          rintro e w2 ⟨⟨v1, rfl, hp2⟩, hb2⟩
          have HR2 := hid (HR0.out.text hb2 hp2)
          skip
          clear hb2 HT HR0 hp2
          have HR3 := hid (HR2.out.put 0 (.string key) (x' := ⟨key, ⟨#[]⟩, false, 0, 0⟩) rfl)
          have d0 := HR2.out.blk.cell 0
          have f0 := HR2.out.blk.frozen 0
          simp only [rowC, List.getElem?_cons_zero] at d0
          go_upto_region 29 with fail
          generalize w2.setCell ⟨C, 0, none⟩ (.string key) = wc at *
          clear d0 f0 HR2
          have hcut := HR3
          clear HR3
          obtain ⟨a2, c2, rfl, -⟩ := hcut.out.part
          have HR2 := hcut
          clear hcut
          obtain ⟨m2, hm2⟩ : ∃ n, n = (r1).length := ⟨_, rfl⟩
          have HM2 := hid hm2
          simp only [← hm2] at HR2 ⊢
          clear hm2
          by_cases h4 : m2 < 4
          · have HE := hid (parse_fail (k := 3) (b := B) (.inr rfl) rfl HN.out HLT.out HR.out (readL_branch_short HS.out (by rw [← HM2.out]; exact h4)))
            have e1 : (m2 : Int) < 4 := by omega
            clear h4
            go_wp2_with fail
            exact bodyPost_ret (v := .tuple #[.slice none 0 0, .int .i64 151]) (by simp [results, Try.results42, go_sem]) rfl (parse_end0 HE.out HR2.out.below)
          · have HL4 := hid h4
            have H42 := hid (show 4 ≤ m2 by omega)
            have g4 : ¬ (m2 : Int) < 4 := by omega
            clear h4
            obtain ⟨b2, o2, rfl, -⟩ := HR2.out.part.at.1 0 (by rw [← HM2.out]; have := H42.out; omega)
            have HCC2 := hid HR2.out.part.at.2.2.1
            obtain ⟨p2, hp2⟩ : ∃ p, p = val ((r1).take 4) := ⟨_, rfl⟩
            have HP2 := hid hp2
            have HPL2 := hid (show p2 < 4294967296 by rw [hp2]; exact val_four (by omega))
            have HN2 := hid (show Calls Try.prog 31 #[.slice (some ⟨b2, o2, none⟩) m2 c2, .int .i64 4] wc fun e w' => e = .returned (.tuple #[.int .u64 (p2 : Int), .bool true]) ∧ wc = w' from by have := refread_calls (some ⟨b2, o2, none⟩) c2 (r1) 4 (Old w) wc HR2.out.part.at.1 (by have := HM2.out; have := H42.out; omega) (by omega); rw [← HM2.out, ← hp2] at this; exact this)
            clear hp2
            go_wp2_with fail
            refine HN2.out.mono ?_
            rintro e w' ⟨rfl, rfl⟩
            clear HN2
            go_upto_region 32 with fail
            go_cut [7] from 52 to 134 (fun left wx => Hid (RP w cs u8 C ⟨key, ⟨#[]⟩, false, (p2 : Int), 0⟩ left ((r1).drop 4) wx))
            case first =>
              have dd := HR2.out.blk.cell 3
              have df := HR2.out.blk.frozen 3
              simp only [rowC, List.getElem?_cons_zero, List.getElem?_cons_succ] at dd
              have hpl := HPL2.out
              have hw : IntKind.i64.wrap (p2 : Int) = (p2 : Int) := IntWalk.i64_in _ (by omega)
              have e1 : (4 : Int) ≤ (m2 : Int) := by have := H42.out; omega
              have e2 : (m2 : Int) ≤ (c2 : Int) := by have := HCC2.out; omega
              have e3 : (4 : Int) ≤ (c2 : Int) := by omega
              have HQ := hid (HR2.out.put 3 (.int .i64 (p2 : Int)) (x' := ⟨key, ⟨#[]⟩, false, (p2 : Int), 0⟩) rfl).drew
              have HQP := hid (part_cut HQ.out.part (show 4 ≤ m2 from H42.out))
              by_cases hcm : c2 = 4
              · have hct : (c2 = 4) = True := eq_true hcm
                have HCM := hid hcm
                clear hcm hpl
                go_region
                all_goals go_wp2_with fail
                all_goals go_meet
                all_goals exact hid (HQ.out.left (HQP.out.1 HCM.out))
              · have HCM := hid hcm
                clear hpl
                go_region
                all_goals go_wp2_with fail
                all_goals go_meet
                all_goals exact hid (HQ.out.left (HQP.out.2 HCM.out))
            case rest =>
              clear g4 HR2
              obtain ⟨a9, c9, rfl, -⟩ := hcut.out.part
              have HR9 := hcut
              clear hcut
              obtain ⟨m9, hm9⟩ : ∃ n, n = (r1.drop 4).length := ⟨_, rfl⟩
              have HM9 := hid hm9
              simp only [← hm9] at HR9 ⊢
              clear hm9
              have b0' := HR9.out.blk.cell 0
              have b1' := HR9.out.blk.cell 1
              have b2' := HR9.out.blk.cell 2
              have b3' := HR9.out.blk.cell 3
              have b4' := HR9.out.blk.cell 4
              simp only [rowC, List.getElem?_cons_zero, List.getElem?_cons_succ] at b0' b1' b2' b3' b4'
              have hwj : IntKind.i64.wrap ((j : Int) + 1) = (j : Int) + 1 := IntWalk.i64_in _ (by have := HG.out; omega)
              have HBA := hid (show Below wc.heap.size wc (wc.alloc (.cells (rowC ⟨key, ⟨#[]⟩, false, (p2 : Int), 0⟩).toArray 81)) from (Below.refl _ _).alloc (Nat.le_refl _) _)
              go_wp2_with (at_builtin; refine wpList_appendC1 rfl (.tmp 131) (.tmp 133) rfl w.heap.size _ cs rfl (HR9.out.own.below HBA.out) ⟨wc.heap.size, 0, none⟩ ⟨key, ⟨#[]⟩, false, (p2 : Int), 0⟩ 1 rfl (new_row wc ⟨key, ⟨#[]⟩, false, (p2 : Int), 0⟩ 81) (by have := HCL.out; omega) (Nat.le_trans HR9.out.below.size HBA.out.size) ?_; intro v9 w9 hv9 hg9 ho9; have HY := hid (HR9.out.done HBA.out hv9 hg9); clear hv9 hg9 ho9)
              go_roundw
              case rel => exact ⟨j + 1, cs ++ [⟨key, ⟨#[]⟩, false, (p2 : Int), 0⟩], _, HLT.out, by go_num, read_more HR.out (by rw [HP2.out]; exact readL_branch HS.out (by rw [← HM2.out]; exact HL4.out)), HY.out.1, HY.out.2.1, HY.out.2.2⟩
              case measure => simp [intOf]; have := HLT.out; omega

      · have hjn : j = n := by omega
        have i0 : ¬ (j : Int) < (n : Int) := by omega
        have HPE := hid (parseL_end (k := 3) (b := B) (cs := cs) (rest := rest) (.inr rfl) (by rw [HL.out]; exact G12.out) (by rw [← HN.out, HL.out]; exact HGF.out) (by rw [← HN.out, ← hjn]; rw [← hjn] at HR; exact HR.out))
        rw [show decide ((3 : Int) = 2) = false from rfl] at HPE
        have HO := hid ho
        have HBR := hid hb
        clear hlt hj hjn hpt hb ho HPT HBL HR HJ
        go_upto_region 37 with fail
        by_cases hr : rightC 3 cs = true
        · have HRR := hid hr
          obtain ⟨AL, hal⟩ : ∃ AL, AL = allC false cs := ⟨_, rfl⟩
          have HAL := hid (show allC (decide ((3 : Int) = 2)) cs = AL from hal.symm)
          by_cases ha : AL = B
          · have HE := hid (show parseC 3 B = (cs, 0) by rw [HPE.out, if_pos ⟨hr, by rw [← hal]; exact ha⟩])
            subst ha
            clear hal hr HPE
            refine AnyOrder.wp_region_grows_g [
                fun v _ => v = .int .i64 3,
                fun v _ => v = u8,
                fun v _ => v = .bool true,
                fun v _ => v = .bool false,
                fun v _ => v = .bool false,
                fun v _ => v = .int .i64 3,
                fun v _ => v = u8,
                fun v w' => OwnB w' wr.heap.size v AL,
                fun v _ => v = .string ⟨AL.toArray⟩,
                fun v _ => v = .slice (some ⟨b0, off0, none⟩) L cb,
                fun v _ => v = .string ⟨AL.toArray⟩,
                fun v _ => v = .bool false,
                fun v _ => v = .bool false] hmx (by kernel_rfl) ?_ ?_ ?_
            · intro p hp
              simp only [List.mem_cons, List.not_mem_nil, or_false] at hp
              rcases hp with rfl | rfl | rfl | rfl | rfl | rfl | rfl | rfl | rfl | rfl | rfl | rfl | rfl
              all_goals first
                | exact AnyOrder.stays_const _
                | (intro v w1 w2 hg hb; exact OwnB.below hb hg)
            · simp only [AnyOrder.dstsOf, List.map_cons, List.map_nil, AnyOrder.GSteps, Nat.zero_add, Nat.reduceAdd]
              refine ⟨?_, ?_, ?_, ?_, ?_, ?_, ?_, ?_, ?_, ?_, ?_, ?_, ?_, trivial⟩
              · intro ρ w' hk
                have k0 : ρ (.tmp 0) = .int .i64 3 := hk.old 0 rfl
                clear hk
                go_simp
                exact ⟨AnyOrder.Grows.refl _, by first | rfl | (simp [AnyOrder.nth]; done) | (simp [AnyOrder.nth]; omega)⟩
              · intro ρ w' hk
                have k8 : ρ (.tmp 8) = u8 := hk.old 8 rfl
                clear hk
                go_simp
                exact ⟨AnyOrder.Grows.refl _, by first | rfl | (simp [AnyOrder.nth]; done) | (simp [AnyOrder.nth]; omega)⟩
              · intro ρ w' hk
                have k135 : ρ (.tmp 135) = .int .i64 3 := hk.at 0 rfl
                have k136 : ρ (.tmp 136) = u8 := hk.at 1 rfl
                have kf := hk.func
                have kw := AnyOrder.Grows.of_drew hk.world
                clear hk
                go_simp
                refine (right_calls 3 _ cs w' (HO.out.below kw).low).mono ?_
                rintro e w'' ⟨rfl, hb⟩
                rw [HRR.out]
                exact ⟨_, rfl, hb, rfl⟩
              · intro ρ w' hk
                have k137 : ρ (.tmp 137) = .bool true := hk.at 2 rfl
                clear hk
                go_simp
                exact ⟨AnyOrder.Grows.refl _, by first | rfl | (simp [AnyOrder.nth]; done) | (simp [AnyOrder.nth]; omega)⟩
              · intro ρ w' hk
                have k138 : ρ (.tmp 138) = .bool false := hk.at 3 rfl
                clear hk
                go_simp
                exact ⟨AnyOrder.Grows.refl _, by first | rfl | (simp [AnyOrder.nth]; done) | (simp [AnyOrder.nth]; omega)⟩
              · intro ρ w' hk
                refine AnyOrder.guard_run (hk.at 4 rfl) ?_
                have k0 : ρ (.tmp 0) = .int .i64 3 := hk.old 0 rfl
                clear hk
                go_simp
                exact ⟨AnyOrder.Grows.refl _, by first | rfl | (simp [AnyOrder.nth]; done) | (simp [AnyOrder.nth]; omega)⟩
              · intro ρ w' hk
                refine AnyOrder.guard_run (hk.at 4 rfl) ?_
                have k8 : ρ (.tmp 8) = u8 := hk.old 8 rfl
                clear hk
                go_simp
                exact ⟨AnyOrder.Grows.refl _, by first | rfl | (simp [AnyOrder.nth]; done) | (simp [AnyOrder.nth]; omega)⟩
              · intro ρ w' hk
                refine AnyOrder.guard_run (hk.at 4 rfl) ?_
                have k140 : ρ (.tmp 140) = .int .i64 3 := hk.at 5 rfl
                have k141 : ρ (.tmp 141) = u8 := hk.at 6 rfl
                have kf := hk.func
                have kw := AnyOrder.Grows.of_drew hk.world
                clear hk
                go_simp
                refine (rallk_calls 3 _ cs w' (HO.out.below kw).low HRR.out (by have := HCL.out; omega)).mono ?_
                rintro e w'' ⟨v, rfl, ho, hb⟩
                rw [HAL.out] at ho
                exact ⟨_, rfl, hb, ho.mono fun q e => by have := (ho.block e).1; have := kw.size; omega⟩
              · intro ρ w' hk
                refine AnyOrder.guard_run (hk.at 4 rfl) ?_
                have k142 : OwnB w' wr.heap.size (ρ (.tmp 142)) AL := hk.at 7 rfl
                have kw := AnyOrder.Grows.of_drew hk.world
                clear hk
                obtain ⟨ca, cc, e, hb, -⟩ := k142.part
                have hcv := run_strB (w := w') _ cc rfl hb
                clear k142 hb
                go_simp
                exact ⟨AnyOrder.Grows.refl _, by first | rfl | (simp [AnyOrder.nth]; done) | (simp [AnyOrder.nth]; omega)⟩
              · intro ρ w' hk
                refine AnyOrder.guard_run (hk.at 4 rfl) ?_
                have k1 : ρ (.tmp 1) = .slice (some ⟨b0, off0, none⟩) L cb := hk.old 1 rfl
                clear hk
                go_simp
                exact ⟨AnyOrder.Grows.refl _, by first | rfl | (simp [AnyOrder.nth]; done) | (simp [AnyOrder.nth]; omega)⟩
              · intro ρ w' hk
                refine AnyOrder.guard_run (hk.at 4 rfl) ?_
                have k144 : ρ (.tmp 144) = .slice (some ⟨b0, off0, none⟩) L cb := hk.at 9 rfl
                have kw := AnyOrder.Grows.of_drew hk.world
                clear hk
                have hcv := run_strB (w := w') L cb HL.out (HP.out.kept (Kept.of_below (HBR.out.trans (kw.mono HBR.out.size)) fun q hq => hq)).at.1
                clear kw
                go_simp
                exact ⟨AnyOrder.Grows.refl _, by first | rfl | (simp [AnyOrder.nth]; done) | (simp [AnyOrder.nth]; omega)⟩
              · intro ρ w' hk
                refine AnyOrder.guard_run (hk.at 4 rfl) ?_
                have k143 : ρ (.tmp 143) = .string ⟨AL.toArray⟩ := hk.at 8 rfl
                have k145 : ρ (.tmp 145) = .string ⟨AL.toArray⟩ := hk.at 10 rfl
                clear hk
                go_simp
                exact ⟨AnyOrder.Grows.refl _, by first | rfl | (simp [AnyOrder.nth]; done) | (simp [AnyOrder.nth]; omega)⟩
              · intro ρ w' hk
                have k139 : ρ (.tmp 139) = .bool false := hk.at 4 rfl
                have k146 : ρ (.tmp 146) = .bool false := hk.at 11 rfl
                have kc := hk.const
                clear hk
                go_simp
                exact ⟨AnyOrder.Grows.refl _, by first | rfl | (simp [AnyOrder.nth]; done) | (simp [AnyOrder.nth]; omega)⟩
            · intro vs w9 hR9 hv9
              have hG9 := AnyOrder.Grows.of_drew hR9
              have v12 : vs 12 = .bool false := hv9 12 (by decide)
              clear hR9 hv9
              simp only [AnyOrder.fill, Nat.zero_add, Nat.reduceAdd, List.setIfInBounds_toArray, List.set_cons_zero, List.set_cons_succ]
              rw [v12]
              clear v12
              have HG9 := hid hG9
              clear hG9
              go_wp2_with fail
              exact bodyPost_ret (v := .tuple #[u8, .int .i64 0]) (by simp [results, Try.results42, go_sem]) rfl ⟨_, by rw [HE.out], by rw [HE.out]; exact HO.out.below HG9.out, HBR.out.trans (HG9.out.mono HBR.out.size)⟩
          · have HE := hid (show parseC 3 B = ([], 151) by rw [HPE.out, if_neg fun h => ha (by rw [hal]; exact h.2)])
            clear hal hr HPE
            refine AnyOrder.wp_region_grows_g [
                fun v _ => v = .int .i64 3,
                fun v _ => v = u8,
                fun v _ => v = .bool true,
                fun v _ => v = .bool false,
                fun v _ => v = .bool false,
                fun v _ => v = .int .i64 3,
                fun v _ => v = u8,
                fun v w' => OwnB w' wr.heap.size v AL,
                fun v _ => v = .string ⟨AL.toArray⟩,
                fun v _ => v = .slice (some ⟨b0, off0, none⟩) L cb,
                fun v _ => v = .string ⟨B.toArray⟩,
                fun v _ => v = .bool true,
                fun v _ => v = .bool true] hmx (by kernel_rfl) ?_ ?_ ?_
            · intro p hp
              simp only [List.mem_cons, List.not_mem_nil, or_false] at hp
              rcases hp with rfl | rfl | rfl | rfl | rfl | rfl | rfl | rfl | rfl | rfl | rfl | rfl | rfl
              all_goals first
                | exact AnyOrder.stays_const _
                | (intro v w1 w2 hg hb; exact OwnB.below hb hg)
            · simp only [AnyOrder.dstsOf, List.map_cons, List.map_nil, AnyOrder.GSteps, Nat.zero_add, Nat.reduceAdd]
              refine ⟨?_, ?_, ?_, ?_, ?_, ?_, ?_, ?_, ?_, ?_, ?_, ?_, ?_, trivial⟩
              · intro ρ w' hk
                have k0 : ρ (.tmp 0) = .int .i64 3 := hk.old 0 rfl
                clear hk
                go_simp
                exact ⟨AnyOrder.Grows.refl _, by first | rfl | (simp [AnyOrder.nth]; done) | (simp [AnyOrder.nth]; omega)⟩
              · intro ρ w' hk
                have k8 : ρ (.tmp 8) = u8 := hk.old 8 rfl
                clear hk
                go_simp
                exact ⟨AnyOrder.Grows.refl _, by first | rfl | (simp [AnyOrder.nth]; done) | (simp [AnyOrder.nth]; omega)⟩
              · intro ρ w' hk
                have k135 : ρ (.tmp 135) = .int .i64 3 := hk.at 0 rfl
                have k136 : ρ (.tmp 136) = u8 := hk.at 1 rfl
                have kf := hk.func
                have kw := AnyOrder.Grows.of_drew hk.world
                clear hk
                go_simp
                refine (right_calls 3 _ cs w' (HO.out.below kw).low).mono ?_
                rintro e w'' ⟨rfl, hb⟩
                rw [HRR.out]
                exact ⟨_, rfl, hb, rfl⟩
              · intro ρ w' hk
                have k137 : ρ (.tmp 137) = .bool true := hk.at 2 rfl
                clear hk
                go_simp
                exact ⟨AnyOrder.Grows.refl _, by first | rfl | (simp [AnyOrder.nth]; done) | (simp [AnyOrder.nth]; omega)⟩
              · intro ρ w' hk
                have k138 : ρ (.tmp 138) = .bool false := hk.at 3 rfl
                clear hk
                go_simp
                exact ⟨AnyOrder.Grows.refl _, by first | rfl | (simp [AnyOrder.nth]; done) | (simp [AnyOrder.nth]; omega)⟩
              · intro ρ w' hk
                refine AnyOrder.guard_run (hk.at 4 rfl) ?_
                have k0 : ρ (.tmp 0) = .int .i64 3 := hk.old 0 rfl
                clear hk
                go_simp
                exact ⟨AnyOrder.Grows.refl _, by first | rfl | (simp [AnyOrder.nth]; done) | (simp [AnyOrder.nth]; omega)⟩
              · intro ρ w' hk
                refine AnyOrder.guard_run (hk.at 4 rfl) ?_
                have k8 : ρ (.tmp 8) = u8 := hk.old 8 rfl
                clear hk
                go_simp
                exact ⟨AnyOrder.Grows.refl _, by first | rfl | (simp [AnyOrder.nth]; done) | (simp [AnyOrder.nth]; omega)⟩
              · intro ρ w' hk
                refine AnyOrder.guard_run (hk.at 4 rfl) ?_
                have k140 : ρ (.tmp 140) = .int .i64 3 := hk.at 5 rfl
                have k141 : ρ (.tmp 141) = u8 := hk.at 6 rfl
                have kf := hk.func
                have kw := AnyOrder.Grows.of_drew hk.world
                clear hk
                go_simp
                refine (rallk_calls 3 _ cs w' (HO.out.below kw).low HRR.out (by have := HCL.out; omega)).mono ?_
                rintro e w'' ⟨v, rfl, ho, hb⟩
                rw [HAL.out] at ho
                exact ⟨_, rfl, hb, ho.mono fun q e => by have := (ho.block e).1; have := kw.size; omega⟩
              · intro ρ w' hk
                refine AnyOrder.guard_run (hk.at 4 rfl) ?_
                have k142 : OwnB w' wr.heap.size (ρ (.tmp 142)) AL := hk.at 7 rfl
                have kw := AnyOrder.Grows.of_drew hk.world
                clear hk
                obtain ⟨ca, cc, e, hb, -⟩ := k142.part
                have hcv := run_strB (w := w') _ cc rfl hb
                clear k142 hb
                go_simp
                exact ⟨AnyOrder.Grows.refl _, by first | rfl | (simp [AnyOrder.nth]; done) | (simp [AnyOrder.nth]; omega)⟩
              · intro ρ w' hk
                refine AnyOrder.guard_run (hk.at 4 rfl) ?_
                have k1 : ρ (.tmp 1) = .slice (some ⟨b0, off0, none⟩) L cb := hk.old 1 rfl
                clear hk
                go_simp
                exact ⟨AnyOrder.Grows.refl _, by first | rfl | (simp [AnyOrder.nth]; done) | (simp [AnyOrder.nth]; omega)⟩
              · intro ρ w' hk
                refine AnyOrder.guard_run (hk.at 4 rfl) ?_
                have k144 : ρ (.tmp 144) = .slice (some ⟨b0, off0, none⟩) L cb := hk.at 9 rfl
                have kw := AnyOrder.Grows.of_drew hk.world
                clear hk
                have hcv := run_strB (w := w') L cb HL.out (HP.out.kept (Kept.of_below (HBR.out.trans (kw.mono HBR.out.size)) fun q hq => hq)).at.1
                clear kw
                go_simp
                exact ⟨AnyOrder.Grows.refl _, by first | rfl | (simp [AnyOrder.nth]; done) | (simp [AnyOrder.nth]; omega)⟩
              · intro ρ w' hk
                refine AnyOrder.guard_run (hk.at 4 rfl) ?_
                have k143 : ρ (.tmp 143) = .string ⟨AL.toArray⟩ := hk.at 8 rfl
                have k145 : ρ (.tmp 145) = .string ⟨B.toArray⟩ := hk.at 10 rfl
                clear hk
                go_simp
                exact ⟨AnyOrder.Grows.refl _, by first | rfl | (simp [AnyOrder.nth]; done) | (simp [AnyOrder.nth]; omega)⟩
              · intro ρ w' hk
                have k139 : ρ (.tmp 139) = .bool false := hk.at 4 rfl
                have k146 : ρ (.tmp 146) = .bool true := hk.at 11 rfl
                have kc := hk.const
                clear hk
                go_simp
                exact ⟨AnyOrder.Grows.refl _, by first | rfl | (simp [AnyOrder.nth]; done) | (simp [AnyOrder.nth]; omega)⟩
            · intro vs w9 hR9 hv9
              have hG9 := AnyOrder.Grows.of_drew hR9
              have v12 : vs 12 = .bool true := hv9 12 (by decide)
              clear hR9 hv9
              simp only [AnyOrder.fill, Nat.zero_add, Nat.reduceAdd, List.setIfInBounds_toArray, List.set_cons_zero, List.set_cons_succ]
              rw [v12]
              clear v12
              have HG9 := hid hG9
              clear hG9
              go_wp2_with fail
              exact bodyPost_ret (v := .tuple #[.slice none 0 0, .int .i64 151]) (by simp [results, Try.results42, go_sem]) rfl (parse_end0 HE.out (HBR.out.trans (HG9.out.mono HBR.out.size)))
        · have HE := hid (show parseC 3 B = ([], 151) by rw [HPE.out, if_neg fun h => hr h.1])
          have HRR := hid (show rightC 3 cs = false by simpa using hr)
          clear hr HPE
          refine AnyOrder.wp_region_grows_g [
              fun v _ => v = .int .i64 3,
              fun v _ => v = u8,
              fun v _ => v = .bool false,
              fun v _ => v = .bool true,
              fun v _ => v = .bool true,
              fun v _ => v = undef,
              fun v _ => v = undef,
              fun v _ => v = undef,
              fun v _ => v = undef,
              fun v _ => v = undef,
              fun v _ => v = undef,
              fun v _ => v = undef,
              fun v _ => v = .bool true] hmx (by kernel_rfl) ?_ ?_ ?_
          · intro p hp
            simp only [List.mem_cons, List.not_mem_nil, or_false] at hp
            rcases hp with rfl | rfl | rfl | rfl | rfl | rfl | rfl | rfl | rfl | rfl | rfl | rfl | rfl
            all_goals first
              | exact AnyOrder.stays_const _
          · simp only [AnyOrder.dstsOf, List.map_cons, List.map_nil, AnyOrder.GSteps, Nat.zero_add, Nat.reduceAdd]
            refine ⟨?_, ?_, ?_, ?_, ?_, ?_, ?_, ?_, ?_, ?_, ?_, ?_, ?_, trivial⟩
            · intro ρ w' hk
              have k0 : ρ (.tmp 0) = .int .i64 3 := hk.old 0 rfl
              clear hk
              go_simp
              exact ⟨AnyOrder.Grows.refl _, by first | rfl | (simp [AnyOrder.nth]; done) | (simp [AnyOrder.nth]; omega)⟩
            · intro ρ w' hk
              have k8 : ρ (.tmp 8) = u8 := hk.old 8 rfl
              clear hk
              go_simp
              exact ⟨AnyOrder.Grows.refl _, by first | rfl | (simp [AnyOrder.nth]; done) | (simp [AnyOrder.nth]; omega)⟩
            · intro ρ w' hk
              have k135 : ρ (.tmp 135) = .int .i64 3 := hk.at 0 rfl
              have k136 : ρ (.tmp 136) = u8 := hk.at 1 rfl
              have kf := hk.func
              have kw := AnyOrder.Grows.of_drew hk.world
              clear hk
              go_simp
              refine (right_calls 3 _ cs w' (HO.out.below kw).low).mono ?_
              rintro e w'' ⟨rfl, hb⟩
              rw [HRR.out]
              exact ⟨_, rfl, hb, rfl⟩
            · intro ρ w' hk
              have k137 : ρ (.tmp 137) = .bool false := hk.at 2 rfl
              clear hk
              go_simp
              exact ⟨AnyOrder.Grows.refl _, by first | rfl | (simp [AnyOrder.nth]; done) | (simp [AnyOrder.nth]; omega)⟩
            · intro ρ w' hk
              have k138 : ρ (.tmp 138) = .bool true := hk.at 3 rfl
              clear hk
              go_simp
              exact ⟨AnyOrder.Grows.refl _, by first | rfl | (simp [AnyOrder.nth]; done) | (simp [AnyOrder.nth]; omega)⟩
            · intro ρ w' hk
              exact AnyOrder.guard_skip (hk.at 4 rfl) (fun h => by cases h) rfl
            · intro ρ w' hk
              exact AnyOrder.guard_skip (hk.at 4 rfl) (fun h => by cases h) rfl
            · intro ρ w' hk
              exact AnyOrder.guard_skip (hk.at 4 rfl) (fun h => by cases h) rfl
            · intro ρ w' hk
              exact AnyOrder.guard_skip (hk.at 4 rfl) (fun h => by cases h) rfl
            · intro ρ w' hk
              exact AnyOrder.guard_skip (hk.at 4 rfl) (fun h => by cases h) rfl
            · intro ρ w' hk
              exact AnyOrder.guard_skip (hk.at 4 rfl) (fun h => by cases h) rfl
            · intro ρ w' hk
              exact AnyOrder.guard_skip (hk.at 4 rfl) (fun h => by cases h) rfl
            · intro ρ w' hk
              have k139 : ρ (.tmp 139) = .bool true := hk.at 4 rfl
              have k146 : ρ (.tmp 146) = undef := hk.at 11 rfl
              have kc := hk.const
              clear hk
              go_simp
              exact ⟨AnyOrder.Grows.refl _, by first | rfl | (simp [AnyOrder.nth]; done) | (simp [AnyOrder.nth]; omega)⟩
          · intro vs w9 hR9 hv9
            have hG9 := AnyOrder.Grows.of_drew hR9
            have v12 : vs 12 = .bool true := hv9 12 (by decide)
            clear hR9 hv9
            simp only [AnyOrder.fill, Nat.zero_add, Nat.reduceAdd, List.setIfInBounds_toArray, List.set_cons_zero, List.set_cons_succ]
            rw [v12]
            clear v12
            have HG9 := hid hG9
            clear hG9
            go_wp2_with fail
            exact bodyPost_ret (v := .tuple #[.slice none 0 0, .int .i64 151]) (by simp [results, Try.results42, go_sem]) rfl (parse_end0 HE.out (HBR.out.trans (HG9.out.mono HBR.out.size)))
set_option maxRecDepth 100000 in
set_option maxHeartbeats 4000000 in
theorem rparse_else (k : Int) (h2 : k ≠ 2) (h3 : k ≠ 3) (vb : Value) (b : List UInt8) (w : World) : Calls Try.prog 42 #[.int .i64 k, vb] w (ParseEnd k b w) := by
  have hpc : parseC k b = ([], 2) := by unfold parseC; rw [if_neg (by omega)]
  have HPC := hid hpc
  have e2 : (k != 2) = true := by simpa using h2
  have e3 : (k != 3) = true := by simpa using h3
  clear h2 h3 hpc
  go_enter Try.func42, Try.ntmps42
  go_wp2_with fail
  exact bodyPost_ret (v := .tuple #[.slice none 0 0, .int .i64 2]) (by simp [results, Try.results42, go_sem]) rfl ⟨_, by rw [HPC.out], by rw [HPC.out]; exact OwnC.nil _ _, Below.refl _ _⟩
theorem rparse_calls (k : Int) (vb : Value) (b : List UInt8) (w : World) (hp : PartB (Old w) w vb b) : Calls Try.prog 42 #[.int .i64 k, vb] w (ParseEnd k b w) := by
  by_cases h2 : k = 2
  · subst h2; exact rparse_2 vb b w hp
  · by_cases h3 : k = 3
    · subst h3; exact rparse_3 vb b w hp
    · exact rparse_else k h2 h3 vb b w
end Go.Proofs.Ytkpadhjlopcejaa
