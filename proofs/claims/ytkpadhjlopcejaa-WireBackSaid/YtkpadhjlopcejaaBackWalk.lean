/-
  WireBack: its walk, and its arguments opened.
-/
import Derived.Test.YtkpadhjlopcejaaBackPlain
namespace Go.Proofs.Ytkpadhjlopcejaa
open Go.RowKit Go.ChangeShapes Go.WideShapes Go.ChangeAt
/-- the relation of the first loop -/
structure BackAt (w0 : World) (P : Nat) (wr : World) (v : Value) (l : List Pt) : Prop where
  st : Wst w0.heap.size w0 (fun k => v.ownBlock = some k) wr P (selB l)
  own : OwnP wr w0.heap.size v l
  sel : Sel l
theorem BackAt.no {w0 : World} {P : Nat} {wr w' : World} {v : Value} {l : List Pt} (h : BackAt w0 P wr v l) {r : List UInt8} (h1 : Wst w0.heap.size w0 (fun k => v.ownBlock = some k) w' P r) (hk : Kept (fun k => v.ownBlock = some k) wr w') (hr : r = selB l) : BackAt w0 P w' v l :=
  ⟨hr ▸ h1, h.own.kept hk fun _ h => h, h.sel⟩
theorem BackAt.drew {w0 : World} {P : Nat} {wr : World} {v : Value} {l : List Pt} (h : BackAt w0 P wr v l) : BackAt w0 P wr.drew v l := by
  obtain ⟨⟨h1, h2, h3⟩, h4, h5⟩ := h
  exact ⟨⟨h1, ⟨h2.os, h2.tape, h2.output, h2.size, h2.block⟩, h3⟩, h4, h5⟩
/-- behind a part that was written, and laid with the others -/
theorem BackAt.yes {w0 : World} {P : Nat} {w1 w2 w3 : World} {v v' : Value} {l : List Pt} {x : Pt} (ho : OwnP w1 w0.heap.size v l) (h1 : Wst w0.heap.size w0 (fun k => v.ownBlock = some k) w1 P (selB (l ++ [x]))) (hs : Sel (l ++ [x])) (hb : Below w1.heap.size w1 w2)
    (h3 : OwnP w3 w0.heap.size v' (l ++ [x])) (hg : w2.grownBy w3 v.ownBlock) (hv : v'.ownBlock = v.ownBlock ∨ v'.ownBlock = some w2.heap.size) : BackAt w0 P w3 v' (l ++ [x]) := by
  have hk : Kept (fun k => k < w1.heap.size ∧ ¬ v.ownBlock = some k) w1 w3 := (Kept.of_below hb fun k hk => hk.1).trans (Kept.of_grown hg fun k hk => ⟨Nat.lt_of_lt_of_le hk.1 hb.size, fun e => hk.2 e.symm⟩)
  refine ⟨(h1.other (tch := fun k => v.ownBlock = some k) hk (fun k hk => hk) (fun k hk => (ho.block hk).1)).less fun k hk => ?_, h3, hs⟩
  rcases hv with hv | hv
  · exact .inl (hv ▸ hk)
  · have : k = w2.heap.size := by rw [hv] at hk; exact (Option.some.inj hk).symm
    exact .inr ⟨by have := hb.size; omega, by have := (h3.block hk).2; exact this⟩
theorem cellsOf_new (w : World) (x : Pt) (t : TypeId) (j : Nat) (u : Value) (h : (cellsOf x)[j]? = some u) : (w.alloc (.cells #[.int .i64 x.kind, .int .u64 (x.n : Int), .int .i64 x.bytes, .string x.text] t)).cell? ((⟨w.heap.size, 0, none⟩ : Addr).add j) = some u := by
  have hb := (Blk.new w (cellsOf x) t).cell j
  rw [addr_add, Nat.zero_add]
  exact hb.trans h
set_option maxRecDepth 100000 in
set_option maxHeartbeats 8000000 in
theorem wback_walk (a : Option Addr) (cap : Nat) (xs : List Pt) (w : World) (hx : PtsIn (fun k => k < w.heap.size) w a xs) (hL9 : xs.length ≤ 9223372036854775807) :
    Calls Try.prog 3 #[.slice a xs.length cap] w fun e w' => e = .returned (.bool true) ∧ Below w.heap.size w w' := by
  have HF := hid (few_calls a cap xs _ w hx hL9)
  have HK := hid (wknown_calls w)
  have hmx : Try.prog.follows .mixedOrders = true := by kernel_rfl
  clear hL9
  generalize hL : xs.length = L at *
  have HL := hid hL
  clear hL
  go_enter Try.func3, Try.ntmps3
  go_wp2_with fail
  refine HF.out.mono ?_
  rintro e w' ⟨bf, rfl, rfl, hbf⟩
  cases bf
  · go_wp2_with (refine HK.out.mono ?_; rintro e w' ⟨rfl, hB⟩)
    go_ret
    exact ⟨rfl, hB⟩
  have hL30 := hbf rfl
  clear hbf HK
  go_wp2_with fail
  refine (wst_new w.heap.size w w (Nat.le_refl _) (Below.refl _ _)).mono ?_
  rintro e w1 ⟨P, rfl, a1, -, hP⟩
  have A1 := hid (a1.less (oth' := fun k => (Value.slice none 0 0).ownBlock = some k) fun k h => by cases h)
  clear a1 HF
  go_wp2_with fail
  go_loopw [4, 5] (fun v i wr => ∃ (k : Nat) (l : List Pt), k ≤ L ∧ l.length ≤ k ∧ i = .int .i64 (k : Int) ∧ BackAt w P wr v l) (fun _ i _ => L - (intOf i).toNat)
  case atStart => exact ⟨0, [], Nat.zero_le _, Nat.le_refl _, rfl, A1.out, OwnP.nil _ _, fun x h => by cases h⟩
  case round =>
    obtain ⟨k, l, hk, hlk, rfl, hba⟩ := hrel
    have HBA := hid hba
    clear hba
    by_cases hlt : k < L
    · have hkl : k < xs.length := by rw [HL.out]; exact hlt
      obtain ⟨b0, off0, rfl, ho0, hxn, hd0, hd1, hd2, hd3⟩ := hx k hkl
      have HO0 := hid ho0
      have c0 := HBA.out.st.below.cell (p := ⟨b0, off0 + k * 4, none⟩) ho0
      have c1 := HBA.out.st.below.cell (p := ⟨b0, off0 + k * 4 + 1, none⟩) ho0
      have c2 := HBA.out.st.below.cell (p := ⟨b0, off0 + k * 4 + 2, none⟩) ho0
      have c3 := HBA.out.st.below.cell (p := ⟨b0, off0 + k * 4 + 3, none⟩) ho0
      rw [hd0] at c0
      rw [hd1] at c1
      rw [hd2] at c2
      rw [hd3] at c3
      have i0 : (k : Int) < (L : Int) := by omega
      generalize xs[k] = x at *
      have HXN := hid hxn
      have HST := hid (sel_step l x HBA.out.sel hxn)
      have HD := hid (And.intro hd0 (And.intro hd1 (And.intro hd2 hd3)))
      have HLK := hid hlk
      obtain ⟨u4a, u4n, u4c, rfl⟩ : ∃ a n c, u4 = .slice a n c := by obtain ⟨a, c, e, _⟩ := HBA.out.own.pts (fun y hy => (HBA.out.sel y hy).2); exact ⟨a, _, c, e⟩
      obtain ⟨kind, n, bytes, text⟩ := x
      simp only at c0 c1 c2 c3
      clear hx hd0 hd1 hd2 hd3 ho0 hxn hlk
      by_cases h1 : kind = 1
      · subst h1
        have hcall := HBA.out.drew.st.number n bytes HXN.out
        have he1 : encP ⟨1, n, bytes, text⟩ = numB n bytes := rfl
        have hn1 : noP ⟨1, n, bytes, text⟩ = 2 := rfl
        rw [← he1, ← hn1] at hcall
        have HC := hid hcall
        clear hcall he1 hn1
        go_wp2_with fail
        refine wp_region_still_tail 11 hmx (by kernel_rfl) ?_
        simp only [List.take_succ_cons, List.take_zero, List.drop_succ_cons, List.drop_zero]
        change wpStill _ _ wr.drew _ _ _
        repeat still_step
        refine wpStill_nil ?_
        change wpList _ _ _ _ _ wr.drew
        replace HBA := hid HBA.out.drew
        go_wp2_with fail
        refine HC.out.mono ?_
        intro e w2 hres
        obtain ⟨rfl, a2, k2⟩ := hres
        have HO2 := hid (HBA.out.own.kept k2 fun _ h => h)
        have e0 := a2.below.cell (p := ⟨b0, off0 + k * 4, none⟩) HO0.out
        have e1 := a2.below.cell (p := ⟨b0, off0 + k * 4 + 1, none⟩) HO0.out
        have e2 := a2.below.cell (p := ⟨b0, off0 + k * 4 + 2, none⟩) HO0.out
        have e3 := a2.below.cell (p := ⟨b0, off0 + k * 4 + 3, none⟩) HO0.out
        rw [HD.out.1] at e0
        rw [HD.out.2.1] at e1
        rw [HD.out.2.2.1] at e2
        rw [HD.out.2.2.2] at e3
        clear c0 c1 c2 c3
        rcases HST.out with ⟨r0, r1, r2⟩ | ⟨r0, r1⟩
        · rw [r1] at a2
          rw [r0]
          have A2 := hid a2
          have R2 := hid r2
          clear a2 k2 r0 r1 r2 HST
          have hbA : Below w2.heap.size w2 (w2.alloc (.cells #[.int .i64 (⟨1, n, bytes, text⟩ : Pt).kind, .int .u64 (((⟨1, n, bytes, text⟩ : Pt).n : Nat) : Int), .int .i64 (⟨1, n, bytes, text⟩ : Pt).bytes, .string (⟨1, n, bytes, text⟩ : Pt).text] 30)) := (Below.refl _ _).alloc (Nat.le_refl _) _
          have HBB := hid hbA
          clear hbA
          go_wp2_with (at_builtin; refine wpList_appendP rfl (.tmp 65) (.tmp 70) rfl w.heap.size _ l rfl (HO2.out.below HBB.out) ⟨w2.heap.size, 0, none⟩ (⟨1, n, bytes, text⟩ : Pt) 1 rfl (cellsOf_new w2 (⟨1, n, bytes, text⟩ : Pt) 30) (by have := HLK.out; omega) (Nat.le_trans A2.out.below.size HBB.out.size) ?_; intro v1 w3 hv1 hg1 ho1; have HY := hid (BackAt.yes (x := (⟨1, n, bytes, text⟩ : Pt)) HO2.out A2.out R2.out HBB.out hv1 hg1 ho1); obtain ⟨v1a, v1n, v1c, rfl⟩ : ∃ a n c, v1 = .slice a n c := (by obtain ⟨a, c, e, _⟩ := hv1.pts (fun y hy => (R2.out y hy).2); exact ⟨a, _, c, e⟩); clear hv1 hg1 ho1)
          go_roundw
          case rel => exact ⟨k + 1, l ++ [(⟨1, n, bytes, text⟩ : Pt)], hlt, by have := HLK.out; simp; omega, by go_num, HY.out⟩
          case measure => simp [intOf]; omega
        · have N2 := hid (HBA.out.no a2 k2 r1)
          generalize (written (selB l) (encP (⟨1, n, bytes, text⟩ : Pt)) (noP (⟨1, n, bytes, text⟩ : Pt))).2 = eno at r0 ⊢
          have hne : (eno == 0) = false := by simpa using r0
          clear a2 k2 r0 r1 HST
          go_wp2_with fail
          go_roundw
          case rel => exact ⟨k + 1, l, hlt, by have := HLK.out; omega, by go_num, N2.out⟩
          case measure => simp [intOf]; omega
      · by_cases h2 : kind = 2
        · subst h2
          have hcall := HBA.out.st.text text
          have he1 : encP ⟨2, n, bytes, text⟩ = textB text.data.toList := rfl
          have hn1 : noP ⟨2, n, bytes, text⟩ = 3 := rfl
          rw [← he1, ← hn1] at hcall
          have HC := hid hcall
          clear hcall he1 hn1 h1
          go_wp2_with fail
          refine HC.out.mono ?_
          intro e w2 hres
          obtain ⟨rfl, a2, k2⟩ := hres
          have HO2 := hid (HBA.out.own.kept k2 fun _ h => h)
          have e0 := a2.below.cell (p := ⟨b0, off0 + k * 4, none⟩) HO0.out
          have e1 := a2.below.cell (p := ⟨b0, off0 + k * 4 + 1, none⟩) HO0.out
          have e2 := a2.below.cell (p := ⟨b0, off0 + k * 4 + 2, none⟩) HO0.out
          have e3 := a2.below.cell (p := ⟨b0, off0 + k * 4 + 3, none⟩) HO0.out
          rw [HD.out.1] at e0
          rw [HD.out.2.1] at e1
          rw [HD.out.2.2.1] at e2
          rw [HD.out.2.2.2] at e3
          clear c0 c1 c2 c3
          rcases HST.out with ⟨r0, r1, r2⟩ | ⟨r0, r1⟩
          · rw [r1] at a2
            rw [r0]
            have A2 := hid a2
            have R2 := hid r2
            clear a2 k2 r0 r1 r2 HST
            have hbA : Below w2.heap.size w2 (w2.alloc (.cells #[.int .i64 (⟨2, n, bytes, text⟩ : Pt).kind, .int .u64 (((⟨2, n, bytes, text⟩ : Pt).n : Nat) : Int), .int .i64 (⟨2, n, bytes, text⟩ : Pt).bytes, .string (⟨2, n, bytes, text⟩ : Pt).text] 30)) := (Below.refl _ _).alloc (Nat.le_refl _) _
            have HBB := hid hbA
            clear hbA
            go_wp2_with (at_builtin; refine wpList_appendP rfl (.tmp 65) (.tmp 70) rfl w.heap.size _ l rfl (HO2.out.below HBB.out) ⟨w2.heap.size, 0, none⟩ (⟨2, n, bytes, text⟩ : Pt) 1 rfl (cellsOf_new w2 (⟨2, n, bytes, text⟩ : Pt) 30) (by have := HLK.out; omega) (Nat.le_trans A2.out.below.size HBB.out.size) ?_; intro v1 w3 hv1 hg1 ho1; have HY := hid (BackAt.yes (x := (⟨2, n, bytes, text⟩ : Pt)) HO2.out A2.out R2.out HBB.out hv1 hg1 ho1); obtain ⟨v1a, v1n, v1c, rfl⟩ : ∃ a n c, v1 = .slice a n c := (by obtain ⟨a, c, e, _⟩ := hv1.pts (fun y hy => (R2.out y hy).2); exact ⟨a, _, c, e⟩); clear hv1 hg1 ho1)
            go_roundw
            case rel => exact ⟨k + 1, l ++ [(⟨2, n, bytes, text⟩ : Pt)], hlt, by have := HLK.out; simp; omega, by go_num, HY.out⟩
            case measure => simp [intOf]; omega
          · have N2 := hid (HBA.out.no a2 k2 r1)
            generalize (written (selB l) (encP (⟨2, n, bytes, text⟩ : Pt)) (noP (⟨2, n, bytes, text⟩ : Pt))).2 = eno at r0 ⊢
            have hne : (eno == 0) = false := by simpa using r0
            clear a2 k2 r0 r1 HST
            go_wp2_with fail
            go_roundw
            case rel => exact ⟨k + 1, l, hlt, by have := HLK.out; omega, by go_num, N2.out⟩
            case measure => simp [intOf]; omega
        · have hcall := HBA.out.st.truth (decide (0 < n))
          have he1 : encP ⟨kind, n, bytes, text⟩ = some [if decide (0 < n) then 1 else 0] := by unfold encP; rw [if_neg h1, if_neg h2]
          have hn1 : noP ⟨kind, n, bytes, text⟩ = 2 := by unfold noP; rw [if_neg h2]
          rw [← he1, ← hn1] at hcall
          have HC := hid hcall
          have g1 : (kind == 1) = false := by simpa using h1
          have g2 : (kind == 2) = false := by simpa using h2
          clear hcall he1 hn1 h1 h2
          go_wp2_with fail
          refine HC.out.mono ?_
          intro e w2 hres
          obtain ⟨rfl, a2, k2⟩ := hres
          have HO2 := hid (HBA.out.own.kept k2 fun _ h => h)
          have e0 := a2.below.cell (p := ⟨b0, off0 + k * 4, none⟩) HO0.out
          have e1 := a2.below.cell (p := ⟨b0, off0 + k * 4 + 1, none⟩) HO0.out
          have e2 := a2.below.cell (p := ⟨b0, off0 + k * 4 + 2, none⟩) HO0.out
          have e3 := a2.below.cell (p := ⟨b0, off0 + k * 4 + 3, none⟩) HO0.out
          rw [HD.out.1] at e0
          rw [HD.out.2.1] at e1
          rw [HD.out.2.2.1] at e2
          rw [HD.out.2.2.2] at e3
          clear c0 c1 c2 c3
          rcases HST.out with ⟨r0, r1, r2⟩ | ⟨r0, r1⟩
          · rw [r1] at a2
            rw [r0]
            have A2 := hid a2
            have R2 := hid r2
            clear a2 k2 r0 r1 r2 HST
            have hbA : Below w2.heap.size w2 (w2.alloc (.cells #[.int .i64 (⟨kind, n, bytes, text⟩ : Pt).kind, .int .u64 (((⟨kind, n, bytes, text⟩ : Pt).n : Nat) : Int), .int .i64 (⟨kind, n, bytes, text⟩ : Pt).bytes, .string (⟨kind, n, bytes, text⟩ : Pt).text] 30)) := (Below.refl _ _).alloc (Nat.le_refl _) _
            have HBB := hid hbA
            clear hbA
            go_wp2_with (at_builtin; refine wpList_appendP rfl (.tmp 65) (.tmp 70) rfl w.heap.size _ l rfl (HO2.out.below HBB.out) ⟨w2.heap.size, 0, none⟩ (⟨kind, n, bytes, text⟩ : Pt) 1 rfl (cellsOf_new w2 (⟨kind, n, bytes, text⟩ : Pt) 30) (by have := HLK.out; omega) (Nat.le_trans A2.out.below.size HBB.out.size) ?_; intro v1 w3 hv1 hg1 ho1; have HY := hid (BackAt.yes (x := (⟨kind, n, bytes, text⟩ : Pt)) HO2.out A2.out R2.out HBB.out hv1 hg1 ho1); obtain ⟨v1a, v1n, v1c, rfl⟩ : ∃ a n c, v1 = .slice a n c := (by obtain ⟨a, c, e, _⟩ := hv1.pts (fun y hy => (R2.out y hy).2); exact ⟨a, _, c, e⟩); clear hv1 hg1 ho1)
            go_roundw
            case rel => exact ⟨k + 1, l ++ [(⟨kind, n, bytes, text⟩ : Pt)], hlt, by have := HLK.out; simp; omega, by go_num, HY.out⟩
            case measure => simp [intOf]; omega
          · have N2 := hid (HBA.out.no a2 k2 r1)
            generalize (written (selB l) (encP (⟨kind, n, bytes, text⟩ : Pt)) (noP (⟨kind, n, bytes, text⟩ : Pt))).2 = eno at r0 ⊢
            have hne : (eno == 0) = false := by simpa using r0
            clear a2 k2 r0 r1 HST
            go_wp2_with fail
            go_roundw
            case rel => exact ⟨k + 1, l, hlt, by have := HLK.out; omega, by go_num, N2.out⟩
            case measure => simp [intOf]; omega
    · have i0 : ¬ ((k : Int) < (L : Int)) := by omega
      obtain ⟨a4, c4, e4, -⟩ := HBA.out.own.pts (fun y hy => (HBA.out.sel y hy).2)
      subst e4
      generalize hM : l.length = m at *
      have HM := hid hM
      have hm30 : m ≤ 30 := by omega
      clear hx hM hk hlk
      go_wp2_with fail
      refine HBA.out.st.bytes.mono ?_
      rintro e w2 ⟨v2, rfl, o2, a2, b2⟩
      have NR := hid (newreader_calls v2 _ _ w2 o2.part (fun k hk => (o2.block hk).2) (by have := HBA.out.st.short; omega))
      have HB2 := hid b2
      have HB02 := hid a2.below
      obtain ⟨x2, n2, c2, rfl⟩ : ∃ a n c, v2 = .slice a n c := by obtain ⟨a, c, e, _⟩ := o2.part; exact ⟨a, _, c, e⟩
      clear o2 a2 b2
      go_wp2_with fail
      refine NR.out.mono ?_
      rintro e w3 ⟨R, rfl, r3, b3, h3⟩
      have HB3 := hid (HB02.out.trans (b3.mono HB02.out.size))
      have HR3 := hid (show w2.heap.size ≤ R from h3)
      have HW2 := hid HB02.out.size
      have HO3 := hid ((HBA.out.own.below HB2.out).below b3)
      have R3 := hid r3
      have HOR := hid (show ∀ b, (Value.slice a4 m c4).ownBlock = some b → b < R from fun b hb => by have := (HBA.out.own.block hb).2; have := HB2.out.size; omega)
      have HSEL := hid HBA.out.sel
      clear r3 b3 h3 HBA NR
      go_wp2_with fail
      go_loopw [8] (fun i wr => ∃ q : Nat, q ≤ m ∧ i = .int .i64 (q : Int) ∧ RdAt (fun k => w2.heap.size ≤ k ∧ k < R) wr R (selB (l.drop q)) ∧ Below w.heap.size w wr ∧ OwnP wr w.heap.size (.slice a4 m c4) l) (fun i _ => m - (intOf i).toNat)
      case atStart => exact ⟨0, Nat.zero_le _, rfl, R3.out, HB3.out, HO3.out⟩
      case round =>
        clear hlt i0
        obtain ⟨q, hq, rfl, hr, hb, ho⟩ := hrel
        have HRD := hid hr
        have HBE := hid hb
        have HOW := hid ho
        by_cases hql : q < m
        · have hkl : q < l.length := by rw [HM.out]; exact hql
          obtain ⟨a5, c5, e5, hp⟩ := ho.pts (fun y hy => (HSEL.out y hy).2)
          obtain ⟨b0, off0, rfl, ho0, hxn, hd0, hd1, hd2, hd3⟩ := hp q hkl
          have ea : a4 = some ⟨b0, off0, none⟩ := by cases e5; rfl
          subst ea
          have hdn := selB_down l q hkl
          have hsq := (HSEL.out _ (List.getElem_mem hkl)).1
          have i0 : (q : Int) < (m : Int) := by omega
          have HRlt := hid hr.lt
          generalize l[q] = x at *
          have HDN := hid hdn
          have HSQ := hid hsq
          obtain ⟨kind, n, bytes, text⟩ := x
          have hbW : Below wr.heap.size wr (wr.alloc (.cells #[.int .i64 kind, .int .u64 (n : Int), .int .i64 bytes, .string text] 30)) := (Below.refl _ _).alloc (Nat.le_refl _) _
          have hX := Blk.new wr [.int .i64 kind, .int .u64 (n : Int), .int .i64 bytes, .string text] 30
          have HBW := hid hbW
          have HX := hid hX
          have HRW := hid (HRD.out.grows hbW)
          simp only at hd0 hd1 hd2 hd3
          clear hp e5 hr hb ho hdn hsq hbW hX hxn ho0
          by_cases h1 : kind = 1
          · subst h1
            have heq := back_num ⟨1, n, bytes, text⟩ (selB (l.drop (q + 1))) rfl HSQ.out
            rw [← HDN.out] at heq
            have HEQ := hid heq
            clear heq
            go_wp2_with fail
            generalize (wr.alloc (.cells #[.int .i64 1, .int .u64 (n : Int), .int .i64 bytes, .string text] 30)) = W at *
            refine (rnumber_calls _ R _ bytes _ HRW.out).mono ?_
            rw [HEQ.out]
            rintro e w4 ⟨rfl, r4, k4⟩
            have hsz := HBW.out.size
            have hXlt := HX.out.lt
            have x1 := k4.cell (p := ⟨wr.heap.size, 1, none⟩) ⟨hXlt, by have := HRlt.out; show wr.heap.size ≠ R; omega⟩
            have x2 := k4.cell (p := ⟨wr.heap.size, 2, none⟩) ⟨hXlt, by have := HRlt.out; show wr.heap.size ≠ R; omega⟩
            have x3 := k4.cell (p := ⟨wr.heap.size, 3, none⟩) ⟨hXlt, by have := HRlt.out; show wr.heap.size ≠ R; omega⟩
            rw [HX.out.cell] at x1 x2 x3
            simp only [List.getElem?_cons_succ, List.getElem?_cons_zero] at x1 x2 x3
            have B4 := hid (kept_below (HBE.out.trans (HBW.out.mono HBE.out.size)) k4 (fun k hk => by have := HBE.out.size; have := HR3.out; have := HW2.out; exact ⟨by omega, by omega⟩))
            have O4 := hid ((HOW.out.below HBW.out).kept k4 (fun b hb => ⟨by have := (HOW.out.block hb).2; omega, by have := HOR.out b hb; omega⟩))
            have R4 := hid r4
            clear r4 k4 hsz hXlt hd0 hd1 hd2 hd3
            go_wp2_with fail
            go_roundw
            case rel => exact ⟨q + 1, hql, by go_num, R4.out, B4.out, O4.out⟩
            case measure => simp [intOf]; omega
          · by_cases h2 : kind = 2
            · subst h2
              clear h1
              have heq := back_text ⟨2, n, bytes, text⟩ (selB (l.drop (q + 1))) rfl HSQ.out
              rw [← HDN.out] at heq
              have HEQ := hid heq
              clear heq
              go_wp2_with fail
              generalize (wr.alloc (.cells #[.int .i64 2, .int .u64 (n : Int), .int .i64 bytes, .string text] 30)) = W at *
              refine (rtext_calls _ R _ _ HRW.out).mono ?_
              rw [HEQ.out]
              rintro e w4 ⟨rfl, r4, k4⟩
              have hsz := HBW.out.size
              have hXlt := HX.out.lt
              have x1 := k4.cell (p := ⟨wr.heap.size, 1, none⟩) ⟨hXlt, by have := HRlt.out; show wr.heap.size ≠ R; omega⟩
              have x2 := k4.cell (p := ⟨wr.heap.size, 2, none⟩) ⟨hXlt, by have := HRlt.out; show wr.heap.size ≠ R; omega⟩
              have x3 := k4.cell (p := ⟨wr.heap.size, 3, none⟩) ⟨hXlt, by have := HRlt.out; show wr.heap.size ≠ R; omega⟩
              rw [HX.out.cell] at x1 x2 x3
              simp only [List.getElem?_cons_succ, List.getElem?_cons_zero] at x1 x2 x3
              have B4 := hid (kept_below (HBE.out.trans (HBW.out.mono HBE.out.size)) k4 (fun k hk => by have := HBE.out.size; have := HR3.out; have := HW2.out; exact ⟨by omega, by omega⟩))
              have O4 := hid ((HOW.out.below HBW.out).kept k4 (fun b hb => ⟨by have := (HOW.out.block hb).2; omega, by have := HOR.out b hb; omega⟩))
              have R4 := hid r4
              clear r4 k4 hsz hXlt hd0 hd1 hd2 hd3
              simp only [str_eta]
              go_wp2_with fail
              go_roundw
              case rel => exact ⟨q + 1, hql, by go_num, R4.out, B4.out, O4.out⟩
              case measure => simp [intOf]; omega
            · have g1 : (kind == 1) = false := by simpa using h1
              have g2 : (kind == 2) = false := by simpa using h2
              have heq := back_truth ⟨kind, n, bytes, text⟩ (selB (l.drop (q + 1))) h1 h2
              rw [← HDN.out] at heq
              have HEQ := hid heq
              clear heq h1 h2
              go_wp2_with fail
              generalize (wr.alloc (.cells #[.int .i64 kind, .int .u64 (n : Int), .int .i64 bytes, .string text] 30)) = W at *
              refine (rtruth_calls _ R _ _ HRW.out).mono ?_
              rw [HEQ.out]
              rintro e w4 ⟨rfl, r4, k4⟩
              have hsz := HBW.out.size
              have hXlt := HX.out.lt
              have x1 := k4.cell (p := ⟨wr.heap.size, 1, none⟩) ⟨hXlt, by have := HRlt.out; show wr.heap.size ≠ R; omega⟩
              have x2 := k4.cell (p := ⟨wr.heap.size, 2, none⟩) ⟨hXlt, by have := HRlt.out; show wr.heap.size ≠ R; omega⟩
              have x3 := k4.cell (p := ⟨wr.heap.size, 3, none⟩) ⟨hXlt, by have := HRlt.out; show wr.heap.size ≠ R; omega⟩
              rw [HX.out.cell] at x1 x2 x3
              simp only [List.getElem?_cons_succ, List.getElem?_cons_zero] at x1 x2 x3
              have B4 := hid (kept_below (HBE.out.trans (HBW.out.mono HBE.out.size)) k4 (fun k hk => by have := HBE.out.size; have := HR3.out; have := HW2.out; exact ⟨by omega, by omega⟩))
              have O4 := hid ((HOW.out.below HBW.out).kept k4 (fun b hb => ⟨by have := (HOW.out.block hb).2; omega, by have := HOR.out b hb; omega⟩))
              have R4 := hid r4
              clear r4 k4 hsz hXlt hd0 hd1 hd2 hd3
              go_wp2_with fail
              go_roundw
              case rel => exact ⟨q + 1, hql, by go_num, R4.out, B4.out, O4.out⟩
              case measure => simp [intOf]; omega
        · have i0 : ¬ ((q : Int) < (m : Int)) := by omega
          have hdr : l.drop q = [] := List.drop_of_length_le (by rw [HM.out]; omega)
          rw [hdr] at HRD
          have HLF := hid (left_calls _ R _ _ HRD.out)
          clear hdr hr hb ho
          go_wp2_with fail
          refine HLF.out.mono ?_
          rintro e w5 ⟨rfl, rfl⟩
          go_wp2_with fail
          refine (wknown_calls _).mono ?_
          rintro e w6 ⟨rfl, hb⟩
          have HB := hid hb
          clear hb
          go_wp2_with fail
          go_ret
          exact ⟨rfl, HBE.out.trans (HB.out.mono HBE.out.size)⟩
set_option maxRecDepth 100000 in
theorem wireBack_open {H : Type} (enc : TypeId × Value → H) (W : World) (base : Nat) (v0 : Value) (d0 : DataW H) (p0 : List MemPlace) (o0 : Value.okWide Try.prog W .any base 22 v0)
    (h0 : DataW.Trod enc Try.prog W 0 (fun _ => true) true 22 v0 d0 p0) :
    Calls Try.prog 3 #[v0] W fun e w' => e = .returned (.bool true) ∧ Below W.heap.size W w' := by
  obtain ⟨a, cap, xs, rfl, hx, hl⟩ := parts_of enc W base v0 d0 p0 o0 h0
  exact wback_walk a cap xs W hx hl
end Go.Proofs.Ytkpadhjlopcejaa
