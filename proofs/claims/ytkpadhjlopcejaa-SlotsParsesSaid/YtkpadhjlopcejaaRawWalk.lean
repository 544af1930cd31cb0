/-
  SlotsRaw: its walk, and its arguments opened.
-/
import Derived.Test.YtkpadhjlopcejaaSKnown
import Derived.Test.YtkpadhjlopcejaaSRAll
import Derived.Test.YtkpadhjlopcejaaSSame
namespace Go.Proofs.Ytkpadhjlopcejaa
open Go.RowKit Go.ChangeShapes Go.WideShapes Go.ChangeAt
theorem known_endR (w0 w : World) (hb : Below w0.heap.size w0 w) : Calls Try.prog 34 #[] w fun e w' => e = .returned (.bool true) ∧ Below w0.heap.size w0 w' :=
  (known_calls w).mono fun _ _ h => ⟨h.1, hb.trans (h.2.mono hb.size)⟩
theorem rallk_calls (k : Int) (v : Value) (xs : List Cl) (w : World) (hp : PartC (fun q => q < w.heap.size) w v xs) (hr : rightC k xs = true) (hn : xs.length ≤ 400) : Calls Try.prog 39 #[.int .i64 k, v] w (BytesEnd (allC (decide (k = 2)) xs) w) := by
  have h := rall_calls (decide (k = 2)) v xs w hp (rightC_may hr) hn
  rwa [← rightC_k hr] at h
def RwEnd (w : World) (e : Ending) (w' : World) : Prop := e = .returned (.bool true) ∧ Below w.heap.size w w'
set_option maxRecDepth 100000 in
set_option maxHeartbeats 8000000 in
theorem sraw_walk (k : Int) (v : Value) (xs : List Cl) (w : World) (hp : PartC (fun q => q < w.heap.size) w v xs) : Calls Try.prog 9 #[.int .i64 k, v] w (RwEnd w) := by
  have HP := hid (fun (w' : World) (hb : Below w.heap.size w w') => (hp.below hb).mono (ok' := fun q => q < w'.heap.size) fun q hq => Nat.lt_of_lt_of_le hq hb.size)
  have HV := hid hp
  obtain ⟨a, cap, rfl, hx, -, -, -⟩ := hp
  have HF := hid (fewc_calls a cap xs _ w hx)
  have HK := hid (known_endR w w (Below.refl _ _))
  generalize hL : xs.length = L at *
  have HL := hid hL
  clear hx hL
  go_enter Try.func9, Try.ntmps9
  go_wp2_with fail
  refine HF.out.mono ?_
  rintro e w1 ⟨b, rfl, rfl, hb⟩
  cases b
  · go_wp2_with fail
    refine HK.out.mono ?_
    rintro e w2 ⟨rfl, b2⟩
    have HB2 := hid b2
    clear b2
    go_wp2_with fail
    go_ret
    exact ⟨rfl, HB2.out⟩
  · have HN := hid (show xs.length ≤ 400 by have := (hb rfl).1; omega)
    clear hb
    go_wp2_with fail
    by_cases hr : rightC k xs = true
    · by_cases hw : 232 < widthC (decide (k = 2)) xs
      · -- they do not fit
        have h1 := Raw_calls k _ xs w (HP.out w (Below.refl _ _)) HN.out
        have e1 : rawErr k xs = 150 := by unfold rawErr; rw [if_pos hr, if_pos hw]
        have e2 : rawOut k xs = [] := by unfold rawOut; rw [e1, if_neg (by decide)]
        rw [e1, e2] at h1
        refine h1.mono ?_
        rintro e w2 ⟨v2, rfl, o2, b2⟩
        have HB2 := hid b2
        obtain ⟨x2, c2, rfl, -⟩ := o2.part
        clear h1 e1 e2 o2 b2
        simp only [List.length_nil]
        go_wp2_with fail
        have h2 := size_calls k _ xs w2 (HP.out w2 HB2.out) HN.out
        have e3 : sizeC k xs = (((widthC (decide (k = 2)) xs : Nat) : Int), 0) := by unfold sizeC; rw [if_pos hr]
        rw [e3] at h2
        have hal := allC_length (decide (k = 2)) xs
        have HRR := hid hr
        obtain ⟨m, hm⟩ : ∃ m, m = widthC (decide (k = 2)) xs := ⟨_, rfl⟩
        rw [← hm] at h2 hw hal
        refine h2.mono ?_
        rintro e w3 ⟨rfl, b3⟩
        have HB3 := hid (HB2.out.trans (b3.mono HB2.out.size))
        have HW := hid hw
        have HAL := hid hal
        clear h2 e3 b3 hm hw hal hr
        go_wp2_with fail
        have h3 := right_calls k _ xs w3 (HP.out w3 HB3.out)
        rw [HRR.out] at h3
        refine h3.mono ?_
        rintro e w4 ⟨rfl, b4⟩
        have HB4 := hid (HB3.out.trans (b4.mono HB3.out.size))
        clear h3 b4
        go_wp2_with fail
        refine (rallk_calls k _ xs w4 (HP.out w4 HB4.out) HRR.out HN.out).mono ?_
        rintro e w5 ⟨v5, rfl, o5, b5⟩
        have HB5 := hid (HB4.out.trans (b5.mono HB4.out.size))
        obtain ⟨x5, c5, rfl, -⟩ := o5.part
        rw [HAL.out]
        clear o5 b5
        go_wp2_with fail
        have h6 := check_calls k _ xs w5 (HP.out w5 HB5.out)
        rw [HRR.out] at h6
        refine h6.mono ?_
        rintro e w6 ⟨rfl, b6⟩
        have HB6 := hid (HB5.out.trans (b6.mono HB5.out.size))
        have i1 : (232 : Int) < (m : Int) := by have := HW.out; omega
        have HK6 := hid (known_endR w w6 HB6.out)
        clear h6 b6
        go_wp2_with fail
        refine HK6.out.mono ?_
        rintro e w7 ⟨rfl, b7⟩
        have HB7 := hid b7
        clear b7
        go_wp2_with fail
        go_ret
        exact ⟨rfl, HB7.out⟩
      · -- they fit
        have h1 := Raw_calls k _ xs w (HP.out w (Below.refl _ _)) HN.out
        have e1 : rawErr k xs = 0 := by unfold rawErr; rw [if_pos hr, if_neg hw]
        have e2 : rawOut k xs = allC (decide (k = 2)) xs := by unfold rawOut; rw [e1, if_pos rfl]
        rw [e1, e2] at h1
        have hal := allC_length (decide (k = 2)) xs
        have hpa := parse_all hr (by omega)
        have HPA := hid hpa
        have HRR := hid hr
        have HSZ := hid (show sizeC k xs = (((widthC (decide (k = 2)) xs : Nat) : Int), 0) by unfold sizeC; rw [if_pos hr])
        obtain ⟨m, hm⟩ : ∃ m, m = widthC (decide (k = 2)) xs := ⟨_, rfl⟩
        rw [← hm] at hal hw HSZ
        have HAL := hid hal
        have HW := hid hw
        have HAC := hid (fun (w' : World) (hb : Below w.heap.size w w') => rallk_calls k _ xs w' (HP.out w' hb) hr HN.out)
        generalize allC (decide (k = 2)) xs = bs at *
        refine h1.mono ?_
        rintro e w2 ⟨v2, rfl, o2, b2⟩
        have HB2 := hid b2
        have HO2 := hid o2
        obtain ⟨x2, c2, rfl, -⟩ := o2.part
        rw [HAL.out]
        clear h1 e1 e2 o2 b2 hpa hr hm hal hw
        go_wp2_with fail
        have h2 := size_calls k _ xs w2 (HP.out w2 HB2.out) HN.out
        rw [HSZ.out] at h2
        refine h2.mono ?_
        rintro e w3 ⟨rfl, b3⟩
        have HB3 := hid (HB2.out.trans (b3.mono HB2.out.size))
        have HO3 := hid (HO2.out.below b3)
        clear h2 b3 HO2
        go_wp2_with fail
        have h3 := right_calls k _ xs w3 (HP.out w3 HB3.out)
        rw [HRR.out] at h3
        refine h3.mono ?_
        rintro e w4 ⟨rfl, b4⟩
        have HB4 := hid (HB3.out.trans (b4.mono HB3.out.size))
        have HO4 := hid (HO3.out.below b4)
        clear h3 b4 HO3
        go_wp2_with fail
        refine (HAC.out w4 HB4.out).mono ?_
        rintro e w5 ⟨v5, rfl, o5, b5⟩
        have HB5 := hid (HB4.out.trans (b5.mono HB4.out.size))
        have HO5 := hid (HO4.out.below b5)
        have HR5 := hid o5
        obtain ⟨x5, c5, rfl, -⟩ := o5.part
        rw [HAL.out]
        clear o5 b5 HO4
        go_wp2_with fail
        have h6 := check_calls k _ xs w5 (HP.out w5 HB5.out)
        rw [HRR.out] at h6
        refine h6.mono ?_
        rintro e w6 ⟨rfl, b6⟩
        have HB6 := hid (HB5.out.trans (b6.mono HB5.out.size))
        have HO6 := hid (HO5.out.below b6)
        have HR6 := hid (HR5.out.below b6)
        have i1 : ¬ (232 : Int) < (m : Int) := by have := HW.out; omega
        have HPC := hid (parse_calls k _ bs w6 (HO6.out.part.mono fun q e => (HO6.out.block e).2))
        unfold ParseEnd at HPC
        rw [HPA.out] at HPC
        rw [HAL.out] at HPC
        clear h6 b6 HO5 HR5
        go_wp2_with fail
        refine HPC.out.mono ?_
        rintro e w7 ⟨v7, rfl, o7, b7⟩
        have HB7 := hid (HB6.out.trans (b7.mono HB6.out.size))
        have hcv1 := run_strB (w := w7) m c2 HAL.out (HO6.out.below b7).part.at.1
        have hcv2 := run_strB (w := w7) m c5 HAL.out (HR6.out.below b7).part.at.1
        have HSM := hid (rsame_calls v7 _ xs xs w7 o7.low (HP.out w7 HB7.out))
        obtain ⟨x7, n7, c7, rfl⟩ : ∃ a n c, v7 = .slice a n c := by obtain ⟨a, c, e, _⟩ := o7.part; exact ⟨a, _, c, e⟩
        clear o7 b7 HPC
        go_wp2_with fail
        refine HSM.out.mono ?_
        rintro e w8 ⟨r, rfl, hr8, b8⟩
        obtain rfl : r = true := hr8.2 rfl
        have HB8 := hid (HB7.out.trans (b8.mono HB7.out.size))
        have HK8 := hid (known_endR w w8 HB8.out)
        clear hr8 b8 hcv1 hcv2
        go_wp2_with fail
        refine HK8.out.mono ?_
        rintro e w9 ⟨rfl, b9⟩
        have HB9 := hid b9
        clear b9
        go_wp2_with fail
        go_ret
        exact ⟨rfl, HB9.out⟩
    · -- they may not be
      have hr' : rightC k xs = false := by simpa using hr
      have h1 := Raw_calls k _ xs w (HP.out w (Below.refl _ _)) HN.out
      have e1 : rawErr k xs = 2 := by unfold rawErr; rw [if_neg hr]
      have e2 : rawOut k xs = [] := by unfold rawOut; rw [e1, if_neg (by decide)]
      rw [e1, e2] at h1
      have HSZ := hid (show sizeC k xs = (0, 2) by unfold sizeC; rw [if_neg hr])
      have HRR := hid hr'
      refine h1.mono ?_
      rintro e w2 ⟨v2, rfl, o2, b2⟩
      have HB2 := hid b2
      obtain ⟨x2, c2, rfl, -⟩ := o2.part
      clear h1 e1 e2 o2 b2 hr hr'
      simp only [List.length_nil]
      go_wp2_with fail
      have h2 := size_calls k _ xs w2 (HP.out w2 HB2.out) HN.out
      rw [HSZ.out] at h2
      refine h2.mono ?_
      rintro e w3 ⟨rfl, b3⟩
      have HB3 := hid (HB2.out.trans (b3.mono HB2.out.size))
      clear h2 b3
      go_wp2_with fail
      have h3 := right_calls k _ xs w3 (HP.out w3 HB3.out)
      rw [HRR.out] at h3
      refine h3.mono ?_
      rintro e w4 ⟨rfl, b4⟩
      have HB4 := hid (HB3.out.trans (b4.mono HB3.out.size))
      clear h3 b4
      go_wp2_with fail
      have h6 := check_calls k _ xs w4 (HP.out w4 HB4.out)
      rw [HRR.out] at h6
      refine h6.mono ?_
      rintro e w6 ⟨rfl, b6⟩
      have HB6 := hid (HB4.out.trans (b6.mono HB4.out.size))
      have HK6 := hid (known_endR w w6 HB6.out)
      clear h6 b6
      go_wp2_with fail
      refine HK6.out.mono ?_
      rintro e w7 ⟨rfl, b7⟩
      have HB7 := hid b7
      clear b7
      go_wp2_with fail
      go_ret
      exact ⟨rfl, HB7.out⟩
set_option maxRecDepth 100000 in
theorem slotsRaw_open {H : Type} (enc : TypeId × Value → H) (W : World) (base : Nat) (v0 v1 : Value) (d0 d1 : DataW H) (p0 p1 : List MemPlace) (o0 : Value.okWide Try.prog W .any base 60 v0) (o1 : Value.okWide Try.prog W .any base 61 v1)
    (h0 : DataW.Trod enc Try.prog W 0 (fun _ => true) true 60 v0 d0 p0) (h1 : DataW.Trod enc Try.prog W 0 (fun _ => true) true 61 v1 d1 p1) :
    Calls Try.prog 9 #[v0, v1] W fun e w' => e = .returned (.bool true) ∧ Below W.heap.size W w' := by
  obtain ⟨k, rfl, -⟩ := open_int Try.underlying60 o0 h0
  obtain ⟨xs, hx⟩ := cells_of enc W base v1 d1 p1 o1 h1
  exact sraw_walk k v1 xs W hx
end Go.Proofs.Ytkpadhjlopcejaa
