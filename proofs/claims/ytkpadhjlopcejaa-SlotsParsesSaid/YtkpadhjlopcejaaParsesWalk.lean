/-
  SlotsParses: its walk, and its arguments opened.
-/
import Derived.Test.YtkpadhjlopcejaaSRParse
namespace Go.Proofs.Ytkpadhjlopcejaa
open Go.RowKit Go.ChangeShapes Go.WideShapes Go.ChangeAt
def PsEnd (w : World) (e : Ending) (w' : World) : Prop := e = .returned (.bool true) ∧ Below w.heap.size w w'
theorem parse_zero {k : Int} {b : List UInt8} {cs : List Cl} (h : parseC k b = (cs, 0)) : rightC k cs = true ∧ allC (decide (k = 2)) cs = b ∧ widthC (decide (k = 2)) cs ≤ 232 := by
  unfold parseC at h
  split at h
  · split at h
    · cases h
    · next g =>
      split at h
      · cases h
      · split at h
        · cases h
        · split at h
          · next hh =>
            cases h
            refine ⟨hh.2.1, hh.2.2, ?_⟩
            rw [← allC_length, hh.2.2]
            omega
          · cases h
  · cases h
theorem part_now {w w' : World} {v : Value} {l : List UInt8} (h : PartB (Old w) w v l) (hb : Below w.heap.size w w') : PartB (Old w') w' v l :=
  (h.kept (Kept.of_below hb fun _ h => h)).mono fun _ hq => Nat.lt_of_lt_of_le hq hb.size
set_option maxRecDepth 100000 in
set_option maxHeartbeats 4000000 in
theorem sparses_walk (k : Int) (vb : Value) (b : List UInt8) (w : World) (hp : PartB (Old w) w vb b) : Calls Try.prog 10 #[.int .i64 k, vb] w (PsEnd w) := by
  have HP := hid hp
  have HK := hid (fun (w' : World) (hb : Below w.heap.size w w') => known_endR w w' hb)
  obtain ⟨ab, cb, rfl, -⟩ := hp
  generalize hL : b.length = L at *
  have HL := hid hL
  clear hL
  by_cases g : 300 < L
  · have i0 : (300 : Int) < (L : Int) := by omega
    clear g
    go_enter Try.func10, Try.ntmps10
    go_wp2_with fail
    refine (HK.out w (Below.refl _ _)).mono ?_
    rintro e w2 ⟨rfl, b2⟩
    have HB2 := hid b2
    clear b2
    go_wp2_with fail
    go_ret
    exact ⟨rfl, HB2.out⟩
  · have i0 : ¬ (300 : Int) < (L : Int) := by omega
    clear g
    go_enter Try.func10, Try.ntmps10
    go_wp2_with fail
    refine (parse_calls k _ b w HP.out).mono ?_
    rintro e w2 ⟨v2, rfl, o2, b2⟩
    have HB2 := hid b2
    have HO2 := hid o2
    clear b2 o2
    obtain ⟨⟨cs, no⟩, hpc⟩ : ∃ x, x = parseC k b := ⟨_, rfl⟩
    have HPC := hid hpc.symm
    rw [← hpc] at HO2 ⊢
    simp only at HO2 ⊢
    clear hpc
    go_wp2_with fail
    refine (rparse_calls k _ b w2 (part_now HP.out HB2.out)).mono ?_
    rintro e w3 ⟨v3, rfl, o3, b3⟩
    rw [HPC.out] at o3 ⊢
    have HB3 := hid (HB2.out.trans (b3.mono HB2.out.size))
    have HO23 := hid (HO2.out.below b3)
    have HO3 := hid o3
    clear b3 o3 HO2
    go_wp2_with fail
    refine (rsame_calls v2 v3 cs cs w3 HO23.out.low HO3.out.low).mono ?_
    rintro e w4 ⟨q, rfl, hq, b4⟩
    obtain rfl : q = true := hq.2 rfl
    have HB4 := hid (HB3.out.trans (b4.mono HB3.out.size))
    have HO4 := hid (HO23.out.below b4)
    clear b4 hq HO23 HO3
    by_cases hno : no = 0
    · subst hno
      obtain ⟨hr, ha, hw⟩ := parse_zero HPC.out
      have HN := hid (show cs.length ≤ 400 by unfold widthC at hw; omega)
      have h5 := Raw_calls k v2 cs w4 HO4.out.low HN.out
      have e1 : rawErr k cs = 0 := by unfold rawErr; rw [if_pos hr, if_neg (by omega)]
      have e2 : rawOut k cs = b := by unfold rawOut; rw [e1, if_pos rfl, ha]
      rw [e1, e2] at h5
      have H5 := hid h5
      clear h5 e1 e2 hr ha hw
      go_wp2_with fail
      refine H5.out.mono ?_
      rintro e w5 ⟨v5, rfl, o5, b5⟩
      have HB5 := hid (HB4.out.trans (b5.mono HB4.out.size))
      obtain ⟨a5, c5, rfl, hb5, -⟩ := o5.part
      rw [HL.out]
      have hcv := run_strB (w := w5) L c5 HL.out hb5
      have hcw := run_strB (w := w5) L cb HL.out (part_now HP.out HB5.out).at.1
      have HK5 := hid (HK.out w5 HB5.out)
      clear o5 b5 hb5 H5
      go_wp2_with fail
      refine HK5.out.mono ?_
      rintro e w6 ⟨rfl, b6⟩
      have HB6 := hid b6
      clear b6
      go_wp2_with fail
      go_ret
      exact ⟨rfl, HB6.out⟩
    · have hne : (no != 0) = true := by simpa using hno
      have HK4 := hid (HK.out w4 HB4.out)
      clear hno
      go_wp2_with fail
      refine HK4.out.mono ?_
      rintro e w6 ⟨rfl, b6⟩
      have HB6 := hid b6
      clear b6
      go_wp2_with fail
      go_ret
      exact ⟨rfl, HB6.out⟩
set_option maxRecDepth 100000 in
theorem slotsParses_open {H : Type} (enc : TypeId × Value → H) (W : World) (base : Nat) (v0 v1 : Value) (d0 d1 : DataW H) (p0 p1 : List MemPlace) (o0 : Value.okWide Try.prog W .any base 60 v0) (o1 : Value.okWide Try.prog W .any base 36 v1)
    (h0 : DataW.Trod enc Try.prog W 0 (fun _ => true) true 60 v0 d0 p0) (h1 : DataW.Trod enc Try.prog W 0 (fun _ => true) true 36 v1 d1 p1) :
    Calls Try.prog 10 #[v0, v1] W fun e w' => e = .returned (.bool true) ∧ Below W.heap.size W w' := by
  obtain ⟨k, rfl, -⟩ := open_int Try.underlying60 o0 h0
  obtain ⟨b, hb⟩ := bytes_of enc W base v1 d1 p1 o1 h1
  exact sparses_walk k v1 b W hb
end Go.Proofs.Ytkpadhjlopcejaa
