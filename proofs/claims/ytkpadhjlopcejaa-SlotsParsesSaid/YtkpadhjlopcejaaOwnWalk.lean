/-
  WireOwn: its walk, and its arguments opened.
-/
import Derived.Test.YtkpadhjlopcejaaWState
import Derived.ProofKit
import Derived.OpenShut
import Derived.ShutString
namespace Go.Proofs.Ytkpadhjlopcejaa
open Go.RowKit Go.ChangeShapes Go.WideShapes Go.ChangeAt
/-- a cell of bytes of one's own, and what a store leaves -/
theorem OwnB.cellAt {w : World} {base : Nat} {v : Value} {l : List UInt8} (h : OwnB w base v l) (i : Nat) (hi : i < l.length) :
    ∃ g cap, v = .slice (some ⟨g, 0, none⟩) l.length cap ∧ v.ownBlock = some g ∧ base ≤ g ∧ w.cell? ⟨g, i, none⟩ = some (.int .u8 (l[i].toNat : Int)) ∧ w.frozen? ⟨g, i, none⟩ = false ∧
      ∀ x : UInt8, OwnB (w.setCell ⟨g, i, none⟩ (.int .u8 (x.toNat : Int))) base v (l.set i x) := by
  obtain ⟨h1, h2⟩ := h
  rcases h2 with ⟨rfl, hl⟩ | ⟨g, cap, cur, rfl, hg, hh, hn, hm, hsz, ht⟩
  · omega
  · have e : cur[i]? = some (.int .u8 (l[i].toNat : Int)) := by
      have : (cur.toList.take (l.length * 1))[i]? = (cellsB l)[i]? := by rw [ht]
      rw [List.getElem?_take_of_lt (by omega), cellsB_get hi] at this
      simpa using this
    refine ⟨g, cap, rfl, rfl, hg, by simp [World.cell?, hh, e], by simp [World.frozen?, hh], fun x => ⟨by simp [cellsB], .inr ⟨g, cap, cur.setIfInBounds i (.int .u8 (x.toNat : Int)), by simp, hg, ?_, by simpa using hn, hm, by simpa using hsz, ?_⟩⟩⟩
    · simp [World.setCell, Array.getElem?_modify, hh]
    · unfold cellsB at ht ⊢
      rw [Array.toList_setIfInBounds, List.length_set, List.take_set, ht, List.map_set]
theorem incr_byte (x : UInt8) : ((x.toNat : Int) + 1) % 256 = (((x + 1 : UInt8)).toNat : Int) := by
  rw [UInt8.toNat_add]
  have : (1 : UInt8).toNat = 1 := rfl
  rw [this]
  have e8 : (2 : Nat) ^ 8 = 256 := rfl
  omega
theorem readText_be (s rest : List UInt8) (h : s.length ≤ 65535) : readText (be s.length 2 ++ s ++ rest) = ((s, 0), rest) := by
  have hb := be_length s.length 2
  have hv : val (be s.length 2) = s.length := val_be _ _ (by have : (256 : Nat) ^ 2 = 65536 := by decide
                                                             omega)
  have ht : (be s.length 2 ++ s ++ rest).take 2 = be s.length 2 := by rw [List.append_assoc, List.take_append_of_le_length (by omega), List.take_of_length_le (by omega)]
  have hd : (be s.length 2 ++ s ++ rest).drop 2 = s ++ rest := by
    rw [List.append_assoc, List.drop_append_of_le_length (by omega), List.drop_of_length_le (by omega), List.nil_append]
  unfold readText
  rw [ht, hd, hv, if_neg (by simp; omega), if_neg (by simp), List.take_left, List.drop_left]
theorem str_eta (s : ByteArray) : (⟨s.data.toList.toArray⟩ : ByteArray) = s := by cases s; simp
theorem written_text (l : List UInt8) (s : ByteArray) (hs : s.size ≤ 65535) (hl : l.length + s.size ≤ 65534) : written l (textB s.data.toList) 3 = (l ++ (be s.data.toList.length 2 ++ s.data.toList), 0) := by
  have e : s.data.toList.length = s.size := by simp
  unfold written textB
  rw [if_pos (by omega)]
  simp only
  rw [if_neg (by rw [List.length_append, be_length, e]; omega)]
theorem wown_out (a b : ByteArray) (w : World) (h : 300 < a.size ∨ 300 < b.size) : Calls Try.prog 7 #[.string a, .string b] w fun e w' => e = .returned (.bool true) ∧ Below w.heap.size w w' := by
  have HK := hid (wknown_calls w)
  by_cases h1 : 300 < a.size
  · have h' : (300 : Int) < (a.size : Int) := by omega
    clear h
    go_enter Try.func7, Try.ntmps7
    go_wp2_with (refine HK.out.mono ?_; rintro e w' ⟨rfl, hB⟩)
    go_ret
    exact ⟨rfl, hB⟩
  · have h1' : ¬ (300 : Int) < (a.size : Int) := by omega
    have h' : (300 : Int) < (b.size : Int) := by omega
    clear h
    go_enter Try.func7, Try.ntmps7
    go_wp2_with (refine HK.out.mono ?_; rintro e w' ⟨rfl, hB⟩)
    go_ret
    exact ⟨rfl, hB⟩
/-- behind a store into the block X, which is another's -/
theorem Wst.stored {B : Nat} {w0 : World} {oth : Nat → Prop} {w : World} {P : Nat} {l : List UInt8} (h : Wst B w0 oth w P l) (X i : Nat) (u : Value) (hX : oth X) (hB : B ≤ X) : Wst B w0 oth (w.setCell ⟨X, i, none⟩ u) P l :=
  (h.other (tch := fun k => k = X) ((Kept.refl _ w).setCell (p := ⟨X, i, none⟩) (fun h => h.2 rfl) u) (fun k hk => by rw [hk]; exact hX) (fun k hk => by rw [hk]; exact hB)).less fun _ hk => .inl hk
set_option maxRecDepth 100000 in
set_option maxHeartbeats 4000000 in
theorem wown_in (a b : ByteArray) (w : World) (ha : a.size ≤ 300) (hb : b.size ≤ 300) : Calls Try.prog 7 #[.string a, .string b] w fun e w' => e = .returned (.bool true) ∧ Below w.heap.size w w' := by
  have h1 : ¬ (300 : Int) < (a.size : Int) := by omega
  have h2 : ¬ (300 : Int) < (b.size : Int) := by omega
  have HA := hid ha
  have HB := hid hb
  have hwa := written_text [] a (by omega) (by simp; omega)
  rw [List.nil_append] at hwa
  have la : a.data.toList.length = a.size := by simp
  have lb : b.data.toList.length = b.size := by simp
  have hwb := written_text (be a.data.toList.length 2 ++ a.data.toList) b (by omega) (by rw [List.length_append, be_length]; omega)
  have hra := readText_be a.data.toList (be b.data.toList.length 2 ++ b.data.toList) (by omega)
  have hrb := readText_be b.data.toList [] (by omega)
  rw [List.append_nil] at hrb
  have hl1 : (be a.data.toList.length 2 ++ a.data.toList).length ≤ 302 := by rw [List.length_append, be_length]; omega
  have hl2 : (be a.data.toList.length 2 ++ a.data.toList ++ (be b.data.toList.length 2 ++ b.data.toList)).length ≤ 604 := by rw [List.length_append, List.length_append, List.length_append, be_length, be_length]; omega
  generalize be a.data.toList.length 2 ++ a.data.toList = l1 at *
  generalize be b.data.toList.length 2 ++ b.data.toList = lb2 at *
  have HWA := hid hwa
  have HWB := hid hwb
  have HRA := hid hra
  have HRB := hid hrb
  have HL1 := hid hl1
  have HL2 := hid hl2
  clear ha hb hwa hwb hra hrb hl1 hl2 la lb
  go_enter Try.func7, Try.ntmps7
  go_wp2_with fail
  refine (wst_new w.heap.size w w (Nat.le_refl _) (Below.refl _ _)).mono ?_
  rintro e w1 ⟨P, rfl, a1, -, hP⟩
  have A1 := hid a1
  clear a1
  go_wp2_with fail
  refine (A1.out.text a).mono ?_
  rw [HWA.out]
  rintro e w2 ⟨rfl, a2, -⟩
  have A2 := hid a2
  clear a2
  go_wp2_with fail
  refine A2.out.bytes.mono ?_
  rintro e w3 ⟨v3, rfl, o3, a3, b3⟩
  obtain ⟨x3, c3, rfl, p3, -⟩ := o3.part
  obtain ⟨s1, hs1⟩ : ∃ s1 : ByteArray, s1 = ⟨l1.toArray⟩ := ⟨_, rfl⟩
  have hcv := run_strB (w := w3) l1.length c3 rfl p3
  rw [← hs1] at hcv
  generalize hN : l1.length = n at *
  have HS1 := hid hs1
  have O3 := hid o3
  have A3 := hid a3
  have HN := hid hN
  have HZ3 := hid b3.size
  have hn302 := HL1.out
  clear hs1 o3 a3 p3 hN b3
  go_wp2_with fail
  clear hcv
  go_loopw [8] (fun i wr => ∃ (k : Nat) (l' : List UInt8), k ≤ n ∧ l'.length = n ∧ i = .int .i64 (k : Int) ∧ OwnB wr w2.heap.size (.slice x3 n c3) l' ∧ Wst w.heap.size w (fun k => (Value.slice x3 n c3).ownBlock = some k) wr P l1) (fun i _ => n - (intOf i).toNat)
  case atStart => exact ⟨0, l1, Nat.zero_le _, HN.out, rfl, O3.out, A3.out.less fun k hk => .inr (O3.out.block hk)⟩
  case round =>
    obtain ⟨k, l', hk, hl', rfl, ho, hst⟩ := hrel
    by_cases hlt : k < n
    · obtain ⟨g, cp, hv, hg, hgb, hcl, hfr, hset⟩ := ho.cellAt k (by omega)
      have i0 : (k : Int) < (n : Int) := by omega
      have hinc := incr_byte (l'[k]'(by omega))
      have hset2 := hset (l'[k]'(by omega) + 1)
      have hst2 := fun u => hst.stored g k u hg (by have := A2.out.lt; have := A2.out.low; omega)
      obtain rfl : x3 = some ⟨g, 0, none⟩ := by cases hv; rfl
      have hle : (l'.set k (l'[k]'(by omega) + 1)).length = n := by simpa using hl'
      generalize l'.set k (l'[k]'(by omega) + 1) = l2 at hset2 hle
      rw [← hinc] at hset2
      have hc8 := (l'[k]'(by omega)).toNat_lt
      generalize (l'[k]'(by omega)).toNat = c at hcl hset2 hc8
      have hc8' : c < 256 := hc8
      have HSET := hid hset2
      have HST := hid hst2
      have HLE := hid hle
      clear hset2 hst2 hset hst ho hv hg hgb hle hinc hl' hc8
      go_wp2_with fail
      go_roundw
      case rel => exact ⟨k + 1, l2, hlt, HLE.out, by go_num, HSET.out, HST.out _⟩
      case measure => simp [intOf]; omega
    · have i0 : ¬ ((k : Int) < (n : Int)) := by omega
      have B1 := hid hst.below
      have S4 := hid (hst.less (oth' := fun _ => False) fun _ h => h.elim)
      clear hst ho O3 A3 hl'
      go_wp2_with fail
      refine S4.out.bytes.mono ?_
      rintro e w4 ⟨v4, rfl, o4, a4, b4⟩
      obtain ⟨x4, c4, rfl, p4, -⟩ := o4.part
      have hcv := run_strB (w := w4) l1.length c4 rfl p4
      rw [← HS1.out, HN.out] at hcv
      have O4 := hid o4
      have A4 := hid a4
      have P4 := hid p4
      rw [HN.out]
      clear o4 a4 p4 b4
      go_wp2_with fail
      clear hcv
      refine (A4.out.text b).mono ?_
      rw [HWB.out]
      rintro e w5 ⟨rfl, a5, k5⟩
      have hcv := run_strB (w := w5) l1.length c4 rfl (P4.out.kept (k5.shrink fun k hk => .inr (O4.out.block hk)))
      rw [← HS1.out, HN.out] at hcv
      have A5 := hid a5
      clear a5 k5
      go_wp2_with fail
      clear hcv
      refine A5.out.bytes.mono ?_
      rintro e w6 ⟨v6, rfl, o6, a6, b6⟩
      have A6 := hid a6
      have NR := hid (newreader_calls v6 _ _ w6 o6.part (fun k hk => (o6.block hk).2) (by have := HL2.out; omega))
      obtain ⟨x6, n6, c6, rfl⟩ : ∃ a n c, v6 = .slice a n c := by obtain ⟨a, c, e, _⟩ := o6.part; exact ⟨a, _, c, e⟩
      clear o6 a6 b6
      go_wp2_with fail
      refine NR.out.mono ?_
      rintro e w7 ⟨R, rfl, r7, b7, h7⟩
      have A7 := hid (A6.out.grows b7)
      have R7 := hid r7
      have hlr := r7.lt
      have HRL := hid (show w6.heap.size ≤ R ∧ R < w7.heap.size from ⟨h7, hlr⟩)
      clear r7 b7 h7 hlr
      go_wp2_with fail
      refine (rest_calls _ R _ w7 R7.out).mono ?_
      rintro e w8 ⟨v8, rfl, o8, b8⟩
      obtain ⟨x8, c8, rfl, -⟩ := o8.part
      have R8 := hid (R7.out.grows b8)
      have A8 := hid (A7.out.below.trans (b8.mono (by have := A7.out.low; have := A7.out.lt; omega)))
      have HZ8 := hid b8.size
      have hm604 := HL2.out
      obtain ⟨l8, hl8⟩ : ∃ l8, l8 = l1 ++ lb2 := ⟨_, rfl⟩
      rw [← hl8] at o8 hm604 ⊢
      have HL8 := hid hl8
      generalize hM : l8.length = m at *
      have HM := hid hM
      have O8 := hid o8
      clear o8 b8 hl8 hM
      go_wp2_with fail
      go_loopw [12] (fun i wr => ∃ (k : Nat) (l' : List UInt8), k ≤ m ∧ l'.length = m ∧ i = .int .i64 (k : Int) ∧ OwnB wr w7.heap.size (.slice x8 m c8) l' ∧ Below w.heap.size w wr ∧ RdAt (fun k => w6.heap.size ≤ k ∧ k < R) wr R (l1 ++ lb2)) (fun i _ => m - (intOf i).toNat)
      case atStart => exact ⟨0, l8, Nat.zero_le _, HM.out, rfl, O8.out, A8.out, R8.out⟩
      case round =>
        obtain ⟨k, l', hk, hl', rfl, ho, hbel, hrd⟩ := hrel
        by_cases hlt : k < m
        · obtain ⟨g, cp, hv, hg, hgb, hcl, hfr, hset⟩ := ho.cellAt k (by omega)
          have i1 : (k : Int) < (m : Int) := by omega
          have hinc := incr_byte (l'[k]'(by omega))
          have hset2 := hset (l'[k]'(by omega) + 1)
          have hz := HRL.out
          have hww : w.heap.size ≤ w6.heap.size := A6.out.below.size
          have hbel2 : ∀ u, Below w.heap.size w (wr.setCell ⟨g, k, none⟩ u) := fun u => hbel.setCell (p := ⟨g, k, none⟩) (by show w.heap.size ≤ g; omega) u
          have hrd2 : ∀ u, RdAt (fun k => w6.heap.size ≤ k ∧ k < R) (wr.setCell ⟨g, k, none⟩ u) R (l1 ++ lb2) := fun u => hrd.kept ((Kept.refl (fun b => b ≠ g) wr).setCell (p := ⟨g, k, none⟩) (fun h => h rfl) u) (by omega) (fun b hb => by omega)
          obtain rfl : x8 = some ⟨g, 0, none⟩ := by cases hv; rfl
          have hle : (l'.set k (l'[k]'(by omega) + 1)).length = m := by simpa using hl'
          generalize l'.set k (l'[k]'(by omega) + 1) = l2 at hset2 hle
          rw [← hinc] at hset2
          have hc8 := (l'[k]'(by omega)).toNat_lt
          generalize (l'[k]'(by omega)).toNat = c at hcl hset2 hc8
          have hc8' : c < 256 := hc8
          have HSET := hid hset2
          have HBEL := hid hbel2
          have HRD := hid hrd2
          have HLE := hid hle
          clear hset2 hbel2 hrd2 hset hbel hrd ho hv hg hgb hle hinc hl' hc8 hz hww
          go_wp2_with fail
          go_roundw
          case rel => exact ⟨k + 1, l2, hlt, HLE.out, by go_num, HSET.out, HBEL.out _, HRD.out _⟩
          case measure => simp [intOf]; omega
        · have i1 : ¬ ((k : Int) < (m : Int)) := by omega
          have HBEL := hid hbel
          have HRD := hid hrd
          have HLR := hid hrd.lt
          clear hbel hrd ho hl'
          go_wp2_with fail
          refine (rtext_calls _ R _ _ HRD.out).mono ?_
          rw [HRA.out]
          rintro e w9 ⟨rfl, r9, k9⟩
          have R9 := hid r9
          have B9 := hid (kept_below HBEL.out k9 (fun k hk => by have := HRL.out; have := A6.out.below.size; have := HBEL.out.size; exact ⟨by omega, by omega⟩))
          clear r9 k9
          go_wp2_with fail
          refine (rtext_calls _ R _ _ R9.out).mono ?_
          rw [HRB.out]
          rintro e w10 ⟨rfl, r10, k10⟩
          have B10 := hid (kept_below B9.out k10 (fun k hk => by have := HRL.out; have := A6.out.below.size; have := B9.out.size; exact ⟨by omega, by omega⟩))
          clear r10 k10
          simp only [str_eta]
          go_wp2_with fail
          refine (wknown_calls _).mono ?_
          rintro e w11 ⟨rfl, hk⟩
          go_wp2_with fail
          go_ret
          exact ⟨rfl, B10.out.trans (hk.mono B10.out.size)⟩
set_option maxRecDepth 100000 in
theorem wireOwn_open {H : Type} (enc : TypeId × Value → H) (W : World) (base : Nat) (v0 v1 : Value) (d0 d1 : DataW H) (p0 p1 : List MemPlace) (o0 : Value.okWide Try.prog W .any base 9 v0) (o1 : Value.okWide Try.prog W .any base 9 v1)
    (h0 : DataW.Trod enc Try.prog W 0 (fun _ => true) true 9 v0 d0 p0) (h1 : DataW.Trod enc Try.prog W 0 (fun _ => true) true 9 v1 d1 p1) :
    Calls Try.prog 7 #[v0, v1] W fun e w' => e = .returned (.bool true) ∧ Below W.heap.size W w' := by
  obtain ⟨a, rfl, -⟩ := ChangeMaps.open_string Try.underlying9 o0 h0
  obtain ⟨b, rfl, -⟩ := ChangeMaps.open_string Try.underlying9 o1 h1
  by_cases h : 300 < a.size ∨ 300 < b.size
  · exact wown_out a b W h
  · exact wown_in a b W (by omega) (by omega)
end Go.Proofs.Ytkpadhjlopcejaa
