/-
  WireCuts: its walk, and its arguments opened.
-/
import Derived.Test.YtkpadhjlopcejaaOwnWalk
import Derived.Deep.Strs
namespace Go.Proofs.Ytkpadhjlopcejaa
open Go.RowKit Go.ChangeShapes Go.WideShapes Go.ChangeAt
/-- texts of a slice, in blocks of which 'ok' speaks -/
def StrsIn (ok : Nat → Prop) (w : World) (a : Option Addr) (xs : List ByteArray) : Prop :=
  ∀ i (h : i < xs.length), ∃ b off, a = some ⟨b, off, none⟩ ∧ ok b ∧ w.cell? ⟨b, off + i, none⟩ = some (.string xs[i])
def encT (s : ByteArray) : List UInt8 := be s.data.toList.length 2 ++ s.data.toList
theorem encT_length (s : ByteArray) : (encT s).length = 2 + s.size := by unfold encT; rw [List.length_append, be_length]; simp
def encs (l : List ByteArray) : List UInt8 := l.flatMap encT
theorem encs_up (l : List ByteArray) (k : Nat) (h : k < l.length) : encs (l.take (k + 1)) = encs (l.take k) ++ encT l[k] := by
  rw [take_snoc l k h]
  unfold encs
  rw [List.flatMap_append, List.flatMap_cons, List.flatMap_nil, List.append_nil]
theorem encs_down (l : List ByteArray) (k : Nat) (h : k < l.length) : encs (l.drop k) = encT l[k] ++ encs (l.drop (k + 1)) := by
  rw [List.drop_eq_getElem_cons h]
  unfold encs
  rw [List.flatMap_cons]
theorem readText_long (s : ByteArray) (rest : List UInt8) (m : Nat) (hs : s.size ≤ 65535) (hm : 2 + s.size ≤ m) : readText ((encT s ++ rest).take m) = ((s.data.toList, 0), rest.take (m - (2 + s.size))) := by
  have e := encT_length s
  rw [List.take_append, List.take_of_length_le (by omega), e]
  exact readText_be s.data.toList _ (by simp; omega)
theorem readText_short (s : ByteArray) (rest : List UInt8) (m : Nat) (hs : s.size ≤ 65535) (hm : m < 2 + s.size) : readText ((encT s ++ rest).take m) = (([], 130), (encT s ++ rest).take m) ∧ ((encT s ++ rest).take m).length = m := by
  have e := encT_length s
  have hl : ((encT s ++ rest).take m).length = m := by rw [List.length_take, List.length_append]; omega
  refine ⟨?_, hl⟩
  unfold readText
  rw [hl]
  by_cases h2 : m < 2
  · rw [if_pos h2]
  · rw [if_neg h2]
    have ht : ((encT s ++ rest).take m).take 2 = be s.data.toList.length 2 := by
      rw [List.take_take, Nat.min_eq_left (by omega), encT, List.append_assoc, List.take_append_of_le_length (by rw [be_length]; omega), List.take_of_length_le (by rw [be_length]; omega)]
    have hv : val (be s.data.toList.length 2) = s.size := by
      rw [val_be _ _ (by have : (256 : Nat) ^ 2 = 65536 := by decide
                         simp; omega)]
      simp
    rw [ht, hv, if_pos (by rw [List.length_drop, hl]; omega)]
set_option maxRecDepth 100000 in
set_option maxHeartbeats 4000000 in
theorem wcuts_walk (a : Option Addr) (cap : Nat) (xs : List ByteArray) (left : Int) (w : World) (hx : StrsIn (fun k => k < w.heap.size) w a xs) (hL9 : xs.length ≤ 9223372036854775807) :
    Calls Try.prog 4 #[.slice a xs.length cap, .int .i64 left] w fun e w' => e = .returned (.bool true) ∧ Below w.heap.size w w' := by
  generalize hL : xs.length = L at *
  have HL := hid hL
  have HL9 := hid hL9
  clear hL hL9
  go_enter Try.func4, Try.ntmps4
  go_wp2_with fail
  refine (wst_new w.heap.size w w (Nat.le_refl _) (Below.refl _ _)).mono ?_
  rintro e w1 ⟨P, rfl, a1, -, hP⟩
  have A1 := hid (a1.less (oth' := fun _ => False) fun _ h => h.elim)
  clear a1
  go_wp2_with fail
  go_loopw [6, 7] (fun n i wr => ∃ k m : Nat, k ≤ L ∧ k ≤ 20 ∧ m ≤ 6000 ∧ i = .int .i64 (k : Int) ∧ n = .int .i64 (m : Int) ∧ Hid (∀ j (h : j < xs.length), j < k → xs[j].size ≤ 3000) ∧ Hid ((encs (xs.take k)).length = m + 2 * k) ∧ Wst w.heap.size w (fun _ => False) wr P (encs (xs.take k))) (fun _ i _ => L - (intOf i).toNat)
  case atStart => exact ⟨0, 0, Nat.zero_le _, by omega, by omega, rfl, rfl, fun j _ h => absurd h (Nat.not_lt_zero _), rfl, A1.out⟩
  case round =>
    obtain ⟨k, m, hk, hk20, hm, rfl, rfl, HJ, HE, hst⟩ := hrel
    have HS := hid hst
    have HK := hid (wknown_calls wr)
    clear hst
    by_cases hlt : k < L
    · have hkl : k < xs.length := by rw [HL.out]; exact hlt
      obtain ⟨b0, off0, rfl, ho0, hd0⟩ := hx k hkl
      have hd := HS.out.below.cell (p := ⟨b0, off0 + k, none⟩) ho0
      rw [hd0] at hd
      have i0 : (k : Int) < (L : Int) := by omega
      obtain ⟨x, hxe⟩ : ∃ x, x = xs[k] := ⟨_, rfl⟩
      rw [← hxe] at hd
      have HX := hid hxe
      clear hx hd0 hxe
      by_cases c1 : 20 ≤ k
      · have c1' : (20 : Int) ≤ (k : Int) := by omega
        clear hk20 hk
        go_wp2_with fail
        refine HK.out.mono ?_
        rintro e w2 ⟨rfl, hb⟩
        have HB := hid hb
        clear hb
        go_wp2_with fail
        go_ret
        exact ⟨rfl, HS.out.below.trans (HB.out.mono HS.out.below.size)⟩
      · have c1' : ¬ (20 : Int) ≤ (k : Int) := by omega
        by_cases c2 : 3000 < x.size
        · have c2' : (3000 : Int) < (x.size : Int) := by omega
          go_wp2_with fail
          refine HK.out.mono ?_
          rintro e w2 ⟨rfl, hb⟩
          have HB := hid hb
          clear hb
          go_wp2_with fail
          go_ret
          exact ⟨rfl, HS.out.below.trans (HB.out.mono HS.out.below.size)⟩
        · have c2' : ¬ (3000 : Int) < (x.size : Int) := by omega
          by_cases c3 : 3000 < m
          · have c3' : (3000 : Int) < (m : Int) := by omega
            go_wp2_with fail
            refine HK.out.mono ?_
            rintro e w2 ⟨rfl, hb⟩
            have HB := hid hb
            clear hb
            go_wp2_with fail
            go_ret
            exact ⟨rfl, HS.out.below.trans (HB.out.mono HS.out.below.size)⟩
          · have c3' : ¬ (3000 : Int) < (m : Int) := by omega
            have hwt := written_text (encs (xs.take k)) x (by omega) (by rw [HE.out]; omega)
            have hup := encs_up xs k hkl
            rw [← HX.out] at hup
            have hup2 : encs (xs.take k) ++ (be x.data.toList.length 2 ++ x.data.toList) = encs (xs.take (k + 1)) := hup.symm
            rw [hup2] at hwt
            have hlen : (encs (xs.take (k + 1))).length = m + x.size + 2 * (k + 1) := by rw [hup, List.length_append, HE.out, encT_length]; omega
            have HWT := hid hwt
            have HLEN := hid hlen
            have HK20 := hid hk20
            have HC1 := hid c1
            clear hwt hup hup2 hlen c1 hk20 HK
            go_wp2_with fail
            refine (HS.out.text x).mono ?_
            rw [HWT.out]
            rintro e w2 ⟨rfl, a2, -⟩
            have A2 := hid a2
            clear a2
            go_wp2_with fail
            go_roundw
            case rel =>
              refine ⟨k + 1, m + x.size, hlt, by have := HC1.out; omega, by omega, by go_num, by go_num, fun j hj hjk => ?_, HLEN.out, A2.out⟩
              by_cases e : j = k
              · subst e; rw [← HX.out]; omega
              · exact HJ.out j hj (by omega)
            case measure => simp [intOf]; omega
    · have hkL : k = L := by omega
      have htk : xs.take k = xs := List.take_of_length_le (by rw [HL.out]; omega)
      rw [htk] at HS HE
      have i0 : ¬ ((k : Int) < (L : Int)) := by omega
      have hL20 : L ≤ 20 := by omega
      have HK20 := hid hk20
      have HM := hid hm
      clear hkL htk hk20 hm hk HK
      go_wp2_with fail
      refine HS.out.bytes.mono ?_
      rintro e w2 ⟨v2, rfl, o2, a2, b2⟩
      obtain ⟨x2, c2, rfl, p2, q2, r2, s2⟩ := o2.part
      generalize hN : (encs xs).length = n at *
      have HN := hid hN
      have A2 := hid a2
      have P2 := hid p2
      have O2 := hid o2
      have HK := hid (wknown_calls w2)
      have hn : n ≤ 6040 := by have := HE.out; have := HK20.out; have := HM.out; omega
      clear o2 a2 b2 p2 hN HE
      by_cases hleft : 0 ≤ left ∧ left ≤ (n : Int)
      · obtain ⟨t, rfl⟩ : ∃ t : Nat, left = t := ⟨left.toNat, by omega⟩
        have l1 : ¬ ((t : Int) < 0) := by omega
        have l2 : ¬ ((n : Int) < (t : Int)) := by omega
        have l3 : (t : Int) ≤ (c2 : Int) := by omega
        have l4 : (0 : Int) ≤ (t : Int) := by omega
        have htn : t ≤ n := by omega
        have hpart : PartB (fun k => (Value.slice x2 n c2).ownBlock = some k) w2 (.slice x2 t c2) ((encs xs).take t) := ⟨x2, c2, by rw [List.length_take, HN.out, Nat.min_eq_left htn], P2.out.take t, by rw [List.length_take, HN.out]; omega, r2, s2⟩
        have NR := hid (newreader_calls _ _ _ w2 hpart (fun k hk => (O2.out.block hk).2) (by rw [List.length_take, HN.out]; omega))
        clear hpart hleft q2 r2 s2
        go_wp2_with fail
        refine NR.out.mono ?_
        rintro e w3 ⟨R, rfl, r3, b3, h3⟩
        have HB3 := hid (A2.out.below.trans (b3.mono A2.out.below.size))
        have HR3 := hid (show w2.heap.size ≤ R from h3)
        have HW2 := hid A2.out.below.size
        have R3 := hid r3
        have hall : ∀ j (h : j < xs.length), xs[j].size ≤ 3000 := fun j h => HJ.out j h (by have := HL.out; omega)
        have HALL := hid hall
        clear r3 b3 h3 hall A2 P2 O2 HK NR
        go_wp2_with fail
        go_loopw [10, 11] (fun at' i wr => ∃ q p : Nat, q ≤ L ∧ p ≤ t ∧ i = .int .i64 (q : Int) ∧ at' = .int .i64 (p : Int) ∧ RdAt (fun k => w2.heap.size ≤ k ∧ k < R) wr R ((encs (xs.drop q)).take (t - p)) ∧ Below w.heap.size w wr) (fun _ i _ => L - (intOf i).toNat)
        case atStart => exact ⟨0, 0, Nat.zero_le _, Nat.zero_le _, rfl, rfl, R3.out, HB3.out⟩
        case round =>
          obtain ⟨q, p, hq, hp, rfl, rfl, hr, hb⟩ := hrel
          have HRD := hid hr
          have HBE := hid hb
          clear hr hb
          by_cases hql : q < L
          · have hkl : q < xs.length := by rw [HL.out]; exact hql
            obtain ⟨b0, off0, rfl, ho0, hd0⟩ := hx q hkl
            have hx3 := HALL.out q hkl
            have hdn := encs_down xs q hkl
            obtain ⟨x, hxe⟩ : ∃ x, x = xs[q] := ⟨_, rfl⟩
            rw [← hxe] at hd0 hx3 hdn
            have i1 : (q : Int) < (L : Int) := by omega
            have HDN := hid hdn
            have HO0 := hid ho0
            have HD0 := hid hd0
            have HXE := hid hxe
            clear hdn hxe hd0 hx ho0
            by_cases hfit : 2 + x.size ≤ t - p
            · have hrt := readText_long x (encs (xs.drop (q + 1))) (t - p) (by omega) hfit
              rw [← HDN.out] at hrt
              have HRT := hid hrt
              have hnat : ¬ ((t : Int) < (p : Int) + 2 + (x.size : Int)) := by omega
              have hee : t - p - (2 + x.size) = t - (p + 2 + x.size) := by omega
              have hpp : p + 2 + x.size ≤ t := by omega
              have HEE := hid hee
              have HPP := hid hpp
              clear hrt hfit hee hpp
              go_wp2_with fail
              refine (rtext_calls _ R _ _ HRD.out).mono ?_
              rw [HRT.out]
              rintro e w4 ⟨rfl, r4, k4⟩
              have B4 := hid (kept_below HBE.out k4 (fun k hk => by have := HR3.out; have := HW2.out; have := HBE.out.size; exact ⟨by omega, by omega⟩))
              have hd := B4.out.cell (p := ⟨b0, off0 + q, none⟩) HO0.out
              rw [HD0.out] at hd
              rw [HEE.out] at r4
              have R4 := hid r4
              clear r4 k4
              simp only [str_eta]
              go_wp2_with fail
              go_roundw
              case rel => exact ⟨q + 1, p + 2 + x.size, hql, HPP.out, by go_num, by go_num, R4.out, B4.out⟩
              case measure => simp [intOf]; omega
            · have hrt := readText_short x (encs (xs.drop (q + 1))) (t - p) (by omega) (by omega)
              rw [← HDN.out] at hrt
              have HRT := hid hrt
              have hnat : (t : Int) < (p : Int) + 2 + (x.size : Int) := by omega
              have hsub : ((t - p : Nat) : Int) = (t : Int) - (p : Int) := by omega
              have HSUB := hid hsub
              clear hrt hfit hsub
              go_wp2_with fail
              refine (rtext_calls _ R _ _ HRD.out).mono ?_
              rw [HRT.out.1]
              rintro e w4 ⟨rfl, r4, k4⟩
              have B4 := hid (kept_below HBE.out k4 (fun k hk => by have := HR3.out; have := HW2.out; have := HBE.out.size; exact ⟨by omega, by omega⟩))
              have hd := B4.out.cell (p := ⟨b0, off0 + q, none⟩) HO0.out
              rw [HD0.out] at hd
              have HLF := hid (left_calls _ R _ w4 r4)
              rw [HRT.out.2, HSUB.out] at HLF
              clear r4 k4
              go_wp2_with fail
              refine HLF.out.mono ?_
              rintro e w5 ⟨rfl, rfl⟩
              go_wp2_with fail
              refine (wknown_calls _).mono ?_
              rintro e w6 ⟨rfl, hb⟩
              have HB := hid hb
              clear hb
              go_wp2_with fail
              go_ret
              exact ⟨rfl, B4.out.trans (HB.out.mono B4.out.size)⟩
          · have i1 : ¬ ((q : Int) < (L : Int)) := by omega
            have hdr : xs.drop q = [] := List.drop_of_length_le (by rw [HL.out]; omega)
            rw [hdr] at HRD
            have hz : (encs ([] : List ByteArray)).take (t - p) = [] := by simp [encs]
            rw [hz] at HRD
            have HLF := hid (left_calls _ R _ _ HRD.out)
            clear hdr hz hx
            go_wp2_with fail
            refine HLF.out.mono ?_
            rintro e w5 ⟨rfl, rfl⟩
            rw [List.length_nil]
            go_wp2_with fail
            refine (wknown_calls _).mono ?_
            rintro e w6 ⟨rfl, hb⟩
            have HB := hid hb
            clear hb
            go_wp2_with fail
            go_ret
            exact ⟨rfl, HBE.out.trans (HB.out.mono HBE.out.size)⟩
      · by_cases hneg : left < 0
        · clear hleft
          go_wp2_with fail
          refine HK.out.mono ?_
          rintro e w3 ⟨rfl, hb⟩
          have HB := hid hb
          clear hb
          go_wp2_with fail
          go_ret
          exact ⟨rfl, A2.out.below.trans (HB.out.mono A2.out.below.size)⟩
        · have hbig : (n : Int) < left := by omega
          clear hleft
          go_wp2_with fail
          refine HK.out.mono ?_
          rintro e w3 ⟨rfl, hb⟩
          have HB := hid hb
          clear hb
          go_wp2_with fail
          go_ret
          exact ⟨rfl, A2.out.below.trans (HB.out.mono A2.out.below.size)⟩
set_option maxRecDepth 100000 in
/-- what the shell tells of a slice of texts -/
theorem strs_of {H : Type} (enc : TypeId × Value → H) (W : World) (base : Nat) (v : Value) (d : DataW H) (p : List MemPlace) (o : Value.okWide Try.prog W .any base 45 v)
    (h : DataW.Trod enc Try.prog W 0 (fun _ => true) true 45 v d p) : ∃ (a : Option Addr) (cap : Nat) (xs : List ByteArray), v = .slice a xs.length cap ∧ StrsIn (fun k => k < W.heap.size) W a xs ∧ xs.length ≤ 9223372036854775807 := by
  obtain ⟨a0, len0, cap0, rfl⟩ := okWide_slice Try.underlying45 o
  obtain ⟨fuel, hf⟩ := h
  rcases Go.Deep.open_strs Try.underlying45 Try.underlying9 (by kernel_rfl) hf with ⟨hcs, _⟩ | ⟨x, l, c, m, Sx, hcs, _, hl, hm, hmm, _, hi⟩
  · simp [Value.cells] at hcs
    obtain ⟨rfl, rfl, rfl⟩ := hcs
    exact ⟨none, 0, [], rfl, fun i h => absurd h (Nat.not_lt_zero _), Nat.zero_le _⟩
  · simp [Value.cells] at hcs
    obtain ⟨rfl, rfl, rfl⟩ := hcs
    have hm' : m = cap0 := by simpa using hmm
    refine ⟨some x, cap0, (List.range len0).map Sx, by simp, fun i hil => ?_, by unfold maxLen at hm; simp; omega⟩
    have hi' : i < len0 := by simpa using hil
    obtain ⟨h1, _⟩ := hi i (by omega)
    obtain ⟨b, off, spot⟩ := x
    have hspot : spot = none := by
      have := World.cell?_spot (hi 0 (by omega)).1
      simpa [Addr.add] using this
    subst hspot
    rw [addr_add] at h1
    exact ⟨b, off, rfl, cell_lt h1, by rw [h1]; simp⟩
set_option maxRecDepth 100000 in
theorem wireCuts_open {H : Type} (enc : TypeId × Value → H) (W : World) (base : Nat) (v0 v1 : Value) (d0 d1 : DataW H) (p0 p1 : List MemPlace) (o0 : Value.okWide Try.prog W .any base 45 v0) (o1 : Value.okWide Try.prog W .any base 3 v1)
    (h0 : DataW.Trod enc Try.prog W 0 (fun _ => true) true 45 v0 d0 p0) (h1 : DataW.Trod enc Try.prog W 0 (fun _ => true) true 3 v1 d1 p1) :
    Calls Try.prog 4 #[v0, v1] W fun e w' => e = .returned (.bool true) ∧ Below W.heap.size W w' := by
  obtain ⟨a, cap, xs, rfl, hx, hl⟩ := strs_of enc W base v0 d0 p0 o0 h0
  obtain ⟨b, rfl, -⟩ := open_int Try.underlying3 o1 h1
  exact wcuts_walk a cap xs b W hx hl
end Go.Proofs.Ytkpadhjlopcejaa
