/-
  The walk of the document's Halve; parts of cells that may be.
-/
import Derived.Test.YtkpadhjlopcejaaSRAll
import Derived.Test.YtkpadhjlopcejaaSClone
namespace Go.Proofs.Ytkpadhjlopcejaa
open Go.RowKit
theorem okTo_of {leaf : Bool} {l : List Cl} (hm : ∀ x ∈ l, mayC leaf x = true) (hr : Rising l) : ∀ n, n ≤ l.length → okTo leaf l n = true
  | 0, _ => rfl
  | n + 1, hn => by
    rw [okTo_succ, okTo_of hm hr n (by omega), Bool.true_and]
    cases n with
    | zero => rw [okAt_eq (by omega) rfl]; exact hm _ (List.getElem_mem _)
    | succ n => rw [okAt_eq' (by omega), hm _ (List.getElem_mem _), hr n (by omega)]; rfl
theorem right_of {k : Int} {l : List Cl} (hk : k = 2 ∨ k = 3) (hn : l.length ≠ 0) (hm : ∀ x ∈ l, mayC (decide (k = 2)) x = true) (hr : Rising l) : rightC k l = true := by
  unfold rightC
  rw [okTo_of hm hr l.length (Nat.le_refl _), Bool.and_true]
  rcases hk with rfl | rfl
  · rfl
  · simpa using hn
theorem right_take {k : Int} {l : List Cl} (h : rightC k l = true) {t : Nat} (h1 : 1 ≤ t) (h2 : t ≤ l.length) : rightC k (l.take t) = true := by
  refine right_of (rightC_kind h) (by rw [List.length_take]; omega) (fun x hx => rightC_may h x (List.mem_of_mem_take hx)) fun i hi => ?_
  rw [List.length_take] at hi
  rw [List.getElem_take, List.getElem_take]
  exact rightC_rising h i (by omega)
theorem right_drop {k : Int} {l : List Cl} (h : rightC k l = true) {t : Nat} (h2 : t < l.length) : rightC k (l.drop t) = true := by
  refine right_of (rightC_kind h) (by rw [List.length_drop]; omega) (fun x hx => rightC_may h x (List.mem_of_mem_drop hx)) fun i hi => ?_
  rw [List.length_drop] at hi
  rw [List.getElem_drop, List.getElem_drop]
  exact (rightC_rising h).lt (by omega) (by omega)
theorem width_erase {leaf : Bool} {l : List Cl} (hm : ∀ x ∈ l, mayC leaf x = true) {j : Nat} (hj : j < l.length) : widthC leaf l ≤ widthC leaf (l.take j ++ l.drop (j + 1)) + 113 := by
  have h1 := widthC_split leaf l (j + 1)
  have h2 := widthC_take (leaf := leaf) hj
  have h3 := widthC_append leaf (l.take j) (l.drop (j + 1))
  have h4 := (widthC_one (hm _ (List.getElem_mem hj))).1
  omega
def NatEnd (n : Nat) (w : World) (e : Ending) (w' : World) : Prop := e = .returned (.int .i64 (n : Int)) ∧ Below w.heap.size w w'
set_option maxRecDepth 100000 in
set_option maxHeartbeats 8000000 in
theorem rhalve_calls (k : Int) (v : Value) (xs : List Cl) (w : World) (hp : PartC (fun q => q < w.heap.size) w v xs) (hr : rightC k xs = true) (h2 : 2 ≤ xs.length) (hn : xs.length ≤ 400) : Calls Try.prog 46 #[.int .i64 k, v] w (NatEnd (halveC (decide (k = 2)) xs) w) := by
  have hkk := rightC_k hr
  have hmay := rightC_may hr
  unfold halveC
  generalize decide (k = 2) = leaf at *
  obtain ⟨a, cap, rfl, hx, hc1, hc2, -⟩ := hp
  obtain ⟨b0, off0, rfl, -⟩ := hx.at (show 0 < xs.length by omega)
  have HX := hid hx
  have HM := hid hmay
  generalize hL : xs.length = L at *
  have HL := hid hL
  have HCC := hid (show L ≤ cap ∧ cap ≤ maxLen from ⟨hc1, hc2⟩)
  have HN := hid hn
  have HW := hid (fun (v : Value) (ys : List Cl) (w' : World) (h : PartC (fun q => q < w'.heap.size) w' v ys) (hm : ∀ x ∈ ys, mayC leaf x = true) (hl : ys.length ≤ 400) => rall_calls leaf v ys w' h hm hl)
  rw [← hkk] at HW
  obtain ⟨L1, hL1⟩ : ∃ x, x = L - 1 := ⟨_, rfl⟩
  rw [← hL1]
  have HL1 := hid hL1
  have H2 := hid h2
  clear hx hmay hL hc1 hc2 hn hr hkk hL1 h2
  go_enter Try.func46, Try.ntmps46
  go_wp2_with fail
  go_loopw [5, 6, 7] (fun bb aa i wr => ∃ (j m t : Nat), j ≤ L1 ∧ t ≤ L1 ∧ i = .int .i64 ((j + 1 : Nat) : Int) ∧ bb = .int .i64 (m : Int) ∧ aa = .int .i64 (t : Int) ∧ Hid (halveTo leaf xs j = (m, t)) ∧ m ≤ 100000 ∧ Below w.heap.size w wr) (fun _ _ i _ => L - (intOf i).toNat)
  case atStart => exact ⟨0, 0, 0, Nat.zero_le _, Nat.zero_le _, rfl, rfl, rfl, rfl, by omega, Below.refl _ _⟩
  case round =>
    obtain ⟨j, m, t, hj, ht, rfl, rfl, rfl, HH, hm, hbr⟩ := hrel
    have HBR := hid hbr
    clear hbr
    by_cases hlt : j < L1
    · have hjl : j + 1 < L := by have := HL1.out; omega
      have hwt : ∀ ys : List Cl, (∀ x ∈ ys, mayC leaf x = true) → ys.length ≤ 400 → widthC leaf ys ≤ 100000 := fun ys hy hl => by
        have := rawS_length (leaf := leaf) (l := ys) hy
        unfold widthC
        omega
      obtain ⟨n1, hn1⟩ : ∃ n, n = widthC leaf (xs.take (j + 1)) := ⟨_, rfl⟩
      obtain ⟨n2, hn2⟩ : ∃ n, n = widthC leaf (xs.drop (j + 1)) := ⟨_, rfl⟩
      have hb1 : n1 ≤ 100000 := by rw [hn1]; exact hwt _ (fun x hx => HM.out x (List.mem_of_mem_take hx)) (by rw [List.length_take]; have := HN.out; have := HL.out; omega)
      have hb2 : n2 ≤ 100000 := by rw [hn2]; exact hwt _ (fun x hx => HM.out x (List.mem_of_mem_drop hx)) (by rw [List.length_drop]; have := HN.out; have := HL.out; omega)
      have HT := hid (show ∀ w', Below w.heap.size w w' → Calls Try.prog 39 #[.int .i64 k, .slice (some ⟨b0, off0, none⟩) (j + 1) cap] w' (BytesEnd (allC leaf (xs.take (j + 1))) w') from fun w' hb =>
        HW.out _ _ w' ((low_part (HX.out.kept (Kept.of_below hb fun _ h => h)) (by rw [HL.out]; omega) (by rw [HL.out]; exact HCC.out)).mono fun q hq => Nat.lt_of_lt_of_le hq hb.size) (fun x hx => HM.out x (List.mem_of_mem_take hx)) (by rw [List.length_take]; have := HN.out; have := HL.out; omega))
      have HD := hid (show ∀ w', Below w.heap.size w w' → Calls Try.prog 39 #[.int .i64 k, .slice (some ⟨b0, off0 + (j + 1) * 5, none⟩) (L - (j + 1)) (cap - (j + 1))] w' (BytesEnd (allC leaf (xs.drop (j + 1))) w') from fun w' hb => by
        have hpp := high_part (n := j + 1) (HX.out.kept (Kept.of_below hb fun _ h => h)) (by rw [HL.out]; omega) (by rw [HL.out]; exact HCC.out)
        rw [HL.out] at hpp
        exact HW.out _ _ w' (hpp.mono fun q hq => Nat.lt_of_lt_of_le hq hb.size) (fun x hx => HM.out x (List.mem_of_mem_drop hx)) (by rw [List.length_drop]; have := HN.out; have := HL.out; omega))
      have HA1 := hid (show (allC leaf (xs.take (j + 1))).length = n1 by rw [allC_length, hn1])
      have HA2 := hid (show (allC leaf (xs.drop (j + 1))).length = n2 by rw [allC_length, hn2])
      have HH1 := hid (show halveTo leaf xs (j + 1) = if t = 0 ∨ max n1 n2 < m then (max n1 n2, j + 1) else (m, t) by rw [halveTo, HH.out, hn1, hn2])
      have HJ := hid hlt
      have HB12 := hid (show n1 ≤ 100000 ∧ n2 ≤ 100000 from ⟨hb1, hb2⟩)
      have HMB := hid hm
      have HTB := hid ht
      have i0 : (j : Int) + 1 < (L : Int) := by omega
      have i1 : (0 : Int) ≤ (j : Int) + 1 := by omega
      have i2 : (j : Int) + 1 ≤ (cap : Int) := by have := HCC.out; omega
      have i3 : (j : Int) + 1 ≤ (L : Int) := by omega
      have i4 : ((j : Int) + 1).toNat = j + 1 := by omega
      have i5 : ¬ cap = 0 := by have := HCC.out; omega
      have i6 : ¬ cap = j + 1 := by have := HCC.out; omega
      have hwj : IntKind.i64.wrap ((j : Int) + 1 + 1) = (j : Int) + 1 + 1 := IntWalk.i64_in _ (by have := HN.out; omega)
      clear hwt hn1 hn2 hb1 hb2 hlt hj ht hm hjl
      go_wp2_with fail
      refine (HT.out wr HBR.out).mono ?_
      rintro e w2 ⟨v2, rfl, o2, b2⟩
      have HB2 := hid (HBR.out.trans (b2.mono HBR.out.size))
      obtain ⟨x2, c2, rfl, -⟩ := o2.part
      rw [HA1.out]
      clear o2 b2
      go_wp2_with fail
      refine (HD.out w2 HB2.out).mono ?_
      rintro e w3 ⟨v3, rfl, o3, b3⟩
      have HB3 := hid (HB2.out.trans (b3.mono HB2.out.size))
      obtain ⟨x3, c3, rfl, -⟩ := o3.part
      rw [HA2.out]
      clear o3 b3 i1 i2 i3 i4 i5 i6
      by_cases hgt : n1 < n2
      · have g9 : (n1 : Int) < (n2 : Int) := by omega
        have hmx : max n1 n2 = n2 := by omega
        rw [hmx] at HH1
        by_cases hc : t = 0 ∨ n2 < m
        · rw [if_pos hc] at HH1
          by_cases ht0 : t = 0
          · have g0 : ((t : Int) == 0) = true := by rw [ht0]; rfl
            clear hc ht0 hgt hmx
            go_wp2_with fail
            go_roundw
            case rel => exact ⟨j + 1, n2, j + 1, HJ.out, HJ.out, by go_num, rfl, by go_num, HH1, HB12.out.2, HB3.out⟩
            case measure => simp [intOf]; have := HJ.out; have := HL1.out; omega
          · have g0 : ((t : Int) == 0) = false := by simp only [beq_eq_false_iff_ne]; omega
            have g1 : (n2 : Int) < (m : Int) := by omega
            clear hc ht0 hgt hmx
            go_wp2_with fail
            go_roundw
            case rel => exact ⟨j + 1, n2, j + 1, HJ.out, HJ.out, by go_num, rfl, by go_num, HH1, HB12.out.2, HB3.out⟩
            case measure => simp [intOf]; have := HJ.out; have := HL1.out; omega
        · rw [if_neg hc] at HH1
          have g0 : ((t : Int) == 0) = false := by simp only [beq_eq_false_iff_ne]; omega
          have g1 : ¬ (n2 : Int) < (m : Int) := by omega
          clear hc hgt hmx
          go_wp2_with fail
          go_roundw
          case rel => exact ⟨j + 1, m, t, HJ.out, HTB.out, by go_num, rfl, rfl, HH1, HMB.out, HB3.out⟩
          case measure => simp [intOf]; have := HJ.out; have := HL1.out; omega
      · have g9 : ¬ (n1 : Int) < (n2 : Int) := by omega
        have hmx : max n1 n2 = n1 := by omega
        rw [hmx] at HH1
        by_cases hc : t = 0 ∨ n1 < m
        · rw [if_pos hc] at HH1
          by_cases ht0 : t = 0
          · have g0 : ((t : Int) == 0) = true := by rw [ht0]; rfl
            clear hc ht0 hgt hmx
            go_wp2_with fail
            go_roundw
            case rel => exact ⟨j + 1, n1, j + 1, HJ.out, HJ.out, by go_num, rfl, by go_num, HH1, HB12.out.1, HB3.out⟩
            case measure => simp [intOf]; have := HJ.out; have := HL1.out; omega
          · have g0 : ((t : Int) == 0) = false := by simp only [beq_eq_false_iff_ne]; omega
            have g1 : (n1 : Int) < (m : Int) := by omega
            clear hc ht0 hgt hmx
            go_wp2_with fail
            go_roundw
            case rel => exact ⟨j + 1, n1, j + 1, HJ.out, HJ.out, by go_num, rfl, by go_num, HH1, HB12.out.1, HB3.out⟩
            case measure => simp [intOf]; have := HJ.out; have := HL1.out; omega
        · rw [if_neg hc] at HH1
          have g0 : ((t : Int) == 0) = false := by simp only [beq_eq_false_iff_ne]; omega
          have g1 : ¬ (n1 : Int) < (m : Int) := by omega
          clear hc hgt hmx
          go_wp2_with fail
          go_roundw
          case rel => exact ⟨j + 1, m, t, HJ.out, HTB.out, by go_num, rfl, rfl, HH1, HMB.out, HB3.out⟩
          case measure => simp [intOf]; have := HJ.out; have := HL1.out; omega
    · obtain rfl : j = L1 := by omega
      have i0 : ¬ (j : Int) + 1 < (L : Int) := by have := HL1.out; have := H2.out; omega
      clear hlt hj ht hm
      go_wp2_with fail
      go_ret
      refine ⟨?_, HBR.out⟩
      rw [HH.out]
      rfl
end Go.Proofs.Ytkpadhjlopcejaa
