/-
  WireReads: its walk, and its arguments opened.
-/
import Derived.Test.YtkpadhjlopcejaaReadsPlain
import Derived.Deep.CutRange
import Derived.Deep.CutBlock
namespace Go.Proofs.Ytkpadhjlopcejaa
open Go.RowKit Go.ChangeShapes Go.WideShapes Go.ChangeAt
attribute [local go_sem] AnyOrder.opK_value AnyOrder.opK_skip AnyOrder.opK_enter
theorem below_drew {w w' : World} (h : AnyOrder.Grows w.drew w') : Below w.heap.size w w' := ⟨h.os, h.tape, h.output, h.size, h.block⟩
set_option maxRecDepth 100000 in
set_option maxHeartbeats 16000000 in
theorem wreads_walk (v : Value) (l0 : List UInt8) (a : Option Addr) (cap : Nat) (xs : List Pt) (w : World) (hb : PartB (fun k => k < w.heap.size) w v l0) (hx : PtsIn (fun k => k < w.heap.size) w a xs) (hL9 : xs.length ≤ 9223372036854775807) :
    Calls Try.prog 6 #[v, .slice a xs.length cap] w fun e w' => e = .returned (.bool true) ∧ Below w.heap.size w w' := by
  have HK := hid (wknown_calls w)
  have hmx : Try.prog.follows .mixedOrders = true := by kernel_rfl
  obtain ⟨ba, bn, bc, rfl⟩ : ∃ a n c, v = .slice a n c := by obtain ⟨a, c, e, _⟩ := hb; exact ⟨a, _, c, e⟩
  have hbn := hb.at.2.1
  have hbm : bn ≤ 9223372036854775807 := by have := hb.at.2.2.1; have := hb.at.2.2.2.1; unfold maxLen at this; omega
  have HBP := hid hb
  have HBN := hid hbn
  generalize hL : xs.length = L at *
  have HL := hid hL
  clear hL hb hbn
  by_cases h1 : bn ≤ 3000
  rotate_left
  · have i1 : (bn : Int) > 3000 := by omega
    go_enter Try.func6, Try.ntmps6
    go_wp2_with fail
    refine HK.out.mono ?_
    rintro e w' ⟨rfl, hB⟩
    have HB := hid hB
    clear hB
    go_wp2_with fail
    go_ret
    exact ⟨rfl, HB.out⟩
  by_cases h2 : L ≤ 30
  rotate_left
  · have i1 : ¬ (bn : Int) > 3000 := by omega
    have i2 : (L : Int) > 30 := by omega
    go_enter Try.func6, Try.ntmps6
    go_wp2_with fail
    refine HK.out.mono ?_
    rintro e w' ⟨rfl, hB⟩
    have HB := hid hB
    clear hB
    go_wp2_with fail
    go_ret
    exact ⟨rfl, HB.out⟩
  have i1 : ¬ (bn : Int) > 3000 := by omega
  have i2 : ¬ (L : Int) > 30 := by omega
  clear HK hL9 hbm
  go_enter Try.func6, Try.ntmps6
  go_wp2_with (at_builtin; refine wpList_appendB rfl (.const (.slice none 0 0)) (.tmp 29) rfl w.heap.size _ [] rfl (OwnB.nil _ _) ba bn bc l0 HBN.out rfl (fun e => HBP.out.at.2.2.2.2 e) _ HBP.out.at.1 (by simp; omega) (Nat.le_refl _) ?_; intro v5 w5 hv5 hg5 ho5; have HV5 := hid hv5; have HG5 := hid hg5; obtain ⟨v5a, v5n, v5c, rfl⟩ : ∃ a n c, v5 = .slice a n c := (by obtain ⟨a, c, e, _⟩ := hv5.part; exact ⟨a, _, c, e⟩); clear hv5 hg5 ho5)
  rw [List.nil_append] at HV5
  have hv5n : v5n = bn := HV5.out.part.at.2.1.symm.trans HBN.out
  subst hv5n
  have HB5 : Hid (Below w.heap.size w w5) := (Below.refl _ _).grown HG5.out (Nat.le_refl _) (fun k h => by cases h)
  refine (newreader_calls _ l0 _ w5 HV5.out.part (fun k hk => (HV5.out.block hk).2) (by rw [HBN.out]; omega)).mono ?_
  rintro e w6 ⟨R, rfl, r6, b6, h6⟩
  have hlo : w.heap.size ≤ w5.heap.size := HB5.out.size
  generalize hLO : w5.heap.size = lo at *
  have HLO := hid hlo
  have HR := hid h6
  have M6 := hid (show MineAt w lo R w6 (.slice v5a v5n v5c) l0 l0 from ⟨HV5.out.below (by rw [hLO]; exact b6), r6, HB5.out.trans (b6.mono hlo), fun k hk => by have := (HV5.out.block hk).2; omega⟩)
  clear hlo h6 r6 b6 hLO HV5 HG5 HB5
  go_wp2_with fail
  go_loopw [7] (fun i wr => ∃ (k : Nat) (l' : List UInt8), k ≤ v5n ∧ l'.length = v5n ∧ i = .int .i64 (k : Int) ∧ MineAt w lo R wr (.slice v5a v5n v5c) l' l0) (fun i _ => v5n - (intOf i).toNat)
  case atStart => exact ⟨0, l0, Nat.zero_le _, HBN.out, rfl, M6.out⟩
  case round =>
    obtain ⟨k, l', hk, hl', rfl, hma⟩ := hrel
    by_cases hlt : k < v5n
    · obtain ⟨g, cp, hv, hg, hgb, hcl, hfr, hset⟩ := hma.own.cellAt k (by omega)
      have i0 : (k : Int) < (v5n : Int) := by omega
      have hinc := incr_byte (l'[k]'(by omega))
      have hset2 := hset (l'[k]'(by omega) + 1)
      obtain rfl : v5a = some ⟨g, 0, none⟩ := by cases hv; rfl
      have hle : (l'.set k (l'[k]'(by omega) + 1)).length = v5n := by simpa using hl'
      generalize l'.set k (l'[k]'(by omega) + 1) = l2 at hset2 hle
      rw [← hinc] at hset2
      have hst2 := hma.stored HR.out g k _ hg hset2
      have hc8 := (l'[k]'(by omega)).toNat_lt
      generalize (l'[k]'(by omega)).toNat = c at hcl hset2 hc8 hst2
      have hc8' : c < 256 := hc8
      have HST := hid hst2
      have HLE := hid hle
      clear hset2 hst2 hset hma hv hg hgb hle hinc hl' hc8 M6
      go_wp2_with fail
      go_roundw
      case rel => exact ⟨k + 1, l2, hlt, HLE.out, by go_num, HST.out⟩
      case measure => simp [intOf]; omega
    · have i0 : ¬ ((k : Int) < (v5n : Int)) := by omega
      have RA := hid (show ReadsAt w lo R wr (.slice ba v5n bc) l0 from ⟨hma.rd, hma.below, HBP.out⟩)
      clear hma hl' M6
      go_wp2_with fail
      go_loopw [0, 8] (fun bv i wr => ∃ (k : Nat) (l : List UInt8), k ≤ L ∧ l.length ≤ 3000 ∧ i = .int .i64 (k : Int) ∧ ReadsAt w lo R wr bv l) (fun _ i _ => L - (intOf i).toNat)
      case atStart => exact ⟨0, l0, Nat.zero_le _, by rw [HBN.out]; exact h1, rfl, RA.out⟩
      case round =>
        clear RA i0 hlt hk
        obtain ⟨q, l, hq, hl3, rfl, hra⟩ := hrel
        have HRA := hid hra
        obtain ⟨xa, n, c, rfl⟩ : ∃ a n c, u0 = .slice a n c := by obtain ⟨a, c, e, _⟩ := hra.part; exact ⟨a, _, c, e⟩
        have hn := hra.part.at.2.1
        have HN := hid hn
        have hn3 : n ≤ 3000 := by omega
        have hnc : n ≤ c := hra.part.at.2.2.1
        clear hra hn hl3
        by_cases hql : q < L
        · have hqx : q < xs.length := by rw [HL.out]; exact hql
          obtain ⟨b0, off0, rfl, ho0, hxn, hd0, hd1, hd2, hd3⟩ := hx q hqx
          have HO0 := hid ho0
          have c0 := HRA.out.below.cell (p := ⟨b0, off0 + q * 4, none⟩) ho0
          have c2 := HRA.out.below.cell (p := ⟨b0, off0 + q * 4 + 2, none⟩) ho0
          rw [hd0] at c0
          rw [hd2] at c2
          have i0 : (q : Int) < (L : Int) := by omega
          generalize xs[q] = x at *
          have HD := hid (And.intro hd0 hd2)
          obtain ⟨kind, xn, bytes, text⟩ := x
          simp only at c0 c2
          clear hx hd0 hd1 hd2 hd3 ho0 hxn
          go_upto_block 4 with fail
          go_cut [0, 9, 10, 11, 12, 13, 14, 15, 16, 17, 18, 19] from 45 to 232 (fun s0 s9 s10 s11 s12 s13 s14 s15 s16 s17 s18 s19 wx => ∃ l' : List UInt8, l'.length ≤ 3000 ∧ ReadsAt w lo R wx s0 l')
          case first =>
            by_cases h1 : kind = 1
            · as_aux_lemma =>
                subst h1
                by_cases hw : 1 ≤ bytes ∧ bytes ≤ 8
                · obtain ⟨m, rfl⟩ : ∃ m : Nat, bytes = m := ⟨bytes.toNat, by omega⟩
                  have hm8 : 1 ≤ m ∧ m ≤ 8 := by omega
                  have j1 : ¬ (m : Int) < 1 := by omega
                  have j2 : ¬ (m : Int) > 8 := by omega
                  by_cases hs : n < m
                  · have hr : readNum l m = ((0, 130), l) := by unfold readNum; rw [if_pos hw, if_pos (by rw [Int.toNat_natCast, HN.out]; exact hs)]
                    have HC := hid (rnumber_calls _ R l m wr HRA.out.rd)
                    rw [hr] at HC
                    clear hr hw
                    go_wp2_with fail
                    refine HC.out.mono ?_
                    rintro e w4 ⟨rfl, r4, k4⟩
                    have HT := hid (HRA.out.after (Nat.le_trans HLO.out HR.out) r4 k4 (HRA.out.part))
                    have e2 := HT.out.below.cell (p := ⟨b0, off0 + q * 4 + 2, none⟩) HO0.out
                    rw [HD.out.2] at e2
                    clear r4 k4 c0 c2
                    have HTN := hid HN.out
                    have HF := hid (refread_short xa c l m w4 (by rw [HN.out]; omega))
                    rw [HN.out] at HF
                    clear HC
                    go_wp2_with fail
                    refine HF.out.mono ?_
                    rintro e w8 ⟨rfl, rfl⟩
                    clear HF
                    go_wp2_with fail
                    go_meet
                    exact ⟨_, by rw [HTN.out]; omega, HT.out⟩
                  · have hr : readNum l m = ((val (l.take m), 0), l.drop m) := by unfold readNum; rw [if_pos hw, if_neg (by rw [Int.toNat_natCast, HN.out]; exact hs), Int.toNat_natCast]
                    have HC := hid (rnumber_calls _ R l m wr HRA.out.rd)
                    rw [hr] at HC
                    obtain ⟨vv, hvv⟩ : ∃ x, x = val (l.take m) := ⟨_, rfl⟩
                    rw [← hvv] at HC
                    have HVV := hid hvv.symm
                    have hmn : m ≤ n := by omega
                    have j3 : (m : Int) ≤ (n : Int) := by omega
                    have j4 : (m : Int) ≤ (c : Int) := by omega
                    have j5 : (0 : Int) ≤ (m : Int) := by omega
                    have HP := hid (HRA.out.part.slice m hmn)
                    have HTN := hid (show (l.drop m).length = n - m by rw [List.length_drop, HN.out])
                    have HM8 := hid hm8.2
                    clear hr hw hs hvv hm8
                    by_cases hcm : c = m
                    · subst hcm
                      have HP1 := hid (HP.out.1 rfl)
                      clear HP
                      go_wp2_with fail
                      refine HC.out.mono ?_
                      rintro e w4 ⟨rfl, r4, k4⟩
                      have HT := hid (HRA.out.after (Nat.le_trans HLO.out HR.out) r4 k4 (HP1.out))
                      have e2 := HT.out.below.cell (p := ⟨b0, off0 + q * 4 + 2, none⟩) HO0.out
                      rw [HD.out.2] at e2
                      clear r4 k4 c0 c2
                      have HF := hid (refread_calls xa c l c _ w4 ((HRA.out.part.kept (Kept.of_below HT.out.below fun _ h => h)).at.1) (by rw [HN.out]; exact hmn) HM8.out)
                      rw [HN.out, HVV.out] at HF
                      clear HC
                      go_wp2_with fail
                      refine HF.out.mono ?_
                      rintro e w8 ⟨rfl, rfl⟩
                      clear HF
                      go_wp2_with fail
                      go_meet
                      first
                        | exact ⟨_, by rw [HTN.out]; omega, HT.out⟩
                        | (have ht0 := HT.out; rw [show n - c = 0 from by omega] at ht0; exact ⟨_, by rw [HTN.out]; omega, ht0⟩)
                    · have HP1 := hid (HP.out.2 hcm)
                      clear HP
                      go_wp2_with fail
                      refine HC.out.mono ?_
                      rintro e w4 ⟨rfl, r4, k4⟩
                      have HT := hid (HRA.out.after (Nat.le_trans HLO.out HR.out) r4 k4 (HP1.out))
                      have e2 := HT.out.below.cell (p := ⟨b0, off0 + q * 4 + 2, none⟩) HO0.out
                      rw [HD.out.2] at e2
                      clear r4 k4 c0 c2
                      have HF := hid (refread_calls xa c l m _ w4 ((HRA.out.part.kept (Kept.of_below HT.out.below fun _ h => h)).at.1) (by rw [HN.out]; exact hmn) HM8.out)
                      rw [HN.out, HVV.out] at HF
                      clear HC
                      go_wp2_with fail
                      refine HF.out.mono ?_
                      rintro e w8 ⟨rfl, rfl⟩
                      clear HF
                      go_wp2_with fail
                      go_meet
                      exact ⟨_, by rw [HTN.out]; omega, HT.out⟩
                · have HC := hid (rnumber_calls _ R l bytes wr HRA.out.rd)
                  have hr : readNum l bytes = ((0, 2), l) := by unfold readNum; rw [if_neg hw]
                  rw [hr] at HC
                  clear hr
                  by_cases hw1 : bytes < 1
                  · clear hw
                    go_wp2_with fail
                    refine HC.out.mono ?_
                    rintro e w4 ⟨rfl, r4, k4⟩
                    have HT := hid (HRA.out.after (Nat.le_trans HLO.out HR.out) r4 k4 (HRA.out.part))
                    have e2 := HT.out.below.cell (p := ⟨b0, off0 + q * 4 + 2, none⟩) HO0.out
                    rw [HD.out.2] at e2
                    clear r4 k4 c0 c2
                    have HTN := hid HN.out
                    clear HC
                    go_wp2_with fail
                    go_meet
                    exact ⟨_, by rw [HTN.out]; omega, HT.out⟩
                  · have hw2 : bytes > 8 := by omega
                    clear hw
                    go_wp2_with fail
                    refine HC.out.mono ?_
                    rintro e w4 ⟨rfl, r4, k4⟩
                    have HT := hid (HRA.out.after (Nat.le_trans HLO.out HR.out) r4 k4 (HRA.out.part))
                    have e2 := HT.out.below.cell (p := ⟨b0, off0 + q * 4 + 2, none⟩) HO0.out
                    rw [HD.out.2] at e2
                    clear r4 k4 c0 c2
                    have HTN := hid HN.out
                    clear HC
                    go_wp2_with fail
                    go_meet
                    exact ⟨_, by rw [HTN.out]; omega, HT.out⟩
            · by_cases h2 : kind = 2
              · as_aux_lemma =>
                  subst h2
                  clear h1
                  by_cases hs : n < 2
                  · have hr : readText l = (([], 130), l) := by unfold readText; rw [if_pos (by rw [HN.out]; exact hs)]
                    have HC := hid (rtext_calls _ R l wr HRA.out.rd)
                    rw [hr] at HC
                    clear hr
                    have HTN := hid HN.out
                    go_wp2_with fail
                    refine HC.out.mono ?_
                    rintro e w4 ⟨rfl, r4, k4⟩
                    have HT := hid (HRA.out.after (Nat.le_trans HLO.out HR.out) r4 k4 (HRA.out.part))
                    clear r4 k4 c0 c2
                    have HF := hid (refread_short xa c l 2 w4 (by rw [HN.out]; omega))
                    rw [HN.out] at HF
                    clear HC
                    go_wp2_with fail
                    refine HF.out.mono ?_
                    rintro e w8 ⟨rfl, rfl⟩
                    clear HF
                    go_wp2_with fail
                    go_meet
                    exact ⟨_, by rw [HTN.out]; omega, HT.out⟩
                  · have hn2 : 2 ≤ n := by omega
                    have HC := hid (rtext_calls _ R l wr HRA.out.rd)
                    obtain ⟨vv, hvv⟩ : ∃ x, x = val (l.take 2) := ⟨_, rfl⟩
                    have hv16 : vv ≤ 65535 := by rw [hvv]; exact val_two l (by rw [HN.out]; exact hs)
                    have HVV := hid hvv.symm
                    by_cases hs2 : n - 2 < vv
                    · have hr : readText l = (([], 130), l) := by unfold readText; rw [if_neg (by rw [HN.out]; exact hs), ← hvv, if_pos (by rw [List.length_drop, HN.out]; exact hs2)]
                      rw [hr] at HC
                      have j1 : ¬ ((n : Int) - 2 ≥ (vv : Int)) := by omega
                      have j2 : (0 : Int) ≤ (n : Int) - 2 := by omega
                      have HTN := hid HN.out
                      clear hr hvv hs
                      go_wp2_with fail
                      refine HC.out.mono ?_
                      rintro e w4 ⟨rfl, r4, k4⟩
                      have HT := hid (HRA.out.after (Nat.le_trans HLO.out HR.out) r4 k4 (HRA.out.part))
                      clear r4 k4 c0 c2
                      have HF := hid (refread_calls xa c l 2 _ w4 ((HRA.out.part.kept (Kept.of_below HT.out.below fun _ h => h)).at.1) (by rw [HN.out]; exact hn2) (by decide))
                      rw [HN.out, HVV.out] at HF
                      clear HC
                      go_wp2_with fail
                      refine HF.out.mono ?_
                      rintro e w8 ⟨rfl, rfl⟩
                      clear HF
                      go_wp2_with fail
                      go_meet
                      exact ⟨_, by rw [HTN.out]; omega, HT.out⟩
                    · have hr : readText l = (((l.drop 2).take vv, 0), (l.drop 2).drop vv) := by unfold readText; rw [if_neg (by rw [HN.out]; exact hs), ← hvv, if_neg (by rw [List.length_drop, HN.out]; exact hs2)]
                      rw [hr, List.drop_drop] at HC
                      have j1 : (n : Int) - 2 ≥ (vv : Int) := by omega
                      have j2 : (0 : Int) ≤ (n : Int) - 2 := by omega
                      obtain ⟨m, hm⟩ : ∃ m, m = 2 + vv := ⟨_, rfl⟩
                      obtain ⟨ss, hss⟩ : ∃ x, x = (l.drop 2).take vv := ⟨_, rfl⟩
                      rw [← hm, ← hss] at HC
                      have hmn : m ≤ n := by omega
                      have e1 : (2 : Int) + (vv : Int) = (m : Int) := by omega
                      have j3 : (2 : Int) ≤ (m : Int) := by omega
                      have j4 : (m : Int) ≤ (n : Int) := by omega
                      have j5 : (m : Int) ≤ (c : Int) := by omega
                      have j6 : (2 : Int) ≤ (c : Int) := by omega
                      have HTN := hid (show (l.drop m).length = n - m by rw [List.length_drop, HN.out])
                      have HP := hid (HRA.out.part.slice m hmn)
                      have HM := hid hm
                      have HSS := hid hss
                      have HSL := hid (show ss.length = m - 2 by rw [hss, List.length_take, List.length_drop, HN.out]; omega)
                      clear hr hvv hs hm hss
                      by_cases hcm : c = m
                      · by_cases hc2 : c = 2
                        · have hm2 : m = 2 := by omega
                          have hv0 : vv = 0 := by have := HM.out; omega
                          have hs0 : ss = [] := List.length_eq_zero_iff.1 (by rw [HSL.out]; omega)
                          subst hm2 hv0 hs0 hc2
                          clear e1 hcm
                          have HP1 := hid (HP.out.1 rfl)
                          clear HP
                          go_wp2_with fail
                          refine HC.out.mono ?_
                          rintro e w4 ⟨rfl, r4, k4⟩
                          have HT := hid (HRA.out.after (Nat.le_trans HLO.out HR.out) r4 k4 (HP1.out))
                          have hnow := (HRA.out.part.kept (Kept.of_below HT.out.below fun _ h => h)).at.1
                          have HF := hid (refread_calls xa 2 l 2 _ w4 hnow (by rw [HN.out]; exact hn2) (by decide))
                          rw [HN.out, HVV.out] at HF
                          have hby := (hnow.drop 2).take 0
                          rw [← HSS.out] at hby
                          have hcv : (convert 36 9 (.slice xa 0 0)).run Try.prog w4 = .ok (.string ⟨([] : List UInt8).toArray⟩) w4 := run_strB 0 0 rfl (BytesIn.nil (fun _ => True) _ _)
                          clear HC r4 k4 hby hnow c0 c2
                          go_wp2_with fail
                          refine HF.out.mono ?_
                          rintro e w8 ⟨rfl, rfl⟩
                          clear HF
                          go_wp2_with fail
                          go_meet
                          first
                            | exact ⟨_, by rw [HTN.out]; omega, HT.out⟩
                            | (have ht0 := HT.out; rw [show n - 2 = 0 from by omega] at ht0; exact ⟨_, by rw [HTN.out]; omega, ht0⟩)
                        · subst hcm
                          have HP1 := hid (HP.out.1 rfl)
                          clear HP
                          go_wp2_with fail
                          refine HC.out.mono ?_
                          rintro e w4 ⟨rfl, r4, k4⟩
                          have HT := hid (HRA.out.after (Nat.le_trans HLO.out HR.out) r4 k4 (HP1.out))
                          have hnow := (HRA.out.part.kept (Kept.of_below HT.out.below fun _ h => h)).at.1
                          have HF := hid (refread_calls xa c l 2 _ w4 hnow (by rw [HN.out]; exact hn2) (by decide))
                          rw [HN.out, HVV.out] at HF
                          have hby := (hnow.drop 2).take vv
                          rw [← HSS.out] at hby
                          have hcv : (convert 36 9 (.slice (Option.map (fun x => ({ block := x.block, off := x.off + 2, spot := none } : Addr)) xa) (c - 2) (c - 2))).run Try.prog w4 = .ok (.string ⟨(ss).toArray⟩) w4 := run_strB (c - 2) (c - 2) HSL.out hby
                          clear HC r4 k4 hby hnow c0 c2
                          go_wp2_with fail
                          refine HF.out.mono ?_
                          rintro e w8 ⟨rfl, rfl⟩
                          clear HF
                          go_wp2_with fail
                          go_meet
                          first
                            | exact ⟨_, by rw [HTN.out]; omega, HT.out⟩
                            | (have ht0 := HT.out; rw [show n - c = 0 from by omega] at ht0; exact ⟨_, by rw [HTN.out]; omega, ht0⟩)
                      · have hc2 : ¬ c = 2 := by omega
                        have HP1 := hid (HP.out.2 hcm)
                        clear HP
                        go_wp2_with fail
                        refine HC.out.mono ?_
                        rintro e w4 ⟨rfl, r4, k4⟩
                        have HT := hid (HRA.out.after (Nat.le_trans HLO.out HR.out) r4 k4 (HP1.out))
                        have hnow := (HRA.out.part.kept (Kept.of_below HT.out.below fun _ h => h)).at.1
                        have HF := hid (refread_calls xa c l 2 _ w4 hnow (by rw [HN.out]; exact hn2) (by decide))
                        rw [HN.out, HVV.out] at HF
                        have hby := (hnow.drop 2).take vv
                        rw [← HSS.out] at hby
                        have hcv : (convert 36 9 (.slice (Option.map (fun x => ({ block := x.block, off := x.off + 2, spot := none } : Addr)) xa) (m - 2) (c - 2))).run Try.prog w4 = .ok (.string ⟨(ss).toArray⟩) w4 := run_strB (m - 2) (c - 2) HSL.out hby
                        clear HC r4 k4 hby hnow c0 c2
                        go_wp2_with fail
                        refine HF.out.mono ?_
                        rintro e w8 ⟨rfl, rfl⟩
                        clear HF
                        go_wp2_with fail
                        go_meet
                        first
                          | exact ⟨_, by rw [HTN.out]; omega, HT.out⟩
                          | (have ht0 := HT.out; rw [show n - c = 0 from by omega] at ht0; exact ⟨_, by rw [HTN.out]; omega, ht0⟩)
              · as_aux_lemma =>
                  have g1 : (kind == 1) = false := by simpa using h1
                  have g2 : (kind == 2) = false := by simpa using h2
                  have HC := hid (rtruth_calls _ R l wr HRA.out.rd)
                  clear h1 h2
                  cases l with
                  | nil =>
                    have HTN := hid HN.out
                    have hr : readTruth [] = ((false, 130), []) := rfl
                    rw [hr] at HC
                    clear hr
                    obtain rfl : 0 = n := HN.out
                    go_wp2_with fail
                    refine HC.out.mono ?_
                    rintro e w4 ⟨rfl, r4, k4⟩
                    have HT := hid (HRA.out.after (Nat.le_trans HLO.out HR.out) r4 k4 (HRA.out.part))
                    clear r4 k4 c0 c2
                    clear HC
                    go_wp2_with fail
                    go_meet
                    exact ⟨_, by rw [HTN.out]; omega, HT.out⟩
                  | cons y r =>
                    obtain ⟨yb, yo, rfl, hyb, hyc⟩ := HRA.out.part.at.1 0 (by simp)
                    rw [Nat.add_zero, List.getElem_cons_zero] at hyc
                    have HY := hid (And.intro hyb hyc)
                    clear hyb hyc
                    have hn1 : 1 ≤ n := by rw [← HN.out]; simp
                    have j0 : (n : Int) > 0 := by omega
                    by_cases hy : 1 < y.toNat
                    · have hr : readTruth (y :: r) = ((false, 130), y :: r) := by simp only [readTruth, if_pos hy]
                      rw [hr] at HC
                      have HTN := hid HN.out
                      clear hr
                      generalize y.toNat = z at *
                      have j1 : ¬ (z : Int) ≤ 1 := by omega
                      go_wp2_with fail
                      refine HC.out.mono ?_
                      rintro e w4 ⟨rfl, r4, k4⟩
                      have HT := hid (HRA.out.after (Nat.le_trans HLO.out HR.out) r4 k4 (HRA.out.part))
                      clear r4 k4 c0 c2
                      have y4 := HT.out.below.cell (p := ⟨yb, yo, none⟩) HY.out.1
                      rw [HY.out.2] at y4
                      clear HC
                      go_wp2_with fail
                      go_meet
                      exact ⟨_, by rw [HTN.out]; omega, HT.out⟩
                    · have hr : readTruth (y :: r) = ((decide (y.toNat = 1), 0), r) := by simp only [readTruth, if_neg hy]
                      rw [hr] at HC
                      have HP := hid (HRA.out.part.slice 1 hn1)
                      rw [List.drop_succ_cons, List.drop_zero] at HP
                      have HTN := hid (show r.length = n - 1 by rw [← HN.out]; simp)
                      have j3 : (1 : Int) ≤ (n : Int) := by omega
                      have hnc1 : 1 ≤ c := by omega
                      have j4 : (1 : Int) ≤ (c : Int) := by omega
                      clear hr
                      have hz : y.toNat = 0 ∨ y.toNat = 1 := by omega
                      clear hy
                      rcases hz with hz | hz
                      · rw [hz] at HC
                        have HY2 : Hid (w.cell? ⟨yb, yo, none⟩ = some (.int .u8 0)) := HY.out.2.trans (by rw [hz]; rfl)
                        clear hz
                        by_cases hcm : c = 1
                        · go_wp2_with fail
                          refine HC.out.mono ?_
                          rintro e w4 ⟨rfl, r4, k4⟩
                          have HT := hid (HRA.out.after (Nat.le_trans HLO.out HR.out) r4 k4 (HP.out.1 hcm))
                          clear r4 k4 c0 c2
                          have y4 := HT.out.below.cell (p := ⟨yb, yo, none⟩) HY.out.1
                          rw [HY2.out] at y4
                          clear HC
                          go_wp2_with fail
                          go_meet
                          exact ⟨_, by rw [HTN.out]; omega, HT.out⟩
                        · go_wp2_with fail
                          refine HC.out.mono ?_
                          rintro e w4 ⟨rfl, r4, k4⟩
                          have HT := hid (HRA.out.after (Nat.le_trans HLO.out HR.out) r4 k4 (HP.out.2 hcm))
                          clear r4 k4 c0 c2
                          have y4 := HT.out.below.cell (p := ⟨yb, yo, none⟩) HY.out.1
                          rw [HY2.out] at y4
                          clear HC
                          go_wp2_with fail
                          go_meet
                          exact ⟨_, by rw [HTN.out]; omega, HT.out⟩
        
                      · rw [hz] at HC
                        have HY2 : Hid (w.cell? ⟨yb, yo, none⟩ = some (.int .u8 1)) := HY.out.2.trans (by rw [hz]; rfl)
                        clear hz
                        by_cases hcm : c = 1
                        · go_wp2_with fail
                          refine HC.out.mono ?_
                          rintro e w4 ⟨rfl, r4, k4⟩
                          have HT := hid (HRA.out.after (Nat.le_trans HLO.out HR.out) r4 k4 (HP.out.1 hcm))
                          clear r4 k4 c0 c2
                          have y4 := HT.out.below.cell (p := ⟨yb, yo, none⟩) HY.out.1
                          rw [HY2.out] at y4
                          clear HC
                          go_wp2_with fail
                          go_meet
                          exact ⟨_, by rw [HTN.out]; omega, HT.out⟩
                        · go_wp2_with fail
                          refine HC.out.mono ?_
                          rintro e w4 ⟨rfl, r4, k4⟩
                          have HT := hid (HRA.out.after (Nat.le_trans HLO.out HR.out) r4 k4 (HP.out.2 hcm))
                          clear r4 k4 c0 c2
                          have y4 := HT.out.below.cell (p := ⟨yb, yo, none⟩) HY.out.1
                          rw [HY2.out] at y4
                          clear HC
                          go_wp2_with fail
                          go_meet
                          exact ⟨_, by rw [HTN.out]; omega, HT.out⟩
          case rest =>
            as_aux_lemma =>
              obtain ⟨l', hl3', hra'⟩ := hcut
              have HT := hid hra'
              obtain ⟨xa', n', c', rfl⟩ : ∃ a n c, u0 = .slice a n c := by obtain ⟨a, c, e, _⟩ := hra'.part; exact ⟨a, _, c, e⟩
              have HTN := hid hra'.part.at.2.1
              clear hra' c0 c2
              go_wp2_with fail
              have hmx : Try.prog.follows .mixedOrders = true := by kernel_rfl
              refine AnyOrder.wp_region_grows [
                  fun v _ => v = .pointer (some ⟨R, 0, none⟩),
                  fun v _ => v = .int .i64 ((n' : Nat) : Int),
                  fun v _ => v = .slice xa' n' c',
                  fun v _ => v = .int .i64 ((n' : Nat) : Int),
                  fun v _ => v = .bool false,
                  fun v _ => v = .bool false,
                  fun v _ => v = .pointer (some ⟨R, 0, none⟩),
                  fun v w' => OwnB w' w.heap.size v (l'),
                  fun v _ => v = .string ⟨(List.toArray (l'))⟩,
                  fun v _ => v = .slice xa' n' c',
                  fun v _ => v = .string ⟨(List.toArray (l'))⟩,
                  fun v _ => v = .bool false,
                  fun v _ => v = .bool false] hmx (by kernel_rfl) ?_ ?_ ?_
              · intro p hp
                simp only [List.mem_cons, List.not_mem_nil, or_false] at hp
                rcases hp with rfl | rfl | rfl | rfl | rfl | rfl | rfl | rfl | rfl | rfl | rfl | rfl | rfl
                all_goals first
                  | exact AnyOrder.stays_const _
                  | (intro v w1 w2 hg hb; exact OwnB.below hb hg)
              · simp only [AnyOrder.dstsOf, List.map_cons, List.map_nil, AnyOrder.Steps, Nat.zero_add, Nat.reduceAdd]
                refine ⟨?_, ?_, ?_, ?_, ?_, ?_, ?_, ?_, ?_, ?_, ?_, ?_, ?_, trivial⟩
                · intro ρ w' hk
                  have k1 := hk.old 6 rfl
                  clear hk
                  simp at k1
                  go_simp
                  exact ⟨AnyOrder.Grows.refl _, rfl⟩
                · intro ρ w' hk
                  have k1 : ρ (.tmp 220) = .pointer (some ⟨R, 0, none⟩) := hk.at 0 rfl
                  have kw := HT.out.grows (below_drew hk.world)
                  have kf := hk.func
                  clear hk
                  go_simp
                  refine (left_calls _ R _ w' kw.rd).mono ?_
                  rintro e w'' ⟨rfl, rfl⟩
                  rw [HTN.out]
                  exact ⟨_, rfl, AnyOrder.Grows.refl _, rfl⟩
                · intro ρ w' hk
                  have k1 := hk.old 0 rfl
                  clear hk
                  simp at k1
                  go_simp
                  exact ⟨AnyOrder.Grows.refl _, rfl⟩
                · intro ρ w' hk
                  have k1 : ρ (.tmp 222) = .slice xa' n' c' := hk.at 2 rfl
                  clear hk
                  go_simp
                  exact ⟨AnyOrder.Grows.refl _, by simp [AnyOrder.nth]⟩
                · intro ρ w' hk
                  have k1 : ρ (.tmp 221) = .int .i64 ((n' : Nat) : Int) := hk.at 1 rfl
                  have k2 : ρ (.tmp 223) = .int .i64 ((n' : Nat) : Int) := hk.at 3 rfl
                  clear hk
                  go_simp
                  exact ⟨AnyOrder.Grows.refl _, by simp [AnyOrder.nth]⟩
                · intro ρ w' hk
                  have k1 : ρ (.tmp 224) = .bool false := hk.at 4 rfl
                  clear hk
                  go_simp
                  exact ⟨AnyOrder.Grows.refl _, by simp [AnyOrder.nth]⟩
                · intro ρ w' hk
                  refine ⟨false, hk.at 5 rfl, rfl, fun _ => ?_, fun h => absurd rfl h⟩
                  have k1 := hk.old 6 rfl
                  clear hk
                  simp at k1
                  go_simp
                  exact ⟨AnyOrder.Grows.refl _, rfl⟩
                · intro ρ w' hk
                  refine ⟨false, hk.at 5 rfl, rfl, fun _ => ?_, fun h => absurd rfl h⟩
                  have k1 : ρ (.tmp 226) = .pointer (some ⟨R, 0, none⟩) := hk.at 6 rfl
                  have kw := HT.out.grows (below_drew hk.world)
                  have kf := hk.func
                  clear hk
                  go_simp
                  refine (rest_calls _ R _ w' kw.rd).mono ?_
                  rintro e w'' ⟨v, rfl, ho, hb⟩
                  exact ⟨_, rfl, hb, ho.mono fun q e => by have := (ho.block e).1; have := kw.below.size; omega⟩
                · intro ρ w' hk
                  refine ⟨false, hk.at 5 rfl, rfl, fun _ => ?_, fun h => absurd rfl h⟩
                  have k1 : OwnB w' w.heap.size (ρ (.tmp 227)) (l') := hk.at 7 rfl
                  clear hk
                  obtain ⟨ca, cc, e, hb, -⟩ := k1.part
                  have hcv := run_strB (w := w') _ cc rfl hb
                  clear k1 hb
                  go_simp
                  exact ⟨AnyOrder.Grows.refl _, rfl⟩
                · intro ρ w' hk
                  refine ⟨false, hk.at 5 rfl, rfl, fun _ => ?_, fun h => absurd rfl h⟩
                  have k1 := hk.old 0 rfl
                  clear hk
                  simp at k1
                  go_simp
                  exact ⟨AnyOrder.Grows.refl _, rfl⟩
                · intro ρ w' hk
                  refine ⟨false, hk.at 5 rfl, rfl, fun _ => ?_, fun h => absurd rfl h⟩
                  have k1 : ρ (.tmp 229) = .slice xa' n' c' := hk.at 9 rfl
                  have kw := HT.out.grows (below_drew hk.world)
                  clear hk
                  have hcv := run_strB (w := w') (n') (c') HTN.out kw.now.at.1
                  clear kw
                  go_simp
                  exact ⟨AnyOrder.Grows.refl _, rfl⟩
                · intro ρ w' hk
                  refine ⟨false, hk.at 5 rfl, rfl, fun _ => ?_, fun h => absurd rfl h⟩
                  have k1 : ρ (.tmp 228) = .string ⟨(List.toArray (l'))⟩ := hk.at 8 rfl
                  have k2 : ρ (.tmp 230) = .string ⟨(List.toArray (l'))⟩ := hk.at 10 rfl
                  clear hk
                  go_simp
                  exact ⟨AnyOrder.Grows.refl _, by simp [AnyOrder.nth]⟩
                · intro ρ w' hk
                  have k1 : ρ (.tmp 225) = .bool false := hk.at 5 rfl
                  have k2 : ρ (.tmp 231) = .bool false := hk.at 11 rfl
                  clear hk
                  go_simp
                  exact ⟨AnyOrder.Grows.refl _, by simp [AnyOrder.nth]⟩
              · intro vs w9 hR9 hv9
                have HE := hid (HT.out.grows (below_drew hR9))
                have v12 : vs 12 = .bool false := hv9 12 (by decide)
                clear hR9 hv9
                simp only [AnyOrder.fill, Nat.zero_add, Nat.reduceAdd, List.setIfInBounds_toArray, List.set_cons_zero, List.set_cons_succ]
                rw [v12]
                clear v12
                go_wp2_with fail
                go_roundw
                case rel => exact ⟨q + 1, l', hql, hl3', by go_num, HE.out⟩
                case measure => simp [intOf]; omega
        · obtain rfl : q = L := by omega
          have i0 : ¬ ((q : Int) < (q : Int)) := by omega
          have HK := hid (wknown_calls wr)
          clear hx
          go_wp2_with fail
          refine HK.out.mono ?_
          rintro e w9 ⟨rfl, hB⟩
          have HB := hid (HRA.out.grows hB)
          clear hB HK
          go_wp2_with fail
          go_ret
          exact ⟨rfl, HB.out.below⟩
set_option maxRecDepth 100000 in
theorem wireReads_open {H : Type} (enc : TypeId × Value → H) (W : World) (base : Nat) (v0 v1 : Value) (d0 d1 : DataW H) (p0 p1 : List MemPlace) (o0 : Value.okWide Try.prog W .any base 36 v0) (o1 : Value.okWide Try.prog W .any base 22 v1)
    (h0 : DataW.Trod enc Try.prog W 0 (fun _ => true) true 36 v0 d0 p0) (h1 : DataW.Trod enc Try.prog W 0 (fun _ => true) true 22 v1 d1 p1) :
    Calls Try.prog 6 #[v0, v1] W fun e w' => e = .returned (.bool true) ∧ Below W.heap.size W w' := by
  obtain ⟨l, hb⟩ := bytes_of enc W base v0 d0 p0 o0 h0
  obtain ⟨a, cap, xs, rfl, hx, hl⟩ := parts_of enc W base v1 d1 p1 o1 h1
  exact wreads_walk v0 l a cap xs W hb hx hl
end Go.Proofs.Ytkpadhjlopcejaa
