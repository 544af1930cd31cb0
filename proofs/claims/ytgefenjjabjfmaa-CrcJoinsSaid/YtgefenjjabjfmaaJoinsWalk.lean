/-
  CrcJoins: two and three runs joined: the walk.
-/
import Derived.Test.YtgefenjjabjfmaaApp
namespace Go.Proofs.Ytgefenjjabjfmaa
open Go.RowKit Go.Shelf
theorem crcJoins_big (a b c : Option Addr) (c0 c1 c2 : Nat) (l0 l1 l2 : Nat) (w : World) (hbig : 1000 < l0 ∨ 1000 < l1 ∨ 1000 < l2) :
    Calls Try.prog 3 #[.slice a l0 c0, .slice b l1 c1, .slice c l2 c2] w fun e w' => e = .returned (.bool true) ∧ Below w.heap.size w w' := by
  by_cases b0 : 1000 < l0
  all_goals by_cases b1 : 1000 < l1
  all_goals by_cases b2 : 1000 < l2
  all_goals first
    | (exfalso; omega)
    | (clear hbig
       go_enter Try.func3, Try.ntmps3
       go_wp2_with fail
       refine (known_any _).mono ?_
       rintro e w' ⟨rfl, hb⟩
       go_wp2
       go_ret
       exact ⟨rfl, hb⟩)
set_option maxHeartbeats 2000000 in
theorem crcJoins_walk (a b c : Option Addr) (c0 c1 c2 : Nat) (l0 l1 l2 : List UInt8) (w : World) (hm0 : l0.length ≤ maxLen) (hm1 : l1.length ≤ maxLen) (hm2 : l2.length ≤ maxLen)
    (h0 : BytesIn (fun k => k < w.heap.size) w a l0) (h1 : BytesIn (fun k => k < w.heap.size) w b l1) (h2 : BytesIn (fun k => k < w.heap.size) w c l2)
    (hn0 : a = none → c0 = 0) (hn1 : b = none → c1 = 0) (hn2 : c = none → c2 = 0) :
    Calls Try.prog 3 #[.slice a l0.length c0, .slice b l1.length c1, .slice c l2.length c2] w fun e w' => e = .returned (.bool true) ∧ Below w.heap.size w w' := by
  by_cases hbig : 1000 < l0.length ∨ 1000 < l1.length ∨ 1000 < l2.length
  · exact crcJoins_big a b c c0 c1 c2 _ _ _ w hbig
  · have g0 : ¬ 1000 < l0.length := by omega
    have g1 : ¬ 1000 < l1.length := by omega
    have g2 : ¬ 1000 < l2.length := by omega
    have e01 := Crc.sum_append l0 l1
    have e12 := Crc.sum_append l1 l2
    have e012 := Crc.sum_append (l0 ++ l1) l2
    have e0_12 := Crc.sum_append l0 (l1 ++ l2)
    rw [List.length_append] at e0_12
    rw [← List.append_assoc] at e0_12
    have E01 := hid e01
    have E12 := hid e12
    have E012 := hid e012
    have E0_12 := hid e0_12
    clear hbig e01 e12 e012 e0_12
    go_enter Try.func3, Try.ntmps3
    go_wp2_with fail
    refine (rsum_any a c0 l0 w hm0 h0).mono ?_
    rintro e w' ⟨rfl, rfl⟩
    go_wp2_with fail
    refine (rsum_any b c1 l1 w hm1 h1).mono ?_
    rintro e w' ⟨rfl, rfl⟩
    go_wp2_with fail
    refine (rsum_any c c2 l2 w hm2 h2).mono ?_
    rintro e w' ⟨rfl, rfl⟩
    go_wp2_with fail
    refine (join_any (Crc.sum l0) (Crc.sum l1) l1.length w (Crc.sum_lt _) (Crc.sum_lt _) (by omega)).mono ?_
    rintro e w1 ⟨he, hb1⟩
    rw [← E01.out] at he
    subst he
    go_wp2_with fail
    refine (join_any (Crc.sum l1) (Crc.sum l2) l2.length w1 (Crc.sum_lt _) (Crc.sum_lt _) (by omega)).mono ?_
    rintro e w2 ⟨he, hb2⟩
    rw [← E12.out] at he
    subst he
    go_wp2_with fail
    refine (join_any (Crc.sum (l0 ++ l1)) (Crc.sum l2) l2.length w2 (Crc.sum_lt _) (Crc.sum_lt _) (by omega)).mono ?_
    rintro e w3 ⟨he, hb3⟩
    rw [← E012.out] at he
    subst he
    go_wp2_with fail
    rw [show ((l1.length : Int) + (l2.length : Int)) = ((l1.length + l2.length : Nat) : Int) from by simp]
    refine (join_any (Crc.sum l0) (Crc.sum (l1 ++ l2)) (l1.length + l2.length) w3 (Crc.sum_lt _) (Crc.sum_lt _) (by omega)).mono ?_
    rintro e w4 ⟨he, hb4⟩
    rw [← E0_12.out] at he
    subst he
    have hB2 := hb1.trans (hb2.mono hb1.size)
    have hB3 := hB2.trans (hb3.mono hB2.size)
    have hB4 := hB3.trans (hb4.mono hB3.size)
    have k0 := h0.grows hB4
    clear hb1 hb2 hb3 hb4 hB2 hB3
    go_wp2_with (first
      | (at_builtin; refine wpList_appendB rfl (.const (.slice none 0 0)) (.tmp 74) rfl w.heap.size (.slice none 0 0) [] rfl (OwnB.nil _ _) a l0.length c0 l0 rfl rfl hn0 k0 (by simp; omega) hB4.size ?_; intro v1 w5 hv1 hg1; have hB5 := hB4.trans (grown_below hg1 (OwnB.nil w4 w.heap.size) hB4.size); have k1 := h1.grows hB5; clear hg1 k0)
      | (at_builtin; refine wpList_appendB rfl (.tmp 75) (.tmp 76) rfl w.heap.size v1 ([] ++ l0) rfl hv1 b l1.length c1 l1 rfl rfl hn1 k1 (by simp; omega) hB5.size ?_; intro v2 w6 hv2 hg2; have hB6 := hB5.trans (grown_below hg2 hv1 hB5.size); have k2 := h2.grows hB6; clear hg2 k1 hv1)
      | (at_builtin; refine wpList_appendB rfl (.tmp 77) (.tmp 78) rfl w.heap.size v2 ([] ++ l0 ++ l1) rfl hv2 c l2.length c2 l2 rfl rfl hn2 k2 (by simp; omega) hB6.size ?_; intro v3 w7 hv3 hg3; have hB7 := hB6.trans (grown_below hg3 hv2 hB6.size); clear hg3 k2 hv2; obtain ⟨a3, cap3, hv, hb3, hl3, hm3, _⟩ := hv3.slice; clear hv3; rw [hv]; have hcap : l0.length + l1.length ≤ cap3 := (by simp at hl3; omega); have HM3 := hid hm3; have HV := hid hv; clear hl3 hm3 hv))
    have e01 : (([] ++ l0 ++ l1 ++ l2).take (l0.length + l1.length)) = l0 ++ l1 := by
      rw [List.nil_append, ← List.length_append, List.take_left]
    have k01 := hb3.take (l0.length + l1.length)
    rw [e01] at k01
    have := rsum_any a3 cap3 (l0 ++ l1) w7 (by simp [maxLen]; omega) k01
    rw [List.length_append] at this
    refine this.mono ?_
    clear this k01 e01
    rintro e w8 ⟨rfl, rfl⟩
    go_wp2_with fail
    have := rsum_any a3 cap3 (l0 ++ (l1 ++ l2)) w7 (by simp [maxLen]; omega) (show BytesIn (fun k => k < w7.heap.size) w7 a3 (l0 ++ (l1 ++ l2)) from by simpa using hb3)
    rw [List.length_append, List.length_append] at this
    refine this.mono ?_
    clear this
    rintro e w8 ⟨rfl, rfl⟩
    go_wp2_with fail
    refine (known_any _).mono ?_
    rintro e w9 ⟨rfl, hb9⟩
    go_wp2_with fail
    go_ret
    exact ⟨rfl, hB7.trans (hb9.mono hB7.size)⟩
end Go.Proofs.Ytgefenjjabjfmaa
