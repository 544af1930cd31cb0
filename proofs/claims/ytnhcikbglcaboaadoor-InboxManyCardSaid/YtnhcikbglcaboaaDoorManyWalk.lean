/-
  InboxMany: its walk.
-/
import Derived.Test.YtnhcikbglcaboaaDoorEachWalk
import Derived.ProofKit
import Derived.OpenShut
namespace Go.Proofs.YtnhcikbglcaboaaDoor
open Go.RowKit Go.Shelf Go.ChangeShapes Go.WideShapes Go.ChangeAt
/-- s·a, s·(a+1), .. -/
def lst (s a n : Nat) : List Nat := (List.range' a n).map (s * ·)
theorem mem_lst {s a n x : Nat} : x ∈ lst s a n ↔ ∃ j, a ≤ j ∧ j < a + n ∧ x = s * j := by
  simp only [lst, List.mem_map, List.mem_range'_1]
  constructor
  · rintro ⟨j, ⟨h1, h2⟩, rfl⟩; exact ⟨j, h1, h2, rfl⟩
  · rintro ⟨j, h1, h2, rfl⟩; exact ⟨j, ⟨h1, h2⟩, rfl⟩
theorem lst_length (s a n : Nat) : (lst s a n).length = n := by simp [lst]
theorem lst_sorted {s : Nat} (hs : 0 < s) (a n : Nat) : (lst s a n).Pairwise (· < ·) := by
  rw [lst, List.pairwise_map]
  exact (List.pairwise_lt_range' (s := a) (n := n)).imp fun h => Nat.mul_lt_mul_of_pos_left h hs
theorem mul_inj {s i j : Nat} (hs : 0 < s) (h : s * i = s * j) : i = j := Nat.eq_of_mul_eq_mul_left hs h
theorem lst_new {s : Nat} (hs : 0 < s) (a k : Nat) : ¬ s * (a + k) ∈ lst s a k := by
  rw [mem_lst]
  rintro ⟨j, _, h2, h3⟩
  have := mul_inj hs h3
  omega
theorem tog_new {s : Nat} (hs : 0 < s) (a k : Nat) : tog (lst s a k) (s * (a + k)) = lst s a (k + 1) :=
  Ib.sorted_eq (tog_sorted (lst_sorted hs a k) _) (lst_sorted hs a (k + 1)) fun x => by
    have hn := lst_new hs a k
    rw [mem_tog, mem_lst (x := x) (a := a) (n := k), mem_lst (x := x) (a := a) (n := k + 1)]
    constructor
    · rintro (⟨⟨j, h1, h2, h3⟩, _⟩ | ⟨h1, _⟩)
      · exact ⟨j, h1, by omega, h3⟩
      · exact ⟨a + k, by omega, by omega, h1⟩
    · rintro ⟨j, h1, h2, rfl⟩
      by_cases e : j = a + k
      · subst e; exact .inr ⟨rfl, hn⟩
      · exact .inl ⟨⟨j, h1, by omega, rfl⟩, fun h => e (mul_inj hs h)⟩
theorem tog_old {s : Nat} (hs : 0 < s) (a k : Nat) : tog (lst s a (k + 1)) (s * a) = lst s (a + 1) k :=
  Ib.sorted_eq (tog_sorted (lst_sorted hs a (k + 1)) _) (lst_sorted hs (a + 1) k) fun x => by
    have hm : s * a ∈ lst s a (k + 1) := mem_lst.2 ⟨a, by omega, by omega, rfl⟩
    rw [mem_tog, mem_lst (x := x) (a := a) (n := k + 1), mem_lst (x := x) (a := a + 1) (n := k)]
    constructor
    · rintro (⟨⟨j, h1, h2, rfl⟩, h4⟩ | ⟨_, h2⟩)
      · exact ⟨j, by have : j ≠ a := fun e => h4 (by rw [e]); omega, by omega, rfl⟩
      · exact absurd hm h2
    · rintro ⟨j, h1, h2, rfl⟩
      exact .inl ⟨⟨j, by omega, by omega, rfl⟩, fun h => by have := mul_inj hs h; omega⟩
theorem many_out (most step : Int) (w : World) (hT : TabAt w) (h : ¬ ((1 ≤ most ∧ most ≤ 1000) ∧ (1 ≤ step ∧ step ≤ 65))) : Calls Tryd.prog 4 #[.int .i64 most, .int .i64 step] w fun e w' => e = .returned (.bool true) ∧ Below w.heap.size w w' := by
  have HK := hid (known_calls w hT)
  go_enter Tryd.func4, Tryd.ntmps4
  by_cases h1 : most < 1
  · go_wp2_with (refine HK.out.mono ?_; rintro e w' ⟨rfl, hB⟩)
    go_ret
    exact ⟨rfl, hB⟩
  · by_cases h2 : most > 1000
    · go_wp2_with (refine HK.out.mono ?_; rintro e w' ⟨rfl, hB⟩)
      go_ret
      exact ⟨rfl, hB⟩
    · by_cases h3 : step < 1
      · go_wp2_with (refine HK.out.mono ?_; rintro e w' ⟨rfl, hB⟩)
        go_ret
        exact ⟨rfl, hB⟩
      · have h4 : step > 65 := by omega
        go_wp2_with (refine HK.out.mono ?_; rintro e w' ⟨rfl, hB⟩)
        go_ret
        exact ⟨rfl, hB⟩
theorem mul_le {s k : Nat} (hs : s ≤ 65) (hk : k ≤ 1000) : s * k ≤ 65000 := Nat.le_trans (Nat.mul_le_mul hs hk) (by decide)
theorem mul_wrap (s k : Nat) (hs : s ≤ 65) (hk : k ≤ 1000) : IntKind.i64.wrap ((s : Int) * (k : Int)) = ((s * k : Nat) : Int) := by
  have := mul_le hs hk
  rw [← Int.natCast_mul, IntKind.wrap_i64]
  generalize s * k = q at this
  omega
theorem toNat_mul (s k : Nat) : ((s * k : Nat) : Int).toNat = s * k := Int.toNat_natCast _
theorem comes_mul {s k most : Nat} (hs : 0 < s) (hs2 : s ≤ 65) (hk : k < most) (hm : most ≤ 1000) : Ib.comes (lst s 1 k) most ((s * (k + 1) : Nat) : Int) = (true, 0) := by
  have hb := mul_le hs2 (show k + 1 ≤ 1000 by omega)
  have hp : 0 < s * (k + 1) := Nat.mul_pos hs (by omega)
  have hn := lst_new hs 1 k
  rw [Nat.add_comm 1 k] at hn
  generalize hq : s * (k + 1) = q at *
  exact comes_new _ _ _ (by omega) (by rw [Int.toNat_natCast]; exact hn) (by rw [lst_length]; omega)
set_option maxRecDepth 100000 in
set_option maxHeartbeats 4000000 in
theorem many_in (m s : Nat) (w : World) (hT : TabAt w) (hm : 1 ≤ m ∧ m ≤ 1000) (hs : 1 ≤ s ∧ s ≤ 65) : Calls Tryd.prog 4 #[.int .i64 (m : Int), .int .i64 (s : Int)] w fun e w' => e = .returned (.bool true) ∧ Below w.heap.size w w' := by
  have h0 := hT.1
  have h1 : ¬ (m : Int) < 1 := by omega
  have h2 : ¬ (m : Int) > 1000 := by omega
  have h3 : ¬ (s : Int) < 1 := by omega
  have h4 : ¬ (s : Int) > 65 := by omega
  have HM := hid hm
  have HS := hid hs
  clear hm hs
  go_enter Tryd.func4, Tryd.ntmps4
  go_wp2_with fail
  refine (new_calls' m w w w.heap.size h0 (Below.refl _ _) (Nat.le_refl _) hT (by have := HM.out; omega)).mono ?_
  rintro e w1 ⟨A, S, rfl, s1, -, -, -⟩
  go_wp2_with fail
  go_loopw [7, 8, 9] (fun i _ _ wr => ∃ k : Nat, k ≤ m ∧ i = .int .i64 ((k : Int) + 1) ∧ St w.heap.size w wr A S m (lst s 1 k)) (fun i _ _ _ => m + 1 - (intOf i).toNat)
  case atStart => exact ⟨0, by omega, rfl, s1⟩
  case round =>
    obtain ⟨k, hk, rfl, hst⟩ := hrel
    by_cases hlt : k < m
    · have hw := mul_wrap s (k + 1) HS.out.2 (by have := HM.out; omega)
      have hc := comes_mul (most := m) (by have := HS.out; omega) HS.out.2 hlt HM.out.2
      have i1 : (k : Int) + 1 ≤ (m : Int) := by omega
      have i2 : (k : Int) < 1000 := by have := HM.out; omega
      rw [show ((k + 1 : Nat) : Int) = (k : Int) + 1 from by omega] at hw
      have HC := hid hc
      obtain ⟨q, hqq⟩ : ∃ q, q = s * (k + 1) := ⟨_, rfl⟩
      rw [← hqq] at hw HC
      have HQ := hid hqq
      clear hqq hc
      go_wp2_with fail
      refine (come_calls' q hst).mono ?_
      rintro e w2 ⟨rfl, s2, -⟩
      rw [HC.out] at s2 ⊢
      have s3 : St w.heap.size w w2 A S m (lst s 1 (k + 1)) := by
        have e := tog_new (s := s) (by have := HS.out; omega) 1 k
        rw [Nat.add_comm 1 k, ← HQ.out] at e
        rw [← e]
        exact s2
      clear s2 hst
      go_wp2_with fail
      go_roundw
      case rel => exact ⟨k + 1, hlt, by go_num, s3⟩
      case measure => simp [intOf]; omega
    · have hk' : k = m := by omega
      subst hk'
      have hs0 : 0 < s := by have := HS.out; omega
      have hw := mul_wrap s k HS.out.2 HM.out.2
      have hml := mul_le (k := k) HS.out.2 HM.out.2
      have c1 : Ib.comes (lst s 1 k) k 65535 = (false, 310) := comes_full _ _ _ (by decide) (fun h => by
        obtain ⟨j, _, h2, h3⟩ := mem_lst.1 h
        have := mul_le (k := j) HS.out.2 (by have := HM.out; omega)
        have e : (65535 : Int).toNat = 65535 := rfl
        rw [e] at h3
        omega) (by rw [lst_length]; omega)
      have c2 : Ib.comes (lst s 1 k) k s = (false, 0) := comes_in _ _ _ (by have := HS.out; omega) (by
        rw [Int.toNat_natCast]
        exact mem_lst.2 ⟨1, by omega, by have := HM.out; omega, by omega⟩)
      have C1 := hid c1
      have C2 := hid c2
      obtain ⟨p, hp⟩ : ∃ p, p = s * k := ⟨_, rfl⟩
      rw [← hp] at hw hml
      have hp2 : (p : Int) < 65535 := by omega
      have i0 : ¬ ((k : Int) + 1 ≤ (k : Int)) := by omega
      clear c1 c2 hp hml hlt hk
      go_wp2_with fail
      refine (come_calls' 65535 hst).mono ?_
      rintro e w2 ⟨rfl, s2, -⟩
      rw [C1.out] at s2 ⊢
      replace s2 : St w.heap.size w w2 A S k (lst s 1 k) := s2
      go_wp2_with fail
      refine (come_calls' s s2).mono ?_
      rintro e w3 ⟨rfl, s3, -⟩
      rw [C2.out] at s3 ⊢
      replace s3 : St w.heap.size w w3 A S k (lst s 1 k) := s3
      go_wp2_with fail
      refine (len_calls' s3).mono ?_
      rintro e w4 ⟨rfl, s4, -⟩
      rw [lst_length]
      go_wp2_with fail
      go_loopw [14, 15, 16] (fun i _ _ wr => ∃ j : Nat, j ≤ k ∧ i = .int .i64 ((j : Int) + 1) ∧ St w.heap.size w wr A S k (lst s (j + 1) (k - j))) (fun i _ _ _ => k + 1 - (intOf i).toNat)
      case atStart => exact ⟨0, by omega, rfl, s4⟩
      case round =>
        obtain ⟨j, hj, rfl, hst2⟩ := hrel
        by_cases hjk : j < k
        · have hw2 := mul_wrap s (j + 1) HS.out.2 (by have := HM.out; omega)
          have hb := mul_le (k := j + 1) HS.out.2 (by have := HM.out; omega)
          have hp1 : 0 < s * (j + 1) := Nat.mul_pos hs0 (by omega)
          have hin : s * (j + 1) ∈ lst s (j + 1) (k - j) := mem_lst.2 ⟨j + 1, by omega, by omega, rfl⟩
          have ht := tog_old hs0 (j + 1) (k - j - 1)
          rw [show k - j - 1 + 1 = k - j by omega] at ht
          rw [show ((j + 1 : Nat) : Int) = (j : Int) + 1 from by omega] at hw2
          obtain ⟨q, hqq⟩ : ∃ q, q = s * (j + 1) := ⟨_, rfl⟩
          rw [← hqq] at hw2 hb hp1 hin ht
          have c3 : Ib.goes (lst s (j + 1) (k - j)) q = (true, 0) := goes_in _ _ (by omega) (by rw [Int.toNat_natCast]; exact hin)
          have C3 := hid c3
          have HT2 := hid ht
          have i1 : (j : Int) + 1 ≤ (k : Int) := by omega
          have i2 : (j : Int) < 1000 := by have := HM.out; omega
          clear c3 hqq hb hp1 hin ht
          go_wp2_with fail
          refine (go_calls' q hst2).mono ?_
          rintro e w5 ⟨rfl, s5, -⟩
          rw [C3.out] at s5 ⊢
          have s6 : St w.heap.size w w5 A S k (lst s (j + 1 + 1) (k - (j + 1))) := by
            rw [show k - (j + 1) = k - j - 1 by omega, ← HT2.out]
            exact s5
          clear s5 hst2
          go_wp2_with fail
          go_roundw
          case rel => exact ⟨j + 1, hjk, by go_num, s6⟩
          case measure => simp [intOf]; omega
        · have hk0 : j = k := by omega
          clear hj hjk
          subst hk0
          rw [show j - j = 0 by omega] at hst2
          have i9 : ¬ ((j : Int) + 1 ≤ (j : Int)) := by omega
          clear hw hp2 h1 h2 h3 h4 i0
          go_wp2_with fail
          refine (len_calls' hst2).mono ?_
          rintro e w6 ⟨rfl, s6, -⟩
          rw [lst_length]
          go_wp2_with fail
          refine (all_calls' s6).mono ?_
          rintro e w7 ⟨a7, cap7, rfl, -, -, -, -, s7, -⟩
          rw [lst_length]
          go_wp2_with fail
          refine (known_after s7).mono ?_
          rintro e w8 ⟨rfl, hB⟩
          go_wp2_with fail
          go_ret
          exact ⟨rfl, hB⟩
theorem inboxMany_open {H : Type} (enc : TypeId × Value → H) (W : World) (base : Nat) (v0 v1 : Value) (d0 d1 : DataW H) (p0 p1 : List MemPlace) (o0 : Value.okWide Tryd.prog W .any base 3 v0) (o1 : Value.okWide Tryd.prog W .any base 2 v1)
    (h0 : DataW.Trod enc Tryd.prog W 0 (fun _ => true) true 3 v0 d0 p0) (h1 : DataW.Trod enc Tryd.prog W 0 (fun _ => true) true 2 v1 d1 p1) (hT : TabAt W) :
    Calls Tryd.prog 4 #[v0, v1] W fun e w' => e = .returned (.bool true) ∧ Below W.heap.size W w' := by
  obtain ⟨a, rfl, -⟩ := open_int Tryd.underlying3 o0 h0
  obtain ⟨b, rfl, -⟩ := open_int Tryd.underlying2 o1 h1
  by_cases h : (1 ≤ a ∧ a ≤ 1000) ∧ (1 ≤ b ∧ b ≤ 65)
  · obtain ⟨m, rfl⟩ : ∃ m : Nat, a = m := ⟨a.toNat, by omega⟩
    obtain ⟨s, rfl⟩ : ∃ s : Nat, b = s := ⟨b.toNat, by omega⟩
    exact many_in m s W hT ⟨by omega, by omega⟩ ⟨by omega, by omega⟩
  · exact many_out a b W hT h
end Go.Proofs.YtnhcikbglcaboaaDoor
