/-
  The document's answers: the walks of Same and Find.
-/
import Derived.Test.YtnhcikbglcaboaaDoorCome
namespace Go.Proofs.YtnhcikbglcaboaaDoor
open Go.RowKit Go.Shelf
theorem drewN_world (w : World) : w = World.drewN w 0 := rfl
theorem take_snoc {α : Type} (l : List α) (k : Nat) (h : k < l.length) : l.take (k + 1) = l.take k ++ [l[k]] := by
  rw [List.take_succ_eq_append_getElem h]
theorem same_take (l r : List Int) (k : Nat) (hl : k < l.length) (hr : k < r.length) (h : l.take k = r.take k) (e : l[k] = r[k]) : l.take (k + 1) = r.take (k + 1) := by
  rw [take_snoc _ _ hl, take_snoc _ _ hr, h, e]
set_option maxHeartbeats 1000000 in
theorem same_calls (a b : Option Addr) (c0 c1 : Nat) (l r : List Int) (ok : Nat → Prop) (w : World) (h1 : IntsIn ok w a l) (h2 : IntsIn ok w b r) (hl : l.length ≤ 1099511627776) (hr : r.length ≤ 1099511627776) :
    Calls Tryd.prog 12 #[.slice a l.length c0, .slice b r.length c1] w fun e w' => e = .returned (.bool (decide (l = r))) ∧ ∃ m, w' = World.drewN w m := by
  generalize hL : l.length = L
  generalize hR : r.length = R
  have HL := hid hL
  have HR := hid hR
  have hl' : L ≤ 1099511627776 := by omega
  have hr' : R ≤ 1099511627776 := by omega
  clear hL hR hl hr
  go_enter Tryd.func12, Tryd.ntmps12
  by_cases hlr : L = R
  · subst hlr
    go_wp2
    go_loopw [5] (fun i wr => ∃ (k m : Nat), k ≤ L ∧ i = .int .i64 k ∧ wr = World.drewN w m ∧ Hid (l.take k = r.take k)) (fun i _ => L - (intOf i).toNat)
    case atStart => exact ⟨0, 0, Nat.zero_le _, rfl, rfl, by show _ = _; simp⟩
    case round =>
      obtain ⟨k, m, hk, rfl, rfl, HT⟩ := hrel
      by_cases hlt : k < L
      · obtain ⟨b0, off0, rfl, ho0, hd0⟩ := h1 k (by rw [HL.out]; exact hlt)
        obtain ⟨b1, off1, rfl, ho1, hd1⟩ := h2 k (by rw [HR.out]; exact hlt)
        have hst := same_take l r k (by rw [HL.out]; exact hlt) (by rw [HR.out]; exact hlt) HT.out
        have hne : l[k]'(by rw [HL.out]; exact hlt) ≠ r[k]'(by rw [HR.out]; exact hlt) → l ≠ r := fun hn e => by subst e; exact hn rfl
        generalize l[k]'(by rw [HL.out]; exact hlt) = x at hd0 hst hne
        generalize r[k]'(by rw [HR.out]; exact hlt) = y at hd1 hst hne
        have i0 : (k : Int) < (L : Int) := by omega
        have HST := hid hst
        have HNE := hid hne
        clear hst hne h1 h2
        by_cases hxy : x = y
        · subst hxy
          go_wp2
          go_quiet (fail)
          go_wp2
          go_roundw
          case rel => exact ⟨k + 1, m + nq, by omega, by go_num, by simp, HST.out trivial⟩
          case measure => simp [intOf]; omega
        · go_wp2
          go_quiet (fail)
          go_wp2
          go_ret
          exact ⟨by rw [decide_eq_false (HNE.out hxy)]; rfl, _, by simp; rfl⟩
      · have hk' : k = L := by omega
        have hd : decide (l = r) = true := by
          have := HT.out
          rw [hk', List.take_of_length_le (by rw [HL.out]; exact Nat.le_refl _), List.take_of_length_le (by rw [HR.out]; exact Nat.le_refl _)] at this
          simpa using this
        have HD := hid hd
        clear hd hk'
        go_wp2
        go_ret
        rw [HD.out]
        exact ⟨rfl, _, rfl⟩
  · have hne : ((L : Int) != (R : Int)) = true := by simp; omega
    go_wp2
    go_ret
    have hd : decide (l = r) = false := by
      simp only [decide_eq_false_iff_not]
      rintro rfl
      exact hlr (HL.out.symm.trans HR.out)
    rw [hd]
    exact ⟨rfl, 0, rfl⟩
/-- two IDs, and one too many -/
theorem comes_in (l : List Nat) (most id : Int) (h1 : 1 ≤ id ∧ id ≤ 65535) (h2 : id.toNat ∈ l) : Ib.comes l most id = (false, 0) := by
  have : has l id = true := by simpa [has] using h2
  rw [Ib.comes, if_pos h1, this]; rfl
theorem comes_full (l : List Nat) (most id : Int) (h1 : 1 ≤ id ∧ id ≤ 65535) (h2 : ¬ id.toNat ∈ l) (h3 : most ≤ l.length) : Ib.comes l most id = (false, 310) := by
  have : has l id = false := by simpa [has] using h2
  rw [Ib.comes, if_pos h1, this, if_neg Bool.false_ne_true, if_pos h3]
theorem comes_new (l : List Nat) (most id : Int) (h1 : 1 ≤ id ∧ id ≤ 65535) (h2 : ¬ id.toNat ∈ l) (h3 : ¬ most ≤ l.length) : Ib.comes l most id = (true, 0) := by
  have : has l id = false := by simpa [has] using h2
  rw [Ib.comes, if_pos h1, this, if_neg Bool.false_ne_true, if_neg h3]
theorem goes_in (l : List Nat) (id : Int) (h1 : 1 ≤ id ∧ id ≤ 65535) (h2 : id.toNat ∈ l) : Ib.goes l id = (true, 0) := by
  have : has l id = true := by simpa [has] using h2
  rw [Ib.goes, if_pos h1, this]
theorem ids_eq {ws : List Nat} {l : List Nat} (hs : l.Pairwise (· < ·)) (h : ∀ x, x ∈ Ib.ids ws ↔ x ∈ l) : Ib.ids ws = l := Ib.sorted_eq (Ib.ids_sorted ws) hs h
end Go.Proofs.YtnhcikbglcaboaaDoor
