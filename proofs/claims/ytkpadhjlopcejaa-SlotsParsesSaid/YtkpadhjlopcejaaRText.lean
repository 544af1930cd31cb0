/-
  A reader: the walks of Truth, Text.
-/
import Derived.Test.YtkpadhjlopcejaaRNum
namespace Go.Proofs.Ytkpadhjlopcejaa
open Go.RowKit
/-- what reading a truth tells, and what is left -/
def readTruth (l : List UInt8) : (Bool × Int) × List UInt8 :=
  match l with
  | [] => ((false, 130), [])
  | b :: r => if 1 < b.toNat then ((false, 130), b :: r) else ((decide (b.toNat = 1), 0), r)
def TEnd (ok : Nat → Prop) (R : Nat) (r : (Bool × Int) × List UInt8) (w : World) (e : Ending) (w' : World) : Prop :=
  e = .returned (.tuple #[.bool r.1.1, .int .i64 r.1.2]) ∧ RdAt ok w' R r.2 ∧ Kept (fun k => k < w.heap.size ∧ k ≠ R) w w'
theorem rtruth_none (p : Option Addr) (w : World) (hn : Calls Try.prog 53 #[.pointer p] w fun e w' => e = .returned (.bool true) ∧ w = w') : Calls Try.prog 26 #[.pointer p] w fun e w' => e = .returned (.tuple #[.bool false, .int .i64 1]) ∧ w = w' := by
  have HN := hid hn
  clear hn
  go_enter Try.func26, Try.ntmps26
  go_wp2_with fail
  refine HN.out.mono ?_
  rintro e w' ⟨rfl, rfl⟩
  go_wp2_with fail
  go_ret2
  exact ⟨rfl, rfl⟩
theorem rtext_none (p : Option Addr) (w : World) (hn : Calls Try.prog 53 #[.pointer p] w fun e w' => e = .returned (.bool true) ∧ w = w') : Calls Try.prog 25 #[.pointer p] w fun e w' => e = .returned (.tuple #[.string ⟨#[]⟩, .int .i64 1]) ∧ w = w' := by
  have HN := hid hn
  clear hn
  go_enter Try.func25, Try.ntmps25
  go_wp2_with fail
  refine HN.out.mono ?_
  rintro e w' ⟨rfl, rfl⟩
  go_wp2_with fail
  go_ret2
  exact ⟨rfl, rfl⟩
set_option maxRecDepth 10000 in
set_option maxHeartbeats 1000000 in
theorem rtruth_calls (ok : Nat → Prop) (R : Nat) (l : List UInt8) (w : World) (h : RdAt ok w R l) : Calls Try.prog 26 #[.pointer (some ⟨R, 0, none⟩)] w (TEnd ok R (readTruth l) w) := by
  have H := hid h
  have HC := hid (rnumber_calls ok R l 1 w h)
  obtain ⟨v, h1, ⟨a, cap, rfl, ha, -⟩, h3, -⟩ := h
  have c0 := h1.cell 0
  have c1 := h1.cell 1
  simp only [List.getElem?_cons_zero, List.getElem?_cons_succ] at c0 c1
  clear h1
  cases l with
  | nil =>
    clear ha h3
    go_enter Try.func26, Try.ntmps26
    go_wp2_with fail
    refine (rnone_at R true _ c1).mono ?_
    rintro e w' ⟨rfl, rfl⟩
    go_wp2_with fail
    go_ret2
    exact ⟨rfl, H.out, Kept.refl _ _⟩
  | cons b r =>
    obtain ⟨b0, off0, rfl, ho0, hd0⟩ := ha 0 (by simp)
    simp only [List.getElem_cons_zero, Nat.add_zero] at hd0
    have e : readNum (b :: r) 1 = ((b.toNat, 0), r) := by
      unfold readNum
      rw [if_pos (by decide), if_neg (by simp)]
      have hv : val ((b :: r).take (Int.toNat 1)) = b.toNat := by show 256 * 0 + b.toNat = b.toNat; omega
      rw [hv]
      rfl
    rw [e] at HC
    have hlen : (b :: r).length = r.length + 1 := rfl
    generalize hN : (b :: r).length = N at c0 h3
    have hN0 : ¬ (N : Int) = 0 := by omega
    have hN1 : (0 : Int) < (N : Int) := by omega
    have hne : ((N : Int) == 0) = false := by simpa using hN0
    clear ha e hlen hN hN0
    by_cases hb : 1 < b.toNat
    · have et : readTruth (b :: r) = ((false, 130), b :: r) := by simp [readTruth, hb]
      have HT := hid et
      have hb' : (1 : Int) < (b.toNat : Int) := by omega
      generalize b.toNat = x at hd0 hb' HC
      clear et hb
      go_enter Try.func26, Try.ntmps26
      go_wp2_with fail
      refine (rnone_at R true _ c1).mono ?_
      rintro e w' ⟨rfl, rfl⟩
      go_wp2_with fail
      go_ret2
      rw [HT.out]
      exact ⟨rfl, H.out, Kept.refl _ _⟩
    · have et : readTruth (b :: r) = ((decide (b.toNat = 1), 0), r) := by simp [readTruth, hb]
      have HT := hid et
      have hb' : ¬ (1 : Int) < (b.toNat : Int) := by omega
      have hq : (((b.toNat : Nat) : Int) == 1) = decide (b.toNat = 1) := by
        rw [Bool.eq_iff_iff]; simp; omega
      generalize hx : b.toNat = x at hd0 hb' HC hq
      rw [hx] at HT
      clear et hb hx
      generalize decide (x = 1) = q at hq HT
      go_enter Try.func26, Try.ntmps26
      go_wp2_with fail
      refine (rnone_at R true _ c1).mono ?_
      rintro e w' ⟨rfl, rfl⟩
      go_wp2_with fail
      refine HC.out.mono ?_
      rintro e w' ⟨rfl, hr, hk⟩
      have HR := hid hr
      have HK := hid hk
      clear hr hk
      go_wp2_with fail
      go_ret2
      rw [HT.out]
      exact ⟨rfl, HR.out, HK.out⟩
/-- what reading a text tells, and what is left -/
def readText (l : List UInt8) : (List UInt8 × Int) × List UInt8 :=
  if l.length < 2 then (([], 130), l)
  else if (l.drop 2).length < val (l.take 2) then (([], 130), l)
  else (((l.drop 2).take (val (l.take 2)), 0), (l.drop 2).drop (val (l.take 2)))
def XEnd (ok : Nat → Prop) (R : Nat) (r : (List UInt8 × Int) × List UInt8) (w : World) (e : Ending) (w' : World) : Prop :=
  e = .returned (.tuple #[.string ⟨r.1.1.toArray⟩, .int .i64 r.1.2]) ∧ RdAt ok w' R r.2 ∧ Kept (fun k => k < w.heap.size ∧ k ≠ R) w w'
theorem val_two (l : List UInt8) (h : ¬ l.length < 2) : val (l.take 2) ≤ 65535 := by
  have := val_lt (l.take 2)
  have e : (l.take 2).length = 2 := by rw [List.length_take]; omega
  rw [e] at this
  have e2 : (256 : Nat) ^ 2 = 65536 := by decide
  omega
theorem NEnd.short {ok : Nat → Prop} {R : Nat} {l : List UInt8} {w : World} {e : Ending} {w' : World} (hl : l.length < 2) (h : NEnd ok R (readNum l 2) w e w') : e = .returned (.tuple #[.int .u64 0, .int .i64 130]) ∧ RdAt ok w' R l ∧ Kept (fun k => k < w.heap.size ∧ k ≠ R) w w' := by
  have e : readNum l 2 = ((0, 130), l) := by unfold readNum; rw [if_pos (by decide), if_pos (by show l.length < 2; exact hl)]
  rw [e] at h
  exact h
theorem NEnd.long {ok : Nat → Prop} {R : Nat} {l : List UInt8} {w : World} {e : Ending} {w' : World} (hl : ¬ l.length < 2) (h : NEnd ok R (readNum l 2) w e w') : e = .returned (.tuple #[.int .u64 ((val (l.take 2) : Nat) : Int), .int .i64 0]) ∧ RdAt ok w' R (l.drop 2) ∧ Kept (fun k => k < w.heap.size ∧ k ≠ R) w w' := by
  have e : readNum l 2 = ((val (l.take 2), 0), l.drop 2) := by unfold readNum; rw [if_pos (by decide), if_neg (by show ¬ l.length < 2; exact hl)]; rfl
  rw [e] at h
  exact h
/-- the bytes put back -/
theorem back {ok : Nat → Prop} {R : Nat} {l l2 : List UInt8} {v : Value} {w w' : World} (h : PartB ok w v l) (hl : l.length ≤ 1099511627776) (h4 : ∀ k, ok k → k < w.heap.size ∧ k ≠ R) (h2 : RdAt ok w' R l2) (hk : Kept (fun k => k < w.heap.size ∧ k ≠ R) w w') :
    ∃ v2, w'.cell? ⟨R, 0, none⟩ = some v2 ∧ w'.frozen? ⟨R, 0, none⟩ = false ∧ Hid (RdAt ok (w'.setCell ⟨R, 0, none⟩ v) R l ∧ Kept (fun k => k < w.heap.size ∧ k ≠ R) w (w'.setCell ⟨R, 0, none⟩ v)) := by
  obtain ⟨v2, g1, _⟩ := h2
  refine ⟨v2, g1.cell 0, g1.frozen 0, ⟨v, g1.set 0 v, ?_, hl, fun k hk' => ⟨?_, (h4 k hk').2⟩⟩, hk.setCell (p := ⟨R, 0, none⟩) (fun h => h.2 rfl) v⟩
  · exact h.kept ((hk.setCell (p := ⟨R, 0, none⟩) (fun h => h.2 rfl) v).shrink h4)
  · have := (h4 k hk').1
    have := hk.size
    simp [World.setCell]; omega
set_option maxRecDepth 10000 in
set_option maxHeartbeats 2000000 in
theorem rtext_calls (ok : Nat → Prop) (R : Nat) (l : List UInt8) (w : World) (h : RdAt ok w R l) : Calls Try.prog 25 #[.pointer (some ⟨R, 0, none⟩)] w (XEnd ok R (readText l) w) := by
  have H := hid h
  have hR := h.lt
  have HC := hid (rnumber_calls ok R l 2 w h)
  obtain ⟨v, h1, hp, h3, h4⟩ := h
  have c0 := h1.cell 0
  have c1 := h1.cell 1
  simp only [List.getElem?_cons_zero, List.getElem?_cons_succ] at c0 c1
  have HB := hid (fun (w' : World) (l2 : List UInt8) => back (l2 := l2) (w' := w') hp h3 h4)
  obtain ⟨a, cap, rfl, -⟩ := hp
  generalize l.length = N at c0 HB
  clear h1 h3 h4
  by_cases hs : l.length < 2
  · have et : readText l = (([], 130), l) := by unfold readText; rw [if_pos hs]
    have HE := hid et
    have HS := hid hs
    clear et hs
    go_enter Try.func25, Try.ntmps25
    go_wp2_with fail
    refine (rnone_at R true _ c1).mono ?_
    rintro e w' ⟨rfl, rfl⟩
    go_wp2_with fail
    refine HC.out.mono ?_
    intro e w1 hne
    obtain ⟨rfl, r1, k1⟩ := NEnd.short HS.out hne
    have hb0 : Below w1.heap.size w1 (w1.alloc (.cells #[.pointer (some ⟨R, 0, none⟩)] 34)) := (Below.refl _ _).alloc (Nat.le_refl _) _
    have hnew := Blk.new w1 [.pointer (some ⟨R, 0, none⟩)] 34
    have HT := hid (take_calls ok R w1.heap.size 0 l _ (r1.grows hb0) (hnew.cell 0) (by decide))
    have R1 := hid r1
    have K1 := hid k1
    have HB0 := hid hb0
    clear r1 k1 hb0 hnew hne
    go_wp2_with fail
    refine (mkfun_calls _ _).mono ?_
    rintro e w' ⟨rfl, rfl⟩
    go_wp2_with fail
    refine HT.out.mono ?_
    intro e w2 ht
    unfold TakeEnd at ht
    rw [if_neg (Nat.not_lt_zero _)] at ht
    obtain ⟨vv, rfl, p2, r2, k2, z2⟩ := ht
    have hk : Kept (fun k => k < w.heap.size ∧ k ≠ R) w w2 := (K1.out.trans (Kept.of_below HB0.out fun k hk => by have := K1.out.size; omega)).trans (k2.shrink fun k hk => hk.2)
    obtain ⟨v3, d0, f0, HX⟩ := HB.out w2 _ r2 hk
    clear p2 r2 k2 z2 hk
    go_wp2_with fail
    go_ret2
    rw [HE.out]
    exact ⟨rfl, HX.out.1, HX.out.2⟩
  · have hv := val_two l hs
    obtain ⟨n, hn⟩ : ∃ n, n = val (l.take 2) := ⟨_, rfl⟩
    have HN2 := hid hn
    rw [← hn] at hv
    by_cases hlt : (l.drop 2).length < n
    · have et : readText l = (([], 130), l) := by unfold readText; rw [if_neg hs, if_pos (by rw [← hn]; exact hlt)]
      have HE := hid et
      have HS := hid hs
      have HLT := hid hlt
      clear et hs hlt hn
      go_enter Try.func25, Try.ntmps25
      go_wp2_with fail
      refine (rnone_at R true _ c1).mono ?_
      rintro e w' ⟨rfl, rfl⟩
      go_wp2_with fail
      refine HC.out.mono ?_
      intro e w1 hne
      obtain ⟨rfl, r1, k1⟩ := NEnd.long HS.out hne
      have hb0 : Below w1.heap.size w1 (w1.alloc (.cells #[.pointer (some ⟨R, 0, none⟩)] 34)) := (Below.refl _ _).alloc (Nat.le_refl _) _
      have hnew := Blk.new w1 [.pointer (some ⟨R, 0, none⟩)] 34
      have HT := hid (take_calls ok R w1.heap.size n (l.drop 2) _ (r1.grows hb0) (hnew.cell 0) (by omega))
      have R1 := hid r1
      have K1 := hid k1
      have HB0 := hid hb0
      clear r1 k1 hb0 hnew hne
      rw [← HN2.out]
      go_wp2_with fail
      refine (mkfun_calls _ _).mono ?_
      rintro e w' ⟨rfl, rfl⟩
      go_wp2_with fail
      refine HT.out.mono ?_
      intro e w2 ht
      unfold TakeEnd at ht
      rw [if_pos HLT.out] at ht
      obtain ⟨rfl, rfl⟩ := ht
      have hk : Kept (fun k => k < w.heap.size ∧ k ≠ R) w (w1.alloc (.cells #[.pointer (some ⟨R, 0, none⟩)] 34)) := K1.out.trans (Kept.of_below HB0.out fun k hk => by have := K1.out.size; omega)
      obtain ⟨v3, d0, f0, HX⟩ := HB.out _ _ (R1.out.grows HB0.out) hk
      generalize (w1.alloc (.cells #[.pointer (some ⟨R, 0, none⟩)] 34)) = w2 at *
      clear hk
      go_wp2_with fail
      go_ret2
      rw [HE.out]
      exact ⟨rfl, HX.out.1, HX.out.2⟩
    · have et : readText l = (((l.drop 2).take n, 0), (l.drop 2).drop n) := by unfold readText; rw [if_neg hs, if_neg (by rw [← hn]; exact hlt), ← hn]
      have HE := hid et
      have HS := hid hs
      have HLT := hid hlt
      clear et hs hlt hn
      go_enter Try.func25, Try.ntmps25
      go_wp2_with fail
      refine (rnone_at R true _ c1).mono ?_
      rintro e w' ⟨rfl, rfl⟩
      go_wp2_with fail
      refine HC.out.mono ?_
      intro e w1 hne
      obtain ⟨rfl, r1, k1⟩ := NEnd.long HS.out hne
      have hb0 : Below w1.heap.size w1 (w1.alloc (.cells #[.pointer (some ⟨R, 0, none⟩)] 34)) := (Below.refl _ _).alloc (Nat.le_refl _) _
      have hnew := Blk.new w1 [.pointer (some ⟨R, 0, none⟩)] 34
      have HT := hid (take_calls ok R w1.heap.size n (l.drop 2) _ (r1.grows hb0) (hnew.cell 0) (by omega))
      have R1 := hid r1
      have K1 := hid k1
      have HB0 := hid hb0
      clear r1 k1 hb0 hnew hne
      rw [← HN2.out]
      go_wp2_with fail
      refine (mkfun_calls _ _).mono ?_
      rintro e w' ⟨rfl, rfl⟩
      go_wp2_with fail
      refine HT.out.mono ?_
      intro e w2 ht
      unfold TakeEnd at ht
      rw [if_neg HLT.out] at ht
      obtain ⟨vv, rfl, ⟨a2, c2, rfl, p2, -⟩, r2, k2, z2⟩ := ht
      have hk : Kept (fun k => k < w.heap.size ∧ k ≠ R) w w2 := (K1.out.trans (Kept.of_below HB0.out fun k hk => by have := K1.out.size; omega)).trans (k2.shrink fun k hk => hk.2)
      have hcv := run_strB (w := w2) ((l.drop 2).take n).length c2 rfl p2
      have HK := hid hk
      have R2 := hid r2
      generalize ((l.drop 2).take n).length = m at hcv ⊢
      generalize hstr : (⟨((l.drop 2).take n).toArray⟩ : ByteArray) = str at hcv
      have HSTR := hid hstr
      clear p2 r2 k2 z2 hk hstr
      go_wp2_with fail
      go_ret2
      rw [HE.out]
      exact ⟨by show _ = Ending.returned (.tuple #[.string ⟨((l.drop 2).take n).toArray⟩, _]); rw [HSTR.out]; rfl, R2.out, HK.out⟩
end Go.Proofs.Ytkpadhjlopcejaa
