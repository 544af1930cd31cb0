/-
  A copy of an inbox: its walk.
-/
import Derived.Test.YtnhcikbglcaboaaDoorSame
import Derived.Deep.MidRow
namespace Go.Proofs.YtnhcikbglcaboaaDoor
open Go.RowKit Go.Shelf
theorem blk_setCells (b : Nat) : ∀ (vs : List Value) (o : Nat) (w : World) (xs : List Value), Blk w b xs → ∃ ys, Blk (w.setCells b o vs) b ys ∧ ys.length = xs.length
  | [], _, _, xs, h => ⟨xs, h, rfl⟩
  | v :: r, o, w, xs, h => by
    obtain ⟨ys, h1, h2⟩ := blk_setCells b r (o + 1) (w.setCell ⟨b, o, none⟩ v) _ (h.set o v)
    exact ⟨ys, h1, by rw [h2, List.length_set]⟩
theorem kept_setCells {ok : Nat → Prop} (b : Nat) (hb : ¬ ok b) : ∀ (vs : List Value) (o : Nat) (w : World), Kept ok w (w.setCells b o vs)
  | [], _, w => Kept.refl ok w
  | v :: r, o, w => ((Kept.refl ok w).setCell (p := ⟨b, o, none⟩) hb v).trans (kept_setCells b hb r (o + 1) _)
theorem size_setCells (b : Nat) : ∀ (vs : List Value) (o : Nat) (w : World), (w.setCells b o vs).heap.size = w.heap.size
  | [], _, _ => rfl
  | v :: r, o, w => by rw [World.setCells, size_setCells b r]; simp [World.setCell]
theorem blk_there {w : World} {b : Nat} {xs : List Value} (h : Blk w b xs) : w.there b 0 xs.length := fun j hj => by
  rw [Nat.zero_add, h.cell, List.getElem?_eq_getElem hj]
  exact ⟨rfl, h.frozen j⟩
theorem blk_whole {w : World} {b : Nat} {xs vs : List Value} (h : Blk w b xs) (hl : vs.length = xs.length) : Blk (w.setCells b 0 vs) b vs := by
  obtain ⟨ys, h1, h2⟩ := blk_setCells b vs 0 w xs h
  have hr := World.rangeAt_setCells_same w b 0 vs (hl ▸ blk_there h)
  have : ys = vs := by
    apply List.ext_getElem?
    intro i
    by_cases hi : i < vs.length
    · have := hr i vs[i] (List.getElem?_eq_getElem hi)
      rw [Nat.zero_add, h1.cell] at this
      rw [this, List.getElem?_eq_getElem hi]
    · rw [List.getElem?_eq_none (by omega), List.getElem?_eq_none (by omega)]
  rw [← this]
  rw [this]
  rw [this] at h1
  exact h1
theorem info53 : (Tryd.prog.info? 53).map (·.size) = some 1024 := by kernel_rfl
theorem set_range {w : World} {S : Nat} {ws : List Nat} (h : SetAt w S ws) : w.rangeAt S 0 (wordVals ws).toList := fun j v hv => by
  rw [Nat.zero_add, h.1.cell]
  simpa [wordVals] using hv
theorem copy_none (p : Option Addr) (w : World) (hn : Calls Tryd.prog 23 #[.pointer p] w fun e w' => e = .returned (.bool true) ∧ w = w') : Calls Tryd.prog 20 #[.pointer p] w fun e w' => e = .returned (.pointer none) ∧ w = w' := by
  have HN := hid hn
  clear hn
  go_enter Tryd.func20, Tryd.ntmps20
  go_wp2_with fail
  refine HN.out.mono ?_
  rintro e w' ⟨rfl, rfl⟩
  go_wp2_with fail
  go_ret
  exact ⟨rfl, rfl⟩
theorem copy_calls (A S : Nat) (most : Int) (ws : List Nat) (w : World) (h : InAt w A S most ws) : Calls Tryd.prog 20 #[.pointer (some ⟨A, 0, none⟩)] w fun e w' =>
    e = .returned (.pointer (some ⟨w.heap.size + 1, 0, none⟩)) ∧ InAt w' (w.heap.size + 1) w.heap.size most ws ∧ Below w.heap.size w w' := by
  have c0 := h.1.cell 0
  have c1 := h.1.cell 1
  simp only [List.getElem?_cons_zero, List.getElem?_cons_succ] at c0 c1
  have hA := h.1.lt
  have hS := h.2.1.1.lt
  have HI := hid h
  have hset := h.2.1.2
  have HSET := hid hset
  clear h hset
  go_enter Tryd.func20, Tryd.ntmps20
  go_wp2_with fail
  refine (none_full A S w c0).mono ?_
  rintro e w' ⟨rfl, rfl⟩
  go_wp2_with (refine wpList_load_mid rfl 53 (.tmp 10) rfl S 0 rfl (wordVals ws).toList _ (set_range HI.out.2.1) Tryd.underlying53 rfl (by simp [wordVals, HI.out.2.1.2.1, info53]) ?_)
  simp only [z53]
  have hb0 : Blk (w.alloc (.cells (Array.mk Zs) 53)) w.heap.size Zs := Blk.new w Zs 53
  have hlz : Zs.length = 1024 := by rw [Zs_eq, List.length_map, ws0_length]
  have hwl : (wordVals ws).toList.length = 1024 := by simp [wordVals, HI.out.2.1.2.1]
  have hw1 := blk_whole hb0 (vs := (wordVals ws).toList) (by rw [hwl, hlz])
  have hk1 : Kept (fun b => b < w.heap.size) w ((w.alloc (.cells (Array.mk Zs) 53)).setCells w.heap.size 0 (wordVals ws).toList) :=
    (Kept.of_below ((Below.refl _ w).alloc (Nat.le_refl _) _) (fun _ h => h)).trans (kept_setCells _ (by omega) _ _ _)
  have hs1 : ((w.alloc (.cells (Array.mk Zs) 53)).setCells w.heap.size 0 (wordVals ws).toList).heap.size = w.heap.size + 1 := by
    rw [size_setCells]; simp
  have hone : (wordVals ws).all (·.oneCell') = true := by
    unfold wordVals
    exact all_oneCell_toArray (fun v hv => by obtain ⟨x, _, rfl⟩ := List.mem_map.1 hv; rfl)
  have hsz : (Tryd.prog.info? 53).map (·.size) = some (wordVals ws).size := by rw [info53]; simp [wordVals, HI.out.2.1.2.1]
  have hth : (w.alloc (.cells (Array.mk Zs) 53)).there w.heap.size 0 (wordVals ws).size := by
    have := blk_there hb0
    rw [hlz] at this
    rwa [show (wordVals ws).size = 1024 from hwl]
  have HZ := hid hlz
  have HW := hid hwl
  have HB0 := hid hb0
  have HO := hid hone
  have HSZ := hid hsz
  have HTH := hid hth
  have HW1 := hid hw1
  have HK1 := hid hk1
  have HS1 := hid hs1
  clear hlz hwl hb0 hone hsz hth hw1 hk1 hs1
  rename_i K1 hK1 K2 hK2
  simp only [Result.andThen_ok, Oper.upon, Act.put, List.setIfInBounds_toArray, List.set_cons_succ, List.set_cons_zero]
  apply hK2
  refine wpList_store_mid rfl 53 (.tmp 3) (.tmp 11) rfl w.heap.size 0 (wordVals ws) rfl rfl HTH.out HSZ.out HO.out ?_
  obtain ⟨w1, hw1⟩ : ∃ w1, w1 = (w.alloc (.cells (Array.mk Zs) 53)).setCells w.heap.size 0 (wordVals ws).toList := ⟨_, rfl⟩
  rw [← hw1]
  rw [← hw1] at HW1 HK1 HS1
  have e0 : w1.cell? ⟨A, 1, none⟩ = some (Value.int IntKind.i64 most) := by rw [HK1.out.cell (p := ⟨A, 1, none⟩) hA]; exact c1
  clear hw1 hK2 K2
  simp only [Act.put]
  go_wp2_with fail
  have hz := HS1.out
  have hb := HW1.out
  have hk := HK1.out
  clear HI HTH HSZ HB0 HO e0 c0 c1
  refine bodyPost_ret (v := .pointer (some ⟨w1.heap.size, 0, none⟩)) (by simp [results, Tryd.results20, go_sem]) rfl ⟨by rw [hz], ⟨?_, ⟨?_, ?_⟩, by omega⟩, ?_⟩
  · exact Blk.new' w1 [.pointer (some ⟨w.heap.size, 0, none⟩), .int .i64 most] 50 hz.symm
  · rw [show (ws.map fun x : Nat => Value.int .u64 (x : Int)) = (wordVals ws).toList from rfl]
    exact hb.alloc _
  · exact HSET.out
  · exact kept_below (Below.refl _ _) (hk.trans (Kept.of_below ((Below.refl _ w1).alloc (Nat.le_refl _) _) (fun k hk => by omega))) (fun _ h => h)
/-- a copy of an inbox -/
theorem copy_calls' {B A S : Nat} {w0 w : World} {most : Int} {l : List Nat} (h : St B w0 w A S most l) : Calls Tryd.prog 20 #[.pointer (some ⟨A, 0, none⟩)] w fun e w' =>
    ∃ A2 S2, e = .returned (.pointer (some ⟨A2, 0, none⟩)) ∧ St B w0 w' A S most l ∧ St B w0 w' A2 S2 most l ∧ w.heap.size ≤ A2 ∧ w.heap.size ≤ S2 ∧ Below w.heap.size w w' := by
  have hS := h
  obtain ⟨ws, hi, rfl, h0⟩ := h.words
  refine (copy_calls A S most ws w hi).mono ?_
  rintro e w' ⟨rfl, h1, hb⟩
  have hlt := h.lt
  have hlow := h.low
  exact ⟨_, _, rfl, hS.grows hb, ⟨⟨ws, h1, rfl, h0⟩, hS.below.trans (hb.mono (by omega)), ⟨hlow.1, by omega, by omega⟩, h.table.below hb (by omega)⟩, by omega, by omega, hb⟩
end Go.Proofs.YtnhcikbglcaboaaDoor
