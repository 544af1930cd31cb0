/-
  The document's answers: the walk of Go.
-/
import Derived.Test.YtnhcikbglcaboaaDoorRefCome
namespace Go.Proofs.YtnhcikbglcaboaaDoor
open Go.RowKit Go.Shelf
attribute [local go_sem] AnyOrder.opK_value AnyOrder.opK_skip AnyOrder.opK_enter
theorem refgo_out (v : Value) (id : Int) (w : World) (h : ¬ (1 ≤ id ∧ id ≤ 65535)) : Calls Tryd.prog 22 #[v, .int .i64 id] w fun e w' =>
    e = .returned (.tuple #[v, .bool false, .int .i64 2]) ∧ w = w' := by
  go_enter Tryd.func22, Tryd.ntmps22
  by_cases h1 : id < 1
  · go_wp2
    go_ret3
    exact ⟨rfl, rfl⟩
  · have h2 : id > 65535 := by omega
    go_wp2
    go_ret3
    exact ⟨rfl, rfl⟩
theorem refgo_in (a : Option Addr) (cap : Nat) (L : List Int) (id : Int) (ok : Nat → Prop) (w : World) (h1 : IntsIn ok w a L) (hl : L.length ≤ 65536) (hs : L.Pairwise (· < ·)) (h : 1 ≤ id ∧ id ≤ 65535) (hin : ¬ id ∈ L) :
    Calls Tryd.prog 22 #[.slice a L.length cap, .int .i64 id] w fun e w' => e = .returned (.tuple #[.slice a L.length cap, .bool false, .int .i64 0]) ∧ ∃ m, w' = World.drewN w m := by
  have hf := find_calls a cap L id ok w h1 (by omega) hs
  rw [decide_eq_false hin] at hf
  have HF := hid hf
  obtain ⟨g1, g2⟩ := h
  generalize L.length = N at HF
  clear hf h1 hs hin hl
  go_enter Tryd.func22, Tryd.ntmps22
  go_wp2_with fail
  refine HF.out.mono ?_
  rintro e w' ⟨rfl, m, rfl⟩
  go_wp2_with fail
  go_ret3
  exact ⟨rfl, _, rfl⟩
set_option maxRecDepth 100000 in
set_option maxHeartbeats 2000000 in
theorem refgo_was (a : Option Addr) (cap : Nat) (L : List Int) (id : Int) (ok : Nat → Prop) (w : World) (h1 : IntsIn ok w a L) (hok : ∀ k, ok k → k < w.heap.size) (hc : L.length ≤ cap ∧ cap ≤ maxLen ∧ (a = none → cap = 0)) (hl : L.length ≤ 65536) (hs : L.Pairwise (· < ·)) (h : 1 ≤ id ∧ id ≤ 65535) (hin : id ∈ L) (hbl : below L id < L.length) :
    Calls Tryd.prog 22 #[.slice a L.length cap, .int .i64 id] w fun e w' => ∃ v, e = .returned (.tuple #[v, .bool true, .int .i64 0]) ∧ OwnI w' w.heap.size v (L.take (below L id) ++ L.drop (below L id + 1)) ∧ Below w.heap.size w w' := by
  have hf := find_calls a cap L id ok w h1 (by omega) hs
  rw [decide_eq_true hin] at hf
  have HF := hid hf
  obtain ⟨g1, g2⟩ := h
  have hl1 := h1.take (below L id)
  have phigh := part_high h1 hc.2.2 hc.1 (below L id + 1) hbl
  generalize hn : below L id = n at *
  have hlt : (L.take n).length = n := by simp; omega
  have hld : (L.drop (n + 1)).length = L.length - (n + 1) := by simp
  generalize L.take n = L1 at *
  generalize L.drop (n + 1) = L2 at *
  generalize L.length = N at *
  have HC := hid hc
  have c1 : (n : Int) < (N : Int) := by omega
  have c2 : (n : Int) ≤ (cap : Int) := by have := hc.1; omega
  have c3 : (0 : Int) ≤ (n : Int) := by omega
  have c4 : ((n + 1 : Nat) : Int) ≤ (N : Int) := by omega
  have HL1 := hid hl1
  have PH := hid phigh
  have HLT := hid hlt
  have HLD := hid hld
  have HOK := hid hok
  clear hf h1 hs hin hc hn hl1 phigh hlt hld hok
  go_enter Tryd.func22, Tryd.ntmps22
  go_wp2_with fail
  refine HF.out.mono ?_
  rintro e w' ⟨rfl, m, rfl⟩
  go_wp2_with fail
  have hst : ∀ p ∈ ([
    fun v _ => v = .slice a N cap,
    fun v _ => v = .int .i64 (n : Int),
    fun v _ => v = .slice a n cap,
    fun v w' => OwnI w' w.heap.size v L1,
    fun v _ => v = .slice a N cap,
    fun v _ => v = .int .i64 (n : Int),
    fun v _ => v = .int .i64 ((n + 1 : Nat) : Int),
    fun v _ => v = sliced a (n + 1) N cap 1,
    fun v w' => OwnI w' w.heap.size v (L1 ++ L2),
    fun v w' => OwnI w' w.heap.size v (L1 ++ L2),
    fun v _ => v = .bool true,
    fun v _ => v = .int .i64 0] : List (Value → World → Prop)), AnyOrder.Stays p := by
    intro p hp
    simp only [List.mem_cons, List.not_mem_nil, or_false] at hp
    rcases hp with rfl | rfl | rfl | rfl | rfl | rfl | rfl | rfl | rfl | rfl | rfl | rfl
    all_goals first
      | exact AnyOrder.stays_const _
      | exact fun _ _ _ hg h => OwnI.below h hg
  have HST := hid hst
  clear hst
  refine AnyOrder.wp_region_chain (fun k => if k = 8 then [3] else []) [
    fun v _ => v = .slice a N cap,
    fun v _ => v = .int .i64 (n : Int),
    fun v _ => v = .slice a n cap,
    fun v w' => OwnI w' w.heap.size v L1,
    fun v _ => v = .slice a N cap,
    fun v _ => v = .int .i64 (n : Int),
    fun v _ => v = .int .i64 ((n + 1 : Nat) : Int),
    fun v _ => v = sliced a (n + 1) N cap 1,
    fun v w' => OwnI w' w.heap.size v (L1 ++ L2),
    fun v w' => OwnI w' w.heap.size v (L1 ++ L2),
    fun v _ => v = .bool true,
    fun v _ => v = .int .i64 0] (by kernel_rfl) (by kernel_rfl) ?_ ?_
  · simp only [AnyOrder.ESteps, Nat.zero_add, Nat.reduceAdd]
    refine ⟨?_, ?_, ?_, ?_, ?_, ?_, ?_, ?_, ?_, ?_, ?_, ?_, trivial⟩
    · refine AnyOrder.estep rfl fun ρ w' hk K HK => ?_
      have k1 := hk.old 0 (by kernel_rfl)
      clear hk
      simp at k1
      go_simp
      exact HK.out _ _ (AnyOrder.ekept_same rfl)
    · refine AnyOrder.estep rfl fun ρ w' hk K HK => ?_
      have k1 := hk.old 7 (by kernel_rfl)
      clear hk
      simp at k1
      go_simp
      exact HK.out _ _ (AnyOrder.ekept_same rfl)
    · refine AnyOrder.estep rfl fun ρ w' hk K HK => ?_
      have k1 : ρ (.tmp 25) = .slice a N cap := hk.at 0 (by kernel_rfl)
      have k2 : ρ (.tmp 26) = .int .i64 (n : Int) := hk.at 1 (by kernel_rfl)
      clear hk
      go_simp
      exact HK.out _ _ (AnyOrder.ekept_same rfl)
    · refine AnyOrder.estep rfl fun ρ w' hk K HK => ?_
      have k1 : ρ (.tmp 27) = .slice a n cap := hk.at 2 (by kernel_rfl)
      have k2 := hk.const (.slice none 0 0)
      have kw : Below w.heap.size w w' := ⟨hk.world.os, hk.world.tape, hk.world.output, hk.world.size, hk.world.block⟩
      clear hk
      have kk : Kept ok w w' := Kept.of_below kw HOK.out
      refine opK_appendI (.const (.slice none 0 0)) (.tmp 27) rfl w.heap.size _ [] k2 (OwnI.nil _ _) a n cap L1 HLT.out k1 HC.out.2.2 ok (HL1.out.kept kk) (by simp; omega) kw.size ?_
      intro v' w2 hv hg
      have hgr : AnyOrder.Grows w' w2 := ⟨hg.os, hg.tape, hg.output, hg.size, fun k hk => hg.block k hk (by simp [Value.ownBlock])⟩
      exact HK.out _ _ (AnyOrder.ekept_grows HST.out kw.size hgr (by rw [List.nil_append] at hv; exact hv))
    · refine AnyOrder.estep rfl fun ρ w' hk K HK => ?_
      have k1 := hk.old 0 (by kernel_rfl)
      clear hk
      simp at k1
      go_simp
      exact HK.out _ _ (AnyOrder.ekept_same rfl)
    · refine AnyOrder.estep rfl fun ρ w' hk K HK => ?_
      have k1 := hk.old 7 (by kernel_rfl)
      clear hk
      simp at k1
      go_simp
      exact HK.out _ _ (AnyOrder.ekept_same rfl)
    · refine AnyOrder.estep rfl fun ρ w' hk K HK => ?_
      have k1 : ρ (.tmp 30) = .int .i64 (n : Int) := hk.at 5 (by kernel_rfl)
      have k2 := hk.const (.int .i64 1)
      have k3 : IntKind.i64.wrap ((n : Int) + 1) = (n : Int) + 1 := by rw [IntWalk.i64_in _ (by omega)]
      clear hk
      go_simp
      exact HK.out _ _ (AnyOrder.ekept_same (by show _ = _; rw [show ((n + 1 : Nat) : Int) = (n : Int) + 1 from by omega]; rfl))
    · refine AnyOrder.estep rfl fun ρ w' hk K HK => ?_
      have k1 : ρ (.tmp 29) = .slice a N cap := hk.at 4 (by kernel_rfl)
      have k2 : ρ (.tmp 31) = .int .i64 ((n + 1 : Nat) : Int) := hk.at 6 (by kernel_rfl)
      clear hk
      obtain ⟨q, hq⟩ : ∃ q, q = n + 1 := ⟨_, rfl⟩
      have c5 : ((q : Nat) : Int) ≤ (N : Int) := by rw [hq]; exact c4
      rw [← hq] at k2
      have HQ := hid hq
      have c6 : (0 : Int) ≤ (q : Int) := by omega
      clear hq c4
      go_simp
      exact HK.out _ _ (AnyOrder.ekept_same (by show _ = sliced a (n + 1) N cap 1; rw [← HQ.out]; simp [sliced]))
    · refine AnyOrder.estep rfl fun ρ w' hk K HK => ?_
      have k1 : OwnI w' w.heap.size (ρ (.tmp 28)) L1 := hk.at 3 (by kernel_rfl)
      have k2 : ρ (.tmp 32) = sliced a (n + 1) N cap 1 := hk.at 7 (by kernel_rfl)
      have kw : Below w.heap.size w w' := ⟨hk.world.os, hk.world.tape, hk.world.output, hk.world.size, hk.world.block⟩
      clear hk
      have kk : Kept ok w w' := Kept.of_below kw HOK.out
      obtain ⟨a2, c2, e2, h2, h3⟩ := PH.out
      rw [e2] at k2
      refine opK_appendI (.tmp 28) (.tmp 32) rfl w.heap.size _ L1 rfl k1 a2 _ c2 L2 rfl k2 h3 ok (h2.kept kk) (by have := HLT.out; have := HLD.out; omega) kw.size ?_
      intro v' w2 hv hg
      refine HK.out _ _ ⟨grown_belowI hg k1 kw.size, hv, fun j hj u hu => ?_⟩
      have := AnyOrder.beside_list (js := [0, 1, 2, 4, 5, 6, 7]) (by kernel_rfl) j hj
      simp only [List.mem_cons, List.not_mem_nil, or_false] at this
      rcases this with rfl | rfl | rfl | rfl | rfl | rfl | rfl
      all_goals exact hu
    · refine AnyOrder.estep rfl fun ρ w' hk K HK => ?_
      have k1 : OwnI w' w.heap.size (ρ (.tmp 33)) (L1 ++ L2) := hk.at 8 (by kernel_rfl)
      clear hk
      have K1 := hid k1
      clear k1
      go_simp
      exact HK.out _ _ (AnyOrder.ekept_same K1.out)
    · refine AnyOrder.estep rfl fun ρ w' hk K HK => ?_
      have k1 := hk.const (.bool true)
      clear hk
      go_simp
      exact HK.out _ _ (AnyOrder.ekept_same rfl)
    · refine AnyOrder.estep rfl fun ρ w' hk K HK => ?_
      have k1 := hk.const (.int .i64 0)
      clear hk
      go_simp
      exact HK.out _ _ (AnyOrder.ekept_same rfl)
  · intro vs w3 hg hvs
    have hB3 : Below w.heap.size w w3 := ⟨hg.os, hg.tape, hg.output, hg.size, hg.block⟩
    have v11 : OwnI w3 w.heap.size (vs 9) (L1 ++ L2) := hvs 9 (by simp) (by kernel_rfl)
    have v12 : vs 10 = .bool true := hvs 10 (by simp) (by kernel_rfl)
    have v13 : vs 11 = .int .i64 0 := hvs 11 (by simp) (by kernel_rfl)
    clear hvs
    simp only [AnyOrder.fill, Nat.zero_add, Nat.reduceAdd, List.setIfInBounds_toArray, List.set_cons_zero, List.set_cons_succ]
    rw [v12, v13]
    generalize vs 9 = v at v11
    have V11 := hid v11
    have HB3 := hid hB3
    clear v11 v12 v13 hg hB3
    go_wp2_with fail
    go_ret3
    exact ⟨v, rfl, V11.out, HB3.out⟩
theorem filter_tog_new {l : List Nat} {id : Int} (h : 1 ≤ id) (hin : ¬ id.toNat ∈ l) :
    ((l.map fun x : Nat => (x : Int)).filter fun x => decide (x < id)) ++ id :: ((l.map fun x : Nat => (x : Int)).filter fun x => decide (id ≤ x)) = (tog l id.toNat).map fun x : Nat => (x : Int) := by
  unfold tog
  rw [if_neg hin, List.map_append, List.map_cons, List.filter_map, List.filter_map]
  have e1 : l.filter ((fun x => decide (x < id)) ∘ fun x : Nat => (x : Int)) = l.filter (fun y => decide (y < id.toNat)) := by
    apply List.filter_congr
    intro x _
    simp only [Function.comp, decide_eq_decide]
    omega
  have e2 : l.filter ((fun x => decide (id ≤ x)) ∘ fun x : Nat => (x : Int)) = l.filter (fun y => decide (id.toNat < y)) := by
    apply List.filter_congr
    intro x hx
    have : x ≠ id.toNat := fun e => hin (e ▸ hx)
    simp only [Function.comp, decide_eq_decide]
    omega
  rw [e1, e2, Int.toNat_of_nonneg (by omega)]
theorem drop_one_filter {L : List Int} (hs : L.Pairwise (· < ·)) {id : Int} {n : Nat} (hd : L.drop n = L.filter fun x => decide (id ≤ x)) (hn : n < L.length) (hx : L[n] = id) : L.drop (n + 1) = L.filter fun x => decide (id < x) := by
  rw [List.drop_eq_getElem_cons hn, hx] at hd
  have hp : (id :: L.drop (n + 1)).Pairwise (· < ·) := by
    rw [hd]; exact hs.filter _
  have h1 := (List.pairwise_cons.1 hp).1
  have h2 : (L.filter fun x => decide (id ≤ x)).filter (fun x => decide (id < x)) = L.filter fun x => decide (id < x) := by
    rw [List.filter_filter]
    apply List.filter_congr
    intro x _
    simp only [Bool.and_eq_decide, decide_eq_true_eq, decide_eq_decide]
    omega
  rw [← h2, ← hd, List.filter_cons]
  rw [if_neg (by simp)]
  rw [List.filter_eq_self.2]
  intro x hx
  simpa using h1 x hx
theorem filter_tog_old {l : List Nat} {id : Int} (h : 1 ≤ id) (hs : l.Pairwise (· < ·)) (hin : id.toNat ∈ l) :
    ((l.map fun x : Nat => (x : Int)).filter fun x => decide (x < id)) ++ ((l.map fun x : Nat => (x : Int)).filter fun x => decide (id < x)) = (tog l id.toNat).map fun x : Nat => (x : Int) := by
  rw [List.filter_map, List.filter_map, ← List.map_append]
  congr 1
  have e1 : l.filter ((fun x => decide (x < id)) ∘ fun x : Nat => (x : Int)) = l.filter (fun y => decide (y < id.toNat)) := by
    apply List.filter_congr
    intro x _
    simp only [Function.comp, decide_eq_decide]
    omega
  have e2 : l.filter ((fun x => decide (id < x)) ∘ fun x : Nat => (x : Int)) = l.filter (fun y => decide (id.toNat < y)) := by
    apply List.filter_congr
    intro x hx
    simp only [Function.comp, decide_eq_decide]
    omega
  rw [e1, e2]
  refine Ib.sorted_eq ?_ (tog_sorted hs _) fun x => ?_
  · rw [List.pairwise_append]
    refine ⟨hs.filter _, hs.filter _, fun y hy z hz => ?_⟩
    have h1 := (List.mem_filter.1 hy).2
    have h2 := (List.mem_filter.1 hz).2
    simp only [decide_eq_true_eq] at h1 h2
    omega
  · rw [mem_tog, List.mem_append, List.mem_filter, List.mem_filter]
    simp only [decide_eq_true_eq]
    constructor
    · rintro (⟨h1, h2⟩ | ⟨h1, h2⟩)
      · exact .inl ⟨h1, by omega⟩
      · exact .inl ⟨h1, by omega⟩
    · rintro (⟨h1, h2⟩ | ⟨_, h2⟩)
      · rcases Nat.lt_or_gt_of_ne h2 with h3 | h3
        · exact .inl ⟨h1, h3⟩
        · exact .inr ⟨h1, h3⟩
      · exact absurd hin h2
/-- the place of an ID, by filters -/
theorem split_at (L : List Int) (id : Int) (hs : L.Pairwise (· < ·)) : L.take (below L id) = (L.filter fun x => decide (x < id)) ∧ L.drop (below L id) = (L.filter fun x => decide (id ≤ x)) ∧ (id ∈ L ↔ ∃ h : below L id < L.length, L[below L id] = id) := by
  have key : ∀ (L : List Int), L.Pairwise (· < ·) → ∃ k, k ≤ L.length ∧ (∀ j (h : j < L.length), j < k → L[j] < id) ∧ (∀ h : k < L.length, id ≤ L[k]) := by
    intro L
    induction L with
    | nil => exact fun _ => ⟨0, by simp, by simp, by simp⟩
    | cons x L ih =>
      intro hs
      by_cases hx : x < id
      · obtain ⟨k, h1, h2, h3⟩ := ih (List.pairwise_cons.1 hs).2
        refine ⟨k + 1, by simpa using h1, fun j h hj => ?_, fun h => by simpa using h3 (by simpa using h)⟩
        cases j with
        | zero => exact hx
        | succ j => simpa using h2 j (by simpa using h) (by omega)
      · exact ⟨0, Nat.zero_le _, fun _ _ h => absurd h (Nat.not_lt_zero _), fun _ => by simpa using hx⟩
  obtain ⟨k, h1, h2, h3⟩ := key L hs
  obtain ⟨e, r⟩ := place L id k hs h1 h2 h3
  rw [← e]
  exact r
theorem OwnI.list {w : World} {base : Nat} {v : Value} {l : List Int} (h : OwnI w base v l) : ListIn (fun k => base ≤ k ∧ k < w.heap.size) w v l := by
  obtain ⟨a, cap, h1, h2, h3, h4, h5, _⟩ := h.slice
  exact ⟨a, cap, h1, h2, h3, h4, h5⟩
theorem refcome_calls (v : Value) (l : List Nat) (most id : Int) (ok : Nat → Prop) (w : World) (hv : ListIn ok w v (l.map fun x : Nat => (x : Int))) (hok : ∀ k, ok k → k < w.heap.size) (hl : l.length ≤ 65536) (hs : l.Pairwise (· < ·)) (h0 : ¬ 0 ∈ l) :
    Calls Tryd.prog 21 #[v, .int .i64 most, .int .i64 id] w fun e w' => RefEnd l (Ib.comes l most id) id ok w e w' := by
  have hb : ∀ m, Below w.heap.size w (World.drewN w m) := fun m => ⟨rfl, rfl, rfl, Nat.le_refl _, fun _ _ => rfl⟩
  by_cases h : 1 ≤ id ∧ id ≤ 65535
  · obtain ⟨a, cap, rfl, h1, h2, h3, h4⟩ := hv
    have hin := in_cast h0 id
    have hll : (l.map fun x : Nat => (x : Int)).length = l.length := List.length_map _
    by_cases hm : id.toNat ∈ l
    · refine (refcome_in a cap _ most id ok w h1 (by omega) (cast_sorted hs) h (hin.2 hm)).mono ?_
      rintro e w' ⟨rfl, m, rfl⟩
      rw [RefEnd, comes_in l most id h hm]
      exact ⟨_, rfl, ⟨a, cap, rfl, (h1.kept (Kept.drewN ok w m)).mono (fun _ h => .inl h), h2, h3, h4⟩, hb m⟩
    · by_cases hf : most ≤ (l.length : Int)
      · refine (refcome_full a cap _ most id ok w h1 (by omega) (cast_sorted hs) h (fun e => hm (hin.1 e)) (by rw [hll]; exact hf)).mono ?_
        rintro e w' ⟨rfl, m, rfl⟩
        rw [RefEnd, comes_full l most id h hm hf]
        exact ⟨_, rfl, ⟨a, cap, rfl, (h1.kept (Kept.drewN ok w m)).mono (fun _ h => .inl h), h2, h3, h4⟩, hb m⟩
      · refine (refcome_new a cap _ most id ok w h1 hok ⟨h2, h3, h4⟩ (by omega) (cast_sorted hs) h (fun e => hm (hin.1 e)) (by rw [hll]; exact hf)).mono ?_
        rintro e w' ⟨v, rfl, ho, hbe⟩
        rw [RefEnd, comes_new l most id h hm hf]
        obtain ⟨s1, s2, _⟩ := split_at _ id (cast_sorted hs)
        rw [List.append_assoc, List.singleton_append, s1, s2, filter_tog_new h.1 hm] at ho
        exact ⟨v, rfl, ho.list.mono (fun _ h => .inr h), hbe⟩
  · refine (refcome_out v most id w h).mono ?_
    rintro e w' ⟨rfl, rfl⟩
    rw [RefEnd, comes_out l most id h]
    exact ⟨_, rfl, hv.mono (fun _ h => .inl h), Below.refl _ _⟩
theorem refgo_calls (v : Value) (l : List Nat) (id : Int) (ok : Nat → Prop) (w : World) (hv : ListIn ok w v (l.map fun x : Nat => (x : Int))) (hok : ∀ k, ok k → k < w.heap.size) (hl : l.length ≤ 65536) (hs : l.Pairwise (· < ·)) (h0 : ¬ 0 ∈ l) :
    Calls Tryd.prog 22 #[v, .int .i64 id] w fun e w' => RefEnd l (Ib.goes l id) id ok w e w' := by
  have hb : ∀ m, Below w.heap.size w (World.drewN w m) := fun m => ⟨rfl, rfl, rfl, Nat.le_refl _, fun _ _ => rfl⟩
  by_cases h : 1 ≤ id ∧ id ≤ 65535
  · obtain ⟨a, cap, rfl, h1, h2, h3, h4⟩ := hv
    have hin := in_cast h0 id
    have hll : (l.map fun x : Nat => (x : Int)).length = l.length := List.length_map _
    obtain ⟨s1, s2, s3⟩ := split_at _ id (cast_sorted hs)
    by_cases hm : id.toNat ∈ l
    · obtain ⟨hlt, hx⟩ := s3.1 (hin.2 hm)
      refine (refgo_was a cap _ id ok w h1 hok ⟨h2, h3, h4⟩ (by omega) (cast_sorted hs) h (hin.2 hm) hlt).mono ?_
      rintro e w' ⟨v, rfl, ho, hbe⟩
      rw [RefEnd, goes_in l id h hm]
      rw [s1, drop_one_filter (cast_sorted hs) s2 hlt hx, filter_tog_old h.1 hs hm] at ho
      exact ⟨v, rfl, ho.list.mono (fun _ h => .inr h), hbe⟩
    · refine (refgo_in a cap _ id ok w h1 (by omega) (cast_sorted hs) h (fun e => hm (hin.1 e))).mono ?_
      rintro e w' ⟨rfl, m, rfl⟩
      have hg : Ib.goes l id = (false, 0) := by
        have : has l id = false := by simpa [has] using hm
        rw [Ib.goes, if_pos h, this]
      rw [RefEnd, hg]
      exact ⟨_, rfl, ⟨a, cap, rfl, (h1.kept (Kept.drewN ok w m)).mono (fun _ h => .inl h), h2, h3, h4⟩, hb m⟩
  · refine (refgo_out v id w h).mono ?_
    rintro e w' ⟨rfl, rfl⟩
    have hg : Ib.goes l id = (false, 2) := by rw [Ib.goes, if_neg h]
    rw [RefEnd, hg]
    exact ⟨_, rfl, hv.mono (fun _ h => .inl h), Below.refl _ _⟩
end Go.Proofs.YtnhcikbglcaboaaDoor
