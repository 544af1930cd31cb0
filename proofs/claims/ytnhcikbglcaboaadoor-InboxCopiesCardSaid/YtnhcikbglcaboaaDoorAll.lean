/-
  All IDs, in a slice: the walks of AppendSeq, Collect and All.
-/
import Derived.Test.YtnhcikbglcaboaaDoorCount
import Derived.Laws.AppendOwnNone
namespace Go.Proofs.YtnhcikbglcaboaaDoor
open Go.RowKit Go.Shelf
attribute [local go_sem] Oper.semAt_some
/-- numbers of a slice, in a block of which 'ok' speaks -/
def IntsIn (ok : Nat → Prop) (w : World) (a : Option Addr) (l : List Int) : Prop :=
  ∀ i (h : i < l.length), ∃ b off, a = some ⟨b, off, none⟩ ∧ ok b ∧ w.cell? ⟨b, off + i, none⟩ = some (.int .i64 l[i])
theorem IntsIn.kept {ok : Nat → Prop} {w w' : World} {a : Option Addr} {l : List Int} (h : IntsIn ok w a l) (hk : Kept ok w w') : IntsIn ok w' a l := by
  intro i hi
  obtain ⟨b, off, e, ho, hc⟩ := h i hi
  exact ⟨b, off, e, ho, by rw [hk.cell (p := ⟨b, off + i, none⟩) ho]; exact hc⟩
theorem IntsIn.mono {ok ok' : Nat → Prop} {w : World} {a : Option Addr} {l : List Int} (h : IntsIn ok w a l) (hm : ∀ k, ok k → ok' k) : IntsIn ok' w a l := by
  intro i hi
  obtain ⟨b, off, e, ho, hc⟩ := h i hi
  exact ⟨b, off, e, hm _ ho, hc⟩
theorem IntsIn.take {ok : Nat → Prop} {w : World} {a : Option Addr} {l : List Int} (h : IntsIn ok w a l) (n : Nat) : IntsIn ok w a (l.take n) := by
  intro i hi
  have hi' : i < l.length := by simp at hi; omega
  obtain ⟨b, off, e, ho, hc⟩ := h i hi'
  exact ⟨b, off, e, ho, by simpa using hc⟩
theorem IntsIn.below {B : Nat} {w w' : World} {a : Option Addr} {l : List Int} (h : IntsIn (fun k => k < B) w a l) (hb : Below B w w') : IntsIn (fun k => k < B) w' a l :=
  h.kept (Kept.of_below hb fun _ h => h)
/-- the slice value v holds the numbers l, in a block of the call's own from 'base' on; or it is nil -/
def OwnI (w : World) (base : Nat) (v : Value) (l : List Int) : Prop := w.ownsRow base 2 1 v l.length (l.map fun x => .int .i64 x)
theorem OwnI.nil (w : World) (base : Nat) : OwnI w base (.slice none 0 0) [] := ⟨rfl, .inl ⟨rfl, rfl⟩⟩
theorem OwnI.kept {w w' : World} {base : Nat} {v : Value} {l : List Int} (h : OwnI w base v l) (hk : ∀ k o, base ≤ k → w.heap[k]? = some o → w'.heap[k]? = some o) : OwnI w' base v l := by
  obtain ⟨h1, h2⟩ := h
  refine ⟨h1, ?_⟩
  rcases h2 with h2 | ⟨g, cap, cur, hv, hg, hh, r⟩
  · exact .inl h2
  · exact .inr ⟨g, cap, cur, hv, hg, hk _ _ hg hh, r⟩
theorem OwnI.keptC {w w' : World} {base : Nat} {v : Value} {l : List Int} (h : OwnI w base v l) (hk : ∀ (k : Nat) (o : Obj), base ≤ k → w.heap[k]? = some o → o.isCells = true → w'.heap[k]? = some o) : OwnI w' base v l := by
  obtain ⟨h1, h2⟩ := h
  refine ⟨h1, ?_⟩
  rcases h2 with h2 | ⟨g, cap, cur, hv, hg, hh, r⟩
  · exact .inl h2
  · exact .inr ⟨g, cap, cur, hv, hg, hk _ _ hg hh rfl, r⟩
theorem OwnI.below {w w' : World} {base : Nat} {v : Value} {l : List Int} (h : OwnI w base v l) (hb : Below w.heap.size w w') : OwnI w' base v l :=
  h.kept fun k o _ ho => by rw [hb.block k (Array.getElem?_eq_some_iff.1 ho).1]; exact ho
theorem OwnI.mono {w : World} {base base' : Nat} {v : Value} {l : List Int} (h : OwnI w base v l) (hb : base' ≤ base) : OwnI w base' v l := by
  obtain ⟨h1, h2⟩ := h
  refine ⟨h1, ?_⟩
  rcases h2 with h2 | ⟨g, cap, cur, hv, hg, r⟩
  · exact .inl h2
  · exact .inr ⟨g, cap, cur, hv, Nat.le_trans hb hg, r⟩
theorem OwnI.slice {w : World} {base : Nat} {v : Value} {l : List Int} (h : OwnI w base v l) : ∃ a cap, v = .slice a l.length cap ∧ IntsIn (fun k => base ≤ k ∧ k < w.heap.size) w a l ∧ l.length ≤ cap ∧ cap ≤ maxLen ∧ (a = none → cap = 0) ∧ (∀ ad, a = some ad → base ≤ ad.block ∧ ad.block < w.heap.size) := by
  obtain ⟨h1, h2⟩ := h
  rcases h2 with ⟨rfl, hl⟩ | ⟨g, cap, cur, rfl, hg, hh, hn, hm, hsz, ht⟩
  · have : l = [] := List.eq_nil_of_length_eq_zero hl
    subst this
    exact ⟨none, 0, rfl, fun i hi => absurd hi (Nat.not_lt_zero _), Nat.le_refl _, Nat.zero_le _, fun _ => rfl, fun _ h => by cases h⟩
  · have hlt := (Array.getElem?_eq_some_iff.1 hh).1
    refine ⟨_, cap, rfl, fun i hi => ⟨g, 0, rfl, ⟨hg, hlt⟩, ?_⟩, hn, hm, fun h => (by cases h), fun _ h => (by cases h; exact ⟨hg, hlt⟩)⟩
    have e : cur[i]? = some (.int .i64 l[i]) := by
      have : (cur.toList.take (l.length * 1))[i]? = (l.map fun x => Value.int .i64 x)[i]? := by rw [ht]
      rw [List.getElem?_take_of_lt (by omega)] at this
      simpa [hi] using this
    rw [Nat.zero_add]
    simp [World.cell?, hh, e]
theorem OwnI.block {w : World} {base : Nat} {v : Value} {l : List Int} (h : OwnI w base v l) {C : Nat} (hC : v.ownBlock = some C) : base ≤ C ∧ C < w.heap.size := by
  rcases h.2 with ⟨rfl, _⟩ | ⟨g, cap, cur, rfl, hg, hh, _⟩
  · cases hC
  · cases hC; exact ⟨hg, (Array.getElem?_eq_some_iff.1 hh).1⟩
theorem grown_belowI {w w' : World} {base : Nat} {v : Value} {l : List Int} (hg : w.grownBy w' v.ownBlock) (hown : OwnI w base v l) (hbase : base ≤ w.heap.size) : Below base w w' :=
  ⟨hg.os, hg.tape, hg.output, hg.size, fun k hk => hg.block k (by omega) (fun e => by have := (hown.block e.symm).1; omega)⟩
theorem wpListIn_appendI {F : Fence} {n : Nat} {ops : Array Oper} {rest : List Oper} {o : Oper} {a : Act} {Q : Exit → Act → World → Prop} {w : World} (hgd : o.guard = none) (s x : Operand)
    (ho : o.op = .call { callee := .builtin .append, args := #[s, x], argTypes := #[28, 28] }) (base : Nat) (v : Value) (l0 : List Int) (hs : a.eval s = v) (hown : OwnI w base v l0)
    (ad : Addr) (y : Int) (c : Nat) (hx : a.eval x = .slice (some ad) 1 c) (hc : w.cell? ad = some (.int .i64 y))
    (hlen : l0.length + 1 ≤ 1099511627776) (hbase : base ≤ w.heap.size)
    (h : ∀ v' w', OwnI w' base v' (l0 ++ [y]) → w.grownBy w' v.ownBlock → wpListIn F n Tryd.prog ops Q rest (a.put o.dst v') w') : wpListIn F n Tryd.prog ops Q (o :: rest) a w := by
  obtain ⟨i0, hi, hz0, hz1, hz2⟩ := info_parts (show (Tryd.prog.info? 2).map (fun i => (i.zero, i.size, i.bytes)) = some (some (.int .i64 0), 1, 8) by kernel_rfl)
  refine wpListIn_append_own w hgd s x 28 ho base 2 i0 (.int .i64 0) 1 8 Tryd.underlying28 hi hz0 hz1 hz2 rfl (by decide) v l0.length _ hs hown ad 1 c [.int .i64 y] hx (by simp) ?_ ?_ (by unfold maxLen; omega) (by omega) hbase ?_
  · intro j u hu
    obtain ⟨hj, rfl⟩ := List.getElem?_eq_some_iff.1 hu
    have hj0 : j = 0 := by simp at hj; omega
    subst hj0
    simpa [Addr.add] using hc
  · intro u hu
    rw [List.mem_singleton.1 hu]; rfl
  · intro v' w' h1 h2 _
    exact h v' w' (by simpa [OwnI] using h1) h2
theorem ownI_own (f : List Nat → List Int) (A B base : Nat) : OwnFrom B (fun (pre : List Nat) W => ∃ v, Blk W A [v] ∧ OwnI W base v (f pre)) := fun s X Y row hs hg hr => by
  obtain ⟨v, ⟨t, h1⟩, h2⟩ := hs
  have hne : ∀ (k : Nat) (o : Obj), X.heap[k]? = some o → o.isCells = true → Y.heap[k]? = some o := fun k o ho hc =>
    (hg.block k (Array.getElem?_eq_some_iff.1 ho).1 (fun e => by
      obtain ⟨_, o', ho', hc'⟩ := hr k e.symm
      rw [ho] at ho'; cases ho'; rw [hc] at hc'; cases hc')).trans ho
  refine ⟨v, ⟨t, hne _ _ h1 rfl⟩, h2.1, ?_⟩
  rcases h2.2 with h2 | ⟨g, cap, cur, hv, hb, hh, r⟩
  · exact .inl h2
  · exact .inr ⟨g, cap, cur, hv, hb, hne _ _ hh rfl, r⟩
theorem keeps_grown {w w' : World} {base : Nat} {v : Value} {l : List Int} (hg : w.grownBy w' v.ownBlock) (hv : OwnI w base v l) : KeepsOthers w w' :=
  ⟨hg.size, fun k o ho hc => (hg.block k (Array.getElem?_eq_some_iff.1 ho).1 (fun e => by
    rcases hv.2 with ⟨rfl, _⟩ | ⟨g, cap, cur, rfl, hb, hh, _⟩
    · cases e
    · cases e; rw [hh] at ho; cases ho; cases hc)).trans ho⟩
theorem box_grown {w w' : World} {C base : Nat} {v u : Value} {l : List Int} (h : Blk w C [u]) (hg : w.grownBy w' v.ownBlock) (hv : OwnI w base v l) (hC : C < base) : Blk w' C [u] := by
  have hlt := h.lt
  obtain ⟨t, h⟩ := h
  exact ⟨t, (hg.block C hlt (fun e => by have := (hv.block e.symm).1; omega)).trans h⟩
set_option maxRecDepth 100000 in
set_option maxHeartbeats 1000000 in
theorem seq_in (m : Nat) (hm : 3 ≤ m) (Bs S : Nat) (ws : List Nat) (w : World) (hT : TabAt w) (hc : w.cell? ⟨Bs, 0, none⟩ = some (.pointer (some ⟨S, 0, none⟩))) (hs : SetAt w S ws) :
    CallsIn Fence.wide m Tryd.prog 30 #[.slice none 0 0, .func (.func 31) #[] #[.pointer (some ⟨Bs, 0, none⟩)]] w fun e w' =>
      ∃ v, e = .returned v ∧ OwnI w' w.heap.size v ((Ib.ids ws).map fun x : Nat => (x : Int)) ∧ Below w.heap.size w w' := by
  have h1 : 1 ≤ m := by omega
  have hlen := ids_length ws
  obtain ⟨F, hF⟩ : ∃ F : Fence, F = Fence.wide := ⟨_, rfl⟩
  have h30 : F.fn 30 := by rw [hF]; trivial
  have h31 : F.fn 31 := by rw [hF]; trivial
  have hro : F.round = none := by rw [hF]; rfl
  have hSS := hs.1.lt
  have hT0 := hT.1
  have hw0 : Below w.heap.size w (w.alloc (.cells #[.slice none 0 0] 28)) := (Below.refl _ w).alloc (Nat.le_refl _) _
  have hst := each_stops (m - 1) (by omega) Bs S ws (w.alloc (.cells #[.slice none 0 0] 28)) w.heap.size (hT.below hw0 hT0) ((hw0.cell (p := ⟨Bs, 0, none⟩) (cell_lt hc)).trans hc) (hs.below hw0 hSS) hSS hT0
  rw [← hF] at hst ⊢
  have HF := hid hF
  have HST := hid hst
  clear hF hst
  refine callsIn_of_wp_marks Tryd.func30 rfl h30 ?_ hro
  simp only [Tryd.ntmps30, List.size_toArray, List.length_cons, List.length_nil, Nat.reduceAdd, Nat.reduceSub, Array.replicate_succ, Array.replicate_zero, List.push_toArray, List.append_toArray, List.nil_append, List.cons_append]
  gi_wp2
  refine wpIn_rangeFunc_ownG hro h1 (gf := 31) (lb := #[.pointer (some ⟨Bs, 0, none⟩)]) rfl h31 (enters_of Tryd.func31 (by kernel_rfl) rfl)
    HST.out (fun h k => h.trans k) (fun W l o o' hl => below_keptK W l o o' (by simp at hl; omega)) (Below.refl _ _) (fun _ => rfl)
    (fun pre W => (∃ v, Blk W w.heap.size [v] ∧ OwnI W (w.heap.size + 1) v (pre.map fun x : Nat => (x : Int))) ∧ (Below w.heap.size w W ∧ w.heap.size + 1 ≤ W.heap.size))
    (fun _ _ _ => False)
    (OwnFrom.and (ownI_own (fun pre => pre.map fun x : Nat => (x : Int)) w.heap.size _ (w.heap.size + 1)) (by have := below_ownFrom w (w.heap.size + 1) w.heap.size (by omega); simpa using this))
    (fun _ _ _ _ _ hs _ _ => hs)
    ⟨⟨_, Blk.new w [.slice none 0 0] 28, OwnI.nil _ _⟩, hw0, by simp⟩
    (fun x => { tmps := #[.slice none 0 0, .func (.func 31) #[] #[.pointer (some ⟨Bs, 0, none⟩)], .pointer (some ⟨w.heap.size, 0, none⟩), undef, .slice none 0 0, .int .i64 (x : Int), .func (.func 31) #[] #[.pointer (some ⟨Bs, 0, none⟩)], .int .i64 (x : Int), undef, undef, undef, undef, undef], defers := [] }) ?assign ?body ?done ?stop
  case assign =>
    intro l x W K hK
    gi_wp2
    simpa using hK
  case body =>
    rintro l pre x W ⟨⟨v, hb1, hv⟩, hk⟩ hlen'
    have c0 := hb1.cell 0
    simp only [List.getElem?_cons_zero] at c0
    have f0 := hb1.frozen 0
    have HLEN := hid hlen
    have HLEN' := hid hlen'
    clear hlen hlen'
    have hb2 : Blk (W.alloc (.cells #[.int .i64 (x : Int)] 2)) w.heap.size [v] := hb1.alloc _
    have hv2 : OwnI (W.alloc (.cells #[.int .i64 (x : Int)] 2)) (w.heap.size + 1) v (pre.map fun x : Nat => (x : Int)) := hv.below ((Below.refl _ W).alloc (Nat.le_refl _) _)
    have hbw : Below w.heap.size W (W.alloc (.cells #[.int .i64 (x : Int)] 2)) := (Below.refl _ W).alloc (by omega) _
    gi_wp2_with (gi_at_builtin; go_loud (refine wpListIn_appendI rfl (.tmp 8) (.tmp 10) rfl (w.heap.size + 1) v (pre.map fun x : Nat => (x : Int)) rfl hv2 ⟨W.heap.size, 0, none⟩ (x : Int) 1 rfl ((Blk.new W [.int .i64 (x : Int)] 2).cell 0) (by have := HLEN.out; have := HLEN'.out; simp; omega) (by have := hk.2; simp; omega) ?_; intro v1 w1 hv1 hg1; have hb3 := box_grown hb2 hg1 hv2 (Nat.lt_succ_self _); have c1 := hb3.cell 0; simp only [List.getElem?_cons_zero] at c1; have f1 := hb3.frozen 0; have hko := keeps_grown hg1 hv2; have hb4 := hbw.trans ((grown_belowI hg1 hv2 (by have := hk.2; simp; omega)).mono (Nat.le_succ _)); clear hg1; obtain ⟨a1, cap1, hve, -⟩ := hv1.slice; subst hve))
    refine ⟨?_, ?_, ⟨.slice a1 (pre.length + 1) cap1, ?_, ?_⟩, ?_, ?_⟩
    · exact (((KeepsOthers.alloc W _).trans hko).trans (KeepsOthers.setCell _ _ _)).from _
    · exact hb4.setCell (p := ⟨w.heap.size, 0, none⟩) (Nat.le_refl _) _
    · exact hb3.set 0 _
    · rw [List.map_append]
      have := hv1.kept (w' := w1.setCell ⟨w.heap.size, 0, none⟩ (.slice a1 (pre.length + 1) cap1)) (fun k o hk' ho => by rw [Below.heap_setCell _ _ _ _ (show k ≠ w.heap.size by omega)]; exact ho)
      simpa using this
    · exact (hk.1.trans hb4).setCell (p := ⟨w.heap.size, 0, none⟩) (Nat.le_refl _) _
    · have := hb4.size; have := hk.2; simp [World.setCell]; omega
  case done =>
    rintro D ys W hD rfl ⟨⟨v, hb1, hv⟩, hk⟩ hK
    have c0 := hb1.cell 0
    simp only [List.getElem?_cons_zero] at c0
    gi_wp2
    refine ⟨by simp, .inl ⟨_, _, rfl, run_takeDeferred hK, ?_⟩⟩
    refine ⟨_, results_tmp rfl _ _ _, v, rfl, ?_, hk.1.trans (below_keptK W D _ _ (by simp at hD; omega) hK rfl rfl)⟩
    refine (hv.mono (Nat.le_succ _)).keptC fun k o hk' ho hc => ?_
    exact ((grownBy_putObj' W D (.deferred none)).block k (Array.getElem?_eq_some_iff.1 ho).1 (fun e => by cases e; rw [hK] at ho; cases ho; cases hc)).trans ho
  case stop =>
    rintro D c pre W _ _ h _
    exact h.elim
theorem collect_calls (Bs S : Nat) (ws : List Nat) (w : World) (hT : TabAt w) (hc : w.cell? ⟨Bs, 0, none⟩ = some (.pointer (some ⟨S, 0, none⟩))) (hs : SetAt w S ws) :
    Calls Tryd.prog 24 #[.func (.func 31) #[] #[.pointer (some ⟨Bs, 0, none⟩)]] w fun e w' => ∃ v, e = .returned v ∧ OwnI w' w.heap.size v ((Ib.ids ws).map fun x : Nat => (x : Int)) ∧ Below w.heap.size w w' := by
  have HC := hid (callsIn_wide.1 (seq_in 3 (by decide) Bs S ws w hT hc hs))
  clear hT hc hs
  go_enter Tryd.func24, Tryd.ntmps24
  go_wp2_with (refine HC.out.mono ?_; rintro e w' ⟨v, rfl, hv, hB⟩; obtain ⟨a1, cap1, hve, -⟩ := hv.slice; subst hve)
  go_ret
  exact ⟨_, rfl, by simpa using hv, hB⟩
theorem all_calls (A S : Nat) (most : Int) (ws : List Nat) (w : World) (h : InAt w A S most ws) (hT : TabAt w) : Calls Tryd.prog 13 #[.pointer (some ⟨A, 0, none⟩)] w fun e w' =>
    ∃ v, e = .returned v ∧ OwnI w' w.heap.size v ((Ib.ids ws).map fun x : Nat => (x : Int)) ∧ Below w.heap.size w w' := by
  go_enter Tryd.func13, Tryd.ntmps13
  have c0 := h.1.cell 0
  simp only [List.getElem?_cons_zero] at c0
  have hb : Below w.heap.size w (w.alloc (.cells #[.pointer (some ⟨S, 0, none⟩)] 48)) := (Below.refl _ w).alloc (Nat.le_refl _) _
  have hc : (w.alloc (.cells #[.pointer (some ⟨S, 0, none⟩)] 48)).cell? ⟨w.heap.size, 0, none⟩ = some (.pointer (some ⟨S, 0, none⟩)) := (Blk.new w [.pointer (some ⟨S, 0, none⟩)] 48).cell 0
  have HC := hid (collect_calls w.heap.size S ws _ (hT.below hb hT.1) hc (h.2.1.below hb h.2.1.1.lt))
  clear hc hT h
  go_wp2_with (first
    | (refine (none_full A S w c0).mono ?_; rintro e w' ⟨rfl, rfl⟩)
    | (refine (each_calls _ w).mono ?_; rintro e w' ⟨rfl, rfl⟩)
    | (refine HC.out.mono ?_; rintro e w' ⟨v, rfl, hv, hB⟩; obtain ⟨a1, cap1, hve, -⟩ := hv.slice; subst hve))
  go_ret
  exact ⟨_, rfl, by simpa using OwnI.mono (base' := w.heap.size) hv (by simp), hb.trans (hB.mono (by simp))⟩
theorem all_nil (w : World) : Calls Tryd.prog 13 #[.pointer none] w fun e w' => e = .returned (.slice none 0 0) ∧ w = w' := by
  go_enter Tryd.func13, Tryd.ntmps13
  go_wp2_with (refine (none_nil w).mono ?_; rintro e w' ⟨rfl, rfl⟩)
  go_ret
  exact ⟨rfl, rfl⟩
end Go.Proofs.YtnhcikbglcaboaaDoor
