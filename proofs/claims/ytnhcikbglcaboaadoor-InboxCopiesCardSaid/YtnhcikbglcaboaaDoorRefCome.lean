/-
  The document's answers: the walks of Come and Go.
-/
import Derived.Test.YtnhcikbglcaboaaDoorFind
import Derived.Laws.OwnMore
namespace Go.Proofs.YtnhcikbglcaboaaDoor
open Go.RowKit Go.Shelf
attribute [local go_sem] AnyOrder.opK_value AnyOrder.opK_skip AnyOrder.opK_enter
/-- a slice of numbers, in blocks of which 'ok' speaks -/
def ListIn (ok : Nat → Prop) (w : World) (v : Value) (l : List Int) : Prop := ∃ a cap, v = .slice a l.length cap ∧ IntsIn ok w a l ∧ l.length ≤ cap ∧ cap ≤ maxLen ∧ (a = none → cap = 0)
theorem ListIn.kept {ok : Nat → Prop} {w w' : World} {v : Value} {l : List Int} (h : ListIn ok w v l) (hk : Kept ok w w') : ListIn ok w' v l := by
  obtain ⟨a, cap, h1, h2, h3⟩ := h
  exact ⟨a, cap, h1, h2.kept hk, h3⟩
theorem ListIn.mono {ok ok' : Nat → Prop} {w : World} {v : Value} {l : List Int} (h : ListIn ok w v l) (hm : ∀ k, ok k → ok' k) : ListIn ok' w v l := by
  obtain ⟨a, cap, h1, h2, h3⟩ := h
  exact ⟨a, cap, h1, h2.mono hm, h3⟩
theorem ListIn.nil (ok : Nat → Prop) (w : World) : ListIn ok w (.slice none 0 0) [] := ⟨none, 0, rfl, fun _ h => absurd h (Nat.not_lt_zero _), Nat.le_refl _, Nat.zero_le _, fun _ => rfl⟩
theorem opK_appendI {o : Oper} {ρ : Operand → Value} {w : World} {K : Value → World → Prop} (s x : Operand) (ho : o.op = .call { callee := .builtin .append, args := #[s, x], argTypes := #[28, 28] })
    (base : Nat) (v : Value) (l0 : List Int) (hs : ρ s = v) (hown : OwnI w base v l0) (src : Option Addr) (m c : Nat) (l : List Int) (hm : l.length = m) (hx : ρ x = .slice src m c) (hsrc : src = none → c = 0)
    (ok : Nat → Prop) (hb : IntsIn ok w src l) (hlen : l0.length + m ≤ 1099511627776) (hbase : base ≤ w.heap.size)
    (h : ∀ v' w', OwnI w' base v' (l0 ++ l) → w.grownBy w' v.ownBlock → K v' w') : AnyOrder.opK Tryd.prog K ((execOp ρ o).run Tryd.prog w) := by
  obtain ⟨i0, hi, hz0, hz1, hz2⟩ := info_parts (show (Tryd.prog.info? 2).map (fun i => (i.zero, i.size, i.bytes)) = some (some (.int .i64 0), 1, 8) by kernel_rfl)
  subst hm
  cases src with
  | none =>
    have hl : l = [] := by
      cases l with
      | nil => rfl
      | cons y l =>
        obtain ⟨b, off, e, _⟩ := hb 0 (by simp)
        cases e
    subst hl
    have hc := hsrc rfl
    subst hc
    have hr := run_append_owned_none (P := Tryd.prog) (w := w) base 28 o.type 2 i0 1 Tryd.underlying28 hi v l0.length _ hown
    unfold execOp
    have hx' : ρ x = .slice none 0 0 := hx
    simp only [ho, resolve, invoke, builtin, Sem.run_bind, Sem.run_pure, Result.andThen_ok, List.map_toArray, List.map_cons, List.map_nil, hs, hx', hr]
    exact h v w (by simpa using hown) ⟨rfl, rfl, rfl, Nat.le_refl _, fun _ _ _ => rfl⟩
  | some ad =>
    obtain ⟨v', w', hr, h2, h3, -⟩ := run_append_own (P := Tryd.prog) w base 28 o.type 2 i0 (.int .i64 0) 1 8 Tryd.underlying28 hi hz0 hz1 hz2 rfl (by decide) v l0.length _ hown ad l.length c (l.map fun x => .int .i64 x) (by simp)
      (fun j u hu => by
        have hj : j < l.length := by
          have := (List.getElem?_eq_some_iff.1 hu).1
          simpa using this
        obtain ⟨b, off, e, _, hc⟩ := hb j hj
        cases e
        rw [addr_add, hc, ← hu]
        simp [hj])
      (fun u hu => by
        obtain ⟨y, _, rfl⟩ := List.mem_map.1 hu
        rfl) (by unfold maxLen; omega) (by omega) hbase
    unfold execOp
    simp only [ho, resolve, invoke, builtin, Sem.run_bind, Sem.run_pure, Result.andThen_ok, List.map_toArray, List.map_cons, List.map_nil, hs, hx, hr]
    exact h v' w' (by simpa [OwnI] using h2) h3
/-- what Come tells -/
def RefEnd (l : List Nat) (a : Bool × Int) (id : Int) (ok : Nat → Prop) (w : World) (e : Ending) (w' : World) : Prop :=
  ∃ v, e = .returned (.tuple #[v, .bool a.1, .int .i64 a.2]) ∧ ListIn (fun k => ok k ∨ (w.heap.size ≤ k ∧ k < w'.heap.size)) w' v ((after l a.1 id).map fun x : Nat => (x : Int)) ∧ Below w.heap.size w w'
theorem in_cast {l : List Nat} (h0 : ¬ 0 ∈ l) (id : Int) : (id ∈ l.map fun x : Nat => (x : Int)) ↔ id.toNat ∈ l := by
  rw [List.mem_map]
  constructor
  · rintro ⟨x, hx, rfl⟩
    simpa using hx
  · intro h
    refine ⟨id.toNat, h, ?_⟩
    have : id.toNat ≠ 0 := fun e => h0 (e ▸ h)
    omega
theorem cast_sorted {l : List Nat} (h : l.Pairwise (· < ·)) : (l.map fun x : Nat => (x : Int)).Pairwise (· < ·) := by
  rw [List.pairwise_map]
  exact h.imp fun h => by omega
theorem below_le (L : List Int) (id : Int) : below L id ≤ L.length := List.length_filter_le _ _
theorem refcome_out (v : Value) (most id : Int) (w : World) (h : ¬ (1 ≤ id ∧ id ≤ 65535)) : Calls Tryd.prog 21 #[v, .int .i64 most, .int .i64 id] w fun e w' =>
    e = .returned (.tuple #[v, .bool false, .int .i64 2]) ∧ w = w' := by
  go_enter Tryd.func21, Tryd.ntmps21
  by_cases h1 : id < 1
  · go_wp2
    go_ret3
    exact ⟨rfl, rfl⟩
  · have h2 : id > 65535 := by omega
    go_wp2
    go_ret3
    exact ⟨rfl, rfl⟩
theorem refcome_in (a : Option Addr) (cap : Nat) (L : List Int) (most id : Int) (ok : Nat → Prop) (w : World) (h1 : IntsIn ok w a L) (hl : L.length ≤ 65536) (hs : L.Pairwise (· < ·)) (h : 1 ≤ id ∧ id ≤ 65535) (hin : id ∈ L) :
    Calls Tryd.prog 21 #[.slice a L.length cap, .int .i64 most, .int .i64 id] w fun e w' => e = .returned (.tuple #[.slice a L.length cap, .bool false, .int .i64 0]) ∧ ∃ m, w' = World.drewN w m := by
  have hf := find_calls a cap L id ok w h1 (by omega) hs
  rw [decide_eq_true hin] at hf
  have HF := hid hf
  obtain ⟨g1, g2⟩ := h
  generalize L.length = N at HF
  clear hf h1 hs hin hl
  go_enter Tryd.func21, Tryd.ntmps21
  go_wp2_with fail
  refine HF.out.mono ?_
  rintro e w' ⟨rfl, m, rfl⟩
  go_wp2_with fail
  go_ret3
  exact ⟨rfl, _, rfl⟩
theorem refcome_full (a : Option Addr) (cap : Nat) (L : List Int) (most id : Int) (ok : Nat → Prop) (w : World) (h1 : IntsIn ok w a L) (hl : L.length ≤ 65536) (hs : L.Pairwise (· < ·)) (h : 1 ≤ id ∧ id ≤ 65535) (hin : ¬ id ∈ L) (hfull : most ≤ (L.length : Int)) :
    Calls Tryd.prog 21 #[.slice a L.length cap, .int .i64 most, .int .i64 id] w fun e w' => e = .returned (.tuple #[.slice a L.length cap, .bool false, .int .i64 310]) ∧ ∃ m, w' = World.drewN w m := by
  have hf := find_calls a cap L id ok w h1 (by omega) hs
  rw [decide_eq_false hin] at hf
  have HF := hid hf
  obtain ⟨g1, g2⟩ := h
  generalize L.length = N at HF hfull
  clear hf h1 hs hin hl
  go_enter Tryd.func21, Tryd.ntmps21
  go_wp2_with fail
  refine HF.out.mono ?_
  rintro e w' ⟨rfl, m, rfl⟩
  go_wp2_with fail
  go_ret3
  exact ⟨rfl, _, rfl⟩
theorem IntsIn.drop {ok : Nat → Prop} {w : World} {a : Option Addr} {l : List Int} (h : IntsIn ok w a l) (n : Nat) : IntsIn ok w (a.map (·.add (n * 1))) (l.drop n) := by
  intro i hi
  have hi' : n + i < l.length := by simp at hi; omega
  obtain ⟨b, off, rfl, ho, hc⟩ := h (n + i) hi'
  refine ⟨b, off + n, by rw [Option.map_some, addr_add, Nat.mul_one], ho, ?_⟩
  rw [show off + n + i = off + (n + i) from by omega, hc]
  simp
/-- a part of a slice -/
def PartIn (ok : Nat → Prop) (w : World) (v : Value) (l : List Int) : Prop := ∃ a cap, v = .slice a l.length cap ∧ IntsIn ok w a l ∧ (a = none → cap = 0)
theorem PartIn.kept {ok : Nat → Prop} {w w' : World} {v : Value} {l : List Int} (h : PartIn ok w v l) (hk : Kept ok w w') : PartIn ok w' v l := by
  obtain ⟨a, cap, h1, h2, h3⟩ := h
  exact ⟨a, cap, h1, h2.kept hk, h3⟩
theorem part_low {ok : Nat → Prop} {w : World} {a : Option Addr} {cap : Nat} {l : List Int} (h : IntsIn ok w a l) (ha : a = none → cap = 0) (n : Nat) (hn : n ≤ l.length) : PartIn ok w (sliced a 0 n cap 1) (l.take n) := by
  refine ⟨if cap = 0 then a else a.map (·.add (0 * 1)), cap - 0, by unfold sliced; simp [Nat.min_eq_left hn], ?_, fun e => ?_⟩
  · by_cases hc : cap = 0
    · rw [if_pos hc]; exact h.take n
    · rw [if_neg hc]; have := h.drop 0; rw [List.drop_zero] at this; exact this.take n
  · by_cases hc : cap = 0
    · rw [hc]
    · rw [if_neg hc] at e
      rw [ha (by simpa using e)]
theorem part_high {ok : Nat → Prop} {w : World} {a : Option Addr} {cap : Nat} {l : List Int} (h : IntsIn ok w a l) (ha : a = none → cap = 0) (hc : l.length ≤ cap) (n : Nat) (hn : n ≤ l.length) : PartIn ok w (sliced a n l.length cap 1) (l.drop n) := by
  refine ⟨if cap = n then a else a.map (·.add (n * 1)), cap - n, by unfold sliced; simp, ?_, fun e => ?_⟩
  · by_cases hcn : cap = n
    · rw [if_pos hcn, show l.drop n = [] from List.drop_eq_nil_of_le (by omega)]
      exact fun i hi => absurd hi (Nat.not_lt_zero _)
    · rw [if_neg hcn]; exact h.drop n
  · by_cases hcn : cap = n
    · omega
    · rw [if_neg hcn] at e
      rw [ha (by simpa using e)]; simp
set_option maxRecDepth 100000 in
set_option maxHeartbeats 2000000 in
theorem refcome_new (a : Option Addr) (cap : Nat) (L : List Int) (most id : Int) (ok : Nat → Prop) (w : World) (h1 : IntsIn ok w a L) (hok : ∀ k, ok k → k < w.heap.size) (hc : L.length ≤ cap ∧ cap ≤ maxLen ∧ (a = none → cap = 0)) (hl : L.length ≤ 65536) (hs : L.Pairwise (· < ·)) (h : 1 ≤ id ∧ id ≤ 65535) (hin : ¬ id ∈ L) (hfull : ¬ most ≤ (L.length : Int)) :
    Calls Tryd.prog 21 #[.slice a L.length cap, .int .i64 most, .int .i64 id] w fun e w' => ∃ v, e = .returned (.tuple #[v, .bool true, .int .i64 0]) ∧ OwnI w' w.heap.size v (L.take (below L id) ++ [id] ++ L.drop (below L id)) ∧ Below w.heap.size w w' := by
  have hf := find_calls a cap L id ok w h1 (by omega) hs
  rw [decide_eq_false hin] at hf
  have HF := hid hf
  obtain ⟨g1, g2⟩ := h
  have hbl := below_le L id
  have hl1 := h1.take (below L id)
  have phigh := part_high h1 hc.2.2 hc.1 (below L id) hbl
  generalize hn : below L id = n at *
  have hlt : (L.take n).length = n := by simp; omega
  have hld : (L.drop n).length = L.length - n := by simp
  generalize L.take n = L1 at *
  generalize L.drop n = L2 at *
  generalize L.length = N at *
  have HC := hid hc
  have c1 : (n : Int) ≤ (N : Int) := by omega
  have c2 : (n : Int) ≤ (cap : Int) := by have := hc.1; omega
  have c3 : (0 : Int) ≤ (n : Int) := by omega
  have HL1 := hid hl1
  have PH := hid phigh
  have HLT := hid hlt
  have HLD := hid hld
  have HOK := hid hok
  clear hf h1 hs hin hc hn hl1 phigh hlt hld hok
  go_enter Tryd.func21, Tryd.ntmps21
  go_wp2_with fail
  refine HF.out.mono ?_
  rintro e w' ⟨rfl, m, rfl⟩
  go_wp2_with fail
  have hst : ∀ p ∈ ([
    fun v _ => v = .slice a N cap,
    fun v _ => v = .int .i64 (n : Int),
    fun v _ => v = .slice a n cap,
    fun v w' => OwnI w' w.heap.size v L1,
    fun v _ => v = .int .i64 id,
    fun v w' => ∃ b, v = .slice (some ⟨b, 0, none⟩) 1 1 ∧ Blk w' b [.int .i64 id],
    fun v w' => OwnI w' w.heap.size v (L1 ++ [id]),
    fun v _ => v = .slice a N cap,
    fun v _ => v = .int .i64 (n : Int),
    fun v _ => v = sliced a n N cap 1,
    fun v w' => OwnI w' w.heap.size v (L1 ++ [id] ++ L2),
    fun v w' => OwnI w' w.heap.size v (L1 ++ [id] ++ L2),
    fun v _ => v = .bool true,
    fun v _ => v = .int .i64 0] : List (Value → World → Prop)), AnyOrder.Stays p := by
    intro p hp
    simp only [List.mem_cons, List.not_mem_nil, or_false] at hp
    rcases hp with rfl | rfl | rfl | rfl | rfl | rfl | rfl | rfl | rfl | rfl | rfl | rfl | rfl | rfl
    all_goals first
      | exact AnyOrder.stays_const _
      | exact fun _ _ _ hg h => OwnI.below h hg
      | exact fun _ _ _ hg ⟨b, h1, h2⟩ => ⟨b, h1, h2.below hg h2.lt⟩
  have HST := hid hst
  clear hst
  refine AnyOrder.wp_region_chain (fun k => if k = 6 then [3, 5] else if k = 10 then [6] else []) [
    fun v _ => v = .slice a N cap,
    fun v _ => v = .int .i64 (n : Int),
    fun v _ => v = .slice a n cap,
    fun v w' => OwnI w' w.heap.size v L1,
    fun v _ => v = .int .i64 id,
    fun v w' => ∃ b, v = .slice (some ⟨b, 0, none⟩) 1 1 ∧ Blk w' b [.int .i64 id],
    fun v w' => OwnI w' w.heap.size v (L1 ++ [id]),
    fun v _ => v = .slice a N cap,
    fun v _ => v = .int .i64 (n : Int),
    fun v _ => v = sliced a n N cap 1,
    fun v w' => OwnI w' w.heap.size v (L1 ++ [id] ++ L2),
    fun v w' => OwnI w' w.heap.size v (L1 ++ [id] ++ L2),
    fun v _ => v = .bool true,
    fun v _ => v = .int .i64 0] (by kernel_rfl) (by kernel_rfl) ?_ ?_
  · simp only [AnyOrder.ESteps, Nat.zero_add, Nat.reduceAdd]
    refine ⟨?_, ?_, ?_, ?_, ?_, ?_, ?_, ?_, ?_, ?_, ?_, ?_, ?_, ?_, trivial⟩
    · refine AnyOrder.estep rfl fun ρ w' hk K HK => ?_
      have k1 := hk.old 0 (by kernel_rfl)
      clear hk
      simp at k1
      go_simp
      exact HK.out _ _ (AnyOrder.ekept_same rfl)
    · refine AnyOrder.estep rfl fun ρ w' hk K HK => ?_
      have k1 := hk.old 9 (by kernel_rfl)
      clear hk
      simp at k1
      go_simp
      exact HK.out _ _ (AnyOrder.ekept_same rfl)
    · refine AnyOrder.estep rfl fun ρ w' hk K HK => ?_
      have k1 : ρ (.tmp 31) = .slice a N cap := hk.at 0 (by kernel_rfl)
      have k2 : ρ (.tmp 32) = .int .i64 (n : Int) := hk.at 1 (by kernel_rfl)
      clear hk
      go_simp
      exact HK.out _ _ (AnyOrder.ekept_same rfl)
    · refine AnyOrder.estep rfl fun ρ w' hk K HK => ?_
      have k1 : ρ (.tmp 33) = .slice a n cap := hk.at 2 (by kernel_rfl)
      have k2 := hk.const (.slice none 0 0)
      have kw : Below w.heap.size w w' := ⟨hk.world.os, hk.world.tape, hk.world.output, hk.world.size, hk.world.block⟩
      clear hk
      have kk : Kept ok w w' := Kept.of_below kw HOK.out
      refine opK_appendI (.const (.slice none 0 0)) (.tmp 33) rfl w.heap.size _ [] k2 (OwnI.nil _ _) a n cap L1 HLT.out k1 HC.out.2.2 ok (HL1.out.kept kk) (by simp; omega) kw.size ?_
      intro v' w2 hv hg
      have hgr : AnyOrder.Grows w' w2 := ⟨hg.os, hg.tape, hg.output, hg.size, fun k hk => hg.block k hk (by simp [Value.ownBlock])⟩
      exact HK.out _ _ (AnyOrder.ekept_grows HST.out kw.size hgr (by rw [List.nil_append] at hv; exact hv))
    · refine AnyOrder.estep rfl fun ρ w' hk K HK => ?_
      have k1 := hk.old 2 (by kernel_rfl)
      clear hk
      simp at k1
      go_simp
      exact HK.out _ _ (AnyOrder.ekept_same rfl)
    · refine AnyOrder.estep rfl fun ρ w' hk K HK => ?_
      have k1 : ρ (.tmp 35) = .int .i64 id := hk.at 4 (by kernel_rfl)
      have kw : Below w.heap.size w w' := ⟨hk.world.os, hk.world.tape, hk.world.output, hk.world.size, hk.world.block⟩
      clear hk
      have KW := hid kw
      clear kw
      go_simp
      exact HK.out _ _ (AnyOrder.ekept_grows HST.out KW.out.size (AnyOrder.Grows.alloc _ _) ⟨_, rfl, Blk.new w' [.int .i64 id] _⟩)
    · refine AnyOrder.estep rfl fun ρ w' hk K HK => ?_
      have k1 : OwnI w' w.heap.size (ρ (.tmp 34)) L1 := hk.at 3 (by kernel_rfl)
      have k2 : ∃ b, ρ (.tmp 36) = .slice (some ⟨b, 0, none⟩) 1 1 ∧ Blk w' b [.int .i64 id] := hk.at 5 (by kernel_rfl)
      have kw : Below w.heap.size w w' := ⟨hk.world.os, hk.world.tape, hk.world.output, hk.world.size, hk.world.block⟩
      clear hk
      obtain ⟨b, k2, k3⟩ := k2
      have hbi : IntsIn (fun _ => True) w' (some ⟨b, 0, none⟩) [id] := fun i hi => by
        have : i = 0 := by simpa using hi
        subst this
        exact ⟨b, 0, rfl, trivial, k3.cell 0⟩
      refine opK_appendI (.tmp 34) (.tmp 36) rfl w.heap.size _ L1 rfl k1 (some ⟨b, 0, none⟩) 1 1 [id] rfl k2 (fun h => by cases h) (fun _ => True) hbi (by have := HLT.out; omega) kw.size ?_
      intro v' w2 hv hg
      refine HK.out _ _ ⟨grown_belowI hg k1 kw.size, hv, fun j hj u hu => ?_⟩
      have := AnyOrder.beside_list (js := [0, 1, 2, 4, 7, 8, 9]) (by kernel_rfl) j hj
      simp only [List.mem_cons, List.not_mem_nil, or_false] at this
      rcases this with rfl | rfl | rfl | rfl | rfl | rfl | rfl
      all_goals exact hu
    · refine AnyOrder.estep rfl fun ρ w' hk K HK => ?_
      have k1 := hk.old 0 (by kernel_rfl)
      clear hk
      simp at k1
      go_simp
      exact HK.out _ _ (AnyOrder.ekept_same rfl)
    · refine AnyOrder.estep rfl fun ρ w' hk K HK => ?_
      have k1 := hk.old 9 (by kernel_rfl)
      clear hk
      simp at k1
      go_simp
      exact HK.out _ _ (AnyOrder.ekept_same rfl)
    · refine AnyOrder.estep rfl fun ρ w' hk K HK => ?_
      have k1 : ρ (.tmp 38) = .slice a N cap := hk.at 7 (by kernel_rfl)
      have k2 : ρ (.tmp 39) = .int .i64 (n : Int) := hk.at 8 (by kernel_rfl)
      clear hk
      go_simp
      exact HK.out _ _ (AnyOrder.ekept_same (by show _ = _; simp [sliced]))
    · refine AnyOrder.estep rfl fun ρ w' hk K HK => ?_
      have k1 : OwnI w' w.heap.size (ρ (.tmp 37)) (L1 ++ [id]) := hk.at 6 (by kernel_rfl)
      have k2 : ρ (.tmp 40) = sliced a n N cap 1 := hk.at 9 (by kernel_rfl)
      have kw : Below w.heap.size w w' := ⟨hk.world.os, hk.world.tape, hk.world.output, hk.world.size, hk.world.block⟩
      clear hk
      have kk : Kept ok w w' := Kept.of_below kw HOK.out
      obtain ⟨a2, c2, e2, h2, h3⟩ := PH.out
      rw [e2] at k2
      refine opK_appendI (.tmp 37) (.tmp 40) rfl w.heap.size _ (L1 ++ [id]) rfl k1 a2 _ c2 L2 rfl k2 h3 ok (h2.kept kk) (by have := HLT.out; have := HLD.out; simp; omega) kw.size ?_
      intro v' w2 hv hg
      refine HK.out _ _ ⟨grown_belowI hg k1 kw.size, hv, fun j hj u hu => ?_⟩
      have := AnyOrder.beside_list (js := [0, 1, 2, 4, 7, 8, 9]) (by kernel_rfl) j hj
      simp only [List.mem_cons, List.not_mem_nil, or_false] at this
      rcases this with rfl | rfl | rfl | rfl | rfl | rfl | rfl
      all_goals exact hu
    · refine AnyOrder.estep rfl fun ρ w' hk K HK => ?_
      have k1 : OwnI w' w.heap.size (ρ (.tmp 41)) (L1 ++ [id] ++ L2) := hk.at 10 (by kernel_rfl)
      clear hk
      have K1 := hid k1
      clear k1
      go_simp
      exact HK.out _ _ (AnyOrder.ekept_same K1.out)
    · refine AnyOrder.estep rfl fun ρ w' hk K HK => ?_
      have k1 := hk.const (.bool true)
      clear hk
      go_simp
      exact HK.out _ _ (AnyOrder.ekept_same rfl)
    · refine AnyOrder.estep rfl fun ρ w' hk K HK => ?_
      have k1 := hk.const (.int .i64 0)
      clear hk
      go_simp
      exact HK.out _ _ (AnyOrder.ekept_same rfl)
  · intro vs w3 hg hvs
    have hB3 : Below w.heap.size w w3 := ⟨hg.os, hg.tape, hg.output, hg.size, hg.block⟩
    have v11 : OwnI w3 w.heap.size (vs 11) (L1 ++ [id] ++ L2) := hvs 11 (by simp) (by kernel_rfl)
    have v12 : vs 12 = .bool true := hvs 12 (by simp) (by kernel_rfl)
    have v13 : vs 13 = .int .i64 0 := hvs 13 (by simp) (by kernel_rfl)
    clear hvs
    simp only [AnyOrder.fill, Nat.zero_add, Nat.reduceAdd, List.setIfInBounds_toArray, List.set_cons_zero, List.set_cons_succ]
    rw [v12, v13]
    generalize vs 11 = v at v11
    have V11 := hid v11
    have HB3 := hid hB3
    clear v11 v12 v13 hg hB3
    go_wp2_with fail
    go_ret3
    have V := V11.out
    rw [List.append_assoc, List.singleton_append] at V
    exact ⟨v, rfl, V, HB3.out⟩
end Go.Proofs.YtnhcikbglcaboaaDoor
