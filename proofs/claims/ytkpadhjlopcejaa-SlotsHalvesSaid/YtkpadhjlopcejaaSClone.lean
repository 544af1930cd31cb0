/-
  Parts of slices of cells; copies: the walk of slices.Clone.
-/
import Derived.Test.YtkpadhjlopcejaaSOwn
namespace Go.Proofs.Ytkpadhjlopcejaa
open Go.RowKit
theorem low_part {ok : Nat → Prop} {w : World} {b0 off0 cap n : Nat} {xs : List Cl} (h : CellsIn ok w (some ⟨b0, off0, none⟩) xs) (hn : n ≤ xs.length) (hc : xs.length ≤ cap ∧ cap ≤ maxLen) : PartC ok w (.slice (some ⟨b0, off0, none⟩) n cap) (xs.take n) :=
  ⟨_, _, by rw [List.length_take, Nat.min_eq_left hn], h.take n, by rw [List.length_take]; omega, hc.2, fun e => by cases e⟩
theorem high_part {ok : Nat → Prop} {w : World} {b0 off0 cap n : Nat} {xs : List Cl} (h : CellsIn ok w (some ⟨b0, off0, none⟩) xs) (hn : n ≤ xs.length) (hc : xs.length ≤ cap ∧ cap ≤ maxLen) : PartC ok w (.slice (some ⟨b0, off0 + n * 5, none⟩) (xs.length - n) (cap - n)) (xs.drop n) := by
  refine ⟨_, _, by rw [List.length_drop], ?_, by rw [List.length_drop]; omega, by omega, fun e => by cases e⟩
  have := h.drop n
  rwa [Option.map_some, addr_add] at this
theorem cells_row {ok : Nat → Prop} {w : World} {ad : Addr} {l : List Cl} (h : CellsIn ok w (some ad) l) (j : Nat) (u : Value) (hu : (cellsR l)[j]? = some u) : w.cell? (ad.add j) = some u := by
  have hj : j < l.length * 5 := by
    have := (List.getElem?_eq_some_iff.1 hu).1
    rwa [cellsR_length] at this
  have hi : j / 5 < l.length := by omega
  obtain ⟨b, off, e, -, hc⟩ := h (j / 5) hi
  cases e
  rw [addr_add]
  have h2 := hc (j % 5) (by omega)
  rw [show off + j / 5 * 5 + j % 5 = off + j from by omega] at h2
  rw [h2, ← cellsR_get l (j / 5) (j % 5) hi (by omega), show j / 5 * 5 + j % 5 = j from by omega]
  exact hu
theorem cellsR_one (l : List Cl) (u : Value) (hu : u ∈ cellsR l) : u.oneCell' = true := by
  obtain ⟨y, _, hy⟩ := List.mem_flatMap.1 hu
  simp only [rowC, List.mem_cons, List.not_mem_nil, or_false] at hy
  rcases hy with rfl | rfl | rfl | rfl | rfl <;> rfl
theorem cellsR_append (a b : List Cl) : cellsR (a ++ b) = cellsR a ++ cellsR b := by unfold cellsR; rw [List.flatMap_append]
theorem wpList_appendC {ops : Array Oper} {rest : List Oper} {o : Oper} {a : Act} {Q : Exit → Act → World → Prop} {w : World} (hgd : o.guard = none) (s x : Operand)
    (ho : o.op = .call { callee := .builtin .append, args := #[s, x], argTypes := #[61, 61] }) (base : Nat) (v : Value) (l0 : List Cl) (hs : a.eval s = v) (hown : OwnC w base v l0)
    (ad : Addr) (m c : Nat) (l : List Cl) (hm : l.length = m) (hx : a.eval x = .slice (some ad) m c) (ok : Nat → Prop) (hb : CellsIn ok w (some ad) l)
    (hlen : l0.length + m ≤ 1099511627776) (hbase : base ≤ w.heap.size)
    (h : ∀ v' w', OwnC w' base v' (l0 ++ l) → w.grownBy w' v.ownBlock → (v'.ownBlock = v.ownBlock ∨ v'.ownBlock = some w.heap.size) → wpList Try.prog ops Q rest (a.put o.dst v') w') : wpList Try.prog ops Q (o :: rest) a w := by
  subst hm
  obtain ⟨i0, hi, hz0, hz1, hz2⟩ := info_parts info81
  refine wpList_plain hgd fun K hK => ?_
  obtain ⟨v', w', hr, h2, h3, -, h5⟩ := run_append_own_at (P := Try.prog) w base 61 o.type 81 i0 _ 5 56 Try.underlying61 hi hz0 hz1 hz2 rfl (by decide) v l0.length _ hown ad l.length c (cellsR l) (cellsR_length l) (cells_row hb) (cellsR_one l) (by unfold maxLen; omega) (by omega) hbase
  unfold Oper.wp execOp
  simp only [ho, resolve, invoke, builtin, Sem.run_bind, Sem.run_pure, Result.andThen_ok, List.map_toArray, List.map_cons, List.map_nil, hs, hx, hr]
  refine hK _ _ (h v' w' ?_ h3 h5)
  unfold OwnC
  rw [cellsR_append, List.length_append]
  exact h2
def CloneEnd (xs : List Cl) (w : World) (e : Ending) (w' : World) : Prop := ∃ v, e = .returned v ∧ OwnC w' w.heap.size v xs ∧ Below w.heap.size w w'
set_option maxRecDepth 100000 in
set_option maxHeartbeats 2000000 in
theorem clonec_calls (v : Value) (xs : List Cl) (w : World) (hp : PartC (fun q => q < w.heap.size) w v xs) (hn : xs.length ≤ 1000) : Calls Try.prog 68 #[v] w (CloneEnd xs w) := by
  obtain ⟨a, cap, rfl, hx, hc1, hc2, hc3⟩ := hp
  cases a with
  | none =>
    have h0 := hc3 rfl
    subst h0
    obtain rfl : xs = [] := List.eq_nil_of_length_eq_zero (by omega)
    clear hx hc1 hc2 hc3 hn
    simp only [List.length_nil]
    have hnil : ∀ w : World, (binOp .eql 61 (.slice none 0 0) (.slice none 0 0)).run Try.prog w = .ok (.bool true) w := fun _ => by kernel_rfl
    go_enter Try.func68, Try.ntmps68
    go_wp2_with fail
    go_ret
    exact ⟨_, rfl, OwnC.nil _ _, Below.refl _ _⟩
  | some ad =>
    have hlit : OwnC (w.alloc (.cells #[] 81)) w.heap.size (.slice (some ⟨w.heap.size, 0, none⟩) 0 0) [] := ⟨rfl, .inr ⟨w.heap.size, 0, _, rfl, Nat.le_refl _, heap_alloc_new w _, Nat.le_refl _, by decide, rfl, rfl⟩⟩
    have hba : Below w.heap.size w (w.alloc (.cells #[] 81)) := (Below.refl _ _).alloc (Nat.le_refl _) _
    have HX := hid (hx.kept (Kept.of_below hba fun _ h => h))
    have HL := hid hlit
    have HB := hid hba
    generalize hL : xs.length = L at *
    have HLL := hid hL
    have HN := hid (show ([] : List Cl).length + L ≤ 1099511627776 by simp; omega)
    clear hx hc1 hc2 hc3 hn hlit hba hL
    have hnil : ∀ w : World, (binOp .eql 61 (.slice (some ad) L cap) (.slice none 0 0)).run Try.prog w = .ok (.bool false) w := fun _ => by kernel_rfl
    go_enter Try.func68, Try.ntmps68
    go_wp2_with (at_builtin; refine wpList_appendC rfl (.tmp 5) (.tmp 6) rfl w.heap.size _ [] rfl HL.out ad L cap xs HLL.out rfl _ HX.out HN.out HB.out.size ?_; intro v2 w2 hv hg ho; have HV2 := hid hv; have HB2 := hid (HB.out.trans (grown_belowC hg HL.out HB.out.size)); obtain ⟨a2, n2, c2, rfl⟩ : ∃ a n c, v2 = .slice a n c := (by obtain ⟨a, c, e, _⟩ := hv.part; exact ⟨a, _, c, e⟩); clear hv hg ho)
    go_ret
    exact ⟨_, rfl, HV2.out, HB2.out⟩
end Go.Proofs.Ytkpadhjlopcejaa
