/-
  An inbox in memory, and the small functions: their walks.
-/
import Derived.BigQuiet
import Derived.Test.YtnhcikbglcaboaaDoorEach
namespace Go.Proofs.YtnhcikbglcaboaaDoor
open Go.RowKit Go.Shelf
theorem sorted_length {l : List Nat} : ∀ (a n : Nat), l.Pairwise (· < ·) → (∀ x ∈ l, a ≤ x ∧ x < n) → l.length ≤ n - a := by
  induction l with
  | nil => intro a n _ _; simp
  | cons x l ih =>
    intro a n hp h
    obtain ⟨h1, h2⟩ := List.pairwise_cons.1 hp
    have hx := h x (by simp)
    have := ih (x + 1) n h2 (fun y hy => ⟨h1 y hy, (h y (by simp [hy])).2⟩)
    simp only [List.length_cons]
    omega
theorem ids_length (ws : List Nat) : (Ib.ids ws).length ≤ 65536 := by
  have := sorted_length 0 65536 (Ib.ids_sorted ws) (fun x hx => ⟨Nat.zero_le _, (Ib.mem_ids.1 hx).1⟩)
  omega
theorem grown_drewN (W : World) (m : Nat) : W.grownBy (World.drewN W m) none := ⟨rfl, rfl, rfl, Nat.le_refl _, fun _ _ _ => rfl⟩
/-- an inbox at A, its set at S -/
def InAt (w : World) (A S : Nat) (most : Int) (ws : List Nat) : Prop := Blk w A [.pointer (some ⟨S, 0, none⟩), .int .i64 most] ∧ SetAt w S ws ∧ A ≠ S
theorem SetAt.drewN {w : World} {S m : Nat} {ws : List Nat} (h : SetAt w S ws) : SetAt (w.drewN m) S ws := h
theorem InAt.drewN {w : World} {A S m : Nat} {most : Int} {ws : List Nat} (h : InAt w A S most ws) : InAt (w.drewN m) A S most ws := h
theorem InAt.below {w w' : World} {A S B : Nat} {most : Int} {ws : List Nat} (h : InAt w A S most ws) (hb : Below B w w') (hA : A < B) (hS : S < B) : InAt w' A S most ws :=
  ⟨h.1.below hb hA, h.2.1.below hb hS, h.2.2⟩
theorem InAt.kept {ok : Nat → Prop} {w w' : World} {A S : Nat} {most : Int} {ws : List Nat} (h : InAt w A S most ws) (hk : Kept ok w w') (hA : ok A) (hS : ok S) : InAt w' A S most ws :=
  ⟨h.1.kept hk hA, ⟨h.2.1.1.kept hk hS, h.2.1.2⟩, h.2.2⟩
def Zs : List Value := List.replicate 1024 (.int .u64 0)
def ws0 : List Nat := List.replicate 1024 0
theorem ws0_length : ws0.length = 1024 := List.length_replicate
theorem ws0_all : ∀ x ∈ ws0, x = 0 := fun _ hx => List.eq_of_mem_replicate hx
theorem Zs_eq : Zs = ws0.map fun x : Nat => Value.int .u64 (x : Int) := by
  unfold Zs ws0
  rw [List.map_replicate]; rfl
theorem ids_ws0 : Ib.ids ws0 = [] := by
  refine List.eq_nil_iff_forall_not_mem.2 fun x hx => ?_
  have h := (Ib.mem_ids.1 hx).2
  have : ws0.getD (x / 64) 0 = 0 := by
    rw [List.getD_eq_getElem?_getD]
    cases e : ws0[x / 64]? with
    | none => rfl
    | some v => exact ws0_all v (List.mem_of_getElem? e)
  rw [this] at h
  simp at h
theorem z53a : Tryd.t53.zero = some (.agg (Array.mk Zs)) := by kernel_rfl
theorem z53 (w : World) : (zeroValue 53).run Tryd.prog w = .ok (.agg (Array.mk Zs)) w := by
  have hi : Tryd.prog.info? 53 = some Tryd.t53 := Tryd.type53
  simp [zeroValue, typeInfo, hi, z53a]
theorem new_bad (most : Int) (w : World) (h : ¬ (1 ≤ most ∧ most ≤ 1000)) : Calls Tryd.prog 10 #[.int .i64 most] w fun e w' => e = .returned (.tuple #[.pointer none, .int .i64 2]) ∧ w = w' := by
  go_enter Tryd.func10, Tryd.ntmps10
  by_cases h1 : most < 1
  · go_wp2
    go_ret2
    exact ⟨rfl, rfl⟩
  · have h2 : most > 1000 := by omega
    go_wp2
    go_ret2
    exact ⟨rfl, rfl⟩
theorem new_good (most : Int) (w : World) (h : 1 ≤ most ∧ most ≤ 1000) : Calls Tryd.prog 10 #[.int .i64 most] w fun e w' =>
    e = .returned (.tuple #[.pointer (some ⟨w.heap.size + 1, 0, none⟩), .int .i64 0]) ∧ InAt w' (w.heap.size + 1) w.heap.size most ws0 ∧ Below w.heap.size w w' ∧ w'.heap.size = w.heap.size + 2 := by
  go_enter Tryd.func10, Tryd.ntmps10
  have h1 : ¬ most < 1 := by omega
  have h2 : ¬ most > 1000 := by omega
  go_wp2
  simp only [z53]
  go_wp2
  go_ret2
  refine ⟨rfl, ⟨?_, ⟨?_, ws0_length, fun x hx => by rw [ws0_all x hx]; decide⟩, by omega⟩, ((Below.refl _ w).alloc (Nat.le_refl _) _).alloc (by simp) _, by simp⟩
  · exact Blk.new' _ _ _ (by simp)
  · rw [← Zs_eq]
    exact (Blk.new w Zs _).alloc _
theorem none_nil (w : World) : Calls Tryd.prog 23 #[.pointer none] w fun e w' => e = .returned (.bool true) ∧ w = w' := by
  go_enter Tryd.func23, Tryd.ntmps23
  go_wp2
  go_ret
  exact ⟨rfl, rfl⟩
theorem none_hollow (A : Nat) (w : World) (hc : w.cell? ⟨A, 0, none⟩ = some (.pointer none)) : Calls Tryd.prog 23 #[.pointer (some ⟨A, 0, none⟩)] w fun e w' => e = .returned (.bool true) ∧ w = w' := by
  go_enter Tryd.func23, Tryd.ntmps23
  go_wp2
  go_ret
  exact ⟨rfl, rfl⟩
theorem none_full (A S : Nat) (w : World) (hc : w.cell? ⟨A, 0, none⟩ = some (.pointer (some ⟨S, 0, none⟩))) : Calls Tryd.prog 23 #[.pointer (some ⟨A, 0, none⟩)] w fun e w' => e = .returned (.bool false) ∧ w = w' := by
  go_enter Tryd.func23, Tryd.ntmps23
  go_wp2
  go_ret
  exact ⟨rfl, rfl⟩
theorem may_calls (id : Int) (w : World) : Calls Tryd.prog 27 #[.int .i64 id] w fun e w' => e = .returned (.bool (decide (1 ≤ id ∧ id ≤ 65535))) ∧ w = w' := by
  go_enter Tryd.func27, Tryd.ntmps27
  by_cases h1 : 1 ≤ id
  · have h1' : id ≥ 1 := h1
    go_wp2
    go_ret
    exact ⟨by simp [h1], rfl⟩
  · have h1' : ¬ id ≥ 1 := h1
    go_wp2
    go_ret
    exact ⟨by simp; omega, rfl⟩
theorem each_calls (p : Option Addr) (w : World) : Calls Tryd.prog 25 #[.pointer p] w fun e w' => e = .returned (.func (.func 31) #[] #[.pointer (some ⟨w.heap.size, 0, none⟩)]) ∧ w.alloc (.cells #[.pointer p] 48) = w' := by
  go_enter Tryd.func25, Tryd.ntmps25
  go_wp2
  go_ret
  exact ⟨rfl, rfl⟩
theorem bit_lt (k : Nat) : 2 ^ (k % 64) < 18446744073709551616 := Nat.pow_lt_pow_right (a := 2) (by decide) (Nat.mod_lt k (show 64 > 0 by decide))
theorem bit_wrap (k : Nat) : IntKind.u64.wrap (2 ^ (k % 64)) = ((2 ^ (k % 64) : Nat) : Int) := by
  have h := bit_lt k
  have e : (2 : Int) ^ (k % 64) = ((2 ^ (k % 64) : Nat) : Int) := by simp
  rw [e, IntKind.wrap_u64]
  generalize 2 ^ (k % 64) = q at h
  omega
/-- the word of an ID, and its bit -/
theorem at_calls (S k p : Nat) (hp : p = 2 ^ (k % 64)) (w : World) (hk : k < 65536) : Calls Tryd.prog 28 #[.pointer (some ⟨S, 0, none⟩), .int .i64 (k : Int)] w fun e w' =>
    e = .returned (.tuple #[.pointer (some ⟨S, k / 64, none⟩), .int .u64 (p : Int)]) ∧ ∃ m, w' = World.drewN w m := by
  go_enter Tryd.func28, Tryd.ntmps28
  go_wp2
  go_quiet (fail)
  go_wp2
  go_ret2
  rw [bit_wrap, hp]
  exact ⟨rfl, _, rfl⟩
/-- is an ID there? -/
def has (l : List Nat) (id : Int) : Bool := decide (id.toNat ∈ l)
theorem has_out {ws : List Nat} (h0 : ¬ 0 ∈ Ib.ids ws) {id : Int} (h : ¬ (1 ≤ id ∧ id ≤ 65535)) : has (Ib.ids ws) id = false := by
  have : ¬ id.toNat ∈ Ib.ids ws := fun hm => by
    have h1 := (Ib.mem_ids.1 hm).1
    by_cases e : id.toNat = 0
    · exact h0 (e ▸ hm)
    · omega
  simp [has, this]
theorem and_pow (x j : Nat) : x &&& 2 ^ j = if x.testBit j then 2 ^ j else 0 := by
  apply Nat.eq_of_testBit_eq
  intro i
  rw [Nat.testBit_and, Nat.testBit_two_pow]
  by_cases e : j = i
  · subst e; cases h : x.testBit j <;> simp
  · cases h : x.testBit j <;> simp [e]
theorem and_bit_pos (x j : Nat) : decide (0 < x &&& 2 ^ j) = x.testBit j := by
  rw [and_pow]
  have := Nat.two_pow_pos j
  cases x.testBit j
  · simp
  · simpa using this
theorem has_calls (A S : Nat) (most : Int) (ws : List Nat) (id : Int) (w : World) (h : InAt w A S most ws) (h0 : ¬ 0 ∈ Ib.ids ws) : Calls Tryd.prog 16 #[.pointer (some ⟨A, 0, none⟩), .int .i64 id] w fun e w' =>
    e = .returned (.bool (has (Ib.ids ws) id)) ∧ ∃ m, w' = World.drewN w m := by
  go_enter Tryd.func16, Tryd.ntmps16
  have c0 := h.1.cell 0
  simp only [List.getElem?_cons_zero] at c0
  by_cases hm : 1 ≤ id ∧ id ≤ 65535
  · obtain ⟨k, rfl⟩ : ∃ k : Nat, id = k := ⟨id.toNat, by omega⟩
    have hk : k < 65536 := by omega
    obtain ⟨x, hx, hxl, hcl⟩ := h.2.1.cell (k / 64) (by omega)
    have hd : decide (1 ≤ (k : Int) ∧ (k : Int) ≤ 65535) = true := by simpa using hm
    obtain ⟨p, hp⟩ : ∃ p, p = 2 ^ (k % 64) := ⟨_, rfl⟩
    have hb : bits .and .u64 (x : Int) (p : Int) = ((x &&& p : Nat) : Int) := and_u64 x p hxl (hp ▸ bit_lt k)
    have HB := hid (show has (Ib.ids ws) (k : Int) = decide (0 < x &&& p) by
      rw [hp, and_bit_pos, ← hx]; simp [has, Ib.mem_ids, hk])
    have HP := hid hp
    clear hm hp
    go_wp2_with (first
      | (refine (none_full A S w c0).mono ?_; rintro e w' ⟨rfl, rfl⟩)
      | (refine (may_calls (k : Int) w).mono ?_; rintro e w' ⟨rfl, rfl⟩; rw [hd])
      | (refine (at_calls S k p HP.out w hk).mono ?_; rintro e w' ⟨rfl, m, rfl⟩))
    go_ret
    rw [HB.out]
    exact ⟨rfl, _, rfl⟩
  · have hd : decide (1 ≤ id ∧ id ≤ 65535) = false := by simpa using hm
    have HB := hid (has_out h0 hm)
    clear hm
    go_wp2_with (first
      | (refine (none_full A S w c0).mono ?_; rintro e w' ⟨rfl, rfl⟩)
      | (refine (may_calls id w).mono ?_; rintro e w' ⟨rfl, rfl⟩; rw [hd]))
    go_ret
    rw [HB.out]
    exact ⟨rfl, 0, rfl⟩
theorem has_nil (id : Int) (w : World) : Calls Tryd.prog 16 #[.pointer none, .int .i64 id] w fun e w' => e = .returned (.bool false) ∧ w = w' := by
  go_enter Tryd.func16, Tryd.ntmps16
  go_wp2_with (refine (none_nil w).mono ?_; rintro e w' ⟨rfl, rfl⟩)
  go_ret
  exact ⟨rfl, rfl⟩
theorem has_hollow (A : Nat) (id : Int) (w : World) (hc : w.cell? ⟨A, 0, none⟩ = some (.pointer none)) : Calls Tryd.prog 16 #[.pointer (some ⟨A, 0, none⟩), .int .i64 id] w fun e w' => e = .returned (.bool false) ∧ w = w' := by
  go_enter Tryd.func16, Tryd.ntmps16
  go_wp2_with (refine (none_hollow A w hc).mono ?_; rintro e w' ⟨rfl, rfl⟩)
  go_ret
  exact ⟨rfl, rfl⟩
theorem Kept.drewN (ok : Nat → Prop) (w : World) (m : Nat) : Kept ok w (World.drewN w m) := ⟨rfl, rfl, rfl, Nat.le_refl _, fun _ _ => rfl⟩
theorem map_set_val (ws : List Nat) (i x : Nat) : (ws.map fun y : Nat => Value.int .u64 (y : Int)).set i (.int .u64 (x : Int)) = (ws.set i x).map fun y : Nat => Value.int .u64 (y : Int) := by
  rw [List.map_set]
theorem xor_u64 (a b : Nat) (ha : a < 18446744073709551616) (hb : b < 18446744073709551616) : bits .xor .u64 (a : Int) (b : Int) = ((a ^^^ b : Nat) : Int) := by
  have hx : a ^^^ b < 2 ^ 64 := Nat.xor_lt_two_pow (by omega) (by omega)
  show IntKind.u64.wrap ((BitVec.ofInt 64 (a : Int) ^^^ BitVec.ofInt 64 (b : Int)).toNat : Int) = _
  rw [BitVec.toNat_xor, bvn (by omega), bvn (by omega), IntKind.wrap_u64]
  omega
theorem turn_calls (A S k : Nat) (most : Int) (ws : List Nat) (w : World) (h : InAt w A S most ws) (hk : k < 65536) : Calls Tryd.prog 29 #[.pointer (some ⟨A, 0, none⟩), .int .i64 (k : Int)] w fun e w' =>
    e = .returned (.tuple #[]) ∧ InAt w' A S most (Ib.turn ws k) ∧ Kept (fun b => b < w.heap.size ∧ b ≠ S) w w' ∧ w'.heap.size = w.heap.size := by
  go_enter Tryd.func29, Tryd.ntmps29
  have c0 := h.1.cell 0
  simp only [List.getElem?_cons_zero] at c0
  obtain ⟨x, hx, hxl, hcl⟩ := h.2.1.cell (k / 64) (by omega)
  have hfz := h.2.1.1.frozen (k / 64)
  obtain ⟨p, hp⟩ : ∃ p, p = 2 ^ (k % 64) := ⟨_, rfl⟩
  have hpl : p < 18446744073709551616 := hp ▸ bit_lt k
  have hb : bits .xor .u64 (x : Int) (p : Int) = ((x ^^^ p : Nat) : Int) := xor_u64 x p hxl hpl
  have HP := hid hp
  clear hp
  go_wp2_with (refine (at_calls S k p HP.out w hk).mono ?_; rintro e w' ⟨rfl, m, rfl⟩)
  go_end0
  refine ⟨rfl, ⟨?_, ⟨?_, by rw [Ib.turn_length]; exact h.2.1.2.1, ?_⟩, h.2.2⟩, ?_, ?_⟩
  · exact h.1.other (w := World.drewN w m) h.2.2 _ _
  · have := Blk.set (w := World.drewN w m) h.2.1.1 (k / 64) (.int .u64 ((x ^^^ p : Nat) : Int))
    rw [map_set_val] at this
    rw [show Ib.turn ws k = ws.set (k / 64) (x ^^^ p) by rw [Ib.turn, hx, HP.out]]
    exact this
  · intro y hy
    rcases List.mem_or_eq_of_mem_set hy with hy | rfl
    · exact h.2.1.2.2 y hy
    · rw [hx, ← HP.out]
      have : x ^^^ p < 2 ^ 64 := Nat.xor_lt_two_pow (by omega) (by omega)
      omega
  · exact (Kept.drewN _ w m).setCell (p := ⟨S, k / 64, none⟩) (fun hh : S < w.heap.size ∧ S ≠ S => hh.2 rfl) _
  · simp [World.setCell]
end Go.Proofs.YtnhcikbglcaboaaDoor
