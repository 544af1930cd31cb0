/-
  CrcSums: its arguments opened.
-/
import Derived.Test.YtgefenjjabjfmaaSumsWalk
import Derived.ProofKit
import Derived.OpenShut
import Derived.Deep.Slices
namespace Go.Proofs.Ytgefenjjabjfmaa
open Go.ChangeShapes Go.WideShapes Go.ChangeAt Go.RowKit
variable {H : Type}
theorem list_of {α : Type} (P : Nat → α → Prop) : ∀ n : Nat, (∀ i, i < n → ∃ y, P i y) → ∃ l : List α, l.length = n ∧ ∀ i (h : i < l.length), P i l[i]
  | 0, _ => ⟨[], rfl, fun i h => absurd h (Nat.not_lt_zero _)⟩
  | n + 1, h => by
    obtain ⟨l, hl, hp⟩ := list_of P n (fun i hi => h i (by omega))
    obtain ⟨y, hy⟩ := h n (by omega)
    refine ⟨l ++ [y], by simp [hl], fun i hi => ?_⟩
    by_cases e : i < l.length
    · rw [List.getElem_append_left e]; exact hp i e
    · have : i = n := by simp at hi; omega
      subst this
      rw [List.getElem_append_right (by omega)]
      simpa using hy
/-- one cell that reads as a slice of bytes -/
theorem bytes_of_cell (enc : TypeId × Value → H) (W : World) (n : Nat) (u : Value) (x : DataW H × List MemPlace) (h : DataW.trod enc Try.prog W 0 (fun _ => true) true n 22 [u] = some x) :
    ∃ l : List UInt8, ∃ a cap, u = .slice a l.length cap ∧ l.length ≤ maxLen ∧ BytesIn (fun k => k < W.heap.size) W a l ∧ (a = none → cap = 0) := by
  rcases open_ints Try.underlying22 Try.underlying5 (by kernel_rfl) h with ⟨hcs, _⟩ | ⟨x, l, c, zs, hcs, _, hl, hm, hz, _, hcell, hwz⟩
  · simp at hcs
    subst hcs
    exact ⟨[], none, 0, rfl, Nat.zero_le _, fun i hi => absurd hi (Nat.not_lt_zero _), fun _ => rfl⟩
  · simp at hcs
    subst hcs
    obtain ⟨l', hl', r⟩ := bytes_of_row (w := W) (a := some x) (len := l) (cap := c) (zs := zs) (.inr ⟨_, rfl, hl, hm, by simpa using hz, hcell, hwz⟩)
    exact ⟨l', some x, c, by rw [hl'], by rw [hl']; exact r.1, r.2.1, r.2.2.2.2⟩
theorem cells_one {W : World} {a : Addr} {cs : List Value} (h : W.cells? 0 a 1 = some cs) : ∃ u, cs = [u] ∧ W.cell? a = some u := by
  unfold World.cells? at h
  rw [if_pos (Nat.zero_le _)] at h
  simp [List.range_succ, Addr.add] at h
  cases hc : W.cell? a with
  | none => rw [hc] at h; simp at h
  | some u => rw [hc] at h; simp at h; exact ⟨u, h.symm, rfl⟩
theorem open_parts (enc : TypeId × Value → H) (W : World) (base : Nat) (v : Value) (d : DataW H) (p : List MemPlace) (hv : Value.okWide Try.prog W .any base 35 v) (h : DataW.Trod enc Try.prog W 0 (fun _ => true) true 35 v d p) :
    ∃ a cap, ∃ ls : List (List UInt8), v = .slice a ls.length cap ∧ ls.length ≤ maxLen ∧ PartsNil W a ls := by
  obtain ⟨a0, len0, cap0, rfl⟩ := okWide_slice Try.underlying35 hv
  obtain ⟨fuel, hf⟩ := h
  rcases Deep.open_slice Try.underlying35 hf with ⟨hcs, _⟩ | ⟨⟨b, off, spot⟩, len, cap, m, n, D, Pl, hcs, _, hl, hm, hmm, _, hel⟩
  · simp [Value.cells] at hcs
    obtain ⟨rfl, rfl, rfl⟩ := hcs
    exact ⟨none, 0, [], rfl, Nat.zero_le _, fun i hi => absurd hi (Nat.not_lt_zero _)⟩
  · simp [Value.cells] at hcs
    obtain ⟨rfl, rfl, rfl⟩ := hcs
    rw [show Try.prog.cellsOf 22 = 1 from by kernel_rfl] at hel
    simp at hmm
    have hone : ∀ i, i < len0 → ∃ u, W.cell? ((⟨b, off, spot⟩ : Addr).add i) = some u ∧ ∃ x, DataW.trod enc Try.prog W 0 (fun _ => true) true n 22 [u] = some x := by
      intro i hi
      obtain ⟨cs', h1, h2⟩ := hel i (by omega)
      rw [Nat.mul_one] at h1
      obtain ⟨u, rfl, hu⟩ := cells_one h1
      exact ⟨u, hu, _, h2⟩
    have hspot : 0 < len0 → spot = none := fun h0 => by
      obtain ⟨u, hu, _⟩ := hone 0 h0
      have := World.cell?_spot hu
      simpa [Addr.add] using this
    obtain ⟨ls, hls, hP⟩ := list_of (fun i (l : List UInt8) => ∃ c cap, W.cell? ((⟨b, off, spot⟩ : Addr).add i) = some (.slice c l.length cap) ∧ BytesIn (fun k => k < W.heap.size) W c l ∧ l.length ≤ maxLen ∧ (c = none → cap = 0)) len0 (by
      intro i hi
      obtain ⟨u, hu, x, hx⟩ := hone i hi
      obtain ⟨l, c, cap, rfl, h1, h2, h3⟩ := bytes_of_cell enc W n u x hx
      exact ⟨l, c, cap, hu, h2, h1, h3⟩)
    refine ⟨some ⟨b, off, spot⟩, cap0, ls, by rw [hls], by rw [hls]; omega, fun i hi => ?_⟩
    obtain ⟨c, cap, hu, h1, h2, h3⟩ := hP i hi
    have hs := hspot (by omega)
    subst hs
    rw [addr_add] at hu
    exact ⟨b, off, c, cap, rfl, cell_lt hu, hu, h1, h2, h3⟩
theorem crcSums_open (enc : TypeId × Value → H) (W : World) (base : Nat) (v0 v1 v2 : Value) (d0 d1 d2 : DataW H) (p0 p1 p2 : List MemPlace) (o0 : Value.okWide Try.prog W .any base 35 v0) (o1 : Value.okWide Try.prog W .any base 5 v1) (o2 : Value.okWide Try.prog W .any base 3 v2)
    (h0 : DataW.Trod enc Try.prog W 0 (fun _ => true) true 35 v0 d0 p0) (h1 : DataW.Trod enc Try.prog W 0 (fun _ => true) true 5 v1 d1 p1) (h2 : DataW.Trod enc Try.prog W 0 (fun _ => true) true 3 v2 d2 p2) :
    Calls Try.prog 7 #[v0, v1, v2] W fun e w' => e = .returned (.bool true) ∧ Below W.heap.size W w' := by
  obtain ⟨a, cap, ls, rfl, hm, hb⟩ := open_parts enc W base v0 d0 p0 o0 h0
  obtain ⟨x, rfl, _, _, wx⟩ := open_int Try.underlying5 o1 h1
  obtain ⟨y, rfl, _, _, _⟩ := open_int Try.underlying3 o2 h2
  have hx := wf_u8 wx
  have e : x = ((UInt8.ofNat x.toNat).toNat : Int) := by
    rw [UInt8.toNat_ofNat', Nat.mod_eq_of_lt (by omega)]; omega
  rw [e]
  exact crcSums_walk a cap ls (UInt8.ofNat x.toNat) y W hm hb
end Go.Proofs.Ytgefenjjabjfmaa
