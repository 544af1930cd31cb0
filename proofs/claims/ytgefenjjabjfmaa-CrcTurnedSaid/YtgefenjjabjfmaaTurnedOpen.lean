/-
  CrcTurned: its arguments opened.
-/
import Derived.Test.YtgefenjjabjfmaaTurnedWalk
import Derived.ProofKit
import Derived.OpenShut
namespace Go.Proofs.Ytgefenjjabjfmaa
open Go.ChangeShapes Go.WideShapes Go.ChangeAt Go.RowKit
variable {H : Type}
/-- a slice of bytes that came in, as bytes -/
theorem open_bytes (enc : TypeId × Value → H) (W : World) (base : Nat) (v : Value) (d : DataW H) (p : List MemPlace) (hv : Value.okWide Try.prog W .any base 22 v) (h : DataW.Trod enc Try.prog W 0 (fun _ => true) true 22 v d p) :
    ∃ a cap, ∃ l : List UInt8, v = .slice a l.length cap ∧ l.length ≤ maxLen ∧ BytesIn (fun k => k < W.heap.size) W a l ∧ l.length ≤ cap ∧ cap ≤ maxLen ∧ (a = none → cap = 0) := by
  obtain ⟨a0, len0, cap0, rfl⟩ := okWide_slice Try.underlying22 hv
  obtain ⟨fuel, hf⟩ := h
  rcases open_ints Try.underlying22 Try.underlying5 (by kernel_rfl) hf with ⟨hcs, _⟩ | ⟨x, l, c, zs, hcs, _, hl, hm, hz, _, hcell, hwz⟩
  · simp [Value.cells] at hcs
    obtain ⟨rfl, rfl, rfl⟩ := hcs
    obtain ⟨l, hl, r⟩ := bytes_of_row (w := W) (a := none) (len := 0) (cap := 0) (zs := []) (.inl ⟨rfl, rfl, rfl, rfl⟩)
    exact ⟨none, 0, l, by rw [hl], by rw [hl]; exact r.1, r.2.1, by rw [hl]; exact r.2.2.1, r.2.2.2⟩
  · simp [Value.cells] at hcs
    obtain ⟨rfl, rfl, rfl⟩ := hcs
    obtain ⟨l', hl', r⟩ := bytes_of_row (w := W) (a := some x) (len := len0) (cap := cap0) (zs := zs) (.inr ⟨_, rfl, hl, hm, by simpa using hz, hcell, hwz⟩)
    exact ⟨some x, cap0, l', by rw [hl'], by rw [hl']; exact r.1, r.2.1, by rw [hl']; exact r.2.2.1, r.2.2.2⟩
theorem open_int3 (enc : TypeId × Value → H) (W : World) (base : Nat) (v : Value) (d : DataW H) (p : List MemPlace) (hv : Value.okWide Try.prog W .any base 30 v) (h : DataW.Trod enc Try.prog W 0 (fun _ => true) true 30 v d p) :
    ∃ k0 k1 k2 : Int, v = .agg #[.int .i64 k0, .int .i64 k1, .int .i64 k2] := by
  unfold Value.okWide at hv
  rw [Try.underlying30] at hv
  obtain ⟨cs, rfl, hsz, _⟩ := hv
  obtain ⟨fuel, hf⟩ := h
  obtain ⟨xs, m, rfl, _, hlen, hx, hget⟩ := DataW.trod_array Try.underlying30 hf
  have hc : Try.prog.cellsOf 30 = 3 := by kernel_rfl
  have hc1 : Try.prog.cellsOf 3 = 1 := by kernel_rfl
  rw [hc] at hsz
  rw [hc1] at hget
  have one : ∀ i, i < 3 → ∃ k : Int, cs[i]? = some (.int .i64 k) := by
    intro i hi
    have hg := hget i hi
    have hxi : xs[i]? = some (xs[i]'(by omega)) := List.getElem?_eq_getElem (by omega)
    rw [hxi] at hg
    have hci : ((Value.agg cs).cells.toList.drop (i * 1)).take 1 = [cs[i]'(by omega)] := by
      simp only [Value.cells, Nat.mul_one]
      rw [List.drop_eq_getElem_cons (by simp; omega)]
      simp
    rw [hci] at hg
    cases m with
    | zero => simp [DataW.trod] at hg
    | succ m =>
      obtain ⟨k, e, _⟩ := DataW.trod_int Try.underlying3 hg
      simp at e
      exact ⟨k, by rw [Array.getElem?_eq_getElem (by omega), e]⟩
  obtain ⟨k0, e0⟩ := one 0 (by omega)
  obtain ⟨k1, e1⟩ := one 1 (by omega)
  obtain ⟨k2, e2⟩ := one 2 (by omega)
  refine ⟨k0, k1, k2, ?_⟩
  congr 1
  apply Array.ext (by simp [hsz])
  intro i h1 h2
  have hi : i < 3 := by omega
  have : i = 0 ∨ i = 1 ∨ i = 2 := by omega
  rcases this with rfl | rfl | rfl
  · rw [Array.getElem?_eq_getElem h1] at e0; exact Option.some.inj e0
  · rw [Array.getElem?_eq_getElem h1] at e1; exact Option.some.inj e1
  · rw [Array.getElem?_eq_getElem h1] at e2; exact Option.some.inj e2
theorem crcTurned_open (enc : TypeId × Value → H) (W : World) (base : Nat) (v0 v1 : Value) (d0 d1 : DataW H) (p0 p1 : List MemPlace) (o0 : Value.okWide Try.prog W .any base 22 v0) (o1 : Value.okWide Try.prog W .any base 30 v1)
    (h0 : DataW.Trod enc Try.prog W 0 (fun _ => true) true 22 v0 d0 p0) (h1 : DataW.Trod enc Try.prog W 0 (fun _ => true) true 30 v1 d1 p1) :
    Calls Try.prog 4 #[v0, v1] W fun e w' => e = .returned (.bool true) ∧ Below W.heap.size W w' := by
  obtain ⟨a, cap, l, rfl, hm, hb, _, _, hn⟩ := open_bytes enc W base v0 d0 p0 o0 h0
  obtain ⟨k0, k1, k2, rfl⟩ := open_int3 enc W base v1 d1 p1 o1 h1
  exact crcTurned_walk a cap l k0 k1 k2 W hm hb hn
end Go.Proofs.Ytgefenjjabjfmaa
