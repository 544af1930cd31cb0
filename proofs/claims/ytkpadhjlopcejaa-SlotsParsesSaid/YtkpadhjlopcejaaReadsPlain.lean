/-
  WireReads: what its walk leans on.
-/
import Derived.Test.YtkpadhjlopcejaaWritesPlain
import Derived.ProofKit
namespace Go.Proofs.Ytkpadhjlopcejaa
open Go.RowKit Go.ChangeShapes Go.WideShapes Go.ChangeAt
set_option maxRecDepth 100000 in
/-- a slice of bytes that came in, as bytes -/
theorem bytes_of {H : Type} (enc : TypeId × Value → H) (W : World) (base : Nat) (v : Value) (d : DataW H) (p : List MemPlace) (hv : Value.okWide Try.prog W .any base 36 v) (h : DataW.Trod enc Try.prog W 0 (fun _ => true) true 36 v d p) :
    ∃ l : List UInt8, PartB (fun k => k < W.heap.size) W v l := by
  obtain ⟨a0, len0, cap0, rfl⟩ := okWide_slice Try.underlying36 hv
  obtain ⟨fuel, hf⟩ := h
  rcases open_ints Try.underlying36 Try.underlying5 (by kernel_rfl) hf with ⟨hcs, _⟩ | ⟨x, len, cap, zs, hcs, _, hl, hm, hz, _, hc, hw⟩
  · simp [Value.cells] at hcs
    obtain ⟨rfl, rfl, rfl⟩ := hcs
    exact ⟨[], none, 0, rfl, BytesIn.nil _ _ _, Nat.le_refl _, Nat.zero_le _, fun _ => rfl⟩
  · simp [Value.cells] at hcs
    obtain ⟨rfl, rfl, rfl⟩ := hcs
    have hz' : zs.length = cap0 := by simpa using hz
    have hlen : ((zs.take len0).map fun n => UInt8.ofNat n.toNat).length = len0 := by simp; omega
    refine ⟨(zs.take len0).map fun n => UInt8.ofNat n.toNat, some x, cap0, by rw [hlen], fun i hi => ?_, by rw [hlen]; exact hl, hm, fun h => by cases h⟩
    have hi' : i < len0 := by rw [← hlen]; exact hi
    have hcell := hc i (by omega)
    obtain ⟨b, off, spot⟩ := x
    have hspot : spot = none := by
      have := World.cell?_spot (hc 0 (by omega))
      simpa [Addr.add] using this
    subst hspot
    rw [addr_add] at hcell
    have hlt := cell_lt hcell
    refine ⟨b, off, rfl, hlt, ?_⟩
    rw [hcell]
    have hmem : zs.getD i 0 ∈ zs := by
      rw [List.getD_eq_getElem?_getD, List.getElem?_eq_getElem (by omega), Option.getD_some]
      exact List.getElem_mem _
    have hwf := hw _ hmem
    have hr : 0 ≤ zs.getD i 0 ∧ zs.getD i 0 ≤ 255 := by have hw2 := hwf; simp [Lit.wf, IntKind.min, IntKind.max, IntKind.signed, IntKind.bits] at hw2; simpa using hw2
    have e : ((zs.take len0).map fun n => UInt8.ofNat n.toNat)[i]'hi = UInt8.ofNat (zs.getD i 0).toNat := by
      simp [List.getD_eq_getElem?_getD, List.getElem?_eq_getElem (show i < zs.length by omega)]
    rw [e, UInt8.toNat_ofNat']
    congr 2
    omega
/-- the reader, and the bytes that are still to come -/
structure ReadsAt (w0 : World) (lo R : Nat) (wr : World) (v : Value) (l : List UInt8) : Prop where
  rd : RdAt (fun k => lo ≤ k ∧ k < R) wr R l
  below : Below w0.heap.size w0 wr
  part : PartB (fun k => k < w0.heap.size) w0 v l
theorem ReadsAt.after {w0 : World} {lo R : Nat} {wr w' : World} {v v' : Value} {l l' : List UInt8} (h : ReadsAt w0 lo R wr v l) (hR : w0.heap.size ≤ R) (r : RdAt (fun k => lo ≤ k ∧ k < R) w' R l') (k : Kept (fun k => k < wr.heap.size ∧ k ≠ R) wr w')
    (p : PartB (fun k => k < w0.heap.size) w0 v' l') : ReadsAt w0 lo R w' v' l' :=
  ⟨r, kept_below h.below k (fun k hk => ⟨by have := h.below.size; omega, by omega⟩), p⟩
theorem ReadsAt.grows {w0 : World} {lo R : Nat} {wr w' : World} {v : Value} {l : List UInt8} (h : ReadsAt w0 lo R wr v l) (hb : Below wr.heap.size wr w') : ReadsAt w0 lo R w' v l :=
  ⟨h.rd.grows hb, h.below.trans (hb.mono h.below.size), h.part⟩
theorem ReadsAt.now {w0 : World} {lo R : Nat} {wr : World} {v : Value} {l : List UInt8} (h : ReadsAt w0 lo R wr v l) : PartB (fun k => k < w0.heap.size) wr v l :=
  h.part.kept (Kept.of_below h.below fun _ h => h)
/-- the reader, and the bytes that were its, that now change -/
structure MineAt (w0 : World) (lo R : Nat) (wr : World) (v : Value) (l' l : List UInt8) : Prop where
  own : OwnB wr w0.heap.size v l'
  rd : RdAt (fun k => lo ≤ k ∧ k < R) wr R l
  below : Below w0.heap.size w0 wr
  low : ∀ k, v.ownBlock = some k → k < lo
theorem MineAt.stored {w0 : World} {lo R : Nat} {wr : World} {v : Value} {l' l'' l : List UInt8} (h : MineAt w0 lo R wr v l' l) (hlo : lo ≤ R) (g i : Nat) (u : Value) (hg : v.ownBlock = some g) (ho : OwnB (wr.setCell ⟨g, i, none⟩ u) w0.heap.size v l'') :
    MineAt w0 lo R (wr.setCell ⟨g, i, none⟩ u) v l'' l := by
  have hgl := h.low g hg
  refine ⟨ho, h.rd.kept ((Kept.refl (fun k => k ≠ g) wr).setCell (p := ⟨g, i, none⟩) (fun h => h rfl) u) (by omega) (fun k hk => by omega), h.below.setCell (p := ⟨g, i, none⟩) (h.own.block hg).1 u, h.low⟩
theorem PartB.slice {ok : Nat → Prop} {w : World} {a : Option Addr} {n c : Nat} {l : List UInt8} (h : PartB ok w (.slice a n c) l) (m : Nat) (hm : m ≤ n) :
    (c = m → PartB ok w (.slice a (n - m) 0) (l.drop m)) ∧ (¬ c = m → PartB ok w (.slice (a.map (·.add m)) (n - m) (c - m)) (l.drop m)) := by
  obtain ⟨h1, h2, h3, h4, h5⟩ := h.at
  subst h2
  have := partB_high (cap := c) h1 ⟨h3, h4, h5⟩ m hm
  unfold sliced at this
  refine ⟨fun e => ?_, fun e => ?_⟩
  · rw [if_pos e, show c - m = 0 from by omega] at this
    exact this
  · rw [if_neg e, Nat.mul_one] at this
    exact this
end Go.Proofs.Ytkpadhjlopcejaa
