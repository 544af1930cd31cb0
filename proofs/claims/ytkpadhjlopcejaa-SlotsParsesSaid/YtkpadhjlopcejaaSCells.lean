/-
  Cells of a page in memory: what the shell tells of a slice of them; the walks of few, within and the rules.
-/
import Derived.Test.YtkpadhjlopcejaaBytes
import Derived.Test.YtkpadhjlopcejaaSOrder
import Derived.ProofKit
import Derived.OpenShut
import Derived.ShutString
import Derived.Deep.Strs
import Derived.Laws.Cover1
namespace Go.Proofs.Ytkpadhjlopcejaa
open Go.RowKit Go.ChangeShapes Go.WideShapes Go.ChangeAt
def rowC (x : Cl) : List Value := [.string x.key, .string x.text, .bool x.long, .int .i64 x.page, .int .i64 x.size]
def aggC (x : Cl) : Value := .agg #[.string x.key, .string x.text, .bool x.long, .int .i64 x.page, .int .i64 x.size]
/-- cells of a slice, in blocks of which 'ok' speaks -/
def CellsIn (ok : Nat → Prop) (w : World) (a : Option Addr) (xs : List Cl) : Prop :=
  ∀ i (h : i < xs.length), ∃ b off, a = some ⟨b, off, none⟩ ∧ ok b ∧ ∀ j (hj : j < 5), w.cell? ⟨b, off + i * 5 + j, none⟩ = (rowC xs[i])[j]?
theorem CellsIn.kept {ok : Nat → Prop} {w w' : World} {a : Option Addr} {xs : List Cl} (h : CellsIn ok w a xs) (hk : Kept ok w w') : CellsIn ok w' a xs := by
  intro i hi
  obtain ⟨b, off, e, ho, hc⟩ := h i hi
  refine ⟨b, off, e, ho, fun j hj => ?_⟩
  rw [hk.cell (p := ⟨b, off + i * 5 + j, none⟩) ho]; exact hc j hj
theorem CellsIn.mono {ok ok' : Nat → Prop} {w : World} {a : Option Addr} {xs : List Cl} (h : CellsIn ok w a xs) (hm : ∀ k, ok k → ok' k) : CellsIn ok' w a xs := by
  intro i hi
  obtain ⟨b, off, e, ho, hc⟩ := h i hi
  exact ⟨b, off, e, hm b ho, hc⟩
theorem CellsIn.take {ok : Nat → Prop} {w : World} {a : Option Addr} {l : List Cl} (h : CellsIn ok w a l) (n : Nat) : CellsIn ok w a (l.take n) := by
  intro i hi
  have hi' : i < l.length := by simp at hi; omega
  obtain ⟨b, off, e, ho, hc⟩ := h i hi'
  exact ⟨b, off, e, ho, by simpa using hc⟩
theorem CellsIn.drop {ok : Nat → Prop} {w : World} {a : Option Addr} {l : List Cl} (h : CellsIn ok w a l) (n : Nat) : CellsIn ok w (a.map (·.add (n * 5))) (l.drop n) := by
  intro i hi
  have hi' : n + i < l.length := by simp at hi; omega
  obtain ⟨b, off, rfl, ho, hc⟩ := h (n + i) hi'
  refine ⟨b, off + n * 5, by rw [Option.map_some, addr_add], ho, fun j hj => ?_⟩
  rw [show off + n * 5 + i * 5 + j = off + (n + i) * 5 + j from by omega, hc j hj]
  simp
theorem CellsIn.nil (ok : Nat → Prop) (w : World) (a : Option Addr) : CellsIn ok w a [] := fun _ h => absurd h (Nat.not_lt_zero _)
/-- the five cells of one -/
theorem CellsIn.at {ok : Nat → Prop} {w : World} {a : Option Addr} {l : List Cl} (h : CellsIn ok w a l) {i : Nat} (hi : i < l.length) : ∃ b off, a = some ⟨b, off, none⟩ ∧ ok b ∧
    w.cell? ⟨b, off + i * 5, none⟩ = some (.string l[i].key) ∧ w.cell? ⟨b, off + i * 5 + 1, none⟩ = some (.string l[i].text) ∧ w.cell? ⟨b, off + i * 5 + 2, none⟩ = some (.bool l[i].long) ∧
    w.cell? ⟨b, off + i * 5 + 3, none⟩ = some (.int .i64 l[i].page) ∧ w.cell? ⟨b, off + i * 5 + 4, none⟩ = some (.int .i64 l[i].size) := by
  obtain ⟨b, off, e, ho, hc⟩ := h i hi
  exact ⟨b, off, e, ho, hc 0 (by omega), hc 1 (by omega), hc 2 (by omega), hc 3 (by omega), hc 4 (by omega)⟩
/-- a slice of cells -/
def PartC (ok : Nat → Prop) (w : World) (v : Value) (l : List Cl) : Prop := ∃ a cap, v = .slice a l.length cap ∧ CellsIn ok w a l ∧ l.length ≤ cap ∧ cap ≤ maxLen ∧ (a = none → cap = 0)
theorem PartC.kept {ok : Nat → Prop} {w w' : World} {v : Value} {l : List Cl} (h : PartC ok w v l) (hk : Kept ok w w') : PartC ok w' v l := by
  obtain ⟨a, cap, h1, h2, h3⟩ := h
  exact ⟨a, cap, h1, h2.kept hk, h3⟩
theorem PartC.mono {ok ok' : Nat → Prop} {w : World} {v : Value} {l : List Cl} (h : PartC ok w v l) (hm : ∀ k, ok k → ok' k) : PartC ok' w v l := by
  obtain ⟨a, cap, h1, h2, h3⟩ := h
  exact ⟨a, cap, h1, h2.mono hm, h3⟩
theorem PartC.nil (ok : Nat → Prop) (w : World) : PartC ok w (.slice none 0 0) [] := ⟨none, 0, rfl, CellsIn.nil _ _ _, Nat.le_refl _, Nat.zero_le _, fun _ => rfl⟩
theorem PartC.below {B : Nat} {w w' : World} {v : Value} {l : List Cl} (h : PartC (fun k => k < B) w v l) (hb : Below B w w') : PartC (fun k => k < B) w' v l := h.kept (Kept.of_below hb fun _ h => h)
set_option maxRecDepth 100000 in
/-- what the shell tells of a slice of cells -/
theorem cells_of {H : Type} (enc : TypeId × Value → H) (W : World) (base : Nat) (v : Value) (d : DataW H) (p : List MemPlace) (o : Value.okWide Try.prog W .any base 61 v)
    (h : DataW.Trod enc Try.prog W 0 (fun _ => true) true 61 v d p) : ∃ (xs : List Cl), PartC (fun k => k < W.heap.size) W v xs := by
  obtain ⟨a0, len0, cap0, rfl⟩ := okWide_slice Try.underlying61 o
  obtain ⟨fuel, hf⟩ := h
  rcases Go.Deep.open_slice Try.underlying61 hf with ⟨hcs, _⟩ | ⟨x, l, c, m, n, D, Pl, hcs, _, hl, hm, hmm, _, hi⟩
  · simp [Value.cells] at hcs
    obtain ⟨rfl, rfl, rfl⟩ := hcs
    exact ⟨[], PartC.nil _ _⟩
  · simp [Value.cells] at hcs
    obtain ⟨rfl, rfl, rfl⟩ := hcs
    have hm' : m = cap0 := by simpa using hmm
    have hC : Try.prog.cellsOf 81 = 5 := by kernel_rfl
    have k2 : Try.prog.cellsOf 2 = 1 := by kernel_rfl
    have k4 : Try.prog.cellsOf 4 = 1 := by kernel_rfl
    have k9 : Try.prog.cellsOf 9 = 1 := by kernel_rfl
    have each : ∀ i, i < len0 → ∃ q : Cl, W.cell? (x.add (i * 5)) = some (.string q.key) ∧ W.cell? (x.add (i * 5 + 1)) = some (.string q.text) ∧ W.cell? (x.add (i * 5 + 2)) = some (.bool q.long) ∧ W.cell? (x.add (i * 5 + 3)) = some (.int .i64 q.page) ∧ W.cell? (x.add (i * 5 + 4)) = some (.int .i64 q.size) := by
      intro i hi'
      obtain ⟨cs', hc, ht'⟩ := hi i (by omega)
      rw [hC] at hc
      obtain ⟨_, hcl, hat⟩ := World.cells?_some hc
      obtain ⟨ys, n', _, _, _, hyl, hf⟩ := DataW.trod_struct Try.underlying81 ht'
      match cs', hcl, ys, hyl with
      | [c0, c1, c2, c3, c4], _, [y0, y1, y2, y3, y4], _ =>
        have g0 := hf 0 _ rfl
        have g1 := hf 1 _ rfl
        have g2 := hf 2 _ rfl
        have g3 := hf 3 _ rfl
        have g4 := hf 4 _ rfl
        simp [k2, k4, k9] at g0 g1 g2 g3 g4
        obtain ⟨s0, e0, _⟩ := DataW.trod_string Try.underlying9 g0
        obtain ⟨s1, e1, _⟩ := DataW.trod_string Try.underlying9 g1
        obtain ⟨b2, e2, _⟩ := DataW.trod_bool Try.underlying4 g2
        obtain ⟨n3, e3, _⟩ := DataW.trod_int Try.underlying2 g3
        obtain ⟨n4, e4, _⟩ := DataW.trod_int Try.underlying2 g4
        have a0 := hat 0 (by omega)
        have a1 := hat 1 (by omega)
        have a2 := hat 2 (by omega)
        have a3 := hat 3 (by omega)
        have a4 := hat 4 (by omega)
        rw [Go.Deep.add_add] at a0 a1 a2 a3 a4
        refine ⟨⟨s0, s1, b2, n3, n4⟩, ?_, ?_, ?_, ?_, ?_⟩
        · rw [show i * 5 = i * 5 + 0 from rfl, a0]; simpa using e0
        · rw [a1]; simpa using e1
        · rw [a2]; simpa using e2
        · rw [a3]; simpa using e3
        · rw [a4]; simpa using e4
    obtain ⟨q, hq⟩ := Go.Deep.choose_lt each
    refine ⟨(List.range len0).map q, some x, cap0, by simp, fun i hil => ?_, by simp; omega, by omega, fun h => by cases h⟩
    have hi' : i < len0 := by simpa using hil
    obtain ⟨h0, h1, h2, h3, h4⟩ := hq i hi'
    obtain ⟨b, off, spot⟩ := x
    have hspot : spot = none := by
      have := World.cell?_spot (hq 0 (by omega)).1
      simpa [Addr.add] using this
    subst hspot
    rw [addr_add] at h0 h1 h2 h3 h4
    have e : ((List.range len0).map q)[i] = q i := by simp
    rw [e]
    refine ⟨b, off, rfl, cell_lt h0, fun j hj => ?_⟩
    match j, hj with
    | 0, _ => exact h0
    | 1, _ => rw [Nat.add_assoc]; exact h1
    | 2, _ => rw [Nat.add_assoc]; exact h2
    | 3, _ => rw [Nat.add_assoc]; exact h3
    | 4, _ => rw [Nat.add_assoc]; exact h4
end Go.Proofs.Ytkpadhjlopcejaa
