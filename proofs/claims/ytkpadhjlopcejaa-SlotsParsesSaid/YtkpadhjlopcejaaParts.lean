/-
  Parts of wire: what the shell tells of a slice of them; the walk of few.
-/
import Derived.Test.YtkpadhjlopcejaaCutsWalk
namespace Go.Proofs.Ytkpadhjlopcejaa
open Go.RowKit Go.ChangeShapes Go.WideShapes Go.ChangeAt
/-- a part that is written or read -/
structure Pt where
  kind : Int
  n : Nat
  bytes : Int
  text : ByteArray
instance : Inhabited Pt := ⟨⟨0, 0, 0, ⟨#[]⟩⟩⟩
/-- parts of a slice, in blocks of which 'ok' speaks -/
def PtsIn (ok : Nat → Prop) (w : World) (a : Option Addr) (xs : List Pt) : Prop :=
  ∀ i (h : i < xs.length), ∃ b off, a = some ⟨b, off, none⟩ ∧ ok b ∧ xs[i].n < 18446744073709551616 ∧ w.cell? ⟨b, off + i * 4, none⟩ = some (.int .i64 xs[i].kind) ∧ w.cell? ⟨b, off + i * 4 + 1, none⟩ = some (.int .u64 (xs[i].n : Int)) ∧
    w.cell? ⟨b, off + i * 4 + 2, none⟩ = some (.int .i64 xs[i].bytes) ∧ w.cell? ⟨b, off + i * 4 + 3, none⟩ = some (.string xs[i].text)
theorem PtsIn.kept {ok : Nat → Prop} {w w' : World} {a : Option Addr} {xs : List Pt} (h : PtsIn ok w a xs) (hk : Kept ok w w') : PtsIn ok w' a xs := by
  intro i hi
  obtain ⟨b, off, e, ho, hn, h0, h1, h2, h3⟩ := h i hi
  refine ⟨b, off, e, ho, hn, ?_, ?_, ?_, ?_⟩
  · rw [hk.cell (p := ⟨b, off + i * 4, none⟩) ho]; exact h0
  · rw [hk.cell (p := ⟨b, off + i * 4 + 1, none⟩) ho]; exact h1
  · rw [hk.cell (p := ⟨b, off + i * 4 + 2, none⟩) ho]; exact h2
  · rw [hk.cell (p := ⟨b, off + i * 4 + 3, none⟩) ho]; exact h3
set_option maxRecDepth 100000 in
theorem wf_u64 {n : Int} (h : (Lit.int .u64 n).wf = true) : ∃ m : Nat, n = m ∧ m < 18446744073709551616 := by
  have : 0 ≤ n ∧ n ≤ 18446744073709551615 := by simpa [Lit.wf, IntKind.min, IntKind.max, IntKind.signed, IntKind.bits] using h
  exact ⟨n.toNat, by omega, by omega⟩
set_option maxRecDepth 100000 in
/-- what the shell tells of a slice of parts -/
theorem parts_of {H : Type} (enc : TypeId × Value → H) (W : World) (base : Nat) (v : Value) (d : DataW H) (p : List MemPlace) (o : Value.okWide Try.prog W .any base 22 v)
    (h : DataW.Trod enc Try.prog W 0 (fun _ => true) true 22 v d p) : ∃ (a : Option Addr) (cap : Nat) (xs : List Pt), v = .slice a xs.length cap ∧ PtsIn (fun k => k < W.heap.size) W a xs ∧ xs.length ≤ 9223372036854775807 := by
  obtain ⟨a0, len0, cap0, rfl⟩ := okWide_slice Try.underlying22 o
  obtain ⟨fuel, hf⟩ := h
  rcases Go.Deep.open_slice Try.underlying22 hf with ⟨hcs, _⟩ | ⟨x, l, c, m, n, D, Pl, hcs, _, hl, hm, hmm, _, hi⟩
  · simp [Value.cells] at hcs
    obtain ⟨rfl, rfl, rfl⟩ := hcs
    exact ⟨none, 0, [], rfl, fun i h => absurd h (Nat.not_lt_zero _), Nat.zero_le _⟩
  · simp [Value.cells] at hcs
    obtain ⟨rfl, rfl, rfl⟩ := hcs
    have hm' : m = cap0 := by simpa using hmm
    have hC : Try.prog.cellsOf 30 = 4 := by kernel_rfl
    have k3 : Try.prog.cellsOf 3 = 1 := by kernel_rfl
    have k28 : Try.prog.cellsOf 28 = 1 := by kernel_rfl
    have k9 : Try.prog.cellsOf 9 = 1 := by kernel_rfl
    have each : ∀ i, i < len0 → ∃ q : Pt, q.n < 18446744073709551616 ∧ W.cell? (x.add (i * 4)) = some (.int .i64 q.kind) ∧ W.cell? (x.add (i * 4 + 1)) = some (.int .u64 (q.n : Int)) ∧ W.cell? (x.add (i * 4 + 2)) = some (.int .i64 q.bytes) ∧ W.cell? (x.add (i * 4 + 3)) = some (.string q.text) := by
      intro i hi'
      obtain ⟨cs', hc, ht'⟩ := hi i (by omega)
      rw [hC] at hc
      obtain ⟨_, hcl, hat⟩ := World.cells?_some hc
      obtain ⟨ys, n', _, _, _, hyl, hf⟩ := DataW.trod_struct Try.underlying30 ht'
      match cs', hcl, ys, hyl with
      | [c0, c1, c2, c3], _, [y0, y1, y2, y3], _ =>
        have g0 := hf 0 _ rfl
        have g1 := hf 1 _ rfl
        have g2 := hf 2 _ rfl
        have g3 := hf 3 _ rfl
        simp [k3, k28, k9] at g0 g1 g2 g3
        obtain ⟨n0, e0, _⟩ := DataW.trod_int Try.underlying3 g0
        obtain ⟨n1, e1, _, w1⟩ := DataW.trod_int Try.underlying28 g1
        obtain ⟨n2, e2, _⟩ := DataW.trod_int Try.underlying3 g2
        obtain ⟨s3, e3, _⟩ := DataW.trod_string Try.underlying9 g3
        obtain ⟨m1, rfl, hm1⟩ := wf_u64 w1
        have a0 := hat 0 (by omega)
        have a1 := hat 1 (by omega)
        have a2 := hat 2 (by omega)
        have a3 := hat 3 (by omega)
        rw [Go.Deep.add_add] at a0 a1 a2 a3
        refine ⟨⟨n0, m1, n2, s3⟩, hm1, ?_, ?_, ?_, ?_⟩
        · rw [show i * 4 = i * 4 + 0 from rfl, a0]; simpa using e0
        · rw [a1]; simpa using e1
        · rw [a2]; simpa using e2
        · rw [a3]; simpa using e3
    obtain ⟨q, hq⟩ := Go.Deep.choose_lt each
    refine ⟨some x, cap0, (List.range len0).map q, by simp, fun i hil => ?_, by unfold maxLen at hm; simp; omega⟩
    have hi' : i < len0 := by simpa using hil
    obtain ⟨hn, h0, h1, h2, h3⟩ := hq i hi'
    obtain ⟨b, off, spot⟩ := x
    have hspot : spot = none := by
      have := World.cell?_spot (hq 0 (by omega)).2.1
      simpa [Addr.add] using this
    subst hspot
    rw [addr_add] at h0 h1 h2 h3
    have e : ((List.range len0).map q)[i] = q i := by simp
    rw [e]
    exact ⟨b, off, rfl, cell_lt h0, hn, h0, by rw [Nat.add_assoc]; exact h1, by rw [Nat.add_assoc]; exact h2, by rw [Nat.add_assoc]; exact h3⟩
def FewEnd (n : Nat) (w : World) (e : Ending) (w' : World) : Prop := ∃ b : Bool, e = .returned (.bool b) ∧ w = w' ∧ (b = true → n ≤ 30)
set_option maxHeartbeats 1000000 in
theorem few_calls (a : Option Addr) (cap : Nat) (xs : List Pt) (ok : Nat → Prop) (w : World) (hx : PtsIn ok w a xs) (hL9 : xs.length ≤ 9223372036854775807) :
    Calls Try.prog 16 #[.slice a xs.length cap] w (FewEnd xs.length w) := by
  generalize hL : xs.length = L at *
  have HL := hid hL
  have HL9 := hid hL9
  clear hL hL9
  go_enter Try.func16, Try.ntmps16
  go_wp2_with fail
  go_loop [3, 4] (fun n i => ∃ (k : Nat) (m : Int), k ≤ L ∧ i = .int .i64 (k : Int) ∧ n = .int .i64 m) (fun _ i => L - (intOf i).toNat)
  case atStart => exact ⟨0, 0, Nat.zero_le _, rfl, rfl⟩
  case round =>
    obtain ⟨k, m, hk, rfl, rfl⟩ := hrel
    by_cases hgo : k < L ∧ m ≤ 70000
    · obtain ⟨hlt, hm⟩ := hgo
      obtain ⟨b0, off0, rfl, ho0, hn, h0, h1, h2, h3⟩ := hx k (by rw [HL.out]; exact hlt)
      generalize xs[k]'(by rw [HL.out]; exact hlt) = x at h3 hn h0 h1 h2
      have i0 : (k : Int) < (L : Int) := by omega
      have hw : IntKind.i64.wrap ((k : Int) + 1) = (k : Int) + 1 := IntWalk.i64_in _ (by have := HL9.out; omega)
      clear hx hn h0 h1 h2
      go_wp2_with fail
      go_round
      case rel => exact ⟨k + 1, _, hlt, by go_num, rfl⟩
      case measure => simp [intOf]; omega
    · clear hx
      by_cases hlt : k < L
      · have i0 : (k : Int) < (L : Int) := by omega
        have i1 : ¬ m ≤ 70000 := by omega
        by_cases h30 : L ≤ 30
        · have i2 : (L : Int) ≤ 30 := by omega
          clear hgo
          go_wp2_with fail
          go_ret
          exact ⟨_, rfl, rfl, fun _ => h30⟩
        · have i2 : ¬ (L : Int) ≤ 30 := by omega
          clear hgo
          go_wp2_with fail
          go_ret
          exact ⟨false, rfl, rfl, fun h => by cases h⟩
      · have i0 : ¬ (k : Int) < (L : Int) := by omega
        by_cases h30 : L ≤ 30
        · have i2 : (L : Int) ≤ 30 := by omega
          clear hgo
          go_wp2_with fail
          go_ret
          exact ⟨_, rfl, rfl, fun _ => h30⟩
        · have i2 : ¬ (L : Int) ≤ 30 := by omega
          clear hgo
          go_wp2_with fail
          go_ret
          exact ⟨false, rfl, rfl, fun h => by cases h⟩
end Go.Proofs.Ytkpadhjlopcejaa
