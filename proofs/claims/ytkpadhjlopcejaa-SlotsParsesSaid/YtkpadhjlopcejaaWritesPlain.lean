/-
  WireWrites: what its walk leans on.
-/
import Derived.Test.YtkpadhjlopcejaaRefNum
import Derived.Test.YtkpadhjlopcejaaLoose
namespace Go.Proofs.Ytkpadhjlopcejaa
open Go.RowKit Go.ChangeShapes Go.WideShapes Go.ChangeAt
attribute [local go_sem] AnyOrder.opK_value AnyOrder.opK_skip AnyOrder.opK_enter
theorem grows_of_drew {w w' : World} (h : AnyOrder.Grows w.drew w') : Below w.heap.size w w' := ⟨h.os, h.tape, h.output, h.size, h.block⟩
theorem BytesIn.grows {w w' : World} {a : Option Addr} {l : List UInt8} (h : BytesIn (fun k => k < w.heap.size) w a l) (hb : Below w.heap.size w w') : BytesIn (fun k => k < w'.heap.size) w' a l :=
  (h.kept (Kept.of_below hb fun _ h => h)).mono fun _ h => Nat.lt_of_lt_of_le h hb.size
/-- the relation of the loop -/
structure WritesAt (w0 : World) (P : Nat) (wr : World) (v : Value) (l : List UInt8) : Prop where
  st : Wst w0.heap.size w0 (fun k => v.ownBlock = some k) wr P l
  own : OwnB wr w0.heap.size v l
theorem WritesAt.drew {w0 : World} {P : Nat} {wr : World} {v : Value} {l : List UInt8} (h : WritesAt w0 P wr v l) : WritesAt w0 P wr.drew v l := by
  obtain ⟨⟨h1, h2, h3⟩, h4⟩ := h
  exact ⟨⟨h1, ⟨h2.os, h2.tape, h2.output, h2.size, h2.block⟩, h3⟩, h4⟩
theorem WritesAt.grows {w0 : World} {P : Nat} {wr w' : World} {v : Value} {l : List UInt8} (h : WritesAt w0 P wr v l) (hb : Below wr.heap.size wr w') : WritesAt w0 P w' v l :=
  ⟨(h.st.grows hb).less fun _ hk => .inl hk, h.own.below hb⟩
/-- the relation with the part's bytes beside it -/
structure WritesB (w0 : World) (P : Nat) (wr : World) (v : Value) (l : List UInt8) (vb : Value) (bs : List UInt8) : Prop where
  st : Wst w0.heap.size w0 (fun k => v.ownBlock = some k ∨ vb.ownBlock = some k) wr P l
  own : OwnB wr w0.heap.size v l
  bytes : OwnB wr w0.heap.size vb bs
theorem WritesAt.with {w0 : World} {P : Nat} {wr w' : World} {v vb : Value} {l bs : List UInt8} (h : WritesAt w0 P wr v l) (hb : Below wr.heap.size wr w') (ob : OwnB w' wr.heap.size vb bs) : WritesB w0 P w' v l vb bs :=
  ⟨(h.st.grows hb).less fun _ hk => hk.elim .inl fun e => .inr (ob.block e), h.own.below hb, ob.mono fun _ e => by have := (ob.block e).1; have := h.st.below.size; omega⟩
theorem WritesB.drew {w0 : World} {P : Nat} {wr : World} {v vb : Value} {l bs : List UInt8} (h : WritesB w0 P wr v l vb bs) : WritesB w0 P wr.drew v l vb bs := by
  obtain ⟨⟨h1, h2, h3⟩, h4, h5⟩ := h
  exact ⟨⟨h1, ⟨h2.os, h2.tape, h2.output, h2.size, h2.block⟩, h3⟩, h4, h5⟩
theorem WritesB.grows {w0 : World} {P : Nat} {wr w' : World} {v vb : Value} {l bs : List UInt8} (h : WritesB w0 P wr v l vb bs) (hb : Below wr.heap.size wr w') : WritesB w0 P w' v l vb bs :=
  ⟨(h.st.grows hb).less fun _ hk => .inl hk, h.own.below hb, h.bytes.below hb⟩
/-- behind the writer's call -/
structure WritesC (w0 : World) (P : Nat) (wr : World) (v : Value) (l r : List UInt8) (vb : Value) (bs : List UInt8) : Prop where
  st : Wst w0.heap.size w0 (fun k => v.ownBlock = some k) wr P r
  own : OwnB wr w0.heap.size v l
  bytes : OwnB wr w0.heap.size vb bs
theorem WritesB.wrote {w0 : World} {P : Nat} {wr w' : World} {v vb : Value} {l r bs : List UInt8} (h : WritesB w0 P wr v l vb bs) (h1 : Wst w0.heap.size w0 (fun k => v.ownBlock = some k ∨ vb.ownBlock = some k) w' P r) (hk : Kept (fun k => v.ownBlock = some k ∨ vb.ownBlock = some k) wr w') :
    WritesC w0 P w' v l r vb bs := ⟨h1.less fun _ hk => .inl hk, h.own.kept hk fun _ e => .inl e, h.bytes.kept hk fun _ e => .inr e⟩
theorem WritesC.none {w0 : World} {P : Nat} {wr : World} {v vb : Value} {l bs : List UInt8} (h : WritesC w0 P wr v l l vb bs) : WritesAt w0 P wr v l := ⟨h.st, h.own⟩
def numA (n : Nat) (b : Int) : Bool × List UInt8 := if 1 ≤ b ∧ b ≤ 8 then (decide (n < 256 ^ b.toNat), be n b.toNat) else (false, [])
def textA (s : ByteArray) : Bool × List UInt8 := if s.size ≤ 65535 then (true, be s.data.toList.length 2 ++ s.data.toList) else (false, [])
def truthA (n : Nat) : List UInt8 := [if decide (0 < n) then 1 else 0]
def encA (x : Bool × List UInt8) : Option (List UInt8) := if x.1 = true then some x.2 else none
theorem numA_enc (n : Nat) (b : Int) : numB n b = encA (numA n b) := by
  unfold numB encA numA
  by_cases h : 1 ≤ b ∧ b ≤ 8
  · simp only [h, and_self, true_and, if_true, decide_eq_true_eq]
  · simp only [h, false_and, if_false, Bool.false_eq_true]
theorem textA_enc (s : ByteArray) : textB s.data.toList = encA (textA s) := by
  unfold textB encA textA
  have e : s.data.toList.length = s.size := by simp
  by_cases h : s.size ≤ 65535
  · simp only [e, h, if_true]
  · simp only [e, h, if_false, Bool.false_eq_true]
theorem numA_short (n : Nat) (b : Int) : (numA n b).2.length ≤ 8 := by
  unfold numA
  split
  · show (be n b.toNat).length ≤ 8; rw [be_length]; omega
  · exact Nat.zero_le _
theorem textA_short (s : ByteArray) : (textA s).2.length ≤ 65537 := by
  unfold textA
  split
  · show (be s.data.toList.length 2 ++ s.data.toList).length ≤ 65537
    rw [List.length_append, be_length]
    have e : s.data.toList.length = s.size := by simp
    omega
  · exact Nat.zero_le _
theorem refnum_both (n : Nat) (b : Int) (w : World) (hn : n < 18446744073709551616) : Calls Try.prog 28 #[.int .u64 (n : Int), .int .i64 b] w fun e w' =>
    ∃ v, e = .returned (.tuple #[v, .bool (numA n b).1]) ∧ OwnB w' w.heap.size v (numA n b).2 ∧ Below w.heap.size w w' := by
  unfold numA
  by_cases h : 1 ≤ b ∧ b ≤ 8
  · obtain ⟨m, rfl⟩ : ∃ m : Nat, b = m := ⟨b.toNat, by omega⟩
    rw [if_pos h, Int.toNat_natCast]
    exact refnum_calls n m w hn (by omega)
  · rw [if_neg h]
    refine (refnum_out n b w h).mono ?_
    rintro e w' ⟨rfl, rfl⟩
    exact ⟨_, rfl, OwnB.nil _ _, Below.refl _ _⟩
theorem reftext_both (s : ByteArray) (w : World) : Calls Try.prog 29 #[.string s] w fun e w' =>
    ∃ v, e = .returned (.tuple #[v, .bool (textA s).1]) ∧ OwnB w' w.heap.size v (textA s).2 ∧ Below w.heap.size w w' := by
  unfold textA
  by_cases h : s.size ≤ 65535
  · rw [if_pos h]
    exact reftext_calls s w h
  · rw [if_neg h]
    refine (reftext_out s w (by omega)).mono ?_
    rintro e w' ⟨rfl, rfl⟩
    exact ⟨_, rfl, OwnB.nil _ _, Below.refl _ _⟩
theorem one_lit (w : World) (x : UInt8) (z : Int) (t : TypeId) (ht : t = 5) (hz : z = (x.toNat : Int)) : OwnB (w.alloc (.cells #[.int .u8 z] t)) w.heap.size (.slice (some ⟨w.heap.size, 0, none⟩) 1 1) [x] := by
  subst ht hz
  exact ⟨rfl, .inr ⟨w.heap.size, 1, _, rfl, Nat.le_refl _, heap_alloc_new w _, Nat.le_refl _, by decide, rfl, rfl⟩⟩
/-- what the writer and the wanted bytes come to -/
theorem written_cases (l : List UInt8) (x : Bool × List UInt8) (no : Int) : (x.1 = false ∧ written l (encA x) no = (l, no)) ∨ (x.1 = true ∧ 65536 < l.length + x.2.length ∧ written l (encA x) no = (l, 3)) ∨ (x.1 = true ∧ ¬ 65536 < l.length + x.2.length ∧ written l (encA x) no = (l ++ x.2, 0)) := by
  obtain ⟨f, b⟩ := x
  cases f
  · exact .inl ⟨rfl, rfl⟩
  · unfold encA written
    by_cases h : 65536 < l.length + b.length
    · exact .inr (.inl ⟨rfl, h, by simp [h]⟩)
    · exact .inr (.inr ⟨rfl, h, by simp [h]⟩)
theorem WritesAt.laid {w0 : World} {P : Nat} {w1 w3 : World} {v v' : Value} {l b : List UInt8} (ho : OwnB w1 w0.heap.size v l) (h1 : Wst w0.heap.size w0 (fun k => v.ownBlock = some k) w1 P (l ++ b))
    (h3 : OwnB w3 w0.heap.size v' (l ++ b)) (hg : w1.grownBy w3 v.ownBlock) (hv : v'.ownBlock = v.ownBlock ∨ v'.ownBlock = some w1.heap.size) : WritesAt w0 P w3 v' (l ++ b) := by
  have hk : Kept (fun k => k < w1.heap.size ∧ ¬ v.ownBlock = some k) w1 w3 := Kept.of_grown hg fun k hk => ⟨hk.1, fun e => hk.2 e.symm⟩
  refine ⟨(h1.other (tch := fun k => v.ownBlock = some k) hk (fun k hk => hk) (fun k hk => (ho.block hk).1)).less fun k hk => ?_, h3⟩
  rcases hv with hv | hv
  · exact .inl (hv ▸ hk)
  · have : k = w1.heap.size := by rw [hv] at hk; exact (Option.some.inj hk).symm
    exact .inr ⟨by omega, (h3.block hk).2⟩
end Go.Proofs.Ytkpadhjlopcejaa
