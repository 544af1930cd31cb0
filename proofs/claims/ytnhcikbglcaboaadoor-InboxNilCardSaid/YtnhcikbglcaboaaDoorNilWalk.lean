/-
  InboxNil: its walk, and its argument opened.
-/
import Derived.Test.YtnhcikbglcaboaaDoorCopy
import Derived.ProofKit
import Derived.OpenShut
namespace Go.Proofs.YtnhcikbglcaboaaDoor
open Go.RowKit Go.Shelf Go.ChangeShapes Go.WideShapes Go.ChangeAt
set_option maxHeartbeats 1000000 in
theorem nil_walk (id : Int) (w : World) (hT : TabAt w) : Calls Tryd.prog 8 #[.int .i64 id] w fun e w' => e = .returned (.bool true) ∧ Below w.heap.size w w' := by
  have h0 := hT.1
  have HT := hid hT
  clear hT
  go_enter Tryd.func8, Tryd.ntmps8
  go_wp2_with fail
  have hb : Below w.heap.size w (w.alloc (.cells #[Value.pointer none, Value.int .i64 0] 50)) := (Below.refl _ w).alloc (Nat.le_refl _) _
  have hc : (w.alloc (.cells #[Value.pointer none, Value.int .i64 0] 50)).cell? ⟨w.heap.size, 0, none⟩ = some (Value.pointer none) := (Blk.new w [Value.pointer none, Value.int .i64 0] 50).cell 0
  have ht : TabAt (w.alloc (.cells #[Value.pointer none, Value.int .i64 0] 50)) := HT.out.below hb h0
  generalize w.alloc (.cells #[Value.pointer none, Value.int .i64 0] 50) = W1 at hb hc ht ⊢
  have HB := hid hb
  have HC := hid hc
  have HTT := hid ht
  clear hb hc ht
  refine (come_none id none _ (none_nil _)).mono ?_
  rintro e w1 ⟨rfl, rfl⟩
  go_wp2_with fail
  refine (go_none id (some ⟨w.heap.size, 0, none⟩) _ (none_hollow _ _ HC.out)).mono ?_
  rintro e w1 ⟨rfl, rfl⟩
  go_wp2_with fail
  refine (has_nil id _).mono ?_
  rintro e w1 ⟨rfl, rfl⟩
  go_wp2_with fail
  refine (has_hollow w.heap.size id _ HC.out).mono ?_
  rintro e w1 ⟨rfl, rfl⟩
  go_wp2_with fail
  refine (all_nil _).mono ?_
  rintro e w1 ⟨rfl, rfl⟩
  go_wp2_with fail
  refine (len_hollow w.heap.size _ HC.out).mono ?_
  rintro e w1 ⟨rfl, rfl⟩
  go_wp2_with fail
  refine (copy_none (some ⟨w.heap.size, 0, none⟩) _ (none_hollow _ _ HC.out)).mono ?_
  rintro e w1 ⟨rfl, rfl⟩
  go_wp2_with fail
  refine (isame_none w.heap.size _ HC.out).mono ?_
  rintro e w1 ⟨rfl, rfl⟩
  go_wp2_with fail
  refine (known_calls _ HTT.out).mono ?_
  rintro e w2 ⟨rfl, hk⟩
  go_wp2_with fail
  go_ret
  exact ⟨rfl, HB.out.trans (hk.mono HB.out.size)⟩
theorem inboxNil_open {H : Type} (enc : TypeId × Value → H) (W : World) (base : Nat) (v0 : Value) (d0 : DataW H) (p0 : List MemPlace) (o0 : Value.okWide Tryd.prog W .any base 2 v0)
    (h0 : DataW.Trod enc Tryd.prog W 0 (fun _ => true) true 2 v0 d0 p0) (hT : TabAt W) :
    Calls Tryd.prog 8 #[v0] W fun e w' => e = .returned (.bool true) ∧ Below W.heap.size W w' := by
  obtain ⟨a, rfl, -⟩ := open_int Tryd.underlying2 o0 h0
  exact nil_walk a W hT
end Go.Proofs.YtnhcikbglcaboaaDoor
