/-
  InboxEach: its arguments opened.
-/
import Derived.Test.YtnhcikbglcaboaaDoorEachWalk
import Derived.ProofKit
import Derived.OpenShut
namespace Go.Proofs.YtnhcikbglcaboaaDoor
open Go.ChangeShapes Go.WideShapes Go.ChangeAt Go.RowKit
variable {H : Type}
theorem inboxEach_open (enc : TypeId × Value → H) (W : World) (base : Nat) (v0 v1 : Value) (d0 d1 : DataW H) (p0 p1 : List MemPlace) (o0 : Value.okWide Tryd.prog W .any base 2 v0) (o1 : Value.okWide Tryd.prog W .any base 2 v1)
    (h0 : DataW.Trod enc Tryd.prog W 0 (fun _ => true) true 2 v0 d0 p0) (h1 : DataW.Trod enc Tryd.prog W 0 (fun _ => true) true 2 v1 d1 p1) (hT : TabAt W) :
    Calls Tryd.prog 5 #[v0, v1] W fun e w' => e = .returned (.bool true) ∧ Below W.heap.size W w' := by
  obtain ⟨a, rfl, -⟩ := open_int Tryd.underlying2 o0 h0
  obtain ⟨b, rfl, -⟩ := open_int Tryd.underlying2 o1 h1
  by_cases h : (1 ≤ a ∧ a ≤ 65535) ∧ (1 ≤ b ∧ b ≤ 65535)
  · exact each_in a b W hT h.1 h.2
  · exact each_out a b W hT h
end Go.Proofs.YtnhcikbglcaboaaDoor
