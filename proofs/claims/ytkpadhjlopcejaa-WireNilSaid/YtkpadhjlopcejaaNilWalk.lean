/-
  WireNil: its walk, and its arguments opened.
-/
import Derived.Test.YtkpadhjlopcejaaWState
import Derived.ProofKit
import Derived.OpenShut
import Derived.ShutString
namespace Go.Proofs.Ytkpadhjlopcejaa
open Go.RowKit Go.ChangeShapes Go.WideShapes Go.ChangeAt
theorem wnil_out (n : Int) (s : ByteArray) (w : World) (h : 100 < s.size) : Calls Try.prog 8 #[.int .u64 n, .string s] w fun e w' => e = .returned (.bool true) ∧ Below w.heap.size w w' := by
  have HK := hid (wknown_calls w)
  have h' : (100 : Int) < (s.size : Int) := by omega
  go_enter Try.func8, Try.ntmps8
  go_wp2_with (refine HK.out.mono ?_; rintro e w' ⟨rfl, hB⟩)
  go_ret
  exact ⟨rfl, hB⟩
set_option maxRecDepth 10000 in
set_option maxHeartbeats 2000000 in
theorem wnil_in (n : Int) (s : ByteArray) (w : World) (h : ¬ 100 < s.size) : Calls Try.prog 8 #[.int .u64 n, .string s] w fun e w' => e = .returned (.bool true) ∧ Below w.heap.size w w' := by
  have h' : ¬ (100 : Int) < (s.size : Int) := by omega
  clear h
  go_enter Try.func8, Try.ntmps8
  have b1 : Below w.heap.size w ((w.alloc (.cells #[.slice none 0 0, .bool false] 57)).alloc (.cells #[.slice none 0 0, .bool false] 58)) := ((Below.refl _ w).alloc (Nat.le_refl _) _).alloc (by simp) _
  have c1 : ((w.alloc (.cells #[.slice none 0 0, .bool false] 57)).alloc (.cells #[.slice none 0 0, .bool false] 58)).cell? ⟨w.heap.size, 1, none⟩ = some (.bool false) := ((Blk.new w [.slice none 0 0, .bool false] 57).alloc _).cell 1
  have c2 : ((w.alloc (.cells #[.slice none 0 0, .bool false] 57)).alloc (.cells #[.slice none 0 0, .bool false] 58)).cell? ⟨w.heap.size + 1, 1, none⟩ = some (.bool false) := (Blk.new' (w.alloc (.cells #[.slice none 0 0, .bool false] 57)) [.slice none 0 0, .bool false] 58 (b := w.heap.size + 1) (by simp)).cell 1
  have B1 := hid b1
  have C1 := hid c1
  have C2 := hid c2
  clear b1 c1 c2
  go_wp2_with fail
  generalize ((w.alloc (.cells #[.slice none 0 0, .bool false] 57)).alloc (.cells #[.slice none 0 0, .bool false] 58)) = W at *
  refine (rnumber_none none 1 _ (rnone_nil _)).mono ?_
  rintro e w1 ⟨rfl, rfl⟩
  go_wp2_with fail
  refine (rtext_none (some ⟨w.heap.size + 1, 0, none⟩) _ (rnone_at _ false _ C2.out)).mono ?_
  rintro e w1 ⟨rfl, rfl⟩
  go_wp2_with fail
  refine (rtruth_none none _ (rnone_nil _)).mono ?_
  rintro e w1 ⟨rfl, rfl⟩
  go_wp2_with fail
  refine (number_none none n 8 _ (wnone_nil _)).mono ?_
  rintro e w1 ⟨rfl, rfl⟩
  go_wp2_with fail
  refine (text_none (some ⟨w.heap.size, 0, none⟩) s _ (wnone_at _ false _ C1.out)).mono ?_
  rintro e w1 ⟨rfl, rfl⟩
  go_wp2_with fail
  refine (truth_none none true _ (wnone_nil _)).mono ?_
  rintro e w1 ⟨rfl, rfl⟩
  go_wp2_with fail
  refine (bytes_none none _ (wnone_nil _)).mono ?_
  rintro e w1 ⟨rfl, rfl⟩
  go_wp2_with fail
  refine (rest_none (some ⟨w.heap.size + 1, 0, none⟩) _ (rnone_at _ false _ C2.out)).mono ?_
  rintro e w1 ⟨rfl, rfl⟩
  go_wp2_with fail
  refine (len_none (some ⟨w.heap.size, 0, none⟩) _ (wnone_at _ false _ C1.out)).mono ?_
  rintro e w1 ⟨rfl, rfl⟩
  go_wp2_with fail
  refine (left_none none _ (rnone_nil _)).mono ?_
  rintro e w1 ⟨rfl, rfl⟩
  go_wp2_with fail
  refine (wknown_calls _).mono ?_
  rintro e w2 ⟨rfl, hk⟩
  go_wp2_with fail
  go_ret
  exact ⟨rfl, B1.out.trans (hk.mono B1.out.size)⟩
set_option maxRecDepth 100000 in
theorem wireNil_open {H : Type} (enc : TypeId × Value → H) (W : World) (base : Nat) (v0 v1 : Value) (d0 d1 : DataW H) (p0 p1 : List MemPlace) (o0 : Value.okWide Try.prog W .any base 28 v0) (o1 : Value.okWide Try.prog W .any base 9 v1)
    (h0 : DataW.Trod enc Try.prog W 0 (fun _ => true) true 28 v0 d0 p0) (h1 : DataW.Trod enc Try.prog W 0 (fun _ => true) true 9 v1 d1 p1) :
    Calls Try.prog 8 #[v0, v1] W fun e w' => e = .returned (.bool true) ∧ Below W.heap.size W w' := by
  obtain ⟨a, rfl, -⟩ := open_int Try.underlying28 o0 h0
  obtain ⟨s, rfl, -⟩ := ChangeMaps.open_string Try.underlying9 o1 h1
  by_cases h : 100 < s.size
  · exact wnil_out a s W h
  · exact wnil_in a s W h
end Go.Proofs.Ytkpadhjlopcejaa
