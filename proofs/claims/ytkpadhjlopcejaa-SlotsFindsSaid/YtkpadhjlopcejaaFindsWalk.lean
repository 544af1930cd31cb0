/-
  SlotsFinds: its walk, and its arguments opened.
-/
import Derived.Test.YtkpadhjlopcejaaSKnown
import Derived.Test.YtkpadhjlopcejaaSRFind
import Derived.ChangeMaps5
namespace Go.Proofs.Ytkpadhjlopcejaa
open Go.RowKit Go.ChangeShapes Go.WideShapes Go.ChangeAt
def TrueEnd (w : World) (e : Ending) (w' : World) : Prop := e = .returned (.bool true) ∧ Below w.heap.size w w'
theorem known_end (w0 w : World) (hb : Below w0.heap.size w0 w) : Calls Try.prog 34 #[] w fun e w' => e = .returned (.bool true) ∧ Below w0.heap.size w0 w' :=
  (known_calls w).mono fun _ _ h => ⟨h.1, hb.trans (h.2.mono hb.size)⟩
set_option maxRecDepth 100000 in
set_option maxHeartbeats 4000000 in
theorem sfinds_walk (k : Int) (v : Value) (xs : List Cl) (key : ByteArray) (w : World) (hp : PartC (fun q => q < w.heap.size) w v xs) : Calls Try.prog 11 #[.int .i64 k, v, .string key] w (TrueEnd w) := by
  have HP := hid hp
  have HR := hid (right_calls k v xs w hp)
  obtain ⟨a, cap, rfl, hx, -, -, -⟩ := hp
  have HF := hid (fewc_calls a cap xs _ w hx)
  have HK := hid (known_end w w (Below.refl _ _))
  generalize hL : xs.length = L at *
  have HL := hid hL
  clear hx hL
  go_enter Try.func11, Try.ntmps11
  go_wp2_with fail
  refine HF.out.mono ?_
  rintro e w1 ⟨b, rfl, rfl, hb⟩
  cases b
  · go_wp2_with fail
    refine HK.out.mono ?_
    rintro e w2 ⟨rfl, b2⟩
    have HB2 := hid b2
    clear b2
    go_wp2_with fail
    go_ret
    exact ⟨rfl, HB2.out⟩
  · have HN := hid (hb rfl).1
    clear hb
    by_cases hk3 : 300 < key.size
    · have i0 : (300 : Int) < (key.size : Int) := by omega
      go_wp2_with fail
      refine HK.out.mono ?_
      rintro e w2 ⟨rfl, b2⟩
      have HB2 := hid b2
      clear b2
      go_wp2_with fail
      go_ret
      exact ⟨rfl, HB2.out⟩
    · have i0 : ¬ (300 : Int) < (key.size : Int) := by omega
      go_wp2_with fail
      refine HR.out.mono ?_
      rintro e w2 ⟨rfl, b2⟩
      have HB2 := hid b2
      have HK2 := hid (known_end w w2 b2)
      clear b2
      by_cases hr : rightC k xs = true
      · rw [hr]
        have HRS := hid (rightC_rising hr)
        clear hr
        have HFD := hid (find_calls _ xs key w2 ((HP.out.below HB2.out).mono fun q hq => Nat.lt_of_lt_of_le hq HB2.out.size) HRS.out (by have := HN.out; rw [HL.out] at this; rw [HL.out]; omega))
        go_wp2_with fail
        refine HFD.out.mono ?_
        rintro e w3 ⟨n, rfl, hat, b3⟩
        have HAT := hid hat
        have HB3 := hid (HB2.out.trans (b3.mono HB2.out.size))
        have HRF := hid (rfind_calls _ xs key w3 ((HP.out.below HB3.out).mono fun q hq => Nat.lt_of_lt_of_le hq HB3.out.size))
        clear b3 hat
        go_wp2_with fail
        refine HRF.out.mono ?_
        rintro e w4 ⟨m, rfl, hat, b4⟩
        obtain rfl := hat.uniq HAT.out
        have HB4 := hid (HB3.out.trans (b4.mono HB3.out.size))
        have HK4 := hid (known_end w w4 HB4.out)
        clear b4 hat
        go_wp2_with fail
        refine HK4.out.mono ?_
        rintro e w5 ⟨rfl, b5⟩
        have HB5 := hid b5
        clear b5
        go_wp2_with fail
        go_ret
        exact ⟨rfl, HB5.out⟩
      · have hr' : rightC k xs = false := by simpa using hr
        rw [hr']
        clear hr hr'
        go_wp2_with fail
        refine HK2.out.mono ?_
        rintro e w3 ⟨rfl, b3⟩
        have HB3 := hid b3
        clear b3
        go_wp2_with fail
        go_ret
        exact ⟨rfl, HB3.out⟩
set_option maxRecDepth 100000 in
theorem slotsFinds_open {H : Type} (enc : TypeId × Value → H) (W : World) (base : Nat) (v0 v1 v2 : Value) (d0 d1 d2 : DataW H) (p0 p1 p2 : List MemPlace) (o0 : Value.okWide Try.prog W .any base 60 v0) (o1 : Value.okWide Try.prog W .any base 61 v1) (o2 : Value.okWide Try.prog W .any base 9 v2)
    (h0 : DataW.Trod enc Try.prog W 0 (fun _ => true) true 60 v0 d0 p0) (h1 : DataW.Trod enc Try.prog W 0 (fun _ => true) true 61 v1 d1 p1) (h2 : DataW.Trod enc Try.prog W 0 (fun _ => true) true 9 v2 d2 p2) :
    Calls Try.prog 11 #[v0, v1, v2] W fun e w' => e = .returned (.bool true) ∧ Below W.heap.size W w' := by
  obtain ⟨k, rfl, -⟩ := open_int Try.underlying60 o0 h0
  obtain ⟨xs, hx⟩ := cells_of enc W base v1 d1 p1 o1 h1
  obtain ⟨key, rfl, -⟩ := Go.ChangeMaps.open_string Try.underlying9 o2 h2
  exact sfinds_walk k v1 xs key W hx
end Go.Proofs.Ytkpadhjlopcejaa
