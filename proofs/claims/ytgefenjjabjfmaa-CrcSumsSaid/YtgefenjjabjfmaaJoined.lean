/-
  Parts, one behind the other: the walk of joined.
-/
import Derived.Test.YtgefenjjabjfmaaApp
namespace Go.Proofs.Ytgefenjjabjfmaa
open Go.RowKit Go.Shelf
theorem take_flat (ls : List (List UInt8)) (k : Nat) (h : k < ls.length) : (ls.take (k + 1)).flatten = (ls.take k).flatten ++ ls[k] := by
  rw [take_snoc _ _ h, List.flatten_append]; simp
def PartsNil (w : World) (a : Option Addr) (ls : List (List UInt8)) : Prop :=
  ∀ i (h : i < ls.length), ∃ b off c cap, a = some ⟨b, off, none⟩ ∧ b < w.heap.size ∧ w.cell? ⟨b, off + i, none⟩ = some (.slice c ls[i].length cap) ∧ BytesIn (fun k => k < w.heap.size) w c ls[i] ∧ ls[i].length ≤ maxLen ∧ (c = none → cap = 0)
theorem PartsNil.parts {w : World} {a : Option Addr} {ls : List (List UInt8)} (h : PartsNil w a ls) : PartsIn (fun k => k < w.heap.size) w a ls := by
  intro i hi
  obtain ⟨b, off, c, cap, e, ho, hc, hb, hm, _⟩ := h i hi
  exact ⟨b, off, c, cap, e, ho, hc, hb, hm⟩
theorem PartsNil.grows {w w' : World} {a : Option Addr} {ls : List (List UInt8)} (h : PartsNil w a ls) (hb : Below w.heap.size w w') : PartsNil w' a ls := by
  intro i hi
  obtain ⟨b, off, c, cap, e, ho, hc, hbb, hm, hn⟩ := h i hi
  exact ⟨b, off, c, cap, e, Nat.lt_of_lt_of_le ho hb.size, by rw [hb.cell (p := ⟨b, off + i, none⟩) ho]; exact hc, hbb.grows hb, hm, hn⟩
def JoinedPost (w : World) (ls : List (List UInt8)) (e : Ending) (w' : World) : Prop := ∃ (v : Value) (fb : Bool), e = .returned (.tuple #[v, .bool fb]) ∧ Below w.heap.size w w' ∧
      (fb = true → OwnB w' w.heap.size v ls.flatten ∧ ls.length ≤ 20 ∧ ls.flatten.length ≤ 3000)
theorem joined_any (a : Option Addr) (cap : Nat) (ls : List (List UInt8)) (w : World) (hl : ls.length ≤ maxLen) (hp : PartsNil w a ls) :
    Calls Try.prog 13 #[.slice a ls.length cap] w (JoinedPost w ls) := by
  unfold maxLen at hl
  go_enter Try.func13, Try.ntmps13
  go_wp2_with fail
  go_loopw [4, 5] (fun o i wr => ∃ k : Nat, k ≤ ls.length ∧ k ≤ 20 ∧ i = .int .i64 k ∧ Below w.heap.size w wr ∧ OwnB wr w.heap.size o (ls.take k).flatten ∧ (ls.take k).flatten.length ≤ 6000) (fun _ i _ => ls.length - (intOf i).toNat)
  case atStart => exact ⟨0, by omega, by omega, rfl, Below.refl _ _, by simpa using OwnB.nil _ _, by simp⟩
  case round =>
    obtain ⟨k, hk, hk20, rfl, hbel, hown, hlen⟩ := hrel
    obtain ⟨ao, co, rfl, hob, _, _, _⟩ := hown.slice
    by_cases hlt : k < ls.length
    · obtain ⟨b, off, c, cap', rfl, ho, hc, hb, hm, hn⟩ := hp k hlt
      rw [← hbel.cell (p := ⟨b, off + k, none⟩) ho] at hc
      have htf := take_flat ls k hlt
      have HTF := hid htf
      clear htf
      have hbg := hb.grows hbel
      generalize hx : ls[k] = x at *
      generalize (ls.take k).flatten = fl at *
      have HX := hid hx
      clear hx
      by_cases h1 : 3000 < x.length
      · go_wp2_with fail
        go_ret2
        exact ⟨.slice none 0 0, false, rfl, hbel, fun h => by cases h⟩
      · by_cases h2 : 20 ≤ k
        · go_wp2_with fail
          go_ret2
          exact ⟨.slice none 0 0, false, rfl, hbel, fun h => by cases h⟩
        · by_cases h3 : 3000 < fl.length
          · go_wp2_with fail
            go_ret2
            exact ⟨.slice none 0 0, false, rfl, hbel, fun h => by cases h⟩
          · go_wp2_with (at_builtin; refine wpList_appendB rfl (.tmp 27) (.tmp 31) rfl w.heap.size _ fl rfl hown c x.length cap' x rfl rfl hn hbg (by omega) hbel.size ?_; intro v1 w5 hv1 hg1; have hB5 := hbel.trans (grown_below hg1 hown hbel.size); clear hg1)
            go_roundw
            case rel => exact ⟨k + 1, by omega, by omega, by go_num, hB5, by rw [HTF.out]; exact hv1, by rw [HTF.out, List.length_append]; omega⟩
            case measure => simp [intOf]; omega
    · have hk' : k = ls.length := by omega
      have HK := hid hk'
      have HTK := hid (show (ls.take k).flatten = ls.flatten by rw [hk', List.take_length])
      clear hk' hp
      generalize (ls.take k).flatten = fl at *
      by_cases h3 : fl.length ≤ 3000
      · go_wp2_with fail
        go_ret2
        refine ⟨_, _, rfl, hbel, fun _ => ?_⟩
        rw [← HTK.out]
        exact ⟨hown, by rw [← HK.out]; exact hk20, h3⟩
      · go_wp2_with fail
        go_ret2
        exact ⟨_, _, rfl, hbel, fun h => by simp [show ¬ ((fl.length : Int) ≤ 3000) by omega] at h⟩
end Go.Proofs.Ytgefenjjabjfmaa
