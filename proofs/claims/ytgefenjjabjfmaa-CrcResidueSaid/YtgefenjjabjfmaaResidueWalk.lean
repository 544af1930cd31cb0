/-
  CrcResidue: the walk.
-/
import Derived.Test.YtgefenjjabjfmaaBytesArg
namespace Go.Proofs.Ytgefenjjabjfmaa
open Go.RowKit Go.Shelf
theorem crcResidue_walk (a : Option Addr) (cap : Nat) (l : List UInt8) (w : World) (hm : l.length ≤ maxLen) (hb : BytesIn (fun k => k < w.heap.size) w a l) :
    Calls Try.prog 5 #[.slice a l.length cap] w fun e w' => e = .returned (.bool true) ∧ Below w.heap.size w w' := by
  by_cases hl : 2000 < l.length
  · go_enter Try.func5, Try.ntmps5
    go_wp2_with fail
    refine (known_any _).mono ?_
    rintro e w' ⟨rfl, hb⟩
    go_wp2
    go_ret
    exact ⟨rfl, hb⟩
  · have hr := Crc.residue l
    have hsl := Crc.sum_lt l
    go_enter Try.func5, Try.ntmps5
    go_wp2_with fail
    have hB0 : Below w.heap.size w (w.alloc (.cells #[.slice a l.length cap] 22)) := (Below.refl _ _).alloc (Nat.le_refl _) _
    have hk0 : Kept (fun k => k < w.heap.size) w (w.alloc (.cells #[.slice a l.length cap] 22)) := Kept.of_below hB0 (fun k hk => hk)
    refine (sumF_any 1 _ [l] _ (by simp [maxLen]) ?_ (by simp; omega)).mono ?_
    · refine PartsIn.of_one (cap := cap) (Blk.new' _ [_] _ rfl) (by simp) ?_ hm
      intro i hi
      obtain ⟨b, off, e, ho, hc⟩ := (hb.kept hk0) i hi
      exact ⟨b, off, e, by simp; omega, hc⟩
    rintro e w1 ⟨he, hb1⟩
    have hB1 : Below w.heap.size w w1 := hB0.trans (hb1.mono (by simp))
    rw [show [l].flatten = l from by simp] at he
    subst he
    go_wp2_with fail
    have r1 := Row.new w1 (List.map (fun x : UInt8 => Value.int .u8 (x.toNat : Int)) [UInt8.ofNat (Crc.sum l), UInt8.ofNat (Crc.sum l / 256), UInt8.ofNat (Crc.sum l / 65536), UInt8.ofNat (Crc.sum l / 16777216)]) 5 (0, 0)
    have hv : (List.map (fun x : UInt8 => Value.int .u8 (x.toNat : Int)) [UInt8.ofNat (Crc.sum l), UInt8.ofNat (Crc.sum l / 256), UInt8.ofNat (Crc.sum l / 65536), UInt8.ofNat (Crc.sum l / 16777216)]) =
        [.int .u8 ((Crc.sum l : Int) % 256), .int .u8 ((Crc.sum l : Int) / 256 % 256), .int .u8 ((Crc.sum l : Int) / 65536 % 256), .int .u8 ((Crc.sum l : Int) / 16777216)] := by
      simp only [List.map_cons, List.map_nil, UInt8.toNat_ofNat', Nat.reducePow]
      congr 4
      simp; omega
    rw [hv] at r1
    have hB2 : Below w.heap.size w (w1.alloc (.cells #[.int .u8 ((Crc.sum l : Int) % 256), .int .u8 ((Crc.sum l : Int) / 256 % 256), .int .u8 ((Crc.sum l : Int) / 65536 % 256), .int .u8 ((Crc.sum l : Int) / 16777216)] 5)) := hB1.alloc hB1.size _
    have hsz := hB1.size
    refine (sumF_any 2 _ [l, [UInt8.ofNat (Crc.sum l), UInt8.ofNat (Crc.sum l / 256), UInt8.ofNat (Crc.sum l / 65536), UInt8.ofNat (Crc.sum l / 16777216)]] _ (by simp [maxLen]) ?_ (by simp; omega)).mono ?_
    · refine PartsIn.of_two (cap := cap) (cap2 := 4) (Blk.new' _ [_, _] _ (by simp)) (by simp) ?_ hm (BytesIn.of_row (by rw [hv]; exact r1.alloc _) (by simp; omega)) (by simp [maxLen])
      intro i hi
      obtain ⟨b, off, e, ho, hc⟩ := hb i hi
      refine ⟨b, off, e, by simp; omega, ?_⟩
      rw [← hc]
      exact (hB2.alloc hB2.size _).cell (p := ⟨b, off + i, none⟩) ho
    rintro e w2 ⟨he, hb2⟩
    have hB3 : Below w.heap.size w w2 := (hB2.alloc hB2.size _).trans (hb2.mono (by simp; omega))
    rw [show [l, [UInt8.ofNat (Crc.sum l), UInt8.ofNat (Crc.sum l / 256), UInt8.ofNat (Crc.sum l / 65536), UInt8.ofNat (Crc.sum l / 16777216)]].flatten = l ++ [UInt8.ofNat (Crc.sum l), UInt8.ofNat (Crc.sum l / 256), UInt8.ofNat (Crc.sum l / 65536), UInt8.ofNat (Crc.sum l / 16777216)] from by simp, hr] at he
    subst he
    clear hb2 hB2 hv r1 hr
    go_wp2_with fail
    refine (known_any _).mono ?_
    rintro e w3 ⟨rfl, hb3⟩
    have hB4 := hB3.trans (hb3.mono hB3.size)
    go_wp2
    go_ret
    exact ⟨rfl, hB4⟩
end Go.Proofs.Ytgefenjjabjfmaa
