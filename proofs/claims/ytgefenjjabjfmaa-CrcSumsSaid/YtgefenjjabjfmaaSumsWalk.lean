/-
  CrcSums: the sum of any parts; copies go on apart: the walk.
-/
import Derived.Test.YtgefenjjabjfmaaJoined
namespace Go.Proofs.Ytgefenjjabjfmaa
open Go.RowKit Go.Shelf
def CPart (wr : World) (A B : Nat) (at_ : Int) (k : Nat) (cv av : Value) (fk ah : List UInt8) : Prop :=
  OwnB wr (A + 1) av ah ∧ ah.length ≤ 3000 ∧ ((cv = .pointer none ∧ ah = fk) ∨
    ∃ C, cv = .pointer (some ⟨C, 0, none⟩) ∧ A < C ∧ at_ < k ∧ av.ownBlock ≠ some C ∧ Blk wr C [.int .i64 (ah.length : Nat), .pointer (some ⟨B, 0, none⟩), .int .u32 ((Crc.run Crc.ones ah : Nat) : Int)])
structure SumsAt (w wr : World) (B n : Nat) (ab : Option Addr) (flat fk : List UInt8) : Prop where
  below : Below w.heap.size w wr
  lo : w.heap.size ≤ B
  bytes : BytesIn (fun k => k < B) wr ab flat
  words : WordsAt wr B
  adder : Blk wr (B + 1) [.int .i64 (fk.length : Nat), .pointer (some ⟨B, 0, none⟩), .int .u32 ((Crc.run Crc.ones fk : Nat) : Int)]
theorem kept_below {ok : Nat → Prop} {C : Nat} {a b c : World} (h : Below C a b) (k : Kept ok b c) (ho : ∀ k, k < C → ok k) : Below C a c :=
  h.trans ⟨k.os, k.tape, k.output, k.size, fun i hi => k.block i (ho i hi)⟩
theorem BytesIn.kept' {ok ok' : Nat → Prop} {w w' : World} {a : Option Addr} {l : List UInt8} (h : BytesIn ok' w a l) (hk : Kept ok w w') (ho : ∀ k, ok' k → ok k) : BytesIn ok' w' a l :=
  h.kept ⟨hk.os, hk.tape, hk.output, hk.size, fun k hk' => hk.block k (ho k hk')⟩
theorem WordsAt.kept {ok : Nat → Prop} {w w' : World} {b : Nat} (h : WordsAt w b) (hk : Kept ok w w') (ho : ok b) : WordsAt w' b :=
  ⟨Nat.lt_of_lt_of_le h.1 hk.size, fun i hi => by rw [hk.cell (p := ⟨b, i, none⟩) ho]; exact h.2 i hi⟩
theorem Blk.kept {ok : Nat → Prop} {w w' : World} {b : Nat} {vs : List Value} (h : Blk w b vs) (hk : Kept ok w w') (ho : ok b) : Blk w' b vs := by
  obtain ⟨t, h⟩ := h
  exact ⟨t, by rw [hk.block b ho]; exact h⟩
/-- what a Write leaves -/
theorem SumsAt.wrote {w wr w' : World} {B n : Nat} {ab : Option Addr} {flat fk x : List UInt8} (h : SumsAt w wr B n ab flat fk) (hk : Kept (fun k => k < wr.heap.size ∧ k ≠ B + 1) wr w')
    (hA : Blk w' (B + 1) [.int .i64 ((fk.length + x.length : Nat) : Int), .pointer (some ⟨B, 0, none⟩), .int .u32 ((Crc.run (Crc.run Crc.ones fk) x : Nat) : Int)]) : SumsAt w w' B n ab flat (fk ++ x) :=
  ⟨kept_below h.below hk (fun k hk' => ⟨Nat.lt_of_lt_of_le hk' h.below.size, by have := h.lo; omega⟩), h.lo, h.bytes.kept' hk (fun k hk' => ⟨Nat.lt_trans hk' h.words.1, by omega⟩), h.words.kept hk ⟨h.words.1, by omega⟩,
    by rw [List.length_append, Crc.run_append]; exact hA⟩
theorem SumsAt.part {w wr : World} {B n : Nat} {ab : Option Addr} {flat fk x : List UInt8} {c : Option Addr} (h : SumsAt w wr B n ab flat fk) (hx : BytesIn (fun k => k < w.heap.size) w c x) : BytesIn (fun k => k < wr.heap.size ∧ k ≠ B + 1) wr c x := by
  intro i hi
  obtain ⟨b, off, e, ho, hc⟩ := hx i hi
  have := h.lo
  have := h.below.size
  exact ⟨b, off, e, ⟨by omega, by omega⟩, by rw [h.below.cell (p := ⟨b, off + i, none⟩) ho]; exact hc⟩
theorem SumsAt.grows {w wr w' : World} {B n : Nat} {ab : Option Addr} {flat fk : List UInt8} (h : SumsAt w wr B n ab flat fk) (hb : Below (B + 2) wr w') : SumsAt w w' B n ab flat fk :=
  have hk : Kept (fun k => k < B + 2) wr w' := ⟨hb.os, hb.tape, hb.output, hb.size, fun k hk => hb.block k hk⟩
  ⟨h.below.trans (hb.mono (by have := h.lo; omega)), h.lo, h.bytes.kept' hk (fun k hk' => by omega), h.words.kept hk (by omega), h.adder.kept hk (by omega)⟩
theorem OwnB.kept' {w w' : World} {base A : Nat} {v : Value} {l : List UInt8} (h : OwnB w base v l) (hk : Kept (fun k => k < w.heap.size ∧ k ≠ A) w w') (hA : A < base) : OwnB w' base v l :=
  OwnB.kept h fun k o hk' ho => by rw [hk.block k ⟨(Array.getElem?_eq_some_iff.1 ho).1, by omega⟩]; exact ho
theorem SumsAt.kept {ok : Nat → Prop} {w wr w' : World} {B n : Nat} {ab : Option Addr} {flat fk : List UInt8} (h : SumsAt w wr B n ab flat fk) (hk : Kept ok wr w') (ho : ∀ k, k < B + 2 → ok k) : SumsAt w w' B n ab flat fk :=
  h.grows ⟨hk.os, hk.tape, hk.output, hk.size, fun k hk' => hk.block k (ho k hk')⟩
theorem OwnB.keptBlk {w w' : World} {base C : Nat} {v : Value} {l : List UInt8} (h : OwnB w base v l) (hk : Kept (fun k => k < w.heap.size ∧ k ≠ C) w w') (hC : v.ownBlock ≠ some C) : OwnB w' base v l := by
  obtain ⟨h1, h2⟩ := h
  refine ⟨h1, ?_⟩
  rcases h2 with h2 | ⟨g, cap, cur, rfl, hg, hh, r⟩
  · exact .inl h2
  · exact .inr ⟨g, cap, cur, rfl, hg, by rw [hk.block g ⟨(Array.getElem?_eq_some_iff.1 hh).1, fun e => hC (by rw [← e]; rfl)⟩]; exact hh, r⟩
theorem Blk.grown {w w' : World} {C : Nat} {vs : List Value} {row : Option Nat} (h : Blk w C vs) (hg : w.grownBy w' row) (hC : row ≠ Option.some C) : Blk w' C vs := by
  have hl := h.lt
  obtain ⟨t, h⟩ := h
  exact ⟨t, (hg.block C hl (fun e => hC e.symm)).trans h⟩
theorem OwnB.block {w : World} {base : Nat} {v : Value} {l : List UInt8} (h : OwnB w base v l) {C : Nat} (hC : w.heap.size ≤ C) : v.ownBlock ≠ some C := by
  rcases h.2 with ⟨rfl, _⟩ | ⟨g, cap, cur, rfl, _, hh, _⟩
  · intro e; cases e
  · intro e
    have : g = C := Option.some.inj e
    have := (Array.getElem?_eq_some_iff.1 hh).1
    omega
theorem sumOne3 (w : World) (bb : Nat) (a : Option Addr) (l : List UInt8) (cap : Nat) (hb : Blk w bb [.slice a l.length cap]) (h : BytesIn (fun k => k < w.heap.size) w a l) (hl : l.length ≤ 1099511627776) :
    Calls Try.prog 12 #[.slice (some ⟨bb, 0, none⟩) 1 1] w fun e w' => e = .returned (.int .u32 ((Crc.sum l : Nat) : Int)) ∧ Below w.heap.size w w' := by
  have := sumF_any 1 (some ⟨bb, 0, none⟩) [l] w (by simp [maxLen]) (PartsIn.of_one hb hb.lt h (by unfold maxLen; omega)) (by simp; omega)
  simpa using this
set_option maxHeartbeats 4000000 in
theorem crcSums_walk (a : Option Addr) (cap : Nat) (ls : List (List UInt8)) (x : UInt8) (at_ : Int) (w : World) (hl : ls.length ≤ maxLen) (hp : PartsNil w a ls) :
    Calls Try.prog 7 #[.slice a ls.length cap, .int .u8 (x.toNat : Int), .int .i64 at_] w fun e w' => e = .returned (.bool true) ∧ Below w.heap.size w w' := by
  have hx := x.toNat_lt
  have hl' := hl
  unfold maxLen at hl'
  go_enter Try.func7, Try.ntmps7
  go_wp2_with fail
  refine (joined_any a cap ls w hl hp).mono ?_
  rintro e w1 ⟨vb, fb, rfl, hB1, hfb⟩
  cases fb with
  | false =>
    clear hfb hp
    go_wp2_with fail
    refine (known_any _).mono ?_
    rintro e w2 ⟨rfl, hb2⟩
    go_wp2_with fail
    go_ret
    exact ⟨rfl, hB1.trans (hb2.mono hB1.size)⟩
  | true =>
    obtain ⟨hown, h20, h3000⟩ := hfb rfl
    obtain ⟨ab, capb, rfl, hby, _, _, hnb⟩ := hown.slice
    clear hfb hown
    have HP := hid hp
    clear hp
    have hpl : ∀ k, (ls.take k).flatten.length ≤ ls.flatten.length := fun k => by
      have := (came_prefix ls k 0).length_le
      rw [came_zero] at this
      exact this
    generalize hfl : ls.flatten = flat at *
    have HFL := hid hfl
    have HPL := hid hpl
    clear hfl hpl
    go_wp2_with fail
    refine (new_any w1).mono ?_
    rintro e w2 ⟨rfl, hb2, hw2, hz2, hA2⟩
    have hst : SumsAt w w2 w1.heap.size 0 ab flat [] := ⟨hB1.trans (hb2.mono hB1.size), hB1.size, hby.kept (Kept.of_below hb2 (fun k hk => hk)), hw2, hA2⟩
    generalize hB : w1.heap.size = B at hst
    have HBS := hid hB
    clear hB hz2 hA2 hw2 hb2 hB1 hby
    go_wp2_with fail
    go_loopw [10, 11, 12] (fun cv av i wr => ∃ (k : Nat) (ah : List UInt8), k ≤ ls.length ∧ i = .int .i64 k ∧ SumsAt w wr B 0 ab flat (ls.take k).flatten ∧ CPart wr (B + 1) B at_ k cv av (ls.take k).flatten ah) (fun _ _ i _ => ls.length - (intOf i).toNat)
    case atStart => exact ⟨0, [], by omega, rfl, hst, OwnB.nil _ _, by simp, .inl ⟨rfl, rfl⟩⟩
    case round =>
      obtain ⟨k, ah, hk, rfl, hs, hown, hah, hc⟩ := hrel
      by_cases hlt : k < ls.length
      · obtain ⟨b, off, c, cap', rfl, ho, hcl, hb, hm, hn⟩ := HP.out k hlt
        rw [← hs.below.cell (p := ⟨b, off + k, none⟩) ho] at hcl
        have htf := take_flat ls k hlt
        have hle : (ls.take k).flatten.length + ls[k].length ≤ 3000 := by
          have := HPL.out (k + 1)
          rw [htf, List.length_append] at this
          omega
        generalize hy : ls[k] = y at *
        generalize (ls.take k).flatten = fl at *
        have HTF := hid htf
        clear htf hy
        rcases hc with ⟨rfl, rfl⟩ | ⟨C, rfl, hAC, hat, hblk, hC⟩
        · by_cases hka : at_ = k
          · subst hka
            go_wp2_with fail
            refine (copyM_any (B + 1) B _ _ _ hs.adder).mono ?_
            rintro e w3 ⟨rfl, hb3, hC3, hz3⟩
            have hs3 := hs.grows (hb3.mono hs.adder.lt)
            have ho3 := hown.below hb3
            have hnb3 := hown.block (C := wr.heap.size) (Nat.le_refl _)
            have hCl := hs.adder.lt
            have hcl3 := hcl
            rw [← hb3.cell (p := ⟨b, off + k, none⟩) (Nat.lt_of_lt_of_le ho hs.below.size)] at hcl3
            have HZ3 := hid hz3
            clear hz3 hb3 hown hs hcl
            go_wp2_with fail
            refine (writeM_any (B + 1) B ah.length _ cap' c y w3 hs3.adder hs3.words (by omega) (Crc.run_lt _ (by decide)) hm (hs3.part hb) (by omega)).mono ?_
            rintro e w4 ⟨rfl, hk4, hA4⟩
            have hs4 := hs3.wrote hk4 hA4
            have ho4 := ho3.kept' hk4 (by omega)
            have hC4 := hC3.kept hk4 ⟨by rw [HZ3.out]; omega, by omega⟩
            clear hA4 hk4 ho3 hs3 hC3
            go_wp2_with fail
            go_roundw
            case rel => exact ⟨k + 1, ah, by omega, by go_num, by rw [HTF.out]; exact hs4, ho4, by omega, .inr ⟨wr.heap.size, rfl, hCl, by omega, hnb3, hC4⟩⟩
            case measure => simp [intOf]; omega
          · have hka2 : ((k : Int) == at_) = false := by simp; omega
            have hcb := hb.grows hs.below
            clear hka
            go_wp2_with (at_builtin; refine wpList_appendB rfl (.tmp 36) (.tmp 40) rfl (B + 2) _ ah rfl hown c y.length cap' y rfl rfl hn hcb (by omega) (by have := hs.adder.lt; omega) ?_; intro v1 w3 ho3 hg3; have hb3 := grown_below hg3 hown (by have := hs.adder.lt; omega); clear hg3; have hs3 := hs.grows hb3; have hcl3 := hcl; rw [← hb3.cell (p := ⟨b, off + k, none⟩) (by have := hs.lo; simp; omega)] at hcl3; clear hs hown hcl hcb hb3)
            refine (writeM_any (B + 1) B ah.length _ cap' c y w3 hs3.adder hs3.words (by omega) (Crc.run_lt _ (by decide)) hm (hs3.part hb) (by omega)).mono ?_
            rintro e w4 ⟨rfl, hk4, hA4⟩
            have hs4 := hs3.wrote hk4 hA4
            have ho4 := ho3.kept' hk4 (by omega)
            clear hA4 hk4 ho3 hs3
            go_wp2_with fail
            go_roundw
            case rel => exact ⟨k + 1, ah ++ y, by omega, by go_num, by rw [HTF.out]; exact hs4, ho4, by rw [List.length_append]; omega, .inl ⟨rfl, HTF.out.symm⟩⟩
            case measure => simp [intOf]; omega
        · have hka2 : ((k : Int) == at_) = false := by simp; omega
          go_wp2_with fail
          refine (writeM_any (B + 1) B fl.length _ cap' c y wr hs.adder hs.words (by omega) (Crc.run_lt _ (by decide)) hm (hs.part hb) (by omega)).mono ?_
          rintro e w4 ⟨rfl, hk4, hA4⟩
          have hs4 := hs.wrote hk4 hA4
          have ho4 := hown.kept' hk4 (by omega)
          have hC4 := hC.kept hk4 ⟨hC.lt, by omega⟩
          clear hA4 hk4 hown hs hC
          go_wp2_with fail
          go_roundw
          case rel => exact ⟨k + 1, ah, by omega, by go_num, by rw [HTF.out]; exact hs4, ho4, hah, .inr ⟨C, rfl, hAC, by omega, hblk, hC4⟩⟩
          case measure => simp [intOf]; omega
      · have HK := hid (show k = ls.length by omega)
        have hfl : (ls.take k).flatten = flat := by rw [HK.out, List.take_length]; exact HFL.out
        rw [hfl] at hs hc
        clear hfl
        go_wp2_with fail
        refine (rsum_any ab capb flat wr (by unfold maxLen; omega) (show BytesIn (fun k => k < wr.heap.size) wr ab flat from fun i hi => by
          obtain ⟨b, off, e, ho, hc⟩ := hs.bytes i hi
          exact ⟨b, off, e, by have := hs.words.1; omega, hc⟩)).mono ?_
        rintro e w3 ⟨rfl, rfl⟩
        go_wp2_with fail
        refine (sumF_any cap a ls wr hl (HP.out.grows hs.below).parts (by rw [HFL.out]; omega)).mono ?_
        rintro e w3 ⟨he, hb3⟩
        rw [HFL.out] at he
        subst he
        have hAlt := hs.adder.lt
        have hs3 := hs.grows (hb3.mono hAlt)
        have ho3 := hown.below hb3
        have hc3 : (u10 = .pointer none ∧ ah = flat) ∨ ∃ C, u10 = .pointer (some ⟨C, 0, none⟩) ∧ B + 1 < C ∧ u11.ownBlock ≠ some C ∧ Blk w3 C [.int .i64 (ah.length : Nat), .pointer (some ⟨B, 0, none⟩), .int .u32 ((Crc.run Crc.ones ah : Nat) : Int)] := by
          rcases hc with h | ⟨C, h1, h2, _, h4, h5⟩
          · exact .inl h
          · exact .inr ⟨C, h1, h2, h4, h5.below hb3 h5.lt⟩
        clear hs hown hc hb3 hAlt
        obtain ⟨aa, capa, rfl, hba, _, _, hna⟩ := ho3.slice
        go_wp2_with fail
        have hb3a : Below w3.heap.size w3 (w3.alloc (.cells #[.slice ab flat.length capb] 22)) := (Below.refl _ _).alloc (Nat.le_refl _) _
        refine (sumOne3 _ w3.heap.size ab flat capb (Blk.new w3 [_] 22) (fun i hi => by
          obtain ⟨b, off, e, ho, hc⟩ := hs3.bytes i hi
          exact ⟨b, off, e, by have := hs3.words.1; simp; omega, by rw [hb3a.cell (p := ⟨b, off + i, none⟩) (by have := hs3.words.1; simp; omega)]; exact hc⟩) (by omega)).mono ?_
        rintro e w4 ⟨rfl, hb4⟩
        have hb34 : Below w3.heap.size w3 w4 := hb3a.trans (hb4.mono (by simp))
        have hs4 := hs3.grows (hb34.mono hs3.adder.lt)
        have ho4 := ho3.below hb34
        have hc4 : (u10 = .pointer none ∧ ah = flat) ∨ ∃ C, u10 = .pointer (some ⟨C, 0, none⟩) ∧ B + 1 < C ∧ (Value.slice aa ah.length capa).ownBlock ≠ some C ∧ Blk w4 C [.int .i64 (ah.length : Nat), .pointer (some ⟨B, 0, none⟩), .int .u32 ((Crc.run Crc.ones ah : Nat) : Int)] := by
          rcases hc3 with h | ⟨C, h1, h2, h4, h5⟩
          · exact .inl h
          · exact .inr ⟨C, h1, h2, h4, h5.below hb34 h5.lt⟩
        clear hs3 ho3 hc3 hb34 hb4 hb3a hba
        go_wp2_with fail
        refine (sumM_any (B + 1) B flat.length _ w4 (Crc.run_lt _ (by decide)) hs4.adder).mono ?_
        rintro e w5 ⟨he, rfl⟩
        rw [show Crc.run Crc.ones flat ^^^ Crc.ones = Crc.sum flat from rfl] at he
        subst he
        go_wp2_with fail
        refine (lenM_any (B + 1) B flat.length _ w4 hs4.adder).mono ?_
        rintro e w5 ⟨rfl, rfl⟩
        go_wp2_with fail
        refine (word_any x.toNat w4 hx).mono ?_
        rintro e w5 ⟨rfl, rfl⟩
        go_wp2_with fail
        refine (rword_any x.toNat w4 hx).mono ?_
        rintro e w5 ⟨rfl, rfl⟩
        rcases hc4 with ⟨rfl, rfl⟩ | ⟨C, rfl, hAC, hblk, hC⟩
        · go_wp2_with fail
          refine (known_any _).mono ?_
          rintro e w6 ⟨rfl, hb6⟩
          go_wp2_with fail
          go_ret
          exact ⟨rfl, hs4.below.trans (hb6.mono hs4.below.size)⟩
        · obtain ⟨a9, c9, hv9, hba, _, _, hna'⟩ := ho4.slice
          have hv9' : a9 = aa ∧ c9 = capa := by cases hv9; exact ⟨rfl, rfl⟩
          obtain ⟨rfl, rfl⟩ := hv9'
          have hxs : ([x] : List UInt8).map (fun y => Value.int .u8 (y.toNat : Int)) = [.int .u8 (x.toNat : Int)] := rfl
          have hBw := hs4.words.1
          clear hv9
          go_wp2_with fail
          refine (sumM_any C B ah.length _ w4 (Crc.run_lt _ (by decide)) hC).mono ?_
          rintro e w5 ⟨he, rfl⟩
          rw [show Crc.run Crc.ones ah ^^^ Crc.ones = Crc.sum ah from rfl] at he
          subst he
          go_wp2_with fail
          refine (rsum_any a9 c9 ah w4 (by unfold maxLen; omega) hba).mono ?_
          rintro e w5 ⟨rfl, rfl⟩
          go_wp2_with fail
          have hb5 : Below w4.heap.size w4 (w4.alloc (.cells #[.int .u8 (x.toNat : Int)] 5)) := (Below.refl _ _).alloc (Nat.le_refl _) _
          have hrow := Row.new w4 [.int .u8 (x.toNat : Int)] 5 (0, 0)
          have hwr := writeM_any C B ah.length _ 1 (some ⟨w4.heap.size, 0, none⟩) [x] (w4.alloc (.cells #[.int .u8 (x.toNat : Int)] 5)) (hC.alloc _) (hs4.words.below hb5 hBw) (by omega) (Crc.run_lt _ (by decide)) (by simp [maxLen])
            (BytesIn.of_row (by rw [hxs]; exact hrow) ⟨by simp, by have := hC.lt; omega⟩) (by simp; omega)
          refine hwr.mono ?_
          rintro e w6 ⟨rfl, hk6, hC6⟩
          have hs6 := (hs4.grows (hb5.mono hs4.adder.lt)).kept hk6 (fun k hk' => ⟨by have := hs4.adder.lt; simp; omega, by omega⟩)
          have ho6 := (ho4.below hb5).keptBlk hk6 hblk
          rw [← Crc.run_append] at hC6
          clear hwr hk6 hrow hb5 hs4 ho4 hC hba hBw
          go_wp2_with fail
          refine (sumM_any C B _ _ w6 (Crc.run_lt _ (by decide)) hC6).mono ?_
          rintro e w7 ⟨he, rfl⟩
          rw [show Crc.run Crc.ones (ah ++ [x]) ^^^ Crc.ones = Crc.sum (ah ++ [x]) from rfl] at he
          subst he
          have hb7 : Below w6.heap.size w6 (w6.alloc (.cells #[.int .u8 (x.toNat : Int)] 5)) := (Below.refl _ _).alloc (Nat.le_refl _) _
          have hrow7 := Row.new w6 [.int .u8 (x.toNat : Int)] 5 (0, 0)
          have ho7 := ho6.below hb7
          have hs7 := hs6.grows (hb7.mono hs6.adder.lt)
          have hC7 := hC6.alloc (.cells #[.int .u8 (x.toNat : Int)] 5)
          clear hs6 ho6 hC6 hb7
          go_wp2_with (at_builtin; refine wpList_appendB rfl (.tmp 99) (.tmp 101) rfl (B + 2) _ ah rfl ho7 (some ⟨w6.heap.size, 0, none⟩) 1 1 [x] rfl rfl (fun h => by cases h) (BytesIn.of_row (by rw [hxs]; exact hrow7) (by simp)) (by omega) (by have := hs7.adder.lt; omega) ?_; intro v8 w8 ho8 hg8; have hs8 := hs7.grows (grown_below hg8 ho7 (by have := hs7.adder.lt; omega)); have hC8 := hC7.grown hg8 hblk; obtain ⟨a8, c8, rfl, hb8, _⟩ := ho8.slice; clear hg8 ho7 hs7 hC7 ho8 hrow7)
          have h10 := rsum_any a8 c8 (ah ++ [x]) w8 (by unfold maxLen; simp; omega) hb8
          rw [List.length_append] at h10
          refine (show Calls Try.prog 10 #[.slice a8 (ah.length + 1) c8] w8 _ from h10).mono ?_
          clear h10 hb8
          rintro e w9 ⟨rfl, rfl⟩
          go_wp2_with fail
          refine (lenM_any C B _ _ w8 hC8).mono ?_
          rintro e w9 ⟨rfl, rfl⟩
          go_wp2_with fail
          refine (sumM_any (B + 1) B flat.length _ w8 (Crc.run_lt _ (by decide)) hs8.adder).mono ?_
          rintro e w9 ⟨he, rfl⟩
          rw [show Crc.run Crc.ones flat ^^^ Crc.ones = Crc.sum flat from rfl] at he
          subst he
          go_wp2_with fail
          refine (known_any _).mono ?_
          rintro e w10 ⟨rfl, hb10⟩
          go_wp2_with fail
          go_ret
          exact ⟨rfl, hs8.below.trans (hb10.mono hs8.below.size)⟩
end Go.Proofs.Ytgefenjjabjfmaa
