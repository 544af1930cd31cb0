/-
  The document's text: plain law of the lax reader; text's walk.
-/
import Derived.Test.YtkpadhjlopcejaaSAll
import Derived.Test.YtkpadhjlopcejaaSGuard
namespace Go.Proofs.Ytkpadhjlopcejaa
open Go.RowKit
/-- as readC, but that any byte other than 1 tells a text of its own -/
def readL (leaf : Bool) (l : List UInt8) : Option (Cl × List UInt8) :=
  match readS l with
  | none => none
  | some (key, l) =>
    if leaf then
      match l with
      | [] => none
      | x :: l =>
        if x.toNat = 1 then match readN 4 l with | none => none | some (p, l) => match readN 4 l with | none => none | some (s, l) => some (⟨key, ⟨#[]⟩, true, p, s⟩, l)
        else match readS l with | none => none | some (t, l) => some (⟨key, t, false, 0, 0⟩, l)
    else match readN 4 l with | none => none | some (p, l) => some (⟨key, ⟨#[]⟩, false, p, 0⟩, l)
def readLs (leaf : Bool) (l : List UInt8) : Nat → Option (List Cl × List UInt8)
  | 0 => some ([], l)
  | n + 1 => match readLs leaf l n with | none => none | some (cs, r) => match readL leaf r with | none => none | some (c, r) => some (cs ++ [c], r)
theorem readL_of {leaf : Bool} {l : List UInt8} {x : Cl × List UInt8} (h : readC leaf l = some x) : readL leaf l = some x := by
  unfold readC at h
  unfold readL
  cases hs : readS l with
  | none => rw [hs] at h; cases h
  | some y =>
    obtain ⟨key, l1⟩ := y
    rw [hs] at h
    simp only at h ⊢
    cases leaf
    · exact h
    · simp only [if_true] at h ⊢
      cases l1 with
      | nil => exact h
      | cons y l2 =>
        simp only at h ⊢
        by_cases h0 : y.toNat = 0
        · rw [if_pos h0] at h
          rw [if_neg (by omega)]
          exact h
        · rw [if_neg h0] at h
          by_cases h1 : y.toNat = 1
          · rw [if_pos h1] at h ⊢
            exact h
          · rw [if_neg h1] at h
            cases h
theorem readLs_of {leaf : Bool} {l : List UInt8} : ∀ {n : Nat} {cs : List Cl} {r : List UInt8}, readCs leaf l n = some (cs, r) → readLs leaf l n = some (cs, r)
  | 0, _, _, h => h
  | n + 1, cs, r, h => by
    rw [readCs] at h
    rw [readLs]
    cases hn : readCs leaf l n with
    | none => rw [hn] at h; cases h
    | some x =>
      obtain ⟨cs1, r1⟩ := x
      rw [hn] at h
      rw [readLs_of hn]
      simp only at h ⊢
      cases hc : readC leaf r1 with
      | none => rw [hc] at h; cases h
      | some y =>
        rw [hc] at h
        rw [readL_of hc]
        exact h
theorem readLs_none {leaf : Bool} {l : List UInt8} {n m : Nat} (h : readLs leaf l n = none) (hm : n ≤ m) : readLs leaf l m = none := by
  induction m with
  | zero => rw [show n = 0 from by omega] at h; exact h
  | succ m ih =>
    by_cases e : n = m + 1
    · rw [← e]; exact h
    · rw [readLs, ih (by omega)]
theorem readLs_length {leaf : Bool} {l : List UInt8} : ∀ {n : Nat} {cs r}, readLs leaf l n = some (cs, r) → cs.length = n
  | 0, cs, r, h => by simp [readLs] at h; rw [h.1]; rfl
  | n + 1, cs, r, h => by
    rw [readLs] at h
    split at h
    · cases h
    · next cs1 r1 h1 =>
      split at h
      · cases h
      · cases h
        rw [List.length_append, readLs_length h1]; rfl
theorem parseL_none {k : Int} {b : List UInt8} {j : Nat} (hk : k = 2 ∨ k = 3) (hj : j ≤ val (b.take 2)) (h : readLs (decide (k = 2)) (b.drop (2 + 2 * val (b.take 2))) j = none) : parseC k b = ([], 151) := by
  unfold parseC
  rw [if_pos hk]
  split
  · rfl
  · split
    · rfl
    · cases hc : readCs (decide (k = 2)) (b.drop (2 + 2 * val (b.take 2))) (val (b.take 2)) with
      | none => rfl
      | some x =>
        obtain ⟨cs, r⟩ := x
        have := readLs_of hc
        rw [readLs_none h hj] at this
        cases this
theorem parseL_end {k : Int} {b rest : List UInt8} {cs : List Cl} (hk : k = 2 ∨ k = 3) (g : ¬ (232 < b.length ∨ b.length < 2)) (g2 : ¬ b.length < 2 + 2 * val (b.take 2)) (h : readLs (decide (k = 2)) (b.drop (2 + 2 * val (b.take 2))) (val (b.take 2)) = some (cs, rest)) :
    parseC k b = if rightC k cs = true ∧ allC (decide (k = 2)) cs = b then (cs, 0) else ([], 151) := by
  by_cases hr : rightC k cs = true ∧ allC (decide (k = 2)) cs = b
  · rw [if_pos hr]
    have hp := parse_all hr.1 (by rw [← allC_length, hr.2]; omega)
    rwa [hr.2] at hp
  · rw [if_neg hr]
    unfold parseC
    rw [if_pos hk, if_neg g, if_neg g2]
    cases hc : readCs (decide (k = 2)) (b.drop (2 + 2 * val (b.take 2))) (val (b.take 2)) with
    | none => rfl
    | some x =>
      obtain ⟨cs2, r2⟩ := x
      have := readLs_of hc
      rw [h] at this
      cases this
      simp only
      rw [if_neg fun h => hr ⟨h.2.1, h.2.2⟩]
def TxEnd (ok : Nat → Prop) (x : Option (ByteArray × List UInt8)) (w : World) (e : Ending) (w' : World) : Prop :=
  (match x with | some (s, r) => ∃ v, e = .returned (.tuple #[.string s, v, .bool true]) ∧ PartB ok w' v r | none => e = .returned (.tuple #[.string ⟨#[]⟩, .slice none 0 0, .bool false])) ∧ Below w.heap.size w w'
theorem partB_mid {ok : Nat → Prop} {w : World} {a : Option Addr} {cap : Nat} {l : List UInt8} (h : BytesIn ok w a l) (hc : l.length ≤ cap ∧ cap ≤ maxLen ∧ (a = none → cap = 0)) (lo n : Nat) (hn : lo + n ≤ l.length) : PartB ok w (sliced a lo (lo + n) cap 1) ((l.drop lo).take n) := by
  refine ⟨if cap = lo then a else a.map (·.add (lo * 1)), cap - lo, by unfold sliced; simp; omega, ?_, by simp; omega, by omega, fun e => ?_⟩
  · by_cases hcn : cap = lo
    · rw [if_pos hcn, show (l.drop lo).take n = [] from by rw [List.drop_eq_nil_of_le (by omega)]; simp]
      exact BytesIn.nil _ _ _
    · rw [if_neg hcn]; exact (h.drop lo).take n
  · by_cases hcn : cap = lo
    · omega
    · rw [if_neg hcn] at e
      have := hc.2.2 (by simpa using e)
      omega
set_option maxRecDepth 100000 in
set_option maxHeartbeats 4000000 in
theorem rtx_calls (ok : Nat → Prop) (v : Value) (l : List UInt8) (w : World) (hp : PartB ok w v l) (hw : ∀ q, ok q → q < w.heap.size) : Calls Try.prog 65 #[v] w (TxEnd ok (readS l) w) := by
  have hmx : Try.prog.follows .mixedOrders = true := by kernel_rfl
  have HP := hid hp
  have HOW := hid hw
  have hl : l.length ≤ 9223372036854775807 := by obtain ⟨_, _, _, _, h1, h2, _⟩ := hp; unfold maxLen at h2; omega
  obtain ⟨a, cap, rfl, hx, hc1, hc2, hc3⟩ := hp
  cases l with
  | nil =>
    clear hx hc1 hc2 hc3
    simp only [List.length_nil]
    go_enter Try.func65, Try.ntmps65
    go_wp2_with fail
    exact bodyPost_ret (v := .tuple #[.string ⟨#[]⟩, .slice none 0 0, .bool false]) (by simp [results, Try.results65, go_sem]) rfl ⟨rfl, Below.refl _ _⟩
  | cons x r =>
    obtain ⟨b0, off0, rfl, ho0, c0⟩ := hx 0 (by simp)
    simp only [List.getElem_cons_zero, Nat.add_zero] at c0
    have hxl := x.toNat_lt
    obtain ⟨n, hn⟩ : ∃ n, n = x.toNat := ⟨_, rfl⟩
    rw [← hn] at c0 hxl
    have hL : (x :: r).length = r.length + 1 := rfl
    rw [hL] at hc1
    simp only [hL]
    have i0 : ¬ ((r.length : Int) + 1 < 1) := by omega
    have hw1 : IntKind.i64.wrap (n : Int) = (n : Int) := IntWalk.i64_in _ (by omega)
    have hw2 : IntKind.i64.wrap (1 + (n : Int)) = 1 + (n : Int) := IntWalk.i64_in _ (by omega)
    by_cases hs : r.length < n
    · have hrs : readS (x :: r) = none := by rw [readS, if_pos (by omega)]
      rw [hrs]
      have i1 : (r.length : Int) + 1 < 1 + (n : Int) := by omega
      have i2 : (0 : Int) < (r.length : Int) + 1 := by omega
      generalize r.length = rl at *
      clear hx hc1 hc2 hc3 hrs
      go_enter Try.func65, Try.ntmps65
      go_wp2_with fail
      exact bodyPost_ret (v := .tuple #[.string ⟨#[]⟩, .slice none 0 0, .bool false]) (by simp [results, Try.results65, go_sem]) rfl ⟨rfl, Below.refl _ _⟩
    · have hrs : readS (x :: r) = some (⟨(r.take n).toArray⟩, r.drop n) := by rw [readS, if_neg (by omega), hn]
      rw [hrs]
      have hm := fun w' (h : PartB ok w' (.slice (some ⟨b0, off0, none⟩) (r.length + 1) cap) (x :: r)) => partB_mid (lo := 1) (n := n) h.at.1 ⟨by rw [hL]; exact hc1, hc2, fun e => by cases e⟩ (by rw [hL]; omega)
      have hh := fun w' (h : PartB ok w' (.slice (some ⟨b0, off0, none⟩) (r.length + 1) cap) (x :: r)) => partB_high (cap := cap) h.at.1 ⟨by rw [hL]; exact hc1, hc2, fun e => by cases e⟩ (1 + n) (by rw [hL]; omega)
      rw [hL] at hh
      have e1 : ((x :: r).drop 1).take n = r.take n := rfl
      have e2 : (x :: r).drop (1 + n) = r.drop n := by rw [Nat.add_comm]; rfl
      rw [e1] at hm
      rw [e2] at hh
      obtain ⟨V1, hV1⟩ : ∃ V, V = sliced (some ⟨b0, off0, none⟩) 1 (1 + n) cap 1 := ⟨_, rfl⟩
      obtain ⟨V2, hV2⟩ : ∃ V, V = sliced (some ⟨b0, off0, none⟩) (1 + n) (r.length + 1) cap 1 := ⟨_, rfl⟩
      rw [← hV1] at hm
      rw [← hV2] at hh
      have HV1 := hid hV1
      have HV2 := hid hV2
      have HM := hid hm
      have HH := hid hh
      have i1 : ¬ (r.length : Int) + 1 < 1 + (n : Int) := by omega
      have i2 : (0 : Int) < (r.length : Int) + 1 := by omega
      have i3 : (1 : Int) ≤ 1 + (n : Int) := by omega
      have i4 : 1 + (n : Int) ≤ (cap : Int) := by omega
      have i5 : 1 + (n : Int) ≤ (r.length : Int) + 1 := by omega
      have i6 : (1 + (n : Int)).toNat = 1 + n := by omega
      have i7 : (0 : Int) ≤ 1 + (n : Int) := by omega
      have HP2 := hid (show PartB ok w (.slice (some ⟨b0, off0, none⟩) (r.length + 1) cap) (x :: r) from HP.out)
      have HLT := hid (show (r.take n).length = n by rw [List.length_take]; omega)
      generalize hrl : r.length = rl at *
      clear hx hc1 hc2 hc3 hrs hm hh e1 e2 hV1 hV2 hL hs hl hn
      go_enter Try.func65, Try.ntmps65
      go_wp2_with fail
      refine AnyOrder.wp_region_grows_g [
          fun v _ => v = .slice (some ⟨b0, off0, none⟩) (rl + 1) cap,
          fun v _ => v = .slice (some ⟨b0, off0, none⟩) (rl + 1) cap,
          fun v _ => v = .pointer (some ⟨b0, off0, none⟩),
          fun v _ => v = .int .u8 (n : Int),
          fun v _ => v = .int .i64 (n : Int),
          fun v _ => v = .int .i64 (1 + (n : Int)),
          fun v _ => v = V1,
          fun v _ => v = .string ⟨(r.take n).toArray⟩,
          fun v _ => v = .slice (some ⟨b0, off0, none⟩) (rl + 1) cap,
          fun v _ => v = .slice (some ⟨b0, off0, none⟩) (rl + 1) cap,
          fun v _ => v = .pointer (some ⟨b0, off0, none⟩),
          fun v _ => v = .int .u8 (n : Int),
          fun v _ => v = .int .i64 (n : Int),
          fun v _ => v = .int .i64 (1 + (n : Int)),
          fun v _ => v = V2,
          fun v _ => v = .string ⟨(r.take n).toArray⟩,
          fun v _ => v = V2,
          fun v _ => v = .bool true] hmx (by kernel_rfl) ?_ ?_ ?_
      · intro p hp
        simp only [List.mem_cons, List.not_mem_nil, or_false] at hp
        rcases hp with rfl | rfl | rfl | rfl | rfl | rfl | rfl | rfl | rfl | rfl | rfl | rfl | rfl | rfl | rfl | rfl | rfl | rfl
        all_goals first
          | exact AnyOrder.stays_const _
      · simp only [AnyOrder.dstsOf, List.map_cons, List.map_nil, AnyOrder.GSteps, Nat.zero_add, Nat.reduceAdd]
        refine ⟨?_, ?_, ?_, ?_, ?_, ?_, ?_, ?_, ?_, ?_, ?_, ?_, ?_, ?_, ?_, ?_, ?_, ?_, trivial⟩
        · intro ρ w' hk
          have k0 : ρ (.tmp 0) = .slice (some ⟨b0, off0, none⟩) (rl + 1) cap := hk.old 0 rfl
          clear hk
          go_simp
          exact ⟨AnyOrder.Grows.refl _, by first | rfl | (simp [AnyOrder.nth]; done) | (simp [AnyOrder.nth]; omega)⟩
        · intro ρ w' hk
          have k0 : ρ (.tmp 0) = .slice (some ⟨b0, off0, none⟩) (rl + 1) cap := hk.old 0 rfl
          clear hk
          go_simp
          exact ⟨AnyOrder.Grows.refl _, by first | rfl | (simp [AnyOrder.nth]; done) | (simp [AnyOrder.nth]; omega)⟩
        · intro ρ w' hk
          have k19 : ρ (.tmp 19) = .slice (some ⟨b0, off0, none⟩) (rl + 1) cap := hk.at 1 rfl
          have kc := hk.const
          clear hk
          go_simp
          exact ⟨AnyOrder.Grows.refl _, by first | rfl | (simp [AnyOrder.nth]; done) | (simp [AnyOrder.nth]; omega)⟩
        · intro ρ w' hk
          have k20 : ρ (.tmp 20) = .pointer (some ⟨b0, off0, none⟩) := hk.at 2 rfl
          have m0 := AnyOrder.cell_grows hk.world c0
          clear hk
          go_simp
          exact ⟨AnyOrder.Grows.refl _, by first | rfl | (simp [AnyOrder.nth]; done) | (simp [AnyOrder.nth]; omega)⟩
        · intro ρ w' hk
          have k21 : ρ (.tmp 21) = .int .u8 (n : Int) := hk.at 3 rfl
          clear hk
          go_simp
          exact ⟨AnyOrder.Grows.refl _, by first | rfl | (simp [AnyOrder.nth]; done) | (simp [AnyOrder.nth]; omega)⟩
        · intro ρ w' hk
          have k22 : ρ (.tmp 22) = .int .i64 (n : Int) := hk.at 4 rfl
          have kc := hk.const
          clear hk
          go_simp
          exact ⟨AnyOrder.Grows.refl _, by first | rfl | (simp [AnyOrder.nth]; done) | (simp [AnyOrder.nth]; omega)⟩
        · intro ρ w' hk
          have k18 : ρ (.tmp 18) = .slice (some ⟨b0, off0, none⟩) (rl + 1) cap := hk.at 0 rfl
          have k23 : ρ (.tmp 23) = .int .i64 (1 + (n : Int)) := hk.at 5 rfl
          have kc := hk.const
          have kw := AnyOrder.Grows.of_drew hk.world
          clear hk
          go_simp
          exact ⟨AnyOrder.Grows.refl _, by show _ = V1; rw [HV1.out]; simp [sliced, addr_add]⟩
        · intro ρ w' hk
          have k24 : ρ (.tmp 24) = V1 := hk.at 6 rfl
          have kw := AnyOrder.Grows.of_drew hk.world
          clear hk
          obtain ⟨a1, c1, e1, hb1, -⟩ := HM.out w' (HP2.out.kept (Kept.of_below kw HOW.out))
          rw [HLT.out] at e1
          rw [e1] at k24
          have hcv := run_strB (w := w') n c1 HLT.out hb1
          clear hb1
          go_simp
          exact ⟨AnyOrder.Grows.refl _, by first | rfl | (simp [AnyOrder.nth]; done) | (simp [AnyOrder.nth]; omega)⟩
        · intro ρ w' hk
          have k0 : ρ (.tmp 0) = .slice (some ⟨b0, off0, none⟩) (rl + 1) cap := hk.old 0 rfl
          clear hk
          go_simp
          exact ⟨AnyOrder.Grows.refl _, by first | rfl | (simp [AnyOrder.nth]; done) | (simp [AnyOrder.nth]; omega)⟩
        · intro ρ w' hk
          have k0 : ρ (.tmp 0) = .slice (some ⟨b0, off0, none⟩) (rl + 1) cap := hk.old 0 rfl
          clear hk
          go_simp
          exact ⟨AnyOrder.Grows.refl _, by first | rfl | (simp [AnyOrder.nth]; done) | (simp [AnyOrder.nth]; omega)⟩
        · intro ρ w' hk
          have k27 : ρ (.tmp 27) = .slice (some ⟨b0, off0, none⟩) (rl + 1) cap := hk.at 9 rfl
          have kc := hk.const
          clear hk
          go_simp
          exact ⟨AnyOrder.Grows.refl _, by first | rfl | (simp [AnyOrder.nth]; done) | (simp [AnyOrder.nth]; omega)⟩
        · intro ρ w' hk
          have k28 : ρ (.tmp 28) = .pointer (some ⟨b0, off0, none⟩) := hk.at 10 rfl
          have m0 := AnyOrder.cell_grows hk.world c0
          clear hk
          go_simp
          exact ⟨AnyOrder.Grows.refl _, by first | rfl | (simp [AnyOrder.nth]; done) | (simp [AnyOrder.nth]; omega)⟩
        · intro ρ w' hk
          have k29 : ρ (.tmp 29) = .int .u8 (n : Int) := hk.at 11 rfl
          clear hk
          go_simp
          exact ⟨AnyOrder.Grows.refl _, by first | rfl | (simp [AnyOrder.nth]; done) | (simp [AnyOrder.nth]; omega)⟩
        · intro ρ w' hk
          have k30 : ρ (.tmp 30) = .int .i64 (n : Int) := hk.at 12 rfl
          have kc := hk.const
          clear hk
          go_simp
          exact ⟨AnyOrder.Grows.refl _, by first | rfl | (simp [AnyOrder.nth]; done) | (simp [AnyOrder.nth]; omega)⟩
        · intro ρ w' hk
          have k26 : ρ (.tmp 26) = .slice (some ⟨b0, off0, none⟩) (rl + 1) cap := hk.at 8 rfl
          have k31 : ρ (.tmp 31) = .int .i64 (1 + (n : Int)) := hk.at 13 rfl
          have kw := AnyOrder.Grows.of_drew hk.world
          clear hk
          go_simp
          exact ⟨AnyOrder.Grows.refl _, by show _ = V2; rw [HV2.out]; simp [sliced, addr_add]⟩
        · intro ρ w' hk
          have k25 : ρ (.tmp 25) = .string ⟨(r.take n).toArray⟩ := hk.at 7 rfl
          clear hk
          go_simp
          exact ⟨AnyOrder.Grows.refl _, by first | rfl | (simp [AnyOrder.nth]; done) | (simp [AnyOrder.nth]; omega)⟩
        · intro ρ w' hk
          have k32 : ρ (.tmp 32) = V2 := hk.at 14 rfl
          clear hk
          go_simp
          exact ⟨AnyOrder.Grows.refl _, by first | rfl | (simp [AnyOrder.nth]; done) | (simp [AnyOrder.nth]; omega)⟩
        · intro ρ w' hk
          have kc := hk.const
          clear hk
          go_simp
          exact ⟨AnyOrder.Grows.refl _, by first | rfl | (simp [AnyOrder.nth]; done) | (simp [AnyOrder.nth]; omega)⟩
      · intro vs w9 hR9 hv9
        have hG9 := AnyOrder.Grows.of_drew hR9
        have v15 : vs 15 = .string ⟨(r.take n).toArray⟩ := hv9 15 (by decide)
        have v16 : vs 16 = V2 := hv9 16 (by decide)
        have v17 : vs 17 = .bool true := hv9 17 (by decide)
        clear hR9 hv9
        simp only [AnyOrder.fill, Nat.zero_add, Nat.reduceAdd, List.setIfInBounds_toArray, List.set_cons_zero, List.set_cons_succ]
        rw [v15]
        clear v15
        rw [v16]
        clear v16
        rw [v17]
        clear v17
        have HG := hid hG9
        have HR := hid (HH.out w9 (HP2.out.kept (Kept.of_below hG9 HOW.out)))
        clear hG9 c0 i1 i2 i3 i4 i5 i6 i7
        go_wp2_with fail
        exact bodyPost_ret (v := .tuple #[.string ⟨(r.take n).toArray⟩, V2, .bool true]) (by simp [results, Try.results65, go_sem]) rfl ⟨⟨_, rfl, HR.out⟩, HG.out⟩
end Go.Proofs.Ytkpadhjlopcejaa
