/-
  Halve's walk (printed by mkhalve.py).
-/
import Derived.Test.YtkpadhjlopcejaaSClone
import Derived.Test.YtkpadhjlopcejaaSAll
import Derived.Test.YtkpadhjlopcejaaSGuard
import Derived.Lib.MinMax
namespace Go.Proofs.Ytkpadhjlopcejaa
open Go.RowKit
theorem halve_scope {c rest : Code} (R : World → Prop) (Q : Exit → Act → World → Prop) (a : Act) (w : World) (hf : findLabel c 0 = some rest)
    (first : c.wp Try.prog (Exit.jump 0 (fun a' w' => ∃ (u0 u1 u2 u3 u4 u5 u6 u7 u8 u9 u10 u11 u12 u13 u14 u15 u16 u17 u18 u19 u20 u21 u22 u23 u24 u25 u26 u27 u28 u29 u30 u31 u32 u33 u34 u35 u36 u37 u38 u39 u40 u41 u42 u43 u44 u45 u46 u47 u48 u49 u50 u51 u52 u53 u54 u55 u56 u57 u58 : Value), a' = { tmps := #[u0, u1, u2, u3, u4, u5, u6, u7, u8, u9, u10, u11, u12, u13, u14, u15, u16, u17, u18, u19, u20, u21, u22, u23, u24, u25, u26, u27, u28, u29, u30, u31, u32, u33, u34, u35, u36, u37, u38, u39, u40, u41, u42, u43, u44, u45, u46, u47, u48, u49, u50, u51, u52, u53, u54, u55, u56, u57, u58], defers := [] } ∧ R w') Q) a w)
    (pass : ∀ (u0 u1 u2 u3 u4 u5 u6 u7 u8 u9 u10 u11 u12 u13 u14 u15 u16 u17 u18 u19 u20 u21 u22 u23 u24 u25 u26 u27 u28 u29 u30 u31 u32 u33 u34 u35 u36 u37 u38 u39 u40 u41 u42 u43 u44 u45 u46 u47 u48 u49 u50 u51 u52 u53 u54 u55 u56 u57 u58 : Value) w', R w' → rest.wp Try.prog (Exit.jump 0 (fun _ _ => False) Q) { tmps := #[u0, u1, u2, u3, u4, u5, u6, u7, u8, u9, u10, u11, u12, u13, u14, u15, u16, u17, u18, u19, u20, u21, u22, u23, u24, u25, u26, u27, u28, u29, u30, u31, u32, u33, u34, u35, u36, u37, u38, u39, u40, u41, u42, u43, u44, u45, u46, u47, u48, u49, u50, u51, u52, u53, u54, u55, u56, u57, u58], defers := [] } w') : (Code.scope c).wp Try.prog Q a w := by
  refine wp_scope_jumps 0 _ (fun _ _ => 0) hf first ?_
  rintro a' w' ⟨u0, u1, u2, u3, u4, u5, u6, u7, u8, u9, u10, u11, u12, u13, u14, u15, u16, u17, u18, u19, u20, u21, u22, u23, u24, u25, u26, u27, u28, u29, u30, u31, u32, u33, u34, u35, u36, u37, u38, u39, u40, u41, u42, u43, u44, u45, u46, u47, u48, u49, u50, u51, u52, u53, u54, u55, u56, u57, u58, rfl, hR⟩
  refine Code.wp_mono ?_ (pass u0 u1 u2 u3 u4 u5 u6 u7 u8 u9 u10 u11 u12 u13 u14 u15 u16 u17 u18 u19 u20 u21 u22 u23 u24 u25 u26 u27 u28 u29 u30 u31 u32 u33 u34 u35 u36 u37 u38 u39 u40 u41 u42 u43 u44 u45 u46 u47 u48 u49 u50 u51 u52 u53 u54 u55 u56 u57 u58 w' hR)
  intro e a'' w'' h
  cases e <;> first | exact h | exact h.2.elim
theorem halve_jump (l : Nat) (J : Act → World → Prop) (Q : Exit → Act → World → Prop) (a : Act) (w : World) : Exit.jump l J Q .ret a w = Q .ret a w := rfl
theorem own_first {w : World} {base : Nat} {v : Value} {l : List Cl} (h : OwnC w base v l) (hl : 0 < l.length) {q : Nat} (hq : v.ownBlock = some q) : w.cell? ⟨q, 0, none⟩ = some (.string l[0].key) := by
  obtain ⟨a, cap, e, hc, -⟩ := h.part
  obtain ⟨b, off, ea, ho, h0, -⟩ := hc.at hl
  rcases h.2 with ⟨rfl, h2⟩ | ⟨g, c2, cur, rfl, -⟩
  · cases hq
  · cases hq
    cases e
    cases ea
    simpa using h0
theorem own_apart {w : World} {b1 b2 : Nat} {v1 v2 : Value} {l1 l2 : List Cl} (h1 : OwnC w b1 v1 l1) (h2 : OwnC w b2 v2 l2) (g1 : 0 < l1.length) (g2 : 0 < l2.length) (hk : l1[0].key ≠ l2[0].key) : ∀ q, v1.ownBlock = some q → v2.ownBlock ≠ some q := fun q e1 e2 => by
  have a := own_first h1 g1 e1
  rw [own_first h2 g2 e2] at a
  exact hk (Value.string.inj (Option.some.inj a)).symm
def HalveEnd (k : Int) (xs : List Cl) (w : World) (e : Ending) (w' : World) : Prop :=
  ∃ v1 v2, e = .returned (.tuple #[v1, v2, .int .i64 (if rightC k xs = true ∧ 2 ≤ xs.length then 0 else 2)]) ∧ OwnC w' w.heap.size v1 (if rightC k xs = true ∧ 2 ≤ xs.length then xs.take (halveC (decide (k = 2)) xs) else []) ∧ OwnC w' w.heap.size v2 (if rightC k xs = true ∧ 2 ≤ xs.length then xs.drop (halveC (decide (k = 2)) xs) else []) ∧
    (∀ q, v1.ownBlock = some q → v2.ownBlock ≠ some q) ∧ Below w.heap.size w w'
set_option maxRecDepth 100000 in
set_option maxHeartbeats 8000000 in
theorem halve_no (k : Int) (v : Value) (xs : List Cl) (w : World) (hp : PartC (fun q => q < w.heap.size) w v xs) (h : ¬ (rightC k xs = true ∧ 2 ≤ xs.length)) : Calls Try.prog 45 #[.int .i64 k, v] w (HalveEnd k xs w) := by
  have HC := hid (check_calls k v xs w hp)
  have HE := hid (show ∀ w' v1 v2, v1 = .slice none 0 0 → v2 = .slice none 0 0 → Below w.heap.size w w' → HalveEnd k xs w (.returned (.tuple #[v1, v2, .int .i64 2])) w' from fun w' v1 v2 e1 e2 hb => by
    subst e1 e2
    refine ⟨_, _, by rw [if_neg h], by rw [if_neg h]; exact OwnC.nil _ _, by rw [if_neg h]; exact OwnC.nil _ _, fun q h => (by cases h), hb⟩)
  obtain ⟨a, cap, rfl, -⟩ := hp
  generalize hL : xs.length = L at *
  go_enter Try.func45, Try.ntmps45
  go_wp2
  refine halve_scope (fun w' => Below w.heap.size w w') _ _ _ rfl ?_ ?_
  · cases hr : rightC k xs
    · rw [hr] at HC
      clear h hr
      go_wp2_with fail
      refine HC.out.mono ?_
      rintro e w1 ⟨rfl, b1⟩
      have HB := hid b1
      clear b1
      go_wp2_with fail
      refine wp_goto ?_
      exact ⟨rfl, _, _, _, _, _, _, _, _, _, _, _, _, _, _, _, _, _, _, _, _, _, _, _, _, _, _, _, _, _, _, _, _, _, _, _, _, _, _, _, _, _, _, _, _, _, _, _, _, _, _, _, _, _, _, _, _, _, _, _, rfl, HB.out⟩
    · rw [hr] at HC
      have i0 : (L : Int) < 2 := by
        have : ¬ 2 ≤ L := fun h2 => h ⟨hr, h2⟩
        omega
      clear h hr
      go_wp2_with fail
      refine HC.out.mono ?_
      rintro e w1 ⟨rfl, b1⟩
      have HB := hid b1
      clear b1
      go_wp2_with fail
      refine wp_goto ?_
      exact ⟨rfl, _, _, _, _, _, _, _, _, _, _, _, _, _, _, _, _, _, _, _, _, _, _, _, _, _, _, _, _, _, _, _, _, _, _, _, _, _, _, _, _, _, _, _, _, _, _, _, _, _, _, _, _, _, _, _, _, _, _, _, rfl, HB.out⟩
  · rintro u0 u1 u2 u3 u4 u5 u6 u7 u8 u9 u10 u11 u12 u13 u14 u15 u16 u17 u18 u19 u20 u21 u22 u23 u24 u25 u26 u27 u28 u29 u30 u31 u32 u33 u34 u35 u36 u37 u38 u39 u40 u41 u42 u43 u44 u45 u46 u47 u48 u49 u50 u51 u52 u53 u54 u55 u56 u57 u58 w' hB
    have HB := hid hB
    clear hB h
    go_wp2_with fail
    rw [halve_jump]
    exact bodyPost_ret (v := .tuple #[.slice none 0 0, .slice none 0 0, .int .i64 2]) (by simp [results, Try.results45, go_sem]) rfl (HE.out _ _ _ rfl rfl HB.out)
set_option maxRecDepth 100000 in
set_option maxHeartbeats 16000000 in
theorem halve_yes (k : Int) (v : Value) (xs : List Cl) (w : World) (hp : PartC (fun q => q < w.heap.size) w v xs) (hr : rightC k xs = true) (h2 : 2 ≤ xs.length) (hn : xs.length ≤ 400) : Calls Try.prog 45 #[.int .i64 k, v] w (HalveEnd k xs w) := by
  have hmx : Try.prog.follows .mixedOrders = true := by kernel_rfl
  have HC := hid (check_calls k v xs w hp)
  rw [hr, if_pos rfl] at HC
  have hkk := rightC_k hr
  have hmay := rightC_may hr
  have HRS := hid (rightC_rising hr)
  have hhs := (halveTo_spec (decide (k = 2)) xs (xs.length - 1) (by omega)).1
  have HE := hid (show ∀ w' v1 v2, OwnC w' w.heap.size v1 (xs.take (halveTo (decide (k = 2)) xs (xs.length - 1)).2) → OwnC w' w.heap.size v2 (xs.drop (halveTo (decide (k = 2)) xs (xs.length - 1)).2) → (∀ q, v1.ownBlock = some q → v2.ownBlock ≠ some q) → Below w.heap.size w w' → HalveEnd k xs w (.returned (.tuple #[v1, v2, .int .i64 0])) w' from fun w' v1 v2 o1 o2 ha hb =>
    ⟨_, _, by rw [if_pos ⟨hr, h2⟩], by rw [if_pos ⟨hr, h2⟩]; exact o1, by rw [if_pos ⟨hr, h2⟩]; exact o2, ha, hb⟩)
  generalize decide (k = 2) = leaf at *
  obtain ⟨a, cap, rfl, hx, hc1, hc2, -⟩ := hp
  obtain ⟨b0, off0, rfl, -⟩ := hx.at (show 0 < xs.length by omega)
  have HX := hid hx
  have HM := hid hmay
  generalize hL : xs.length = L at *
  have HL := hid hL
  have HCC := hid (show L ≤ cap ∧ cap ≤ maxLen from ⟨hc1, hc2⟩)
  have HN := hid hn
  have H2 := hid h2
  have HHS := hid hhs
  have HW := hid (fun (v : Value) (ys : List Cl) (w' : World) (h : PartC (fun q => q < w'.heap.size) w' v ys) (hm : ∀ x ∈ ys, mayC leaf x = true) (hl : ys.length ≤ 400) => width_calls leaf v ys w' h hm hl)
  rw [← hkk] at HW
  have i0 : ¬ (L : Int) < 2 := by omega
  have hw1 : IntKind.i64.wrap ((L : Int) - 1) = ((L - 1 : Nat) : Int) := by rw [IntWalk.i64_in _ (by omega)]; omega
  obtain ⟨L1, hL1⟩ : ∃ x, x = L - 1 := ⟨_, rfl⟩
  rw [← hL1] at hw1 HHS HE
  have HL1 := hid hL1
  clear hx hmay hL hc1 hc2 hn h2 hhs hr hkk hL1
  go_enter Try.func45, Try.ntmps45
  go_wp2
  refine halve_scope (fun _ => False) _ _ _ rfl ?_ ?_
  · go_wp2_with fail
    refine HC.out.mono ?_
    rintro e w1 ⟨rfl, b1⟩
    have HB := hid b1
    clear b1
    go_wp2_with fail
    clear hw1 i0
    go_loopw [7, 8, 24] (fun bb aa i wr => ∃ (j m t : Nat), j ≤ L1 ∧ t ≤ L1 ∧ i = .int .i64 (j : Int) ∧ bb = .int .i64 (m : Int) ∧ aa = .int .i64 (t : Int) ∧ Hid (halveTo leaf xs j = (m, t)) ∧ m ≤ 100000 ∧ Below w.heap.size w wr) (fun _ _ i _ => L1 - (intOf i).toNat)
    case atStart => exact ⟨0, 0, 0, Nat.zero_le _, Nat.zero_le _, rfl, rfl, rfl, rfl, by omega, HB.out⟩
    case round =>
      obtain ⟨j, m, t, hj, ht, rfl, rfl, rfl, HH, hm, hbr⟩ := hrel
      have HBR := hid hbr
      clear hbr
      by_cases hlt : j < L1
      · have hjl : j + 1 < L := by have := HL1.out; omega
        have hwt : ∀ ys : List Cl, (∀ x ∈ ys, mayC leaf x = true) → ys.length ≤ 400 → widthC leaf ys ≤ 100000 := fun ys hy hl => by
          have := rawS_length (leaf := leaf) (l := ys) hy
          unfold widthC
          omega
        obtain ⟨n1, hn1⟩ : ∃ n, n = widthC leaf (xs.take (j + 1)) := ⟨_, rfl⟩
        obtain ⟨n2, hn2⟩ : ∃ n, n = widthC leaf (xs.drop (j + 1)) := ⟨_, rfl⟩
        have hb1 : n1 ≤ 100000 := by rw [hn1]; exact hwt _ (fun x hx => HM.out x (List.mem_of_mem_take hx)) (by rw [List.length_take]; have := HN.out; have := HL.out; omega)
        have hb2 : n2 ≤ 100000 := by rw [hn2]; exact hwt _ (fun x hx => HM.out x (List.mem_of_mem_drop hx)) (by rw [List.length_drop]; have := HN.out; have := HL.out; omega)
        have HT := hid (show ∀ w', Below w.heap.size w w' → Calls Try.prog 56 #[.int .i64 k, .slice (some ⟨b0, off0, none⟩) (j + 1) cap] w' (WidthEnd n1 w') from fun w' hb => by
          rw [hn1]
          exact HW.out _ _ w' ((low_part (HX.out.kept (Kept.of_below hb fun _ h => h)) (by rw [HL.out]; omega) (by rw [HL.out]; exact HCC.out)).mono fun q hq => Nat.lt_of_lt_of_le hq hb.size) (fun x hx => HM.out x (List.mem_of_mem_take hx)) (by rw [List.length_take]; have := HN.out; have := HL.out; omega))
        have HD := hid (show ∀ w', Below w.heap.size w w' → Calls Try.prog 56 #[.int .i64 k, .slice (some ⟨b0, off0 + (j + 1) * 5, none⟩) (L - (j + 1)) (cap - (j + 1))] w' (WidthEnd n2 w') from fun w' hb => by
          have hpp := high_part (n := j + 1) (HX.out.kept (Kept.of_below hb fun _ h => h)) (by rw [HL.out]; omega) (by rw [HL.out]; exact HCC.out)
          rw [HL.out] at hpp
          rw [hn2]
          exact HW.out _ _ w' (hpp.mono fun q hq => Nat.lt_of_lt_of_le hq hb.size) (fun x hx => HM.out x (List.mem_of_mem_drop hx)) (by rw [List.length_drop]; have := HN.out; have := HL.out; omega))
        have HH1 := hid (show halveTo leaf xs (j + 1) = if t = 0 ∨ max n1 n2 < m then (max n1 n2, j + 1) else (m, t) by rw [halveTo, HH.out, hn1, hn2])
        have HJ := hid hlt
        have HB12 := hid (show max n1 n2 ≤ 100000 by omega)
        have HMB := hid hm
        have HTB := hid ht
        have i0 : (j : Int) < (L1 : Int) := by omega
        have i1 : (0 : Int) ≤ (j : Int) + 1 := by omega
        have i2 : (j : Int) + 1 ≤ (cap : Int) := by have := HCC.out; omega
        have i3 : (j : Int) + 1 ≤ (L : Int) := by omega
        have i4 : ((j : Int) + 1).toNat = j + 1 := by omega
        have i5 : ¬ cap = 0 := by have := HCC.out; omega
        have i6 : ¬ cap = j + 1 := by have := HCC.out; omega
        have hwj : IntKind.i64.wrap ((j : Int) + 1) = (j : Int) + 1 := IntWalk.i64_in _ (by have := HN.out; omega)
        clear hwt hn1 hn2 hb1 hb2 hlt hj ht hm hjl
        go_wp2_with fail
        refine AnyOrder.wp_region_grows_g [
            fun v _ => v = .int .i64 k,
            fun v _ => v = .slice (some ⟨b0, off0, none⟩) L cap,
            fun v _ => v = .int .i64 (j : Int),
            fun v _ => v = .int .i64 ((j : Int) + 1),
            fun v _ => v = .slice (some ⟨b0, off0, none⟩) (j + 1) cap,
            fun v _ => v = .int .i64 (n1 : Int),
            fun v _ => v = .int .i64 k,
            fun v _ => v = .slice (some ⟨b0, off0, none⟩) L cap,
            fun v _ => v = .int .i64 (j : Int),
            fun v _ => v = .int .i64 ((j : Int) + 1),
            fun v _ => v = .slice (some ⟨b0, off0 + (j + 1) * 5, none⟩) (L - (j + 1)) (cap - (j + 1)),
            fun v _ => v = .int .i64 (n2 : Int),
            fun v _ => v = .int .i64 ((max n1 n2 : Nat) : Int),
            fun v _ => v = .int .i64 ((max n1 n2 : Nat) : Int)] hmx (by kernel_rfl) ?_ ?_ ?_
        · intro p hp
          simp only [List.mem_cons, List.not_mem_nil, or_false] at hp
          rcases hp with rfl | rfl | rfl | rfl | rfl | rfl | rfl | rfl | rfl | rfl | rfl | rfl | rfl | rfl
          all_goals first
            | exact AnyOrder.stays_const _
        · simp only [AnyOrder.dstsOf, List.map_cons, List.map_nil, AnyOrder.GSteps, Nat.zero_add, Nat.reduceAdd]
          refine ⟨?_, ?_, ?_, ?_, ?_, ?_, ?_, ?_, ?_, ?_, ?_, ?_, ?_, ?_, trivial⟩
          · intro ρ w' hk
            have k0 : ρ (.tmp 0) = .int .i64 k := hk.old 0 rfl
            clear hk
            go_simp
            exact ⟨AnyOrder.Grows.refl _, by first | rfl | (simp [AnyOrder.nth]; done) | (simp [AnyOrder.nth]; omega)⟩
          · intro ρ w' hk
            have k1 : ρ (.tmp 1) = .slice (some ⟨b0, off0, none⟩) L cap := hk.old 1 rfl
            clear hk
            go_simp
            exact ⟨AnyOrder.Grows.refl _, by first | rfl | (simp [AnyOrder.nth]; done) | (simp [AnyOrder.nth]; omega)⟩
          · intro ρ w' hk
            have k9 : ρ (.tmp 9) = .int .i64 (j : Int) := hk.old 9 rfl
            clear hk
            go_simp
            exact ⟨AnyOrder.Grows.refl _, by first | rfl | (simp [AnyOrder.nth]; done) | (simp [AnyOrder.nth]; omega)⟩
          · intro ρ w' hk
            have k29 : ρ (.tmp 29) = .int .i64 (j : Int) := hk.at 2 rfl
            have kc := hk.const
            clear hk
            go_simp
            exact ⟨AnyOrder.Grows.refl _, by first | rfl | (simp [AnyOrder.nth]; done) | (simp [AnyOrder.nth]; omega)⟩
          · intro ρ w' hk
            have k28 : ρ (.tmp 28) = .slice (some ⟨b0, off0, none⟩) L cap := hk.at 1 rfl
            have k30 : ρ (.tmp 30) = .int .i64 ((j : Int) + 1) := hk.at 3 rfl
            clear hk
            go_simp
            exact ⟨AnyOrder.Grows.refl _, by first | rfl | (simp [AnyOrder.nth]; done) | (simp [AnyOrder.nth]; omega)⟩
          · intro ρ w' hk
            have k27 : ρ (.tmp 27) = .int .i64 k := hk.at 0 rfl
            have k31 : ρ (.tmp 31) = .slice (some ⟨b0, off0, none⟩) (j + 1) cap := hk.at 4 rfl
            have kf := hk.func
            have kw := AnyOrder.Grows.of_drew hk.world
            clear hk
            go_simp
            refine (HT.out w' (HBR.out.trans (kw.mono HBR.out.size))).mono ?_
            rintro e w'' ⟨rfl, hb⟩
            exact ⟨_, rfl, hb, rfl⟩
          · intro ρ w' hk
            have k0 : ρ (.tmp 0) = .int .i64 k := hk.old 0 rfl
            clear hk
            go_simp
            exact ⟨AnyOrder.Grows.refl _, by first | rfl | (simp [AnyOrder.nth]; done) | (simp [AnyOrder.nth]; omega)⟩
          · intro ρ w' hk
            have k1 : ρ (.tmp 1) = .slice (some ⟨b0, off0, none⟩) L cap := hk.old 1 rfl
            clear hk
            go_simp
            exact ⟨AnyOrder.Grows.refl _, by first | rfl | (simp [AnyOrder.nth]; done) | (simp [AnyOrder.nth]; omega)⟩
          · intro ρ w' hk
            have k9 : ρ (.tmp 9) = .int .i64 (j : Int) := hk.old 9 rfl
            clear hk
            go_simp
            exact ⟨AnyOrder.Grows.refl _, by first | rfl | (simp [AnyOrder.nth]; done) | (simp [AnyOrder.nth]; omega)⟩
          · intro ρ w' hk
            have k35 : ρ (.tmp 35) = .int .i64 (j : Int) := hk.at 8 rfl
            have kc := hk.const
            clear hk
            go_simp
            exact ⟨AnyOrder.Grows.refl _, by first | rfl | (simp [AnyOrder.nth]; done) | (simp [AnyOrder.nth]; omega)⟩
          · intro ρ w' hk
            have k34 : ρ (.tmp 34) = .slice (some ⟨b0, off0, none⟩) L cap := hk.at 7 rfl
            have k36 : ρ (.tmp 36) = .int .i64 ((j : Int) + 1) := hk.at 9 rfl
            clear hk
            go_simp
            exact ⟨AnyOrder.Grows.refl _, by first | rfl | (simp [AnyOrder.nth]; done) | (simp [AnyOrder.nth]; omega)⟩
          · intro ρ w' hk
            have k33 : ρ (.tmp 33) = .int .i64 k := hk.at 6 rfl
            have k37 : ρ (.tmp 37) = .slice (some ⟨b0, off0 + (j + 1) * 5, none⟩) (L - (j + 1)) (cap - (j + 1)) := hk.at 10 rfl
            have kf := hk.func
            have kw := AnyOrder.Grows.of_drew hk.world
            clear hk
            go_simp
            refine (HD.out w' (HBR.out.trans (kw.mono HBR.out.size))).mono ?_
            rintro e w'' ⟨rfl, hb⟩
            exact ⟨_, rfl, hb, rfl⟩
          · intro ρ w' hk
            have k32 : ρ (.tmp 32) = .int .i64 (n1 : Int) := hk.at 5 rfl
            have k38 : ρ (.tmp 38) = .int .i64 (n2 : Int) := hk.at 11 rfl
            clear hk
            go_simp
            exact ⟨AnyOrder.Grows.refl _, by first | rfl | (simp [AnyOrder.nth]; done) | (simp [AnyOrder.nth]; omega)⟩
          · intro ρ w' hk
            have k39 : ρ (.tmp 39) = .int .i64 ((max n1 n2 : Nat) : Int) := hk.at 12 rfl
            clear hk
            go_simp
            exact ⟨AnyOrder.Grows.refl _, by first | rfl | (simp [AnyOrder.nth]; done) | (simp [AnyOrder.nth]; omega)⟩
        · intro vs w9 hR9 hv9
          have hG9 := AnyOrder.Grows.of_drew hR9
          have v13 : vs 13 = .int .i64 ((max n1 n2 : Nat) : Int) := hv9 13 (by decide)
          clear hR9 hv9
          simp only [AnyOrder.fill, Nat.zero_add, Nat.reduceAdd, List.setIfInBounds_toArray, List.set_cons_zero, List.set_cons_succ]
          rw [v13]
          clear v13
          have HB9 := hid (HBR.out.trans (hG9.mono HBR.out.size))
          clear hG9 i1 i2 i3 i4 i5 i6
          generalize hmax : max n1 n2 = mx at *
          by_cases hc : t = 0 ∨ mx < m
          · rw [if_pos hc] at HH1
            by_cases ht0 : t = 0
            · have g0 : ((t : Int) == 0) = true := by rw [ht0]; rfl
              clear hc ht0
              go_wp2_with fail
              go_roundw
              case rel => exact ⟨j + 1, mx, j + 1, HJ.out, HJ.out, by go_num, rfl, by go_num, HH1, HB12.out, HB9.out⟩
              case measure => simp [intOf]; have := HJ.out; omega
            · have g0 : ((t : Int) == 0) = false := by simp only [beq_eq_false_iff_ne]; omega
              have g1 : (mx : Int) < (m : Int) := by omega
              clear hc ht0
              go_wp2_with fail
              go_roundw
              case rel => exact ⟨j + 1, mx, j + 1, HJ.out, HJ.out, by go_num, rfl, by go_num, HH1, HB12.out, HB9.out⟩
              case measure => simp [intOf]; have := HJ.out; omega
          · rw [if_neg hc] at HH1
            have g0 : ((t : Int) == 0) = false := by simp only [beq_eq_false_iff_ne]; omega
            have g1 : ¬ (mx : Int) < (m : Int) := by omega
            clear hc
            go_wp2_with fail
            go_roundw
            case rel => exact ⟨j + 1, m, t, HJ.out, HTB.out, by go_num, rfl, rfl, HH1, HMB.out, HB9.out⟩
            case measure => simp [intOf]; have := HJ.out; omega
      · obtain rfl : j = L1 := by omega
        have i0 : ¬ (j : Int) < (j : Int) := by omega
        rw [HH.out] at HE HHS
        have hts := HHS.out
        simp only at hts HE
        have htl : t < L := by have := HL1.out; have := H2.out; omega
        have HT := hid (show ∀ w', Below w.heap.size w w' → Calls Try.prog 68 #[.slice (some ⟨b0, off0, none⟩) t cap] w' (CloneEnd (xs.take t) w') from fun w' hb =>
          clonec_calls _ _ w' ((low_part (HX.out.kept (Kept.of_below hb fun _ h => h)) (by rw [HL.out]; omega) (by rw [HL.out]; exact HCC.out)).mono fun q hq => Nat.lt_of_lt_of_le hq hb.size) (by rw [List.length_take]; have := HN.out; have := HL.out; omega))
        have HD := hid (show ∀ w', Below w.heap.size w w' → Calls Try.prog 68 #[.slice (some ⟨b0, off0 + t * 5, none⟩) (L - t) (cap - t)] w' (CloneEnd (xs.drop t) w') from fun w' hb => by
          have hpp := high_part (n := t) (HX.out.kept (Kept.of_below hb fun _ h => h)) (by rw [HL.out]; omega) (by rw [HL.out]; exact HCC.out)
          rw [HL.out] at hpp
          exact clonec_calls _ _ w' (hpp.mono fun q hq => Nat.lt_of_lt_of_le hq hb.size) (by rw [List.length_drop]; have := HN.out; have := HL.out; omega))
        have i1 : (0 : Int) ≤ (t : Int) := by omega
        have i2 : (t : Int) ≤ (cap : Int) := by have := HCC.out; omega
        have i3 : (t : Int) ≤ (L : Int) := by omega
        have i5 : ¬ cap = 0 := by have := HCC.out; omega
        have i6 : ¬ cap = t := by have := HCC.out; omega
        have HA := hid (show ∀ (w' : World) (v1 v2 : Value), OwnC w' wr.heap.size v1 (xs.take t) → OwnC w' wr.heap.size v2 (xs.drop t) → ∀ q, v1.ownBlock = some q → v2.ownBlock ≠ some q from fun w' v1 v2 o1 o2 => own_apart o1 o2 (by rw [List.length_take]; have := HL.out; omega) (by rw [List.length_drop]; have := HL.out; omega) (by
          rw [List.getElem_take, List.getElem_drop]
          intro e
          have := HRS.out.lt (i := 0) (j := t) (by omega) (by rw [HL.out]; exact htl)
          simp only [Nat.add_zero] at e
          rw [e, keyLt_irrefl] at this
          cases this))
        clear hts htl hlt hj ht hm
        go_wp2_with fail
        refine AnyOrder.wp_region_grows_g [
            fun v _ => v = .slice (some ⟨b0, off0, none⟩) L cap,
            fun v _ => v = .int .i64 (t : Int),
            fun v _ => v = .slice (some ⟨b0, off0, none⟩) t cap,
            fun v w' => OwnC w' wr.heap.size v (xs.take t),
            fun v _ => v = .slice (some ⟨b0, off0, none⟩) L cap,
            fun v _ => v = .int .i64 (t : Int),
            fun v _ => v = .slice (some ⟨b0, off0 + t * 5, none⟩) (L - t) (cap - t),
            fun v w' => OwnC w' wr.heap.size v (xs.drop t),
            fun v w' => OwnC w' wr.heap.size v (xs.take t),
            fun v w' => OwnC w' wr.heap.size v (xs.drop t),
            fun v _ => v = .int .i64 0] hmx (by kernel_rfl) ?_ ?_ ?_
        · intro p hp
          simp only [List.mem_cons, List.not_mem_nil, or_false] at hp
          rcases hp with rfl | rfl | rfl | rfl | rfl | rfl | rfl | rfl | rfl | rfl | rfl
          all_goals first
            | exact AnyOrder.stays_const _
            | (intro v w1 w2 hg hb; exact OwnC.below hb hg)
            | (intro v w1 w2 hg hb; exact OwnC.below hb hg)
            | (intro v w1 w2 hg hb; exact OwnC.below hb hg)
            | (intro v w1 w2 hg hb; exact OwnC.below hb hg)
        · simp only [AnyOrder.dstsOf, List.map_cons, List.map_nil, AnyOrder.GSteps, Nat.zero_add, Nat.reduceAdd]
          refine ⟨?_, ?_, ?_, ?_, ?_, ?_, ?_, ?_, ?_, ?_, ?_, trivial⟩
          · intro ρ w' hk
            have k1 : ρ (.tmp 1) = .slice (some ⟨b0, off0, none⟩) L cap := hk.old 1 rfl
            clear hk
            go_simp
            exact ⟨AnyOrder.Grows.refl _, by first | rfl | (simp [AnyOrder.nth]; done) | (simp [AnyOrder.nth]; omega)⟩
          · intro ρ w' hk
            have k8 : ρ (.tmp 8) = .int .i64 (t : Int) := hk.old 8 rfl
            clear hk
            go_simp
            exact ⟨AnyOrder.Grows.refl _, by first | rfl | (simp [AnyOrder.nth]; done) | (simp [AnyOrder.nth]; omega)⟩
          · intro ρ w' hk
            have k51 : ρ (.tmp 51) = .slice (some ⟨b0, off0, none⟩) L cap := hk.at 0 rfl
            have k52 : ρ (.tmp 52) = .int .i64 (t : Int) := hk.at 1 rfl
            clear hk
            go_simp
            exact ⟨AnyOrder.Grows.refl _, by first | rfl | (simp [AnyOrder.nth]; done) | (simp [AnyOrder.nth]; omega)⟩
          · intro ρ w' hk
            have k53 : ρ (.tmp 53) = .slice (some ⟨b0, off0, none⟩) t cap := hk.at 2 rfl
            have kf := hk.func
            have kw := AnyOrder.Grows.of_drew hk.world
            clear hk
            go_simp
            refine (HT.out w' (HBR.out.trans (kw.mono HBR.out.size))).mono ?_
            rintro e w'' ⟨v, rfl, ho, hb⟩
            exact ⟨_, rfl, hb, ho.mono fun q e => by have := (ho.block e).1; have := kw.size; omega⟩
          · intro ρ w' hk
            have k1 : ρ (.tmp 1) = .slice (some ⟨b0, off0, none⟩) L cap := hk.old 1 rfl
            clear hk
            go_simp
            exact ⟨AnyOrder.Grows.refl _, by first | rfl | (simp [AnyOrder.nth]; done) | (simp [AnyOrder.nth]; omega)⟩
          · intro ρ w' hk
            have k8 : ρ (.tmp 8) = .int .i64 (t : Int) := hk.old 8 rfl
            clear hk
            go_simp
            exact ⟨AnyOrder.Grows.refl _, by first | rfl | (simp [AnyOrder.nth]; done) | (simp [AnyOrder.nth]; omega)⟩
          · intro ρ w' hk
            have k55 : ρ (.tmp 55) = .slice (some ⟨b0, off0, none⟩) L cap := hk.at 4 rfl
            have k56 : ρ (.tmp 56) = .int .i64 (t : Int) := hk.at 5 rfl
            clear hk
            go_simp
            exact ⟨AnyOrder.Grows.refl _, by first | rfl | (simp [AnyOrder.nth]; done) | (simp [AnyOrder.nth]; omega)⟩
          · intro ρ w' hk
            have k57 : ρ (.tmp 57) = .slice (some ⟨b0, off0 + t * 5, none⟩) (L - t) (cap - t) := hk.at 6 rfl
            have kf := hk.func
            have kw := AnyOrder.Grows.of_drew hk.world
            clear hk
            go_simp
            refine (HD.out w' (HBR.out.trans (kw.mono HBR.out.size))).mono ?_
            rintro e w'' ⟨v, rfl, ho, hb⟩
            exact ⟨_, rfl, hb, ho.mono fun q e => by have := (ho.block e).1; have := kw.size; omega⟩
          · intro ρ w' hk
            have k54 : OwnC w' wr.heap.size (ρ (.tmp 54)) (xs.take t) := hk.at 3 rfl
            have kw := AnyOrder.Grows.of_drew hk.world
            clear hk
            go_simp
            exact ⟨AnyOrder.Grows.refl _, k54⟩
          · intro ρ w' hk
            have k58 : OwnC w' wr.heap.size (ρ (.tmp 58)) (xs.drop t) := hk.at 7 rfl
            have kw := AnyOrder.Grows.of_drew hk.world
            clear hk
            go_simp
            exact ⟨AnyOrder.Grows.refl _, k58⟩
          · intro ρ w' hk
            have kc := hk.const
            clear hk
            go_simp
            exact ⟨AnyOrder.Grows.refl _, by first | rfl | (simp [AnyOrder.nth]; done) | (simp [AnyOrder.nth]; omega)⟩
        · intro vs w9 hR9 hv9
          have hG9 := AnyOrder.Grows.of_drew hR9
          have v8 := hv9 8 (by decide)
          have v9 := hv9 9 (by decide)
          have v10 : vs 10 = .int .i64 0 := hv9 10 (by decide)
          clear hR9 hv9
          simp only [AnyOrder.fill, Nat.zero_add, Nat.reduceAdd, List.setIfInBounds_toArray, List.set_cons_zero, List.set_cons_succ]
          rw [v10]
          clear v10
          have hO1 : OwnC w9 wr.heap.size (vs 8) (xs.take t) := v8
          have hO2 : OwnC w9 wr.heap.size (vs 9) (xs.drop t) := v9
          have HA9 := hid (HA.out w9 _ _ hO1 hO2)
          have HB9 := hid (HBR.out.trans (hG9.mono HBR.out.size))
          have HO1 := hid (hO1.mono (base' := w.heap.size) fun q e => Nat.le_trans HBR.out.size (hO1.block e).1)
          have HO2 := hid (hO2.mono (base' := w.heap.size) fun q e => Nat.le_trans HBR.out.size (hO2.block e).1)
          generalize vs 8 = x1 at *
          generalize vs 9 = x2 at *
          clear hG9 v8 v9 hO1 hO2 i1 i2 i3 i5 i6
          go_wp2_with fail
          rw [halve_jump]
          exact bodyPost_ret (v := .tuple #[x1, x2, .int .i64 0]) (by simp [results, Try.results45, go_sem]) rfl (HE.out _ _ _ HO1.out HO2.out HA9.out HB9.out)
  · rintro u0 u1 u2 u3 u4 u5 u6 u7 u8 u9 u10 u11 u12 u13 u14 u15 u16 u17 u18 u19 u20 u21 u22 u23 u24 u25 u26 u27 u28 u29 u30 u31 u32 u33 u34 u35 u36 u37 u38 u39 u40 u41 u42 u43 u44 u45 u46 u47 u48 u49 u50 u51 u52 u53 u54 u55 u56 u57 u58 w' hB
    exact hB.elim
theorem halve_calls (k : Int) (v : Value) (xs : List Cl) (w : World) (hp : PartC (fun q => q < w.heap.size) w v xs) (hn : xs.length ≤ 400) : Calls Try.prog 45 #[.int .i64 k, v] w (HalveEnd k xs w) := by
  by_cases h : rightC k xs = true ∧ 2 ≤ xs.length
  · exact halve_yes k v xs w hp h.1 h.2 hn
  · exact halve_no k v xs w hp h
end Go.Proofs.Ytkpadhjlopcejaa
