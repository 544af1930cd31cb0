/-
  Where a key stands among cells, and how cells are halved: plain.
-/
import Derived.Test.YtkpadhjlopcejaaSPlain
namespace Go.Proofs.Ytkpadhjlopcejaa
theorem less_trans : ∀ (a b c : List UInt8), Op.bytesLess a b = true → Op.bytesLess b c = true → Op.bytesLess a c = true
  | _, [], _, h, _ => by cases ‹List UInt8› <;> simp [Op.bytesLess] at h
  | _, _ :: _, [], _, h => by simp [Op.bytesLess] at h
  | [], _ :: _, _ :: _, _, _ => by simp [Op.bytesLess]
  | x :: a, y :: b, z :: c, h, k => by
    have ih := less_trans a b c
    simp only [Op.bytesLess, Bool.or_eq_true, decide_eq_true_eq, Bool.and_eq_true, beq_iff_eq] at h k ⊢
    rcases h with h | ⟨rfl, h⟩
    · rcases k with k | ⟨rfl, k⟩
      · exact .inl (UInt8.lt_trans h k)
      · exact .inl h
    · rcases k with k | ⟨rfl, k⟩
      · exact .inl k
      · exact .inr ⟨rfl, ih h k⟩
theorem less_irrefl : ∀ (a : List UInt8), Op.bytesLess a a = false
  | [] => by simp [Op.bytesLess]
  | x :: a => by simp [Op.bytesLess, less_irrefl a]
theorem less_snoc : ∀ (a k : List UInt8), Op.bytesLess a (k ++ [0]) = !(Op.bytesLess k a)
  | [], [] => by simp [Op.bytesLess]
  | _ :: _, [] => by
    rename_i x a
    have h0 : ¬ x < 0 := by intro h; have := UInt8.lt_iff_toNat_lt.1 h; simp at this
    cases a <;> simp [Op.bytesLess]
  | [], _ :: _ => by simp [Op.bytesLess]
  | x :: a, y :: k => by
    rw [List.cons_append, Op.bytesLess, Op.bytesLess, less_snoc a k]
    by_cases h1 : x < y
    · have h2 : ¬ y < x := fun h => UInt8.lt_irrefl x (UInt8.lt_trans h1 h)
      have h3 : ¬ y = x := fun e => by subst e; exact UInt8.lt_irrefl y h1
      simp [h1, h2, h3]
    · by_cases h2 : y < x
      · have h3 : ¬ x = y := fun e => by subst e; exact UInt8.lt_irrefl x h2
        simp [h1, h2, h3]
      · have h3 : x = y := UInt8.le_antisymm (UInt8.not_lt.1 h2) (UInt8.not_lt.1 h1)
        subst h3
        simp [h1]
theorem keyLt_trans {a b c : ByteArray} (h : keyLt a b = true) (k : keyLt b c = true) : keyLt a c = true := less_trans _ _ _ h k
theorem keyLt_irrefl (a : ByteArray) : keyLt a a = false := less_irrefl _
def Rising (l : List Cl) : Prop := ∀ i (h : i + 1 < l.length), keyLt (l[i]'(by omega)).key (l[i + 1]).key = true
theorem rightC_rising {k : Int} {l : List Cl} (h : rightC k l = true) : Rising l := fun _ hi => okAt_lt (okTo_at (rightC_all h) hi) hi
theorem Rising.lt {l : List Cl} (h : Rising l) : ∀ {j i : Nat} (hij : i < j) (hj : j < l.length), keyLt (l[i]'(by omega)).key (l[j]).key = true
  | 0, _, hij, _ => absurd hij (Nat.not_lt_zero _)
  | j + 1, i, hij, hj => by
    by_cases e : i = j
    · subst e; exact h i hj
    · exact keyLt_trans (h.lt (j := j) (show i < j by omega) (by omega)) (h j hj)
/-- the key stands, or would stand, at n -/
def IsAt (l : List Cl) (key : ByteArray) (n : Nat) : Prop := n ≤ l.length ∧ (∀ i (h : i < l.length), i < n → keyLt (l[i]).key key = true) ∧ ∀ h : n < l.length, keyLt (l[n]).key key = false
def hasAt (l : List Cl) (key : ByteArray) (n : Nat) : Bool := match l[n]? with | some c => c.key.toList == key.toList | none => false
theorem hasAt_eq {l : List Cl} {key : ByteArray} {n : Nat} (h : n < l.length) : hasAt l key n = (l[n].key.toList == key.toList) := by
  unfold hasAt; rw [List.getElem?_eq_getElem h]
theorem hasAt_none {l : List Cl} {key : ByteArray} {n : Nat} (h : l.length ≤ n) : hasAt l key n = false := by
  unfold hasAt; rw [List.getElem?_eq_none h]
theorem IsAt.uniq {l : List Cl} {key : ByteArray} {n m : Nat} (h : IsAt l key n) (k : IsAt l key m) : n = m := by
  rcases Nat.lt_trichotomy n m with g | g | g
  · have hl : n < l.length := Nat.lt_of_lt_of_le g k.1
    have a := h.2.2 hl
    rw [k.2.1 n hl g] at a
    cases a
  · exact g
  · have hl : m < l.length := Nat.lt_of_lt_of_le g h.1
    have a := k.2.2 hl
    rw [h.2.1 m hl g] at a
    cases a
theorem isAt_mid {l : List Cl} (key : ByteArray) {lo hi : Nat} (hh : hi ≤ l.length) (h1 : ∀ i (h : i < l.length), i < lo → keyLt (l[i]).key key = true) (h2 : ∀ h : hi < l.length, keyLt (l[hi]).key key = false) (h : lo = hi) : IsAt l key lo := by
  subst h; exact ⟨hh, h1, h2⟩
theorem below_mid {l : List Cl} (hr : Rising l) {key : ByteArray} {mid : Nat} (hm : mid < l.length) (h : keyLt (l[mid]).key key = true) : ∀ i (h : i < l.length), i < mid + 1 → keyLt (l[i]).key key = true := by
  intro i hi him
  by_cases e : i = mid
  · subst e; exact h
  · exact keyLt_trans (hr.lt (show i < mid by omega) hm) h
/-- the halving of cells, as both do it: the best and where -/
def halveTo (leaf : Bool) (l : List Cl) : Nat → Nat × Nat
  | 0 => (0, 0)
  | k + 1 => if (halveTo leaf l k).2 = 0 ∨ max (widthC leaf (l.take (k + 1))) (widthC leaf (l.drop (k + 1))) < (halveTo leaf l k).1 then (max (widthC leaf (l.take (k + 1))) (widthC leaf (l.drop (k + 1))), k + 1) else halveTo leaf l k
def wide (leaf : Bool) (l : List Cl) (i : Nat) : Nat := max (widthC leaf (l.take i)) (widthC leaf (l.drop i))
theorem halveTo_spec (leaf : Bool) (l : List Cl) : ∀ k, 1 ≤ k → (1 ≤ (halveTo leaf l k).2 ∧ (halveTo leaf l k).2 ≤ k) ∧ (halveTo leaf l k).1 = wide leaf l (halveTo leaf l k).2 ∧ ∀ i, 1 ≤ i → i ≤ k → wide leaf l (halveTo leaf l k).2 ≤ wide leaf l i
  | 0, h => absurd h (by omega)
  | k + 1, _ => by
    have e : halveTo leaf l (k + 1) = if (halveTo leaf l k).2 = 0 ∨ wide leaf l (k + 1) < (halveTo leaf l k).1 then (wide leaf l (k + 1), k + 1) else halveTo leaf l k := rfl
    rw [e]
    by_cases h0 : k = 0
    · subst h0
      rw [if_pos (.inl rfl)]
      refine ⟨⟨Nat.le_refl _, Nat.le_refl _⟩, rfl, fun i h1 h2 => ?_⟩
      rw [show i = 0 + 1 from by omega]
      exact Nat.le_refl _
    · obtain ⟨⟨a1, a2⟩, a3, a4⟩ := halveTo_spec leaf l k (by omega)
      by_cases c : (halveTo leaf l k).2 = 0 ∨ wide leaf l (k + 1) < (halveTo leaf l k).1
      · rw [if_pos c]
        refine ⟨⟨by show 1 ≤ k + 1; omega, Nat.le_refl _⟩, rfl, fun i h1 h2 => ?_⟩
        show wide leaf l (k + 1) ≤ _
        by_cases ei : i = k + 1
        · rw [ei]; exact Nat.le_refl _
        · have := a4 i h1 (by omega)
          rcases c with c | c
          · omega
          · omega
      · rw [if_neg c]
        refine ⟨⟨a1, by omega⟩, a3, fun i h1 h2 => ?_⟩
        by_cases ei : i = k + 1
        · rw [ei]; omega
        · exact a4 i h1 (by omega)
def halveC (leaf : Bool) (l : List Cl) : Nat := (halveTo leaf l (l.length - 1)).2
theorem widthC_append (leaf : Bool) (a b : List Cl) : widthC leaf (a ++ b) + 2 = widthC leaf a + widthC leaf b := by
  unfold widthC rawS
  rw [List.flatMap_append, List.length_append, List.length_append]
  omega
theorem widthC_one {leaf : Bool} {x : Cl} (h : mayC leaf x = true) : widthC leaf [x] ≤ 115 ∧ 5 ≤ widthC leaf [x] := by
  have := rawC_length h
  have e : rawS leaf [x] = rawC leaf x := by simp [rawS]
  unfold widthC
  rw [e, List.length_singleton]
  omega
theorem widthC_take {leaf : Bool} {l : List Cl} {k : Nat} (hk : k < l.length) : widthC leaf (l.take (k + 1)) + 2 = widthC leaf (l.take k) + widthC leaf [l[k]] := by
  rw [List.take_succ_eq_append_getElem hk, widthC_append]
theorem widthC_split (leaf : Bool) (l : List Cl) (k : Nat) : widthC leaf l + 2 = widthC leaf (l.take k) + widthC leaf (l.drop k) := by
  rw [← widthC_append, List.take_append_drop]
theorem half_fits {leaf : Bool} {l : List Cl} (hm : ∀ x ∈ l, mayC leaf x = true) (h2 : 2 ≤ l.length) (hw : widthC leaf l ≤ 345) : wide leaf l (halveC leaf l) ≤ 232 := by
  have hs := (halveTo_spec leaf l (l.length - 1) (by omega)).2.2
  have step : ∀ k (hk : k < l.length), widthC leaf (l.take (k + 1)) ≤ widthC leaf (l.take k) + 113 := fun k hk => by
    have h1 := widthC_take (leaf := leaf) hk
    have h3 := (widthC_one (hm _ (List.getElem_mem hk))).1
    omega
  have h0 : widthC leaf (l.take 0) = 2 := by simp [widthC, rawS]
  by_cases hfit : widthC leaf l ≤ 232
  · have h1 := hs 1 (Nat.le_refl _) (by omega)
    have a := widthC_split leaf l 1
    have b0 : 2 ≤ widthC leaf (l.take 1) := by unfold widthC; omega
    have b1 : 2 ≤ widthC leaf (l.drop 1) := by unfold widthC; omega
    refine Nat.le_trans h1 ?_
    unfold wide
    omega
  · -- the last place up to which they fit
    have ex : ∀ n, n ≤ l.length → (∃ k, k < n ∧ k < l.length ∧ widthC leaf (l.take k) ≤ 232 ∧ 232 < widthC leaf (l.take (k + 1))) ∨ ∀ k, k ≤ n → widthC leaf (l.take k) ≤ 232 := by
      intro n
      induction n with
      | zero => exact fun _ => .inr fun k hk => by rw [show k = 0 from by omega, h0]; omega
      | succ n ih =>
        intro hn
        rcases ih (by omega) with ⟨k, g1, g2⟩ | g
        · exact .inl ⟨k, by omega, g2⟩
        · by_cases c : widthC leaf (l.take (n + 1)) ≤ 232
          · refine .inr fun k hk => ?_
            by_cases e : k = n + 1
            · rw [e]; exact c
            · exact g k (by omega)
          · exact .inl ⟨n, by omega, by omega, g n (Nat.le_refl _), by omega⟩
    rcases ex l.length (Nat.le_refl _) with ⟨k, -, g1, g2, g3⟩ | g
    · have s := step k g1
      have sp := widthC_split leaf l k
      have k1 : 1 ≤ k := by
        rcases Nat.eq_zero_or_pos k with e | e
        · subst e
          have := step 0 g1
          rw [h0] at this
          omega
        · exact e
      have h1 := hs k k1 (by omega)
      refine Nat.le_trans h1 ?_
      unfold wide
      omega
    · have := g l.length (Nat.le_refl _)
      rw [List.take_length] at this
      omega
end Go.Proofs.Ytkpadhjlopcejaa
