/-
  Cells of a page as bytes: plain, no program in sight.
-/
import Derived.Test.YtkpadhjlopcejaaPlain
import GoSem.Op.String
namespace Go.Proofs.Ytkpadhjlopcejaa
structure Cl where
  key : ByteArray
  text : ByteArray
  long : Bool
  page : Int
  size : Int
instance : Inhabited Cl := ⟨⟨⟨#[]⟩, ⟨#[]⟩, false, 0, 0⟩⟩
def between (n a b : Int) : Bool := decide (a ≤ n) && decide (n ≤ b)
def mayLeaf (x : Cl) : Bool := between x.key.size 1 48 && (if x.long then decide (x.text.size = 0) && between x.page 1 4095 && between x.size 61 4096 else decide (x.text.size ≤ 60) && decide (x.page = 0) && decide (x.size = 0))
def mayBranch (x : Cl) : Bool := decide (x.key.size ≤ 48) && decide (x.text.size = 0) && !x.long && decide (x.size = 0) && between x.page 1 4095
def mayC (leaf : Bool) (x : Cl) : Bool := if leaf then mayLeaf x else mayBranch x
def keyLt (a b : ByteArray) : Bool := Op.bytesLess a.toList b.toList
/-- the cell at i may be, and stands behind the one ahead of it -/
def okAt (leaf : Bool) (l : List Cl) (i : Nat) : Bool :=
  match l[i]? with
  | none => true
  | some c => mayC leaf c && (decide (i = 0) || match l[i - 1]? with | none => true | some p => keyLt p.key c.key)
def okTo (leaf : Bool) (l : List Cl) (n : Nat) : Bool := (List.range n).all (okAt leaf l)
def rightC (k : Int) (l : List Cl) : Bool := (decide (k = 2) || (decide (k = 3) && decide (l.length ≠ 0))) && okTo (decide (k = 2)) l l.length
theorem okTo_succ (leaf : Bool) (l : List Cl) (n : Nat) : okTo leaf l (n + 1) = (okTo leaf l n && okAt leaf l n) := by
  unfold okTo; rw [List.range_succ, List.all_append]; simp
theorem okTo_false {leaf : Bool} {l : List Cl} {n m : Nat} (h : okTo leaf l n = false) (hm : n ≤ m) : okTo leaf l m = false := by
  induction m with
  | zero => rw [show n = 0 from by omega] at h; exact h
  | succ m ih =>
    by_cases e : n = m + 1
    · rw [← e]; exact h
    · rw [okTo_succ, ih (by omega)]; rfl
theorem okTo_at {leaf : Bool} {l : List Cl} {n i : Nat} (h : okTo leaf l n = true) (hi : i < n) : okAt leaf l i = true :=
  List.all_eq_true.1 h i (List.mem_range.2 hi)
theorem okAt_may {leaf : Bool} {l : List Cl} {i : Nat} (h : okAt leaf l i = true) (hi : i < l.length) : mayC leaf l[i] = true := by
  unfold okAt at h
  rw [List.getElem?_eq_getElem hi] at h
  simp only [Bool.and_eq_true] at h
  exact h.1
theorem okAt_lt {leaf : Bool} {l : List Cl} {i : Nat} (h : okAt leaf l (i + 1) = true) (hi : i + 1 < l.length) : keyLt (l[i]'(by omega)).key (l[i + 1]).key = true := by
  unfold okAt at h
  rw [List.getElem?_eq_getElem hi, Nat.add_sub_cancel, List.getElem?_eq_getElem (show i < l.length by omega)] at h
  simpa using (Bool.and_eq_true_iff.1 h).2
theorem okAt_eq {leaf : Bool} {l : List Cl} {i : Nat} (hi : i < l.length) (h0 : i = 0) : okAt leaf l i = mayC leaf l[i] := by
  unfold okAt
  rw [List.getElem?_eq_getElem hi]
  simp [h0]
theorem okAt_eq' {leaf : Bool} {l : List Cl} {i : Nat} (hi : i + 1 < l.length) : okAt leaf l (i + 1) = (mayC leaf l[i + 1] && keyLt (l[i]'(by omega)).key (l[i + 1]).key) := by
  unfold okAt
  rw [List.getElem?_eq_getElem hi, Nat.add_sub_cancel, List.getElem?_eq_getElem (show i < l.length by omega)]
  simp
theorem rightC_all {k : Int} {l : List Cl} (h : rightC k l = true) : okTo (decide (k = 2)) l l.length = true := (Bool.and_eq_true_iff.1 h).2
theorem rightC_may {k : Int} {l : List Cl} (h : rightC k l = true) (x : Cl) (hx : x ∈ l) : mayC (decide (k = 2)) x = true := by
  obtain ⟨i, hi, rfl⟩ := List.getElem_of_mem hx
  exact okAt_may (okTo_at (rightC_all h) hi) hi
theorem rightC_kind {k : Int} {l : List Cl} (h : rightC k l = true) : k = 2 ∨ k = 3 := by
  have := (Bool.and_eq_true_iff.1 h).1
  simp at this
  omega
/-- a text with its length in one byte -/
def shortB (s : ByteArray) : List UInt8 := UInt8.ofNat s.size :: s.data.toList
theorem shortB_length (s : ByteArray) : (shortB s).length = 1 + s.size := by simp [shortB]; omega
def rawC (leaf : Bool) (x : Cl) : List UInt8 :=
  shortB x.key ++ (if leaf = true ∧ x.long = false then 0 :: shortB x.text else (if leaf then [1] else []) ++ (be x.page.toNat 4 ++ if leaf then be x.size.toNat 4 else []))
def rawS (leaf : Bool) (l : List Cl) : List UInt8 := l.flatMap (rawC leaf)
theorem rawS_snoc (leaf : Bool) (l : List Cl) (x : Cl) : rawS leaf (l ++ [x]) = rawS leaf l ++ rawC leaf x := by simp [rawS]
theorem rawS_up (leaf : Bool) (l : List Cl) (k : Nat) (h : k < l.length) : rawS leaf (l.take (k + 1)) = rawS leaf (l.take k) ++ rawC leaf l[k] := by
  rw [List.take_succ_eq_append_getElem h, rawS_snoc]
theorem rawC_length {leaf : Bool} {x : Cl} (h : mayC leaf x = true) : (rawC leaf x).length ≤ 111 ∧ 1 ≤ (rawC leaf x).length := by
  unfold mayC at h
  cases leaf
  · simp [mayBranch] at h
    simp [rawC, shortB, be_length]
    omega
  · simp [mayLeaf, between] at h
    simp [rawC, shortB]
    cases hl : x.long
    · simp [hl] at h ⊢
      omega
    · simp [hl, be_length] at h ⊢
      omega
theorem rawS_length {leaf : Bool} : ∀ {l : List Cl}, (∀ x ∈ l, mayC leaf x = true) → (rawS leaf l).length ≤ 111 * l.length
  | [], _ => by simp [rawS]
  | x :: l, h => by
    have h1 := (rawC_length (h x (by simp))).1
    have h2 := rawS_length (l := l) fun y hy => h y (by simp [hy])
    have e : rawS leaf (x :: l) = rawC leaf x ++ rawS leaf l := by simp [rawS]
    rw [e, List.length_append, List.length_cons]
    omega
/-- where the cells stand: L of them in all -/
def offTo (leaf : Bool) (l : List Cl) (L : Nat) : Nat → List UInt8
  | 0 => []
  | k + 1 => offTo leaf l L k ++ be (2 + 2 * L + (rawS leaf (l.take k)).length) 2
theorem offTo_length (leaf : Bool) (l : List Cl) (L : Nat) : ∀ k, (offTo leaf l L k).length = 2 * k
  | 0 => rfl
  | k + 1 => by rw [offTo, List.length_append, offTo_length leaf l L k, be_length]; omega
def allC (leaf : Bool) (l : List Cl) : List UInt8 := be l.length 2 ++ offTo leaf l l.length l.length ++ rawS leaf l
def widthC (leaf : Bool) (l : List Cl) : Nat := 2 + 2 * l.length + (rawS leaf l).length
theorem allC_length (leaf : Bool) (l : List Cl) : (allC leaf l).length = widthC leaf l := by
  unfold allC widthC
  rw [List.length_append, List.length_append, be_length, offTo_length]
/-- the cells of bytes -/
def readS : List UInt8 → Option (ByteArray × List UInt8)
  | [] => none
  | x :: r => if r.length < x.toNat then none else some (⟨(r.take x.toNat).toArray⟩, r.drop x.toNat)
def readN (k : Nat) (l : List UInt8) : Option (Int × List UInt8) := if l.length < k then none else some (((val (l.take k) : Nat) : Int), l.drop k)
def readC (leaf : Bool) (l : List UInt8) : Option (Cl × List UInt8) :=
  match readS l with
  | none => none
  | some (key, l) =>
    if leaf then
      match l with
      | [] => none
      | x :: l =>
        if x.toNat = 0 then match readS l with | none => none | some (t, l) => some (⟨key, t, false, 0, 0⟩, l)
        else if x.toNat = 1 then match readN 4 l with | none => none | some (p, l) => match readN 4 l with | none => none | some (s, l) => some (⟨key, ⟨#[]⟩, true, p, s⟩, l)
        else none
    else match readN 4 l with | none => none | some (p, l) => some (⟨key, ⟨#[]⟩, false, p, 0⟩, l)
def readCs (leaf : Bool) (l : List UInt8) : Nat → Option (List Cl × List UInt8)
  | 0 => some ([], l)
  | n + 1 => match readCs leaf l n with | none => none | some (cs, r) => match readC leaf r with | none => none | some (c, r) => some (cs ++ [c], r)
theorem readCs_none {leaf : Bool} {l : List UInt8} {n m : Nat} (h : readCs leaf l n = none) (hm : n ≤ m) : readCs leaf l m = none := by
  induction m with
  | zero => rw [show n = 0 from by omega] at h; exact h
  | succ m ih =>
    by_cases e : n = m + 1
    · rw [← e]; exact h
    · rw [readCs, ih (by omega)]
theorem readCs_length {leaf : Bool} {l : List UInt8} : ∀ {n : Nat} {cs r}, readCs leaf l n = some (cs, r) → cs.length = n
  | 0, cs, r, h => by simp [readCs] at h; rw [h.1]; rfl
  | n + 1, cs, r, h => by
    rw [readCs] at h
    split at h
    · cases h
    · next cs1 r1 h1 =>
      split at h
      · cases h
      · cases h
        rw [List.length_append, readCs_length h1]; rfl
def parseC (k : Int) (b : List UInt8) : List Cl × Int :=
  if k = 2 ∨ k = 3 then
    if 232 < b.length ∨ b.length < 2 then ([], 151)
    else if b.length < 2 + 2 * val (b.take 2) then ([], 151)
    else match readCs (decide (k = 2)) (b.drop (2 + 2 * val (b.take 2))) (val (b.take 2)) with
      | none => ([], 151)
      | some (cs, r) => if r = [] ∧ rightC k cs = true ∧ allC (decide (k = 2)) cs = b then (cs, 0) else ([], 151)
  else ([], 2)
theorem byte_small {n : Nat} (h : n < 256) : (UInt8.ofNat n).toNat = n := by rw [UInt8.toNat_ofNat']; omega
theorem readS_short (s : ByteArray) (r : List UInt8) (h : s.size ≤ 255) : readS (shortB s ++ r) = some (s, r) := by
  have hs : s.size = s.data.toList.length := by simp
  unfold shortB readS
  simp only [List.cons_append]
  rw [byte_small (by omega), if_neg (by rw [List.length_append]; omega), List.take_append_of_le_length (by omega), List.take_of_length_le (by omega), List.drop_append_of_le_length (by omega), List.drop_of_length_le (by omega)]
  simp
theorem readN_be (n k : Nat) (r : List UInt8) (h : n < 256 ^ k) : readN k (be n k ++ r) = some ((n : Int), r) := by
  have hb := be_length n k
  unfold readN
  rw [if_neg (by rw [List.length_append]; omega), List.take_append_of_le_length (by omega), List.take_of_length_le (by omega), List.drop_append_of_le_length (by omega), List.drop_of_length_le (by omega), val_be n k h]
  rfl
theorem readC_raw {leaf : Bool} {x : Cl} (h : mayC leaf x = true) (r : List UInt8) : readC leaf (rawC leaf x ++ r) = some (x, r) := by
  have p4 : (256 : Nat) ^ 4 = 4294967296 := by decide
  obtain ⟨key, text, long, page, size⟩ := x
  unfold mayC at h
  cases leaf
  · simp [mayBranch, between] at h
    obtain ⟨⟨⟨⟨h1, h2⟩, h3⟩, h4⟩, h5, h6⟩ := h
    subst h2 h3 h4
    unfold rawC readC
    simp only [List.append_assoc]
    rw [readS_short _ _ (by show key.size ≤ 255; omega)]
    simp only [Bool.false_eq_true, false_and, if_false, List.nil_append, List.append_nil]
    rw [readN_be _ _ _ (by show page.toNat < _; omega)]
    have e1 : ((page.toNat : Nat) : Int) = page := by omega
    simp only [e1]
    rfl
  · simp [mayLeaf, between] at h
    obtain ⟨⟨h1, h1'⟩, h⟩ := h
    unfold rawC readC
    simp only [List.append_assoc]
    rw [readS_short _ _ (by show key.size ≤ 255; omega)]
    cases long
    · simp at h
      obtain ⟨⟨h2, h3⟩, h4⟩ := h
      subst h3 h4
      simp only [if_true, and_self, List.cons_append]
      rw [readS_short _ _ (by show text.size ≤ 255; omega)]
      rfl
    · simp at h
      obtain ⟨⟨h2, h3, h4⟩, h5, h6⟩ := h
      subst h2
      simp only [if_true, Bool.true_eq_false, and_false, if_false, List.cons_append, List.nil_append, List.append_assoc]
      rw [readN_be _ _ _ (by show page.toNat < _; omega)]
      have e : (1 : UInt8).toNat = 1 := rfl
      simp only [e, if_true, Nat.one_ne_zero, if_false]
      rw [readN_be _ _ _ (by show size.toNat < _; omega)]
      have e1 : ((page.toNat : Nat) : Int) = page := by omega
      have e2 : ((size.toNat : Nat) : Int) = size := by omega
      simp only [e1, e2]
      rfl
theorem readCs_raw {leaf : Bool} {l : List Cl} (h : ∀ x ∈ l, mayC leaf x = true) (r : List UInt8) : ∀ k, k ≤ l.length → readCs leaf (rawS leaf l ++ r) k = some (l.take k, rawS leaf (l.drop k) ++ r)
  | 0, _ => by simp [readCs]
  | k + 1, hk => by
    rw [readCs, readCs_raw h r k (by omega)]
    have e : rawS leaf (l.drop k) ++ r = rawC leaf l[k] ++ (rawS leaf (l.drop (k + 1)) ++ r) := by
      rw [List.drop_eq_getElem_cons (show k < l.length by omega)]; unfold rawS; rw [List.flatMap_cons, List.append_assoc]
    simp only [e]
    rw [readC_raw (h _ (List.getElem_mem _))]
    simp only
    rw [List.take_succ_eq_append_getElem (show k < l.length by omega)]
theorem allC_take {leaf : Bool} {l : List Cl} : (allC leaf l).take 2 = be l.length 2 := by
  have hb := be_length l.length 2
  unfold allC
  rw [List.append_assoc, List.take_append_of_le_length (by omega), List.take_of_length_le (by omega)]
theorem allC_drop {leaf : Bool} {l : List Cl} : (allC leaf l).drop (2 + 2 * l.length) = rawS leaf l := by
  have hb := be_length l.length 2
  have ho := offTo_length leaf l l.length l.length
  unfold allC
  rw [List.drop_append_of_le_length (by rw [List.length_append]; omega), List.drop_of_length_le (by rw [List.length_append]; omega), List.nil_append]
/-- what was laid is read again -/
theorem parse_all {k : Int} {l : List Cl} (h : rightC k l = true) (hw : widthC (decide (k = 2)) l ≤ 232) : parseC k (allC (decide (k = 2)) l) = (l, 0) := by
  have hk := rightC_kind h
  have hl := allC_length (decide (k = 2)) l
  have hw2 : widthC (decide (k = 2)) l = 2 + 2 * l.length + (rawS (decide (k = 2)) l).length := rfl
  have hv : val ((allC (decide (k = 2)) l).take 2) = l.length := by
    rw [allC_take, val_be _ _ (by have : (256 : Nat) ^ 2 = 65536 := by decide
                                  omega)]
  unfold parseC
  rw [if_pos hk, if_neg (by omega), hv, if_neg (by omega), allC_drop]
  have hr := readCs_raw (leaf := decide (k = 2)) (l := l) (rightC_may h) [] l.length (Nat.le_refl _)
  rw [List.append_nil, List.take_length, List.drop_length] at hr
  rw [hr]
  simp [rawS, h]
end Go.Proofs.Ytkpadhjlopcejaa
