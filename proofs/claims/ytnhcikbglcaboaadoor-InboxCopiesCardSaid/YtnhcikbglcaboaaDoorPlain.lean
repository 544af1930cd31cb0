/-
  Plain arithmetic of an inbox: IDs as bits of words, as a rising list. No program in sight.
-/
namespace Go.Proofs.YtnhcikbglcaboaaDoor.Ib

theorem sorted_eq : ∀ {l m : List Nat}, l.Pairwise (· < ·) → m.Pairwise (· < ·) → (∀ x, x ∈ l ↔ x ∈ m) → l = m
  | [], [], _, _, _ => rfl
  | [], y :: m, _, _, h => absurd ((h y).2 (by simp)) (by simp)
  | x :: l, [], _, _, h => absurd ((h x).1 (by simp)) (by simp)
  | x :: l, y :: m, hl, hm, h => by
    obtain ⟨hl1, hl2⟩ := List.pairwise_cons.1 hl
    obtain ⟨hm1, hm2⟩ := List.pairwise_cons.1 hm
    have hxy : x = y := by
      rcases List.mem_cons.1 ((h x).1 (by simp)) with e | e
      · exact e
      · rcases List.mem_cons.1 ((h y).2 (by simp)) with e' | e'
        · exact e'.symm
        · have := hm1 x e; have := hl1 y e'; omega
    subst hxy
    congr 1
    refine sorted_eq hl2 hm2 fun z => ⟨fun hz => ?_, fun hz => ?_⟩
    · rcases List.mem_cons.1 ((h z).1 (by simp [hz])) with e | e
      · have := hl1 z hz; omega
      · exact e
    · rcases List.mem_cons.1 ((h z).2 (by simp [hz])) with e | e
      · have := hm1 z hz; omega
      · exact e

def bitsOf (w : Nat) : List Nat := (List.range 64).filter fun i => w.testBit i
theorem mem_bitsOf {w i : Nat} : i ∈ bitsOf w ↔ i < 64 ∧ w.testBit i = true := by simp [bitsOf]
theorem bitsOf_sorted (w : Nat) : (bitsOf w).Pairwise (· < ·) := List.Pairwise.filter _ List.pairwise_lt_range
theorem bitsOf_zero : bitsOf 0 = [] := by simp [bitsOf]

/-- the lowest bit -/
theorem low_exists : ∀ {w : Nat}, 0 < w → ∃ t m, w = 2 ^ t * (2 * m + 1) := by
  intro w
  induction w using Nat.strongRecOn with
  | _ w ih =>
    intro h
    by_cases e : w % 2 = 1
    · exact ⟨0, w / 2, by omega⟩
    · obtain ⟨t, m, hm⟩ := ih (w / 2) (by omega) (by omega)
      exact ⟨t + 1, m, by rw [Nat.pow_succ, Nat.mul_right_comm, ← hm]; omega⟩
theorem low_bits {t m : Nat} (i : Nat) : (2 ^ t * (2 * m + 1)).testBit i = (decide (t ≤ i) && (2 * m + 1).testBit (i - t)) := by
  rw [Nat.testBit_two_pow_mul]
theorem low_pred_bits {t m : Nat} (i : Nat) : (2 ^ t * (2 * m + 1) - 1).testBit i = if i < t then true else (2 * m).testBit (i - t) := by
  have hp := Nat.two_pow_pos t
  have e : 2 ^ t * (2 * m + 1) - 1 = 2 ^ t * (2 * m) + (2 ^ t - 1) := by rw [Nat.mul_add, Nat.mul_one]; omega
  rw [e, Nat.testBit_two_pow_mul_add _ (by omega)]
  by_cases h : i < t
  · simp [h, Nat.testBit_two_pow_sub_one]
  · simp [h]
theorem odd_bit (m j : Nat) : (2 * m + 1).testBit j = (decide (j = 0) || (2 * m).testBit j) := by
  cases j with
  | zero => simp
  | succ j =>
    rw [Nat.testBit_succ, Nat.testBit_succ, show (2 * m + 1) / 2 = 2 * m / 2 from by omega]
    simp
theorem even_bit0 (m : Nat) : (2 * m).testBit 0 = false := by simp
/-- clearing the lowest bit -/
theorem clear_bits {t m : Nat} (i : Nat) : ((2 ^ t * (2 * m + 1)) &&& (2 ^ t * (2 * m + 1) - 1)).testBit i = (decide (t < i) && (2 ^ t * (2 * m + 1)).testBit i) := by
  rw [Nat.testBit_and, low_bits, low_pred_bits, odd_bit]
  rcases Nat.lt_trichotomy i t with h | h | h
  · simp [show ¬ t ≤ i by omega, show ¬ t < i by omega]
  · subst h; simp
  · have h1 : ¬ i < t := by omega
    have h2 : i - t ≠ 0 := by omega
    simp [h, h1, show t ≤ i by omega, h2]
theorem bitsOf_low {t m : Nat} (h : 2 ^ t * (2 * m + 1) < 2 ^ 64) : t < 64 ∧ bitsOf (2 ^ t * (2 * m + 1)) = t :: bitsOf ((2 ^ t * (2 * m + 1)) &&& (2 ^ t * (2 * m + 1) - 1)) := by
  have ht : t < 64 := by
    rcases Nat.lt_or_ge t 64 with h' | h'
    · exact h'
    · have h1 := Nat.pow_le_pow_right (n := 2) (by omega) h'
      have h2 : 2 ^ t * 1 ≤ 2 ^ t * (2 * m + 1) := Nat.mul_le_mul_left _ (by omega)
      omega
  refine ⟨ht, sorted_eq (bitsOf_sorted _) (List.pairwise_cons.2 ⟨fun i hi => ?_, bitsOf_sorted _⟩) fun i => ?_⟩
  · have := (mem_bitsOf.1 hi).2
    rw [clear_bits] at this
    simp at this
    exact this.1
  · rw [List.mem_cons, mem_bitsOf, mem_bitsOf, clear_bits, low_bits, odd_bit]
    rcases Nat.lt_trichotomy i t with h | h | h
    · simp [show ¬ t ≤ i by omega, show ¬ t < i by omega]; omega
    · subst h; simp [ht]
    · simp [h, show i ≠ t by omega]
/-- the lowest bit alone -/
theorem isolate {t m : Nat} (h : 2 ^ t * (2 * m + 1) < 2 ^ 64) : (2 ^ t * (2 * m + 1)) &&& (2 ^ 64 - 2 ^ t * (2 * m + 1)) = 2 ^ t := by
  have ht := (bitsOf_low h).1
  have hp : 0 < 2 ^ t * (2 * m + 1) := Nat.mul_pos (Nat.two_pow_pos t) (by omega)
  apply Nat.eq_of_testBit_eq
  intro i
  have e : 2 ^ 64 - 2 ^ t * (2 * m + 1) = 2 ^ 64 - ((2 ^ t * (2 * m + 1) - 1) + 1) := by omega
  rw [Nat.testBit_and, e, Nat.testBit_two_pow_sub_succ (by omega), low_bits, low_pred_bits, odd_bit, Nat.testBit_two_pow]
  rcases Nat.lt_trichotomy i t with h | h | h
  · simp [show ¬ t ≤ i by omega, show ¬ t = i by omega]
  · subst h; simp [ht]
  · have h1 : ¬ i < t := by omega
    have h2 : i - t ≠ 0 := by omega
    simp [h1, h2, show t ≤ i by omega, show ¬ t = i by omega]
    intro a _
    exact a

/-- all IDs of words -/
def idsFrom (ws : List Nat) (i n : Nat) : List Nat := (List.range' i n).flatMap fun j => (bitsOf (ws.getD j 0)).map (64 * j + ·)
def ids (ws : List Nat) : List Nat := idsFrom ws 0 1024
theorem idsFrom_succ (ws : List Nat) (i n : Nat) : idsFrom ws i (n + 1) = (bitsOf (ws.getD i 0)).map (64 * i + ·) ++ idsFrom ws (i + 1) n := by
  simp [idsFrom, List.range'_succ]
theorem mem_idsFrom {ws : List Nat} {i n x : Nat} : x ∈ idsFrom ws i n ↔ i ≤ x / 64 ∧ x / 64 < i + n ∧ (ws.getD (x / 64) 0).testBit (x % 64) = true := by
  simp only [idsFrom, List.mem_flatMap, List.mem_map, mem_bitsOf, List.mem_range'_1]
  constructor
  · rintro ⟨j, ⟨h1, h2⟩, b, ⟨h3, h4⟩, rfl⟩
    have e1 : (64 * j + b) / 64 = j := by omega
    have e2 : (64 * j + b) % 64 = b := by omega
    rw [e1, e2]
    exact ⟨h1, h2, h4⟩
  · rintro ⟨h1, h2, h3⟩
    exact ⟨x / 64, ⟨h1, h2⟩, x % 64, ⟨by omega, h3⟩, by omega⟩
theorem idsFrom_sorted (ws : List Nat) (n : Nat) : ∀ i, (idsFrom ws i n).Pairwise (· < ·) := by
  induction n with
  | zero => intro i; simp [idsFrom]
  | succ n ih =>
    intro i
    rw [idsFrom_succ, List.pairwise_append]
    refine ⟨?_, ih (i + 1), fun a ha b hb => ?_⟩
    · rw [List.pairwise_map]
      exact (bitsOf_sorted _).imp fun h => by omega
    · obtain ⟨c, hc, rfl⟩ := List.mem_map.1 ha
      have := (mem_bitsOf.1 hc).1
      have := (mem_idsFrom.1 hb).1
      omega
theorem ids_sorted (ws : List Nat) : (ids ws).Pairwise (· < ·) := idsFrom_sorted ws _ _
theorem mem_ids {ws : List Nat} {x : Nat} : x ∈ ids ws ↔ x < 65536 ∧ (ws.getD (x / 64) 0).testBit (x % 64) = true := by
  rw [ids, mem_idsFrom]
  constructor
  · rintro ⟨_, h2, h3⟩; exact ⟨by omega, h3⟩
  · rintro ⟨h1, h3⟩; exact ⟨Nat.zero_le _, by omega, h3⟩
/-- one bit is turned -/
def turn (ws : List Nat) (id : Nat) : List Nat := ws.set (id / 64) (ws.getD (id / 64) 0 ^^^ 2 ^ (id % 64))
theorem turn_bit {ws : List Nat} (hl : ws.length = 1024) {id x : Nat} (hid : id < 65536) : ((turn ws id).getD (x / 64) 0).testBit (x % 64) = (((ws.getD (x / 64) 0).testBit (x % 64)) ^^ decide (x = id)) := by
  unfold turn
  by_cases h : id / 64 = x / 64
  · rw [← h, List.getD_eq_getElem?_getD, List.getElem?_set_self (by omega), Option.getD_some, Nat.testBit_xor, Nat.testBit_two_pow]
    congr 1
    by_cases e : x = id
    · subst e; simp
    · simp [e]; omega
  · rw [List.getD_eq_getElem?_getD, List.getElem?_set_ne h, ← List.getD_eq_getElem?_getD]
    have : x ≠ id := by intro e; subst e; exact h rfl
    simp [this]
theorem turn_length (ws : List Nat) (id : Nat) : (turn ws id).length = ws.length := by simp [turn]
theorem mem_turn {ws : List Nat} (hl : ws.length = 1024) {id x : Nat} (hid : id < 65536) : x ∈ ids (turn ws id) ↔ (x ∈ ids ws ∧ x ≠ id) ∨ (x = id ∧ ¬ x ∈ ids ws) := by
  rw [mem_ids, mem_ids, turn_bit hl hid]
  by_cases e : x = id
  · subst e; simp [hid]
  · simp [e]
theorem turn_turn (ws : List Nat) (id : Nat) (h : id / 64 < ws.length) : turn (turn ws id) id = ws := by
  unfold turn
  apply List.ext_getElem?
  intro j
  by_cases e : id / 64 = j
  · subst e
    rw [List.getElem?_set_self (by simpa using h), List.getD_eq_getElem?_getD, List.getElem?_set_self h]
    rw [List.getElem?_eq_getElem h, List.getD_eq_getElem?_getD, List.getElem?_eq_getElem h]
    simp [Nat.xor_assoc]
  · rw [List.getElem?_set_ne e, List.getElem?_set_ne e]
end Go.Proofs.YtnhcikbglcaboaaDoor.Ib
