/-
  Numbers as bytes, the higher ones first: plain arithmetic, no program in sight.
-/
namespace Go.Proofs.Ytkpadhjlopcejaa
/-- a number in k bytes -/
def be (n : Nat) : Nat → List UInt8
  | 0 => []
  | k + 1 => UInt8.ofNat (n / 256 ^ k) :: be n k
theorem be_length (n : Nat) : ∀ k, (be n k).length = k
  | 0 => rfl
  | k + 1 => by rw [be, List.length_cons, be_length n k]
theorem be_drop (n : Nat) : ∀ k j, j ≤ k → (be n k).drop (k - j) = be n j
  | 0, j, h => by
    have : j = 0 := by omega
    subst this; rfl
  | k + 1, j, h => by
    by_cases e : j = k + 1
    · subst e; rw [Nat.sub_self, List.drop_zero]
    · rw [show k + 1 - j = (k - j) + 1 from by omega, be, List.drop_succ_cons, be_drop n k j (by omega)]
theorem be_take (n k j : Nat) (h : j < k) : (be n k).take (k - j) = (be n k).take (k - (j + 1)) ++ [UInt8.ofNat (n / 256 ^ j)] := by
  have hlt : k - (j + 1) < (be n k).length := by rw [be_length]; omega
  rw [show k - j = k - (j + 1) + 1 from by omega, List.take_succ_eq_append_getElem hlt]
  congr 2
  have hd := be_drop n k (j + 1) (by omega)
  rw [List.drop_eq_getElem_cons hlt, be] at hd
  exact (List.cons.inj hd).1
/-- the number of bytes -/
def valFrom (a : Nat) (l : List UInt8) : Nat := l.foldl (fun n b => 256 * n + b.toNat) a
def val (l : List UInt8) : Nat := valFrom 0 l
theorem valFrom_snoc (a : Nat) (l : List UInt8) (x : UInt8) : valFrom a (l ++ [x]) = 256 * valFrom a l + x.toNat := by simp [valFrom]
theorem val_snoc (l : List UInt8) (x : UInt8) : val (l ++ [x]) = 256 * val l + x.toNat := valFrom_snoc 0 l x
theorem val_lt : ∀ l : List UInt8, val l < 256 ^ l.length := by
  intro l
  induction h : l.length generalizing l with
  | zero =>
    have := List.length_eq_zero_iff.1 h
    subst this; decide
  | succ n ih =>
    obtain ⟨ys, x, rfl⟩ : ∃ ys x, l = ys ++ [x] := ⟨l.dropLast, l.getLast (by intro e; simp [e] at h), (List.dropLast_concat_getLast _).symm⟩
    have hl : ys.length = n := by simp at h; omega
    have := ih ys hl
    have hx := x.toNat_lt
    rw [val_snoc, Nat.pow_succ]
    omega
theorem valFrom_be (n : Nat) : ∀ k a, valFrom a (be n k) = a * 256 ^ k + n % 256 ^ k
  | 0, a => by simp [be, valFrom, Nat.mod_one]
  | k + 1, a => by
    have ih := valFrom_be n k (256 * a + (UInt8.ofNat (n / 256 ^ k)).toNat)
    have e : valFrom a (be n (k + 1)) = valFrom (256 * a + (UInt8.ofNat (n / 256 ^ k)).toNat) (be n k) := by rw [be]; rfl
    rw [e, ih, UInt8.toNat_ofNat']
    have h1 : n % 256 ^ (k + 1) = 256 ^ k * (n / 256 ^ k % 256) + n % 256 ^ k := by
      rw [Nat.pow_succ, Nat.mod_mul]; omega
    have e8 : (2 : Nat) ^ 8 = 256 := rfl
    rw [h1, e8, Nat.pow_succ, Nat.add_mul, Nat.mul_comm (n / 256 ^ k % 256) (256 ^ k), Nat.add_assoc, ← Nat.mul_assoc, Nat.mul_comm (256 * a) (256 ^ k), ← Nat.mul_assoc, Nat.mul_comm a]
    rw [Nat.mul_assoc, Nat.mul_comm 256 a, ← Nat.mul_assoc]
theorem val_be (n k : Nat) (h : n < 256 ^ k) : val (be n k) = n := by
  rw [val, valFrom_be, Nat.zero_mul, Nat.zero_add, Nat.mod_eq_of_lt h]
theorem valFrom_eq : ∀ (l : List UInt8) (b : Nat), valFrom b l = b * 256 ^ l.length + val l := by
  intro l
  induction l with
  | nil => intro b; simp [valFrom, val]
  | cons y l ih2 =>
    intro b
    have e1 : valFrom b (y :: l) = valFrom (256 * b + y.toNat) l := rfl
    have e2 : val (y :: l) = valFrom (256 * 0 + y.toNat) l := rfl
    rw [e1, e2, ih2, ih2, List.length_cons, Nat.pow_succ, Nat.add_mul, Nat.add_mul, Nat.mul_comm 256 b, Nat.mul_assoc b, Nat.mul_comm 256 (256 ^ l.length)]
    omega
theorem be_valFrom : ∀ (m : Nat) (l : List UInt8), l.length = m → ∀ a, be (valFrom a l) m = l := by
  intro m
  induction m with
  | zero => intro l hl a; rw [List.length_eq_zero_iff.1 hl]; rfl
  | succ m ih =>
    intro l hl a
    cases l with
    | nil => simp at hl
    | cons x l =>
      have hl' : l.length = m := by simpa using hl
      have e : valFrom a (x :: l) = valFrom (256 * a + x.toNat) l := rfl
      rw [be, e, ih l hl' _]
      congr 1
      have hlt := val_lt l
      rw [hl'] at hlt
      rw [valFrom_eq, hl', Nat.mul_comm, Nat.mul_add_div (Nat.pow_pos (by decide)), Nat.div_eq_of_lt hlt, Nat.add_zero]
      apply UInt8.toNat.inj
      rw [UInt8.toNat_ofNat']
      have := x.toNat_lt
      omega
theorem be_val (l : List UInt8) : be (val l) l.length = l := be_valFrom _ l rfl 0
end Go.Proofs.Ytkpadhjlopcejaa
