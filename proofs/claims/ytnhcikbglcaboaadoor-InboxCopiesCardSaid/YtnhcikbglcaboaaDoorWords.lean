/-
  Whole sets: loads and equality of arrays of words.
-/
import Derived.Test.YtnhcikbglcaboaaDoorKnown
import Derived.Laws.StructEq
namespace Go.Proofs.YtnhcikbglcaboaaDoor
open Go.RowKit Go.Shelf
def wordVals (ws : List Nat) : Array Value := (ws.map fun x : Nat => Value.int .u64 (x : Int)).toArray
theorem wordVals_get (xs : List Nat) (i : Nat) (h : i < xs.length) : (wordVals xs)[i]? = some (.int .u64 ((xs[i] : Nat) : Int)) := by
  simp [wordVals, h]
theorem run_part (xs : List Nat) (i : Nat) (h : i < xs.length) (w : World) : (part 51 (wordVals xs) i).run Tryd.prog w = .ok (.int .u64 ((xs[i] : Nat) : Int)) w := by
  have hg := wordVals_get xs i h
  simp [part, Tryd.isAgg51, hg]
theorem run_eq_words (D : Nat) (w : World) (xs ys : List Nat) (hx : xs.length = 1024) (hy : ys.length = 1024)
    (heq : ∀ (a b : Nat), (Op.equalIn D 51 (.int .u64 (a : Int)) (.int .u64 (b : Int))).run Tryd.prog w = .ok (decide (a = b)) w) :
    (Op.equalIn (D + 1) 53 (.agg (wordVals xs)) (.agg (wordVals ys))).run Tryd.prog w = .ok (decide (xs = ys)) w := by
  simp only [Op.equalIn, Sem.run_bind, run_underlying (show Tryd.prog.underlying 53 = some (.array 1024 51) from Tryd.underlying53), Result.andThen_ok, Tryd.sizeOf51, Nat.mul_one]
  simp only [Std.Legacy.Range.forIn_eq_forIn_range', Std.Legacy.Range.size, Nat.sub_zero, Nat.add_sub_cancel, Nat.div_one]
  have key : ∀ n i, i + n = 1024 → (Sem.run Tryd.prog (forIn (List.range' i n) ((none, ()) : Option Bool × Unit) fun i __s => do
        let p ← part 51 (wordVals xs) i
        let q ← part 51 (wordVals ys) i
        let r ← Op.equalIn D 51 p q
        if (!r) = true then pure (ForInStep.done (some false, ())) else pure (ForInStep.yield (none, ()))) w) = .ok (if xs.drop i = ys.drop i then (none, ()) else (some false, ())) w := by
    intro n
    induction n with
    | zero =>
      intro i hi
      have : i = 1024 := by omega
      subst this
      rw [List.drop_eq_nil_of_le (by omega), List.drop_eq_nil_of_le (by omega)]
      simp
    | succ n ih =>
      intro i hi
      rw [List.range'_succ, List.forIn_cons]
      simp only [Sem.run_bind, run_part xs i (by omega), run_part ys i (by omega), Result.andThen_ok, heq]
      rw [List.drop_eq_getElem_cons (show i < xs.length by omega), List.drop_eq_getElem_cons (show i < ys.length by omega)]
      by_cases e : xs[i] = ys[i]
      · simp only [e, decide_true, Bool.not_true, Bool.false_eq_true, if_false, Sem.run_pure, Result.andThen_ok, ih (i + 1) (by omega), List.cons.injEq, true_and]
      · rw [if_neg (fun h => e (List.cons.inj h).1)]
        simp only [e, decide_false, Bool.not_false, if_true, Sem.run_pure, Result.andThen_ok]
  have k0 := key 1024 0 rfl
  rw [List.drop_zero, List.drop_zero] at k0
  rw [k0]
  by_cases e : xs = ys
  · simp [e]
  · simp [e]
theorem eq_word (d : Nat) (w : World) (a b : Nat) : (Op.equalIn (d + 1) 51 (.int .u64 (a : Int)) (.int .u64 (b : Int))).run Tryd.prog w = .ok (decide (a = b)) w := by
  rw [run_equalIn_int w d 51 .u64 .u64 _ _ Tryd.underlying51]
  congr 1
  rw [Bool.eq_iff_iff]
  simp only [beq_iff_eq, decide_eq_true_eq]
  omega
theorem run_eql_words (w : World) (xs ys : List Nat) (hx : xs.length = 1024) (hy : ys.length = 1024) : (binOp .eql 53 (.agg (wordVals xs)) (.agg (wordVals ys))).run Tryd.prog w = .ok (.bool (decide (xs = ys))) w := by
  rw [run_eql_struct, run_eq_words 9999 w xs ys hx hy (fun a b => eq_word 9998 w a b)]
  rfl
theorem wordVals_cells {w : World} {S : Nat} {ws : List Nat} (h : SetAt w S ws) : (loadCells ⟨S, 0, none⟩ 1024).run Tryd.prog w = .ok (wordVals ws) w := by
  have := run_loadCells_list (P := Tryd.prog) w ⟨S, 0, none⟩ (ws.map fun x : Nat => Value.int .u64 (x : Int)) (fun j v hv => by
    rw [addr_add, Nat.zero_add, h.1.cell]; exact hv)
  rw [List.length_map, h.2.1] at this
  exact this
end Go.Proofs.YtnhcikbglcaboaaDoor
