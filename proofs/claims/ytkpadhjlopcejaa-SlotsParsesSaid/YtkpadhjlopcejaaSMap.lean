/-
  The map of rules: what rules makes, and how it is looked up.
-/
import Derived.Test.YtkpadhjlopcejaaSMay
namespace Go.Proofs.Ytkpadhjlopcejaa
open Go.RowKit
def ruleF (n : Nat) : Value := .func (.func n) #[] #[]
def ruleEs : Array MapEntry := #[{ key := .int .i64 2, val := ruleF 72, born := 0 }, { key := .int .i64 3, val := ruleF 74, born := 1 }]
def RulesAt (w : World) (r : Nat) : Prop := w.heap[r]? = some (.map ruleEs 2)
theorem set_alloc (w : World) (o o' : Obj) : { w.alloc o with heap := (w.alloc o).heap.setIfInBounds w.heap.size o' } = w.alloc o' := by
  show ({ w with heap := (w.heap.push o).setIfInBounds w.heap.size o' } : World) = { w with heap := w.heap.push o' }
  congr 1
  rw [← Array.toList_inj]
  simp
theorem run_check60 (b : Bool) (k : Int) (w : World) : (Instr.checkKey b 10000 60 (.int .i64 k)).run Try.prog w = .ok () w := by
  show (Instr.checkKey b (9999 + 1) 60 (.int .i64 k)).run Try.prog w = .ok () w
  rw [Instr.checkKey]
  simp [run_underlying Try.underlying60]
theorem run_find60 (k : Int) (es : List MapEntry) (r : Option (Nat × Value)) (h : Instr.findNow (.int .i64) (.int .i64 k) es 0 = some r) (w : World) : (Instr.findKey 60 (.int .i64 k) es).run Try.prog w = .ok r w := by
  unfold Instr.findKey
  simp only [Sem.run_bind, run_underlying Try.underlying60, Result.andThen_ok, h, Sem.run_pure]
theorem run_put (w : World) (es : Array MapEntry) (c : Nat) (k : Int) (v : Value) (h : Instr.findNow (.int .i64) (.int .i64 k) es.toList 0 = some none) :
    (Instr.mapUpdate 99 (.map (some w.heap.size)) (.int .i64 k) v).run Try.prog (w.alloc (.map es c)) = .ok () (w.alloc (.map (es.push { key := .int .i64 k, val := v, born := c }) (c + 1))) := by
  have hb : (w.alloc (.map es c)).heap[w.heap.size]? = some (.map es c) := heap_alloc_new w _
  unfold Instr.mapUpdate
  simp only [Sem.run_bind, run_underlying Try.underlying99, Result.andThen_ok, MapKept.run_getObj_map hb, run_check60, run_find60 k es.toList _ h, MapKept.run_setObj_map _ hb, set_alloc]
theorem run_rule1 (w : World) (v : Value) : (Instr.mapUpdate 99 (.map (some w.heap.size)) (.int .i64 2) v).run Try.prog (w.alloc (.map #[] 0)) = .ok () (w.alloc (.map #[{ key := .int .i64 2, val := v, born := 0 }] 1)) :=
  run_put w #[] 0 2 v rfl
theorem run_rule2 (w : World) (u v : Value) : (Instr.mapUpdate 99 (.map (some w.heap.size)) (.int .i64 3) v).run Try.prog (w.alloc (.map #[{ key := .int .i64 2, val := u, born := 0 }] 1)) = .ok () (w.alloc (.map #[{ key := .int .i64 2, val := u, born := 0 }, { key := .int .i64 3, val := v, born := 1 }] 2)) :=
  run_put w #[{ key := .int .i64 2, val := u, born := 0 }] 1 3 v rfl
def ruleOf (k : Int) : Option (Nat × Value) := if k = 2 then some (0, ruleF 72) else if k = 3 then some (1, ruleF 74) else none
theorem find_rule (k : Int) : Instr.findNow (.int .i64) (.int .i64 k) ruleEs.toList 0 = some (ruleOf k) := by
  unfold ruleOf ruleEs
  by_cases h2 : k = 2
  · subst h2; rfl
  · by_cases h3 : k = 3
    · subst h3; rfl
    · rw [if_neg h2, if_neg h3]
      have e2 : (k == 2) = false := by simp [h2]
      have e3 : (k == 3) = false := by simp [h3]
      simp [Instr.findNow, Instr.sameNow, e2, e3]
theorem run_look (w : World) (r : Nat) (h : RulesAt w r) (k : Int) :
    (Instr.lookup 99 (.map (some r)) (.int .i64 k) true).run Try.prog w = .ok (.tuple #[match ruleOf k with | some (_, v) => v | none => .nilFunc, .bool (ruleOf k).isSome]) w := by
  have hz : (zeroValue 97).run Try.prog w = .ok .nilFunc w := by kernel_rfl
  unfold Instr.lookup
  simp only [Sem.run_bind, run_underlying Try.underlying99, Result.andThen_ok, MapKept.run_getObj_map h, run_check60, run_find60 k _ _ (find_rule k), Sem.run_pure]
  cases ruleOf k with
  | none => simp
  | some x => simp
theorem rules_calls (w : World) : Calls Try.prog 58 #[] w fun e w' => e = .returned (.map (some w.heap.size)) ∧ w' = w.alloc (.map ruleEs 2) := by
  have hmm := @run_makeMap Try.prog
  have h1 := run_rule1 w (.func (.func 72) #[] #[])
  have h2 := run_rule2 w (.func (.func 72) #[] #[]) (.func (.func 74) #[] #[])
  go_enter Try.func58, Try.ntmps58
  go_wp2_with fail
  trace_state
  go_ret
  exact ⟨rfl, rfl⟩
end Go.Proofs.Ytkpadhjlopcejaa
