import Derived.Test.YtadjcdfmppcpnaaDoorNmA
/-! Layer 0: the names' numbers: the row of pairs. -/
namespace Go.Proofs.YtadjcdfmppcpnaaDoor
open Go Go.RowKit

/-- Operations that call nothing, one behind the other. -/
def runSeq (P : Program) (ops : Array Oper) : List Nat → Act → World → Option (Act × World)
  | [], a, w => some (a, w)
  | i :: r, a, w => match ops[i]? with
    | none => none
    | some o => if Region.wanted o (yielded ops a.tmps) then
        match (execOp a.eval o).run P w with
        | .ok (.value v) w' => runSeq P ops r (a.put o.dst v) w'
        | _ => none
      else none
theorem wpOps_of_run {P : Program} {ops : Array Oper} {Q : Exit → Act → World → Prop} : ∀ (l : List Nat) (a : Act) (w : World) (h : (runSeq P ops l a w).isSome = true),
    Q .normal ((runSeq P ops l a w).get h).1 ((runSeq P ops l a w).get h).2 → wpOps P ops Q l a w
  | [], a, w, h, hQ => by simpa [wpOps, runSeq] using hQ
  | i :: r, a, w, h, hQ => by
    rw [wpOps_cons]
    unfold wpOp
    simp only [runSeq] at h hQ
    split at h
    · cases h
    · rename_i o ho
      simp only [ho] at h hQ ⊢
      split at h
      · rename_i hw
        simp only [hw, if_true] at h hQ ⊢
        left
        unfold Oper.wp
        split at h
        · rename_i v w' hr
          simp only [hr] at h hQ ⊢
          exact wpOps_of_run r _ _ h hQ
        · cases h
      · cases h

def numbers : List Int := [0, 1, 2, 3, 4, 5, 6, 7, 8, 9, 10, 11, 12, 13, 14, 15, 16, 4096, 16, 2000, 8, 30, 60, 10000, 100000, 4096, 256, 190000, 64, 1, 2, 3, 1, 2, 3, 4, 5, 1, 2, 1, 2, 3, 4, 5, 6, 7, 8, 9, 10, 11, 1, 2, 3, 0, 1, 2, 3, 4, 5, 6, 1, 2, 3, 4, 5, 6, 7, 1, 2, 3, 4, 5, 6, 7, 8]
def numA : Array Value := (numbers.flatMap fun n => [Value.int .i64 n, Value.int .i64 n]).toArray
theorem pairs_at {f : Int → Value} : ∀ (l : List Int) (k : Nat) (n : Int), l[k]? = some n → (l.flatMap fun n => [f n, f n])[k * 2]? = some (f n) ∧ (l.flatMap fun n => [f n, f n])[k * 2 + 1]? = some (f n)
  | [], _, _, h => by cases h
  | a :: r, 0, n, h => by
    simp only [List.getElem?_cons_zero, Option.some.injEq] at h
    subst h
    simp [List.flatMap_cons]
  | a :: r, k + 1, n, h => by
    have := pairs_at (f := f) r k n (by simpa using h)
    rw [List.flatMap_cons, show (k + 1) * 2 = k * 2 + 1 + 1 by omega]
    simpa using this
theorem num_at (k : Nat) (hk : k < 75) : ∃ n, numA[k * 2]? = some (.int .i64 n) ∧ numA[k * 2 + 1]? = some (.int .i64 n) := by
  have hl : k < numbers.length := by rw [show numbers.length = 75 from rfl]; exact hk
  have := pairs_at (f := Value.int .i64) numbers k _ (List.getElem?_eq_getElem hl)
  exact ⟨_, by simpa [numA] using this⟩

theorem wp_region_run {P : Program} {id : Nat} {ops : Array Oper} {Q : Exit → Act → World → Prop} {a : Act} {w : World} {y : Code} (h : (runSeq P ops (List.range ops.size) a w).isSome = true)
    (hQ : y.wp P Q ((runSeq P ops (List.range ops.size) a w).get h).1 ((runSeq P ops (List.range ops.size) a w).get h).2) : (Code.seq (Code.region id ops false) y).wp P Q a w :=
  wp_seq (wp_region (wpOps_of_run _ _ _ h hQ))

set_option maxRecDepth 100000 in
set_option maxHeartbeats 8000000 in
theorem all_calls (w : World) : Calls Tryd.prog 4 #[] w fun e w' => e = .returned (.slice (some ⟨w.heap.size, 0, none⟩) 75 75) ∧ w' = w.alloc (.cells numA 25) := by
  go_enter Tryd.func4, Tryd.ntmps4
  refine wp_region_run (by kernel_rfl) ?_
  refine wp_region_run (by kernel_rfl) ?_
  refine wp_ret ?_
  exact ⟨by kernel_rfl, _, by kernel_rfl, rfl, by kernel_rfl⟩
end Go.Proofs.YtadjcdfmppcpnaaDoor
