import Derived.Test.YtblpkifkaoaicaaGreatSlD
import Derived.Test.YtblpkifkaoaicaaGreatYK5
import Derived.Test.YtblpkifkaoaicaaGreatQU
/-! max and min of strings; a key of a row is written. -/
namespace Wb
open Go Go.RowKit Go.Maps Go.MapKept Go.ChangeMaps
variable {P : Program} {w w' : World} {ops : Array Oper} {rest : List Oper} {o : Oper} {a : Act} {Q : Exit → Act → World → Prop}
theorem run_max_str (ts : Array TypeId) (ty : TypeId) (p q : Nm) : (Builtin.max_ ts ty #[.string (bs p), .string (bs q)]).run P w = .ok (.string (bs (maxK p q))) w := by
  have hl := Go.Proofs.YtblpkifkaoaicaaGreat.less_str p q
  unfold maxK
  by_cases h : p < q
  · rw [decide_eq_true h] at hl
    simp [Builtin.max_, Builtin.max2, Op.stringOp, asBool, hl, h]
  · rw [decide_eq_false h] at hl
    simp [Builtin.max_, Builtin.max2, Op.stringOp, asBool, hl, h]
theorem run_min_str (ts : Array TypeId) (ty : TypeId) (p q : Nm) : (Builtin.min_ ts ty #[.string (bs p), .string (bs q)]).run P w = .ok (.string (bs (minK p q))) w := by
  have hl := Go.Proofs.YtblpkifkaoaicaaGreat.less_str p q
  unfold minK
  by_cases h : q < p
  · have h1 : ¬ p < q := fun e => nm_irrefl p (nm_trans e h)
    have h2 : ¬ p = q := fun e => nm_irrefl p (by rw [← e] at h; exact h)
    rw [decide_eq_false h1, bs_toList, bs_toList] at hl
    simp [Builtin.min_, Builtin.min2, Op.stringOp, asBool, hl, h, bs_toList, h2]
  · by_cases h2 : p = q
    · subst h2
      simp [Builtin.min_, Builtin.min2, Op.stringOp, asBool, h]
    · have h1 : p < q := nm_total (fun e => h2 e.symm) h
      rw [decide_eq_true h1] at hl
      simp [Builtin.min_, Builtin.min2, Op.stringOp, asBool, hl, h]
theorem ws_max {Qs : Act → Prop} (hg : o.guard = none) (x y : Operand) (ats : Array TypeId) (hop : o.op = .call { callee := .builtin .max, args := #[x, y], argTypes := ats }) (p q : Nm) (hx : a.eval x = .string (bs p)) (hy : a.eval y = .string (bs q))
    (hK : wpStill P ops w Qs rest (a.put o.dst (.string (bs (maxK p q))))) : wpStill P ops w Qs (o :: rest) a := by
  refine wpStill_step fun K hK' => ?_
  rw [if_pos (by simp [Region.wanted, hg])]
  have hrun := run_max_str (P := P) (w := w) ats o.type p q
  unfold Oper.still execOp
  simp only [hop, resolve, invoke, builtin, Sem.run_bind, Sem.run_pure, Result.andThen_ok, List.map_toArray, List.map_cons, List.map_nil, hx, hy, hrun]
  exact ⟨rfl, hK' _ hK⟩
theorem wl_min (hg : o.guard = none) (x y : Operand) (ats : Array TypeId) (hop : o.op = .call { callee := .builtin .min, args := #[x, y], argTypes := ats }) (p q : Nm) (hx : a.eval x = .string (bs p)) (hy : a.eval y = .string (bs q))
    (hK : wpList P ops Q rest (a.put o.dst (.string (bs (minK p q)))) w) : wpList P ops Q (o :: rest) a w := by
  refine wpList_plain hg fun K' hK' => ?_
  have hrun := run_min_str (P := P) (w := w) ats o.type p q
  unfold Oper.wp execOp
  simp only [hop, resolve, invoke, builtin, Sem.run_bind, Sem.run_pure, Result.andThen_ok, List.map_toArray, List.map_cons, List.map_nil, hx, hy, hrun]
  exact hK' _ _ hK
end Wb
namespace Go.Proofs.YtblpkifkaoaicaaGreat
open Go Go.RowKit Go.Maps Wb
theorem flat_set {l : List Rw} {n : Nat} {r : Rw} (h : l[n]? = some r) (k : Nm) : flatA (rowsA (l.set n ⟨k, r.val, r.page⟩)) = (flatA (rowsA l)).set (n * 3) (.string (bs k)) := by
  induction l generalizing n with
  | nil => simp at h
  | cons x t ih =>
    have e1 : ∀ (y : Rw) (m : List Rw), flatA (rowsA (y :: m)) = (rowA y).toList ++ flatA (rowsA m) := fun y m => by simp [flatA, rowsA]
    cases n with
    | zero =>
      simp only [List.getElem?_cons_zero, Option.some.injEq] at h
      subst h
      rw [List.set_cons_zero, e1, e1]
      rfl
    | succ n =>
      simp only [List.getElem?_cons_succ] at h
      rw [List.set_cons_succ, e1, e1, ih h, List.set_append_right _ _ (by show 3 ≤ _; omega)]
      congr 2
      show n * 3 = (n + 1) * 3 - 3
      omega
/-- A row's key is written. -/
theorem isOwnA.setKey {w : World} {lo : Nat} {ad : Option Addr} {N c : Nat} {l : List Rw} (h : isOwnA w lo 70 3 (.slice ad N c) (rowsA l)) {n : Nat} {r : Rw} (hn : l[n]? = some r) : ∃ g, ad = some ⟨g, 0, none⟩ ∧ lo ≤ g ∧ (∃ C, w.heap[g]? = some (.cells C 70 (0, 0))) ∧ w.cell? ⟨g, n * 3, none⟩ = some (.string (bs r.key)) ∧ w.frozen? ⟨g, n * 3, none⟩ = false ∧
    ∀ k, isOwnA (w.setCell ⟨g, n * 3, none⟩ (.string (bs k))) lo 70 3 (.slice ad N c) (rowsA (l.set n ⟨k, r.val, r.page⟩)) ∧ Keeps w (w.setCell ⟨g, n * 3, none⟩ (.string (bs k))) (· = g) := by
  obtain ⟨g0, c0, he, _, _, _, hr0⟩ := h.at (rowsA_at hn)
  injection he with e1 e2 e3
  subst e1 e3
  have hcell : w.cell? ⟨g0, n * 3, none⟩ = some (.string (bs r.key)) := by have := hr0 0 _ rfl; simpa using this
  obtain ⟨_, h2⟩ := h
  rcases h2.2 with ⟨he, _⟩ | ⟨g, cap, cur, he, k1, k2, k3, k4, k5, k6⟩
  · cases he
  injection he with f1 f2 f3
  injection f1 with f1
  injection f1 with f1
  subst f1 f3
  have hnl := (List.getElem?_eq_some_iff.1 hn).1
  rw [rowsA_len] at k3 k6 f2
  refine ⟨g0, rfl, k1, ⟨_, k2⟩, hcell, free_of_block k2 _, fun k => ⟨⟨rowsA_size _, ?_⟩, keeps_cell w g0 _ _⟩⟩
  refine ⟨by rw [flatA_len (rowsA_size _)], .inr ⟨g0, c, _, ?_, k1, blk_setCell k2 _ _, ?_, k4, ?_, ?_⟩⟩
  · rw [rowsA_len, List.length_set, f2]
  · rw [rowsA_len, List.length_set]; exact k3
  · rw [Array.size_setIfInBounds]; exact k5
  · rw [rowsA_len, List.length_set, flat_set hn, Array.toList_setIfInBounds, List.take_set, k6]
end Go.Proofs.YtblpkifkaoaicaaGreat
