import Derived.Test.YtblpkifkaoaicaaGreatQM
/-! A row's page is written. -/
namespace Go.Proofs.YtblpkifkaoaicaaGreat
open Go Go.RowKit Go.Maps Wb
theorem flat_setP {l : List Rw} {n : Nat} {r : Rw} (h : l[n]? = some r) (k : Int) : flatA (rowsA (l.set n ⟨r.key, r.val, k⟩)) = (flatA (rowsA l)).set (n * 3 + 2) (.int .i64 k) := by
  induction l generalizing n with
  | nil => simp at h
  | cons x t ih =>
    have e1 : ∀ (y : Rw) (m : List Rw), flatA (rowsA (y :: m)) = (rowA y).toList ++ flatA (rowsA m) := fun y m => by simp [flatA, rowsA]
    cases n with
    | zero =>
      simp only [List.getElem?_cons_zero, Option.some.injEq] at h
      subst h
      rw [List.set_cons_zero, e1, e1]
      rfl
    | succ n =>
      simp only [List.getElem?_cons_succ] at h
      rw [List.set_cons_succ, e1, e1, ih h, List.set_append_right _ _ (by show 3 ≤ _; omega)]
      congr 2
      show n * 3 + 2 = (n + 1) * 3 + 2 - 3
      omega
/-- A row's page is written. -/
theorem isOwnA.setPage {w : World} {lo : Nat} {ad : Option Addr} {N c : Nat} {l : List Rw} (h : isOwnA w lo 70 3 (.slice ad N c) (rowsA l)) {n : Nat} {r : Rw} (hn : l[n]? = some r) : ∃ g, ad = some ⟨g, 0, none⟩ ∧ lo ≤ g ∧ (∃ C, w.heap[g]? = some (.cells C 70 (0, 0))) ∧ w.cell? ⟨g, n * 3 + 2, none⟩ = some (.int .i64 r.page) ∧ w.frozen? ⟨g, n * 3 + 2, none⟩ = false ∧
    ∀ k, isOwnA (w.setCell ⟨g, n * 3 + 2, none⟩ (.int .i64 k)) lo 70 3 (.slice ad N c) (rowsA (l.set n ⟨r.key, r.val, k⟩)) ∧ Keeps w (w.setCell ⟨g, n * 3 + 2, none⟩ (.int .i64 k)) (· = g) := by
  obtain ⟨g0, c0, he, _, _, _, hr0⟩ := h.at (rowsA_at hn)
  injection he with e1 e2 e3
  subst e1 e3
  have hcell : w.cell? ⟨g0, n * 3 + 2, none⟩ = some (.int .i64 r.page) := by have := hr0 2 _ rfl; simpa using this
  obtain ⟨_, h2⟩ := h
  rcases h2.2 with ⟨he, _⟩ | ⟨g, cap, cur, he, k1, k2, k3, k4, k5, k6⟩
  · cases he
  injection he with f1 f2 f3
  injection f1 with f1
  injection f1 with f1
  subst f1 f3
  have hnl := (List.getElem?_eq_some_iff.1 hn).1
  rw [rowsA_len] at k3 k6 f2
  refine ⟨g0, rfl, k1, ⟨_, k2⟩, hcell, free_of_block k2 _, fun k => ⟨⟨rowsA_size _, ?_⟩, keeps_cell w g0 _ _⟩⟩
  refine ⟨by rw [flatA_len (rowsA_size _)], .inr ⟨g0, c, _, ?_, k1, blk_setCell k2 _ _, ?_, k4, ?_, ?_⟩⟩
  · rw [rowsA_len, List.length_set, f2]
  · rw [rowsA_len, List.length_set]; exact k3
  · rw [Array.size_setIfInBounds]; exact k5
  · rw [rowsA_len, List.length_set, flat_setP hn, Array.toList_setIfInBounds, List.take_set, k6]
end Go.Proofs.YtblpkifkaoaicaaGreat
