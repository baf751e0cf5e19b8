import Derived.Test.YtblpkifkaoaicaaGreatYS10
/-! Package sect: rows of numbers; what a crash does to the maps. -/
namespace Go.Proofs.YtblpkifkaoaicaaGreat
open Go Go.RowKit Go.Maps Wb

/-- A slice of ints, in blocks that are ok. -/
def isInts (w : World) (ok : Nat → Prop) (v : Value) (xs : List Int) : Prop :=
  ∃ a cap, v = .slice a xs.length cap ∧ xs.length ≤ cap ∧ cap ≤ 140737488351232 ∧ (∀ x ∈ xs, kOk x) ∧ (xs = [] ∨ ∃ g o, a = some ⟨g, o, none⟩ ∧ ok g ∧ g < w.heap.size ∧ ∀ j x, xs[j]? = some x → w.cell? ⟨g, o + j, none⟩ = some (.int .i64 x))

theorem isInts.kept {w w' : World} {ok : Nat → Prop} {v : Value} {xs : List Int} {S : Nat → Prop} (h : isInts w ok v xs) (hk : Keeps w w' S) (hS : ∀ i, ok i → i < w.heap.size → ¬ S i) : isInts w' ok v xs := by
  obtain ⟨a, cap, rfl, h0, h00, h01, h⟩ := h
  refine ⟨a, cap, rfl, h0, h00, h01, ?_⟩
  rcases h with h | ⟨g, o, rfl, h1, h2, h3⟩
  · exact .inl h
  · exact .inr ⟨g, o, rfl, h1, Nat.lt_of_lt_of_le h2 hk.size, fun j n hj => (hk.cell (p := ⟨g, o + j, none⟩) h2 (hS g h1 h2)).trans (h3 j n hj)⟩
theorem isInts.new {w w' : World} {ok : Nat → Prop} {v : Value} {xs : List Int} (h : isInts w ok v xs) (hk : Keeps w w' (fun _ => False)) : isInts w' ok v xs := h.kept hk (fun _ _ _ h => h)
/-- The first one, and the others. -/
theorem isInts.cons {w : World} {ok : Nat → Prop} {v : Value} {x : Int} {xs : List Int} (h : isInts w ok v (x :: xs)) :
    ∃ g o cap, v = .slice (some ⟨g, o, none⟩) (xs.length + 1) cap ∧ w.cell? ⟨g, o, none⟩ = some (.int .i64 x) ∧ xs.length + 1 ≤ cap ∧ cap ≤ 140737488351232 ∧ kOk x ∧ ok g ∧
      isInts w ok (.slice (if cap = 1 then some ⟨g, o, none⟩ else some ⟨g, o + 1, none⟩) xs.length (cap - 1)) xs := by
  obtain ⟨a, cap, rfl, h0, h00, h01, h⟩ := h
  rcases h with h | ⟨g, o, rfl, h1, h2, h3⟩
  · cases h
  · simp only [List.length_cons] at h0
    refine ⟨g, o, cap, rfl, by simpa using h3 0 x rfl, h0, h00, h01 x (by simp), h1, _, cap - 1, rfl, by omega, by omega, fun y hy => h01 y (List.mem_cons_of_mem _ hy), ?_⟩
    cases xs with
    | nil => exact .inl rfl
    | cons y r =>
      simp only [List.length_cons] at h0
      rw [if_neg (by omega)]
      exact .inr ⟨g, o + 1, rfl, h1, h2, fun j z hj => by have := h3 (j + 1) z (by simpa using hj); rw [show o + 1 + j = o + (j + 1) by omega]; exact this⟩

/-! ### cells from e to k are gone -/
end Go.Proofs.YtblpkifkaoaicaaGreat
