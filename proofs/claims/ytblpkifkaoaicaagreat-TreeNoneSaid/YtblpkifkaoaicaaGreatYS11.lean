import Derived.Test.YtblpkifkaoaicaaGreatYS10
/-! Package sect: rows of numbers; what a crash does to the maps. -/
namespace Go.Proofs.YtblpkifkaoaicaaGreat
open Go Go.RowKit Go.Maps Wb

/-- A slice of ints, in blocks that are ok. -/
def isInts (w : World) (ok : Nat → Prop) (v : Value) (xs : List Int) : Prop :=
  ∃ a cap, v = .slice a xs.length cap ∧ xs.length ≤ cap ∧ cap ≤ 140737488351232 ∧ (∀ x ∈ xs, kOk x) ∧ (xs = [] ∨ ∃ g o, a = some ⟨g, o, none⟩ ∧ ok g ∧ g < w.heap.size ∧ ∀ j x, xs[j]? = some x → w.cell? ⟨g, o + j, none⟩ = some (.int .i64 x))

theorem isInts.kept {w w' : World} {ok : Nat → Prop} {v : Value} {xs : List Int} {S : Nat → Prop} (h : isInts w ok v xs) (hk : Keeps w w' S) (hS : ∀ i, ok i → i < w.heap.size → ¬ S i) : isInts w' ok v xs := by
  obtain ⟨a, cap, rfl, h0, h00, h01, h⟩ := h
  refine ⟨a, cap, rfl, h0, h00, h01, ?_⟩
  rcases h with h | ⟨g, o, rfl, h1, h2, h3⟩
  · exact .inl h
  · exact .inr ⟨g, o, rfl, h1, Nat.lt_of_lt_of_le h2 hk.size, fun j n hj => (hk.cell (p := ⟨g, o + j, none⟩) h2 (hS g h1 h2)).trans (h3 j n hj)⟩
theorem isInts.new {w w' : World} {ok : Nat → Prop} {v : Value} {xs : List Int} (h : isInts w ok v xs) (hk : Keeps w w' (fun _ => False)) : isInts w' ok v xs := h.kept hk (fun _ _ _ h => h)
/-- The first one, and the others. -/
theorem isInts.cons {w : World} {ok : Nat → Prop} {v : Value} {x : Int} {xs : List Int} (h : isInts w ok v (x :: xs)) :
    ∃ g o cap, v = .slice (some ⟨g, o, none⟩) (xs.length + 1) cap ∧ w.cell? ⟨g, o, none⟩ = some (.int .i64 x) ∧ xs.length + 1 ≤ cap ∧ cap ≤ 140737488351232 ∧ kOk x ∧ ok g ∧
      isInts w ok (.slice (if cap = 1 then some ⟨g, o, none⟩ else some ⟨g, o + 1, none⟩) xs.length (cap - 1)) xs := by
  obtain ⟨a, cap, rfl, h0, h00, h01, h⟩ := h
  rcases h with h | ⟨g, o, rfl, h1, h2, h3⟩
  · cases h
  · simp only [List.length_cons] at h0
    refine ⟨g, o, cap, rfl, by simpa using h3 0 x rfl, h0, h00, h01 x (by simp), h1, _, cap - 1, rfl, by omega, by omega, fun y hy => h01 y (List.mem_cons_of_mem _ hy), ?_⟩
    cases xs with
    | nil => exact .inl rfl
    | cons y r =>
      simp only [List.length_cons] at h0
      rw [if_neg (by omega)]
      exact .inr ⟨g, o + 1, rfl, h1, h2, fun j z hj => by have := h3 (j + 1) z (by simpa using hj); rw [show o + 1 + j = o + (j + 1) by omega]; exact this⟩

/-! ### cells from e to k are gone -/
def gapF (f : Value → Option Value) (n : Nm) (e k : Nat) (v : Value) : Option Value :=
  match decW v with
  | some (m, j) => if m = n ∧ e ≤ j ∧ j < k then none else f v
  | none => f v
theorem gapF_zero (f : Value → Option Value) (n : Nm) (e : Nat) : gapF f n e e = f := by
  funext v; unfold gapF
  cases h : decW v with
  | none => rfl
  | some x => simp only []; rw [if_neg (by omega)]
theorem gapF_succ (f : Value → Option Value) (n : Nm) {e k : Nat} (h : e ≤ k) : upd (gapF f n e k) (whereV n k) none = gapF f n e (k + 1) := by
  funext v
  by_cases ev : v = whereV n k
  · subst ev; rw [upd_same]; simp [gapF, decW_iff.2 rfl, h]
  · rw [upd_other _ _ ev]
    unfold gapF
    cases hv : decW v with
    | none => rfl
    | some x =>
      obtain ⟨m, j⟩ := x
      by_cases hm : m = n
      · have : j ≠ k := fun h => ev (by rw [← h, ← hm]; exact decW_iff.1 hv)
        simp only [hm, true_and]
        by_cases h1 : e ≤ j ∧ j < k
        · rw [if_pos h1, if_pos (by omega)]
        · rw [if_neg h1, if_neg (by omega)]
      · simp [hm]
theorem gapF_all {fs : Files} {n : Nm} {l : List Wb.Cell} {e : Nat} : gapF (cellF (fset fs n l)) n e l.length = cellF (fset fs n (l.take e)) := by
  funext v
  unfold gapF cellF
  cases hv : decW v with
  | none => rfl
  | some x =>
    obtain ⟨m, j⟩ := x
    by_cases hm : m = n
    · subst hm
      simp only [true_and, Option.bind_some, fget_fset_same]
      rw [List.getElem?_take]
      by_cases h1 : e ≤ j
      · rw [if_neg (by omega : ¬ j < e)]
        by_cases h2 : j < l.length
        · rw [if_pos ⟨h1, h2⟩]; rfl
        · rw [if_neg (by omega), List.getElem?_eq_none (by omega)]
      · rw [if_neg (by omega), if_pos (by omega)]
    · simp [hm, fget_fset_other _ _ hm]

/-- The cells in the midst of a crash: q of them are through. -/
def fallL (l : List Wb.Cell) (p : List Int) (q : Nat) : List Wb.Cell := (crashCells (l.take q) p).1.map outC ++ l.drop q
theorem fallL_zero (l : List Wb.Cell) (p : List Int) : fallL l p 0 = l := by simp [fallL, crashCells]
theorem fallL_all (l : List Wb.Cell) (p : List Int) : fallL l p l.length = (crashCells l p).1.map outC := by simp [fallL]
theorem fallL_len (l : List Wb.Cell) (p : List Int) {q : Nat} (h : q ≤ l.length) : (fallL l p q).length = l.length := by
  simp [fallL, crashCells_len]; omega
theorem fallL_at {l : List Wb.Cell} {p : List Int} {q : Nat} {c : Wb.Cell} (h : l[q]? = some c) : (fallL l p q)[q]? = some c := by
  obtain ⟨hq, rfl⟩ := List.getElem?_eq_some_iff.1 h
  unfold fallL
  have : ((crashCells (l.take q) p).1.map outC).length = q := by simp [crashCells_len]; omega
  rw [List.getElem?_append_right (by omega), this]
  simp [hq]
theorem crash_succ {l : List Wb.Cell} {p : List Int} {q : Nat} {c : Wb.Cell} (h : l[q]? = some c) :
    crashCells (l.take (q + 1)) p = ((crashCells (l.take q) p).1 ++ [(crashC c (crashCells (l.take q) p).2).1], (crashC c (crashCells (l.take q) p).2).2) := by
  obtain ⟨hq, rfl⟩ := List.getElem?_eq_some_iff.1 h
  rw [List.take_succ_eq_append_getElem hq, crashCells_snoc]
theorem fallL_succ {l : List Wb.Cell} {p : List Int} {q : Nat} {c : Wb.Cell} (h : l[q]? = some c) :
    fallL l p (q + 1) = (fallL l p q).set q (outC (crashC c (crashCells (l.take q) p).2).1) := by
  have h0 := h
  obtain ⟨hq, rfl⟩ := List.getElem?_eq_some_iff.1 h
  have hl : ((crashCells (l.take q) p).1.map outC).length = q := by simp [crashCells_len]; omega
  unfold fallL
  rw [crash_succ h0, List.set_append_right _ _ (by omega), hl, Nat.sub_self, List.drop_eq_getElem_cons hq]
  simp only [List.set_cons_zero, List.map_append, List.map_cons, List.map_nil, List.append_assoc, List.singleton_append]
theorem endOf_succ {l : List Wb.Cell} {p : List Int} {q : Nat} {c : Wb.Cell} (h : l[q]? = some c) :
    endOf (crashCells (l.take (q + 1)) p).1 = if (crashC c (crashCells (l.take q) p).2).1.2 then q + 1 else endOf (crashCells (l.take q) p).1 := by
  have hq := (List.getElem?_eq_some_iff.1 h).1
  rw [crash_succ h, endOf_snoc, crashCells_len, List.length_take, Nat.min_eq_left (Nat.le_of_lt hq)]

/-- One file is through. -/
theorem isDev.felled {w0 w : World} {h : DH} {D : Dv} {n : Nm} {l t : List Wb.Cell} (hd : isDev w0 h D) (hf : fget D.files n = some l) (ht : t.length ≤ l.length)
    (hp : Parts w h ((fldA D h).setIfInBounds 1 (.int .i64 (used D.files - (l.length - t.length)))) (upd (longF D.files) (.string (bs n)) (some (.int .i64 t.length))) (cellF (fset D.files n t))) :
    isDev w h { D with files := fset D.files n t } := by
  have hu : used (fset D.files n t) + l.length = used D.files + t.length := by
    have := used_fset hd.wf.sorted n t
    rw [hf] at this
    simpa using this
  have hv : (used D.files : Int) - (l.length - t.length) = used (fset D.files n t) := by omega
  refine ⟨?_, ?_, hp.cells, ⟨hd.wf.most, hd.wf.fuse, hd.wf.fuse', sorted_fset hd.wf.sorted _ _, by have := hd.wf.used; show used (fset D.files n t) ≤ D.most; omega, nm_fset hd.wf.nm hf _⟩, hd.ne⟩
  · have := hp.fld
    rw [hv] at this
    simpa [fldA] using this
  · rw [longF_fset]; exact hp.long
end Go.Proofs.YtblpkifkaoaicaaGreat
