import Derived.Test.YtadjcdfmppcpnaaP7b
/-! Layer 7, plain laws: a device with one file; SectEnds. -/
namespace Wb
open Go

def oneF (m : Nat) (n : Nm) (l : List Cell) : Dv := ⟨m, -1, [(n, l)]⟩
theorem one_get (n : Nm) (l : List Cell) : fget [(n, l)] n = some l := by simp [fget]
theorem one_set (n : Nm) (l v : List Cell) : fset [(n, l)] n v = [(n, v)] := by simp [fset]
theorem one_used (n : Nm) (l : List Cell) : used [(n, l)] = l.length := by simp [used]
theorem one_thr (m : Nat) (n : Nm) (l : List Cell) : (oneF m n l).thr n = 0 := by simp [oneF, Dv.thr, one_get]
theorem one_cells (m : Nat) (n : Nm) (l : List Cell) : (oneF m n l).cells n = l := by simp [oneF, Dv.cells, one_get]
theorem one_len (m : Nat) (n : Nm) (l : List Cell) : (oneF m n l).len n = l.length := by simp [Dv.len, one_cells]
theorem one_done (m : Nat) (fs : Files) : (⟨m, -1, fs⟩ : Dv).done = ⟨m, -1, fs⟩ := rfl
theorem one_start (m : Nat) (n : Nm) (hm : m ≤ 100000) (h : n ≠ [] ∧ n.length ≤ 20) : (Dv.new m).make n = (oneF m n [], 0) := by
  have h1 : Dv.new m = ⟨m, -1, []⟩ := by
    have : (min (max (m : Int) 0) 100000).toNat = m := by omega
    unfold Dv.new; rw [this]
  rw [h1]
  unfold Dv.make
  rw [if_neg (show ¬ (-1 : Int) = 0 by decide), if_neg (by rintro (e | e); exact h.1 e; omega)]
  rfl
theorem one_append (m : Nat) (n : Nm) (l : List Cell) (s : Sec) (h : l.length < m) : (oneF m n l).write n l.length s = (oneF m n (l ++ [Cell.zero.write s]), 0) := by
  unfold Dv.write
  rw [if_neg (by rw [one_thr]; simp), one_len, one_cells, if_neg (by omega), if_pos rfl]
  simp only [oneF, one_used, one_set]
  rw [if_neg (by omega)]; rfl
theorem one_over (m : Nat) (n : Nm) (l : List Cell) (k : Nat) (s : Sec) (h : k < l.length) : (oneF m n l).write n k s = (oneF m n (l.modify k (·.write s)), 0) := by
  unfold Dv.write
  rw [if_neg (by rw [one_thr]; simp), one_len, one_cells, if_neg (by omega), if_neg (by omega), Int.toNat_natCast]
  simp only [oneF, one_set]; rfl
theorem one_read (m : Nat) (n : Nm) (l : List Cell) (k : Nat) (c : Cell) (h : l[k]? = some c) : (oneF m n l).read n k = if c.nowBad then (Sec.zero, 7) else (c.now, 0) := by
  have hk := (List.getElem?_eq_some_iff.1 h).1
  have hg : fget (oneF m n l).files n = some l := one_get n l
  unfold Dv.read
  rw [hg]
  simp only [Int.toNat_natCast, h]
  rw [if_neg (by omega)]
theorem one_sync (m : Nat) (n : Nm) (l : List Cell) : (oneF m n l).sync n = (oneF m n (l.map fun c => if c.fresh then c.lasts else c), 0) := by
  unfold Dv.sync
  rw [if_neg (by rw [one_thr]; simp), one_cells]
  simp only [oneF, one_set]; rfl
theorem one_crash (m : Nat) (n : Nm) (l : List Cell) (pick : List Int) : (oneF m n l).crash pick = oneF m n (trim (crashCells l pick).1) := rfl

/-! ### what a crash makes of each cell -/
def freshN (l : List Cell) : Nat := (l.filter (·.fresh)).length
theorem crashCells_rest (l : List Cell) : ∀ pick, (crashCells l pick).2 = pick.drop (freshN l) := by
  induction l with
  | nil => intro pick; rfl
  | cons c r ih =>
    intro pick
    simp only [crashCells, ih]
    cases hc : c.fresh
    · simp [crashC, hc, freshN]
    · simp [crashC, hc, freshN, Nat.add_comm]
theorem crashCells_get (l : List Cell) : ∀ pick (k : Nat), (crashCells l pick).1[k]? = l[k]?.map fun c => (crashC c (pick.drop (freshN (l.take k)))).1 := by
  induction l with
  | nil => intro pick k; simp [crashCells]
  | cons c r ih =>
    intro pick k
    cases k with
    | zero => simp [crashCells, freshN]
    | succ k =>
      simp only [crashCells, List.getElem?_cons_succ, ih, List.take_succ_cons]
      cases hc : c.fresh
      · simp [crashC, hc, freshN]
      · simp [crashC, hc, freshN, Nat.add_comm]
theorem trim_get (xs : List (Cell × Bool)) (k : Nat) (h : k < endOf xs) : (trim xs)[k]? = xs[k]?.map outC := by
  unfold trim
  rw [List.getElem?_take_of_lt h, List.getElem?_map]

/-! ### SectEnds -/
theorem freshOk : ∀ q, freshN (freshCells q) = q := by
  intro q
  have : (freshCells q).filter (·.fresh) = freshCells q := by
    rw [List.filter_eq_self]
    intro c hc
    simp only [freshCells, List.mem_map] at hc
    obtain ⟨j, _, rfl⟩ := hc
    rfl
  simp [freshN, this, freshCells_len]
theorem fresh_take (q k : Nat) (h : k ≤ q) : (freshCells q).take k = freshCells k := by
  simp only [freshCells, ← List.map_take, List.take_range, Nat.min_eq_left h]
theorem fresh_get (q k : Nat) (h : k < q) : (freshCells q)[k]? = some (Cell.zero.write (sectorOf (k : Int))) := by
  simp [freshCells, h]
def lastOf (xs : List Int) (q : Nat) : Nat := endOf (crashCells (freshCells q) xs).1
theorem lastOf_zero (xs : List Int) : lastOf xs 0 = 0 := rfl
theorem way_cases (x : Int) : pickWay x = 0 ∨ pickWay x = 1 ∨ pickWay x = 2 := by unfold pickWay; omega
theorem lastOf_succ (xs : List Int) (q : Nat) (x : Int) (hx : xs[q]? = some x) : lastOf xs (q + 1) = if pickWay x ≠ 0 then q + 1 else lastOf xs q := by
  unfold lastOf
  rw [freshCells_succ, crashCells_snoc, endOf_snoc, crashCells_rest, freshOk, crashCells_len, freshCells_len]
  have hd : xs.drop q = x :: xs.drop (q + 1) := by
    obtain ⟨h1, rfl⟩ := List.getElem?_eq_some_iff.1 hx
    exact List.drop_eq_getElem_cons h1
  rw [hd]
  have : (crashC (Cell.zero.write (sectorOf (q : Int))) (x :: xs.drop (q + 1))).1.2 = decide (pickWay x ≠ 0) := by
    rcases way_cases x with e | e | e <;> simp [crashC, Cell.write, fallC, e, Cell.zero]
  rw [this]
  by_cases h : pickWay x = 0 <;> simp [h]
theorem lastOf_le (xs : List Int) (q : Nat) : lastOf xs q ≤ q := by
  have := endOf_le (crashCells (freshCells q) xs).1
  rwa [crashCells_len, freshCells_len] at this

def EndsRel (D : Dv) (xs : List Int) (last i : Nat) : Prop :=
  ∃ l : List Cell, D = oneF 50 [102] l ∧ l.length = last ∧ ∀ j, i ≤ j → j < last → ∃ c x, l[j]? = some c ∧ xs[j]? = some x ∧ (pickWay x = 1 → c.nowBad = false ∧ c.now = sectorOf j) ∧ (pickWay x ≠ 1 → c.nowBad = true)
theorem ends_start (xs : List Int) (n : Nat) (hn : n ≤ xs.length) : EndsRel ((oneF 50 [102] (freshCells n)).crash xs) xs (lastOf xs n) 0 := by
  rw [one_crash]
  refine ⟨_, rfl, trim_len _, fun j _ hj => ?_⟩
  have hjn : j < n := Nat.lt_of_lt_of_le hj (lastOf_le xs n)
  obtain ⟨x, hx⟩ : ∃ x, xs[j]? = some x := ⟨xs[j]'(by omega), List.getElem?_eq_getElem _⟩
  have hd : xs.drop j = x :: xs.drop (j + 1) := by
    obtain ⟨h1, rfl⟩ := List.getElem?_eq_some_iff.1 hx
    exact List.drop_eq_getElem_cons h1
  refine ⟨outC (crashC (Cell.zero.write (sectorOf (j : Int))) (x :: xs.drop (j + 1))).1, x, ?_, hx, ?_⟩
  · rw [trim_get _ _ hj, crashCells_get, fresh_get _ _ hjn, fresh_take _ _ (by omega), freshOk, hd]
    simp only [Option.map_some]
  · rcases way_cases x with e | e | e <;> simp [crashC, Cell.write, fallC, e, Cell.zero, outC, Cell.lasts, lost]
theorem ends_len {D : Dv} {xs : List Int} {last i : Nat} (h : EndsRel D xs last i) : D.len [102] = last := by
  obtain ⟨l, rfl, hl, _⟩ := h
  rw [one_len, hl]
theorem ends_good {D : Dv} {xs : List Int} {last i : Nat} {x : Int} (h : EndsRel D xs last i) (hi : i < last) (hx : xs[i]? = some x) (hw : pickWay x = 1) : D.read [102] i = (sectorOf i, 0) ∧ EndsRel D xs last (i + 1) := by
  obtain ⟨l, rfl, hl, hc⟩ := h
  obtain ⟨c, x', h1, h2, h3, _⟩ := hc i (Nat.le_refl _) hi
  rw [hx] at h2; cases h2
  obtain ⟨h5, h6⟩ := h3 hw
  refine ⟨by rw [one_read _ _ _ _ c h1, h5, h6]; rfl, l, rfl, hl, fun j hj => hc j (by omega)⟩
theorem ends_bad {D : Dv} {xs : List Int} {last i : Nat} {x : Int} (h : EndsRel D xs last i) (hi : i < last) (hx : xs[i]? = some x) (hw : pickWay x ≠ 1) :
    ∃ D', D.read [102] i = (Sec.zero, 7) ∧ D.write [102] i (sectorOf (i + 9)) = (D', 0) ∧ D'.read [102] i = (sectorOf (i + 9), 0) ∧ EndsRel D' xs last (i + 1) := by
  obtain ⟨l, rfl, hl, hc⟩ := h
  obtain ⟨c, x', h1, h2, _, h4⟩ := hc i (Nat.le_refl _) hi
  rw [hx] at h2; cases h2
  refine ⟨oneF 50 [102] (l.modify i (·.write (sectorOf (i + 9)))), by rw [one_read _ _ _ _ c h1, h4 hw]; rfl, one_over _ _ _ _ _ (by omega), ?_, _, rfl, by simp [hl], fun j hj hj2 => ?_⟩
  · rw [one_read _ _ _ _ (c.write (sectorOf (i + 9))) (by rw [List.getElem?_modify, h1]; simp)]
    rfl
  · obtain ⟨c', x', k1, k2⟩ := hc j (by omega) hj2
    refine ⟨c', x', ?_, k2⟩
    rw [List.getElem?_modify, k1]; simp only [Option.map_eq_map, Option.map_some]; rw [if_neg (by omega)]
end Wb
