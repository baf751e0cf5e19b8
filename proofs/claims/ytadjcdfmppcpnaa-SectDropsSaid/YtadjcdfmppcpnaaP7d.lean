import Derived.Test.YtadjcdfmppcpnaaP7c
/-! Layer 7, the plain law of SectSyncs. -/
namespace Wb
open Go

def syncCell0 (k : Nat) : Cell := (Cell.zero.write (sectorOf (k : Int))).lasts
def ovCell (n : Nat) (ov : List Bool) (k : Nat) : Cell :=
  if k < n then (if ov.getD k false then (syncCell0 k).write (sectorOf (100 + (k : Int))) else syncCell0 k) else Cell.zero.write (sectorOf (100 + (k : Int)))
def ovL (n : Nat) (ov : List Bool) (long : Nat) : List Cell := (List.range long).map (ovCell n ov)
theorem ovL_len (n : Nat) (ov : List Bool) (long : Nat) : (ovL n ov long).length = long := by simp [ovL]
theorem ovL_get (n : Nat) (ov : List Bool) (long k : Nat) (h : k < long) : (ovL n ov long)[k]? = some (ovCell n ov k) := by simp [ovL, h]
/-- What is over is over behind the first n. -/
def OvOk (n : Nat) (ov : List Bool) (long : Nat) : Prop := n ≤ long ∧ long ≤ 100 ∧ ∀ k, n ≤ k → k < long → ov.getD k false = true

theorem syncs_start (n : Nat) (hn : n ≤ 16) (z : Nat) : (oneF 100 [97] (freshCells n)).sync [97] = (oneF 100 [97] (ovL n (List.replicate z false) n), 0) ∧ OvOk n (List.replicate z false) n := by
  refine ⟨?_, Nat.le_refl _, by omega, fun k h1 h2 => by omega⟩
  rw [one_sync]
  congr 2
  apply List.ext_getElem?
  intro k
  by_cases hk : k < n
  · rw [ovL_get _ _ _ _ hk, List.getElem?_map, fresh_get _ _ hk]
    have : (List.replicate z false).getD k false = false := by
      rw [List.getD_eq_getElem?_getD, List.getElem?_replicate]; split <;> rfl
    simp only [ovCell, hk, this, if_true, Option.map_some]
    rfl
  · rw [List.getElem?_eq_none (by simp [freshCells_len]; omega), List.getElem?_eq_none (by rw [ovL_len]; omega)]

theorem getD_set (ov : List Bool) (k j : Nat) (hk : k < ov.length) : (ov.set k true).getD j false = if j = k then true else ov.getD j false := by
  simp only [List.getD_eq_getElem?_getD, List.getElem?_set]
  by_cases h : k = j
  · subst h; simp [hk]
  · simp [h, Ne.symm h]

theorem write_write (c : Cell) (s : Sec) : (c.write s).write s = c.write s := rfl

theorem syncs_write (n : Nat) (ov : List Bool) (long k : Nat) (h : OvOk n ov long) (hl : long < 100) (hk : k ≤ long) (hov : k < ov.length) :
    (oneF 100 [97] (ovL n ov long)).write [97] k (sectorOf (100 + (k : Int))) = (oneF 100 [97] (ovL n (ov.set k true) (max long (k + 1))), 0) ∧ OvOk n (ov.set k true) (max long (k + 1)) := by
  obtain ⟨h1, h2, h3⟩ := h
  refine ⟨?_, by omega, by omega, fun j hj hj2 => ?_⟩
  · by_cases hkl : k = long
    · subst hkl
      have := one_append 100 [97] (ovL n ov k) (sectorOf (100 + (k : Int))) (by rw [ovL_len]; exact hl)
      rw [ovL_len] at this
      rw [this, show max k (k + 1) = k + 1 by omega]
      congr 2
      apply List.ext_getElem?
      intro j
      rcases Nat.lt_trichotomy j k with hj | rfl | hj
      · rw [List.getElem?_append_left (by rw [ovL_len]; exact hj), ovL_get _ _ _ _ hj, ovL_get _ _ _ _ (by omega)]
        unfold ovCell
        rw [getD_set _ _ _ hov, if_neg (show ¬ j = k by omega)]
      · rw [List.getElem?_append_right (by rw [ovL_len]; omega), ovL_len, ovL_get _ _ _ _ (by omega)]
        simp only [Nat.sub_self, List.getElem?_cons_zero]
        unfold ovCell
        rw [if_neg (by omega)]
      · rw [List.getElem?_eq_none (by simp [ovL_len]; omega), List.getElem?_eq_none (by rw [ovL_len]; omega)]
    · have hk2 : k < long := by omega
      rw [one_over _ _ _ _ _ (by rw [ovL_len]; exact hk2), show max long (k + 1) = long by omega]
      congr 2
      apply List.ext_getElem?
      intro j
      rw [List.getElem?_modify]
      by_cases hj : j < long
      · rw [ovL_get _ _ _ _ hj, ovL_get _ _ _ _ hj]
        simp only [Option.map_eq_map, Option.map_some, Option.some.injEq]
        unfold ovCell
        rw [getD_set _ _ _ hov]
        by_cases hjk : k = j
        · subst hjk
          simp only [if_true]
          by_cases hkn : k < n
          · simp only [hkn, if_true]
            cases ov.getD k false <;> rfl
          · simp only [hkn, if_false]; rfl
        · rw [if_neg hjk]
          simp only [show (j = k) = False from propext ⟨fun e => hjk e.symm, False.elim⟩, if_false]
      · rw [List.getElem?_eq_none (by rw [ovL_len]; omega), List.getElem?_eq_none (by rw [ovL_len]; omega)]; rfl
  · rw [getD_set _ _ _ hov]
    split
    · rfl
    · exact h3 j hj (by omega)
theorem endOf_true (xs : List (Cell × Bool)) (k : Nat) (x : Cell × Bool) (h : xs[k]? = some x) (hx : x.2 = true) : k < endOf xs := by
  induction xs generalizing k with
  | nil => simp at h
  | cons y r ih =>
    cases k with
    | zero =>
      simp only [List.getElem?_cons_zero, Option.some.injEq] at h
      subst h
      simp only [endOf, hx, if_true]
      split <;> omega
    | succ k =>
      simp only [List.getElem?_cons_succ] at h
      have := ih k h
      simp only [endOf]
      rw [if_pos (by omega)]
      omega

theorem crashC_way (c : Cell) (p : List Int) (hc : c.fresh = true) : ∃ x : Int, (x = 0 ∨ x = 1 ∨ x = 2) ∧ (crashC c p).1 = fallC c x := by
  unfold crashC
  rw [if_pos hc]
  cases p with
  | nil => exact ⟨0, .inl rfl, rfl⟩
  | cons y r => exact ⟨pickWay y, way_cases y, rfl⟩

/-- What a sector reads behind the crash. -/
def SyncsSaid (n : Nat) (ov : List Bool) (k : Nat) (r : Sec × Int) : Prop :=
  (ov.getD k false = false ∧ k < n ∧ r = (sectorOf (k : Int), 0)) ∨
  (ov.getD k false = true ∧ (r = (Sec.zero, 7) ∨ r = (sectorOf (100 + (k : Int)), 0) ∨ (k < n ∧ r = (sectorOf (k : Int), 0))))

theorem syncs_crash (n : Nat) (ov : List Bool) (long : Nat) (pick : List Int) (h : OvOk n ov long) : ∃ D, (oneF 100 [97] (ovL n ov long)).crash pick = D ∧ n ≤ D.len [97] ∧ D.len [97] ≤ long ∧
    ∀ k : Nat, k < D.len [97] → SyncsSaid n ov k (D.read [97] k) := by
  obtain ⟨h1, h2, h3⟩ := h
  refine ⟨_, one_crash _ _ _ _, ?_⟩
  rw [one_len, trim_len]
  have hle := endOf_le (crashCells (ovL n ov long) pick).1
  rw [crashCells_len, ovL_len] at hle
  refine ⟨?_, hle, fun k hk => ?_⟩
  · by_cases h0 : n = 0
    · omega
    · have hk : n - 1 < long := by omega
      have hg := crashCells_get (ovL n ov long) pick (n - 1)
      rw [ovL_get _ _ _ _ hk] at hg
      have := endOf_true _ _ _ hg (by
        generalize pick.drop _ = p
        unfold ovCell
        rw [if_pos (by omega)]
        cases ov.getD (n - 1) false
        · rfl
        · simp only [if_true, crashC, Cell.write, fallC, syncCell0, Cell.lasts]
          cases p <;> simp <;> (split <;> (try rfl) <;> (split <;> rfl)))
      omega
  · have hkl : k < long := by omega
    have hg := crashCells_get (ovL n ov long) pick k
    rw [ovL_get _ _ _ _ hkl] at hg
    have ht := trim_get _ _ hk
    rw [hg] at ht
    rw [one_read _ _ _ _ _ ht]
    generalize pick.drop _ = p
    unfold SyncsSaid ovCell
    cases ho : ov.getD k false with
    | false =>
      have hkn : k < n := by
        rcases Nat.lt_or_ge k n with h | h
        · exact h
        · rw [h3 k h hkl] at ho; cases ho
      left
      refine ⟨rfl, hkn, ?_⟩
      simp only [hkn, if_true]
      rfl
    | true =>
      right
      refine ⟨rfl, ?_⟩
      by_cases hkn : k < n
      · simp only [hkn, if_true, true_and]
        obtain ⟨x, hx3, hx⟩ := crashC_way ((syncCell0 k).write (sectorOf (100 + (k : Int)))) p rfl
        rw [hx]
        rcases hx3 with e | e | e <;> rw [e]
        · right; right; rfl
        · right; left; rfl
        · left; rfl
      · simp only [hkn, if_false, false_and, or_false]
        obtain ⟨x, hx3, hx⟩ := crashC_way (Cell.zero.write (sectorOf (100 + (k : Int)))) p rfl
        rw [hx]
        rcases hx3 with e | e | e <;> rw [e]
        · left; rfl
        · right; rfl
        · left; rfl
end Wb
