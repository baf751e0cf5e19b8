import Derived.Test.YtadjcdfmppcpnaaMod2
/-! Layer 7, the plain laws. -/
namespace Wb
open Go

/-! ### SectFuse -/
def freshCells (a : Nat) : List Cell := (List.range a).map fun (j : Nat) => Cell.zero.write (sectorOf (j : Int))
theorem freshCells_len (a : Nat) : (freshCells a).length = a := by simp [freshCells]
theorem freshCells_succ (a : Nat) : freshCells (a + 1) = freshCells a ++ [Cell.zero.write (sectorOf a)] := by
  simp [freshCells, List.range_succ]

def fuseD (a i : Nat) : Dv := ⟨100, ((a - min i a : Nat) : Int), [([97], freshCells (min i a))]⟩

theorem fuse_start (a : Nat) : (((Dv.new 100).make [97]).1.setFuse a) = fuseD a 0 ∧ ((Dv.new 100).make [97]).2 = 0 := by
  refine ⟨?_, rfl⟩
  simp only [fuseD, Nat.zero_min, Nat.sub_zero]
  have : max (a : Int) (-1) = a := by omega
  simp [Dv.setFuse, this, Dv.make, Dv.new, fget, fset, Dv.done, freshCells]
  rfl

theorem fuse_write (a i : Nat) (ha : a < 32) : (fuseD a i).write [97] i (sectorOf i) = (fuseD a (i + 1), if i < a then 0 else 8) := by
  by_cases h : i < a
  · have h1 : min i a = i := by omega
    have h2 : min (i + 1) a = i + 1 := by omega
    have h3 : ((a - i : Nat) : Int) ≠ 0 := by omega
    simp only [Dv.write, Dv.thr, Dv.len, Dv.cells, fuseD, fget, h1, h2, h3, if_true, if_false, Option.isSome_some, Option.getD_some, freshCells_len, ne_eq, not_true_eq_false]
    rw [if_neg (by omega), if_pos h]
    simp only [used, List.map_cons, List.map_nil, List.sum_cons, List.sum_nil, freshCells_len]
    rw [if_neg (by omega)]
    simp only [fset, if_true, Dv.done, freshCells_succ]
    rw [if_pos (by omega)]
    simp
    omega
  · have h1 : min i a = a := by omega
    have h2 : min (i + 1) a = a := by omega
    simp [Dv.write, Dv.thr, fuseD, h1, h2, h]

theorem fuse_sync (a i : Nat) (h : i < a) : ((fuseD a i).sync [97]).2 = 0 := by
  have h1 : min i a = i := by omega
  have h3 : ((a - i : Nat) : Int) ≠ 0 := by omega
  have ht : (fuseD a i).thr [97] = 0 := by simp only [Dv.thr, fuseD, fget, h1, h3, if_false]; rfl
  unfold Dv.sync
  rw [if_neg (by rw [ht]; simp)]

theorem fuse_out (a i : Nat) (h : a ≤ i) : (fuseD a i).sync [97] = (fuseD a i, 8) ∧ (fuseD a i).make [98] = (fuseD a i, 8) ∧ (fuseD a i).drop [97] = (fuseD a i, 8) := by
  have h1 : min i a = a := by omega
  simp [Dv.sync, Dv.make, Dv.drop, Dv.thr, fuseD, h1]

theorem fuse_len (a i : Nat) : (fuseD a i).len [97] = min i a := by simp [Dv.len, Dv.cells, fuseD, fget, freshCells_len]

theorem crash_ones (a : Nat) : ∀ m, a ≤ m → ∀ l : List Cell, l.length = a → (∀ c ∈ l, c.fresh = true) → (crashCells l (List.replicate m 1)).1 = l.map (fun c => (c, true)) := by
  intro m hm l
  induction l generalizing a m with
  | nil => intro _ _; rfl
  | cons c r ih =>
    intro hl hf
    obtain ⟨m, rfl⟩ : ∃ q, m = q + 1 := ⟨m - 1, by simp at hl; omega⟩
    have hc : c.fresh = true := hf c (by simp)
    have h1 : crashC c (List.replicate (m + 1) 1) = ((c, true), List.replicate m 1) := by
      simp [crashC, hc, List.replicate_succ, pickWay, fallC]
    simp only [crashCells, h1, List.map_cons]
    rw [ih r.length m (by simp at hl; omega) rfl (fun c hc => hf c (List.mem_cons_of_mem _ hc))]

theorem endOf_all {xs : List (Cell × Bool)} (h : ∀ x ∈ xs, x.2 = true) : endOf xs = xs.length := by
  induction xs with
  | nil => rfl
  | cons x r ih =>
    have h1 := ih (fun y hy => h y (List.mem_cons_of_mem _ hy))
    have h2 := h x (by simp)
    simp only [endOf, h1, h2, List.length_cons, if_true]
    split <;> omega

theorem fuse_crash (a i : Nat) (ha : a < 32) (h : a ≤ i) : ((fuseD a i).crash (List.replicate 32 1)).len [97] = a ∧ (((fuseD a i).crash (List.replicate 32 1)).make [98]).2 = 0 := by
  have h1 : min i a = a := by omega
  have hx := crash_ones a 32 (by omega) (freshCells a) (freshCells_len a) (fun c hc => by
    simp only [freshCells, List.mem_map] at hc
    obtain ⟨j, _, rfl⟩ := hc
    rfl)
  have he : (trim (crashCells (freshCells a) (List.replicate 32 1)).1).length = a := by
    rw [trim_len, hx, endOf_all (by simp), List.length_map, freshCells_len]
  generalize List.replicate 32 (1 : Int) = p at *
  constructor
  · simp [Dv.len, Dv.cells, Dv.crash, fuseD, h1, crashFiles, fget, he]
  · simp [Dv.make, Dv.crash, fuseD, crashFiles, fget]
end Wb
