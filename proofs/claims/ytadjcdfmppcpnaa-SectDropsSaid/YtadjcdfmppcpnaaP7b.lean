import Derived.Test.YtadjcdfmppcpnaaP7
/-! Layer 7, the plain law of SectFull. -/
namespace Wb
open Go

def bCells (a nb : Nat) : List Cell := (List.range nb).map fun (j : Nat) => Cell.zero.write (sectorOf ((a + j : Nat) : Int))
theorem bCells_len (a nb : Nat) : (bCells a nb).length = nb := by simp [bCells]
theorem bCells_succ (a nb : Nat) : bCells a (nb + 1) = bCells a nb ++ [Cell.zero.write (sectorOf ((a + nb : Nat) : Int))] := by
  simp [bCells, List.range_succ]

def twoF (x y : List Cell) : Files := [([97], x), ([98], y)]
theorem two_a (x y : List Cell) : fget (twoF x y) [97] = some x := rfl
theorem two_b (x y : List Cell) : fget (twoF x y) [98] = some y := rfl
theorem two_sa (x y v : List Cell) : fset (twoF x y) [97] v = twoF v y := rfl
theorem two_sb (x y v : List Cell) : fset (twoF x y) [98] v = twoF x v := rfl
theorem two_used (x y : List Cell) : used (twoF x y) = x.length + y.length := by simp [used, twoF]
theorem two_start (m : Nat) (hm : m < 32) : ∃ D1, (Dv.new m).make [97] = (D1, 0) ∧ D1.make [98] = ((⟨m, -1, twoF [] []⟩ : Dv), 0) := by
  have h : Dv.new m = ⟨m, -1, []⟩ := by
    have : (min (max (m : Int) 0) 100000).toNat = m := by omega
    unfold Dv.new
    rw [this]
  rw [h]
  exact ⟨_, rfl, rfl⟩

def fullD (a m i : Nat) : Dv := ⟨m, -1, twoF (freshCells (min (min i a) m)) (bCells a (min (i - a) (m - a)))⟩

theorem write_a (m : Nat) (x y : List Cell) (k : Nat) (s : Sec) : (⟨m, -1, twoF x y⟩ : Dv).write [97] k s =
    if x.length < k then ((⟨m, -1, twoF x y⟩ : Dv), 1) else if k = x.length then (if m ≤ x.length + y.length then ((⟨m, -1, twoF x y⟩ : Dv), 6) else ((⟨m, -1, twoF (x ++ [Cell.zero.write s]) y⟩ : Dv), 0))
    else ((⟨m, -1, twoF (x.modify k (·.write s)) y⟩ : Dv), 0) := by
  have ht : (⟨m, -1, twoF x y⟩ : Dv).thr [97] = 0 := rfl
  have hc : (⟨m, -1, twoF x y⟩ : Dv).cells [97] = x := rfl
  unfold Dv.write
  rw [if_neg (by rw [ht]; simp)]
  simp only [Dv.len, hc, two_used, two_sa, Int.toNat_natCast]
  by_cases h1 : x.length < k
  · rw [if_pos (by omega), if_pos h1]
  · rw [if_neg (by omega), if_neg h1]
    by_cases h2 : k = x.length
    · rw [if_pos (by omega), if_pos h2]; rfl
    · rw [if_neg (by omega), if_neg h2]; rfl
theorem write_b (m : Nat) (x y : List Cell) (k : Nat) (s : Sec) : (⟨m, -1, twoF x y⟩ : Dv).write [98] k s =
    if y.length < k then ((⟨m, -1, twoF x y⟩ : Dv), 1) else if k = y.length then (if m ≤ x.length + y.length then ((⟨m, -1, twoF x y⟩ : Dv), 6) else ((⟨m, -1, twoF x (y ++ [Cell.zero.write s])⟩ : Dv), 0))
    else ((⟨m, -1, twoF x (y.modify k (·.write s))⟩ : Dv), 0) := by
  have ht : (⟨m, -1, twoF x y⟩ : Dv).thr [98] = 0 := rfl
  have hc : (⟨m, -1, twoF x y⟩ : Dv).cells [98] = y := rfl
  unfold Dv.write
  rw [if_neg (by rw [ht]; simp)]
  simp only [Dv.len, hc, two_used, two_sb, Int.toNat_natCast]
  by_cases h1 : y.length < k
  · rw [if_pos (by omega), if_pos h1]
  · rw [if_neg (by omega), if_neg h1]
    by_cases h2 : k = y.length
    · rw [if_pos (by omega), if_pos h2]; rfl
    · rw [if_neg (by omega), if_neg h2]; rfl

theorem full_a_ok (a m i : Nat) (h : i < a) (hm : i < m) : (fullD a m i).write [97] i (sectorOf i) = (fullD a m (i + 1), 0) := by
  have h1 : min (min i a) m = i := by omega
  have h2 : min (min (i + 1) a) m = i + 1 := by omega
  have h3 : min (i - a) (m - a) = 0 := by omega
  have h4 : min (i + 1 - a) (m - a) = 0 := by omega
  unfold fullD
  rw [h1, h2, h3, h4, write_a, freshCells_len, bCells_len, if_neg (by omega), if_pos rfl, if_neg (by omega), freshCells_succ]
theorem full_a_no (a m i : Nat) (h : i < a) (hm : m ≤ i) : (fullD a m i).write [97] i (sectorOf i) = (fullD a m (i + 1), if m < i then 1 else 6) := by
  have h1 : min (min i a) m = m := by omega
  have h2 : min (min (i + 1) a) m = m := by omega
  have h3 : min (i - a) (m - a) = 0 := by omega
  have h4 : min (i + 1 - a) (m - a) = 0 := by omega
  unfold fullD
  rw [h1, h2, h3, h4, write_a, freshCells_len, bCells_len]
  by_cases h5 : m < i
  · rw [if_pos h5, if_pos h5]
  · rw [if_neg h5, if_pos (by omega), if_pos (by omega), if_neg h5]
theorem full_b_ok (a m i : Nat) (h : a ≤ i) (hm : i < m) : (fullD a m i).write [98] (i - a : Nat) (sectorOf i) = (fullD a m (i + 1), 0) := by
  have h1 : min (min i a) m = a := by omega
  have h2 : min (min (i + 1) a) m = a := by omega
  have h3 : min (i - a) (m - a) = i - a := by omega
  have h4 : min (i + 1 - a) (m - a) = (i - a) + 1 := by omega
  unfold fullD
  rw [h1, h2, h3, h4, write_b, freshCells_len, bCells_len, if_neg (by omega), if_pos rfl, if_neg (by omega), bCells_succ, show a + (i - a) = i by omega]
theorem full_b_no (a m i : Nat) (h : a ≤ i) (hm : m ≤ i) : (fullD a m i).write [98] (i - a : Nat) (sectorOf i) = (fullD a m (i + 1), if (fullD a m (i + 1)).len [98] < i - a then 1 else 6) := by
  have h1 : min (min (i + 1) a) m = min (min i a) m := by omega
  have h2 : min (i + 1 - a) (m - a) = min (i - a) (m - a) := by omega
  have h5 : (fullD a m (i + 1)).len [98] = min (i + 1 - a) (m - a) := by
    show (bCells a (min (i + 1 - a) (m - a))).length = _
    rw [bCells_len]
  rw [h5, h2]
  unfold fullD
  rw [h1, h2, write_b, freshCells_len, bCells_len]
  by_cases h6 : min (i - a) (m - a) < i - a
  · rw [if_pos h6, if_pos h6]
  · rw [if_neg h6, if_pos (by omega), if_pos (by omega), if_neg h6]

theorem full_lens (a m i : Nat) : (fullD a m i).len [97] = min (min i a) m ∧ (fullD a m i).len [98] = min (i - a) (m - a) ∧ used (fullD a m i).files = min (min i a) m + min (i - a) (m - a) := by
  refine ⟨?_, ?_, ?_⟩
  · show (freshCells _).length = _; rw [freshCells_len]
  · show (bCells _ _).length = _; rw [bCells_len]
  · show used (twoF _ _) = _; rw [two_used, freshCells_len, bCells_len]

theorem full_again (a m i : Nat) (h : 0 < min (min i a) m) (s : Sec) : ∃ x, x.length = min (min i a) m ∧ (fullD a m i).write [97] 0 s = ((⟨m, -1, twoF x (bCells a (min (i - a) (m - a)))⟩ : Dv), 0) := by
  refine ⟨(freshCells (min (min i a) m)).modify 0 (·.write s), by simp [freshCells_len], ?_⟩
  have := write_a m (freshCells (min (min i a) m)) (bCells a (min (i - a) (m - a))) 0 s
  rw [freshCells_len, if_neg (by omega), if_neg (by omega)] at this
  exact this
theorem drop_a (m : Nat) (x y : List Cell) : ∃ D, (⟨m, -1, twoF x y⟩ : Dv).drop [97] = (D, 0) ∧ used D.files = y.length ∧ D.len [98] = y.length :=
  ⟨_, rfl, by simp [twoF, fdel, used, Dv.done], rfl⟩
end Wb
