import Derived.Test.YtblpkifkaoaicaaGreatQU
import Derived.Lib.Bytealg
/-! Layer 10, plain: where a key stands. -/
namespace Wb
open Go

def lowK (ks : List Nm) (k : Nm) : Nat := (ks.takeWhile fun x => decide (x < k)).length
theorem lowK_rows {d : Nat} (l : Rows d) (k : Nm) : lowK (l.map keyR) k = lowers l k := by
  unfold lowK lowers
  rw [List.takeWhile_map, List.length_map]
  rfl
theorem tw_le {α : Type} (p : α → Bool) (l : List α) : (l.takeWhile p).length ≤ l.length := (List.takeWhile_prefix p).length_le
theorem lowK_le (ks : List Nm) (k : Nm) : lowK ks k ≤ ks.length := tw_le _ _
theorem lowK_below {ks : List Nm} {k : Nm} {j : Nat} {x : Nm} (h : j < lowK ks k) (hx : ks[j]? = some x) : x < k := by
  have h1 : (ks.takeWhile fun x => decide (x < k))[j]? = some x := by
    obtain ⟨D, h2, _⟩ := tw_split (fun x => decide (x < k)) ks
    rw [h2, List.getElem?_append_left h] at hx
    exact hx
  have h3 := List.mem_of_getElem? h1
  obtain ⟨D, _, h2, _⟩ := tw_split (fun x => decide (x < k)) ks
  simpa using h2 x h3
theorem lowK_above {ks : List Nm} (hs : ks.Pairwise (· < ·)) {k : Nm} {j : Nat} {x : Nm} (h : lowK ks k ≤ j) (hx : ks[j]? = some x) : ¬ x < k := by
  obtain ⟨D, h2, _, h3⟩ := tw_split (fun x => decide (x < k)) ks
  have e1 : (ks.takeWhile fun x => decide (x < k)).length = lowK ks k := rfl
  rw [h2, List.getElem?_append_right (by omega), e1] at hx
  cases D with
  | nil => simp at hx
  | cons y t =>
    have hy : ¬ y < k := by simpa using h3 y t rfl
    rw [h2, List.pairwise_append] at hs
    have hp := List.pairwise_cons.1 hs.2.1
    rcases List.mem_cons.1 (List.mem_of_getElem? hx) with rfl | hm
    · exact hy
    · exact fun hlt => hy (nm_trans (hp.1 x hm) hlt)
theorem lowK_is {ks : List Nm} (hs : ks.Pairwise (· < ·)) {k : Nm} {i : Nat} (hi : i ≤ ks.length) (h1 : ∀ j x, j < i → ks[j]? = some x → x < k) (h2 : ∀ j x, i ≤ j → ks[j]? = some x → ¬ x < k) : i = lowK ks k := by
  have hle := lowK_le ks k
  rcases Nat.lt_trichotomy i (lowK ks k) with h | h | h
  · have hx : ks[i]? = some (ks[i]'(by omega)) := List.getElem?_eq_getElem _
    exact absurd (lowK_below h hx) (h2 i _ (Nat.le_refl _) hx)
  · exact h
  · have hx : ks[lowK ks k]? = some (ks[lowK ks k]'(by omega)) := List.getElem?_eq_getElem _
    exact absurd (h1 _ _ h hx) (lowK_above hs (Nat.le_refl _) hx)
open Classical in
noncomputable def hasK (ks : List Nm) (k : Nm) : Bool := decide (k ∈ ks)
theorem hasK_rows {d : Nat} (l : Rows d) (k : Nm) : hasK (l.map keyR) k = foundR l k := by
  unfold hasK
  rw [Bool.eq_iff_iff, found_iff, decide_eq_true_iff, List.mem_map]
theorem hasK_at {ks : List Nm} (hs : ks.Pairwise (· < ·)) {k x : Nm} (hx : ks[lowK ks k]? = some x) : hasK ks k = decide (x = k) := by
  unfold hasK
  rw [Bool.eq_iff_iff, decide_eq_true_iff, decide_eq_true_iff]
  constructor
  · intro h
    obtain ⟨j, hj⟩ := List.mem_iff_getElem?.1 h
    rcases Nat.lt_trichotomy j (lowK ks k) with h1 | h1 | h1
    · exact absurd (lowK_below h1 hj) (nm_irrefl k)
    · rw [h1, hx] at hj; injection hj
    · have hp : x < k := by
        have h3 := List.pairwise_iff_getElem.1 hs (lowK ks k) j (List.getElem?_eq_some_iff.1 hx).1 (List.getElem?_eq_some_iff.1 hj).1 h1
        rw [(List.getElem?_eq_some_iff.1 hx).2, (List.getElem?_eq_some_iff.1 hj).2] at h3
        exact h3
      exact absurd hp (lowK_above hs (Nat.le_refl _) hx)
  · rintro rfl; exact List.mem_of_getElem? hx
theorem hasK_end {ks : List Nm} {k : Nm} (h : lowK ks k = ks.length) : hasK ks k = false := by
  unfold hasK
  rw [decide_eq_false_iff_not]
  intro hm
  obtain ⟨j, hj⟩ := List.mem_iff_getElem?.1 hm
  exact nm_irrefl k (lowK_below (by rw [h]; exact (List.getElem?_eq_some_iff.1 hj).1) hj)
theorem le_split {ks : List Nm} (hs : ks.Pairwise (· < ·)) {k : Nm} {m : Nat} {x : Nm} (hx : ks[m]? = some x) : (x < k → ∀ j y, j < m + 1 → ks[j]? = some y → y < k) ∧ (¬ x < k → ∀ j y, m ≤ j → ks[j]? = some y → ¬ y < k) := by
  refine ⟨fun h j y hj hy => ?_, fun h j y hj hy hlt => h ?_⟩
  · rcases Nat.lt_or_eq_of_le (Nat.le_of_lt_succ hj) with h1 | h1
    · have h3 := List.pairwise_iff_getElem.1 hs j m (List.getElem?_eq_some_iff.1 hy).1 (List.getElem?_eq_some_iff.1 hx).1 h1
      rw [(List.getElem?_eq_some_iff.1 hx).2, (List.getElem?_eq_some_iff.1 hy).2] at h3
      exact nm_trans h3 h
    · rw [h1, hx] at hy; injection hy with e; rw [← e]; exact h
  · rcases Nat.lt_or_eq_of_le hj with h1 | h1
    · have h3 := List.pairwise_iff_getElem.1 hs m j (List.getElem?_eq_some_iff.1 hx).1 (List.getElem?_eq_some_iff.1 hy).1 h1
      rw [(List.getElem?_eq_some_iff.1 hx).2, (List.getElem?_eq_some_iff.1 hy).2] at h3
      exact nm_trans h3 hlt
    · rw [← h1, hx] at hy; injection hy with e; rw [e]; exact hlt
/-- Where Find leads in a node that is none of a leaf. -/
theorem idx_lowK {d : Nat} {l : Rows d} (hs : l.Pairwise (fun a b => keyR a < keyR b)) (k : Nm) : idx l k = if hasK (l.map keyR) k = true then lowK (l.map keyR) k else lowK (l.map keyR) k - 1 := by
  have hsk : (l.map keyR).Pairwise (· < ·) := by rw [List.pairwise_map]; exact hs
  have he : (l.takeWhile fun r => !decide (k < keyR r)).length = if hasK (l.map keyR) k = true then lowK (l.map keyR) k + 1 else lowK (l.map keyR) k := by
    obtain ⟨T, D, h1, h2, h3, h4⟩ := lowers_split hs k
    rw [lowK_rows, hasK_rows]
    have hT : ∀ r ∈ T, (!decide (k < keyR r)) = true := fun r hr => by
      have := nm_asymm (h3 r hr)
      simpa using this
    have e1 : (l.takeWhile fun r => !decide (k < keyR r)) = T ++ D.takeWhile fun r => !decide (k < keyR r) := by
      conv => lhs; rw [h1]
      exact List.takeWhile_append_of_pos hT
    rw [e1, List.length_append, h2]
    cases D with
    | nil =>
      have : foundR l k = false := by
        rw [Bool.eq_false_iff]
        intro hf
        obtain ⟨r, hr, hk⟩ := found_iff.1 hf
        rw [h1, List.append_nil] at hr
        have := h3 r hr
        rw [hk] at this
        exact nm_irrefl k this
      rw [this]; simp
    | cons r t =>
      have hr := h4 r (by simp)
      rw [h1, List.pairwise_append] at hs
      have hp := List.pairwise_cons.1 hs.2.1
      by_cases hk : keyR r = k
      · have hf : foundR l k = true := found_iff.2 ⟨r, by rw [h1]; simp, hk⟩
        rw [hf, if_pos rfl]
        have hnk : (!decide (k < keyR r)) = true := by rw [hk]; simp
        rw [List.takeWhile_cons, if_pos hnk]
        have : t.takeWhile (fun r => !decide (k < keyR r)) = [] := by
          cases t with
          | nil => rfl
          | cons q s =>
            have hq := hp.1 q (by simp)
            rw [hk] at hq
            rw [List.takeWhile_cons, if_neg (by simpa using hq)]
        rw [this]; simp
      · have hf : foundR l k = false := by
          rw [Bool.eq_false_iff]
          intro hf
          obtain ⟨q, hq, hqk⟩ := found_iff.1 hf
          rw [h1] at hq
          rcases List.mem_append.1 hq with hq | hq
          · have := h3 q hq; rw [hqk] at this; exact nm_irrefl k this
          · rcases List.mem_cons.1 hq with rfl | hq
            · exact hk hqk
            · have h8 := hp.1 q hq
              rw [hqk] at h8
              exact hr h8
        rw [hf]
        have hkr : k < keyR r := nm_total hk hr
        rw [List.takeWhile_cons, if_neg (by simpa using hkr)]
        simp
  unfold idx
  rw [he]
  split <;> omega

/-! ### strings.Compare -/
def cmpN (a b : Nm) : Int := Lib.compareBytes a b
theorem cmpN_cases : ∀ (a b : Nm), (cmpN a b = -1 ∧ a < b) ∨ (cmpN a b = 0 ∧ a = b) ∨ (cmpN a b = 1 ∧ b < a)
  | [], [] => .inr (.inl ⟨rfl, rfl⟩)
  | [], b :: s => .inl ⟨rfl, List.nil_lt_cons _ _⟩
  | a :: r, [] => .inr (.inr ⟨rfl, List.nil_lt_cons _ _⟩)
  | a :: r, b :: s => by
    have ih := cmpN_cases r s
    unfold cmpN at ih ⊢
    unfold Lib.compareBytes
    by_cases h1 : a < b
    · rw [if_pos h1]; exact .inl ⟨rfl, List.cons_lt_cons_iff.2 (.inl h1)⟩
    · rw [if_neg h1]
      by_cases h2 : b < a
      · rw [if_pos h2]; exact .inr (.inr ⟨rfl, List.cons_lt_cons_iff.2 (.inl h2)⟩)
      · rw [if_neg h2]
        have e : a = b := UInt8.le_antisymm (UInt8.not_lt.1 h2) (UInt8.not_lt.1 h1)
        subst e
        rcases ih with ⟨h, k⟩ | ⟨h, k⟩ | ⟨h, k⟩
        · exact .inl ⟨h, List.cons_lt_cons_iff.2 (.inr ⟨rfl, k⟩)⟩
        · exact .inr (.inl ⟨h, by rw [k]⟩)
        · exact .inr (.inr ⟨h, List.cons_lt_cons_iff.2 (.inr ⟨rfl, k⟩)⟩)
end Wb
