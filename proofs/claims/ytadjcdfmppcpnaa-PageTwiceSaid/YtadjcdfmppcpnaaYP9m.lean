import Derived.Test.YtadjcdfmppcpnaaQP
/-! Layer 9, plain: PageMeta: the octets that are waited for. -/
namespace Wb
open Go

/-- The octet k of a number's eight. -/
def byteAt (v k : Nat) : UInt8 := UInt8.ofNat (v / 256 ^ (7 - k) % 256)
def wantB (g c m q i : Nat) : UInt8 :=
  if i < 8 then markL.getD i 0 else if i < 16 then (if i - 8 < q then byteAt g (i - 8) else 0) else if i < 24 then 0 else if i < 32 then (if i - 24 < q then byteAt c (i - 24) else 0) else if i < 40 then (if i - 32 < q then byteAt m (i - 32) else 0) else 0
def wantS (g c m q : Nat) : Sec := ⟨(List.range 64).map (wantB g c m q), by simp⟩
theorem want_get (g c m q i : Nat) (hi : i < 64) : (wantS g c m q).1[i]? = some (wantB g c m q i) := by simp [wantS, hi]
theorem be8_get (v k : Nat) (hk : k < 8) : (be 8 v)[k]? = some (byteAt v k) := be_get 8 v k hk
theorem be8_zero : be 8 0 = List.replicate 8 0 := by decide
theorem want_all (g c m : Nat) : wantS g c m 8 = metaS ⟨g, 0, c, m⟩ := by
  apply Subtype.ext
  apply List.ext_getElem?
  intro i
  by_cases hi : i < 64
  · rw [want_get g c m 8 i hi]
    simp only [metaS, metaL]
    unfold wantB
    by_cases h1 : i < 8
    · rw [if_pos h1, List.append_assoc, List.append_assoc, List.append_assoc, List.append_assoc, List.getElem?_append_left (by simpa [markL] using h1)]
      rw [List.getD_eq_getElem?_getD]
      have : i < markL.length := by simpa [markL] using h1
      rw [List.getElem?_eq_getElem this]; rfl
    · rw [if_neg h1]
      have e : ∀ (A B C D E : List UInt8), A.length = 8 → B.length = 8 → C.length = 8 → D.length = 8 → E.length = 8 → ∀ R : List UInt8, (A ++ B ++ C ++ D ++ E ++ R)[i]? = if i < 16 then B[i - 8]? else if i < 24 then C[i - 16]? else if i < 32 then D[i - 24]? else if i < 40 then E[i - 32]? else R[i - 40]? := by
        intro A B C D E hA hB hC hD hE R
        by_cases h2 : i < 16
        · rw [if_pos h2, List.append_assoc, List.append_assoc, List.append_assoc, List.append_assoc, List.getElem?_append_right (by omega), List.getElem?_append_left (by omega), hA]
        · rw [if_neg h2]
          by_cases h3 : i < 24
          · rw [if_pos h3, List.append_assoc, List.append_assoc, List.append_assoc, List.getElem?_append_right (by simp [hA, hB]; omega), List.getElem?_append_left (by simp [hA, hB, hC]; omega)]
            simp [hA, hB]
          · rw [if_neg h3]
            by_cases h4 : i < 32
            · rw [if_pos h4, List.append_assoc, List.append_assoc, List.getElem?_append_right (by simp [hA, hB, hC]; omega), List.getElem?_append_left (by simp [hA, hB, hC, hD]; omega)]
              simp [hA, hB, hC]
            · rw [if_neg h4]
              by_cases h5 : i < 40
              · rw [if_pos h5, List.append_assoc, List.getElem?_append_right (by simp [hA, hB, hC, hD]; omega), List.getElem?_append_left (by simp [hA, hB, hC, hD, hE]; omega)]
                simp [hA, hB, hC, hD]
              · rw [if_neg h5, List.getElem?_append_right (by simp [hA, hB, hC, hD, hE]; omega)]
                simp [hA, hB, hC, hD, hE]
      rw [e markL (be 8 g) (be 8 0) (be 8 c) (be 8 m) rfl (be_len 8 g) (be_len 8 0) (be_len 8 c) (be_len 8 m)]
      by_cases h2 : i < 16
      · rw [if_pos h2, if_pos h2, if_pos (by omega), be8_get _ _ (by omega)]
      · rw [if_neg h2, if_neg h2]
        by_cases h3 : i < 24
        · rw [if_pos h3, if_pos h3, be8_zero, List.getElem?_replicate, if_pos (by omega)]
        · rw [if_neg h3, if_neg h3]
          by_cases h4 : i < 32
          · rw [if_pos h4, if_pos h4, if_pos (by omega), be8_get _ _ (by omega)]
          · rw [if_neg h4, if_neg h4]
            by_cases h5 : i < 40
            · rw [if_pos h5, if_pos h5, if_pos (by omega), be8_get _ _ (by omega)]
            · rw [if_neg h5, if_neg h5, List.getElem?_replicate, if_pos (by omega)]
  · rw [List.getElem?_eq_none (by rw [(wantS g c m 8).2]; omega), List.getElem?_eq_none (by rw [(metaS ⟨g, 0, c, m⟩).2]; omega)]
theorem wantB_step (g c m q i : Nat) (hq : q < 8) : wantB g c m (q + 1) i = if i = 32 + q then byteAt m q else if i = 24 + q then byteAt c q else if i = 8 + q then byteAt g q else wantB g c m q i := by
  unfold wantB
  by_cases h32 : i = 32 + q
  · subst h32
    rw [if_pos rfl, if_neg (by omega), if_neg (by omega), if_neg (by omega), if_neg (by omega), if_pos (by omega), if_pos (by omega)]
    congr 1; omega
  · rw [if_neg h32]
    by_cases h24 : i = 24 + q
    · subst h24
      rw [if_pos rfl, if_neg (by omega), if_neg (by omega), if_neg (by omega), if_pos (by omega), if_pos (by omega)]
      congr 1; omega
    · rw [if_neg h24]
      by_cases h8 : i = 8 + q
      · subst h8
        rw [if_pos rfl, if_neg (by omega), if_pos (by omega), if_pos (by omega)]
        congr 1; omega
      · rw [if_neg h8]
        have e1 : (i - 8 < q + 1) ↔ (i - 8 < q) ∨ i < 8 ∨ i = 8 + q := by omega
        have e2 : (i - 24 < q + 1) ↔ (i - 24 < q) ∨ i < 24 ∨ i = 24 + q := by omega
        have e3 : (i - 32 < q + 1) ↔ (i - 32 < q) ∨ i < 32 ∨ i = 32 + q := by omega
        by_cases h1 : i < 8
        · rw [if_pos h1, if_pos h1]
        · rw [if_neg h1, if_neg h1]
          by_cases h2 : i < 16
          · rw [if_pos h2, if_pos h2]
            have : (i - 8 < q + 1) ↔ (i - 8 < q) := by omega
            simp only [this]
          · rw [if_neg h2, if_neg h2]
            by_cases h3 : i < 24
            · rw [if_pos h3, if_pos h3]
            · rw [if_neg h3, if_neg h3]
              by_cases h4 : i < 32
              · rw [if_pos h4, if_pos h4]
                have : (i - 24 < q + 1) ↔ (i - 24 < q) := by omega
                simp only [this]
              · rw [if_neg h4, if_neg h4]
                by_cases h5 : i < 40
                · rw [if_pos h5, if_pos h5]
                  have : (i - 32 < q + 1) ↔ (i - 32 < q) := by omega
                  simp only [this]
                · rw [if_neg h5, if_neg h5]
theorem want_zero (g c m : Nat) : (wantS g c m 0).1 = markL ++ List.replicate 56 0 := by
  apply List.ext_getElem?
  intro i
  by_cases hi : i < 64
  · rw [want_get g c m 0 i hi]
    unfold wantB
    by_cases h1 : i < 8
    · rw [if_pos h1, List.getElem?_append_left (by simpa [markL] using h1), List.getD_eq_getElem?_getD]
      have : i < markL.length := by simpa [markL] using h1
      rw [List.getElem?_eq_getElem this]; rfl
    · have hm8 : markL.length = 8 := rfl
      rw [if_neg h1, List.getElem?_append_right (by omega), List.getElem?_replicate]
      have h2 : i - markL.length < 56 := by omega
      simp [h2]
  · rw [List.getElem?_eq_none (by rw [(wantS g c m 0).2]; omega), List.getElem?_eq_none (by simp [markL]; omega)]
theorem pmSec_want {mark g : Nat} (hg : g ≠ 0) : pmSec mark g = metaS ⟨g, 0, if g ≤ 1 then 0 else g - 2, if g ≤ 1 then 0 else (mark + (g - 2)) % 2 ^ 64⟩ := by
  unfold pmSec pmMt
  rw [if_neg hg]
  split <;> rfl
end Wb
