import Derived.Test.YtadjcdfmppcpnaaQP
/-! Layer 9, plain: PageRefuses, the rows of numbers. -/
namespace Wb
open Go

def condR (ids : List Int) (j : Nat) : Bool := match ids[j]? with
  | none => false
  | some x => decide (2 ≤ x) && (decide (x < 7) && (decide (j = 0) || (match ids[j - 1]? with | none => false | some y => decide (y < x))))
def goodB (count : Int) (ids : List Int) (k : Nat) : Bool := (decide (0 ≤ count) && decide (count ≤ 4611686018427387904)) && (List.range k).all (condR ids)
def isB (root : Int) (ids : List Int) (k : Nat) : Bool := decide (root = 0) || decide (root ∈ ids.take k)
theorem goodB_succ (count : Int) (ids : List Int) (k : Nat) : goodB count ids (k + 1) = (goodB count ids k && condR ids k) := by
  unfold goodB
  rw [List.range_succ, List.all_append]
  simp [Bool.and_assoc]
theorem isB_succ {root : Int} {ids : List Int} {k : Nat} {x : Int} (h : ids[k]? = some x) : isB root ids (k + 1) = (isB root ids k || decide (x = root)) := by
  unfold isB
  rw [List.take_add_one, h, Bool.or_assoc]
  congr 1
  rw [Bool.eq_iff_iff]
  simp only [Option.toList_some, List.mem_append, List.mem_singleton, Bool.or_eq_true, decide_eq_true_eq]
  constructor
  · rintro (h | h)
    · exact .inl h
    · exact .inr h.symm
  · rintro (h | h)
    · exact .inl h
    · exact .inr h.symm
set_option maxRecDepth 100000 in
theorem refuse_iff {F : Pg} (hp : pagesOf F.d = 7) (root count : Int) (ids : List Int) : commitOk F root count ids ↔ (goodB count ids ids.length && isB root ids ids.length) = true := by
  unfold commitOk goodB isB
  rw [List.take_length]
  generalize (4611686018427387904 : Int) = M
  simp only [Bool.and_eq_true, Bool.or_eq_true, decide_eq_true_eq, List.all_eq_true, List.mem_range]
  constructor
  · rintro ⟨h1, h2, h3, h4⟩
    refine ⟨⟨⟨h3, h4⟩, fun j hj => ?_⟩, h2⟩
    obtain ⟨x, hx⟩ : ∃ x, ids[j]? = some x := ⟨_, List.getElem?_eq_getElem hj⟩
    have := h1 j x hx
    unfold isPg at this
    rw [hp] at this
    simp only [Bool.and_eq_true, decide_eq_true_eq] at this
    unfold condR
    rw [hx]
    simp only [Bool.and_eq_true, Bool.or_eq_true, decide_eq_true_eq]
    refine ⟨this.1.1, by omega, ?_⟩
    rcases Nat.eq_zero_or_pos j with h0 | h0
    · exact .inl h0
    · right
      obtain ⟨y, hy⟩ : ∃ y, ids[j - 1]? = some y := ⟨_, List.getElem?_eq_getElem (by omega)⟩
      rw [hy]
      simpa using this.2 y h0 hy
  · rintro ⟨⟨⟨h3, h4⟩, h1⟩, h2⟩
    refine ⟨fun j x hx => ?_, h2, h3, h4⟩
    have hj := (List.getElem?_eq_some_iff.1 hx).1
    have := h1 j hj
    unfold condR at this
    rw [hx] at this
    simp only [Bool.and_eq_true, Bool.or_eq_true, decide_eq_true_eq] at this
    unfold isPg
    rw [hp]
    simp only [Bool.and_eq_true, decide_eq_true_eq]
    refine ⟨⟨this.1, by omega⟩, fun y h0 hy => ?_⟩
    rcases this.2.2 with h | h
    · omega
    · rw [hy] at h; simpa using h
def RefOk (F : Pg) : Prop := ∃ ss, FileOk 500 ss F ∧ ss.length = 56 ∧ F.fresh.length ≤ 1000
theorem RoomOk.ref {F : Pg} (h : RoomOk 500 56 5 F) : RefOk F := by
  obtain ⟨ss, h1, h2⟩ := h.ok
  exact ⟨ss, h1, h2, by rw [h.fresh]; simp⟩
theorem RefOk.put {F : Pg} (h : RefOk F) (b : List UInt8) {r : Nat} (hr : isLeast F r) : (putP F b r).2 = 0 := by
  obtain ⟨ss, h1, h2, _⟩ := h
  exact refuse_put h1 h2 b hr
theorem RefOk.commit {F : Pg} (h : RefOk F) {root count : Int} {ids : List Int} (hc : commitOk F root count ids) (hmt : F.mt = mt1) : ∃ D', wrMeta F.d (nextMt F root count 9) = (D', 0) ∧ pagesOf D' = pagesOf F.d ∧ RefOk (keepP { F with d := D', mt := nextMt F root count 9 } ids) := by
  obtain ⟨ss, h1, h2, h3⟩ := h
  have hp : pagesOf F.d = 7 := by rw [h1.pages, h2]
  obtain ⟨D', g1, g2, g3⟩ := commit_ok (mark := 9) h1 (by omega) hc (by rw [hmt]; decide) (by decide)
  exact ⟨D', g1, g2, _, g3, by rw [List.length_set, h2], by show ([] : List Nat).length ≤ 1000; simp⟩
end Wb
