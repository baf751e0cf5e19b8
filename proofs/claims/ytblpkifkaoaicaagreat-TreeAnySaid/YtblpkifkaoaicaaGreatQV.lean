/- Lemmas and contracts of functions, joined. -/
import Derived.Test.YtblpkifkaoaicaaGreatYPF
import Derived.Test.YtblpkifkaoaicaaGreatQU
import Derived.Test.YtblpkifkaoaicaaGreatQP
namespace Wb
open Go
theorem hasM_app (a b : KVs) (k : Nm) : hasM (a ++ b) k = (hasM a k || hasM b k) := by simp [hasM]
theorem hasM_none {a : KVs} {k : Nm} (h : ∀ x ∈ a, x.1 ≠ k) : hasM a k = false := by
  unfold hasM
  rw [List.any_eq_false]
  intro x hx
  simpa using h x hx
structure GrownStep (d : Nat) (l : Rows (d + 1)) (k v : Nm) (r : Row (d + 1)) : Prop where
  at' : l[idx l k]? = some r
  ord : Ord d (kidR r).2
  fit : Fit d (kidR r).2
  ne : (kidR r).2 ≠ []
  eq : grown (d + 1) l k v = fresh0 (splitR (withR l (idx l k) (idx l k + 1) (grown d (kidR r).2 k v) (minK (keyR r) k)))
  wfit : FitR (d + 1) (withR l (idx l k) (idx l k + 1) (grown d (kidR r).2 k v) (minK (keyR r) k))
  wsize : sizeR (withR l (idx l k) (idx l k + 1) (grown d (kidR r).2 k v) (minK (keyR r) k)) ≤ 820
  has : hasM (flat (d + 1) l) k = hasM (flat d (kidR r).2) k
  len : (grown d (kidR r).2 k v).length ≤ 2
theorem grown_step {k v : Nm} (hk : keyOk k) (hv : v.length ≤ 20) {d : Nat} {l : Rows (d + 1)} (ho : Ord (d + 1) l) (hf : Fit (d + 1) l) (hne : l ≠ []) : ∃ r, GrownStep d l k v r := by
  obtain ⟨A, r, B, rfl, hi, hB, hr⟩ := idx_split ho.keys hne k
  obtain ⟨hkn, hko, hka⟩ := ho.1 r (by simp)
  obtain ⟨hs, hfr⟩ := hf
  obtain ⟨q1, q2, q3, q4⟩ := hfr r (by simp)
  have ih := grown_fit hk hv d (kidR r).2 hko ⟨q3, q4⟩ (.inl hkn)
  have hK : FitR (d + 1) (keyed (minK (keyR r) k) (grown d (kidR r).2 k v)) := keyed_fit (fun _ => minK_ok q1 hk) (fun n hn => ⟨(ih.fit n hn).1, ih.two q2 n hn⟩)
  have hg : (A ++ r :: B)[idx (A ++ r :: B) k]? = some r := by rw [← hi, List.getElem?_append_right (Nat.le_refl _), Nat.sub_self]; rfl
  have hw : withR (A ++ r :: B) (idx (A ++ r :: B) k) (idx (A ++ r :: B) k + 1) (grown d (kidR r).2 k v) (minK (keyR r) k) = A ++ keyed (minK (keyR r) k) (grown d (kidR r).2 k v) ++ B := by rw [← hi, with_mid1]
  have hsp := ho.split
  have hrB := (show Ord (d + 1) ([r] ++ B) from hsp.2.1).split
  refine ⟨r, hg, hko, ⟨q3, q4⟩, hkn, by rw [hw, grown_in hi], ?_, ?_, ?_, ih.len.2⟩
  · rw [hw]
    exact ((hfr.sub (m := A) (fun r hr => by simp [hr])).app hK).app (hfr.sub (m := B) (fun r hr => by simp [hr]))
  · rw [hw]
    have h1 := sizeR_mid (A := A) (B := B) (M := [r]) hK.wt
    rw [keyed_len] at h1
    simp only [List.append_assoc, List.singleton_append] at h1 ⊢
    have := ih.len.2
    have h2 : 152 * (grown d (kidR r).2 k v).length ≤ 152 * 2 := Nat.mul_le_mul_left _ this
    omega
  · rw [flat_app, flat_cons, hasM_app, hasM_app]
    have hA : hasM (flat (d + 1) A) k = false := hasM_none fun x hx e => by
      have h1 := hsp.2.2 x hx r (by simp)
      rcases hr with ⟨rfl, _⟩ | hr
      · rw [flat_nil] at hx; cases hx
      · exact hr (by rw [← e]; exact h1)
    have hBn : hasM (flat (d + 1) B) k = false := hasM_none fun x hx e => by
      obtain ⟨q, hq, hx⟩ := List.mem_flatMap.1 hx
      exact (hrB.2.1.1 q hq).2.2 x hx (by rw [e]; exact hB q hq)
    rw [hA, hBn]
    simp
end Wb

namespace Wb
open Go

def getM (l : KVs) (k : Nm) : Option Nm := (l.find? fun x => decide (x.1 = k)).map (·.2)
theorem getM_app (A B : KVs) (k : Nm) : getM (A ++ B) k = (getM A k).or (getM B k) := by
  unfold getM
  rw [List.find?_append]
  cases List.find? (fun x => decide (x.1 = k)) A <;> rfl
theorem getM_none {l : KVs} {k : Nm} (h : ∀ x ∈ l, x.1 ≠ k) : getM l k = none := by
  unfold getM
  rw [List.find?_eq_none.2 (fun x hx => by simpa using h x hx)]
  rfl
/-- The row of a node on the way to a key. -/
structure GetStep (d : Nat) (l : Rows (d + 1)) (k : Nm) (r : Row (d + 1)) : Prop where
  at' : l[idx l k]? = some r
  ord : Ord d (kidR r).2
  ne : (kidR r).2 ≠ []
  get : getM (flat (d + 1) l) k = getM (flat d (kidR r).2) k
theorem get_step (k : Nm) {d : Nat} {l : Rows (d + 1)} (ho : Ord (d + 1) l) (hne : l ≠ []) : ∃ r, GetStep d l k r := by
  obtain ⟨A, r, B, rfl, hi, hB, hr⟩ := idx_split ho.keys hne k
  obtain ⟨hkn, hko, hka⟩ := ho.1 r (by simp)
  have hg : (A ++ r :: B)[idx (A ++ r :: B) k]? = some r := by rw [← hi, List.getElem?_append_right (Nat.le_refl _), Nat.sub_self]; rfl
  have hsp := ho.split
  have hrB := (show Ord (d + 1) ([r] ++ B) from hsp.2.1).split
  refine ⟨r, hg, hko, hkn, ?_⟩
  rw [flat_app, flat_cons, getM_app, getM_app]
  have hA : getM (flat (d + 1) A) k = none := getM_none fun x hx e => by
    have h1 := hsp.2.2 x hx r (by simp)
    rcases hr with ⟨rfl, _⟩ | hr
    · rw [flat_nil] at hx; cases hx
    · exact hr (by rw [← e]; exact h1)
  have hBn : getM (flat (d + 1) B) k = none := getM_none fun x hx e => by
    obtain ⟨q, hq, hx⟩ := List.mem_flatMap.1 hx
    exact (hrB.2.1.1 q hq).2.2 x hx (by rw [e]; exact hB q hq)
  rw [hA, hBn]
  simp
theorem get_leaf {l : Rows 0} (ho : Ord 0 l) (k : Nm) : if hasK (l.map keyR) k = true then ∃ r, l[lowK (l.map keyR) k]? = some r ∧ getM (flat 0 l) k = some (valR r) else getM (flat 0 l) k = none := by
  have hs : (l.map keyR).Pairwise (· < ·) := by rw [List.pairwise_map]; exact ho
  have hfl : flat 0 l = l.map fun r => (keyR r, valR r) := rfl
  by_cases hh : hasK (l.map keyR) k = true
  · rw [if_pos hh]
    have hlt : lowK (l.map keyR) k < l.length := by
      rcases Nat.lt_or_ge (lowK (l.map keyR) k) l.length with h | h
      · exact h
      · have := hasK_end (ks := l.map keyR) (k := k) (by have := lowK_le (l.map keyR) k; rw [List.length_map] at *; omega)
        rw [this] at hh; cases hh
    have hr : l[lowK (l.map keyR) k]? = some (l[lowK (l.map keyR) k]) := List.getElem?_eq_getElem hlt
    obtain ⟨r, hrr⟩ : ∃ r, r = l[lowK (l.map keyR) k] := ⟨_, rfl⟩
    rw [← hrr] at hr
    refine ⟨r, hr, ?_⟩
    have hk : keyR r = k := by
      have := hasK_at hs (k := k) (x := keyR r) (by rw [List.getElem?_map, hr]; rfl)
      rw [hh] at this
      simpa using this.symm
    rw [hfl]
    unfold getM
    have hmem := List.mem_of_getElem? hr
    cases hf : (l.map fun r => (keyR r, valR r)).find? fun x => decide (x.1 = k) with
    | none =>
      rw [List.find?_eq_none] at hf
      have := hf (keyR r, valR r) (List.mem_map.2 ⟨r, hmem, rfl⟩)
      simp [hk] at this
    | some y =>
      have h1 := List.find?_some hf
      have h2 := List.mem_of_find?_eq_some hf
      obtain ⟨q, hq, rfl⟩ := List.mem_map.1 h2
      have h1 : keyR q = k := by simpa using h1
      have hqr : q = r := by
        obtain ⟨i, hi⟩ := List.getElem?_of_mem hq
        obtain ⟨j, hj⟩ := List.getElem?_of_mem hmem
        rcases Nat.lt_trichotomy i j with h | h | h
        · have := List.pairwise_iff_getElem.1 ho i j (List.getElem?_eq_some_iff.1 hi).1 (List.getElem?_eq_some_iff.1 hj).1 h
          rw [(List.getElem?_eq_some_iff.1 hi).2, (List.getElem?_eq_some_iff.1 hj).2, h1, hk] at this
          exact absurd this (nm_irrefl _)
        · rw [h, hj] at hi; exact (Option.some.inj hi).symm
        · have := List.pairwise_iff_getElem.1 ho j i (List.getElem?_eq_some_iff.1 hj).1 (List.getElem?_eq_some_iff.1 hi).1 h
          rw [(List.getElem?_eq_some_iff.1 hi).2, (List.getElem?_eq_some_iff.1 hj).2, h1, hk] at this
          exact absurd this (nm_irrefl _)
      rw [hqr]; rfl
  · rw [if_neg hh]
    refine getM_none fun x hx e => hh ?_
    rw [hfl] at hx
    obtain ⟨r, hr, rfl⟩ := List.mem_map.1 hx
    rw [hasK_rows]
    exact found_iff.2 ⟨r, hr, e⟩
end Wb

namespace Wb
open Go
def fromL (l : KVs) (k : Nm) : KVs := l.filter fun x => !decide (x.1 < k)
def addM (out l : KVs) (n : Nat) : KVs := out ++ l.take (n - out.length)
theorem fromL_app (a b : KVs) (k : Nm) : fromL (a ++ b) k = fromL a k ++ fromL b k := by simp [fromL]
theorem fromL_nil {l : KVs} {k : Nm} (h : ∀ x ∈ l, x.1 < k) : fromL l k = [] := by
  unfold fromL
  rw [List.filter_eq_nil_iff]
  intro x hx
  simp [h x hx]
theorem addM_nil (out : KVs) (n : Nat) : addM out [] n = out := by simp [addM]
theorem addM_full {out : KVs} {l : KVs} {n : Nat} (h : n ≤ out.length) : addM out l n = out := by
  unfold addM
  rw [Nat.sub_eq_zero_of_le h]
  simp
theorem addM_add (out a b : KVs) (n : Nat) : addM (addM out a n) b n = addM out (a ++ b) n := by
  unfold addM
  rw [List.append_assoc, List.take_append, List.length_append, List.length_take]
  congr 2
  congr 1
  omega
theorem addM_one {out : KVs} {x : Nm × Nm} {n : Nat} (h : out.length < n) : addM out [x] n = out ++ [x] := by
  unfold addM
  rw [List.take_of_length_le (by simp; omega)]
theorem addM_len (out l : KVs) (n : Nat) : (addM out l n).length ≤ out.length + l.length := by
  unfold addM
  rw [List.length_append, List.length_take]
  omega
theorem fromL_len (l : KVs) (k : Nm) : (fromL l k).length ≤ l.length := List.length_filter_le _ _
theorem from_inner (k : Nm) {d : Nat} {l : Rows (d + 1)} (ho : Ord (d + 1) l) (hne : l ≠ []) : fromL (flat (d + 1) (l.take (idx l k))) k = [] ∧ idx l k ≤ l.length := by
  obtain ⟨A, r, B, rfl, hi, hB, hr⟩ := idx_split ho.keys hne k
  have hsp := ho.split
  refine ⟨?_, by rw [← hi]; simp⟩
  rw [← hi, List.take_left']
  · refine fromL_nil fun x hx => ?_
    rcases hr with ⟨rfl, _⟩ | hr
    · rw [flat_nil] at hx; cases hx
    · exact nm_lt_le (hsp.2.2 x hx r (by simp)) hr
  · rfl
theorem from_leaf (k : Nm) (l : Rows 0) : fromL (flat 0 (l.take (lowK (l.map keyR) k))) k = [] := by
  refine fromL_nil fun x hx => ?_
  have hfl : ∀ m : Rows 0, flat 0 m = m.map fun r => (keyR r, valR r) := fun _ => rfl
  rw [hfl] at hx
  obtain ⟨r, hr, rfl⟩ := List.mem_map.1 hx
  obtain ⟨j, hj⟩ := List.getElem?_of_mem hr
  rw [List.getElem?_take] at hj
  split at hj
  · rename_i h1
    exact lowK_below h1 (by rw [List.getElem?_map, hj]; rfl)
  · cases hj
theorem from_one {l : Rows 0} (ho : Ord 0 l) {k : Nm} {q : Nat} (hq : lowK (l.map keyR) k ≤ q) {r : Row 0} (hr : l[q]? = some r) : fromL (flat 0 [r]) k = [(keyR r, valR r)] := by
  have hs : (l.map keyR).Pairwise (· < ·) := by rw [List.pairwise_map]; exact ho
  have h := lowK_above hs hq (x := keyR r) (by rw [List.getElem?_map, hr]; rfl)
  show List.filter _ [(keyR r, valR r)] = _
  rw [List.filter_cons_of_pos (by simpa using h)]
  rfl
theorem take_snoc {α : Type} {l : List α} {q : Nat} {r : α} (h : l[q]? = some r) : l.take (q + 1) = l.take q ++ [r] := by
  rw [List.take_add_one, h]; rfl
/-- What is listed up to a row. -/
def addQ (d : Nat) (out : KVs) (l : Rows d) (k : Nm) (n q : Nat) : KVs := addM out (fromL (flat d (l.take q)) k) n
theorem addQ_next {d : Nat} {out : KVs} {l : Rows d} {k : Nm} {n q : Nat} {r : Row d} (h : l[q]? = some r) : addQ d out l k n (q + 1) = addM (addQ d out l k n q) (fromL (flat d [r]) k) n := by
  unfold addQ
  rw [take_snoc h, flat_app, fromL_app, addM_add]
theorem addQ_end {d : Nat} {out : KVs} {l : Rows d} {k : Nm} {n q : Nat} (h : l.length ≤ q ∨ n ≤ (addQ d out l k n q).length) : addQ d out l k n q = addM out (fromL (flat d l) k) n := by
  rcases h with h | h
  · unfold addQ
    rw [List.take_of_length_le h]
  · have := addM_full (l := fromL (flat d (l.drop q)) k) h
    rw [← this]
    unfold addQ
    rw [addM_add, ← fromL_app, ← flat_app, List.take_append_drop]
theorem addQ_len {d : Nat} (out : KVs) (l : Rows d) (k : Nm) (n q : Nat) : (addQ d out l k n q).length ≤ out.length + (flat d (l.take q)).length := Nat.le_trans (addM_len _ _ _) (Nat.add_le_add_left (fromL_len _ _) _)
theorem flat_take_len {d : Nat} {l : Rows d} {q : Nat} {r : Row d} (h : l[q]? = some r) : (flat d (l.take q)).length + (flat d [r]).length ≤ (flat d l).length := by
  have h1 : flat d l = flat d (l.take (q + 1)) ++ flat d (l.drop (q + 1)) := by rw [← flat_app, List.take_append_drop]
  rw [h1, take_snoc h, flat_app]
  simp only [List.length_append]
  omega
end Wb

namespace Wb
open Go
/-- A row, all pages below it forgotten. -/
def bareR : (d : Nat) → Row d → Row d
  | 0, r => r
  | d + 1, r => mkR (keyR r) (0, (kidR r).2.map (bareR d))
def bareL (d : Nat) (l : Rows d) : Rows d := l.map (bareR d)
theorem bare_key : ∀ {d : Nat} (r : Row d), keyR (bareR d r) = keyR r
  | 0, _ => rfl
  | _ + 1, _ => rfl
theorem bare_kid {d : Nat} (r : Row (d + 1)) : (kidR (bareR (d + 1) r)).2 = bareL d (kidR r).2 := rfl
theorem bare_wt : ∀ {d : Nat} (r : Row d), wt (bareR d r) = wt r
  | 0, _ => rfl
  | _ + 1, _ => rfl
theorem bare_len {d : Nat} (l : Rows d) : (bareL d l).length = l.length := List.length_map _
theorem bare_ne {d : Nat} {l : Rows d} : bareL d l ≠ [] ↔ l ≠ [] := by unfold bareL; simp
theorem bare_flat : ∀ {d : Nat} (l : Rows d), flat d (bareL d l) = flat d l
  | 0, l => by
    have : bareL 0 l = l := by
      show l.map (fun r => r) = l
      simp
    rw [this]
  | d + 1, l => by
    unfold bareL flat
    rw [List.flatMap_map]
    rw [List.flatMap_def, List.flatMap_def]
    congr 1
    apply List.map_congr_left
    intro r _
    exact bare_flat (kidR r).2
theorem bare_size {d : Nat} (l : Rows d) : sizeR (bareL d l) = sizeR l := by
  unfold sizeR bareL
  rw [List.map_map]
  congr 2
  apply List.map_congr_left
  intro r _
  exact bare_wt r
theorem bare_ord : ∀ {d : Nat} {l : Rows d}, Ord d (bareL d l) ↔ Ord d l
  | 0, l => by
    have : bareL 0 l = l := by
      show l.map (fun r => r) = l
      simp
    rw [this]
  | d + 1, l => by
    show ((∀ r ∈ bareL (d + 1) l, _) ∧ (bareL (d + 1) l).Pairwise _) ↔ ((∀ r ∈ l, _) ∧ l.Pairwise _)
    unfold bareL
    rw [List.pairwise_map]
    simp only [List.mem_map, forall_exists_index, and_imp, forall_apply_eq_imp_iff₂, bare_key, bare_kid, bare_flat]
    constructor
    · rintro ⟨h1, h2⟩
      exact ⟨fun r hr => ⟨bare_ne.1 (h1 r hr).1, bare_ord.1 (h1 r hr).2.1, (h1 r hr).2.2⟩, h2⟩
    · rintro ⟨h1, h2⟩
      exact ⟨fun r hr => ⟨bare_ne.2 (h1 r hr).1, bare_ord.2 (h1 r hr).2.1, (h1 r hr).2.2⟩, h2⟩
theorem bare_fitR : ∀ {d : Nat} {l : Rows d}, FitR d (bareL d l) ↔ FitR d l
  | 0, l => by
    have : bareL 0 l = l := by
      show l.map (fun r => r) = l
      simp
    rw [this]
  | d + 1, l => by
    show (∀ r ∈ bareL (d + 1) l, _) ↔ ∀ r ∈ l, _
    unfold bareL
    simp only [List.mem_map, forall_exists_index, and_imp, forall_apply_eq_imp_iff₂, bare_key, bare_kid, bare_len, bare_size, bare_fitR]
theorem bare_fit {d : Nat} {l : Rows d} : Fit d (bareL d l) ↔ Fit d l := by
  unfold Fit
  rw [bare_size, bare_fitR]
/-- Two nodes alike but for their pages. -/
def Alike {d : Nat} (n m : Nd d) : Prop := bareL d n.2 = bareL d m.2
theorem Alike.flat {d : Nat} {n m : Nd d} (h : Alike n m) : flat d n.2 = flat d m.2 := by rw [← bare_flat n.2, h, bare_flat]
theorem Alike.ord {d : Nat} {n m : Nd d} (h : Alike n m) (ho : Ord d n.2) : Ord d m.2 := bare_ord.1 (by rw [← h]; exact bare_ord.2 ho)
theorem Alike.fit {d : Nat} {n m : Nd d} (h : Alike n m) (ho : Fit d n.2) : Fit d m.2 := bare_fit.1 (by rw [← h]; exact bare_fit.2 ho)
theorem Alike.len {d : Nat} {n m : Nd d} (h : Alike n m) : n.2.length = m.2.length := by rw [← bare_len n.2, h, bare_len]
/-- Rows of a node as they are written. -/
def rwsOf : (d : Nat) → Rows d → List Rw
  | 0, l => l.map fun r => ⟨keyR r, valR r, 0⟩
  | _ + 1, l => l.map fun r => ⟨keyR r, [], ((kidR r).1 : Int)⟩
/-- The least page that is free. -/
noncomputable def leastP (F : Pg) : Nat := by
  classical
  exact if h : ∃ p, isLeast F p then Classical.choose h else 0
theorem least_one {F : Pg} {p q : Nat} (h : isLeast F p) (k : isLeast F q) : p = q := by
  rcases Nat.lt_trichotomy p q with hl | hl | hl
  · obtain ⟨h1, h2⟩ := k.2.1 p h.1 hl
    rcases h.2.2 with h3 | h3
    · omega
    · rw [h2] at h3; cases h3
  · exact hl
  · obtain ⟨h1, h2⟩ := h.2.1 q k.1 hl
    rcases k.2.2 with h3 | h3
    · omega
    · rw [h2] at h3; cases h3
theorem leastP_is {F : Pg} {p : Nat} (h : isLeast F p) : leastP F = p := by
  classical
  have he : ∃ p, isLeast F p := ⟨p, h⟩
  unfold leastP
  rw [dif_pos he]
  exact least_one (Classical.choose_spec he) h
/-- A page is written: the file, its number, the error. -/
noncomputable def putF (F : Pg) (b : List UInt8) : Pg × Nat × Int := ((putP F b (leastP F)).1, leastP F, (putP F b (leastP F)).2)
/-- Rows, one after another, till one goes wrong. -/
def wrL {α : Type} (f : Pg → α → Pg × α × Int) : Pg → List α → Pg × List α × Int
  | F, [] => (F, [], 0)
  | F, x :: l => if (f F x).2.2 = 0 then ((wrL f (f F x).1 l).1, (f F x).2.1 :: (wrL f (f F x).1 l).2.1, (wrL f (f F x).1 l).2.2) else ((f F x).1, (f F x).2.1 :: l, (f F x).2.2)
/-- A node and all below it is written. -/
noncomputable def wrN : (d : Nat) → Pg → Nd d → Pg × Nd d × Int
  | 0, F, n => if n.1 ≠ 0 then (F, n, 0) else
    if (putF F (bytesN ⟨true, rwsOf 0 n.2⟩)).2.2 = 0 then ((putF F (bytesN ⟨true, rwsOf 0 n.2⟩)).1, ((putF F (bytesN ⟨true, rwsOf 0 n.2⟩)).2.1, n.2), 0) else ((putF F (bytesN ⟨true, rwsOf 0 n.2⟩)).1, n, (putF F (bytesN ⟨true, rwsOf 0 n.2⟩)).2.2)
  | d + 1, F, n => if n.1 ≠ 0 then (F, n, 0) else
    let a := wrL (fun F (r : Row (d + 1)) => ((wrN d F (kidR r)).1, mkR (keyR r) (wrN d F (kidR r)).2.1, (wrN d F (kidR r)).2.2)) F n.2
    if a.2.2 ≠ 0 then (a.1, (0, a.2.1), a.2.2) else
      if (putF a.1 (bytesN ⟨false, rwsOf (d + 1) a.2.1⟩)).2.2 = 0 then ((putF a.1 (bytesN ⟨false, rwsOf (d + 1) a.2.1⟩)).1, ((putF a.1 (bytesN ⟨false, rwsOf (d + 1) a.2.1⟩)).2.1, a.2.1), 0)
      else ((putF a.1 (bytesN ⟨false, rwsOf (d + 1) a.2.1⟩)).1, (0, a.2.1), (putF a.1 (bytesN ⟨false, rwsOf (d + 1) a.2.1⟩)).2.2)
end Wb

namespace Wb
open Go
theorem wrL_good {α : Type} {f : Pg → α → Pg × α × Int} {F : Pg} {x : α} {l : List α} (h : (f F x).2.2 = 0) : wrL f F (x :: l) = ((wrL f (f F x).1 l).1, (f F x).2.1 :: (wrL f (f F x).1 l).2.1, (wrL f (f F x).1 l).2.2) := if_pos h
theorem wrL_bad {α : Type} {f : Pg → α → Pg × α × Int} {F : Pg} {x : α} {l : List α} (h : (f F x).2.2 ≠ 0) : wrL f F (x :: l) = ((f F x).1, (f F x).2.1 :: l, (f F x).2.2) := if_neg h
theorem wrL_app {α : Type} {f : Pg → α → Pg × α × Int} : ∀ {F : Pg} {a b : List α}, (wrL f F a).2.2 = 0 → wrL f F (a ++ b) = ((wrL f (wrL f F a).1 b).1, (wrL f F a).2.1 ++ (wrL f (wrL f F a).1 b).2.1, (wrL f (wrL f F a).1 b).2.2)
  | F, [], b, _ => rfl
  | F, x :: a, b, h => by
    by_cases hx : (f F x).2.2 = 0
    · rw [wrL_good hx] at h
      have ih := wrL_app (F := (f F x).1) (a := a) (b := b) h
      rw [List.cons_append, wrL_good hx, wrL_good hx, ih]
      rfl
    · rw [wrL_bad hx] at h
      exact absurd h hx
/-- One row more. -/
theorem wrL_next {α : Type} {f : Pg → α → Pg × α × Int} {F : Pg} {l : List α} {q : Nat} {r : α} (h : (wrL f F (l.take q)).2.2 = 0) (hr : l[q]? = some r) (hg : (f (wrL f F (l.take q)).1 r).2.2 = 0) :
    wrL f F (l.take (q + 1)) = ((f (wrL f F (l.take q)).1 r).1, (wrL f F (l.take q)).2.1 ++ [(f (wrL f F (l.take q)).1 r).2.1], 0) := by
  rw [take_snoc hr, wrL_app h, wrL_good hg]
  rfl
/-- .. or the end. -/
theorem wrL_stop {α : Type} {f : Pg → α → Pg × α × Int} {F : Pg} {l : List α} {q : Nat} {r : α} (h : (wrL f F (l.take q)).2.2 = 0) (hr : l[q]? = some r) (hg : (f (wrL f F (l.take q)).1 r).2.2 ≠ 0) :
    (wrL f F l).1 = (f (wrL f F (l.take q)).1 r).1 ∧ (wrL f F l).2.2 = (f (wrL f F (l.take q)).1 r).2.2 := by
  have hlt := (List.getElem?_eq_some_iff.1 hr).1
  have e : l = l.take q ++ r :: l.drop (q + 1) := by
    have h1 : l.drop q = r :: l.drop (q + 1) := by
      rw [List.drop_eq_getElem_cons hlt]
      congr 1
      exact (List.getElem?_eq_some_iff.1 hr).2
    rw [← h1, List.take_append_drop]
  have e2 : wrL f F l = wrL f F (l.take q ++ r :: l.drop (q + 1)) := by rw [← e]
  rw [e2, wrL_app h, wrL_bad hg]
  exact ⟨rfl, rfl⟩
/-- What each row keeps, all keep. -/
theorem wrL_map {α β : Type} {f : Pg → α → Pg × α × Int} {g : α → β} : ∀ {F : Pg} {l : List α}, (∀ F, ∀ x ∈ l, g (f F x).2.1 = g x) → (wrL f F l).2.1.map g = l.map g
  | F, [], _ => rfl
  | F, x :: l, h => by
    by_cases hx : (f F x).2.2 = 0
    · rw [wrL_good hx]
      show (_ :: _).map g = _
      rw [List.map_cons, List.map_cons, h F x (by simp), wrL_map (fun F y hy => h F y (by simp [hy]))]
    · rw [wrL_bad hx]
      show (_ :: _).map g = _
      rw [List.map_cons, List.map_cons, h F x (by simp)]
/-- A kid's row is written. -/
noncomputable def wrK (d : Nat) (F : Pg) (r : Row (d + 1)) : Pg × Row (d + 1) × Int := ((wrN d F (kidR r)).1, mkR (keyR r) (wrN d F (kidR r)).2.1, (wrN d F (kidR r)).2.2)
theorem wrN_has {d : Nat} {F : Pg} {n : Nd d} (h : n.1 ≠ 0) : wrN d F n = (F, n, 0) := by
  cases d with
  | zero => exact if_pos h
  | succ d => exact if_pos h
theorem wrN_leaf {F : Pg} {n : Nd 0} (h : n.1 = 0) : wrN 0 F n = if (putF F (bytesN ⟨true, rwsOf 0 n.2⟩)).2.2 = 0 then ((putF F (bytesN ⟨true, rwsOf 0 n.2⟩)).1, ((putF F (bytesN ⟨true, rwsOf 0 n.2⟩)).2.1, n.2), 0) else ((putF F (bytesN ⟨true, rwsOf 0 n.2⟩)).1, n, (putF F (bytesN ⟨true, rwsOf 0 n.2⟩)).2.2) := if_neg (fun hn => hn h)
theorem wrN_in {d : Nat} {F : Pg} {n : Nd (d + 1)} (h : n.1 = 0) : wrN (d + 1) F n = if (wrL (wrK d) F n.2).2.2 ≠ 0 then ((wrL (wrK d) F n.2).1, (0, (wrL (wrK d) F n.2).2.1), (wrL (wrK d) F n.2).2.2) else
      if (putF (wrL (wrK d) F n.2).1 (bytesN ⟨false, rwsOf (d + 1) (wrL (wrK d) F n.2).2.1⟩)).2.2 = 0 then ((putF (wrL (wrK d) F n.2).1 (bytesN ⟨false, rwsOf (d + 1) (wrL (wrK d) F n.2).2.1⟩)).1, ((putF (wrL (wrK d) F n.2).1 (bytesN ⟨false, rwsOf (d + 1) (wrL (wrK d) F n.2).2.1⟩)).2.1, (wrL (wrK d) F n.2).2.1), 0)
      else ((putF (wrL (wrK d) F n.2).1 (bytesN ⟨false, rwsOf (d + 1) (wrL (wrK d) F n.2).2.1⟩)).1, (0, (wrL (wrK d) F n.2).2.1), (putF (wrL (wrK d) F n.2).1 (bytesN ⟨false, rwsOf (d + 1) (wrL (wrK d) F n.2).2.1⟩)).2.2) := if_neg (fun hn => hn h)
theorem wrN_alike : ∀ {d : Nat} (F : Pg) (n : Nd d), Alike (wrN d F n).2.1 n
  | 0, F, n => by
    by_cases h : n.1 = 0
    · rw [wrN_leaf h]
      split
      · exact rfl
      · exact rfl
    · rw [wrN_has h]; exact rfl
  | d + 1, F, n => by
    by_cases h : n.1 = 0
    · have hk : (wrL (wrK d) F n.2).2.1.map (bareR (d + 1)) = n.2.map (bareR (d + 1)) := wrL_map (fun F r _ => by
        show mkR (keyR r) (0, bareL d (wrN d F (kidR r)).2.1.2) = mkR (keyR r) (0, bareL d (kidR r).2)
        rw [show bareL d (wrN d F (kidR r)).2.1.2 = bareL d (kidR r).2 from wrN_alike F (kidR r)])
      rw [wrN_in h]
      split
      · exact hk
      · split
        · exact hk
        · exact hk
    · rw [wrN_has h]; exact rfl
end Wb

namespace Wb
open Go
noncomputable def gW (d : Nat) (l : Rows (d + 1)) (F : Pg) : Nat → Pg
  | 0 => F
  | i + 1 => match l[i]? with
    | some r => (wrN d (gW d l F i) (kidR r)).1
    | none => gW d l F i
noncomputable def erW (d : Nat) (l : Rows (d + 1)) (F : Pg) (i : Nat) : Int := match l[i]? with
  | some r => (wrN d (gW d l F i) (kidR r)).2.2
  | none => 0
noncomputable def ndW (d : Nat) (l : Rows (d + 1)) (F : Pg) (i : Nat) : Nd d := match l[i]? with
  | some r => (wrN d (gW d l F i) (kidR r)).2.1
  | none => (0, [])
noncomputable def rwW (d : Nat) (l : Rows (d + 1)) (F : Pg) : Nat → Rows (d + 1)
  | 0 => []
  | i + 1 => match l[i]? with
    | some r => rwW d l F i ++ [mkR (keyR r) (ndW d l F i)]
    | none => rwW d l F i
section
variable {d : Nat} {l : Rows (d + 1)} {F : Pg}
theorem gW_at {i : Nat} {r : Row (d + 1)} (h : l[i]? = some r) : gW d l F (i + 1) = (wrN d (gW d l F i) (kidR r)).1 := by show (match l[i]? with | some r => _ | none => _) = _; rw [h]
theorem erW_at {i : Nat} {r : Row (d + 1)} (h : l[i]? = some r) : erW d l F i = (wrN d (gW d l F i) (kidR r)).2.2 := by unfold erW; rw [h]
theorem ndW_at {i : Nat} {r : Row (d + 1)} (h : l[i]? = some r) : ndW d l F i = (wrN d (gW d l F i) (kidR r)).2.1 := by unfold ndW; rw [h]
theorem rwW_at {i : Nat} {r : Row (d + 1)} (h : l[i]? = some r) : rwW d l F (i + 1) = rwW d l F i ++ [mkR (keyR r) (ndW d l F i)] := by show (match l[i]? with | some r => _ | none => _) = _; rw [h]
theorem rwW_len : ∀ {q : Nat}, q ≤ l.length → (rwW d l F q).length = q
  | 0, _ => rfl
  | q + 1, h => by
    rw [rwW_at (List.getElem?_eq_getElem (show q < l.length by omega)), List.length_append, rwW_len (by omega)]
    rfl
theorem rwW_get : ∀ {q i : Nat} {r : Row (d + 1)}, q ≤ l.length → i < q → l[i]? = some r → (rwW d l F q)[i]? = some (mkR (keyR r) (ndW d l F i))
  | q + 1, i, r, h, hi, hr => by
    have hq : l[q]? = some (l[q]'(by omega)) := List.getElem?_eq_getElem _
    rw [rwW_at hq]
    rcases Nat.lt_or_ge i q with h1 | h1
    · rw [List.getElem?_append_left (by rw [rwW_len (by omega)]; exact h1)]
      exact rwW_get (by omega) h1 hr
    · obtain rfl : i = q := by omega
      rw [List.getElem?_append_right (by rw [rwW_len (by omega)]; exact Nat.le_refl _), rwW_len (by omega), Nat.sub_self]
      rw [hr] at hq
      injection hq with hq
      rw [← hq]
      rfl
theorem wrL_W : ∀ {q : Nat}, q ≤ l.length → (∀ j, j < q → erW d l F j = 0) → wrL (wrK d) F (l.take q) = (gW d l F q, rwW d l F q, 0)
  | 0, _, _ => rfl
  | q + 1, h, he => by
    have hq : l[q]? = some (l[q]'(by omega)) := List.getElem?_eq_getElem _
    have ih := wrL_W (q := q) (by omega) (fun j hj => he j (by omega))
    have h0 := he q (by omega)
    rw [erW_at hq] at h0
    rw [wrL_next (by rw [ih]) hq (by rw [ih]; exact h0), ih, gW_at hq, rwW_at hq, ndW_at hq]
    rfl
theorem wrL_all0 (he : ∀ j, j < l.length → erW d l F j = 0) : wrL (wrK d) F l = (gW d l F l.length, rwW d l F l.length, 0) := by
  have := wrL_W (Nat.le_refl l.length) he
  rwa [List.take_length] at this
theorem wrL_bad0 {q : Nat} (hq : q < l.length) (he : ∀ j, j < q → erW d l F j = 0) (hb : erW d l F q ≠ 0) : (wrL (wrK d) F l).1 = gW d l F (q + 1) ∧ (wrL (wrK d) F l).2.2 = erW d l F q := by
  have hr : l[q]? = some (l[q]'(by omega)) := List.getElem?_eq_getElem _
  have ih := wrL_W (q := q) (by omega) he
  have h9 : (wrK d (wrL (wrK d) F (l.take q)).1 (l[q]'(by omega))).2.2 ≠ 0 := by
    rw [ih]
    rw [erW_at hr] at hb
    exact hb
  obtain ⟨h1, h2⟩ := wrL_stop (by rw [ih]) hr h9
  rw [ih] at h1 h2
  rw [gW_at hr, erW_at hr]
  exact ⟨h1, h2⟩
/-- Where all kids went well, or one did not. -/
theorem erW_cases : (∀ j, j < l.length → erW d l F j = 0) ∨ ∃ q, q < l.length ∧ (∀ j, j < q → erW d l F j = 0) ∧ erW d l F q ≠ 0 := by
  by_cases h : ∃ q, q < l.length ∧ erW d l F q ≠ 0
  · right
    obtain ⟨q, h1, h2⟩ := h
    induction q using Nat.strongRecOn with
    | _ q ih =>
      by_cases hj : ∃ j, j < q ∧ erW d l F j ≠ 0
      · obtain ⟨j, k1, k2⟩ := hj
        exact ih j k1 (by omega) k2
      · exact ⟨q, h1, fun j hj' => Classical.byContradiction fun hn => hj ⟨j, hj', hn⟩, h2⟩
  · left
    exact fun j hj => Classical.byContradiction fun hn => h ⟨j, hj, hn⟩
end
/-! ### what holds of the file all along -/
structure InvOk (Inv : Nat → Pg → Prop) (cap : Nat) : Prop where
  put : ∀ i F b, Inv i F → i < cap → b.length ≤ 512 → (putF F b).2.2 = 0 → Inv (i + 1) (putF F b).1 ∧ 2 ≤ (putF F b).2.1 ∧ (putF F b).2.1 ≤ 4294967295
  fresh : ∀ i F, Inv i F → F.fresh.length ≤ 1000000
def nodesN : (d : Nat) → Nd d → Nat
  | 0, _ => 1
  | d + 1, n => 1 + (n.2.map fun r => nodesN d (kidR r)).sum
def idOk (k : Nat) : Prop := k = 0 ∨ 2 ≤ k ∧ k ≤ 4294967295
def pgOk : (d : Nat) → Nd d → Prop
  | 0, n => idOk n.1
  | d + 1, n => idOk n.1 ∧ ∀ r ∈ n.2, pgOk d (kidR r)
theorem pgOk.id : ∀ {d : Nat} {n : Nd d}, pgOk d n → idOk n.1
  | 0, _, h => h
  | _ + 1, _, h => h.1
def nodesUp (d : Nat) (l : Rows (d + 1)) (q : Nat) : Nat := ((l.take q).map fun r => nodesN d (kidR r)).sum
theorem nodesUp_at {d : Nat} {l : Rows (d + 1)} {q : Nat} {r : Row (d + 1)} (h : l[q]? = some r) : nodesUp d l (q + 1) = nodesUp d l q + nodesN d (kidR r) := by
  unfold nodesUp
  rw [take_snoc h, List.map_append, List.sum_append]
  simp
theorem sum_take_le : ∀ (l : List Nat) (q : Nat), (l.take q).sum ≤ l.sum
  | [], q => by simp
  | x :: l, 0 => by simp
  | x :: l, q + 1 => by
    have := sum_take_le l q
    simp only [List.take_succ_cons, List.sum_cons]
    omega
theorem nodesUp_le {d : Nat} {l : Rows (d + 1)} {q : Nat} : nodesUp d l q ≤ (l.map fun r => nodesN d (kidR r)).sum := by
  unfold nodesUp
  rw [List.map_take]
  exact sum_take_le _ _
theorem rws_size {d : Nat} (l : Rows d) : sizeN ⟨decide (d = 0), rwsOf d l⟩ = sizeR l := by
  unfold sizeN sizeR
  congr 2
  cases d with
  | zero => 
    show ((l.map fun r => (⟨keyR r, valR r, 0⟩ : Rw)).map _) = _
    rw [List.map_map]
    apply List.map_congr_left
    intro r _
    rfl
  | succ d =>
    show ((l.map fun r => (⟨keyR r, [], ((kidR r).1 : Int)⟩ : Rw)).map _) = _
    rw [List.map_map]
    apply List.map_congr_left
    intro r _
    show rowSz false _ = _
    unfold rowSz
    rw [if_neg (by simp)]
    rfl
theorem keys_size {d : Nat} {l m : Rows (d + 1)} (h : l.map keyR = m.map keyR) : sizeR l = sizeR m := by
  unfold sizeR
  congr 2
  have e : ∀ l : Rows (d + 1), l.map wt = (l.map keyR).map fun k => 5 + k.length := fun l => by
    rw [List.map_map]
    apply List.map_congr_left
    intro r _
    rfl
  rw [e, e, h]
theorem rwW_keys {d : Nat} {l : Rows (d + 1)} {F : Pg} : ∀ {q : Nat}, q ≤ l.length → (rwW d l F q).map keyR = (l.take q).map keyR
  | 0, _ => by simp [rwW]
  | q + 1, h => by
    have hq : l[q]? = some (l[q]'(by omega)) := List.getElem?_eq_getElem _
    rw [rwW_at hq, take_snoc hq, List.map_append, List.map_append, rwW_keys (by omega)]
    rfl
theorem wrN_inv {Inv : Nat → Pg → Prop} {cap : Nat} (hI : InvOk Inv cap) : ∀ {d : Nat} {n : Nd d} {F : Pg} {i : Nat}, Inv i F → i + nodesN d n ≤ cap → pgOk d n → Fit d n.2 → (wrN d F n).2.2 = 0 →
    (∃ j, j ≤ i + nodesN d n ∧ Inv j (wrN d F n).1) ∧ pgOk d (wrN d F n).2.1 ∧ (wrN d F n).2.1.1 ≠ 0
  | 0, n, F, i, hi, hc, hp, hf, h0 => by
    by_cases hz : n.1 = 0
    · rw [wrN_leaf hz] at h0 ⊢
      by_cases hq : (putF F (bytesN ⟨true, rwsOf 0 n.2⟩)).2.2 = 0
      · have hb : (bytesN ⟨true, rwsOf 0 n.2⟩).length ≤ 512 := by
          rw [bytesN_len]
          have := rws_size (d := 0) n.2
          rw [show decide (0 = 0) = true from rfl] at this
          rw [this]
          exact hf.1
        have hc' : i + 1 ≤ cap := hc
        obtain ⟨k1, k2, k3⟩ := hI.put i F _ hi (by omega) hb hq
        rw [if_pos hq]
        exact ⟨⟨i + 1, Nat.le_refl _, k1⟩, .inr ⟨k2, k3⟩, Nat.ne_of_gt (Nat.lt_of_lt_of_le (Nat.zero_lt_succ 1) k2)⟩
      · rw [if_neg hq] at h0
        exact absurd h0 hq
    · rw [wrN_has hz]
      exact ⟨⟨i, by omega, hi⟩, hp, hz⟩
  | d + 1, n, F, i, hi, hc, hp, hf, h0 => by
    by_cases hz : n.1 = 0
    · have hc' : i + (1 + (n.2.map fun r => nodesN d (kidR r)).sum) ≤ cap := hc
      have hkid : ∀ q, q ≤ n.2.length → (∀ j, j < q → erW d n.2 F j = 0) → (∃ j, j ≤ i + nodesUp d n.2 q ∧ Inv j (gW d n.2 F q)) ∧ ∀ k, k < q → pgOk d (ndW d n.2 F k) ∧ (ndW d n.2 F k).1 ≠ 0 := by
        intro q
        induction q with
        | zero => exact fun _ _ => ⟨⟨i, by omega, hi⟩, fun k hk => by omega⟩
        | succ q ih =>
          intro hq he
          obtain ⟨⟨j, hj, hij⟩, hk⟩ := ih (by omega) (fun j hj => he j (by omega))
          have hr : n.2[q]? = some (n.2[q]'(by omega)) := List.getElem?_eq_getElem _
          have hm := List.mem_of_getElem? hr
          have h1 := nodesUp_at hr
          have h2 := nodesUp_le (l := n.2) (q := q + 1)
          have he' := he q (by omega)
          rw [erW_at hr] at he'
          obtain ⟨⟨j', hj', hij'⟩, k1, k2⟩ := wrN_inv hI hij (by omega) (hp.2 _ hm) ⟨(hf.2 _ hm).2.2.1, (hf.2 _ hm).2.2.2⟩ he'
          refine ⟨⟨j', by omega, by rw [gW_at hr]; exact hij'⟩, fun k hk' => ?_⟩
          rcases Nat.lt_or_ge k q with h9 | h9
          · exact hk k h9
          · obtain rfl : k = q := by omega
            rw [ndW_at hr]
            exact ⟨k1, k2⟩
      rcases erW_cases (l := n.2) (F := F) with he | ⟨q, hq, he, hb⟩
      · obtain ⟨⟨j, hj, hij⟩, hk⟩ := hkid _ (Nat.le_refl _) he
        have hN := nodesUp_le (l := n.2) (q := n.2.length)
        rw [wrN_in hz, wrL_all0 he, if_neg (by simp)] at h0 ⊢
        simp only at h0 ⊢
        by_cases hq : (putF (gW d n.2 F n.2.length) (bytesN ⟨false, rwsOf (d + 1) (rwW d n.2 F n.2.length)⟩)).2.2 = 0
        · have hb : (bytesN ⟨false, rwsOf (d + 1) (rwW d n.2 F n.2.length)⟩).length ≤ 512 := by
            rw [bytesN_len]
            have h9 := rws_size (rwW d n.2 F n.2.length)
            rw [show decide (d + 1 = 0) = false from rfl] at h9
            rw [h9, keys_size (m := n.2) (by rw [rwW_keys (Nat.le_refl _), List.take_length])]
            exact hf.1
          obtain ⟨k1, k2, k3⟩ := hI.put j _ _ hij (by omega) hb hq
          rw [if_pos hq]
          refine ⟨⟨j + 1, by show j + 1 ≤ i + (1 + _); omega, k1⟩, ⟨.inr ⟨k2, k3⟩, fun r hr => ?_⟩, Nat.ne_of_gt (Nat.lt_of_lt_of_le (Nat.zero_lt_succ 1) k2)⟩
          obtain ⟨k, hkr⟩ := List.getElem?_of_mem hr
          have hkl : k < n.2.length := by
            have := (List.getElem?_eq_some_iff.1 hkr).1
            rwa [rwW_len (Nat.le_refl _)] at this
          have h8 := rwW_get (F := F) (Nat.le_refl _) hkl (List.getElem?_eq_getElem hkl)
          have hkr : (rwW d n.2 F n.2.length)[k]? = some r := hkr
          rw [h8] at hkr
          injection hkr with hkr
          rw [← hkr]
          exact (hk k hkl).1
        · rw [if_neg hq] at h0
          exact absurd h0 hq
      · obtain ⟨h1, h2⟩ := wrL_bad0 hq he hb
        rw [wrN_in hz, if_pos (by rw [h2]; exact hb)] at h0
        exact absurd (h2 ▸ h0) hb
    · rw [wrN_has hz]
      exact ⟨⟨i, by omega, hi⟩, hp, hz⟩
end Wb

namespace Wb
open Go
theorem rows_at_lt {l : List Rw} (h : (l.map (·.key)).Pairwise (· < ·)) {j : Nat} {r p : Rw} (hr : l[j]? = some r) (hp : l[j - 1]? = some p) (h0 : 0 < j) : p.key < r.key := by
  rw [List.pairwise_iff_getElem] at h
  have h1 := (List.getElem?_eq_some_iff.1 hr)
  have h2 := (List.getElem?_eq_some_iff.1 hp)
  have := h (j - 1) j (by simpa using h2.1) (by simpa using h1.1) (by omega)
  rw [List.getElem_map, List.getElem_map, h1.2, h2.2] at this
  exact this
theorem okN_rows {n : Ndv} (hk : (n.rows.map (·.key)).Pairwise (· < ·)) (hg : ∀ r ∈ n.rows, goodN n.leaf r = true) (hne : n.leaf = true ∨ n.rows ≠ []) (hs : sizeN n ≤ 512) : okN n = true := by
  unfold okN
  refine @decide_eq_true _ (Classical.propDecidable _) ?_
  exact ⟨fun j r _ hr => ⟨hg r (List.mem_of_getElem? hr), fun p h0 hp => rows_at_lt hk hr hp h0⟩, hne, hs⟩
theorem okN_leaf {l : Rows 0} (ho : Ord 0 l) (hf : Fit 0 l) : okN ⟨true, rwsOf 0 l⟩ = true := by
  refine okN_rows ?_ (fun r hr => ?_) (.inl rfl) (by rw [show (⟨true, rwsOf 0 l⟩ : Ndv) = ⟨decide (0 = 0), rwsOf 0 l⟩ from rfl, rws_size]; exact hf.1)
  · show ((l.map fun r => (⟨keyR r, valR r, 0⟩ : Rw)).map _).Pairwise _
    rw [List.map_map, List.pairwise_map]
    exact ho
  · obtain ⟨x, hx, rfl⟩ := List.mem_map.1 (show r ∈ l.map (fun r => (⟨keyR r, valR r, 0⟩ : Rw)) from hr)
    obtain ⟨⟨h1, h2⟩, h3⟩ := hf.2 x hx
    unfold goodN
    simp only [if_true, h1, h2, h3, decide_true, Bool.and_self, and_self, ne_eq, not_false_eq_true]
theorem okN_in {d : Nat} {l : Rows (d + 1)} (hk : (l.map keyR).Pairwise (· < ·)) (hg : ∀ r ∈ l, keyOk (keyR r) ∧ 2 ≤ (kidR r).1 ∧ (kidR r).1 ≤ 4294967295) (hne : l ≠ []) (hs : sizeR l ≤ 512) : okN ⟨false, rwsOf (d + 1) l⟩ = true := by
  refine okN_rows ?_ (fun r hr => ?_) (.inr ?_) (by rw [show (⟨false, rwsOf (d + 1) l⟩ : Ndv) = ⟨decide (d + 1 = 0), rwsOf (d + 1) l⟩ from rfl, rws_size]; exact hs)
  · show ((l.map fun r => (⟨keyR r, [], ((kidR r).1 : Int)⟩ : Rw)).map _).Pairwise _
    rw [List.map_map]
    exact hk
  · obtain ⟨x, hx, rfl⟩ := List.mem_map.1 (show r ∈ l.map (fun r => (⟨keyR r, [], ((kidR r).1 : Int)⟩ : Rw)) from hr)
    obtain ⟨⟨h1, h2⟩, h3, h4⟩ := hg x hx
    have h5 : (2 : Int) ≤ ((kidR x).1 : Int) := by omega
    have h6 : ((kidR x).1 : Int) ≤ 4294967295 := by omega
    unfold goodN
    simp [h1, h2, h5, h6]
  · intro e
    have : l.map (fun r => (⟨keyR r, [], ((kidR r).1 : Int)⟩ : Rw)) = [] := e
    exact hne (List.map_eq_nil_iff.1 this)
theorem kids_inv {Inv : Nat → Pg → Prop} {cap : Nat} (hI : InvOk Inv cap) {d : Nat} {n : Nd (d + 1)} {F : Pg} {i : Nat} (hi : Inv i F) (hc : i + nodesN (d + 1) n ≤ cap) (hp : pgOk (d + 1) n) (hf : Fit (d + 1) n.2) :
    ∀ q, q ≤ n.2.length → (∀ j, j < q → erW d n.2 F j = 0) → (∃ j, j + (((n.2.map fun r => nodesN d (kidR r)).sum) - nodesUp d n.2 q) ≤ i + (n.2.map fun r => nodesN d (kidR r)).sum ∧ Inv j (gW d n.2 F q)) ∧ ∀ k, k < q → pgOk d (ndW d n.2 F k) ∧ (ndW d n.2 F k).1 ≠ 0 := by
  have hc' : i + (1 + (n.2.map fun r => nodesN d (kidR r)).sum) ≤ cap := hc
  intro q
  induction q with
  | zero => exact fun _ _ => ⟨⟨i, by omega, hi⟩, fun k hk => by omega⟩
  | succ q ih =>
    intro hq he
    obtain ⟨⟨j, hj, hij⟩, hk⟩ := ih (by omega) (fun j hj => he j (by omega))
    have hr : n.2[q]? = some (n.2[q]'(by omega)) := List.getElem?_eq_getElem _
    have hm := List.mem_of_getElem? hr
    have h1 := nodesUp_at hr
    have h2 := nodesUp_le (l := n.2) (q := q + 1)
    have he' := he q (by omega)
    rw [erW_at hr] at he'
    obtain ⟨⟨j', hj', hij'⟩, k1, k2⟩ := wrN_inv hI hij (by omega) (hp.2 _ hm) ⟨(hf.2 _ hm).2.2.1, (hf.2 _ hm).2.2.2⟩ he'
    refine ⟨⟨j', by omega, by rw [gW_at hr]; exact hij'⟩, fun k hk' => ?_⟩
    rcases Nat.lt_or_ge k q with h9 | h9
    · exact hk k h9
    · obtain rfl : k = q := by omega
      rw [ndW_at hr]
      exact ⟨k1, k2⟩
end Wb

namespace Wb
open Go
theorem exists_min {p : Nat → Prop} (h : ∃ n, p n) : ∃ n, p n ∧ ∀ k, k < n → ¬ p k := by
  obtain ⟨n, hn⟩ := h
  induction n using Nat.strongRecOn with
  | _ n ih =>
    by_cases hk : ∃ k, k < n ∧ p k
    · obtain ⟨k, h1, h2⟩ := hk
      exact ih k h1 h2
    · exact ⟨n, hn, fun k h1 h2 => hk ⟨k, h1, h2⟩⟩
theorem least_ex (F : Pg) : ∃ p, isLeast F p := by
  obtain ⟨p, ⟨h1, h2⟩, h3⟩ := exists_min (p := fun p => 2 ≤ p ∧ (pagesOf F.d ≤ p ∨ F.used p = false)) ⟨pagesOf F.d + 2, by omega, .inl (by omega)⟩
  refine ⟨p, h1, fun j hj hjp => ?_, h2⟩
  have := h3 j hjp
  refine ⟨Classical.byContradiction fun hn => this ⟨hj, .inl (by omega)⟩, ?_⟩
  cases hu : F.used j with
  | true => rfl
  | false => exact absurd ⟨hj, .inr hu⟩ this
theorem leastP_spec (F : Pg) : isLeast F (leastP F) := by
  obtain ⟨p, hp⟩ := least_ex F
  rw [leastP_is hp]
  exact hp
theorem range_in : ∀ (n : Nat) (U : List Nat), (∀ j, j < n → 2 + j ∈ U) → n ≤ U.length
  | 0, _, _ => Nat.zero_le _
  | n + 1, U, h => by
    have h1 := h n (by omega)
    have ih := range_in n (U.erase (2 + n)) (fun j hj => (List.mem_erase_of_ne (by omega)).2 (h j (by omega)))
    rw [List.length_erase_of_mem h1] at ih
    have := List.length_pos_of_mem h1
    omega
/-- A file that can be read, of P pages at most, u of them in use. -/
structure FR (m P u g : Nat) (F : Pg) : Prop where
  ss : ∃ ss pg, FileOk m ss F ∧ ss.length = 8 * pg ∧ pg ≤ P
  us : ∃ U : List Nat, U.length ≤ u ∧ ∀ j, F.used j = true → j ∈ U ∧ 2 ≤ j ∧ j < pagesOf F.d
  fr : F.fresh.length ≤ u
  gen : F.mt.gen ≤ g
theorem FR.dead {m P u g : Nat} {F : Pg} (h : FR m P u g F) : F.dead = false := by
  obtain ⟨ss, pg, h1, _⟩ := h.ss
  exact h1.dead
theorem FR.pages {m P u g : Nat} {F : Pg} (h : FR m P u g F) : pagesOf F.d ≤ P := by
  obtain ⟨ss, pg, h1, h2, h3⟩ := h.ss
  rw [h1.pages, h2]
  omega
theorem FR.put {m P u g : Nat} {F : Pg} (hm : 8 * P ≤ m) (h : FR m P u g F) (hu : u + 3 ≤ P) (b : List UInt8) :
    (putF F b).2.2 = 0 ∧ 2 ≤ leastP F ∧ leastP F < P ∧ F.used (leastP F) = false ∧ FR m P (u + 1) g (putF F b).1 ∧ (putF F b).1.used = (fun j => F.used j || decide (j = leastP F)) ∧ (putF F b).1.mt = F.mt ∧ pagesOf F.d ≤ pagesOf (putF F b).1.d := by
  obtain ⟨p2, p3, p4⟩ := leastP_spec F
  obtain ⟨ss, pg, h1, h2, h3⟩ := h.ss
  obtain ⟨U, hU, hus⟩ := h.us
  have hpg := h1.pages
  have hp : pagesOf F.d = pg := by rw [hpg, h2]; omega
  have hfree : F.used (leastP F) = false := by
    rcases p4 with h5 | h5
    · cases hq : F.used (leastP F) with
      | false => rfl
      | true => have := (hus _ hq).2.2; omega
    · exact h5
  have hle : leastP F - 2 ≤ U.length := range_in _ U (fun j hj => (hus (2 + j) (p3 (2 + j) (by omega) (by omega)).2).1)
  have hlp : leastP F ≤ pg := by
    rcases Nat.lt_or_ge 2 (leastP F) with h5 | h5
    · have := (p3 (leastP F - 1) (by omega) (by omega)).1; omega
    · have := h1.len; omega
  obtain ⟨D', g1, g2⟩ := nd_put h1.nd b (leastP F) (by omega) (.inr (by omega))
  have hF : putF F b = ({ F with d := D', used := fun j => F.used j || decide (j = leastP F), fresh := F.fresh ++ [leastP F] }, leastP F, 0) := by unfold putF; rw [g2]
  have hlen := putAt_len (ss := ss) (b := leastP F * 8) (f := pageSec b) (q := 8) (by omega)
  have hmax : (putAt ss (leastP F * 8) (pageSec b) 8).length = 8 * max pg (leastP F + 1) := by rw [hlen, h2]; omega
  have hfile : FileOk m (putAt ss (leastP F * 8) (pageSec b) 8) { F with d := D', used := fun j => F.used j || decide (j = leastP F), fresh := F.fresh ++ [leastP F] } := by
    refine ⟨g1, by rw [hlen]; have := h1.len; omega, h1.metas.put _ (by omega) (by omega), ?_, h1.dead⟩
    have := h1.mok
    refine ⟨this.ok, this.gen, ?_, this.root', this.count⟩
    rcases this.root with h5 | h5
    · exact .inl h5
    · right; rw [hlen]; show 2 ≤ F.mt.root ∧ F.mt.root < _; omega
  have hpages : pagesOf D' = max pg (leastP F + 1) := by
    have := hfile.pages
    rw [hmax] at this
    have e : pagesOf ({ F with d := D', used := fun j => F.used j || decide (j = leastP F), fresh := F.fresh ++ [leastP F] } : Pg).d = pagesOf D' := rfl
    rw [e] at this
    omega
  rw [hF]
  refine ⟨rfl, p2, by omega, hfree, ⟨⟨_, _, hfile, hmax, by omega⟩, ⟨leastP F :: U, by rw [List.length_cons]; omega, fun j hj => ?_⟩, ?_, h.gen⟩, rfl, rfl, by show _ ≤ pagesOf D'; omega⟩
  · have hj : (F.used j || decide (j = leastP F)) = true := hj
    show _ ∧ _ ∧ j < pagesOf D'
    rw [hpages]
    rcases (by simpa using hj : F.used j = true ∨ j = leastP F) with h5 | h5
    · obtain ⟨q1, q2, q3⟩ := hus j h5
      exact ⟨List.mem_cons_of_mem _ q1, q2, by omega⟩
    · subst h5
      exact ⟨List.mem_cons_self .., p2, by omega⟩
  · show (F.fresh ++ [leastP F]).length ≤ _
    rw [List.length_append]
    have := h.fr
    simp
    omega
def FRi (m P u g cap : Nat) (i : Nat) (F : Pg) : Prop := FR m P (u + i) g F ∧ i ≤ cap
theorem FR.inv {m P u g cap : Nat} (hm : 8 * P ≤ m) (hP : P ≤ 100000) (hc : u + cap + 2 ≤ P) : InvOk (FRi m P u g cap) cap := by
  refine ⟨fun i F b h hi _ _ => ?_, fun i F h => ?_⟩
  · obtain ⟨h1, h2, h3, h4, h5, h6, h7, h8⟩ := h.1.put hm (by omega) b
    exact ⟨⟨h5, hi⟩, h2, by show leastP F ≤ _; omega⟩
  · have h9 := h.1.fr
    have := h.2
    omega
/-! ### which numbers are written -/
/-- Numbers of a node and all below it that there are. -/
def nzN : (d : Nat) → Nd d → List Nat
  | 0, n => if n.1 = 0 then [] else [n.1]
  | d + 1, n => (if n.1 = 0 then [] else [n.1]) ++ (n.2.map fun r => nzN d (kidR r)).flatten
def nzR : (d : Nat) → Rows d → List Nat
  | 0, _ => []
  | d + 1, l => (l.map fun r => nzN d (kidR r)).flatten
theorem nzN_eq : ∀ (d : Nat) (n : Nd d), nzN d n = (if n.1 = 0 then [] else [n.1]) ++ nzR d n.2
  | 0, n => by show (if n.1 = 0 then [] else [n.1]) = _ ++ []; rw [List.append_nil]
  | _ + 1, _ => rfl
/-- Numbers of a node and all below it. -/
def idsW : (d : Nat) → Nd d → List Nat
  | 0, n => [n.1]
  | d + 1, n => n.1 :: (n.2.map fun r => idsW d (kidR r)).flatten
def full (d : Nat) (n : Nd d) : Prop := ∀ x ∈ idsW d n, x ≠ 0
/-- What lies below a node with a number has one. -/
def herR : (d : Nat) → Rows d → Prop
  | 0, _ => True
  | d + 1, l => ∀ r ∈ l, ((kidR r).1 ≠ 0 → full d (kidR r)) ∧ herR d (kidR r).2
def her (d : Nat) (n : Nd d) : Prop := (n.1 ≠ 0 → full d n) ∧ herR d n.2
theorem full_kid {d : Nat} {n : Nd (d + 1)} (h : full (d + 1) n) {r : Row (d + 1)} (hr : r ∈ n.2) : full d (kidR r) := fun x hx => h x (List.mem_cons_of_mem _ (List.mem_flatten.2 ⟨_, List.mem_map.2 ⟨r, hr, rfl⟩, hx⟩))
theorem full_head : ∀ {d : Nat} {n : Nd d}, full d n → n.1 ≠ 0
  | 0, n, h => h n.1 (by show n.1 ∈ [n.1]; simp)
  | d + 1, n, h => h n.1 (List.mem_cons_self ..)
theorem full_her : ∀ {d : Nat} {n : Nd d}, full d n → her d n
  | 0, n, h => ⟨fun _ => h, trivial⟩
  | d + 1, n, h => ⟨fun _ => h, fun r hr => full_her (full_kid h hr)⟩
theorem full_nz : ∀ {d : Nat} {n : Nd d}, full d n → nzN d n = idsW d n
  | 0, n, h => by
    have := full_head h
    show (if n.1 = 0 then [] else [n.1]) = [n.1]
    rw [if_neg this]
  | d + 1, n, h => by
    have h1 := full_head h
    show (if n.1 = 0 then [] else [n.1]) ++ _ = n.1 :: _
    rw [if_neg h1]
    show n.1 :: (n.2.map fun r => nzN d (kidR r)).flatten = n.1 :: (n.2.map fun r => idsW d (kidR r)).flatten
    rw [List.map_congr_left (fun r hr => full_nz (full_kid h hr))]
theorem idsW_len : ∀ (d : Nat) (n : Nd d), (idsW d n).length = nodesN d n
  | 0, _ => rfl
  | d + 1, n => by
    show (n.1 :: _).length = 1 + _
    rw [List.length_cons, List.length_flatten, List.map_map, Nat.add_comm]
    congr 2
    apply List.map_congr_left
    intro r _
    exact idsW_len d (kidR r)
theorem putF_used {F : Pg} {b : List UInt8} (h : (putF F b).2.2 = 0) : (putF F b).1.used = (fun j => F.used j || decide (j = leastP F)) ∧ (putF F b).1.mt = F.mt := by
  unfold putF putP at h ⊢
  by_cases hw : (wrUp F.d (leastP F * 8) (pageSec b) 8).2 = 0
  · rw [if_pos hw]
    exact ⟨rfl, rfl⟩
  · rw [if_neg hw] at h
    exact absurd h hw
/-- What writing changes of the numbers. -/
structure WN (F G : Pg) (old ids news : List Nat) : Prop where
  perm : ids.Perm (old ++ news)
  nodup : news.Nodup
  new : ∀ p ∈ news, F.used p = false
  used : ∀ j, G.used j = true ↔ F.used j = true ∨ j ∈ news
  mt : G.mt = F.mt
theorem WN.refl {F : Pg} {l : List Nat} : WN F F l l [] := ⟨by rw [List.append_nil], List.nodup_nil, fun p hp => (by cases hp), fun j => ⟨.inl, fun h => h.elim id (fun h => (by cases h))⟩, rfl⟩
theorem WN.trans {F G H : Pg} {o1 i1 n1 o2 i2 n2 : List Nat} (h : WN F G o1 i1 n1) (k : WN G H o2 i2 n2) : WN F H (o1 ++ o2) (i1 ++ i2) (n1 ++ n2) := by
  refine ⟨?_, ?_, fun p hp => ?_, fun j => ?_, by rw [k.mt, h.mt]⟩
  · refine (h.perm.append k.perm).trans ?_
    rw [List.append_assoc, List.append_assoc]
    refine List.Perm.append_left _ ?_
    rw [← List.append_assoc, ← List.append_assoc]
    exact List.Perm.append_right _ List.perm_append_comm
  · rw [List.nodup_append]
    refine ⟨h.nodup, k.nodup, fun a ha b hb e => ?_⟩
    subst e
    have h1 := k.new a hb
    have h2 := (h.used a).2 (.inr ha)
    rw [h1] at h2
    cases h2
  · rcases List.mem_append.1 hp with h9 | h9
    · exact h.new p h9
    · have h1 := k.new p h9
      cases hu : F.used p with
      | false => rfl
      | true =>
        rw [(h.used p).2 (.inl hu)] at h1
        cases h1
  · rw [k.used, h.used, List.mem_append, or_assoc]
theorem WN.put {F G H : Pg} {o i n : List Nat} (h : WN F G o i n) {b : List UInt8} (hp : (putF G b).2.2 = 0) (hf : G.used (leastP G) = false) (hH : H = (putF G b).1) : WN F H o (leastP G :: i) (leastP G :: n) := by
  obtain ⟨h1, h2⟩ := putF_used hp
  subst hH
  refine ⟨?_, ?_, fun p hp => ?_, fun j => ?_, by rw [h2, h.mt]⟩
  · exact (List.Perm.cons _ h.perm).trans List.perm_middle.symm
  · rw [List.nodup_cons]
    exact ⟨fun hm => (by rw [(h.used _).2 (.inr hm)] at hf; cases hf), h.nodup⟩
  · rcases List.mem_cons.1 hp with rfl | h9
    · cases hu : F.used (leastP G) with
      | false => rfl
      | true =>
        rw [(h.used _).2 (.inl hu)] at hf
        cases hf
    · exact h.new p h9
  · rw [h1]
    show (G.used j || decide (j = leastP G)) = true ↔ _
    rw [Bool.or_eq_true, h.used, decide_eq_true_eq, List.mem_cons, or_assoc]
    constructor
    · rintro (h | h | h)
      · exact .inl h
      · exact .inr (.inr h)
      · exact .inr (.inl h)
    · rintro (h | h | h)
      · exact .inl h
      · exact .inr (.inr h)
      · exact .inr (.inl h)
theorem wrN_good {Inv : Nat → Pg → Prop} {cap : Nat} (hI : InvOk Inv cap) (hN : ∀ i F b, Inv i F → i < cap → F.used (leastP F) = false ∧ (putF F b).2.2 = 0) : ∀ {d : Nat} {n : Nd d} {F : Pg} {i : Nat}, Inv i F → i + nodesN d n ≤ cap → pgOk d n → Fit d n.2 → her d n →
    (wrN d F n).2.2 = 0 ∧ full d (wrN d F n).2.1 ∧ ∃ news, WN F (wrN d F n).1 (nzN d n) (idsW d (wrN d F n).2.1) news
  | 0, n, F, i, hi, hc, hp, hf, hh => by
    by_cases hz : n.1 = 0
    · have hc' : i + 1 ≤ cap := hc
      obtain ⟨h1, h2⟩ := hN i F (bytesN ⟨true, rwsOf 0 n.2⟩) hi (by omega)
      obtain ⟨_, _, h3⟩ := wrN_inv hI hi hc hp hf (by rw [wrN_leaf hz, if_pos h2])
      rw [wrN_leaf hz, if_pos h2] at h3 ⊢
      refine ⟨rfl, fun x hx => ?_, [leastP F], ?_⟩
      · have hx : x = (putF F (bytesN ⟨true, rwsOf 0 n.2⟩)).2.1 := List.mem_singleton.1 hx
        rw [hx]
        exact h3
      · have hnz : nzN 0 n = [] := if_pos hz
        rw [hnz]
        exact (WN.refl (F := F) (l := [])).put h2 h1 rfl
    · rw [wrN_has hz]
      exact ⟨rfl, hh.1 hz, [], by rw [full_nz (hh.1 hz)]; exact WN.refl⟩
  | d + 1, n, F, i, hi, hc, hp, hf, hh => by
    by_cases hz : n.1 = 0
    · have hc' : i + (1 + (n.2.map fun r => nodesN d (kidR r)).sum) ≤ cap := hc
      have hkid : ∀ q, q ≤ n.2.length → (∀ j, j < q → erW d n.2 F j = 0) ∧ (∀ k, k < q → full d (ndW d n.2 F k)) ∧ ∃ news, WN F (gW d n.2 F q) (((n.2.take q).map fun r => nzN d (kidR r)).flatten) (((rwW d n.2 F q).map fun r => idsW d (kidR r)).flatten) news := by
        intro q
        induction q with
        | zero => exact fun _ => ⟨fun j hj => absurd hj (Nat.not_lt_zero _), fun k hk => absurd hk (Nat.not_lt_zero _), [], WN.refl⟩
        | succ q ih =>
          intro hq
          obtain ⟨he, hk, news, hw⟩ := ih (by omega)
          have hr : n.2[q]? = some (n.2[q]'(by omega)) := List.getElem?_eq_getElem _
          have hm := List.mem_of_getElem? hr
          obtain ⟨⟨j, hj, hij⟩, _⟩ := kids_inv hI hi hc hp hf q (by omega) he
          have h1 := nodesUp_at hr
          have h2 := nodesUp_le (l := n.2) (q := q + 1)
          obtain ⟨k1, k2, news', k3⟩ := wrN_good hI hN hij (by omega) (hp.2 _ hm) ⟨(hf.2 _ hm).2.2.1, (hf.2 _ hm).2.2.2⟩ ⟨(hh.2 _ hm).1, (hh.2 _ hm).2⟩
          refine ⟨fun j hj => ?_, fun k hk' => ?_, news ++ news', ?_⟩
          · rcases Nat.lt_or_ge j q with h9 | h9
            · exact he j h9
            · obtain rfl : j = q := by omega
              rw [erW_at hr]; exact k1
          · rcases Nat.lt_or_ge k q with h9 | h9
            · exact hk k h9
            · obtain rfl : k = q := by omega
              rw [ndW_at hr]; exact k2
          · have e1 : ((n.2.take (q + 1)).map fun r => nzN d (kidR r)).flatten = ((n.2.take q).map fun r => nzN d (kidR r)).flatten ++ nzN d (kidR (n.2[q]'(by omega))) := by rw [take_snoc hr, List.map_append]; simp
            have e2 : ((rwW d n.2 F (q + 1)).map fun r => idsW d (kidR r)).flatten = ((rwW d n.2 F q).map fun r => idsW d (kidR r)).flatten ++ idsW d (ndW d n.2 F q) := by rw [rwW_at hr, List.map_append]; simp; rfl
            rw [e1, e2, gW_at hr, ndW_at hr]
            exact hw.trans k3
      obtain ⟨he, hk, news, hw⟩ := hkid _ (Nat.le_refl _)
      obtain ⟨⟨j, hj, hij⟩, _⟩ := kids_inv hI hi hc hp hf _ (Nat.le_refl _) he
      have hN9 := nodesUp_le (l := n.2) (q := n.2.length)
      have hup : nodesUp d n.2 n.2.length = (n.2.map fun r => nodesN d (kidR r)).sum := by unfold nodesUp; rw [List.take_length]
      obtain ⟨h1, h2⟩ := hN j _ (bytesN ⟨false, rwsOf (d + 1) (rwW d n.2 F n.2.length)⟩) hij (by omega)
      have hres : wrN (d + 1) F n = ((putF (gW d n.2 F n.2.length) (bytesN ⟨false, rwsOf (d + 1) (rwW d n.2 F n.2.length)⟩)).1, (leastP (gW d n.2 F n.2.length), rwW d n.2 F n.2.length), 0) := by
        rw [wrN_in hz, wrL_all0 he, if_neg (by simp)]
        simp only
        rw [if_pos h2]
        rfl
      obtain ⟨_, _, h3⟩ := wrN_inv hI hi hc hp hf (by rw [hres])
      rw [hres] at h3 ⊢
      refine ⟨rfl, fun x hx => ?_, leastP (gW d n.2 F n.2.length) :: news, ?_⟩
      · rcases List.mem_cons.1 (show x ∈ leastP (gW d n.2 F n.2.length) :: ((rwW d n.2 F n.2.length).map fun r => idsW d (kidR r)).flatten from hx) with rfl | hx
        · exact h3
        · obtain ⟨l, hl, hx⟩ := List.mem_flatten.1 hx
          obtain ⟨r, hr, rfl⟩ := List.mem_map.1 hl
          obtain ⟨k, hkr⟩ := List.getElem?_of_mem hr
          have hkl : k < n.2.length := by
            have := (List.getElem?_eq_some_iff.1 hkr).1
            rwa [rwW_len (Nat.le_refl _)] at this
          rw [rwW_get (Nat.le_refl _) hkl (List.getElem?_eq_getElem hkl)] at hkr
          injection hkr with hkr
          rw [← hkr] at hx
          exact hk k hkl x hx
      · have hnz : nzN (d + 1) n = (n.2.map fun r => nzN d (kidR r)).flatten := by rw [nzN_eq, if_pos hz, List.nil_append]; rfl
        rw [hnz]
        have hw' := hw.put h2 h1 rfl
        rw [List.take_length] at hw'
        exact hw'
    · rw [wrN_has hz]
      exact ⟨rfl, hh.1 hz, [], by rw [full_nz (hh.1 hz)]; exact WN.refl⟩
end Wb

namespace Wb
open Go
/-- A node's numbers are those of the rows they came from, and what has a number is whole. -/
structure Fr (old : List Nat) (d : Nat) (l : Rows d) : Prop where
  nz : (nzR d l).Sublist old
  her : herR d l
structure FrN (old : List Nat) (d : Nat) (g : List (Nd d)) : Prop where
  nz : ((g.map fun n => nzN d n).flatten).Sublist old
  her : ∀ n ∈ g, her d n
theorem nzR_app : ∀ {d : Nat} (a b : Rows d), nzR d (a ++ b) = nzR d a ++ nzR d b
  | 0, _, _ => rfl
  | d + 1, a, b => by show (List.map _ (a ++ b)).flatten = _; rw [List.map_append, List.flatten_append]; rfl
theorem herR_app : ∀ {d : Nat} {a b : Rows d}, herR d (a ++ b) ↔ herR d a ∧ herR d b
  | 0, _, _ => ⟨fun _ => ⟨trivial, trivial⟩, fun _ => trivial⟩
  | d + 1, a, b => ⟨fun h => ⟨fun r hr => h r (List.mem_append_left _ hr), fun r hr => h r (List.mem_append_right _ hr)⟩, fun h r hr => (List.mem_append.1 hr).elim (h.1 r) (h.2 r)⟩
theorem nz0 {d : Nat} (l : Rows d) : nzN d (0, l) = nzR d l := by rw [nzN_eq, if_pos rfl, List.nil_append]
theorem her0 {d : Nat} {l : Rows d} (h : herR d l) : her d (0, l) := ⟨fun h => absurd rfl h, h⟩
theorem split_fr {old : List Nat} {d : Nat} {l : Rows d} (h : Fr old d l) : FrN old d (fresh0 (splitR l)) := by
  unfold fresh0 splitR
  split
  · refine ⟨?_, fun n hn => ?_⟩
    · simp only [List.map_cons, List.map_nil, List.flatten_cons, List.flatten_nil, List.append_nil, nz0]
      exact h.nz
    · simp only [List.map_cons, List.map_nil, List.mem_singleton] at hn
      subst hn
      exact her0 h.her
  · have e : l = l.take (bestAt l) ++ l.drop (bestAt l) := (List.take_append_drop _ _).symm
    have h1 := h.her
    rw [e, herR_app] at h1
    refine ⟨?_, fun n hn => ?_⟩
    · simp only [List.map_cons, List.map_nil, List.flatten_cons, List.flatten_nil, List.append_nil, nz0]
      rw [← nzR_app, List.take_append_drop]
      exact h.nz
    · simp only [List.map_cons, List.map_nil, List.mem_cons, List.not_mem_nil, or_false] at hn
      rcases hn with rfl | rfl
      · exact her0 h1.1
      · exact her0 h1.2
theorem keyed_nz {d : Nat} (key : Nm) (g : List (Nd d)) : nzR (d + 1) (keyed key g) = (g.map fun n => nzN d n).flatten := by
  cases g with
  | nil => rfl
  | cons n r =>
    show ((mkR key n :: r.map fun m => mkR (lowest m.2) m).map fun r => nzN d (kidR r)).flatten = _
    rw [List.map_cons, List.map_map]
    rfl
theorem keyed_her {d : Nat} {key : Nm} {g : List (Nd d)} (h : ∀ n ∈ g, her d n) : herR (d + 1) (keyed key g) := by
  cases g with
  | nil => exact fun r hr => (by cases hr)
  | cons n r =>
    intro x hx
    rcases List.mem_cons.1 (show x ∈ mkR key n :: r.map fun m => mkR (lowest m.2) m from hx) with rfl | hx
    · exact h n (List.mem_cons_self ..)
    · obtain ⟨m, hm, rfl⟩ := List.mem_map.1 hx
      exact h m (List.mem_cons_of_mem _ hm)
theorem nz_kid {d : Nat} (r : Row (d + 1)) : (nzR d (kidR r).2).Sublist (nzN d (kidR r)) := by
  rw [nzN_eq]
  exact List.sublist_append_right _ _
/-- Kids in others' place. -/
theorem with_fr {d : Nat} {l : Rows (d + 1)} {i : Nat} {r : Row (d + 1)} {g : List (Nd d)} {key : Nm} (hr : l[i]? = some r) (hh : herR (d + 1) l) (h : FrN (nzN d (kidR r)) d g) : Fr (nzR (d + 1) l) (d + 1) (withR l i (i + 1) g key) := by
  have hi := (List.getElem?_eq_some_iff.1 hr).1
  have e : l = l.take i ++ ([r] ++ l.drop (i + 1)) := by
    rw [List.singleton_append, ← (List.getElem?_eq_some_iff.1 hr).2, ← List.drop_eq_getElem_cons hi, List.take_append_drop]
  have h1 := hh
  rw [e, herR_app, herR_app] at h1
  have e2 : nzR (d + 1) l = nzR (d + 1) (l.take i) ++ (nzN d (kidR r) ++ nzR (d + 1) (l.drop (i + 1))) := by
    have : nzR (d + 1) l = nzR (d + 1) (l.take i ++ ([r] ++ l.drop (i + 1))) := by rw [← e]
    rw [this, nzR_app, nzR_app]
    congr 2
    show ([r].map fun r => nzN d (kidR r)).flatten = _
    simp
  refine ⟨?_, ?_⟩
  · unfold withR
    rw [nzR_app, nzR_app, e2, keyed_nz, List.append_assoc]
    exact (List.Sublist.refl _).append (h.nz.append (List.Sublist.refl _))
  · unfold withR
    rw [herR_app, herR_app]
    exact ⟨⟨h1.1, keyed_her h.her⟩, h1.2.2⟩
theorem grown_fr (k v : Nm) : ∀ (d : Nat) (l : Rows d), herR d l → FrN (nzR d l) d (grown d l k v)
  | 0, l, _ => split_fr ⟨List.Sublist.refl _, trivial⟩
  | d + 1, l, h => by
    rw [grown]
    cases hr : l[idx l k]? with
    | none => exact ⟨List.nil_sublist _, fun n hn => (by cases hn)⟩
    | some r =>
      have ih := grown_fr k v d (kidR r).2 (h r (List.mem_of_getElem? hr)).2
      exact split_fr (with_fr hr h ⟨ih.nz.trans (nz_kid r), ih.her⟩)
def nzT : Root → List Nat
  | none => []
  | some ⟨d, n⟩ => nzN d n
def herT : Root → Prop
  | none => True
  | some ⟨d, n⟩ => her d n
def idsT : Root → List Nat
  | none => []
  | some ⟨d, n⟩ => idsW d n
def nodesT : Root → Nat
  | none => 0
  | some ⟨d, n⟩ => nodesN d n
def fullT : Root → Prop
  | none => True
  | some ⟨d, n⟩ => full d n
theorem strip_fr : ∀ (d : Nat) (n : Nd d), her d n → (nzT (some (strip d n))).Sublist (nzN d n) ∧ herT (some (strip d n))
  | 0, n, h => ⟨List.Sublist.refl _, h⟩
  | d + 1, n, h => by
    obtain ⟨i, l⟩ := n
    match l, h with
    | [], h => exact ⟨List.Sublist.refl _, h⟩
    | [r], h =>
      have hh := h.2 r (List.mem_cons_self ..)
      obtain ⟨h1, h2⟩ := strip_fr d (kidR r) hh
      refine ⟨h1.trans ?_, h2⟩
      rw [nzN_eq (d + 1)]
      refine List.Sublist.trans ?_ (List.sublist_append_right _ _)
      show (nzN d (kidR r)).Sublist (([r].map fun r => nzN d (kidR r)).flatten)
      simp
    | a :: b :: l, h => exact ⟨List.Sublist.refl _, h⟩
theorem top_fr {old : List Nat} {d : Nat} {g : List (Nd d)} (h : FrN old d g) : (nzT (topR g)).Sublist old ∧ herT (topR g) := by
  match g, h with
  | [], h => exact ⟨List.nil_sublist _, trivial⟩
  | [n], h =>
    obtain ⟨h1, h2⟩ := strip_fr d n (h.her n (List.mem_cons_self ..))
    refine ⟨h1.trans ?_, h2⟩
    have := h.nz
    simpa using this
  | n :: m :: r, h =>
    refine ⟨?_, fun h => absurd rfl h, fun x hx => ?_⟩
    · show (nzN (d + 1) (0, (n :: m :: r).map fun x => mkR (lowest x.2) x)).Sublist old
      rw [nz0]
      show (((n :: m :: r).map fun x => mkR (lowest x.2) x).map fun r => nzN d (kidR r)).flatten.Sublist old
      rw [List.map_map]
      exact h.nz
    · obtain ⟨y, hy, rfl⟩ := List.mem_map.1 (show x ∈ (n :: m :: r).map fun x => mkR (lowest x.2) x from hx)
      exact h.her y hy
theorem putT_fr {t : Root} (h : herT t) (k v : Nm) : (nzT (putT t k v)).Sublist (nzT t) ∧ herT (putT t k v) := by
  match t, h with
  | none, _ => exact top_fr (grown_fr k v 0 [] trivial)
  | some ⟨d, n⟩, h =>
    have := grown_fr k v d n.2 h.2
    obtain ⟨h1, h2⟩ := top_fr this
    refine ⟨h1.trans ?_, h2⟩
    show (nzR d n.2).Sublist (nzN d n)
    rw [nzN_eq]
    exact List.sublist_append_right _ _
/-- A tree has few nodes. -/
theorem nodes_few : ∀ (d : Nat) (n : Nd d), FitR d n.2 → (d = 0 ∧ n.2 ≠ [] ∨ 2 ≤ n.2.length) → nodesN d n + 1 ≤ 2 * (flat d n.2).length
  | 0, n, _, h => by
    have h1 : 1 ≤ n.2.length := by
      rcases h with h | h
      · exact List.length_pos_iff.2 h.2
      · omega
    show 1 + 1 ≤ 2 * (n.2.map _).length
    rw [List.length_map]
    omega
  | d + 1, n, hf, h => by
    have h2 : 2 ≤ n.2.length := h.elim (fun h => by omega) id
    have hk : ∀ l : Rows (d + 1), (∀ r ∈ l, keyOk (keyR r) ∧ 2 ≤ (kidR r).2.length ∧ sizeR (kidR r).2 ≤ 512 ∧ FitR d (kidR r).2) → (l.map fun r => nodesN d (kidR r)).sum + l.length ≤ 2 * (flat (d + 1) l).length := by
      intro l
      induction l with
      | nil => intro _; simp
      | cons r l ih =>
        intro hl
        have h3 := hl r (List.mem_cons_self ..)
        have h4 := nodes_few d (kidR r) h3.2.2.2 (.inr h3.2.1)
        have h5 := ih (fun x hx => hl x (List.mem_cons_of_mem _ hx))
        rw [flat_cons, List.map_cons, List.sum_cons, List.length_cons, List.length_append]
        omega
    have := hk n.2 hf
    show 1 + _ + 1 ≤ _
    omega
theorem nodesT_few {t : Root} (h : RootOk t) : nodesT t ≤ 2 * (flatT t).length := by
  match t, h with
  | none, _ => exact Nat.zero_le _
  | some ⟨d, n⟩, h =>
    have := nodes_few d n h.2.1.2 h.2.2
    show nodesN d n ≤ 2 * (flat d n.2).length
    omega
end Wb

namespace Wb
open Go
/-- What the document's map does with one op. -/
def doM (F : KVs) (key val : Nm) (del : Bool) : KVs :=
  F.take (lowK (F.map (·.1)) key) ++ (if del = true then [] else [(key, val)]) ++ F.drop (lowK (F.map (·.1)) key + if (F.map (·.1))[lowK (F.map (·.1)) key]? = some key then 1 else 0)
theorem doM_put : ∀ (F : KVs) (k v : Nm), doM F k v false = putM F k v
  | [], k, v => rfl
  | x :: r, k, v => by
    have ih := doM_put r k v
    by_cases h : x.1 < k
    · have e : lowK ((x :: r).map (·.1)) k = lowK (r.map (·.1)) k + 1 := by
        unfold lowK
        rw [List.map_cons, List.takeWhile_cons, if_pos (by simpa using h), List.length_cons]
      unfold doM at ih ⊢
      rw [e, putM, if_pos h, List.take_succ_cons, List.map_cons, List.getElem?_cons_succ, Nat.add_right_comm, List.drop_succ_cons, ← ih]
      rfl
    · have e : lowK ((x :: r).map (·.1)) k = 0 := by
        unfold lowK
        rw [List.map_cons, List.takeWhile_cons, if_neg (by simpa using h)]
        rfl
      have hd : (if (false = true) then ([] : KVs) else [(k, v)]) = [(k, v)] := rfl
      unfold doM
      rw [e, putM, if_neg h, hd]
      by_cases h2 : x.1 = k
      · rw [if_pos h2, if_pos (by rw [List.map_cons, List.getElem?_cons_zero, h2])]
        rfl
      · rw [if_neg h2, if_neg (by rw [List.map_cons, List.getElem?_cons_zero]; intro h3; exact h2 (Option.some.inj h3))]
        rfl
end Wb

namespace Wb
open Go
theorem mem_putM {k v : Nm} : ∀ {F : KVs}, F.Pairwise (fun a b => a.1 < b.1) → ∀ x, x ∈ putM F k v ↔ x = (k, v) ∨ (x ∈ F ∧ x.1 ≠ k)
  | [], _, x => by simp [putM]
  | y :: r, h, x => by
    have hr := (List.pairwise_cons.1 h).2
    have hy := (List.pairwise_cons.1 h).1
    rw [putM]
    by_cases h1 : y.1 < k
    · rw [if_pos h1, List.mem_cons, mem_putM hr, List.mem_cons]
      constructor
      · rintro (rfl | h2 | ⟨h2, h3⟩)
        · exact .inr ⟨.inl rfl, fun e => nm_irrefl k (by rw [e] at h1; exact h1)⟩
        · exact .inl h2
        · exact .inr ⟨.inr h2, h3⟩
      · rintro (h2 | ⟨rfl | h2, h3⟩)
        · exact .inr (.inl h2)
        · exact .inl rfl
        · exact .inr (.inr ⟨h2, h3⟩)
    · rw [if_neg h1]
      by_cases h2 : y.1 = k
      · rw [if_pos h2, List.mem_cons, List.mem_cons]
        constructor
        · rintro (h3 | h3)
          · exact .inl h3
          · exact .inr ⟨.inr h3, fun e => nm_irrefl k (by have := hy x h3; rw [h2, e] at this; exact this)⟩
        · rintro (h3 | ⟨rfl | h3, h4⟩)
          · exact .inl h3
          · exact absurd h2 h4
          · exact .inr h3
      · rw [if_neg h2, List.mem_cons, List.mem_cons]
        have hky : k < y.1 := nm_total h2 h1
        constructor
        · rintro (h3 | rfl | h3)
          · exact .inl h3
          · exact .inr ⟨.inl rfl, h2⟩
          · exact .inr ⟨.inr h3, fun e => nm_irrefl k (by have := nm_trans hky (hy x h3); rw [e] at this; exact this)⟩
        · rintro (h3 | ⟨h3, _⟩)
          · exact .inl h3
          · exact .inr h3
theorem sorted_ext : ∀ {a b : KVs}, a.Pairwise (fun x y => x.1 < y.1) → b.Pairwise (fun x y => x.1 < y.1) → (∀ x, x ∈ a ↔ x ∈ b) → a = b
  | [], [], _, _, _ => rfl
  | [], y :: b, _, _, h => by have := (h y).2 (List.mem_cons_self ..); cases this
  | x :: a, [], _, _, h => by have := (h x).1 (List.mem_cons_self ..); cases this
  | x :: a, y :: b, ha, hb, h => by
    have ha' := List.pairwise_cons.1 ha
    have hb' := List.pairwise_cons.1 hb
    have hxy : x = y := by
      rcases List.mem_cons.1 ((h x).1 (List.mem_cons_self ..)) with h1 | h1
      · exact h1
      · rcases List.mem_cons.1 ((h y).2 (List.mem_cons_self ..)) with h2 | h2
        · exact h2.symm
        · exact absurd (hb'.1 x h1) (nm_asymm (ha'.1 y h2))
    subst hxy
    rw [sorted_ext ha'.2 hb'.2 (fun z => ?_)]
    constructor
    · intro hz
      rcases List.mem_cons.1 ((h z).1 (List.mem_cons_of_mem _ hz)) with h1 | h1
      · subst h1; exact absurd (ha'.1 _ hz) (nm_irrefl _)
      · exact h1
    · intro hz
      rcases List.mem_cons.1 ((h z).2 (List.mem_cons_of_mem _ hz)) with h1 | h1
      · subst h1; exact absurd (hb'.1 _ hz) (nm_irrefl _)
      · exact h1
theorem nodup_len {α : Type} [DecidableEq α] : ∀ {a b : List α}, a.Nodup → (∀ x ∈ a, x ∈ b) → a.length ≤ b.length
  | [], _, _, _ => Nat.zero_le _
  | x :: a, b, hn, hs => by
    have hn' := List.nodup_cons.1 hn
    have hx := hs x (List.mem_cons_self ..)
    have ih := nodup_len (a := a) (b := b.erase x) hn'.2 (fun y hy => (List.mem_erase_of_ne (fun e => hn'.1 (by rw [← e]; exact hy))).2 (hs y (List.mem_cons_of_mem _ hy)))
    rw [List.length_erase_of_mem hx] at ih
    have := List.length_pos_of_mem hx
    rw [List.length_cons]
    omega
/-- As many rows as there are numbers, at most. -/
theorem rows_few {F : KVs} {ks : List Nm} (hs : F.Pairwise (fun x y => x.1 < y.1)) (h : ∀ x ∈ F, x.1 ∈ ks) : F.length ≤ ks.length := by
  have h1 : (F.map (·.1)).Nodup := by
    unfold List.Nodup
    rw [List.pairwise_map]
    exact hs.imp (fun {a b} (h : a.1 < b.1) (e : a.1 = b.1) => nm_irrefl b.1 (by rw [e] at h; exact h))
  have := nodup_len h1 (fun x hx => by obtain ⟨y, hy, rfl⟩ := List.mem_map.1 hx; exact h y hy)
  rwa [List.length_map] at this
theorem put_len {F : KVs} (hs : F.Pairwise (fun x y => x.1 < y.1)) (k v : Nm) : F.length + (if hasM F k = true then 0 else 1) = (putM F k v).length := by
  rcases putM_len F k v with h | h
  · exact h.symm
  · exact absurd hs h
end Wb
