/- Lemmas and contracts of functions, joined. -/
import Derived.Test.YtblpkifkaoaicaaGreatQP
namespace Wb
open Go

/-- A row of a node that is d above the leaves: a key and a value, or a key and a node: its page, its rows. -/
def Row : Nat → Type
  | 0 => Nm × Nm
  | d + 1 => Nm × (Nat × List (Row d))
abbrev Rows (d : Nat) := List (Row d)
abbrev Nd (d : Nat) := Nat × List (Row d)
def keyR : {d : Nat} → Row d → Nm
  | 0, r => r.1
  | _ + 1, r => r.1
def kidR {d : Nat} (r : Row (d + 1)) : Nd d := r.2
def valR (r : Row 0) : Nm := r.2
def mkR {d : Nat} (k : Nm) (n : Nd d) : Row (d + 1) := (k, n)
def mkV (k v : Nm) : Row 0 := (k, v)
theorem kidR_mk {d : Nat} (k : Nm) (n : Nd d) : kidR (mkR k n) = n := rfl
/-- The rows of the leaves. -/
def flat : (d : Nat) → Rows d → List (Nm × Nm)
  | 0, l => l.map fun r => (keyR r, valR r)
  | d + 1, l => l.flatMap fun r => flat d (kidR r).2
theorem flat_app (d : Nat) (a b : Rows d) : flat d (a ++ b) = flat d a ++ flat d b := by
  cases d with
  | zero => simp [flat]
  | succ d => simp [flat]
theorem flat_nil (d : Nat) : flat d [] = [] := by cases d <;> rfl
theorem flat_cons (d : Nat) (r : Row (d + 1)) (l : Rows (d + 1)) : flat (d + 1) (r :: l) = flat d (kidR r).2 ++ flat (d + 1) l := by simp [flat]
theorem flat_one (d : Nat) (r : Row (d + 1)) : flat (d + 1) [r] = flat d (kidR r).2 := by simp [flat]

/-! ### order -/
theorem nm_le_lt {a b c : Nm} (h : ¬ b < a) (k : b < c) : a < c := by
  by_cases e : a = b
  · rw [e]; exact k
  · exact nm_trans (nm_total (fun e' => e e'.symm) h) k
theorem nm_lt_le {a b c : Nm} (h : a < b) (k : ¬ c < b) : a < c := by
  by_cases e : b = c
  · rw [← e]; exact h
  · exact nm_trans h (nm_total (fun e' => e e'.symm) k)
theorem nm_asymm {a b : Nm} (h : a < b) : ¬ b < a := fun k => nm_irrefl a (nm_trans h k)
/-- All keys stand in their order, and each is found by its road. -/
def Ord : (d : Nat) → Rows d → Prop
  | 0, l => l.Pairwise (fun a b => keyR a < keyR b)
  | d + 1, l => (∀ r ∈ l, (kidR r).2 ≠ [] ∧ Ord d (kidR r).2 ∧ ∀ x ∈ flat d (kidR r).2, ¬ x.1 < keyR r) ∧ l.Pairwise (fun a b => ∀ x ∈ flat d (kidR a).2, x.1 < keyR b)
theorem Ord.flat_ne {d : Nat} : ∀ {l : Rows d}, Ord d l → l ≠ [] → flat d l ≠ [] := by
  induction d with
  | zero => intro l _ h; simpa [flat] using h
  | succ d ih =>
    intro l ho h
    cases l with
    | nil => exact absurd rfl h
    | cons r t =>
      obtain ⟨h1, h2, _⟩ := ho.1 r (by simp)
      rw [flat_cons]
      intro e
      exact ih h2 h1 (List.append_eq_nil_iff.1 e).1
/-- What each row's leaves are below. -/
theorem Ord.sub {d : Nat} {l m : Rows d} (h : Ord d l) (hs : m.Sublist l) : Ord d m := by
  cases d with
  | zero => exact List.Pairwise.sublist hs h
  | succ d => exact ⟨fun r hr => h.1 r (hs.subset hr), List.Pairwise.sublist hs h.2⟩
theorem Ord.sorted {d : Nat} : ∀ {l : Rows d}, Ord d l → (flat d l).Pairwise (fun a b => a.1 < b.1) := by
  induction d with
  | zero =>
    intro l h
    show (l.map _).Pairwise _
    rw [List.pairwise_map]
    exact h
  | succ d ih =>
    intro l
    induction l with
    | nil => intro _; exact List.Pairwise.nil
    | cons r t iht =>
      intro h
      rw [flat_cons, List.pairwise_append]
      obtain ⟨h1, h2⟩ := h
      rw [List.pairwise_cons] at h2
      refine ⟨ih (h1 r (by simp)).2.1, iht ⟨fun r hr => h1 r (by simp [hr]), h2.2⟩, fun x hx y hy => ?_⟩
      obtain ⟨q, hq, hy⟩ := List.mem_flatMap.1 hy
      exact nm_lt_le (h2.1 q hq x hx) ((h1 q (by simp [hq])).2.2 y hy)
/-- Keys of a node's rows rise. -/
theorem Ord.keys {d : Nat} {l : Rows d} (h : Ord d l) : l.Pairwise (fun a b => keyR a < keyR b) := by
  cases d with
  | zero => exact h
  | succ d =>
    refine List.Pairwise.imp_of_mem ?_ h.2
    intro a b ha hb hab
    obtain ⟨h1, h2, h3⟩ := h.1 a ha
    have hne := h2.flat_ne h1
    obtain ⟨x, hx⟩ := List.exists_mem_of_ne_nil _ hne
    exact nm_le_lt (h3 x hx) (hab x hx)
/-- Below what all of a node is. -/
def AboveK (d : Nat) (k : Nm) (l : Rows d) : Prop := ∀ x ∈ flat d l, ¬ x.1 < k
def BelowK (d : Nat) (l : Rows d) (k : Nm) : Prop := ∀ x ∈ flat d l, x.1 < k
theorem Ord.head {d : Nat} {r : Row d} {t : Rows d} (h : Ord d (r :: t)) : AboveK d (keyR r) (r :: t) := by
  cases d with
  | zero =>
    intro x hx
    obtain ⟨q, hq, rfl⟩ := List.mem_map.1 hx
    rcases List.mem_cons.1 hq with rfl | hq
    · exact nm_irrefl _
    · exact nm_asymm ((List.pairwise_cons.1 h).1 q hq)
  | succ d =>
    intro x hx
    rw [flat_cons] at hx
    rcases List.mem_append.1 hx with hx | hx
    · exact (h.1 r (by simp)).2.2 x hx
    · obtain ⟨q, hq, hx⟩ := List.mem_flatMap.1 hx
      have h1 := (List.pairwise_cons.1 h.keys).1 q hq
      exact fun hlt => (h.1 q (by simp [hq])).2.2 x hx (nm_trans hlt h1)
theorem ord_app {d : Nat} {a b : Rows d} (ha : Ord d a) (hb : Ord d b) (hab : ∀ x ∈ flat d a, ∀ r ∈ b, x.1 < keyR r) : Ord d (a ++ b) := by
  cases d with
  | zero =>
    show (a ++ b).Pairwise _
    rw [List.pairwise_append]
    exact ⟨ha, hb, fun x hx y hy => hab (keyR x, valR x) (List.mem_map.2 ⟨x, hx, rfl⟩) y hy⟩
  | succ d =>
    refine ⟨fun r hr => ?_, ?_⟩
    · rcases List.mem_append.1 hr with hr | hr
      · exact ha.1 r hr
      · exact hb.1 r hr
    · rw [List.pairwise_append]
      exact ⟨ha.2, hb.2, fun r hr q hq x hx => hab x (List.mem_flatMap.2 ⟨r, hr, hx⟩) q hq⟩
theorem Ord.split {d : Nat} {a b : Rows d} (h : Ord d (a ++ b)) : Ord d a ∧ Ord d b ∧ ∀ x ∈ flat d a, ∀ r ∈ b, x.1 < keyR r := by
  refine ⟨h.sub (List.sublist_append_left _ _), h.sub (List.sublist_append_right _ _), ?_⟩
  cases d with
  | zero =>
    intro x hx r hr
    obtain ⟨q, hq, rfl⟩ := List.mem_map.1 hx
    exact (List.pairwise_append.1 h).2.2 q hq r hr
  | succ d =>
    intro x hx r hr
    obtain ⟨q, hq, hx⟩ := List.mem_flatMap.1 hx
    exact (List.pairwise_append.1 h.2).2.2 q hq r hr x hx

/-! ### a row of nodes beside each other -/
/-- The key by which a node is found. -/
def lowest {d : Nat} (l : Rows d) : Nm := match l with
  | [] => []
  | r :: _ => keyR r
/-- Nodes one behind the other. -/
structure OrdL (d : Nat) (k : List (Rows d)) : Prop where
  each : ∀ l ∈ k, l ≠ [] ∧ Ord d l
  rise : k.Pairwise (fun a b => BelowK d a (lowest b))
def flatL (d : Nat) (k : List (Rows d)) : List (Nm × Nm) := k.flatMap (flat d)
theorem lowest_above {d : Nat} {l : Rows d} (h : Ord d l) : AboveK d (lowest l) l := by
  cases l with
  | nil => intro x hx; rw [flat_nil] at hx; cases hx
  | cons r t => exact h.head
theorem below_rows {d : Nat} {l m : Rows d} (hm : Ord d m) (h : BelowK d l (lowest m)) : ∀ x ∈ flat d l, ∀ r ∈ m, x.1 < keyR r := by
  intro x hx r hr
  cases m with
  | nil => cases hr
  | cons q t =>
    have h1 := h x hx
    rcases List.mem_cons.1 hr with rfl | hr
    · exact h1
    · exact nm_trans h1 ((List.pairwise_cons.1 hm.keys).1 r hr)
/-- Rows that stand for nodes: the first one's key is given. -/
def keyed {d : Nat} (key : Nm) (k : List (Nd d)) : Rows (d + 1) := match k with
  | [] => []
  | n :: r => mkR key n :: r.map fun m => mkR (lowest m.2) m
theorem keyed_flat {d : Nat} (key : Nm) (k : List (Nd d)) : flat (d + 1) (keyed key k) = flatL d (k.map (·.2)) := by
  cases k with
  | nil => rfl
  | cons n r =>
    show flat (d + 1) (mkR key n :: _) = _
    rw [flat_cons]
    unfold flatL
    rw [List.map_cons, List.flatMap_cons]
    congr 1
    show (r.map _).flatMap _ = _
    rw [List.flatMap_map, List.flatMap_map]
    rfl
theorem keyed_len {d : Nat} (key : Nm) (k : List (Nd d)) : (keyed key k).length = k.length := by
  cases k with
  | nil => rfl
  | cons n r => simp [keyed]
theorem keyed_kids {d : Nat} (key : Nm) (k : List (Nd d)) : (keyed key k).map kidR = k := by
  cases k with
  | nil => rfl
  | cons n r =>
    show kidR (mkR key n) :: (r.map _).map kidR = _
    rw [List.map_map, kidR_mk]
    congr 1
    show r.map (fun m => kidR (mkR (lowest m.2) m)) = r
    simp [kidR_mk]
theorem keyed_ord {d : Nat} {key : Nm} {k : List (Nd d)} (h : OrdL d (k.map (·.2))) (hk : ∀ x ∈ flatL d (k.map (·.2)), ¬ x.1 < key) : Ord (d + 1) (keyed key k) := by
  cases k with
  | nil => exact ⟨(fun r hr => by cases hr), List.Pairwise.nil⟩
  | cons n r =>
    obtain ⟨h1, h2⟩ := h
    rw [List.map_cons] at h1 h2 hk
    rw [List.pairwise_cons] at h2
    have hn := h1 n.2 (by simp)
    refine ⟨fun q hq => ?_, ?_⟩
    · rcases List.mem_cons.1 hq with rfl | hq
      · exact ⟨hn.1, hn.2, fun x hx => hk x (by unfold flatL; rw [List.flatMap_cons]; exact List.mem_append_left _ hx)⟩
      · obtain ⟨m, hm, rfl⟩ := List.mem_map.1 hq
        have h3 := h1 m.2 (by simp; exact .inr ⟨_, hm⟩)
        exact ⟨h3.1, h3.2, lowest_above h3.2⟩
    · show (mkR key n :: r.map _).Pairwise _
      rw [List.pairwise_cons, List.pairwise_map]
      refine ⟨fun q hq x hx => ?_, ?_⟩
      · obtain ⟨m, hm, rfl⟩ := List.mem_map.1 hq
        exact h2.1 m.2 (List.mem_map.2 ⟨m, hm, rfl⟩) x hx
      · have := h2.2
        rw [List.pairwise_map] at this
        exact this
end Wb

namespace Wb
open Go

/-! ### a map as a row, rising -/
abbrev KVs := List (Nm × Nm)
def putM : KVs → Nm → Nm → KVs
  | [], k, v => [(k, v)]
  | x :: r, k, v => if x.1 < k then x :: putM r k v else if x.1 = k then (k, v) :: r else (k, v) :: x :: r
def hasM (l : KVs) (k : Nm) : Bool := l.any fun x => decide (x.1 = k)
theorem putM_left {A R : KVs} {k v : Nm} (h : ∀ x ∈ A, x.1 < k) : putM (A ++ R) k v = A ++ putM R k v := by
  induction A with
  | nil => rfl
  | cons a t ih =>
    rw [List.cons_append, putM, if_pos (h a (by simp)), ih (fun x hx => h x (by simp [hx])), List.cons_append]
theorem putM_right {M B : KVs} {k v : Nm} (h : ∀ x ∈ B, k < x.1) : putM (M ++ B) k v = putM M k v ++ B := by
  induction M with
  | nil =>
    cases B with
    | nil => rfl
    | cons b t =>
      have hb := h b (by simp)
      show putM (b :: t) k v = [(k, v)] ++ b :: t
      rw [putM, if_neg (nm_asymm hb), if_neg (fun e => nm_irrefl k (by rw [e] at hb; exact hb))]
      rfl
  | cons a t ih =>
    rw [List.cons_append, putM, putM]
    split
    · rw [ih, List.cons_append]
    · split <;> rfl
theorem putM_mem {l : KVs} {k v : Nm} {x : Nm × Nm} (h : x ∈ putM l k v) : x = (k, v) ∨ x ∈ l := by
  induction l with
  | nil => simpa [putM] using h
  | cons a t ih =>
    rw [putM] at h
    split at h
    · rcases List.mem_cons.1 h with h | h
      · exact .inr (by simp [h])
      · rcases ih h with h | h
        · exact .inl h
        · exact .inr (by simp [h])
    · split at h
      · rcases List.mem_cons.1 h with h | h
        · exact .inl h
        · exact .inr (by simp [h])
      · rcases List.mem_cons.1 h with h | h
        · exact .inl h
        · exact .inr h
theorem putM_ne (l : KVs) (k v : Nm) : putM l k v ≠ [] := by
  cases l with
  | nil => simp [putM]
  | cons a t => rw [putM]; split <;> (try split) <;> simp
theorem putM_sorted {l : KVs} {k v : Nm} (h : l.Pairwise (fun a b => a.1 < b.1)) : (putM l k v).Pairwise (fun a b => a.1 < b.1) := by
  induction l with
  | nil => simp [putM]
  | cons a t ih =>
    rw [List.pairwise_cons] at h
    rw [putM]
    split
    · rename_i h1
      rw [List.pairwise_cons]
      refine ⟨fun x hx => ?_, ih h.2⟩
      rcases putM_mem hx with rfl | hx
      · exact h1
      · exact h.1 x hx
    · rename_i h1
      split
      · rename_i h2
        rw [List.pairwise_cons]
        exact ⟨fun x hx => by have := h.1 x hx; rw [h2] at this; exact this, h.2⟩
      · rename_i h2
        rw [List.pairwise_cons, List.pairwise_cons]
        have hka : k < a.1 := nm_total h2 h1
        refine ⟨fun x hx => ?_, h⟩
        rcases List.mem_cons.1 hx with rfl | hx
        · exact hka
        · exact nm_trans hka (h.1 x hx)
theorem putM_len (l : KVs) (k v : Nm) : (putM l k v).length = l.length + (if hasM l k then 0 else 1) ∨ ¬ l.Pairwise (fun a b => a.1 < b.1) := by
  by_cases hs : l.Pairwise (fun a b => a.1 < b.1)
  · left
    induction l with
    | nil => simp [putM, hasM]
    | cons a t ih =>
      rw [List.pairwise_cons] at hs
      rw [putM]
      have hh : hasM (a :: t) k = (decide (a.1 = k) || hasM t k) := by simp [hasM]
      rw [hh]
      split
      · rename_i h1
        have hne : a.1 ≠ k := fun e => nm_irrefl k (by rw [e] at h1; exact h1)
        rw [List.length_cons, ih hs.2, List.length_cons]
        simp [hne]
        omega
      · split
        · rename_i h2
          simp [h2]
        · rename_i h1 h2
          have : hasM t k = false := by
            unfold hasM
            rw [List.any_eq_false]
            intro x hx
            have h3 : k < a.1 := nm_total h2 h1
            have h4 := nm_trans h3 (hs.1 x hx)
            simp only [decide_eq_true_eq]
            exact fun e => nm_irrefl k (by rw [e] at h4; exact h4)
          rw [this]
          simp [h2]
  · exact .inr hs
/-! ### sizes -/
def wt : {d : Nat} → Row d → Nat
  | 0, r => 2 + (keyR r).length + (valR r).length
  | _ + 1, r => 5 + (keyR r).length
def sizeR {d : Nat} (l : Rows d) : Nat := 3 + (l.map wt).sum
/-- Where the node is parted best: the place, and the greater part's octets, when q places have been looked at. -/
def bestUp {d : Nat} (l : Rows d) : Nat → Nat × Nat
  | 0 => (2, sizeR l)
  | q + 1 => if max (sizeR (l.take (2 + q))) (sizeR (l.drop (2 + q))) < (bestUp l q).2 then (2 + q, max (sizeR (l.take (2 + q))) (sizeR (l.drop (2 + q)))) else bestUp l q
def bestAt {d : Nat} (l : Rows d) : Nat := (bestUp l (l.length - 3)).1
theorem bestUp_at {d : Nat} (l : Rows d) : ∀ q, 2 ≤ (bestUp l q).1 ∧ (bestUp l q).1 ≤ max 2 (1 + q) ∧ ((bestUp l q).2 = sizeR l ∨ (bestUp l q).2 = max (sizeR (l.take (bestUp l q).1)) (sizeR (l.drop (bestUp l q).1)))
  | 0 => ⟨Nat.le_refl _, by show 2 ≤ _; omega, .inl rfl⟩
  | q + 1 => by
    obtain ⟨h1, h2, h3⟩ := bestUp_at l q
    rw [bestUp]
    split
    · exact ⟨by show 2 ≤ 2 + q; omega, by show 2 + q ≤ _; omega, .inr rfl⟩
    · exact ⟨h1, by omega, h3⟩
theorem bestUp_le {d : Nat} (l : Rows d) : ∀ q i, i < q → (bestUp l q).2 ≤ max (sizeR (l.take (2 + i))) (sizeR (l.drop (2 + i)))
  | 0, i, h => by omega
  | q + 1, i, h => by
    rw [bestUp]
    by_cases hi : i < q
    · have := bestUp_le l q i hi
      split
      · rename_i h1
        show max (sizeR (l.take (2 + q))) (sizeR (l.drop (2 + q))) ≤ _
        omega
      · exact this
    · obtain rfl : i = q := by omega
      split
      · exact Nat.le_refl _
      · omega
/-- A node as one, or as two where it is too long. -/
def splitR {d : Nat} (l : Rows d) : List (Rows d) := if sizeR l ≤ 512 ∨ l.length < 4 then [l] else [l.take (bestAt l), l.drop (bestAt l)]
theorem bestAt_in {d : Nat} {l : Rows d} (h : 4 ≤ l.length) : 2 ≤ bestAt l ∧ bestAt l + 2 ≤ l.length := by
  obtain ⟨h1, h2, _⟩ := bestUp_at l (l.length - 3)
  unfold bestAt
  omega
theorem split_flat {d : Nat} (l : Rows d) : flatL d (splitR l) = flat d l := by
  unfold splitR flatL
  split
  · simp
  · simp only [List.flatMap_cons, List.flatMap_nil, List.append_nil]
    rw [← flat_app, List.take_append_drop]
theorem split_ord {d : Nat} {l : Rows d} (h : Ord d l) (hne : l ≠ []) : OrdL d (splitR l) := by
  unfold splitR
  split
  · exact ⟨fun x hx => by rw [List.mem_singleton.1 hx]; exact ⟨hne, h⟩, List.pairwise_singleton _ _⟩
  · rename_i hc
    obtain ⟨h1, h2⟩ := bestAt_in (l := l) (by omega)
    have hs := (show Ord d (l.take (bestAt l) ++ l.drop (bestAt l)) by rw [List.take_append_drop]; exact h).split
    have n1 : l.take (bestAt l) ≠ [] := fun e => by have := congrArg List.length e; rw [List.length_take, List.length_nil] at this; omega
    have n2 : l.drop (bestAt l) ≠ [] := fun e => by have := congrArg List.length e; rw [List.length_drop, List.length_nil] at this; omega
    refine ⟨fun x hx => ?_, ?_⟩
    · rcases List.mem_cons.1 hx with rfl | hx
      · exact ⟨n1, hs.1⟩
      · rw [List.mem_singleton.1 hx]; exact ⟨n2, hs.2.1⟩
    · rw [List.pairwise_cons]
      refine ⟨fun b hb x hx => ?_, List.pairwise_singleton _ _⟩
      rw [List.mem_singleton.1 hb]
      have h3 := hs.2.2 x hx
      cases hd : l.drop (bestAt l) with
      | nil => exact absurd hd n2
      | cons r t => exact h3 r (by rw [hd]; simp)
theorem split_len {d : Nat} (l : Rows d) : 1 ≤ (splitR l).length ∧ (splitR l).length ≤ 2 := by
  unfold splitR
  split <;> simp
/-- What a row may weigh. -/
theorem sum_le {d : Nat} {l : Rows d} {m : Nat} (h : ∀ r ∈ l, wt r ≤ m) : (l.map wt).sum ≤ m * l.length := by
  induction l with
  | nil => simp
  | cons r t ih =>
    have h1 := h r (by simp)
    have h2 := ih (fun r hr => h r (by simp [hr]))
    rw [List.map_cons, List.sum_cons, List.length_cons, Nat.mul_succ]
    omega
theorem take_sum {d : Nat} (l : Rows d) (i : Nat) : ((l.take i).map wt).sum + ((l.drop i).map wt).sum = (l.map wt).sum := by
  rw [← List.sum_append, ← List.map_append, List.take_append_drop]
/-- A node that is not too long by far is parted in two that are not too long. -/
theorem split_size {d : Nat} {l : Rows d} (hw : ∀ r ∈ l, wt r ≤ 152) (hs : sizeR l ≤ 820) : ∀ p ∈ splitR l, sizeR p ≤ 512 := by
  unfold splitR
  split
  · rename_i hc
    intro p hp
    rw [List.mem_singleton.1 hp]
    rcases hc with hc | hc
    · exact hc
    · have := sum_le hw
      unfold sizeR
      have h3 : 152 * l.length ≤ 152 * 3 := Nat.mul_le_mul_left _ (by omega)
      omega
  · rename_i hc
    have hlen : 4 ≤ l.length := by omega
    have hbig : 512 < sizeR l := by omega
    have hW : (l.map wt).sum = sizeR l - 3 := by unfold sizeR; omega
    -- a place where both parts go in
    have pre : ∀ i, ((l.take (i + 1)).map wt).sum ≤ ((l.take i).map wt).sum + 152 := by
      intro i
      by_cases hi : i < l.length
      · rw [List.take_succ_eq_append_getElem hi, List.map_append, List.sum_append]
        have := hw l[i] (List.getElem_mem _)
        simp
        exact this
      · rw [List.take_of_length_le (by omega), List.take_of_length_le (by omega)]
        omega
    have key : ∃ i, i < l.length - 3 ∧ ((l.take (2 + i)).map wt).sum ≤ 509 ∧ ((l.drop (2 + i)).map wt).sum ≤ 509 := by
      have h2 : ((l.take 2).map wt).sum ≤ 304 := by
        have h3 := pre 0
        have h4 := pre 1
        simp only [List.take_zero, List.map_nil, List.sum_nil] at h3
        have e1 : (0 : Nat) + 1 = 1 := rfl
        have e2 : (1 : Nat) + 1 = 2 := rfl
        rw [e1] at h3
        rw [e2] at h4
        omega
      have hlast : ((l.drop (2 + (l.length - 4))).map wt).sum ≤ 304 := by
        have h3 := sum_le (l := l.drop (2 + (l.length - 4))) (m := 152) (fun r hr => hw r (List.mem_of_mem_drop hr))
        rw [List.length_drop] at h3
        have : l.length - (2 + (l.length - 4)) = 2 := by omega
        rw [this] at h3
        omega
      -- the first place behind which no more than 509 is left
      have go : ∀ q, q ≤ l.length - 4 → (((l.drop (2 + q)).map wt).sum ≤ 509 → ∃ i, i < l.length - 3 ∧ ((l.take (2 + i)).map wt).sum ≤ 509 ∧ ((l.drop (2 + i)).map wt).sum ≤ 509) := by
        intro q
        induction q with
        | zero =>
          intro _ h3
          exact ⟨0, by omega, by show ((l.take 2).map wt).sum ≤ 509; omega, h3⟩
        | succ q ih =>
          intro hq h3
          by_cases h4 : ((l.drop (2 + q)).map wt).sum ≤ 509
          · exact ih (by omega) h4
          · have h5 := take_sum l (2 + q)
            have h6 := pre (2 + q)
            exact ⟨q + 1, by omega, by rw [show 2 + (q + 1) = 2 + q + 1 by omega]; omega, h3⟩
      exact go (l.length - 4) (Nat.le_refl _) (by omega)
    obtain ⟨i, hi, h1, h2⟩ := key
    have hle := bestUp_le l (l.length - 3) i hi
    obtain ⟨_, _, h3⟩ := bestUp_at l (l.length - 3)
    have hb : (bestUp l (l.length - 3)).2 ≤ 512 := by
      refine Nat.le_trans hle ?_
      unfold sizeR
      omega
    have h4 : (bestUp l (l.length - 3)).2 = max (sizeR (l.take (bestAt l))) (sizeR (l.drop (bestAt l))) := by
      rcases h3 with h3 | h3
      · omega
      · exact h3
    intro p hp
    rcases List.mem_cons.1 hp with rfl | hp
    · omega
    · rw [List.mem_singleton.1 hp]; omega
theorem split_two {d : Nat} {l : Rows d} (h : 2 ≤ l.length) : ∀ p ∈ splitR l, 2 ≤ p.length := by
  unfold splitR
  split
  · intro p hp; rw [List.mem_singleton.1 hp]; exact h
  · rename_i hc
    obtain ⟨h1, h2⟩ := bestAt_in (l := l) (by omega)
    intro p hp
    rcases List.mem_cons.1 hp with rfl | hp
    · rw [List.length_take]; omega
    · rw [List.mem_singleton.1 hp, List.length_drop]; omega
theorem split_more {d : Nat} {l : Rows d} (h : 2 ≤ (splitR l).length) : 4 ≤ l.length := by
  unfold splitR at h
  split at h
  · simp at h
  · omega
theorem split_rows {d : Nat} {l : Rows d} : ∀ p ∈ splitR l, ∀ r ∈ p, r ∈ l := by
  unfold splitR
  split
  · intro p hp; rw [List.mem_singleton.1 hp]; exact fun r hr => hr
  · intro p hp r hr
    rcases List.mem_cons.1 hp with rfl | hp
    · exact List.mem_of_mem_take hr
    · rw [List.mem_singleton.1 hp] at hr; exact List.mem_of_mem_drop hr
end Wb

namespace Wb
open Go

/-! ### where a key stands -/
def lowers {d : Nat} (l : Rows d) (k : Nm) : Nat := (l.takeWhile fun r => decide (keyR r < k)).length
def foundR {d : Nat} (l : Rows d) (k : Nm) : Bool := l.any fun r => decide (keyR r = k)
def idx {d : Nat} (l : Rows d) (k : Nm) : Nat := (l.takeWhile fun r => !decide (k < keyR r)).length - 1
theorem tw_split {α : Type} (p : α → Bool) (l : List α) : ∃ D, l = l.takeWhile p ++ D ∧ (∀ x ∈ l.takeWhile p, p x = true) ∧ ∀ x t, D = x :: t → p x = false := by
  refine ⟨l.dropWhile p, (List.takeWhile_append_dropWhile).symm, fun x hx => List.all_eq_true.1 List.all_takeWhile x hx, fun x t h => ?_⟩
  have := List.head?_dropWhile_not p l
  rw [h] at this
  simpa using this
/-- A row that rises is parted by a key: those below, the others. -/
theorem lowers_split {d : Nat} {l : Rows d} (h : l.Pairwise (fun a b => keyR a < keyR b)) (k : Nm) : ∃ T D, l = T ++ D ∧ T.length = lowers l k ∧ (∀ r ∈ T, keyR r < k) ∧ ∀ r ∈ D, ¬ keyR r < k := by
  obtain ⟨D, h1, h2, h3⟩ := tw_split (fun r : Row d => decide (keyR r < k)) l
  refine ⟨_, D, h1, rfl, fun r hr => by simpa using h2 r hr, fun r hr => ?_⟩
  cases D with
  | nil => cases hr
  | cons x t =>
    have hx : ¬ keyR x < k := by simpa using h3 x t rfl
    rcases List.mem_cons.1 hr with rfl | hr
    · exact hx
    · rw [h1, List.pairwise_append] at h
      have := (List.pairwise_cons.1 h.2.1).1 r hr
      exact fun hlt => hx (nm_trans this hlt)
/-- The row whose node a key belongs to. -/
theorem idx_split {d : Nat} {l : Rows d} (h : l.Pairwise (fun a b => keyR a < keyR b)) (hne : l ≠ []) (k : Nm) : ∃ A r B, l = A ++ r :: B ∧ A.length = idx l k ∧ (∀ b ∈ B, k < keyR b) ∧ ((A = [] ∧ k < keyR r) ∨ ¬ k < keyR r) := by
  obtain ⟨D, h1, h2, h3⟩ := tw_split (fun r : Row d => !decide (k < keyR r)) l
  have hD : ∀ r ∈ D, k < keyR r := by
    intro r hr
    cases D with
    | nil => cases hr
    | cons x t =>
      have hx : k < keyR x := by simpa using h3 x t rfl
      rcases List.mem_cons.1 hr with rfl | hr
      · exact hx
      · rw [h1, List.pairwise_append] at h
        exact nm_trans hx ((List.pairwise_cons.1 h.2.1).1 r hr)
  rcases List.eq_nil_or_concat (l.takeWhile fun r => !decide (k < keyR r)) with hT | ⟨A, r, hT⟩
  · cases hDc : D with
    | nil => rw [hT, hDc] at h1; exact absurd h1 hne
    | cons r B =>
      refine ⟨[], r, B, by rw [hT, hDc] at h1; exact h1, by unfold idx; rw [hT]; rfl, fun b hb => hD b (by rw [hDc]; simp [hb]), .inl ⟨rfl, hD r (by rw [hDc]; simp)⟩⟩
  · rw [List.concat_eq_append] at hT
    refine ⟨A, r, D, by rw [hT] at h1; rw [h1, List.append_assoc]; rfl, by unfold idx; rw [hT]; simp, hD, .inr ?_⟩
    have := h2 r (by rw [hT]; simp)
    simpa using this
theorem found_iff {d : Nat} {l : Rows d} {k : Nm} : foundR l k = true ↔ ∃ r ∈ l, keyR r = k := by
  unfold foundR
  simp [List.any_eq_true]
theorem flat_has (l : Rows 0) (k : Nm) : hasM (flat 0 l) k = foundR l k := by
  unfold hasM foundR flat
  rw [List.any_map]
  rfl

/-! ### a leaf -/
def putL (l : Rows 0) (k v : Nm) : Rows 0 := if foundR l k = true then l.set (lowers l k) (mkV k v) else l.take (lowers l k) ++ mkV k v :: l.drop (lowers l k)
theorem putL_split {l : Rows 0} (h : Ord 0 l) (k v : Nm) : ∃ T D, l = T ++ D ∧ T.length = lowers l k ∧ (∀ r ∈ T, keyR r < k) ∧
    ((foundR l k = true ∧ ∃ r D', D = r :: D' ∧ keyR r = k ∧ putL l k v = T ++ mkV k v :: D' ∧ ∀ q ∈ D', k < keyR q) ∨ (foundR l k = false ∧ (∀ r ∈ D, k < keyR r) ∧ putL l k v = T ++ mkV k v :: D)) := by
  obtain ⟨T, D, h1, h2, h3, h4⟩ := lowers_split (d := 0) h k
  refine ⟨T, D, h1, h2, h3, ?_⟩
  by_cases hf : foundR l k = true
  · left
    obtain ⟨r, hr, hk⟩ := found_iff.1 hf
    rw [h1] at hr
    have hrD : r ∈ D := by
      rcases List.mem_append.1 hr with hr | hr
      · have := h3 r hr; rw [hk] at this; exact absurd this (nm_irrefl k)
      · exact hr
    cases D with
    | nil => cases hrD
    | cons x D' =>
      have hp : Ord 0 (T ++ x :: D') := h1 ▸ h
      have hp2 := (List.pairwise_append.1 hp).2.1
      have hx : keyR x = k := by
        rcases List.mem_cons.1 hrD with rfl | hr
        · exact hk
        · have h5 := (List.pairwise_cons.1 hp2).1 r hr
          rw [hk] at h5
          exact absurd h5 (h4 x (by simp))
      refine ⟨hf, x, D', rfl, hx, ?_, fun q hq => by rw [← hx]; exact (List.pairwise_cons.1 hp2).1 q hq⟩
      unfold putL
      rw [if_pos hf, ← h2, h1]
      rw [List.set_append_right _ _ (Nat.le_refl _), Nat.sub_self]
      rfl
  · right
    refine ⟨by simpa using hf, fun r hr => nm_total (fun e => hf (found_iff.2 ⟨r, by rw [h1]; simp [hr], e⟩)) (h4 r hr), ?_⟩
    unfold putL
    rw [if_neg hf, ← h2, h1, List.take_left, List.drop_left]
theorem putL_ok {l : Rows 0} (h : Ord 0 l) (k v : Nm) : Ord 0 (putL l k v) ∧ flat 0 (putL l k v) = putM (flat 0 l) k v ∧ putL l k v ≠ [] := by
  obtain ⟨T, D, h1, _, h3, hc⟩ := putL_split h k v
  have hT : ∀ x ∈ flat 0 T, x.1 < k := by
    intro x hx
    obtain ⟨r, hr, rfl⟩ := List.mem_map.1 hx
    exact h3 r hr
  have hp : Ord 0 (T ++ D) := h1 ▸ h
  have hpa := List.pairwise_append.1 hp
  rcases hc with ⟨_, r, D', rfl, hk, he, hD'⟩ | ⟨_, hD, he⟩
  · rw [he]
    refine ⟨?_, ?_, by simp⟩
    · show (T ++ mkV k v :: D').Pairwise _
      rw [List.pairwise_append, List.pairwise_cons]
      have h5 := List.pairwise_cons.1 hpa.2.1
      refine ⟨hpa.1, ⟨fun q hq => hD' q hq, h5.2⟩, fun a ha b hb => ?_⟩
      rcases List.mem_cons.1 hb with rfl | hb
      · exact h3 a ha
      · exact hpa.2.2 a ha b (by simp [hb])
    · rw [h1, flat_app, flat_app, putM_left hT]
      congr 1
      show (k, v) :: flat 0 D' = putM ((keyR r, valR r) :: flat 0 D') k v
      rw [putM, if_neg (by show ¬ keyR r < k; rw [hk]; exact nm_irrefl k), if_pos hk]
  · rw [he]
    refine ⟨?_, ?_, by simp⟩
    · show (T ++ mkV k v :: D).Pairwise _
      rw [List.pairwise_append, List.pairwise_cons]
      refine ⟨hpa.1, ⟨fun q hq => hD q hq, hpa.2.1⟩, fun a ha b hb => ?_⟩
      rcases List.mem_cons.1 hb with rfl | hb
      · exact h3 a ha
      · exact nm_trans (h3 a ha) (hD b hb)
    · rw [h1, flat_app, flat_app, putM_left hT]
      congr 1
      show (k, v) :: flat 0 D = putM (flat 0 D) k v
      have := putM_right (M := []) (B := flat 0 D) (k := k) (v := v) (fun x hx => by
        obtain ⟨r, hr, rfl⟩ := List.mem_map.1 hx
        exact hD r hr)
      rw [List.nil_append] at this
      rw [this]
      rfl

/-! ### a node in which others stand for some -/
def withR {d : Nat} (l : Rows (d + 1)) (a b : Nat) (g : List (Nd d)) (key : Nm) : Rows (d + 1) := l.take a ++ keyed key g ++ l.drop b
def minK (a b : Nm) : Nm := if b < a then b else a
theorem minK_cases (a b : Nm) : (minK a b = b ∧ b < a) ∨ (minK a b = a ∧ ¬ b < a) := by
  unfold minK
  split
  · exact .inl ⟨rfl, by assumption⟩
  · exact .inr ⟨rfl, by assumption⟩
theorem with_mid {d : Nat} {A B M : Rows (d + 1)} (g : List (Nd d)) (key : Nm) : withR (A ++ M ++ B) A.length (A.length + M.length) g key = A ++ keyed key g ++ B := by
  unfold withR
  rw [List.append_assoc A M B, List.take_left, ← List.append_assoc]
  congr 1
  rw [show A.length + M.length = (A ++ M).length by simp, List.drop_left]
/-- .. stand in their order, if they are between those beside them. -/
theorem with_ord {d : Nat} {A B : Rows (d + 1)} {g : List (Nd d)} {key : Nm} (hA : Ord (d + 1) A) (hB : Ord (d + 1) B) (hAB : ∀ x ∈ flat (d + 1) A, ∀ r ∈ B, x.1 < keyR r) (hg : OrdL d (g.map (·.2))) (hk : ∀ x ∈ flatL d (g.map (·.2)), ¬ x.1 < key)
    (hAk : g ≠ [] → ∀ x ∈ flat (d + 1) A, x.1 < key) (hgB : ∀ x ∈ flatL d (g.map (·.2)), ∀ r ∈ B, x.1 < keyR r) : Ord (d + 1) (A ++ keyed key g ++ B) := by
  have hK := keyed_ord hg hk
  refine ord_app (ord_app hA hK ?_) hB ?_
  · cases hgc : g with
    | nil => intro x hx r hr; cases hr
    | cons n t =>
      refine below_rows (d := d + 1) (by rw [← hgc]; exact hK) ?_
      exact fun x hx => hAk (by rw [hgc]; simp) x hx
  · intro x hx r hr
    rw [flat_app] at hx
    rcases List.mem_append.1 hx with hx | hx
    · exact hAB x hx r hr
    · rw [keyed_flat] at hx; exact hgB x hx r hr

/-! ### a key is put -/
def fresh0 {d : Nat} (l : List (Rows d)) : List (Nd d) := l.map fun p => (0, p)
theorem fresh0_rows {d : Nat} (l : List (Rows d)) : (fresh0 l).map (·.2) = l := by
  unfold fresh0
  rw [List.map_map]
  show l.map (fun p => p) = l
  simp
def grown : (d : Nat) → Rows d → Nm → Nm → List (Nd d)
  | 0, l, k, v => fresh0 (splitR (putL l k v))
  | d + 1, l, k, v => match l[idx l k]? with
    | none => []
    | some r => fresh0 (splitR (withR l (idx l k) (idx l k + 1) (grown d (kidR r).2 k v) (minK (keyR r) k)))
theorem grown_in {d : Nat} {A B : Rows (d + 1)} {r : Row (d + 1)} {k v : Nm} (hi : A.length = idx (A ++ r :: B) k) : grown (d + 1) (A ++ r :: B) k v = fresh0 (splitR (A ++ keyed (minK (keyR r) k) (grown d (kidR r).2 k v) ++ B)) := by
  have hg : (A ++ r :: B)[idx (A ++ r :: B) k]? = some r := by rw [← hi, List.getElem?_append_right (Nat.le_refl _), Nat.sub_self]; rfl
  have hw := with_mid (A := A) (M := [r]) (B := B) (grown d (kidR r).2 k v) (minK (keyR r) k)
  rw [List.append_assoc, List.singleton_append] at hw
  rw [grown, hg]
  show fresh0 (splitR (withR _ _ _ _ _)) = _
  rw [← hi, show A.length + 1 = A.length + [r].length from rfl, hw]
theorem grown_ok (k v : Nm) : ∀ (d : Nat) (l : Rows d), Ord d l → (l ≠ [] ∨ d = 0) → OrdL d ((grown d l k v).map (·.2)) ∧ flatL d ((grown d l k v).map (·.2)) = putM (flat d l) k v
  | 0, l, h, _ => by
    obtain ⟨h1, h2, h3⟩ := putL_ok h k v
    show OrdL 0 ((fresh0 (splitR (putL l k v))).map (·.2)) ∧ flatL 0 ((fresh0 (splitR (putL l k v))).map (·.2)) = _
    rw [fresh0_rows]
    exact ⟨split_ord h1 h3, by rw [split_flat, h2]⟩
  | d + 1, l, h, hne => by
    have hne' : l ≠ [] := hne.elim id (fun e => by cases e)
    obtain ⟨A, r, B, rfl, hi, hB, hr⟩ := idx_split h.keys hne' k
    have hs := h.split
    have hrB := (show Ord (d + 1) ([r] ++ B) from hs.2.1).split
    obtain ⟨hkn, hko, hka⟩ := h.1 r (by simp)
    obtain ⟨g1, g2⟩ := grown_ok k v d (kidR r).2 hko (.inl hkn)
    have hmem : ∀ x ∈ flatL d ((grown d (kidR r).2 k v).map (·.2)), x = (k, v) ∨ x ∈ flat d (kidR r).2 := by
      intro x hx
      rw [g2] at hx
      exact putM_mem hx
    have hAr : ∀ x ∈ flat (d + 1) A, x.1 < keyR r := fun x hx => hs.2.2 x hx r (by simp)
    have hAk : ∀ x ∈ flat (d + 1) A, x.1 < k := by
      intro x hx
      rcases hr with ⟨rfl, _⟩ | hr
      · cases hx
      · exact nm_lt_le (hAr x hx) hr
    have hw : Ord (d + 1) (A ++ keyed (minK (keyR r) k) (grown d (kidR r).2 k v) ++ B) := by
      refine with_ord hs.1 hrB.2.1 (fun x hx q hq => hs.2.2 x hx q (by simp [hq])) g1 (fun x hx => ?_) (fun _ x hx => ?_) (fun x hx q hq => ?_)
      · rcases minK_cases (keyR r) k with ⟨e, hlt⟩ | ⟨e, hnl⟩
        · rw [e]
          rcases hmem x hx with rfl | hx
          · exact nm_irrefl k
          · exact fun hh => hka x hx (nm_trans hh hlt)
        · rw [e]
          rcases hmem x hx with rfl | hx
          · exact hnl
          · exact hka x hx
      · rcases minK_cases (keyR r) k with ⟨e, hlt⟩ | ⟨e, hnl⟩
        · rw [e]; exact hAk x hx
        · rw [e]; exact hAr x hx
      · rcases hmem x hx with rfl | hx
        · exact hB q hq
        · exact hrB.2.2 x (by rw [flat_one]; exact hx) q hq
    have hflat : flat (d + 1) (A ++ keyed (minK (keyR r) k) (grown d (kidR r).2 k v) ++ B) = putM (flat (d + 1) (A ++ r :: B)) k v := by
      rw [flat_app, flat_app, keyed_flat, g2, flat_app, flat_cons, putM_left hAk, putM_right (fun x hx => ?_), List.append_assoc]
      obtain ⟨q, hq, hx⟩ := List.mem_flatMap.1 hx
      exact nm_lt_le (hB q hq) ((hrB.2.1.1 q hq).2.2 x hx)
    rw [grown_in hi, fresh0_rows]
    refine ⟨split_ord hw (fun e => ?_), by rw [split_flat, hflat]⟩
    have := congrArg (flat (d + 1)) e
    rw [hflat, flat_nil] at this
    exact putM_ne _ _ _ this
end Wb

namespace Wb
open Go

def keyOk (k : Nm) : Prop := k ≠ [] ∧ k.length ≤ 130
/-- Rows that a node may have; each node below has two rows at least and is not too long. -/
def FitR : (d : Nat) → Rows d → Prop
  | 0, l => ∀ r ∈ l, keyOk (keyR r) ∧ (valR r).length ≤ 20
  | d + 1, l => ∀ r ∈ l, keyOk (keyR r) ∧ 2 ≤ (kidR r).2.length ∧ sizeR (kidR r).2 ≤ 512 ∧ FitR d (kidR r).2
def Fit (d : Nat) (l : Rows d) : Prop := sizeR l ≤ 512 ∧ FitR d l
theorem FitR.sub {d : Nat} {l m : Rows d} (h : FitR d l) (hs : ∀ r ∈ m, r ∈ l) : FitR d m := by
  cases d with
  | zero => exact fun r hr => h r (hs r hr)
  | succ d => exact fun r hr => h r (hs r hr)
theorem FitR.app {d : Nat} {l m : Rows d} (h : FitR d l) (k : FitR d m) : FitR d (l ++ m) := by
  cases d with
  | zero => exact fun r hr => (List.mem_append.1 hr).elim (h r) (k r)
  | succ d => exact fun r hr => (List.mem_append.1 hr).elim (h r) (k r)
theorem FitR.key {d : Nat} {l : Rows d} (h : FitR d l) {r : Row d} (hr : r ∈ l) : keyOk (keyR r) := by
  cases d with
  | zero => exact (h r hr).1
  | succ d => exact (h r hr).1
theorem FitR.wt {d : Nat} {l : Rows d} (h : FitR d l) : ∀ r ∈ l, wt r ≤ 152 := by
  intro r hr
  cases d with
  | zero =>
    obtain ⟨h1, h2⟩ := h r hr
    have := h1.2
    show 2 + (keyR r).length + (valR r).length ≤ 152
    omega
  | succ d =>
    have := (h r hr).1.2
    show 5 + (keyR r).length ≤ 152
    omega
theorem FitR.lowest {d : Nat} {l : Rows d} (h : FitR d l) (hne : l ≠ []) : keyOk (lowest l) := by
  cases l with
  | nil => exact absurd rfl hne
  | cons r t => exact h.key (by simp)
theorem flat_fit {d : Nat} : ∀ {l : Rows d}, FitR d l → ∀ x ∈ flat d l, keyOk x.1 ∧ x.2.length ≤ 20 := by
  induction d with
  | zero =>
    intro l h x hx
    obtain ⟨r, hr, rfl⟩ := List.mem_map.1 hx
    exact h r hr
  | succ d ih =>
    intro l h x hx
    obtain ⟨r, hr, hx⟩ := List.mem_flatMap.1 hx
    exact ih (h r hr).2.2.2 x hx
/-- Nodes of two rows at least stand for some rows. -/
theorem keyed_fit {d : Nat} {key : Nm} {g : List (Nd d)} (hk : g ≠ [] → keyOk key) (hg : ∀ n ∈ g, Fit d n.2 ∧ 2 ≤ n.2.length) : FitR (d + 1) (keyed key g) := by
  intro r hr
  cases g with
  | nil => cases hr
  | cons n t =>
    rcases List.mem_cons.1 hr with rfl | hr
    · obtain ⟨h1, h2⟩ := hg n (by simp)
      exact ⟨hk (by simp), h2, h1.1, h1.2⟩
    · obtain ⟨m, hm, rfl⟩ := List.mem_map.1 hr
      obtain ⟨h1, h2⟩ := hg m (by simp [hm])
      exact ⟨h1.2.lowest (fun e => by rw [e] at h2; simp at h2), h2, h1.1, h1.2⟩
theorem sizeR_mid {d : Nat} {A K B M : Rows d} (hK : ∀ r ∈ K, wt r ≤ 152) : sizeR (A ++ K ++ B) ≤ sizeR (A ++ M ++ B) + 152 * K.length := by
  have := sum_le hK
  unfold sizeR
  simp only [List.map_append, List.sum_append]
  omega
theorem fresh0_len {d : Nat} (l : List (Rows d)) : (fresh0 l).length = l.length := by simp [fresh0]
theorem fresh0_mem {d : Nat} {l : List (Rows d)} {n : Nd d} (h : n ∈ fresh0 l) : n.1 = 0 ∧ n.2 ∈ l := by
  obtain ⟨p, hp, rfl⟩ := List.mem_map.1 h
  exact ⟨rfl, hp⟩
/-- What a node that was parted is like. -/
structure Parts (d : Nat) (g : List (Nd d)) (n : Nat) : Prop where
  fit : ∀ x ∈ g, Fit d x.2 ∧ x.1 = 0
  len : 1 ≤ g.length ∧ g.length ≤ 2
  two : 2 ≤ n → ∀ x ∈ g, 2 ≤ x.2.length
  more : 2 ≤ g.length → ∀ x ∈ g, 2 ≤ x.2.length
theorem parts_of {d : Nat} {l : Rows d} (h : FitR d l) (hs : sizeR l ≤ 820) {n : Nat} (hn : 2 ≤ n → 2 ≤ l.length) : Parts d (fresh0 (splitR l)) n := by
  have hz := split_size h.wt hs
  refine ⟨fun x hx => ?_, ?_, fun h2 x hx => split_two (hn h2) _ (fresh0_mem hx).2, fun h2 x hx => ?_⟩
  · obtain ⟨h1, h2⟩ := fresh0_mem hx
    exact ⟨⟨hz _ h2, h.sub (split_rows _ h2)⟩, h1⟩
  · rw [fresh0_len]; exact split_len l
  · rw [fresh0_len] at h2
    exact split_two (by have := split_more h2; omega) _ (fresh0_mem hx).2
theorem putL_fit {l : Rows 0} (h : Fit 0 l) (ho : Ord 0 l) {k v : Nm} (hk : keyOk k) (hv : v.length ≤ 20) : FitR 0 (putL l k v) ∧ sizeR (putL l k v) ≤ 820 ∧ l.length ≤ (putL l k v).length := by
  obtain ⟨hs, hf⟩ := h
  have hone : FitR 0 [mkV k v] := by
    intro r hr
    rw [List.mem_singleton.1 hr]
    exact ⟨hk, hv⟩
  have hw : ∀ r ∈ ([mkV k v] : Rows 0), wt r ≤ 152 := hone.wt
  obtain ⟨T, D, h1, _, h3, hc⟩ := putL_split ho k v
  rcases hc with ⟨_, r, D', rfl, _, he, _⟩ | ⟨_, _, he⟩
  · rw [he, h1]
    rw [h1] at hf hs
    refine ⟨?_, ?_, by simp⟩
    · refine (hf.sub (m := T) (fun r hr => by simp [hr])).app ((hone.app (hf.sub (m := D') (fun r hr => by simp [hr]))))
    · have := sizeR_mid (A := T) (K := [mkV k v]) (B := D') (M := [r]) hw
      simp only [List.append_assoc, List.singleton_append, List.length_singleton] at this
      omega
  · rw [he, h1]
    rw [h1] at hf hs
    refine ⟨?_, ?_, by simp⟩
    · refine (hf.sub (m := T) (fun r hr => by simp [hr])).app ((hone.app (hf.sub (m := D) (fun r hr => by simp [hr]))))
    · have := sizeR_mid (A := T) (K := [mkV k v]) (B := D) (M := []) hw
      simp only [List.append_assoc, List.singleton_append, List.nil_append, List.length_singleton] at this
      omega
theorem minK_ok {a b : Nm} (ha : keyOk a) (hb : keyOk b) : keyOk (minK a b) := by unfold minK; split <;> assumption
theorem grown_fit {k v : Nm} (hk : keyOk k) (hv : v.length ≤ 20) : ∀ (d : Nat) (l : Rows d), Ord d l → Fit d l → (l ≠ [] ∨ d = 0) → Parts d (grown d l k v) l.length
  | 0, l, ho, hf, _ => by
    obtain ⟨h1, h2, h3⟩ := putL_fit hf ho hk hv
    exact parts_of h1 h2 (fun h => by omega)
  | d + 1, l, ho, hf, hne => by
    have hne' : l ≠ [] := hne.elim id (fun e => by cases e)
    obtain ⟨A, r, B, rfl, hi, hB, hr⟩ := idx_split ho.keys hne' k
    obtain ⟨hkn, hko, hka⟩ := ho.1 r (by simp)
    obtain ⟨hs, hfr⟩ := hf
    obtain ⟨q1, q2, q3, q4⟩ := hfr r (by simp)
    have ih := grown_fit hk hv d (kidR r).2 hko ⟨q3, q4⟩ (.inl hkn)
    have hK : FitR (d + 1) (keyed (minK (keyR r) k) (grown d (kidR r).2 k v)) := keyed_fit (fun _ => minK_ok q1 hk) (fun n hn => ⟨(ih.fit n hn).1, ih.two q2 n hn⟩)
    rw [grown_in hi]
    refine parts_of (((hfr.sub (m := A) (fun r hr => by simp [hr])).app hK).app (hfr.sub (m := B) (fun r hr => by simp [hr]))) ?_ (fun h => ?_)
    · have h1 := sizeR_mid (A := A) (B := B) (M := [r]) hK.wt
      rw [keyed_len] at h1
      simp only [List.append_assoc, List.singleton_append] at h1 ⊢
      have := ih.len.2
      have h2 : 152 * (grown d (kidR r).2 k v).length ≤ 152 * 2 := Nat.mul_le_mul_left _ this
      omega
    · have := ih.len.1
      simp only [List.length_append, List.length_cons, keyed_len] at h ⊢
      omega
end Wb

namespace Wb
open Go

theorem with_mid1 {d : Nat} {A B : Rows (d + 1)} {r : Row (d + 1)} (g : List (Nd d)) (key : Nm) : withR (A ++ r :: B) A.length (A.length + 1) g key = A ++ keyed key g ++ B := by
  have hw := with_mid (A := A) (M := [r]) (B := B) g key
  rw [List.append_assoc, List.singleton_append] at hw
  exact hw
/-! ### a root -/
/-- A tree's root: how high it is, its node. -/
abbrev Root := Option (Σ d : Nat, Nd d)
def strip : (d : Nat) → Nd d → Σ d : Nat, Nd d
  | 0, n => ⟨0, n⟩
  | d + 1, n => match n.2 with
    | [r] => strip d (kidR r)
    | _ => ⟨d + 1, n⟩
def topR {d : Nat} (g : List (Nd d)) : Root := match g with
  | [] => none
  | [n] => some (strip d n)
  | n :: m :: r => some ⟨d + 1, (0, (n :: m :: r).map fun x => mkR (lowest x.2) x)⟩
def flatT : Root → KVs
  | none => []
  | some ⟨d, n⟩ => flat d n.2
def RootOk : Root → Prop
  | none => True
  | some ⟨d, n⟩ => Ord d n.2 ∧ Fit d n.2 ∧ (d = 0 ∧ n.2 ≠ [] ∨ 2 ≤ n.2.length)
theorem strip_ok : ∀ (d : Nat) (n : Nd d), Ord d n.2 → Fit d n.2 → n.2 ≠ [] → RootOk (some (strip d n)) ∧ flatT (some (strip d n)) = flat d n.2
  | 0, n, ho, hf, hne => ⟨⟨ho, hf, .inl ⟨rfl, hne⟩⟩, rfl⟩
  | d + 1, n, ho, hf, hne => by
    obtain ⟨i, l⟩ := n
    match l, ho, hf, hne with
    | [], _, _, h => exact absurd rfl h
    | [r], ho, hf, _ =>
      obtain ⟨h1, h2, h3⟩ := ho.1 r (by simp)
      obtain ⟨q1, q2, q3, q4⟩ := hf.2 r (by simp)
      have := strip_ok d (kidR r) h2 ⟨q3, q4⟩ h1
      refine ⟨this.1, ?_⟩
      show flatT (some (strip d (kidR r))) = flat (d + 1) [r]
      rw [this.2, flat_one]
    | r :: q :: t, ho, hf, _ => exact ⟨⟨ho, hf, .inr (by simp)⟩, rfl⟩
theorem top_ok {d : Nat} {g : List (Nd d)} (ho : OrdL d (g.map (·.2))) (hf : ∀ x ∈ g, Fit d x.2) (hl : g.length ≤ 2) (h2 : 2 ≤ g.length → ∀ x ∈ g, 2 ≤ x.2.length) : RootOk (topR g) ∧ flatT (topR g) = flatL d (g.map (·.2)) := by
  match g, ho, hf, hl, h2 with
  | [], _, _, _, _ => exact ⟨trivial, rfl⟩
  | [n], ho, hf, _, _ =>
    obtain ⟨h1, h3⟩ := ho.each n.2 (by simp)
    have := strip_ok d n h3 (hf n (by simp)) h1
    refine ⟨this.1, ?_⟩
    show flatT (some (strip d n)) = _
    rw [this.2]
    simp [flatL]
  | n :: m :: r, ho, hf, hl, h2 =>
    have hr : r = [] := by
      simp only [List.length_cons] at hl
      exact List.length_eq_zero_iff.1 (by omega)
    subst hr
    have hk : (([n, m] : List (Nd d)).map fun x => mkR (lowest x.2) x) = keyed (lowest n.2) [n, m] := rfl
    have hn := ho.each n.2 (by simp)
    have hm := ho.each m.2 (by simp)
    have hab : ∀ x ∈ flatL d (([n, m] : List (Nd d)).map (·.2)), ¬ x.1 < lowest n.2 := by
      intro x hx
      have hx' : x ∈ flat d n.2 ∨ x ∈ flat d m.2 := by simpa [flatL] using hx
      rcases hx' with hx' | hx'
      · exact lowest_above hn.2 x hx'
      · have h3 : BelowK d n.2 (lowest m.2) := (List.pairwise_cons.1 ho.rise).1 m.2 (by simp)
        have hne := hn.2.flat_ne hn.1
        obtain ⟨y, hy⟩ := List.exists_mem_of_ne_nil _ hne
        have h4 := h3 y hy
        have h5 := lowest_above hn.2 y hy
        have h6 := lowest_above hm.2 x hx'
        exact fun hlt => h6 (nm_trans hlt (nm_le_lt h5 h4))
    have ho2 := keyed_ord ho hab
    have hf2 : FitR (d + 1) (keyed (lowest n.2) [n, m]) := keyed_fit (fun _ => (hf n (by simp)).2.lowest hn.1) (fun x hx => ⟨hf x hx, h2 (by simp) x hx⟩)
    refine ⟨⟨ho2, ⟨?_, hf2⟩, .inr (by simp)⟩, ?_⟩
    · show sizeR (keyed (lowest n.2) [n, m]) ≤ 512
      have h3 := sum_le hf2.wt
      rw [keyed_len] at h3
      unfold sizeR
      simp only [List.length_cons, List.length_nil] at h3
      omega
    · show flat (d + 1) (keyed (lowest n.2) [n, m]) = _
      exact keyed_flat _ _
def putT (t : Root) (k v : Nm) : Root := match t with
  | none => topR (grown 0 [] k v)
  | some ⟨d, n⟩ => topR (grown d n.2 k v)
theorem putT_ok {t : Root} (h : RootOk t) {k v : Nm} (hk : keyOk k) (hv : v.length ≤ 20) : RootOk (putT t k v) ∧ flatT (putT t k v) = putM (flatT t) k v := by
  have gen : ∀ (d : Nat) (l : Rows d), Ord d l → Fit d l → (l ≠ [] ∨ d = 0) → RootOk (topR (grown d l k v)) ∧ flatT (topR (grown d l k v)) = putM (flat d l) k v := by
    intro d l ho hf hne
    obtain ⟨h1, h2⟩ := grown_ok k v d l ho hne
    have h3 := grown_fit hk hv d l ho hf hne
    have h4 := top_ok h1 (fun x hx => (h3.fit x hx).1) h3.len.2 h3.more
    exact ⟨h4.1, by rw [h4.2, h2]⟩
  match t, h with
  | none, _ => exact gen 0 [] List.Pairwise.nil ⟨by show (3 : Nat) ≤ 512; omega, fun r hr => by cases hr⟩ (.inr rfl)
  | some ⟨d, n⟩, h =>
    obtain ⟨ho, hf, hne⟩ := h
    refine gen d n.2 ho hf ?_
    rcases hne with h1 | h1
    · exact .inl h1.2
    · exact .inl (fun e => by rw [e] at h1; simp at h1)
theorem flatT_sorted {t : Root} (h : RootOk t) : (flatT t).Pairwise (fun a b => a.1 < b.1) := by
  match t, h with
  | none, _ => exact List.Pairwise.nil
  | some ⟨d, n⟩, h => exact h.1.sorted
end Wb

namespace Wb
open Go

/-! ### octets that are read, all there or not -/
/-! ### a node as it is written -/
structure Rw where
  key : Nm
  val : Nm
  page : Int
structure Ndv where
  leaf : Bool
  rows : List Rw
def rowSz (leaf : Bool) (r : Rw) : Nat := if leaf = true then 2 + r.key.length + r.val.length else 5 + r.key.length
def sizeN (n : Ndv) : Nat := 3 + (n.rows.map (rowSz n.leaf)).sum
def goodN (leaf : Bool) (r : Rw) : Bool := decide (r.key ≠ [] ∧ r.key.length ≤ 130) && (if leaf = true then decide (r.val.length ≤ 20 ∧ r.page = 0) else decide (r.val = [] ∧ 2 ≤ r.page ∧ r.page ≤ 4294967295))
/-- Each row may be, and its key is above the one ahead, up to the q-th. -/
def okTo (n : Ndv) (q : Nat) : Prop := ∀ (j : Nat) r, j < q → n.rows[j]? = some r → goodN n.leaf r = true ∧ ∀ p, 0 < j → n.rows[j - 1]? = some p → p.key < r.key
def OkN (n : Ndv) : Prop := okTo n n.rows.length ∧ (n.leaf = true ∨ n.rows ≠ []) ∧ sizeN n ≤ 512
open Classical in
noncomputable def okN (n : Ndv) : Bool := decide (OkN n)
def rowB (leaf : Bool) (r : Rw) : List UInt8 := be 1 r.key.length ++ r.key ++ if leaf = true then be 1 r.val.length ++ r.val else be 4 r.page.toNat
def kindN (leaf : Bool) : Nat := if leaf = true then 1 else 2
def bytesN (n : Ndv) : List UInt8 := be 1 (kindN n.leaf) ++ be 2 n.rows.length ++ n.rows.flatMap (rowB n.leaf)
theorem rowB_len (leaf : Bool) (r : Rw) : (rowB leaf r).length = rowSz leaf r := by
  unfold rowB rowSz
  cases leaf <;> simp [be_len] <;> omega
theorem bytesN_len (n : Ndv) : (bytesN n).length = sizeN n := by
  unfold bytesN sizeN
  simp only [List.length_append, be_len, List.length_flatMap]
  congr 1
  congr 1
  exact List.map_congr_left fun r _ => rowB_len _ _
theorem goodN_key {leaf : Bool} {r : Rw} (h : goodN leaf r = true) : r.key ≠ [] ∧ r.key.length ≤ 130 := by
  unfold goodN at h
  rw [Bool.and_eq_true, decide_eq_true_eq] at h
  exact h.1
theorem goodN_leaf {r : Rw} (h : goodN true r = true) : r.val.length ≤ 20 ∧ r.page = 0 := by
  unfold goodN at h
  rw [Bool.and_eq_true, if_pos rfl] at h
  exact of_decide_eq_true h.2
theorem goodN_inner {r : Rw} (h : goodN false r = true) : r.val = [] ∧ 2 ≤ r.page ∧ r.page ≤ 4294967295 := by
  unfold goodN at h
  rw [Bool.and_eq_true, if_neg (by simp)] at h
  exact of_decide_eq_true h.2
theorem OkN.rows {n : Ndv} (h : OkN n) : ∀ x ∈ n.rows, goodN n.leaf x = true := by
  intro x hx
  obtain ⟨j, hj⟩ := List.mem_iff_getElem?.1 hx
  exact (h.1 j x (List.getElem?_eq_some_iff.1 hj).1 hj).1
theorem OkN.len {n : Ndv} (h : OkN n) : n.rows.length ≤ 512 := by
  have h2 := h.2.2
  have : n.rows.length ≤ (n.rows.map (rowSz n.leaf)).sum := by
    generalize n.rows = l
    induction l with
    | nil => simp
    | cons x t ih =>
      rw [List.map_cons, List.sum_cons, List.length_cons]
      have : 1 ≤ rowSz n.leaf x := by unfold rowSz; split <;> omega
      omega
  unfold sizeN at h2
  omega
end Wb
