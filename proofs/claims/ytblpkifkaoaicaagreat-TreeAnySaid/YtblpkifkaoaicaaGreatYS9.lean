import Derived.Test.YtblpkifkaoaicaaGreatQT
import Derived.Sort.KeysCollected
/-! Package sect: the names of a device's files, out of its map. -/
namespace Go.Proofs.YtblpkifkaoaicaaGreat
open Go Go.RowKit Go.Maps Wb Go.WideShapes

abbrev noR : Value → Option (DataW Unit × List MemPlace) := fun _ => some (.nil, [])

theorem nm_le {a b : Nm} (h : a < b) : a ≤ b := Classical.byContradiction fun h2 => nm_irrefl a (nm_trans h (List.not_le.1 h2))

theorem names_nodup {fs : Files} (h : sorted fs) : (fs.map (·.1)).Nodup := by
  unfold List.Nodup
  rw [List.pairwise_map]
  refine List.Pairwise.imp ?_ h
  intro a b hab (e : a.1 = b.1)
  exact nm_irrefl a.1 (by have h2 : a.1 < b.1 := hab
                          rw [← e] at h2; exact h2)

theorem names_mem {fs : Files} (h : sorted fs) (n : Nm) : n ∈ fs.map (·.1) ↔ ∃ l, fget fs n = some l := by
  constructor
  · intro h1
    obtain ⟨⟨m, l⟩, h2, rfl⟩ := List.mem_map.1 h1
    exact ⟨l, fget_of_mem h h2⟩
  · rintro ⟨l, hl⟩
    exact List.mem_map.2 ⟨_, fget_mem hl, rfl⟩

/-- What the shelf asks of the map of lengths. -/
theorem owns_names {w : World} {b : Nat} {fs : Files} (hs : sorted fs) (hm : isMap Tryz.prog 9 w b (longF fs)) (hnm : ∀ a ∈ fs, a.1.length ≤ 20) (hl : fs.length ≤ 1000000) :
    ∃ nn, ∃ D0 : DataW Unit, w.ownsMap Tryz.prog 9 noR b nn D0 ∧ Maps.size D0 ≤ 1000000 ∧ (Go.strKeys D0).Perm (fs.map (·.1)) := by
  obtain ⟨es, clock, hb, hst, hko, hf⟩ := hm
  have hn : ∀ n ∈ fs.map (·.1), nmOk n := fun n h => by
    obtain ⟨a, ha, rfl⟩ := List.mem_map.1 h
    exact Nat.le_trans (hnm a ha) (by decide)
  let E : List (Lit × DataW Unit) := es.toList.map (WideElems.rg Tryz.prog 9 noR)
  have hrd : ∀ x ∈ es.toList, ∃ n, x.key = .string (bs n) ∧ n ∈ fs.map (·.1) ∧ WideElems.rd Tryz.prog 9 noR x = some (.string n, .nil) := by
    intro x hx
    have h1 : longF fs x.key = some x.val := (hf x.key x.val).2 ⟨x, hx, rfl, rfl⟩
    unfold longF at h1
    cases hd : decS x.key with
    | none => rw [hd] at h1; cases h1
    | some n =>
      rw [hd] at h1
      have hk := decS_iff.1 hd
      have hmem : n ∈ fs.map (·.1) := by
        rw [names_mem hs]
        cases hg : fget fs n with
        | none => simp [hg] at h1
        | some l => exact ⟨l, rfl⟩
      refine ⟨n, hk, hmem, ?_⟩
      have hkey : keyOf Tryz.prog 9 x.key = some (.string n) := by
        have := WideMaps.keyOf_string_mk (k := 9) Tryz.underlying9 (s := bs n) (by have := hn n hmem; rw [bs_size]; unfold nmOk at this; unfold maxLen; omega)
        rw [hk, this, bs_list]
      simp [WideElems.rd, hkey]
  have hrg : ∀ x ∈ es.toList, ∃ n, x.key = .string (bs n) ∧ n ∈ fs.map (·.1) ∧ WideElems.rg Tryz.prog 9 noR x = (.string n, .nil) := by
    intro x hx
    obtain ⟨n, h1, h2, h3⟩ := hrd x hx
    exact ⟨n, h1, h2, WideElems.rg_of h3⟩
  have hkeys : (E.map fun p => strOf p.1).Nodup := by
    show ((es.toList.map _).map _).Nodup
    rw [List.map_map]
    unfold List.Nodup
    rw [List.pairwise_map]
    have h3 := ((MapKept.stamped_iff es clock).1 hst).2.2
    refine List.Pairwise.imp_of_mem ?_ h3
    intro x y hx hy hne e
    obtain ⟨n, h4, _, h5⟩ := hrg x hx
    obtain ⟨m, h6, _, h7⟩ := hrg y hy
    simp only [Function.comp, h5, h7, strOf] at e
    exact hne (by rw [h4, h6, e])
  have hmem : ∀ n, n ∈ (E.map fun p => strOf p.1) ↔ n ∈ fs.map (·.1) := by
    intro n
    constructor
    · intro h
      obtain ⟨p, hp, rfl⟩ := List.mem_map.1 h
      obtain ⟨x, hx, rfl⟩ := List.mem_map.1 hp
      obtain ⟨m, _, h5, h6⟩ := hrg x hx
      rw [h6]; exact h5
    · intro h
      obtain ⟨l, hl⟩ := (names_mem hs n).1 h
      have h1 : longF fs (.string (bs n)) = some (lenV l) := by rw [longF_at, hl]; rfl
      obtain ⟨x, hx, hk, _⟩ := (hf _ _).1 h1
      obtain ⟨m, h4, _, h6⟩ := hrg x hx
      refine List.mem_map.2 ⟨_, List.mem_map.2 ⟨x, hx, rfl⟩, ?_⟩
      rw [h6]
      rw [h4] at hk
      exact bs_inj (Value.string.inj hk)
  have hperm : (E.map fun p => strOf p.1).Perm (fs.map (·.1)) := (List.perm_ext_iff_of_nodup hkeys (names_nodup hs)).2 hmem
  have hlen : es.size = fs.length := by
    have := hperm.length_eq
    simpa [E] using this
  refine ⟨es.size, .map (E.foldr DataW.insert []), ⟨es, clock, hb, ⟨by rw [hlen]; exact Nat.le_trans hl (by unfold maxLen; decide), hst, fun x hx => ?_⟩, Nat.le_refl _, rfl⟩, ?_, ?_⟩
  · obtain ⟨n, _, _, h⟩ := hrd x hx
    exact ⟨_, h⟩
  · have h1 := (sorted_perm E).length_eq
    have h2 : E.length = fs.length := by rw [← hlen]; simp [E]
    rw [Maps.size_eq, h1, h2]
    exact hl
  · exact ((sorted_perm E).map _).trans hperm

/-- Sorted they are the names. -/
theorem names_sorted {fs : Files} (hs : sorted fs) {ss : List Nm} (hp : ss.Perm (fs.map (·.1))) : ss.mergeSort (fun x y => decide (x ≤ y)) = fs.map (·.1) := by
  refine List.Perm.eq_of_pairwise (le := fun a b => a ≤ b) (fun a b _ _ h1 h2 => List.le_antisymm h1 h2) ?_ ?_ ((List.mergeSort_perm _ _).trans hp)
  · have := List.pairwise_mergeSort (le := fun (x y : Nm) => decide (x ≤ y)) (fun a b c h1 h2 => by simp only [decide_eq_true_eq] at *; exact List.le_trans h1 h2) (fun a b => by
      simp only [Bool.or_eq_true, decide_eq_true_eq]; exact List.le_total a b) ss
    exact this.imp fun {a b} h => by simpa using h
  · rw [List.pairwise_map]
    exact hs.imp fun {a b} h => nm_le h
end Go.Proofs.YtblpkifkaoaicaaGreat
