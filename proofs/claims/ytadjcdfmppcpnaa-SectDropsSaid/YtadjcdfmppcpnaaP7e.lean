import Derived.Test.YtadjcdfmppcpnaaP7d
/-! The plain law of SectDrops: files without sectors. -/
namespace Wb
open Go

def DropsOk (D : Dv) (i : Nat) : Prop := D.fuse = -1 ∧ sorted D.files ∧ (∀ a ∈ D.files, a.2 = []) ∧ D.files.length ≤ i

theorem fset_len (fs : Files) (n : Nm) (v : List Cell) : (fset fs n v).length ≤ fs.length + 1 := by
  induction fs with
  | nil => simp [fset]
  | cons a r ih =>
    obtain ⟨m, x⟩ := a
    simp only [fset]
    split
    · simp
    · split <;> simp; omega
theorem fdel_len (fs : Files) (n : Nm) : (fdel fs n).length ≤ fs.length := by
  induction fs with
  | nil => simp [fdel]
  | cons a r ih =>
    obtain ⟨m, x⟩ := a
    simp only [fdel]
    split <;> simp; omega

theorem drops_start (m : Int) (i : Nat) : DropsOk (Dv.new m) i := ⟨rfl, List.Pairwise.nil, by simp [Dv.new], by simp [Dv.new]⟩
theorem DropsOk.mono {D : Dv} {i j : Nat} (h : DropsOk D i) (hj : i ≤ j) : DropsOk D j := ⟨h.1, h.2.1, h.2.2.1, Nat.le_trans h.2.2.2 hj⟩

theorem drops_make_bad {D : Dv} {i : Nat} (h : DropsOk D i) {n : Nm} (hn : n = [] ∨ 20 < n.length) : D.make n = (D, 1) := by
  simp [Dv.make, h.1, hn]
theorem drops_make_there {D : Dv} {i : Nat} (h : DropsOk D i) {n : Nm} (hn : ¬ (n = [] ∨ 20 < n.length)) (hf : (fget D.files n).isSome = true) : D.make n = (D, 9) := by
  simp [Dv.make, h.1, hn, hf]
theorem drops_make_new {D : Dv} {i : Nat} (h : DropsOk D i) {n : Nm} (hn : ¬ (n = [] ∨ 20 < n.length)) (hf : (fget D.files n).isSome = false) :
    ∃ D', D.make n = (D', 0) ∧ DropsOk D' (i + 1) ∧ D'.files = fset D.files n [] := by
  refine ⟨_, by simp [Dv.make, h.1, hn, hf]; rfl, ⟨by simp [Dv.done], sorted_fset h.2.1 _ _, fun a ha => ?_, by have := fset_len D.files n []; have := h.2.2.2; simp [Dv.done]; omega⟩, rfl⟩
  rcases mem_fset ha with e | ha
  · rw [e]
  · exact h.2.2.1 a ha
theorem drops_drop_no {D : Dv} {i : Nat} (h : DropsOk D i) {n : Nm} (hf : (fget D.files n).isSome = false) : D.drop n = (D, 10) := by
  simp [Dv.drop, Dv.thr, h.1, hf]
theorem drops_drop_yes {D : Dv} {i : Nat} (h : DropsOk D i) {n : Nm} (hf : (fget D.files n).isSome = true) :
    ∃ D', D.drop n = (D', 0) ∧ DropsOk D' i ∧ D'.files = fdel D.files n := by
  refine ⟨_, by simp [Dv.drop, Dv.thr, h.1, hf]; rfl, ⟨by simp [Dv.done], sorted_fdel h.2.1 _, fun a ha => h.2.2.1 a (mem_fdel ha), Nat.le_trans (by simp [Dv.done]; exact fdel_len _ _) h.2.2.2⟩, rfl⟩
theorem crashFiles_nil {fs : Files} (h : ∀ a ∈ fs, a.2 = []) : crashFiles fs [] = (fs, []) := by
  induction fs with
  | nil => rfl
  | cons a r ih =>
    obtain ⟨m, x⟩ := a
    have hx : x = [] := h (m, x) (by simp)
    subst hx
    simp [crashFiles, crashCells, ih (fun a ha => h a (List.mem_cons_of_mem _ ha)), trim, endOf]
theorem drops_crash {D : Dv} {i : Nat} (h : DropsOk D i) : D.crash [] = D := by
  obtain ⟨m, f, fs⟩ := D
  have h1 : f = -1 := h.1
  subst h1
  simp [Dv.crash, crashFiles_nil h.2.2.1]
theorem used_nil {fs : Files} (h : ∀ a ∈ fs, a.2 = []) : used fs = 0 := by
  induction fs with
  | nil => rfl
  | cons a r ih =>
    have h1 := ih (fun b hb => h b (List.mem_cons_of_mem _ hb))
    have h2 := h a (by simp)
    unfold used at *
    simp [h2, h1]
theorem drops_used {D : Dv} {i : Nat} (h : DropsOk D i) : used D.files = 0 := used_nil h.2.2.1
theorem drops_len {D : Dv} {i : Nat} (h : DropsOk D i) (n : Nm) : D.len n = 0 := by
  unfold Dv.len Dv.cells
  cases hf : fget D.files n with
  | none => rfl
  | some l => rw [show l = [] from h.2.2.1 (n, l) (fget_mem hf)]; rfl
theorem names_at {D : Dv} (hs : sorted D.files) {k : Nat} {n : Nm} (h : D.names[k]? = some n) : (fget D.files n).isSome = true := by
  unfold Dv.names at h
  rw [List.getElem?_map] at h
  cases hk : D.files[k]? with
  | none => rw [hk] at h; cases h
  | some a =>
    rw [hk] at h
    simp only [Option.map_some, Option.some.injEq] at h
    subst h
    rw [fget_of_mem hs (n := a.1) (v := a.2) (List.mem_of_getElem? hk)]; rfl
theorem names_rise {D : Dv} (hs : sorted D.files) {k : Nat} {m n : Nm} (hm : D.names[k]? = some m) (hn : D.names[k + 1]? = some n) : m < n := by
  unfold Dv.names at hm hn
  rw [List.getElem?_map] at hm hn
  have hp := List.pairwise_iff_getElem.1 hs
  cases hk : D.files[k]? with
  | none => rw [hk] at hm; cases hm
  | some a =>
    cases hk2 : D.files[k + 1]? with
    | none => rw [hk2] at hn; cases hn
    | some b =>
      rw [hk] at hm; rw [hk2] at hn
      simp only [Option.map_some, Option.some.injEq] at hm hn
      subst hm hn
      obtain ⟨h1, rfl⟩ := List.getElem?_eq_some_iff.1 hk
      obtain ⟨h2, rfl⟩ := List.getElem?_eq_some_iff.1 hk2
      exact hp k (k + 1) h1 h2 (by omega)
end Wb
