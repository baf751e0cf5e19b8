import Derived.WalkKit
/-! The plain model of package sect: a row of files by names, each a row of cells. No program in sight. -/
namespace Wb
open Go

abbrev Nm := List UInt8
def bs (l : Nm) : ByteArray := ⟨l.toArray⟩
theorem bs_size (l : Nm) : (bs l).size = l.length := by simp [bs, ByteArray.size]
theorem bs_list (l : Nm) : (bs l).data.toList = l := by simp [bs]
theorem bs_inj {a b : Nm} (h : bs a = bs b) : a = b := by rw [← bs_list a, h, bs_list]

theorem ba_size (b : ByteArray) : b.size = b.data.toList.length := by show b.data.size = _; simp
theorem ba_loop (b : ByteArray) (n : Nat) : ∀ (i : Nat) (r : List UInt8), b.size - i = n → ByteArray.toList.loop b i r = r.reverse ++ b.data.toList.drop i := by
  induction n with
  | zero =>
    intro i r h
    rw [ByteArray.toList.loop]
    have : ¬ i < b.size := by omega
    rw [if_neg this, List.drop_eq_nil_of_le (by rw [ba_size] at h; omega)]
    simp
  | succ n ih =>
    intro i r h
    rw [ByteArray.toList.loop]
    have hi : i < b.size := by omega
    rw [if_pos hi, ih (i + 1) _ (by omega)]
    have hi' : i < b.data.toList.length := by rw [ba_size] at hi; exact hi
    rw [List.drop_eq_getElem_cons hi']
    have : b.get! i = b.data.toList[i] := by
      unfold ByteArray.get!
      simp at hi'
      simp [getElem!_pos, hi']
    simp [this]
theorem ba_toList (b : ByteArray) : b.toList = b.data.toList := by
  unfold ByteArray.toList
  rw [ba_loop b _ 0 [] rfl]; simp
theorem bs_toList (l : Nm) : (bs l).toList = l := by rw [ba_toList, bs_list]

/-- A sector: 64 octets. -/
abbrev Sec := { l : List UInt8 // l.length = 64 }
def Sec.zero : Sec := ⟨List.replicate 64 0, by simp⟩

structure Cell where
  now : Sec
  last : Sec
  nowBad : Bool
  lastBad : Bool
  there : Bool
  fresh : Bool

def Cell.zero : Cell := ⟨Sec.zero, Sec.zero, false, false, false, false⟩
def Cell.lasts (c : Cell) : Cell := { c with last := c.now, lastBad := c.nowBad, there := true, fresh := false }

abbrev Files := List (Nm × List Cell)

def fget (fs : Files) (n : Nm) : Option (List Cell) :=
  match fs with
  | [] => none
  | (m, x) :: r => if n = m then some x else fget r n

def fset (fs : Files) (n : Nm) (v : List Cell) : Files :=
  match fs with
  | [] => [(n, v)]
  | (m, x) :: r => if n = m then (n, v) :: r else if n < m then (n, v) :: (m, x) :: r else (m, x) :: fset r n v

def fdel (fs : Files) (n : Nm) : Files :=
  match fs with
  | [] => []
  | (m, x) :: r => if n = m then r else (m, x) :: fdel r n

def used (fs : Files) : Nat := (fs.map (·.2.length)).sum
def sorted (fs : Files) : Prop := fs.Pairwise (fun a b => a.1 < b.1)

theorem fget_fset_same (fs : Files) (n : Nm) (v : List Cell) : fget (fset fs n v) n = some v := by
  induction fs with
  | nil => simp [fset, fget]
  | cons a r ih =>
    obtain ⟨m, x⟩ := a
    simp only [fset]
    split
    · simp [fget]
    · split
      · simp [fget]
      · rename_i h _; simp [fget, h, ih]

theorem fget_fset_other (fs : Files) {n k : Nm} (v : List Cell) (hne : k ≠ n) : fget (fset fs n v) k = fget fs k := by
  induction fs with
  | nil => simp [fset, fget, hne]
  | cons a r ih =>
    obtain ⟨m, x⟩ := a
    simp only [fset]
    split
    · rename_i h; subst h; simp [fget, hne]
    · split
      · simp [fget, hne]
      · simp only [fget, ih]

theorem fget_fset (fs : Files) (n k : Nm) (v : List Cell) : fget (fset fs n v) k = if k = n then some v else fget fs k := by
  split
  · rename_i h; rw [h, fget_fset_same]
  · rename_i h; rw [fget_fset_other _ _ h]

theorem fset_fset (fs : Files) (n : Nm) (a b : List Cell) : fset (fset fs n a) n b = fset fs n b := by
  induction fs with
  | nil => simp [fset]
  | cons x r ih =>
    obtain ⟨m, y⟩ := x
    simp only [fset]
    split
    · simp [fset]
    · split
      · simp [fset]
      · rename_i h1 h2; simp [fset, h1, h2, ih]

theorem fget_fdel_other (fs : Files) {n k : Nm} (hne : k ≠ n) : fget (fdel fs n) k = fget fs k := by
  induction fs with
  | nil => rfl
  | cons a r ih =>
    obtain ⟨m, x⟩ := a
    simp only [fdel]
    split
    · rename_i h; subst h; simp [fget, hne]
    · simp only [fget, ih]

theorem nm_irrefl (a : Nm) : ¬ a < a := List.lt_irrefl a
theorem nm_trans {a b c : Nm} (h : a < b) (k : b < c) : a < c := List.lt_trans h k
theorem nm_total {a b : Nm} (h : a ≠ b) (k : ¬ a < b) : b < a := by
  rcases Nat.lt_or_ge 0 1 with _ | h0
  · exact Classical.byContradiction fun h3 => h (List.le_antisymm (List.not_lt.1 h3) (List.not_lt.1 k))
  · omega

theorem sorted_lt {m : Nm} {x : List Cell} {r : Files} (h : sorted ((m, x) :: r)) {a : Nm × List Cell} (ha : a ∈ r) : m < a.1 := (List.pairwise_cons.1 h).1 a ha
theorem sorted_tail {m : Nm} {x : List Cell} {r : Files} (h : sorted ((m, x) :: r)) : sorted r := (List.pairwise_cons.1 h).2

theorem fget_mem {fs : Files} {n : Nm} {v : List Cell} (h : fget fs n = some v) : (n, v) ∈ fs := by
  induction fs with
  | nil => simp [fget] at h
  | cons a r ih =>
    obtain ⟨m, x⟩ := a
    simp only [fget] at h
    split at h
    · rename_i e; subst e; cases h; simp
    · exact List.mem_cons_of_mem _ (ih h)

theorem fget_of_mem {fs : Files} (hs : sorted fs) {n : Nm} {v : List Cell} (h : (n, v) ∈ fs) : fget fs n = some v := by
  induction fs with
  | nil => simp at h
  | cons a r ih =>
    obtain ⟨m, x⟩ := a
    rcases List.mem_cons.1 h with e | h'
    · cases e; simp [fget]
    · have := sorted_lt hs h'
      have hne : n ≠ m := fun e => nm_irrefl m (by simpa [e] using this)
      simp [fget, hne, ih (sorted_tail hs) h']

theorem fget_none {fs : Files} {n : Nm} (h : ∀ a ∈ fs, n < a.1) : fget fs n = none := by
  cases hc : fget fs n with
  | none => rfl
  | some v => exact absurd (h _ (fget_mem hc)) (nm_irrefl n)

theorem mem_fset {fs : Files} {n : Nm} {v : List Cell} {a : Nm × List Cell} (h : a ∈ fset fs n v) : a = (n, v) ∨ a ∈ fs := by
  induction fs with
  | nil => simp [fset] at h; exact .inl h
  | cons b r ih =>
    obtain ⟨m, x⟩ := b
    simp only [fset] at h
    split at h
    · rcases List.mem_cons.1 h with h | h
      · exact .inl h
      · exact .inr (List.mem_cons_of_mem _ h)
    · split at h
      · rcases List.mem_cons.1 h with h | h
        · exact .inl h
        · exact .inr h
      · rcases List.mem_cons.1 h with h | h
        · exact .inr (by rw [h]; simp)
        · rcases ih h with h | h
          · exact .inl h
          · exact .inr (List.mem_cons_of_mem _ h)

theorem sorted_fset {fs : Files} (hs : sorted fs) (n : Nm) (v : List Cell) : sorted (fset fs n v) := by
  induction fs with
  | nil => simp [fset, sorted]
  | cons b r ih =>
    obtain ⟨m, x⟩ := b
    have h1 := List.pairwise_cons.1 hs
    simp only [fset]
    split
    · rename_i e; subst e; exact List.pairwise_cons.2 ⟨h1.1, h1.2⟩
    · split
      · rename_i hlt
        refine List.pairwise_cons.2 ⟨fun a ha => ?_, hs⟩
        rcases List.mem_cons.1 ha with e | ha
        · rw [e]; exact hlt
        · exact nm_trans hlt (h1.1 a ha)
      · rename_i hne hlt
        refine List.pairwise_cons.2 ⟨fun a ha => ?_, ih h1.2⟩
        rcases mem_fset ha with e | ha
        · rw [e]; exact nm_total hne hlt
        · exact h1.1 a ha

theorem mem_fdel {fs : Files} {n : Nm} {a : Nm × List Cell} (h : a ∈ fdel fs n) : a ∈ fs := by
  induction fs with
  | nil => simp [fdel] at h
  | cons b r ih =>
    obtain ⟨m, x⟩ := b
    simp only [fdel] at h
    split at h
    · exact List.mem_cons_of_mem _ h
    · rcases List.mem_cons.1 h with h | h
      · rw [h]; simp
      · exact List.mem_cons_of_mem _ (ih h)

theorem sorted_fdel {fs : Files} (hs : sorted fs) (n : Nm) : sorted (fdel fs n) := by
  induction fs with
  | nil => simp [fdel, sorted]
  | cons b r ih =>
    obtain ⟨m, x⟩ := b
    have h1 := List.pairwise_cons.1 hs
    simp only [fdel]
    split
    · exact h1.2
    · exact List.pairwise_cons.2 ⟨fun a ha => h1.1 a (mem_fdel ha), ih h1.2⟩

theorem fget_fdel_same {fs : Files} (hs : sorted fs) (n : Nm) : fget (fdel fs n) n = none := by
  induction fs with
  | nil => rfl
  | cons b r ih =>
    obtain ⟨m, x⟩ := b
    simp only [fdel]
    split
    · rename_i e; subst e; exact fget_none (fun a ha => sorted_lt hs ha)
    · rename_i hne; simp [fget, hne, ih (sorted_tail hs)]

theorem fget_fdel {fs : Files} (hs : sorted fs) (n k : Nm) : fget (fdel fs n) k = if k = n then none else fget fs k := by
  split
  · rename_i h; rw [h, fget_fdel_same hs]
  · rename_i h; rw [fget_fdel_other _ h]

theorem used_fset {fs : Files} (hs : sorted fs) (n : Nm) (v : List Cell) : used (fset fs n v) + ((fget fs n).map List.length).getD 0 = used fs + v.length := by
  induction fs with
  | nil => simp [fset, fget, used]
  | cons b r ih =>
    obtain ⟨m, x⟩ := b
    simp only [fset]
    split
    · rename_i e; subst e; simp [fget, used]; omega
    · split
      · rename_i hne hlt
        have : fget r n = none := fget_none (fun a ha => nm_trans hlt (sorted_lt hs ha))
        simp [fget, hne, this, used]; omega
      · rename_i hne _
        have := ih (sorted_tail hs)
        simp only [used, List.map_cons, List.sum_cons, fget, hne, if_false] at this ⊢
        omega

theorem used_fdel {fs : Files} (n : Nm) : used (fdel fs n) + ((fget fs n).map List.length).getD 0 = used fs := by
  induction fs with
  | nil => simp [fdel, fget, used]
  | cons b r ih =>
    obtain ⟨m, x⟩ := b
    simp only [fdel]
    split
    · rename_i e; subst e; simp [fget, used]; omega
    · rename_i hne
      simp only [used, List.map_cons, List.sum_cons, fget, hne, if_false] at ih ⊢
      omega

theorem used_le {fs : Files} {n : Nm} {l : List Cell} (h : fget fs n = some l) : l.length ≤ used fs := by
  have := used_fdel (fs := fs) n
  rw [h] at this
  simp at this
  omega

/-- A device. -/
structure Dv where
  most : Nat
  fuse : Int
  files : Files

structure Dv.wf (D : Dv) : Prop where
  most : D.most ≤ 100000
  fuse : -1 ≤ D.fuse
  fuse' : D.fuse ≤ 9223372036854775807
  sorted : sorted D.files
  used : used D.files ≤ D.most
  nm : ∀ a ∈ D.files, a.1.length ≤ 20

theorem nm_fset {fs : Files} (h : ∀ a ∈ fs, a.1.length ≤ 20) {n : Nm} {l : List Cell} (hf : fget fs n = some l) (v : List Cell) : ∀ a ∈ fset fs n v, a.1.length ≤ 20 := fun a ha => by
  rcases mem_fset ha with e | ha
  · rw [e]; exact h (n, l) (fget_mem hf)
  · exact h a ha
theorem nm_fset_new {fs : Files} (h : ∀ a ∈ fs, a.1.length ≤ 20) {n : Nm} (hn : n.length ≤ 20) (v : List Cell) : ∀ a ∈ fset fs n v, a.1.length ≤ 20 := fun a ha => by
  rcases mem_fset ha with e | ha
  · rw [e]; exact hn
  · exact h a ha

def Dv.new (most : Int) : Dv := ⟨(min (max most 0) 100000).toNat, -1, []⟩
def Dv.done (D : Dv) : Dv := { D with fuse := if 0 < D.fuse then D.fuse - 1 else D.fuse }

def Dv.make (D : Dv) (n : Nm) : Dv × Int :=
  if D.fuse = 0 then (D, 8)
  else if n = [] ∨ 20 < n.length then (D, 1)
  else if (fget D.files n).isSome then (D, 9)
  else ({ D with files := fset D.files n [] }.done, 0)

def Dv.thr (D : Dv) (n : Nm) : Int := if D.fuse = 0 then 8 else if (fget D.files n).isSome then 0 else 10

def Dv.drop (D : Dv) (n : Nm) : Dv × Int :=
  if D.thr n ≠ 0 then (D, D.thr n) else ({ D with files := fdel D.files n }.done, 0)

def Cell.write (c : Cell) (s : Sec) : Cell := { c with now := s, nowBad := false, fresh := true }

def Dv.cells (D : Dv) (n : Nm) : List Cell := (fget D.files n).getD []
def Dv.len (D : Dv) (n : Nm) : Nat := (D.cells n).length

def Dv.write (D : Dv) (n : Nm) (k : Int) (s : Sec) : Dv × Int :=
  if D.thr n ≠ 0 then (D, D.thr n)
  else if k < 0 ∨ D.len n < k then (D, 1)
  else if k = D.len n then
    if D.most ≤ Wb.used D.files then (D, 6) else ({ D with files := fset D.files n (D.cells n ++ [Cell.zero.write s]) }.done, 0)
  else ({ D with files := fset D.files n ((D.cells n).modify k.toNat (·.write s)) }.done, 0)

def Dv.read (D : Dv) (n : Nm) (k : Int) : Sec × Int :=
  match fget D.files n with
  | none => (Sec.zero, 10)
  | some l => if k < 0 ∨ l.length ≤ k then (Sec.zero, 1) else
    match l[k.toNat]? with
    | some c => if c.nowBad then (Sec.zero, 7) else (c.now, 0)
    | none => (Sec.zero, 1)

def Dv.sync (D : Dv) (n : Nm) : Dv × Int :=
  if D.thr n ≠ 0 then (D, D.thr n) else ({ D with files := fset D.files n ((D.cells n).map fun (c : Cell) => if c.fresh then c.lasts else c) }.done, 0)

def Dv.setFuse (D : Dv) (n : Int) : Dv := { D with fuse := max n (-1) }

/-- A sector behind a crash, and whether it is there. -/
def fallC (c : Cell) (way : Int) : Cell × Bool :=
  if way = 0 then ({ c with now := c.last, nowBad := c.lastBad }, c.there) else if way = 1 then (c, true) else ({ c with now := Sec.zero, nowBad := true }, true)

def pickWay (p : Int) : Int := p % 3
def lost : Cell := { Cell.zero with nowBad := true }

/-- What a cell is behind a crash, whether it is there, and the picks that are left. -/
def crashC (c : Cell) (pick : List Int) : (Cell × Bool) × List Int :=
  if c.fresh then (fallC c (match pick with | [] => 0 | p :: _ => pickWay p), pick.tail) else ((c, true), pick)

def outC (x : Cell × Bool) : Cell := if x.2 then x.1.lasts else lost.lasts

def crashCells : List Cell → List Int → List (Cell × Bool) × List Int
  | [], pick => ([], pick)
  | c :: r, pick => ((crashC c pick).1 :: (crashCells r (crashC c pick).2).1, (crashCells r (crashC c pick).2).2)

/-- Behind the last one that is there. -/
def endOf : List (Cell × Bool) → Nat
  | [] => 0
  | x :: r => if 0 < endOf r then endOf r + 1 else if x.2 then 1 else 0

def trim (xs : List (Cell × Bool)) : List Cell := (xs.map outC).take (endOf xs)

def crashFiles : Files → List Int → Files × List Int
  | [], pick => ([], pick)
  | (n, l) :: r, pick => ((n, trim (crashCells l pick).1) :: (crashFiles r (crashCells l pick).2).1, (crashFiles r (crashCells l pick).2).2)

theorem crashCells_snoc (l : List Cell) (c : Cell) : ∀ pick, crashCells (l ++ [c]) pick = ((crashCells l pick).1 ++ [(crashC c (crashCells l pick).2).1], (crashC c (crashCells l pick).2).2) := by
  induction l with
  | nil => intro pick; rfl
  | cons a r ih => intro pick; simp [crashCells, ih]
theorem crashCells_len (l : List Cell) : ∀ pick, (crashCells l pick).1.length = l.length := by
  induction l with
  | nil => intro pick; rfl
  | cons a r ih => intro pick; simp [crashCells, ih]
theorem endOf_le (xs : List (Cell × Bool)) : endOf xs ≤ xs.length := by
  induction xs with
  | nil => simp [endOf]
  | cons x r ih => simp only [endOf, List.length_cons]; split <;> (try split) <;> omega
theorem endOf_snoc (xs : List (Cell × Bool)) (x : Cell × Bool) : endOf (xs ++ [x]) = if x.2 then xs.length + 1 else endOf xs := by
  induction xs with
  | nil => simp [endOf]
  | cons y r ih =>
    simp only [List.cons_append, endOf, ih, List.length_cons]
    by_cases h : x.2 = true
    · simp [h]
    · simp [h]
theorem trim_len (xs : List (Cell × Bool)) : (trim xs).length = endOf xs := by
  have := endOf_le xs
  simp [trim]; omega
theorem crashFiles_snoc (A : Files) (n : Nm) (l : List Cell) : ∀ pick, crashFiles (A ++ [(n, l)]) pick =
    ((crashFiles A pick).1 ++ [(n, trim (crashCells l (crashFiles A pick).2).1)], (crashCells l (crashFiles A pick).2).2) := by
  induction A with
  | nil => intro pick; rfl
  | cons a r ih => intro pick; obtain ⟨m, x⟩ := a; simp [crashFiles, ih]
theorem crashFiles_names (A : Files) : ∀ pick, (crashFiles A pick).1.map (·.1) = A.map (·.1) := by
  induction A with
  | nil => intro pick; rfl
  | cons a r ih => intro pick; obtain ⟨m, x⟩ := a; simp [crashFiles, ih]
theorem crashFiles_used (A : Files) : ∀ pick, used (crashFiles A pick).1 ≤ used A := by
  induction A with
  | nil => intro pick; exact Nat.le_refl _
  | cons a r ih =>
    intro pick
    obtain ⟨m, x⟩ := a
    have h1 := ih (crashCells x pick).2
    have h2 := endOf_le (crashCells x pick).1
    rw [crashCells_len] at h2
    simp only [used, crashFiles, List.map_cons, List.sum_cons, trim_len] at h1 ⊢
    omega
theorem sorted_names {A B : Files} (h : A.map (·.1) = B.map (·.1)) (hs : sorted B) : sorted A := by
  have : (A.map (·.1)).Pairwise (· < ·) := by rw [h, List.pairwise_map]; exact hs
  rw [List.pairwise_map] at this
  exact this
/-- A file in the midst. -/
theorem fset_mid {A B : Files} {n : Nm} {l t : List Cell} (h : ∀ a ∈ A, a.1 < n) : fset (A ++ (n, l) :: B) n t = A ++ (n, t) :: B := by
  induction A with
  | nil => simp [fset]
  | cons a r ih =>
    obtain ⟨m, x⟩ := a
    have h1 : m < n := h (m, x) (by simp)
    have h2 : n ≠ m := fun e => nm_irrefl m (by rw [e] at h1; exact h1)
    have h3 : ¬ n < m := fun e => nm_irrefl m (nm_trans h1 e)
    simp [fset, h2, h3, ih (fun a ha => h a (List.mem_cons_of_mem _ ha))]
theorem fget_mid {A B : Files} {n : Nm} {l : List Cell} (h : ∀ a ∈ A, a.1 < n) : fget (A ++ (n, l) :: B) n = some l := by
  induction A with
  | nil => simp [fget]
  | cons a r ih =>
    obtain ⟨m, x⟩ := a
    have h1 : m < n := h (m, x) (by simp)
    have h2 : n ≠ m := fun e => nm_irrefl m (by rw [e] at h1; exact h1)
    simp [fget, h2, ih (fun a ha => h a (List.mem_cons_of_mem _ ha))]
theorem used_app (A B : Files) : used (A ++ B) = used A + used B := by simp [used]

def Dv.crash (D : Dv) (pick : List Int) : Dv := { D with fuse := -1, files := (crashFiles D.files pick).1 }
def Dv.names (D : Dv) : List Nm := D.files.map (·.1)
end Wb
