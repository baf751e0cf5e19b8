/- Lemmas and contracts of functions, joined. -/
import Derived.WalkKit
namespace Wb
open Go

abbrev Nm := List UInt8
def bs (l : Nm) : ByteArray := ⟨l.toArray⟩
theorem bs_size (l : Nm) : (bs l).size = l.length := by simp [bs, ByteArray.size]
theorem bs_list (l : Nm) : (bs l).data.toList = l := by simp [bs]
theorem bs_inj {a b : Nm} (h : bs a = bs b) : a = b := by rw [← bs_list a, h, bs_list]

theorem ba_size (b : ByteArray) : b.size = b.data.toList.length := by show b.data.size = _; simp
theorem ba_loop (b : ByteArray) (n : Nat) : ∀ (i : Nat) (r : List UInt8), b.size - i = n → ByteArray.toList.loop b i r = r.reverse ++ b.data.toList.drop i := by
  induction n with
  | zero =>
    intro i r h
    rw [ByteArray.toList.loop]
    have : ¬ i < b.size := by omega
    rw [if_neg this, List.drop_eq_nil_of_le (by rw [ba_size] at h; omega)]
    simp
  | succ n ih =>
    intro i r h
    rw [ByteArray.toList.loop]
    have hi : i < b.size := by omega
    rw [if_pos hi, ih (i + 1) _ (by omega)]
    have hi' : i < b.data.toList.length := by rw [ba_size] at hi; exact hi
    rw [List.drop_eq_getElem_cons hi']
    have : b.get! i = b.data.toList[i] := by
      unfold ByteArray.get!
      simp at hi'
      simp [getElem!_pos, hi']
    simp [this]
theorem ba_toList (b : ByteArray) : b.toList = b.data.toList := by
  unfold ByteArray.toList
  rw [ba_loop b _ 0 [] rfl]; simp
theorem bs_toList (l : Nm) : (bs l).toList = l := by rw [ba_toList, bs_list]

/-- A sector: 64 octets. -/
abbrev Sec := { l : List UInt8 // l.length = 64 }
def Sec.zero : Sec := ⟨List.replicate 64 0, by simp⟩

structure Cell where
  now : Sec
  last : Sec
  nowBad : Bool
  lastBad : Bool
  there : Bool
  fresh : Bool

def Cell.zero : Cell := ⟨Sec.zero, Sec.zero, false, false, false, false⟩
def Cell.lasts (c : Cell) : Cell := { c with last := c.now, lastBad := c.nowBad, there := true, fresh := false }

abbrev Files := List (Nm × List Cell)

def fget (fs : Files) (n : Nm) : Option (List Cell) :=
  match fs with
  | [] => none
  | (m, x) :: r => if n = m then some x else fget r n

def fset (fs : Files) (n : Nm) (v : List Cell) : Files :=
  match fs with
  | [] => [(n, v)]
  | (m, x) :: r => if n = m then (n, v) :: r else if n < m then (n, v) :: (m, x) :: r else (m, x) :: fset r n v

def fdel (fs : Files) (n : Nm) : Files :=
  match fs with
  | [] => []
  | (m, x) :: r => if n = m then r else (m, x) :: fdel r n

def used (fs : Files) : Nat := (fs.map (·.2.length)).sum
def sorted (fs : Files) : Prop := fs.Pairwise (fun a b => a.1 < b.1)

theorem fget_fset_same (fs : Files) (n : Nm) (v : List Cell) : fget (fset fs n v) n = some v := by
  induction fs with
  | nil => simp [fset, fget]
  | cons a r ih =>
    obtain ⟨m, x⟩ := a
    simp only [fset]
    split
    · simp [fget]
    · split
      · simp [fget]
      · rename_i h _; simp [fget, h, ih]

theorem fget_fset_other (fs : Files) {n k : Nm} (v : List Cell) (hne : k ≠ n) : fget (fset fs n v) k = fget fs k := by
  induction fs with
  | nil => simp [fset, fget, hne]
  | cons a r ih =>
    obtain ⟨m, x⟩ := a
    simp only [fset]
    split
    · rename_i h; subst h; simp [fget, hne]
    · split
      · simp [fget, hne]
      · simp only [fget, ih]

theorem fget_fset (fs : Files) (n k : Nm) (v : List Cell) : fget (fset fs n v) k = if k = n then some v else fget fs k := by
  split
  · rename_i h; rw [h, fget_fset_same]
  · rename_i h; rw [fget_fset_other _ _ h]

theorem fset_fset (fs : Files) (n : Nm) (a b : List Cell) : fset (fset fs n a) n b = fset fs n b := by
  induction fs with
  | nil => simp [fset]
  | cons x r ih =>
    obtain ⟨m, y⟩ := x
    simp only [fset]
    split
    · simp [fset]
    · split
      · simp [fset]
      · rename_i h1 h2; simp [fset, h1, h2, ih]

theorem fget_fdel_other (fs : Files) {n k : Nm} (hne : k ≠ n) : fget (fdel fs n) k = fget fs k := by
  induction fs with
  | nil => rfl
  | cons a r ih =>
    obtain ⟨m, x⟩ := a
    simp only [fdel]
    split
    · rename_i h; subst h; simp [fget, hne]
    · simp only [fget, ih]

theorem nm_irrefl (a : Nm) : ¬ a < a := List.lt_irrefl a
theorem nm_trans {a b c : Nm} (h : a < b) (k : b < c) : a < c := List.lt_trans h k
theorem nm_total {a b : Nm} (h : a ≠ b) (k : ¬ a < b) : b < a := by
  rcases Nat.lt_or_ge 0 1 with _ | h0
  · exact Classical.byContradiction fun h3 => h (List.le_antisymm (List.not_lt.1 h3) (List.not_lt.1 k))
  · omega

theorem sorted_lt {m : Nm} {x : List Cell} {r : Files} (h : sorted ((m, x) :: r)) {a : Nm × List Cell} (ha : a ∈ r) : m < a.1 := (List.pairwise_cons.1 h).1 a ha
theorem sorted_tail {m : Nm} {x : List Cell} {r : Files} (h : sorted ((m, x) :: r)) : sorted r := (List.pairwise_cons.1 h).2

theorem fget_mem {fs : Files} {n : Nm} {v : List Cell} (h : fget fs n = some v) : (n, v) ∈ fs := by
  induction fs with
  | nil => simp [fget] at h
  | cons a r ih =>
    obtain ⟨m, x⟩ := a
    simp only [fget] at h
    split at h
    · rename_i e; subst e; cases h; simp
    · exact List.mem_cons_of_mem _ (ih h)

theorem fget_of_mem {fs : Files} (hs : sorted fs) {n : Nm} {v : List Cell} (h : (n, v) ∈ fs) : fget fs n = some v := by
  induction fs with
  | nil => simp at h
  | cons a r ih =>
    obtain ⟨m, x⟩ := a
    rcases List.mem_cons.1 h with e | h'
    · cases e; simp [fget]
    · have := sorted_lt hs h'
      have hne : n ≠ m := fun e => nm_irrefl m (by simpa [e] using this)
      simp [fget, hne, ih (sorted_tail hs) h']

theorem fget_none {fs : Files} {n : Nm} (h : ∀ a ∈ fs, n < a.1) : fget fs n = none := by
  cases hc : fget fs n with
  | none => rfl
  | some v => exact absurd (h _ (fget_mem hc)) (nm_irrefl n)

theorem mem_fset {fs : Files} {n : Nm} {v : List Cell} {a : Nm × List Cell} (h : a ∈ fset fs n v) : a = (n, v) ∨ a ∈ fs := by
  induction fs with
  | nil => simp [fset] at h; exact .inl h
  | cons b r ih =>
    obtain ⟨m, x⟩ := b
    simp only [fset] at h
    split at h
    · rcases List.mem_cons.1 h with h | h
      · exact .inl h
      · exact .inr (List.mem_cons_of_mem _ h)
    · split at h
      · rcases List.mem_cons.1 h with h | h
        · exact .inl h
        · exact .inr h
      · rcases List.mem_cons.1 h with h | h
        · exact .inr (by rw [h]; simp)
        · rcases ih h with h | h
          · exact .inl h
          · exact .inr (List.mem_cons_of_mem _ h)

theorem sorted_fset {fs : Files} (hs : sorted fs) (n : Nm) (v : List Cell) : sorted (fset fs n v) := by
  induction fs with
  | nil => simp [fset, sorted]
  | cons b r ih =>
    obtain ⟨m, x⟩ := b
    have h1 := List.pairwise_cons.1 hs
    simp only [fset]
    split
    · rename_i e; subst e; exact List.pairwise_cons.2 ⟨h1.1, h1.2⟩
    · split
      · rename_i hlt
        refine List.pairwise_cons.2 ⟨fun a ha => ?_, hs⟩
        rcases List.mem_cons.1 ha with e | ha
        · rw [e]; exact hlt
        · exact nm_trans hlt (h1.1 a ha)
      · rename_i hne hlt
        refine List.pairwise_cons.2 ⟨fun a ha => ?_, ih h1.2⟩
        rcases mem_fset ha with e | ha
        · rw [e]; exact nm_total hne hlt
        · exact h1.1 a ha

theorem mem_fdel {fs : Files} {n : Nm} {a : Nm × List Cell} (h : a ∈ fdel fs n) : a ∈ fs := by
  induction fs with
  | nil => simp [fdel] at h
  | cons b r ih =>
    obtain ⟨m, x⟩ := b
    simp only [fdel] at h
    split at h
    · exact List.mem_cons_of_mem _ h
    · rcases List.mem_cons.1 h with h | h
      · rw [h]; simp
      · exact List.mem_cons_of_mem _ (ih h)

theorem sorted_fdel {fs : Files} (hs : sorted fs) (n : Nm) : sorted (fdel fs n) := by
  induction fs with
  | nil => simp [fdel, sorted]
  | cons b r ih =>
    obtain ⟨m, x⟩ := b
    have h1 := List.pairwise_cons.1 hs
    simp only [fdel]
    split
    · exact h1.2
    · exact List.pairwise_cons.2 ⟨fun a ha => h1.1 a (mem_fdel ha), ih h1.2⟩

theorem fget_fdel_same {fs : Files} (hs : sorted fs) (n : Nm) : fget (fdel fs n) n = none := by
  induction fs with
  | nil => rfl
  | cons b r ih =>
    obtain ⟨m, x⟩ := b
    simp only [fdel]
    split
    · rename_i e; subst e; exact fget_none (fun a ha => sorted_lt hs ha)
    · rename_i hne; simp [fget, hne, ih (sorted_tail hs)]

theorem fget_fdel {fs : Files} (hs : sorted fs) (n k : Nm) : fget (fdel fs n) k = if k = n then none else fget fs k := by
  split
  · rename_i h; rw [h, fget_fdel_same hs]
  · rename_i h; rw [fget_fdel_other _ h]

theorem used_fset {fs : Files} (hs : sorted fs) (n : Nm) (v : List Cell) : used (fset fs n v) + ((fget fs n).map List.length).getD 0 = used fs + v.length := by
  induction fs with
  | nil => simp [fset, fget, used]
  | cons b r ih =>
    obtain ⟨m, x⟩ := b
    simp only [fset]
    split
    · rename_i e; subst e; simp [fget, used]; omega
    · split
      · rename_i hne hlt
        have : fget r n = none := fget_none (fun a ha => nm_trans hlt (sorted_lt hs ha))
        simp [fget, hne, this, used]; omega
      · rename_i hne _
        have := ih (sorted_tail hs)
        simp only [used, List.map_cons, List.sum_cons, fget, hne, if_false] at this ⊢
        omega

theorem used_fdel {fs : Files} (n : Nm) : used (fdel fs n) + ((fget fs n).map List.length).getD 0 = used fs := by
  induction fs with
  | nil => simp [fdel, fget, used]
  | cons b r ih =>
    obtain ⟨m, x⟩ := b
    simp only [fdel]
    split
    · rename_i e; subst e; simp [fget, used]; omega
    · rename_i hne
      simp only [used, List.map_cons, List.sum_cons, fget, hne, if_false] at ih ⊢
      omega

theorem used_le {fs : Files} {n : Nm} {l : List Cell} (h : fget fs n = some l) : l.length ≤ used fs := by
  have := used_fdel (fs := fs) n
  rw [h] at this
  simp at this
  omega

/-- A device. -/
structure Dv where
  most : Nat
  fuse : Int
  files : Files

structure Dv.wf (D : Dv) : Prop where
  most : D.most ≤ 100000
  fuse : -1 ≤ D.fuse
  fuse' : D.fuse ≤ 9223372036854775807
  sorted : sorted D.files
  used : used D.files ≤ D.most
  nm : ∀ a ∈ D.files, a.1.length ≤ 20

theorem nm_fset {fs : Files} (h : ∀ a ∈ fs, a.1.length ≤ 20) {n : Nm} {l : List Cell} (hf : fget fs n = some l) (v : List Cell) : ∀ a ∈ fset fs n v, a.1.length ≤ 20 := fun a ha => by
  rcases mem_fset ha with e | ha
  · rw [e]; exact h (n, l) (fget_mem hf)
  · exact h a ha
theorem nm_fset_new {fs : Files} (h : ∀ a ∈ fs, a.1.length ≤ 20) {n : Nm} (hn : n.length ≤ 20) (v : List Cell) : ∀ a ∈ fset fs n v, a.1.length ≤ 20 := fun a ha => by
  rcases mem_fset ha with e | ha
  · rw [e]; exact hn
  · exact h a ha

def Dv.new (most : Int) : Dv := ⟨(min (max most 0) 100000).toNat, -1, []⟩
def Dv.done (D : Dv) : Dv := { D with fuse := if 0 < D.fuse then D.fuse - 1 else D.fuse }

def Dv.make (D : Dv) (n : Nm) : Dv × Int :=
  if D.fuse = 0 then (D, 8)
  else if n = [] ∨ 20 < n.length then (D, 1)
  else if (fget D.files n).isSome then (D, 9)
  else ({ D with files := fset D.files n [] }.done, 0)

def Dv.thr (D : Dv) (n : Nm) : Int := if D.fuse = 0 then 8 else if (fget D.files n).isSome then 0 else 10

def Dv.drop (D : Dv) (n : Nm) : Dv × Int :=
  if D.thr n ≠ 0 then (D, D.thr n) else ({ D with files := fdel D.files n }.done, 0)

def Cell.write (c : Cell) (s : Sec) : Cell := { c with now := s, nowBad := false, fresh := true }

def Dv.cells (D : Dv) (n : Nm) : List Cell := (fget D.files n).getD []
def Dv.len (D : Dv) (n : Nm) : Nat := (D.cells n).length

def Dv.write (D : Dv) (n : Nm) (k : Int) (s : Sec) : Dv × Int :=
  if D.thr n ≠ 0 then (D, D.thr n)
  else if k < 0 ∨ D.len n < k then (D, 1)
  else if k = D.len n then
    if D.most ≤ Wb.used D.files then (D, 6) else ({ D with files := fset D.files n (D.cells n ++ [Cell.zero.write s]) }.done, 0)
  else ({ D with files := fset D.files n ((D.cells n).modify k.toNat (·.write s)) }.done, 0)

def Dv.read (D : Dv) (n : Nm) (k : Int) : Sec × Int :=
  match fget D.files n with
  | none => (Sec.zero, 10)
  | some l => if k < 0 ∨ l.length ≤ k then (Sec.zero, 1) else
    match l[k.toNat]? with
    | some c => if c.nowBad then (Sec.zero, 7) else (c.now, 0)
    | none => (Sec.zero, 1)

def Dv.sync (D : Dv) (n : Nm) : Dv × Int :=
  if D.thr n ≠ 0 then (D, D.thr n) else ({ D with files := fset D.files n ((D.cells n).map fun (c : Cell) => if c.fresh then c.lasts else c) }.done, 0)

def Dv.setFuse (D : Dv) (n : Int) : Dv := { D with fuse := max n (-1) }

/-- A sector behind a crash, and whether it is there. -/
def fallC (c : Cell) (way : Int) : Cell × Bool :=
  if way = 0 then ({ c with now := c.last, nowBad := c.lastBad }, c.there) else if way = 1 then (c, true) else ({ c with now := Sec.zero, nowBad := true }, true)

def pickWay (p : Int) : Int := p % 3
def lost : Cell := { Cell.zero with nowBad := true }

/-- What a cell is behind a crash, whether it is there, and the picks that are left. -/
def crashC (c : Cell) (pick : List Int) : (Cell × Bool) × List Int :=
  if c.fresh then (fallC c (match pick with | [] => 0 | p :: _ => pickWay p), pick.tail) else ((c, true), pick)

def outC (x : Cell × Bool) : Cell := if x.2 then x.1.lasts else lost.lasts

def crashCells : List Cell → List Int → List (Cell × Bool) × List Int
  | [], pick => ([], pick)
  | c :: r, pick => ((crashC c pick).1 :: (crashCells r (crashC c pick).2).1, (crashCells r (crashC c pick).2).2)

/-- Behind the last one that is there. -/
def endOf : List (Cell × Bool) → Nat
  | [] => 0
  | x :: r => if 0 < endOf r then endOf r + 1 else if x.2 then 1 else 0

def trim (xs : List (Cell × Bool)) : List Cell := (xs.map outC).take (endOf xs)

def crashFiles : Files → List Int → Files × List Int
  | [], pick => ([], pick)
  | (n, l) :: r, pick => ((n, trim (crashCells l pick).1) :: (crashFiles r (crashCells l pick).2).1, (crashFiles r (crashCells l pick).2).2)

theorem crashCells_snoc (l : List Cell) (c : Cell) : ∀ pick, crashCells (l ++ [c]) pick = ((crashCells l pick).1 ++ [(crashC c (crashCells l pick).2).1], (crashC c (crashCells l pick).2).2) := by
  induction l with
  | nil => intro pick; rfl
  | cons a r ih => intro pick; simp [crashCells, ih]
theorem crashCells_len (l : List Cell) : ∀ pick, (crashCells l pick).1.length = l.length := by
  induction l with
  | nil => intro pick; rfl
  | cons a r ih => intro pick; simp [crashCells, ih]
theorem endOf_le (xs : List (Cell × Bool)) : endOf xs ≤ xs.length := by
  induction xs with
  | nil => simp [endOf]
  | cons x r ih => simp only [endOf, List.length_cons]; split <;> (try split) <;> omega
theorem endOf_snoc (xs : List (Cell × Bool)) (x : Cell × Bool) : endOf (xs ++ [x]) = if x.2 then xs.length + 1 else endOf xs := by
  induction xs with
  | nil => simp [endOf]
  | cons y r ih =>
    simp only [List.cons_append, endOf, ih, List.length_cons]
    by_cases h : x.2 = true
    · simp [h]
    · simp [h]
theorem trim_len (xs : List (Cell × Bool)) : (trim xs).length = endOf xs := by
  have := endOf_le xs
  simp [trim]; omega
theorem crashFiles_snoc (A : Files) (n : Nm) (l : List Cell) : ∀ pick, crashFiles (A ++ [(n, l)]) pick =
    ((crashFiles A pick).1 ++ [(n, trim (crashCells l (crashFiles A pick).2).1)], (crashCells l (crashFiles A pick).2).2) := by
  induction A with
  | nil => intro pick; rfl
  | cons a r ih => intro pick; obtain ⟨m, x⟩ := a; simp [crashFiles, ih]
theorem crashFiles_names (A : Files) : ∀ pick, (crashFiles A pick).1.map (·.1) = A.map (·.1) := by
  induction A with
  | nil => intro pick; rfl
  | cons a r ih => intro pick; obtain ⟨m, x⟩ := a; simp [crashFiles, ih]
theorem crashFiles_used (A : Files) : ∀ pick, used (crashFiles A pick).1 ≤ used A := by
  induction A with
  | nil => intro pick; exact Nat.le_refl _
  | cons a r ih =>
    intro pick
    obtain ⟨m, x⟩ := a
    have h1 := ih (crashCells x pick).2
    have h2 := endOf_le (crashCells x pick).1
    rw [crashCells_len] at h2
    simp only [used, crashFiles, List.map_cons, List.sum_cons, trim_len] at h1 ⊢
    omega
theorem sorted_names {A B : Files} (h : A.map (·.1) = B.map (·.1)) (hs : sorted B) : sorted A := by
  have : (A.map (·.1)).Pairwise (· < ·) := by rw [h, List.pairwise_map]; exact hs
  rw [List.pairwise_map] at this
  exact this
/-- A file in the midst. -/
theorem fset_mid {A B : Files} {n : Nm} {l t : List Cell} (h : ∀ a ∈ A, a.1 < n) : fset (A ++ (n, l) :: B) n t = A ++ (n, t) :: B := by
  induction A with
  | nil => simp [fset]
  | cons a r ih =>
    obtain ⟨m, x⟩ := a
    have h1 : m < n := h (m, x) (by simp)
    have h2 : n ≠ m := fun e => nm_irrefl m (by rw [e] at h1; exact h1)
    have h3 : ¬ n < m := fun e => nm_irrefl m (nm_trans h1 e)
    simp [fset, h2, h3, ih (fun a ha => h a (List.mem_cons_of_mem _ ha))]
theorem fget_mid {A B : Files} {n : Nm} {l : List Cell} (h : ∀ a ∈ A, a.1 < n) : fget (A ++ (n, l) :: B) n = some l := by
  induction A with
  | nil => simp [fget]
  | cons a r ih =>
    obtain ⟨m, x⟩ := a
    have h1 : m < n := h (m, x) (by simp)
    have h2 : n ≠ m := fun e => nm_irrefl m (by rw [e] at h1; exact h1)
    simp [fget, h2, ih (fun a ha => h a (List.mem_cons_of_mem _ ha))]
theorem used_app (A B : Files) : used (A ++ B) = used A + used B := by simp [used]

def Dv.crash (D : Dv) (pick : List Int) : Dv := { D with fuse := -1, files := (crashFiles D.files pick).1 }
def Dv.names (D : Dv) : List Nm := D.files.map (·.1)
end Wb

namespace Wb
/-- So many octets of a number. -/
def be : Nat → Nat → List UInt8
  | 0, _ => []
  | n + 1, v => UInt8.ofNat (v / 256 ^ n % 256) :: be n v
/-- Octets as a number. -/
def num (l : List UInt8) : Nat := l.foldl (fun v c => (v * 256 + c.toNat) % 2 ^ 64) 0
theorem be_len (n v : Nat) : (be n v).length = n := by
  induction n with
  | zero => rfl
  | succ n ih => simp [be, ih]
theorem be_get (n v k : Nat) (hk : k < n) : (be n v)[k]? = some (UInt8.ofNat (v / 256 ^ (n - 1 - k) % 256)) := by
  induction n generalizing k with
  | zero => omega
  | succ n ih =>
    cases k with
    | zero => simp [be]
    | succ k =>
      simp only [be, List.getElem?_cons_succ]
      rw [ih k (by omega)]
      congr 5
      omega
theorem be_take (n v k : Nat) (hk : k < n) : (be n v).take (k + 1) = (be n v).take k ++ [UInt8.ofNat (v / 256 ^ (n - 1 - k) % 256)] := by
  rw [List.take_add_one, be_get n v k hk]; rfl
theorem num_foldl (n v : Nat) : ∀ a : Nat, a * 256 ^ n + v % 256 ^ n < 2 ^ 64 → (be n v).foldl (fun v c => (v * 256 + c.toNat) % 2 ^ 64) a = a * 256 ^ n + v % 256 ^ n := by
  induction n with
  | zero => intro a h; simp [be, Nat.mod_one]
  | succ n ih =>
    intro a h
    simp only [be, List.foldl_cons]
    have h1 : (UInt8.ofNat (v / 256 ^ n % 256)).toNat = v / 256 ^ n % 256 := by
      simp
    have h2 : v % 256 ^ (n + 1) = (v / 256 ^ n % 256) * 256 ^ n + v % 256 ^ n := by
      have := Nat.mod_mul (x := v) (a := 256 ^ n) (b := 256)
      rw [Nat.pow_succ, this, Nat.add_comm, Nat.mul_comm]
    have h3 : a * 256 ^ (n + 1) = a * 256 * 256 ^ n := by rw [Nat.pow_succ, Nat.mul_assoc, Nat.mul_comm 256]
    rw [h1]
    have h4 : a * 256 + v / 256 ^ n % 256 < 2 ^ 64 := by
      have h5 : 1 ≤ 256 ^ n := Nat.one_le_iff_ne_zero.2 (by simp)
      have h6 : (a * 256 + v / 256 ^ n % 256) * 1 ≤ (a * 256 + v / 256 ^ n % 256) * 256 ^ n := Nat.mul_le_mul_left _ h5
      rw [h3, h2, ← Nat.add_assoc, ← Nat.add_mul] at h
      omega
    rw [Nat.mod_eq_of_lt h4, ih _ (by rw [Nat.add_mul, Nat.add_assoc, ← h2, ← h3]; exact h), h2, h3, Nat.add_mul]
    omega
theorem num_be (n v : Nat) (h : v < 256 ^ n) (h64 : v < 2 ^ 64) : num (be n v) = v := by
  unfold num
  rw [num_foldl n v 0 (by simp [Nat.mod_eq_of_lt h]; exact h64)]
  simp [Nat.mod_eq_of_lt h]
theorem num_lt (l : List UInt8) : num l < 2 ^ 64 := by
  unfold num
  suffices ∀ (l : List UInt8) (a : Nat), a < 2 ^ 64 → l.foldl (fun v c => (v * 256 + c.toNat) % 2 ^ 64) a < 2 ^ 64 from this l 0 (by decide)
  intro l
  induction l with
  | nil => intro a h; exact h
  | cons c r ih => intro a h; exact ih _ (Nat.mod_lt _ (by decide))
theorem num_snoc (l : List UInt8) (c : UInt8) : num (l ++ [c]) = (num l * 256 + c.toNat) % 2 ^ 64 := by simp [num]
end Wb

namespace Wb
open Go

/-- The octet of a number at a place: waybilllaw7.Sector. -/
def sbyte (n : Int) (i : Nat) : UInt8 := UInt8.ofNat (n / 2 ^ (i % 8) % 256).toNat
theorem sbyte_val (n : Int) (i : Nat) : ((sbyte n i).toNat : Int) = n / 2 ^ (i % 8) % 256 := by
  unfold sbyte
  have h1 : 0 ≤ n / 2 ^ (i % 8) % 256 := Int.emod_nonneg _ (by omega)
  have h2 : n / 2 ^ (i % 8) % 256 < 256 := Int.emod_lt_of_pos _ (by omega)
  generalize n / 2 ^ (i % 8) % 256 = x at *
  simp only [UInt8.toNat_ofNat']
  omega
def sectorUpTo (n : Int) (q : Nat) : Sec := ⟨(List.range 64).map fun i => if i < q then sbyte n i else 0, by simp⟩
def sectorOf (n : Int) : Sec := ⟨(List.range 64).map (sbyte n), by simp⟩
theorem sectorUpTo_zero (n : Int) : sectorUpTo n 0 = Sec.zero := by
  apply Subtype.ext
  simp only [sectorUpTo, Nat.not_lt_zero, if_false]
  rfl
theorem sectorUpTo_all (n : Int) : sectorUpTo n 64 = sectorOf n := by
  apply Subtype.ext
  simp only [sectorUpTo, sectorOf]
  apply List.map_congr_left
  intro i hi
  simp at hi
  simp [hi]
end Wb

namespace Wb
open Go

/-! ### SectFuse -/
def freshCells (a : Nat) : List Cell := (List.range a).map fun (j : Nat) => Cell.zero.write (sectorOf (j : Int))
theorem freshCells_len (a : Nat) : (freshCells a).length = a := by simp [freshCells]
theorem freshCells_succ (a : Nat) : freshCells (a + 1) = freshCells a ++ [Cell.zero.write (sectorOf a)] := by
  simp [freshCells, List.range_succ]

def fuseD (a i : Nat) : Dv := ⟨100, ((a - min i a : Nat) : Int), [([97], freshCells (min i a))]⟩

theorem fuse_start (a : Nat) : (((Dv.new 100).make [97]).1.setFuse a) = fuseD a 0 ∧ ((Dv.new 100).make [97]).2 = 0 := by
  refine ⟨?_, rfl⟩
  simp only [fuseD, Nat.zero_min, Nat.sub_zero]
  have : max (a : Int) (-1) = a := by omega
  simp [Dv.setFuse, this, Dv.make, Dv.new, fget, fset, Dv.done, freshCells]
  rfl

theorem fuse_write (a i : Nat) (ha : a < 32) : (fuseD a i).write [97] i (sectorOf i) = (fuseD a (i + 1), if i < a then 0 else 8) := by
  by_cases h : i < a
  · have h1 : min i a = i := by omega
    have h2 : min (i + 1) a = i + 1 := by omega
    have h3 : ((a - i : Nat) : Int) ≠ 0 := by omega
    simp only [Dv.write, Dv.thr, Dv.len, Dv.cells, fuseD, fget, h1, h2, h3, if_true, if_false, Option.isSome_some, Option.getD_some, freshCells_len, ne_eq, not_true_eq_false]
    rw [if_neg (by omega), if_pos h]
    simp only [used, List.map_cons, List.map_nil, List.sum_cons, List.sum_nil, freshCells_len]
    rw [if_neg (by omega)]
    simp only [fset, if_true, Dv.done, freshCells_succ]
    rw [if_pos (by omega)]
    simp
    omega
  · have h1 : min i a = a := by omega
    have h2 : min (i + 1) a = a := by omega
    simp [Dv.write, Dv.thr, fuseD, h1, h2, h]

theorem fuse_sync (a i : Nat) (h : i < a) : ((fuseD a i).sync [97]).2 = 0 := by
  have h1 : min i a = i := by omega
  have h3 : ((a - i : Nat) : Int) ≠ 0 := by omega
  have ht : (fuseD a i).thr [97] = 0 := by simp only [Dv.thr, fuseD, fget, h1, h3, if_false]; rfl
  unfold Dv.sync
  rw [if_neg (by rw [ht]; simp)]

theorem fuse_out (a i : Nat) (h : a ≤ i) : (fuseD a i).sync [97] = (fuseD a i, 8) ∧ (fuseD a i).make [98] = (fuseD a i, 8) ∧ (fuseD a i).drop [97] = (fuseD a i, 8) := by
  have h1 : min i a = a := by omega
  simp [Dv.sync, Dv.make, Dv.drop, Dv.thr, fuseD, h1]

theorem fuse_len (a i : Nat) : (fuseD a i).len [97] = min i a := by simp [Dv.len, Dv.cells, fuseD, fget, freshCells_len]

theorem crash_ones (a : Nat) : ∀ m, a ≤ m → ∀ l : List Cell, l.length = a → (∀ c ∈ l, c.fresh = true) → (crashCells l (List.replicate m 1)).1 = l.map (fun c => (c, true)) := by
  intro m hm l
  induction l generalizing a m with
  | nil => intro _ _; rfl
  | cons c r ih =>
    intro hl hf
    obtain ⟨m, rfl⟩ : ∃ q, m = q + 1 := ⟨m - 1, by simp at hl; omega⟩
    have hc : c.fresh = true := hf c (by simp)
    have h1 : crashC c (List.replicate (m + 1) 1) = ((c, true), List.replicate m 1) := by
      simp [crashC, hc, List.replicate_succ, pickWay, fallC]
    simp only [crashCells, h1, List.map_cons]
    rw [ih r.length m (by simp at hl; omega) rfl (fun c hc => hf c (List.mem_cons_of_mem _ hc))]

theorem endOf_all {xs : List (Cell × Bool)} (h : ∀ x ∈ xs, x.2 = true) : endOf xs = xs.length := by
  induction xs with
  | nil => rfl
  | cons x r ih =>
    have h1 := ih (fun y hy => h y (List.mem_cons_of_mem _ hy))
    have h2 := h x (by simp)
    simp only [endOf, h1, h2, List.length_cons, if_true]
    split <;> omega

theorem fuse_crash (a i : Nat) (ha : a < 32) (h : a ≤ i) : ((fuseD a i).crash (List.replicate 32 1)).len [97] = a ∧ (((fuseD a i).crash (List.replicate 32 1)).make [98]).2 = 0 := by
  have h1 : min i a = a := by omega
  have hx := crash_ones a 32 (by omega) (freshCells a) (freshCells_len a) (fun c hc => by
    simp only [freshCells, List.mem_map] at hc
    obtain ⟨j, _, rfl⟩ := hc
    rfl)
  have he : (trim (crashCells (freshCells a) (List.replicate 32 1)).1).length = a := by
    rw [trim_len, hx, endOf_all (by simp), List.length_map, freshCells_len]
  generalize List.replicate 32 (1 : Int) = p at *
  constructor
  · simp [Dv.len, Dv.cells, Dv.crash, fuseD, h1, crashFiles, fget, he]
  · simp [Dv.make, Dv.crash, fuseD, crashFiles, fget]
end Wb

namespace Wb
open Go

def bCells (a nb : Nat) : List Cell := (List.range nb).map fun (j : Nat) => Cell.zero.write (sectorOf ((a + j : Nat) : Int))
theorem bCells_len (a nb : Nat) : (bCells a nb).length = nb := by simp [bCells]
theorem bCells_succ (a nb : Nat) : bCells a (nb + 1) = bCells a nb ++ [Cell.zero.write (sectorOf ((a + nb : Nat) : Int))] := by
  simp [bCells, List.range_succ]

def twoF (x y : List Cell) : Files := [([97], x), ([98], y)]
theorem two_a (x y : List Cell) : fget (twoF x y) [97] = some x := rfl
theorem two_b (x y : List Cell) : fget (twoF x y) [98] = some y := rfl
theorem two_sa (x y v : List Cell) : fset (twoF x y) [97] v = twoF v y := rfl
theorem two_sb (x y v : List Cell) : fset (twoF x y) [98] v = twoF x v := rfl
theorem two_used (x y : List Cell) : used (twoF x y) = x.length + y.length := by simp [used, twoF]
theorem two_start (m : Nat) (hm : m < 32) : ∃ D1, (Dv.new m).make [97] = (D1, 0) ∧ D1.make [98] = ((⟨m, -1, twoF [] []⟩ : Dv), 0) := by
  have h : Dv.new m = ⟨m, -1, []⟩ := by
    have : (min (max (m : Int) 0) 100000).toNat = m := by omega
    unfold Dv.new
    rw [this]
  rw [h]
  exact ⟨_, rfl, rfl⟩

def fullD (a m i : Nat) : Dv := ⟨m, -1, twoF (freshCells (min (min i a) m)) (bCells a (min (i - a) (m - a)))⟩

theorem write_a (m : Nat) (x y : List Cell) (k : Nat) (s : Sec) : (⟨m, -1, twoF x y⟩ : Dv).write [97] k s =
    if x.length < k then ((⟨m, -1, twoF x y⟩ : Dv), 1) else if k = x.length then (if m ≤ x.length + y.length then ((⟨m, -1, twoF x y⟩ : Dv), 6) else ((⟨m, -1, twoF (x ++ [Cell.zero.write s]) y⟩ : Dv), 0))
    else ((⟨m, -1, twoF (x.modify k (·.write s)) y⟩ : Dv), 0) := by
  have ht : (⟨m, -1, twoF x y⟩ : Dv).thr [97] = 0 := rfl
  have hc : (⟨m, -1, twoF x y⟩ : Dv).cells [97] = x := rfl
  unfold Dv.write
  rw [if_neg (by rw [ht]; simp)]
  simp only [Dv.len, hc, two_used, two_sa, Int.toNat_natCast]
  by_cases h1 : x.length < k
  · rw [if_pos (by omega), if_pos h1]
  · rw [if_neg (by omega), if_neg h1]
    by_cases h2 : k = x.length
    · rw [if_pos (by omega), if_pos h2]; rfl
    · rw [if_neg (by omega), if_neg h2]; rfl
theorem write_b (m : Nat) (x y : List Cell) (k : Nat) (s : Sec) : (⟨m, -1, twoF x y⟩ : Dv).write [98] k s =
    if y.length < k then ((⟨m, -1, twoF x y⟩ : Dv), 1) else if k = y.length then (if m ≤ x.length + y.length then ((⟨m, -1, twoF x y⟩ : Dv), 6) else ((⟨m, -1, twoF x (y ++ [Cell.zero.write s])⟩ : Dv), 0))
    else ((⟨m, -1, twoF x (y.modify k (·.write s))⟩ : Dv), 0) := by
  have ht : (⟨m, -1, twoF x y⟩ : Dv).thr [98] = 0 := rfl
  have hc : (⟨m, -1, twoF x y⟩ : Dv).cells [98] = y := rfl
  unfold Dv.write
  rw [if_neg (by rw [ht]; simp)]
  simp only [Dv.len, hc, two_used, two_sb, Int.toNat_natCast]
  by_cases h1 : y.length < k
  · rw [if_pos (by omega), if_pos h1]
  · rw [if_neg (by omega), if_neg h1]
    by_cases h2 : k = y.length
    · rw [if_pos (by omega), if_pos h2]; rfl
    · rw [if_neg (by omega), if_neg h2]; rfl

theorem full_a_ok (a m i : Nat) (h : i < a) (hm : i < m) : (fullD a m i).write [97] i (sectorOf i) = (fullD a m (i + 1), 0) := by
  have h1 : min (min i a) m = i := by omega
  have h2 : min (min (i + 1) a) m = i + 1 := by omega
  have h3 : min (i - a) (m - a) = 0 := by omega
  have h4 : min (i + 1 - a) (m - a) = 0 := by omega
  unfold fullD
  rw [h1, h2, h3, h4, write_a, freshCells_len, bCells_len, if_neg (by omega), if_pos rfl, if_neg (by omega), freshCells_succ]
theorem full_a_no (a m i : Nat) (h : i < a) (hm : m ≤ i) : (fullD a m i).write [97] i (sectorOf i) = (fullD a m (i + 1), if m < i then 1 else 6) := by
  have h1 : min (min i a) m = m := by omega
  have h2 : min (min (i + 1) a) m = m := by omega
  have h3 : min (i - a) (m - a) = 0 := by omega
  have h4 : min (i + 1 - a) (m - a) = 0 := by omega
  unfold fullD
  rw [h1, h2, h3, h4, write_a, freshCells_len, bCells_len]
  by_cases h5 : m < i
  · rw [if_pos h5, if_pos h5]
  · rw [if_neg h5, if_pos (by omega), if_pos (by omega), if_neg h5]
theorem full_b_ok (a m i : Nat) (h : a ≤ i) (hm : i < m) : (fullD a m i).write [98] (i - a : Nat) (sectorOf i) = (fullD a m (i + 1), 0) := by
  have h1 : min (min i a) m = a := by omega
  have h2 : min (min (i + 1) a) m = a := by omega
  have h3 : min (i - a) (m - a) = i - a := by omega
  have h4 : min (i + 1 - a) (m - a) = (i - a) + 1 := by omega
  unfold fullD
  rw [h1, h2, h3, h4, write_b, freshCells_len, bCells_len, if_neg (by omega), if_pos rfl, if_neg (by omega), bCells_succ, show a + (i - a) = i by omega]
theorem full_b_no (a m i : Nat) (h : a ≤ i) (hm : m ≤ i) : (fullD a m i).write [98] (i - a : Nat) (sectorOf i) = (fullD a m (i + 1), if (fullD a m (i + 1)).len [98] < i - a then 1 else 6) := by
  have h1 : min (min (i + 1) a) m = min (min i a) m := by omega
  have h2 : min (i + 1 - a) (m - a) = min (i - a) (m - a) := by omega
  have h5 : (fullD a m (i + 1)).len [98] = min (i + 1 - a) (m - a) := by
    show (bCells a (min (i + 1 - a) (m - a))).length = _
    rw [bCells_len]
  rw [h5, h2]
  unfold fullD
  rw [h1, h2, write_b, freshCells_len, bCells_len]
  by_cases h6 : min (i - a) (m - a) < i - a
  · rw [if_pos h6, if_pos h6]
  · rw [if_neg h6, if_pos (by omega), if_pos (by omega), if_neg h6]

theorem full_lens (a m i : Nat) : (fullD a m i).len [97] = min (min i a) m ∧ (fullD a m i).len [98] = min (i - a) (m - a) ∧ used (fullD a m i).files = min (min i a) m + min (i - a) (m - a) := by
  refine ⟨?_, ?_, ?_⟩
  · show (freshCells _).length = _; rw [freshCells_len]
  · show (bCells _ _).length = _; rw [bCells_len]
  · show used (twoF _ _) = _; rw [two_used, freshCells_len, bCells_len]

theorem full_again (a m i : Nat) (h : 0 < min (min i a) m) (s : Sec) : ∃ x, x.length = min (min i a) m ∧ (fullD a m i).write [97] 0 s = ((⟨m, -1, twoF x (bCells a (min (i - a) (m - a)))⟩ : Dv), 0) := by
  refine ⟨(freshCells (min (min i a) m)).modify 0 (·.write s), by simp [freshCells_len], ?_⟩
  have := write_a m (freshCells (min (min i a) m)) (bCells a (min (i - a) (m - a))) 0 s
  rw [freshCells_len, if_neg (by omega), if_neg (by omega)] at this
  exact this
theorem drop_a (m : Nat) (x y : List Cell) : ∃ D, (⟨m, -1, twoF x y⟩ : Dv).drop [97] = (D, 0) ∧ used D.files = y.length ∧ D.len [98] = y.length :=
  ⟨_, rfl, by simp [twoF, fdel, used, Dv.done], rfl⟩
end Wb

namespace Wb
open Go

def oneF (m : Nat) (n : Nm) (l : List Cell) : Dv := ⟨m, -1, [(n, l)]⟩
theorem one_get (n : Nm) (l : List Cell) : fget [(n, l)] n = some l := by simp [fget]
theorem one_set (n : Nm) (l v : List Cell) : fset [(n, l)] n v = [(n, v)] := by simp [fset]
theorem one_used (n : Nm) (l : List Cell) : used [(n, l)] = l.length := by simp [used]
theorem one_thr (m : Nat) (n : Nm) (l : List Cell) : (oneF m n l).thr n = 0 := by simp [oneF, Dv.thr, one_get]
theorem one_cells (m : Nat) (n : Nm) (l : List Cell) : (oneF m n l).cells n = l := by simp [oneF, Dv.cells, one_get]
theorem one_len (m : Nat) (n : Nm) (l : List Cell) : (oneF m n l).len n = l.length := by simp [Dv.len, one_cells]
theorem one_done (m : Nat) (fs : Files) : (⟨m, -1, fs⟩ : Dv).done = ⟨m, -1, fs⟩ := rfl
theorem one_start (m : Nat) (n : Nm) (hm : m ≤ 100000) (h : n ≠ [] ∧ n.length ≤ 20) : (Dv.new m).make n = (oneF m n [], 0) := by
  have h1 : Dv.new m = ⟨m, -1, []⟩ := by
    have : (min (max (m : Int) 0) 100000).toNat = m := by omega
    unfold Dv.new; rw [this]
  rw [h1]
  unfold Dv.make
  rw [if_neg (show ¬ (-1 : Int) = 0 by decide), if_neg (by rintro (e | e); exact h.1 e; omega)]
  rfl
theorem one_append (m : Nat) (n : Nm) (l : List Cell) (s : Sec) (h : l.length < m) : (oneF m n l).write n l.length s = (oneF m n (l ++ [Cell.zero.write s]), 0) := by
  unfold Dv.write
  rw [if_neg (by rw [one_thr]; simp), one_len, one_cells, if_neg (by omega), if_pos rfl]
  simp only [oneF, one_used, one_set]
  rw [if_neg (by omega)]; rfl
theorem one_over (m : Nat) (n : Nm) (l : List Cell) (k : Nat) (s : Sec) (h : k < l.length) : (oneF m n l).write n k s = (oneF m n (l.modify k (·.write s)), 0) := by
  unfold Dv.write
  rw [if_neg (by rw [one_thr]; simp), one_len, one_cells, if_neg (by omega), if_neg (by omega), Int.toNat_natCast]
  simp only [oneF, one_set]; rfl
theorem one_read (m : Nat) (n : Nm) (l : List Cell) (k : Nat) (c : Cell) (h : l[k]? = some c) : (oneF m n l).read n k = if c.nowBad then (Sec.zero, 7) else (c.now, 0) := by
  have hk := (List.getElem?_eq_some_iff.1 h).1
  have hg : fget (oneF m n l).files n = some l := one_get n l
  unfold Dv.read
  rw [hg]
  simp only [Int.toNat_natCast, h]
  rw [if_neg (by omega)]
theorem one_sync (m : Nat) (n : Nm) (l : List Cell) : (oneF m n l).sync n = (oneF m n (l.map fun c => if c.fresh then c.lasts else c), 0) := by
  unfold Dv.sync
  rw [if_neg (by rw [one_thr]; simp), one_cells]
  simp only [oneF, one_set]; rfl
theorem one_crash (m : Nat) (n : Nm) (l : List Cell) (pick : List Int) : (oneF m n l).crash pick = oneF m n (trim (crashCells l pick).1) := rfl

/-! ### what a crash makes of each cell -/
def freshN (l : List Cell) : Nat := (l.filter (·.fresh)).length
theorem crashCells_rest (l : List Cell) : ∀ pick, (crashCells l pick).2 = pick.drop (freshN l) := by
  induction l with
  | nil => intro pick; rfl
  | cons c r ih =>
    intro pick
    simp only [crashCells, ih]
    cases hc : c.fresh
    · simp [crashC, hc, freshN]
    · simp [crashC, hc, freshN, Nat.add_comm]
theorem crashCells_get (l : List Cell) : ∀ pick (k : Nat), (crashCells l pick).1[k]? = l[k]?.map fun c => (crashC c (pick.drop (freshN (l.take k)))).1 := by
  induction l with
  | nil => intro pick k; simp [crashCells]
  | cons c r ih =>
    intro pick k
    cases k with
    | zero => simp [crashCells, freshN]
    | succ k =>
      simp only [crashCells, List.getElem?_cons_succ, ih, List.take_succ_cons]
      cases hc : c.fresh
      · simp [crashC, hc, freshN]
      · simp [crashC, hc, freshN, Nat.add_comm]
theorem trim_get (xs : List (Cell × Bool)) (k : Nat) (h : k < endOf xs) : (trim xs)[k]? = xs[k]?.map outC := by
  unfold trim
  rw [List.getElem?_take_of_lt h, List.getElem?_map]

/-! ### SectEnds -/
theorem freshOk : ∀ q, freshN (freshCells q) = q := by
  intro q
  have : (freshCells q).filter (·.fresh) = freshCells q := by
    rw [List.filter_eq_self]
    intro c hc
    simp only [freshCells, List.mem_map] at hc
    obtain ⟨j, _, rfl⟩ := hc
    rfl
  simp [freshN, this, freshCells_len]
theorem fresh_take (q k : Nat) (h : k ≤ q) : (freshCells q).take k = freshCells k := by
  simp only [freshCells, ← List.map_take, List.take_range, Nat.min_eq_left h]
theorem fresh_get (q k : Nat) (h : k < q) : (freshCells q)[k]? = some (Cell.zero.write (sectorOf (k : Int))) := by
  simp [freshCells, h]
def lastOf (xs : List Int) (q : Nat) : Nat := endOf (crashCells (freshCells q) xs).1
theorem lastOf_zero (xs : List Int) : lastOf xs 0 = 0 := rfl
theorem way_cases (x : Int) : pickWay x = 0 ∨ pickWay x = 1 ∨ pickWay x = 2 := by unfold pickWay; omega
theorem lastOf_succ (xs : List Int) (q : Nat) (x : Int) (hx : xs[q]? = some x) : lastOf xs (q + 1) = if pickWay x ≠ 0 then q + 1 else lastOf xs q := by
  unfold lastOf
  rw [freshCells_succ, crashCells_snoc, endOf_snoc, crashCells_rest, freshOk, crashCells_len, freshCells_len]
  have hd : xs.drop q = x :: xs.drop (q + 1) := by
    obtain ⟨h1, rfl⟩ := List.getElem?_eq_some_iff.1 hx
    exact List.drop_eq_getElem_cons h1
  rw [hd]
  have : (crashC (Cell.zero.write (sectorOf (q : Int))) (x :: xs.drop (q + 1))).1.2 = decide (pickWay x ≠ 0) := by
    rcases way_cases x with e | e | e <;> simp [crashC, Cell.write, fallC, e, Cell.zero]
  rw [this]
  by_cases h : pickWay x = 0 <;> simp [h]
theorem lastOf_le (xs : List Int) (q : Nat) : lastOf xs q ≤ q := by
  have := endOf_le (crashCells (freshCells q) xs).1
  rwa [crashCells_len, freshCells_len] at this

def EndsRel (D : Dv) (xs : List Int) (last i : Nat) : Prop :=
  ∃ l : List Cell, D = oneF 50 [102] l ∧ l.length = last ∧ ∀ j, i ≤ j → j < last → ∃ c x, l[j]? = some c ∧ xs[j]? = some x ∧ (pickWay x = 1 → c.nowBad = false ∧ c.now = sectorOf j) ∧ (pickWay x ≠ 1 → c.nowBad = true)
theorem ends_start (xs : List Int) (n : Nat) (hn : n ≤ xs.length) : EndsRel ((oneF 50 [102] (freshCells n)).crash xs) xs (lastOf xs n) 0 := by
  rw [one_crash]
  refine ⟨_, rfl, trim_len _, fun j _ hj => ?_⟩
  have hjn : j < n := Nat.lt_of_lt_of_le hj (lastOf_le xs n)
  obtain ⟨x, hx⟩ : ∃ x, xs[j]? = some x := ⟨xs[j]'(by omega), List.getElem?_eq_getElem _⟩
  have hd : xs.drop j = x :: xs.drop (j + 1) := by
    obtain ⟨h1, rfl⟩ := List.getElem?_eq_some_iff.1 hx
    exact List.drop_eq_getElem_cons h1
  refine ⟨outC (crashC (Cell.zero.write (sectorOf (j : Int))) (x :: xs.drop (j + 1))).1, x, ?_, hx, ?_⟩
  · rw [trim_get _ _ hj, crashCells_get, fresh_get _ _ hjn, fresh_take _ _ (by omega), freshOk, hd]
    simp only [Option.map_some]
  · rcases way_cases x with e | e | e <;> simp [crashC, Cell.write, fallC, e, Cell.zero, outC, Cell.lasts, lost]
theorem ends_len {D : Dv} {xs : List Int} {last i : Nat} (h : EndsRel D xs last i) : D.len [102] = last := by
  obtain ⟨l, rfl, hl, _⟩ := h
  rw [one_len, hl]
theorem ends_good {D : Dv} {xs : List Int} {last i : Nat} {x : Int} (h : EndsRel D xs last i) (hi : i < last) (hx : xs[i]? = some x) (hw : pickWay x = 1) : D.read [102] i = (sectorOf i, 0) ∧ EndsRel D xs last (i + 1) := by
  obtain ⟨l, rfl, hl, hc⟩ := h
  obtain ⟨c, x', h1, h2, h3, _⟩ := hc i (Nat.le_refl _) hi
  rw [hx] at h2; cases h2
  obtain ⟨h5, h6⟩ := h3 hw
  refine ⟨by rw [one_read _ _ _ _ c h1, h5, h6]; rfl, l, rfl, hl, fun j hj => hc j (by omega)⟩
theorem ends_bad {D : Dv} {xs : List Int} {last i : Nat} {x : Int} (h : EndsRel D xs last i) (hi : i < last) (hx : xs[i]? = some x) (hw : pickWay x ≠ 1) :
    ∃ D', D.read [102] i = (Sec.zero, 7) ∧ D.write [102] i (sectorOf (i + 9)) = (D', 0) ∧ D'.read [102] i = (sectorOf (i + 9), 0) ∧ EndsRel D' xs last (i + 1) := by
  obtain ⟨l, rfl, hl, hc⟩ := h
  obtain ⟨c, x', h1, h2, _, h4⟩ := hc i (Nat.le_refl _) hi
  rw [hx] at h2; cases h2
  refine ⟨oneF 50 [102] (l.modify i (·.write (sectorOf (i + 9)))), by rw [one_read _ _ _ _ c h1, h4 hw]; rfl, one_over _ _ _ _ _ (by omega), ?_, _, rfl, by simp [hl], fun j hj hj2 => ?_⟩
  · rw [one_read _ _ _ _ (c.write (sectorOf (i + 9))) (by rw [List.getElem?_modify, h1]; simp)]
    rfl
  · obtain ⟨c', x', k1, k2⟩ := hc j (by omega) hj2
    refine ⟨c', x', ?_, k2⟩
    rw [List.getElem?_modify, k1]; simp only [Option.map_eq_map, Option.map_some]; rw [if_neg (by omega)]
end Wb

namespace Wb
open Go

def syncCell0 (k : Nat) : Cell := (Cell.zero.write (sectorOf (k : Int))).lasts
def ovCell (n : Nat) (ov : List Bool) (k : Nat) : Cell :=
  if k < n then (if ov.getD k false then (syncCell0 k).write (sectorOf (100 + (k : Int))) else syncCell0 k) else Cell.zero.write (sectorOf (100 + (k : Int)))
def ovL (n : Nat) (ov : List Bool) (long : Nat) : List Cell := (List.range long).map (ovCell n ov)
theorem ovL_len (n : Nat) (ov : List Bool) (long : Nat) : (ovL n ov long).length = long := by simp [ovL]
theorem ovL_get (n : Nat) (ov : List Bool) (long k : Nat) (h : k < long) : (ovL n ov long)[k]? = some (ovCell n ov k) := by simp [ovL, h]
/-- What is over is over behind the first n. -/
def OvOk (n : Nat) (ov : List Bool) (long : Nat) : Prop := n ≤ long ∧ long ≤ 100 ∧ ∀ k, n ≤ k → k < long → ov.getD k false = true

theorem syncs_start (n : Nat) (hn : n ≤ 16) (z : Nat) : (oneF 100 [97] (freshCells n)).sync [97] = (oneF 100 [97] (ovL n (List.replicate z false) n), 0) ∧ OvOk n (List.replicate z false) n := by
  refine ⟨?_, Nat.le_refl _, by omega, fun k h1 h2 => by omega⟩
  rw [one_sync]
  congr 2
  apply List.ext_getElem?
  intro k
  by_cases hk : k < n
  · rw [ovL_get _ _ _ _ hk, List.getElem?_map, fresh_get _ _ hk]
    have : (List.replicate z false).getD k false = false := by
      rw [List.getD_eq_getElem?_getD, List.getElem?_replicate]; split <;> rfl
    simp only [ovCell, hk, this, if_true, Option.map_some]
    rfl
  · rw [List.getElem?_eq_none (by simp [freshCells_len]; omega), List.getElem?_eq_none (by rw [ovL_len]; omega)]

theorem getD_set (ov : List Bool) (k j : Nat) (hk : k < ov.length) : (ov.set k true).getD j false = if j = k then true else ov.getD j false := by
  simp only [List.getD_eq_getElem?_getD, List.getElem?_set]
  by_cases h : k = j
  · subst h; simp [hk]
  · simp [h, Ne.symm h]

theorem write_write (c : Cell) (s : Sec) : (c.write s).write s = c.write s := rfl

theorem syncs_write (n : Nat) (ov : List Bool) (long k : Nat) (h : OvOk n ov long) (hl : long < 100) (hk : k ≤ long) (hov : k < ov.length) :
    (oneF 100 [97] (ovL n ov long)).write [97] k (sectorOf (100 + (k : Int))) = (oneF 100 [97] (ovL n (ov.set k true) (max long (k + 1))), 0) ∧ OvOk n (ov.set k true) (max long (k + 1)) := by
  obtain ⟨h1, h2, h3⟩ := h
  refine ⟨?_, by omega, by omega, fun j hj hj2 => ?_⟩
  · by_cases hkl : k = long
    · subst hkl
      have := one_append 100 [97] (ovL n ov k) (sectorOf (100 + (k : Int))) (by rw [ovL_len]; exact hl)
      rw [ovL_len] at this
      rw [this, show max k (k + 1) = k + 1 by omega]
      congr 2
      apply List.ext_getElem?
      intro j
      rcases Nat.lt_trichotomy j k with hj | rfl | hj
      · rw [List.getElem?_append_left (by rw [ovL_len]; exact hj), ovL_get _ _ _ _ hj, ovL_get _ _ _ _ (by omega)]
        unfold ovCell
        rw [getD_set _ _ _ hov, if_neg (show ¬ j = k by omega)]
      · rw [List.getElem?_append_right (by rw [ovL_len]; omega), ovL_len, ovL_get _ _ _ _ (by omega)]
        simp only [Nat.sub_self, List.getElem?_cons_zero]
        unfold ovCell
        rw [if_neg (by omega)]
      · rw [List.getElem?_eq_none (by simp [ovL_len]; omega), List.getElem?_eq_none (by rw [ovL_len]; omega)]
    · have hk2 : k < long := by omega
      rw [one_over _ _ _ _ _ (by rw [ovL_len]; exact hk2), show max long (k + 1) = long by omega]
      congr 2
      apply List.ext_getElem?
      intro j
      rw [List.getElem?_modify]
      by_cases hj : j < long
      · rw [ovL_get _ _ _ _ hj, ovL_get _ _ _ _ hj]
        simp only [Option.map_eq_map, Option.map_some, Option.some.injEq]
        unfold ovCell
        rw [getD_set _ _ _ hov]
        by_cases hjk : k = j
        · subst hjk
          simp only [if_true]
          by_cases hkn : k < n
          · simp only [hkn, if_true]
            cases ov.getD k false <;> rfl
          · simp only [hkn, if_false]; rfl
        · rw [if_neg hjk]
          simp only [show (j = k) = False from propext ⟨fun e => hjk e.symm, False.elim⟩, if_false]
      · rw [List.getElem?_eq_none (by rw [ovL_len]; omega), List.getElem?_eq_none (by rw [ovL_len]; omega)]; rfl
  · rw [getD_set _ _ _ hov]
    split
    · rfl
    · exact h3 j hj (by omega)
theorem endOf_true (xs : List (Cell × Bool)) (k : Nat) (x : Cell × Bool) (h : xs[k]? = some x) (hx : x.2 = true) : k < endOf xs := by
  induction xs generalizing k with
  | nil => simp at h
  | cons y r ih =>
    cases k with
    | zero =>
      simp only [List.getElem?_cons_zero, Option.some.injEq] at h
      subst h
      simp only [endOf, hx, if_true]
      split <;> omega
    | succ k =>
      simp only [List.getElem?_cons_succ] at h
      have := ih k h
      simp only [endOf]
      rw [if_pos (by omega)]
      omega

theorem crashC_way (c : Cell) (p : List Int) (hc : c.fresh = true) : ∃ x : Int, (x = 0 ∨ x = 1 ∨ x = 2) ∧ (crashC c p).1 = fallC c x := by
  unfold crashC
  rw [if_pos hc]
  cases p with
  | nil => exact ⟨0, .inl rfl, rfl⟩
  | cons y r => exact ⟨pickWay y, way_cases y, rfl⟩

/-- What a sector reads behind the crash. -/
def SyncsSaid (n : Nat) (ov : List Bool) (k : Nat) (r : Sec × Int) : Prop :=
  (ov.getD k false = false ∧ k < n ∧ r = (sectorOf (k : Int), 0)) ∨
  (ov.getD k false = true ∧ (r = (Sec.zero, 7) ∨ r = (sectorOf (100 + (k : Int)), 0) ∨ (k < n ∧ r = (sectorOf (k : Int), 0))))

theorem syncs_crash (n : Nat) (ov : List Bool) (long : Nat) (pick : List Int) (h : OvOk n ov long) : ∃ D, (oneF 100 [97] (ovL n ov long)).crash pick = D ∧ n ≤ D.len [97] ∧ D.len [97] ≤ long ∧
    ∀ k : Nat, k < D.len [97] → SyncsSaid n ov k (D.read [97] k) := by
  obtain ⟨h1, h2, h3⟩ := h
  refine ⟨_, one_crash _ _ _ _, ?_⟩
  rw [one_len, trim_len]
  have hle := endOf_le (crashCells (ovL n ov long) pick).1
  rw [crashCells_len, ovL_len] at hle
  refine ⟨?_, hle, fun k hk => ?_⟩
  · by_cases h0 : n = 0
    · omega
    · have hk : n - 1 < long := by omega
      have hg := crashCells_get (ovL n ov long) pick (n - 1)
      rw [ovL_get _ _ _ _ hk] at hg
      have := endOf_true _ _ _ hg (by
        generalize pick.drop _ = p
        unfold ovCell
        rw [if_pos (by omega)]
        cases ov.getD (n - 1) false
        · rfl
        · simp only [if_true, crashC, Cell.write, fallC, syncCell0, Cell.lasts]
          cases p <;> simp <;> (split <;> (try rfl) <;> (split <;> rfl)))
      omega
  · have hkl : k < long := by omega
    have hg := crashCells_get (ovL n ov long) pick k
    rw [ovL_get _ _ _ _ hkl] at hg
    have ht := trim_get _ _ hk
    rw [hg] at ht
    rw [one_read _ _ _ _ _ ht]
    generalize pick.drop _ = p
    unfold SyncsSaid ovCell
    cases ho : ov.getD k false with
    | false =>
      have hkn : k < n := by
        rcases Nat.lt_or_ge k n with h | h
        · exact h
        · rw [h3 k h hkl] at ho; cases ho
      left
      refine ⟨rfl, hkn, ?_⟩
      simp only [hkn, if_true]
      rfl
    | true =>
      right
      refine ⟨rfl, ?_⟩
      by_cases hkn : k < n
      · simp only [hkn, if_true, true_and]
        obtain ⟨x, hx3, hx⟩ := crashC_way ((syncCell0 k).write (sectorOf (100 + (k : Int)))) p rfl
        rw [hx]
        rcases hx3 with e | e | e <;> rw [e]
        · right; right; rfl
        · right; left; rfl
        · left; rfl
      · simp only [hkn, if_false, false_and, or_false]
        obtain ⟨x, hx3, hx⟩ := crashC_way (Cell.zero.write (sectorOf (100 + (k : Int)))) p rfl
        rw [hx]
        rcases hx3 with e | e | e <;> rw [e]
        · left; rfl
        · right; rfl
        · left; rfl
end Wb

namespace Wb
open Go

def DropsOk (D : Dv) (i : Nat) : Prop := D.fuse = -1 ∧ sorted D.files ∧ (∀ a ∈ D.files, a.2 = []) ∧ D.files.length ≤ i

theorem fset_len (fs : Files) (n : Nm) (v : List Cell) : (fset fs n v).length ≤ fs.length + 1 := by
  induction fs with
  | nil => simp [fset]
  | cons a r ih =>
    obtain ⟨m, x⟩ := a
    simp only [fset]
    split
    · simp
    · split <;> simp; omega
theorem fdel_len (fs : Files) (n : Nm) : (fdel fs n).length ≤ fs.length := by
  induction fs with
  | nil => simp [fdel]
  | cons a r ih =>
    obtain ⟨m, x⟩ := a
    simp only [fdel]
    split <;> simp; omega

theorem drops_start (m : Int) (i : Nat) : DropsOk (Dv.new m) i := ⟨rfl, List.Pairwise.nil, by simp [Dv.new], by simp [Dv.new]⟩
theorem DropsOk.mono {D : Dv} {i j : Nat} (h : DropsOk D i) (hj : i ≤ j) : DropsOk D j := ⟨h.1, h.2.1, h.2.2.1, Nat.le_trans h.2.2.2 hj⟩

theorem drops_make_bad {D : Dv} {i : Nat} (h : DropsOk D i) {n : Nm} (hn : n = [] ∨ 20 < n.length) : D.make n = (D, 1) := by
  simp [Dv.make, h.1, hn]
theorem drops_make_there {D : Dv} {i : Nat} (h : DropsOk D i) {n : Nm} (hn : ¬ (n = [] ∨ 20 < n.length)) (hf : (fget D.files n).isSome = true) : D.make n = (D, 9) := by
  simp [Dv.make, h.1, hn, hf]
theorem drops_make_new {D : Dv} {i : Nat} (h : DropsOk D i) {n : Nm} (hn : ¬ (n = [] ∨ 20 < n.length)) (hf : (fget D.files n).isSome = false) :
    ∃ D', D.make n = (D', 0) ∧ DropsOk D' (i + 1) ∧ D'.files = fset D.files n [] := by
  refine ⟨_, by simp [Dv.make, h.1, hn, hf]; rfl, ⟨by simp [Dv.done], sorted_fset h.2.1 _ _, fun a ha => ?_, by have := fset_len D.files n []; have := h.2.2.2; simp [Dv.done]; omega⟩, rfl⟩
  rcases mem_fset ha with e | ha
  · rw [e]
  · exact h.2.2.1 a ha
theorem drops_drop_no {D : Dv} {i : Nat} (h : DropsOk D i) {n : Nm} (hf : (fget D.files n).isSome = false) : D.drop n = (D, 10) := by
  simp [Dv.drop, Dv.thr, h.1, hf]
theorem drops_drop_yes {D : Dv} {i : Nat} (h : DropsOk D i) {n : Nm} (hf : (fget D.files n).isSome = true) :
    ∃ D', D.drop n = (D', 0) ∧ DropsOk D' i ∧ D'.files = fdel D.files n := by
  refine ⟨_, by simp [Dv.drop, Dv.thr, h.1, hf]; rfl, ⟨by simp [Dv.done], sorted_fdel h.2.1 _, fun a ha => h.2.2.1 a (mem_fdel ha), Nat.le_trans (by simp [Dv.done]; exact fdel_len _ _) h.2.2.2⟩, rfl⟩
theorem crashFiles_nil {fs : Files} (h : ∀ a ∈ fs, a.2 = []) : crashFiles fs [] = (fs, []) := by
  induction fs with
  | nil => rfl
  | cons a r ih =>
    obtain ⟨m, x⟩ := a
    have hx : x = [] := h (m, x) (by simp)
    subst hx
    simp [crashFiles, crashCells, ih (fun a ha => h a (List.mem_cons_of_mem _ ha)), trim, endOf]
theorem drops_crash {D : Dv} {i : Nat} (h : DropsOk D i) : D.crash [] = D := by
  obtain ⟨m, f, fs⟩ := D
  have h1 : f = -1 := h.1
  subst h1
  simp [Dv.crash, crashFiles_nil h.2.2.1]
theorem used_nil {fs : Files} (h : ∀ a ∈ fs, a.2 = []) : used fs = 0 := by
  induction fs with
  | nil => rfl
  | cons a r ih =>
    have h1 := ih (fun b hb => h b (List.mem_cons_of_mem _ hb))
    have h2 := h a (by simp)
    unfold used at *
    simp [h2, h1]
theorem drops_used {D : Dv} {i : Nat} (h : DropsOk D i) : used D.files = 0 := used_nil h.2.2.1
theorem drops_len {D : Dv} {i : Nat} (h : DropsOk D i) (n : Nm) : D.len n = 0 := by
  unfold Dv.len Dv.cells
  cases hf : fget D.files n with
  | none => rfl
  | some l => rw [show l = [] from h.2.2.1 (n, l) (fget_mem hf)]; rfl
theorem names_at {D : Dv} (hs : sorted D.files) {k : Nat} {n : Nm} (h : D.names[k]? = some n) : (fget D.files n).isSome = true := by
  unfold Dv.names at h
  rw [List.getElem?_map] at h
  cases hk : D.files[k]? with
  | none => rw [hk] at h; cases h
  | some a =>
    rw [hk] at h
    simp only [Option.map_some, Option.some.injEq] at h
    subst h
    rw [fget_of_mem hs (n := a.1) (v := a.2) (List.mem_of_getElem? hk)]; rfl
theorem names_rise {D : Dv} (hs : sorted D.files) {k : Nat} {m n : Nm} (hm : D.names[k]? = some m) (hn : D.names[k + 1]? = some n) : m < n := by
  unfold Dv.names at hm hn
  rw [List.getElem?_map] at hm hn
  have hp := List.pairwise_iff_getElem.1 hs
  cases hk : D.files[k]? with
  | none => rw [hk] at hm; cases hm
  | some a =>
    cases hk2 : D.files[k + 1]? with
    | none => rw [hk2] at hn; cases hn
    | some b =>
      rw [hk] at hm; rw [hk2] at hn
      simp only [Option.map_some, Option.some.injEq] at hm hn
      subst hm hn
      obtain ⟨h1, rfl⟩ := List.getElem?_eq_some_iff.1 hk
      obtain ⟨h2, rfl⟩ := List.getElem?_eq_some_iff.1 hk2
      exact hp k (k + 1) h1 h2 (by omega)
end Wb

namespace Wb
open Go

/-- A meta. -/
structure Mt where
  gen : Nat
  root : Nat
  count : Nat
  mark : Nat
def markL : List UInt8 := [119, 97, 121, 98, 105, 108, 108, 49]
def metaL (m : Mt) : List UInt8 := markL ++ be 8 m.gen ++ be 8 m.root ++ be 8 m.count ++ be 8 m.mark
theorem metaL_len (m : Mt) : (metaL m).length = 40 := by simp [metaL, markL, be_len]
def metaS (m : Mt) : Sec := ⟨metaL m ++ List.replicate 24 0, by simp [metaL_len]⟩
structure Mt.ok (m : Mt) : Prop where
  gen : m.gen < 2 ^ 64
  root : m.root < 2 ^ 63
  count : m.count < 2 ^ 63
  mark : m.mark < 2 ^ 64
def rdN (s : Sec) (i : Nat) : Nat := num ((s.1.drop (8 * i)).take 8)
def metaP (s : Sec) : Mt := ⟨rdN s 1, rdN s 2, rdN s 3, rdN s 4⟩
def metaFits (m : Mt) (id : Nat) : Prop := m.gen ≠ 0 ∧ m.gen % 2 = id ∧ m.root ≤ 4611686018427387904 ∧ m.count ≤ 4611686018427387904
instance (m : Mt) (id : Nat) : Decidable (metaFits m id) := by unfold metaFits; infer_instance
/-- What stands where a meta may be: a meta, and whether it is one. -/
def metaAt (r : Sec × Int) (id long : Nat) : Mt × Bool :=
  if r.2 = 0 ∧ r.1.1.take 8 = markL ∧ metaFits (metaP r.1) id then
    (metaP r.1, decide (metaS (metaP r.1) = r.1 ∧ ((metaP r.1).root = 0 ∨ (2 ≤ (metaP r.1).root ∧ (metaP r.1).root < long))))
  else (⟨0, 0, 0, 0⟩, false)
theorem metaP_ok {s : Sec} {id : Nat} (h : metaFits (metaP s) id) : (metaP s).ok :=
  ⟨num_lt _, by have := h.2.2.1; omega, by have := h.2.2.2; omega, num_lt _⟩
end Wb

namespace Wb
open Go

/-- How many pages there are. -/
def pagesOf (D : Dv) : Nat := D.len [112] / 8
theorem len_small {D : Dv} (h : D.wf) (n : Nm) : D.len n ≤ 100000 := by
  unfold Dv.len Dv.cells
  cases hf : fget D.files n with
  | none => simp
  | some l =>
    have h1 := used_le hf
    have h2 := h.used
    have h3 := h.most
    simp only [Option.getD_some]
    omega
theorem pages_small {D : Dv} (h : D.wf) : pagesOf D ≤ 12500 := by
  have := len_small h [112]
  unfold pagesOf
  omega
/-- A file of pages, plain. -/
structure Pg where
  d : Dv
  mt : Mt
  used : Nat → Bool
  fresh : List Nat
  dead : Bool
def isPg (F : Pg) (k : Int) : Bool := decide (2 ≤ k) && decide (k < pagesOf F.d)
def isLeast (F : Pg) (r : Nat) : Prop := 2 ≤ r ∧ (∀ j, 2 ≤ j → j < r → j < pagesOf F.d ∧ F.used j = true) ∧ (pagesOf F.d ≤ r ∨ F.used r = false)
def LeastRel (F : Pg) (k : Nat) : Prop := 2 ≤ k ∧ (∀ j, 2 ≤ j → j < k → j < pagesOf F.d ∧ F.used j = true)
theorem LeastRel.le {F : Pg} {k : Nat} (h : LeastRel F k) : k ≤ pagesOf F.d + 2 := by
  rcases Nat.lt_or_ge 2 k with h2 | h2
  · have := (h.2 (k - 1) (by omega) (by omega)).1
    omega
  · omega
def freeUpTo (F : Pg) (k : Nat) : List Nat := (List.range k).filter fun j => decide (2 ≤ j) && !F.used j
def freeOf (F : Pg) : List Nat := freeUpTo F (pagesOf F.d)
theorem freeUpTo_succ (F : Pg) (k : Nat) (h2 : 2 ≤ k) : freeUpTo F (k + 1) = freeUpTo F k ++ if F.used k = true then [] else [k] := by
  unfold freeUpTo
  rw [List.range_succ, List.filter_append]
  congr 1
  cases hu : F.used k <;> simp [hu, h2]
theorem freeUpTo_two (F : Pg) (k : Nat) (h : k ≤ 2) : freeUpTo F k = [] := by
  unfold freeUpTo
  rw [List.filter_eq_nil_iff]
  intro j hj
  have := List.mem_range.1 hj
  have h3 : ¬ 2 ≤ j := by omega
  simp [h3]
theorem freeUpTo_len (F : Pg) (k : Nat) : (freeUpTo F k).length ≤ k := by
  have := List.length_filter_le (fun j => decide (2 ≤ j) && !F.used j) (List.range k)
  simpa [freeUpTo] using this
/-- These are pages, rising. -/
def Rising (F : Pg) (l : List Int) : Prop := ∀ (j : Nat) x, l[j]? = some x → isPg F x = true ∧ ∀ y, 0 < j → l[j - 1]? = some y → y < x
def RisingTo (F : Pg) (l : List Int) (k : Nat) : Prop := ∀ (j : Nat) x, j < k → l[j]? = some x → isPg F x = true ∧ ∀ y, 0 < j → l[j - 1]? = some y → y < x
open Classical in
noncomputable def risingB (F : Pg) (l : List Int) : Bool := decide (Rising F l)
theorem risingB_true {F : Pg} {l : List Int} (h : Rising F l) : risingB F l = true := by unfold risingB; simpa using h
theorem risingB_false {F : Pg} {l : List Int} (h : ¬ Rising F l) : risingB F l = false := by unfold risingB; simpa using h
def keptU (l : List Int) (j : Nat) : Bool := decide ((j : Int) ∈ l)
def keepP (F : Pg) (l : List Int) : Pg := { F with used := keptU l, fresh := [] }
theorem keptU_succ {l : List Int} {q k : Nat} (h : l[q]? = some (k : Int)) : keptU (l.take (q + 1)) = fun j => keptU (l.take q) j || decide (j = k) := by
  funext j
  unfold keptU
  rw [List.take_add_one, h]
  simp only [Option.toList_some, List.mem_append, List.mem_singleton, Bool.decide_or]
  congr 1
  simp only [decide_eq_decide]
  omega
theorem isPg_small {F : Pg} {x : Int} (h : isPg F x = true) (hw : F.d.wf) : 2 ≤ x ∧ x ≤ 12500 := by
  unfold isPg at h
  simp only [Bool.and_eq_true, decide_eq_true_eq] at h
  have := pages_small hw
  omega
def dropP (F : Pg) : Pg := { F with used := fun j => F.used j && !decide (j ∈ F.fresh), fresh := [] }
def dropU (F : Pg) (q : Nat) (j : Nat) : Bool := F.used j && !decide (j ∈ F.fresh.take q)
theorem dropU_zero (F : Pg) : dropU F 0 = F.used := by funext j; simp [dropU]
theorem dropU_all (F : Pg) : dropU F F.fresh.length = (dropP F).used := by funext j; simp [dropU, dropP]
theorem dropU_succ {F : Pg} {q k : Nat} (h : F.fresh[q]? = some k) : dropU F (q + 1) = fun j => dropU F q j && !decide (j = k) := by
  funext j
  unfold dropU
  rw [List.take_add_one, h]
  simp only [Option.toList_some, List.mem_append, List.mem_singleton, Bool.decide_or, Bool.not_or, Bool.and_assoc]
/-- The octets of the first q sectors from sector b on; or the first error. -/
def readUp (D : Dv) (b : Nat) : Nat → List UInt8 × Int
  | 0 => ([], 0)
  | q + 1 => if (readUp D b q).2 = 0 then (if (D.read [112] ((b : Int) + q)).2 = 0 then ((readUp D b q).1 ++ (D.read [112] ((b : Int) + q)).1.1, 0) else ([], (D.read [112] ((b : Int) + q)).2)) else readUp D b q
theorem readUp_bad {D : Dv} {b q : Nat} (h : (readUp D b q).2 ≠ 0) : ∀ k, readUp D b (q + k) = readUp D b q
  | 0 => rfl
  | k + 1 => by
    rw [← Nat.add_assoc, readUp, readUp_bad h k, if_neg h]
theorem readUp_len {D : Dv} {b q : Nat} (h : (readUp D b q).2 = 0) : (readUp D b q).1.length = 64 * q := by
  induction q with
  | zero => rfl
  | succ q ih =>
    rw [readUp] at h ⊢
    by_cases h1 : (readUp D b q).2 = 0
    · rw [if_pos h1] at h ⊢
      by_cases h2 : (D.read [112] ((b : Int) + q)).2 = 0
      · rw [if_pos h2]
        simp only [List.length_append, ih h1, (D.read [112] ((b : Int) + q)).1.2]
        omega
      · rw [if_neg h2] at h; exact absurd h h2
    · rw [if_neg h1] at h; exact absurd h h1
/-- A page's octets, or the error. -/
def readP (F : Pg) (id : Int) : List UInt8 × Int := if isPg F id = true then readUp F.d (id.toNat * 8) 8 else ([], 1)
end Wb

namespace Wb
open Go

/-- q sectors written one behind the other from sector b on, till one falls. -/
def wrUp (D : Dv) (b : Nat) (f : Nat → Sec) : Nat → Dv × Int
  | 0 => (D, 0)
  | q + 1 => if (wrUp D b f q).2 = 0 then (wrUp D b f q).1.write [112] ((b : Int) + q) (f q) else wrUp D b f q
theorem wrUp_bad {D : Dv} {b : Nat} {f : Nat → Sec} {q : Nat} (h : (wrUp D b f q).2 ≠ 0) : ∀ k, wrUp D b f (q + k) = wrUp D b f q
  | 0 => rfl
  | k + 1 => by
    have ih := wrUp_bad h k
    rw [← Nat.add_assoc, wrUp, ih, if_neg h]
theorem wrUp_step {D D' : Dv} {b : Nat} {f : Nat → Sec} {q : Nat} (h : wrUp D b f q = (D', 0)) : wrUp D b f (q + 1) = D'.write [112] ((b : Int) + q) (f q) := by
  rw [wrUp, h]; rfl

def padS (l : List UInt8) : Sec := ⟨l.take 64 ++ List.replicate (64 - l.length) 0, by rw [List.length_append, List.length_take, List.length_replicate]; omega⟩
def pageSec (l : List UInt8) (i : Nat) : Sec := padS (l.drop (64 * i))
/-- A page's octets, noughts behind. -/
def wholeP (l : List UInt8) : List UInt8 := l ++ List.replicate (512 - l.length) 0

def mt0 : Mt := ⟨0, 0, 0, 0⟩
def mt1 : Mt := ⟨1, 0, 0, 0⟩
def beginSec (k : Nat) : Sec := if k = 8 then metaS mt1 else Sec.zero
def begunD (D : Dv) : Dv × Int := if (D.make [112]).2 = 0 then wrUp (D.make [112]).1 0 beginSec 16 else D.make [112]
def betterMt (a : Mt) (r : Mt × Bool) : Mt := if r.2 = true ∧ a.gen < r.1.gen then r.1 else a
def bestMt (D : Dv) : Mt := betterMt (betterMt mt0 (metaAt (D.read [112] 0) 0 (pagesOf D))) (metaAt (D.read [112] 8) 1 (pagesOf D))
/-- The device behind what an opening begins with. -/
def openD (D : Dv) : Dv × Int :=
  if [112] ∈ D.names then D.sync [112] else if (begunD D).2 = 0 then (begunD D).1.sync [112] else begunD D
def openE (D : Dv) : Int := if (openD D).2 ≠ 0 then (openD D).2 else if (bestMt (openD D).1).gen = 0 ∨ pagesOf (openD D).1 < 2 then 12 else 0

/-- A meta is written. -/
def wrMeta (D : Dv) (m : Mt) : Dv × Int :=
  if (D.sync [112]).2 = 0 then
    (if ((D.sync [112]).1.write [112] ((m.gen % 2 : Nat) * 8) (metaS m)).2 = 0 then ((D.sync [112]).1.write [112] ((m.gen % 2 : Nat) * 8) (metaS m)).1.sync [112] else (D.sync [112]).1.write [112] ((m.gen % 2 : Nat) * 8) (metaS m))
  else D.sync [112]

/-! ### A device with the one file, all of whose sectors can be read -/
def ND (m : Nat) (ss : List Sec) (D : Dv) : Prop := ∃ l, D = oneF m [112] l ∧ l.map (·.now) = ss ∧ ∀ c ∈ l, c.nowBad = false
theorem nd_len {m : Nat} {ss : List Sec} {D : Dv} (h : ND m ss D) : D.len [112] = ss.length := by
  obtain ⟨l, rfl, rfl, _⟩ := h
  rw [one_len, List.length_map]
theorem nd_read {m : Nat} {ss : List Sec} {D : Dv} (h : ND m ss D) {k : Nat} {s : Sec} (hs : ss[k]? = some s) : D.read [112] (k : Int) = (s, 0) := by
  obtain ⟨l, rfl, rfl, hb⟩ := h
  rw [List.getElem?_map] at hs
  cases hc : l[k]? with
  | none => rw [hc] at hs; cases hs
  | some c =>
    rw [hc] at hs
    simp only [Option.map_some, Option.some.injEq] at hs
    rw [one_read _ _ _ _ c hc, hb c (List.mem_of_getElem? hc), hs]
    rfl
theorem nd_readNo {m : Nat} {ss : List Sec} {D : Dv} (h : ND m ss D) {k : Nat} (hk : ss.length ≤ k) : D.read [112] (k : Int) = (Sec.zero, 1) := by
  obtain ⟨l, rfl, rfl, hb⟩ := h
  rw [List.length_map] at hk
  have hg : fget (oneF m [112] l).files [112] = some l := one_get _ l
  unfold Dv.read
  rw [hg]
  simp only
  rw [if_pos (by omega)]
theorem nd_over {m : Nat} {ss : List Sec} {D : Dv} (h : ND m ss D) {k : Nat} (s : Sec) (hk : k < ss.length) : ∃ D', D.write [112] (k : Int) s = (D', 0) ∧ ND m (ss.set k s) D' := by
  obtain ⟨l, rfl, rfl, hb⟩ := h
  rw [List.length_map] at hk
  refine ⟨_, one_over _ _ _ _ _ hk, _, rfl, ?_, fun c hc => ?_⟩
  · apply List.ext_getElem?
    intro j
    rw [List.getElem?_map, List.getElem?_modify, List.getElem?_set, List.length_map, List.getElem?_map]
    by_cases hj : k = j
    · subst hj; simp [hk, Cell.write]
    · simp [hj]
  · obtain ⟨j, hj⟩ := List.mem_iff_getElem?.1 hc
    rw [List.getElem?_modify] at hj
    cases hl : l[j]? with
    | none => rw [hl] at hj; cases hj
    | some c0 =>
      rw [hl] at hj
      simp only [Option.map_eq_map, Option.map_some, Option.some.injEq] at hj
      have := hb c0 (List.mem_of_getElem? hl)
      split at hj
      · rw [← hj]; rfl
      · rw [← hj]; exact this
theorem nd_app {m : Nat} {ss : List Sec} {D : Dv} (h : ND m ss D) (s : Sec) (hk : ss.length < m) : ∃ D', D.write [112] (ss.length : Int) s = (D', 0) ∧ ND m (ss ++ [s]) D' := by
  obtain ⟨l, rfl, rfl, hb⟩ := h
  rw [List.length_map] at hk ⊢
  refine ⟨_, one_append _ _ _ _ hk, _, rfl, by simp [Cell.write], fun c hc => ?_⟩
  rcases List.mem_append.1 hc with h | h
  · exact hb c h
  · rw [List.mem_singleton.1 h]; rfl
theorem nd_full {m : Nat} {ss : List Sec} {D : Dv} (h : ND m ss D) (s : Sec) (hk : m ≤ ss.length) : D.write [112] (ss.length : Int) s = (D, 6) := by
  obtain ⟨l, rfl, rfl, hb⟩ := h
  rw [List.length_map] at hk ⊢
  unfold Dv.write
  rw [if_neg (by rw [one_thr]; simp), one_len, if_neg (by omega), if_pos rfl]
  simp only [oneF, one_used]
  rw [if_pos hk]
theorem nd_sync {m : Nat} {ss : List Sec} {D : Dv} (h : ND m ss D) : ∃ D', D.sync [112] = (D', 0) ∧ ND m ss D' := by
  obtain ⟨l, rfl, rfl, hb⟩ := h
  refine ⟨_, one_sync _ _ _, _, rfl, ?_, fun c hc => ?_⟩
  · rw [List.map_map]
    apply List.map_congr_left
    intro c _
    simp only [Function.comp]
    split <;> rfl
  · obtain ⟨c0, h0, rfl⟩ := List.mem_map.1 hc
    have := hb c0 h0
    split
    · simpa [Cell.lasts] using this
    · exact this
theorem nd_names {m : Nat} {ss : List Sec} {D : Dv} (h : ND m ss D) : D.names = [[112]] := by
  obtain ⟨l, rfl, rfl, hb⟩ := h
  rfl
theorem nd_new {m : Nat} (hm : m ≤ 100000) : ∃ D', (Dv.new m).make [112] = (D', 0) ∧ ND m [] D' := ⟨_, one_start m [112] hm ⟨by decide, by decide⟩, [], rfl, rfl, by simp⟩

def putAt (ss : List Sec) (b : Nat) (f : Nat → Sec) (q : Nat) : List Sec := ss.take b ++ (List.range q).map f ++ ss.drop (b + q)
theorem putAt_len {ss : List Sec} {b : Nat} {f : Nat → Sec} {q : Nat} (h : b ≤ ss.length) : (putAt ss b f q).length = max (b + q) ss.length := by
  simp [putAt]; omega
theorem putAt_zero (ss : List Sec) (b : Nat) (f : Nat → Sec) : putAt ss b f 0 = ss := by simp [putAt]
theorem putAt_get {ss : List Sec} {b : Nat} {f : Nat → Sec} {q : Nat} (h : b ≤ ss.length) (k : Nat) : (putAt ss b f q)[k]? = if k < b then ss[k]? else if k < b + q then some (f (k - b)) else ss[k]? := by
  unfold putAt
  by_cases h1 : k < b
  · rw [if_pos h1, List.append_assoc, List.getElem?_append_left (by simp; omega), List.getElem?_take_of_lt h1]
  · rw [if_neg h1]
    by_cases h2 : k < b + q
    · rw [if_pos h2, List.getElem?_append_left (by simp; omega), List.getElem?_append_right (by simp; omega)]
      have : k - min b ss.length < q := by omega
      have h3 : min b ss.length = b := by omega
      simp [h3, show k - b < q by omega]
    · rw [if_neg h2, List.getElem?_append_right (by simp; omega), List.getElem?_drop]
      congr 1
      simp
      omega
theorem putAt_succ {ss : List Sec} {b : Nat} {f : Nat → Sec} {q : Nat} (h : b ≤ ss.length) (hq : b + q < ss.length) : (putAt ss b f q).set (b + q) (f q) = putAt ss b f (q + 1) := by
  apply List.ext_getElem?
  intro k
  rw [List.getElem?_set, putAt_len h, putAt_get h, putAt_get h]
  by_cases h1 : b + q = k
  · subst h1
    rw [if_pos rfl, if_pos (by omega), if_neg (by omega), if_pos (by omega)]
    congr 2; omega
  · rw [if_neg h1]
    by_cases h2 : k < b
    · rw [if_pos h2, if_pos h2]
    · rw [if_neg h2, if_neg h2]
      by_cases h3 : k < b + q
      · rw [if_pos h3, if_pos (by omega)]
      · rw [if_neg h3, if_neg (by omega)]
theorem putAt_snoc {ss : List Sec} {b : Nat} {f : Nat → Sec} {q : Nat} (h : b ≤ ss.length) (hq : ss.length ≤ b + q) : putAt ss b f q ++ [f q] = putAt ss b f (q + 1) := by
  unfold putAt
  rw [List.drop_eq_nil_of_le hq, List.drop_eq_nil_of_le (by omega), List.range_succ]
  simp
theorem nd_wrUp {m : Nat} {ss : List Sec} {D : Dv} (h : ND m ss D) {b : Nat} (f : Nat → Sec) (hb : b ≤ ss.length) : ∀ q, (b + q ≤ ss.length ∨ b + q ≤ m) → ∃ D', wrUp D b f q = (D', 0) ∧ ND m (putAt ss b f q) D'
  | 0, _ => ⟨D, rfl, by rw [putAt_zero]; exact h⟩
  | q + 1, hq => by
    obtain ⟨D', h1, h2⟩ := nd_wrUp h f hb q (by omega)
    rw [wrUp_step h1]
    have hc : ((b : Int) + q) = ((b + q : Nat) : Int) := by omega
    rw [hc]
    have hl := putAt_len (f := f) (q := q) hb
    by_cases hk : b + q < ss.length
    · obtain ⟨D2, h3, h4⟩ := nd_over h2 (k := b + q) (f q) (by omega)
      exact ⟨D2, h3, by rw [← putAt_succ hb hk]; exact h4⟩
    · have hl2 : (putAt ss b f q).length = b + q := by omega
      have h3 := nd_app h2 (f q) (by omega)
      rw [hl2] at h3
      obtain ⟨D2, h3, h4⟩ := h3
      exact ⟨D2, h3, by rw [← putAt_snoc hb (by omega)]; exact h4⟩

/-! ### pages -/
def pageOf (ss : List Sec) (id : Nat) : List UInt8 := ((ss.drop (8 * id)).take 8).flatMap (·.1)
theorem nd_readUp {m : Nat} {ss : List Sec} {D : Dv} (h : ND m ss D) {b : Nat} : ∀ q, b + q ≤ ss.length → readUp D b q = (((ss.drop b).take q).flatMap (·.1), 0)
  | 0, _ => by simp [readUp]
  | q + 1, hq => by
    have ih := nd_readUp h (b := b) q (by omega)
    have hk : b + q < ss.length := by omega
    have hr := nd_read h (List.getElem?_eq_getElem hk)
    have hc : ((b : Int) + q) = ((b + q : Nat) : Int) := by omega
    have hd : (ss.drop b)[q]? = some ss[b + q] := by rw [List.getElem?_drop, List.getElem?_eq_getElem hk]
    rw [readUp, ih, if_pos rfl, hc, hr, if_pos rfl, List.take_add_one, hd]
    simp
end Wb

namespace Wb
open Go

/-- A page is put; id: the least that is free. -/
def putP (F : Pg) (b : List UInt8) (id : Nat) : Pg × Int :=
  if (wrUp F.d (id * 8) (pageSec b) 8).2 = 0 then ({ F with d := (wrUp F.d (id * 8) (pageSec b) 8).1, used := fun j => F.used j || decide (j = id), fresh := F.fresh ++ [id] }, 0)
  else ({ F with d := (wrUp F.d (id * 8) (pageSec b) 8).1 }, (wrUp F.d (id * 8) (pageSec b) 8).2)
def commitOk (F : Pg) (root count : Int) (ids : List Int) : Prop := Rising F ids ∧ (root = 0 ∨ root ∈ ids) ∧ 0 ≤ count ∧ count ≤ 4611686018427387904
def nextMt (F : Pg) (root count : Int) (mark : Nat) : Mt := ⟨F.mt.gen + 1, root.toNat, count.toNat, mark⟩
/-- A file that was opened over a device. -/
def openP (D : Dv) : Pg := ⟨D, bestMt D, fun j => decide (2 ≤ j ∧ j < pagesOf D), [], false⟩

/-! ### metas -/
theorem take8_meta (m : Mt) : (metaS m).1.take 8 = markL := by simp [metaS, metaL, markL]
theorem be8_cut (v : Nat) (pre post : List UInt8) (k : Nat) (hk : pre.length = k) : ((pre ++ (be 8 v ++ post)).drop k).take 8 = be 8 v := by
  subst hk
  rw [List.drop_left, List.take_append_of_le_length (by rw [be_len]; exact Nat.le_refl _), List.take_of_length_le (by rw [be_len]; exact Nat.le_refl _)]
theorem metaP_metaS {m : Mt} (h : m.ok) : metaP (metaS m) = m := by
  have hn : ∀ v, v < 2 ^ 64 → num (be 8 v) = v := fun v hv => num_be 8 v (by simpa using hv) hv
  have h1 : rdN (metaS m) 1 = m.gen := by
    unfold rdN metaS metaL
    simp only [List.append_assoc]
    rw [be8_cut m.gen markL _ 8 rfl, hn _ h.gen]
  have h2 : rdN (metaS m) 2 = m.root := by
    unfold rdN metaS metaL
    have e : markL ++ be 8 m.gen ++ be 8 m.root ++ be 8 m.count ++ be 8 m.mark ++ List.replicate 24 0 = (markL ++ be 8 m.gen) ++ (be 8 m.root ++ (be 8 m.count ++ be 8 m.mark ++ List.replicate 24 0)) := by simp only [List.append_assoc]
    simp only [e]
    rw [be8_cut m.root _ _ 16 (by simp [be_len, markL]), hn _ (by have := h.root; omega)]
  have h3 : rdN (metaS m) 3 = m.count := by
    unfold rdN metaS metaL
    have e : markL ++ be 8 m.gen ++ be 8 m.root ++ be 8 m.count ++ be 8 m.mark ++ List.replicate 24 0 = (markL ++ be 8 m.gen ++ be 8 m.root) ++ (be 8 m.count ++ (be 8 m.mark ++ List.replicate 24 0)) := by simp only [List.append_assoc]
    simp only [e]
    rw [be8_cut m.count _ _ 24 (by simp [be_len, markL]), hn _ (by have := h.count; omega)]
  have h4 : rdN (metaS m) 4 = m.mark := by
    unfold rdN metaS metaL
    have e : markL ++ be 8 m.gen ++ be 8 m.root ++ be 8 m.count ++ be 8 m.mark ++ List.replicate 24 0 = (markL ++ be 8 m.gen ++ be 8 m.root ++ be 8 m.count) ++ (be 8 m.mark ++ List.replicate 24 0) := by simp only [List.append_assoc]
    simp only [e]
    rw [be8_cut m.mark _ _ 32 (by simp [be_len, markL]), hn _ h.mark]
  unfold metaP
  rw [h1, h2, h3, h4]
theorem metaAt_good {m : Mt} {long : Nat} (h : m.ok) (h0 : m.gen ≠ 0) (h1 : m.root ≤ 4611686018427387904) (h2 : m.count ≤ 4611686018427387904) (h3 : m.root = 0 ∨ (2 ≤ m.root ∧ m.root < long)) : metaAt (metaS m, 0) (m.gen % 2) long = (m, true) := by
  unfold metaAt
  rw [if_pos ⟨rfl, take8_meta m, by simp only [metaP_metaS h]; exact ⟨h0, rfl, h1, h2⟩⟩, metaP_metaS h]
  simp [h3]
theorem metaAt_zero (id long : Nat) : metaAt (Sec.zero, 0) id long = (mt0, false) := by
  unfold metaAt
  rw [if_neg (fun h => by have := h.2.1; revert this; decide)]
  rfl
theorem metaAt_old {m : Mt} (h : m.ok) (id long : Nat) : metaAt (metaS m, 0) id long = (mt0, false) ∨ ∃ b, metaAt (metaS m, 0) id long = (m, b) := by
  unfold metaAt
  split
  · right; exact ⟨_, by rw [metaP_metaS h]⟩
  · left; rfl
/-- A meta that a file may have. -/
structure MtOk (m : Mt) (long : Nat) : Prop where
  ok : m.ok
  gen : m.gen ≠ 0
  root : m.root = 0 ∨ (2 ≤ m.root ∧ m.root < long)
  root' : m.root ≤ 4611686018427387904
  count : m.count ≤ 4611686018427387904
theorem MtOk.at {m : Mt} {long : Nat} (h : MtOk m long) : metaAt (metaS m, 0) (m.gen % 2) long = (m, true) := metaAt_good h.ok h.gen h.root' h.count h.root
/-- The meta stands in its page; what stands in the other one is older. -/
def Metas (ss : List Sec) (m : Mt) : Prop := ss[m.gen % 2 * 8]? = some (metaS m) ∧ ∃ s, ss[(m.gen + 1) % 2 * 8]? = some s ∧ (s = Sec.zero ∨ ∃ m', m'.ok ∧ s = metaS m' ∧ m'.gen < m.gen)
theorem older {s : Sec} {m : Mt} (h : s = Sec.zero ∨ ∃ m', m'.ok ∧ s = metaS m' ∧ m'.gen < m.gen) (h0 : m.gen ≠ 0) (id long : Nat) : (metaAt (s, 0) id long).1.gen < m.gen := by
  rcases h with rfl | ⟨m', h1, rfl, h2⟩
  · rw [metaAt_zero]; show 0 < m.gen; omega
  · rcases metaAt_old h1 id long with h | ⟨b, h⟩
    · rw [h]; show 0 < m.gen; omega
    · rw [h]; exact h2
theorem better_no {a m : Mt} {r : Mt × Bool} (h : r.1.gen < m.gen) (ha : a.gen < m.gen) : (betterMt a r).gen < m.gen := by
  unfold betterMt; split <;> assumption
theorem best_of {m : Nat} {ss : List Sec} {D : Dv} (hD : ND m ss D) {mt : Mt} (hm : Metas ss mt) (hok : MtOk mt (pagesOf D)) : bestMt D = mt := by
  obtain ⟨h1, s, h2, h3⟩ := hm
  have hlt := older h3 hok.gen
  have hat := hok.at
  have h0 : mt0.gen < mt.gen := by have := hok.gen; show 0 < mt.gen; omega
  unfold bestMt
  rcases Nat.mod_two_eq_zero_or_one mt.gen with e | e
  · have e2 : (mt.gen + 1) % 2 = 1 := by omega
    rw [e] at h1 hat; rw [e2] at h2
    have r0 := nd_read hD h1
    have r8 := nd_read hD h2
    simp only [Nat.zero_mul, Nat.one_mul] at r0 r8
    rw [show ((0 : Nat) : Int) = 0 from rfl] at r0
    rw [show ((8 : Nat) : Int) = 8 from rfl] at r8
    rw [r0, r8, hat]
    have hb : betterMt mt0 (mt, true) = mt := by unfold betterMt; rw [if_pos ⟨rfl, h0⟩]
    rw [hb]
    unfold betterMt
    rw [if_neg (fun h => by have := h.2; have := hlt 1 (pagesOf D); omega)]
  · have e2 : (mt.gen + 1) % 2 = 0 := by omega
    rw [e] at h1 hat; rw [e2] at h2
    have r0 := nd_read hD h2
    have r8 := nd_read hD h1
    simp only [Nat.zero_mul, Nat.one_mul] at r0 r8
    rw [show ((0 : Nat) : Int) = 0 from rfl] at r0
    rw [show ((8 : Nat) : Int) = 8 from rfl] at r8
    rw [r0, r8, hat]
    have hb := better_no (a := mt0) (r := metaAt (s, 0) 0 (pagesOf D)) (hlt 0 (pagesOf D)) h0
    unfold betterMt at hb ⊢
    rw [if_pos ⟨rfl, hb⟩]
theorem nd_commit {m : Nat} {ss : List Sec} {D : Dv} (hD : ND m ss D) (mt : Mt) (h16 : 16 ≤ ss.length) : ∃ D', wrMeta D mt = (D', 0) ∧ ND m (ss.set (mt.gen % 2 * 8) (metaS mt)) D' := by
  obtain ⟨D1, h1, h2⟩ := nd_sync hD
  have hk : mt.gen % 2 * 8 < ss.length := by have := Nat.mod_lt mt.gen (show 0 < 2 by decide); omega
  obtain ⟨D2, h3, h4⟩ := nd_over h2 (metaS mt) hk
  obtain ⟨D3, h5, h6⟩ := nd_sync h4
  refine ⟨D3, ?_, h6⟩
  unfold wrMeta
  rw [h1]
  simp only [if_true]
  have hc : ((mt.gen % 2 : Nat) : Int) * 8 = ((mt.gen % 2 * 8 : Nat) : Int) := by omega
  rw [hc, h3]
  simp only [if_true]
  exact h5
theorem Metas.next {ss : List Sec} {m : Mt} (h : Metas ss m) (hok : m.ok) (h16 : 16 ≤ ss.length) {m' : Mt} (hg : m'.gen = m.gen + 1) : Metas (ss.set (m'.gen % 2 * 8) (metaS m')) m' := by
  have hk : m'.gen % 2 * 8 < ss.length := by have := Nat.mod_lt m'.gen (show 0 < 2 by decide); omega
  refine ⟨by rw [List.getElem?_set_self hk], metaS m, ?_, .inr ⟨m, hok, rfl, by omega⟩⟩
  have e : (m'.gen + 1) % 2 = m.gen % 2 := by omega
  rw [e, List.getElem?_set_ne (by omega), h.1]
theorem nd_put {m : Nat} {ss : List Sec} {F : Pg} (hD : ND m ss F.d) (b : List UInt8) (id : Nat) (h1 : id * 8 ≤ ss.length) (h2 : id * 8 + 8 ≤ ss.length ∨ id * 8 + 8 ≤ m) :
    ∃ D', ND m (putAt ss (id * 8) (pageSec b) 8) D' ∧ putP F b id = ({ F with d := D', used := fun j => F.used j || decide (j = id), fresh := F.fresh ++ [id] }, 0) := by
  obtain ⟨D', h3, h4⟩ := nd_wrUp hD (pageSec b) h1 8 h2
  refine ⟨D', h4, ?_⟩
  unfold putP
  rw [h3]
  rfl
theorem putAt_far {ss : List Sec} {b : Nat} {f : Nat → Sec} {q : Nat} (h : b ≤ ss.length) {k : Nat} (hk : k < b ∨ b + q ≤ k) : (putAt ss b f q)[k]? = ss[k]? := by
  rw [putAt_get h]
  by_cases h1 : k < b
  · rw [if_pos h1]
  · rw [if_neg h1, if_neg (by omega)]
theorem Metas.put {ss : List Sec} {mt : Mt} (h : Metas ss mt) (f : Nat → Sec) {b : Nat} (h1 : b ≤ ss.length) (h2 : 16 ≤ b) : Metas (putAt ss b f 8) mt := by
  obtain ⟨a, s, c, d⟩ := h
  refine ⟨?_, s, ?_, d⟩
  · rw [putAt_far h1 (by have := Nat.mod_lt mt.gen (show 0 < 2 by decide); omega), a]
  · rw [putAt_far h1 (by have := Nat.mod_lt (mt.gen + 1) (show 0 < 2 by decide); omega), c]
/-! ### pages' octets -/
theorem pageOf_far {ss ss' : List Sec} {id : Nat} (h : ∀ k, id * 8 ≤ k → k < id * 8 + 8 → ss'[k]? = ss[k]?) : pageOf ss' id = pageOf ss id := by
  unfold pageOf
  congr 1
  apply List.ext_getElem?
  intro k
  by_cases hk : k < 8
  · rw [List.getElem?_take_of_lt hk, List.getElem?_take_of_lt hk, List.getElem?_drop, List.getElem?_drop, h _ (by omega) (by omega)]
  · rw [List.getElem?_eq_none (by simp; omega), List.getElem?_eq_none (by simp; omega)]
theorem pageSec_cat (l : List UInt8) : ∀ q, ((List.range q).map (pageSec l)).flatMap (·.1) = l.take (64 * q) ++ List.replicate (64 * q - l.length) 0
  | 0 => by simp
  | q + 1 => by
    rw [List.range_succ, List.map_append, List.flatMap_append, pageSec_cat l q]
    simp only [List.map_cons, List.map_nil, List.flatMap_cons, List.flatMap_nil, List.append_nil, pageSec, padS]
    rw [List.length_drop]
    rcases Nat.lt_or_ge l.length (64 * q) with h | h
    · rw [List.drop_eq_nil_of_le (by omega), List.take_nil, List.nil_append, List.take_of_length_le (l := l) (i := 64 * q) (by omega), List.take_of_length_le (l := l) (i := 64 * (q + 1)) (by omega), List.append_assoc, List.replicate_append_replicate]
      congr 2; omega
    · rw [show 64 * q - l.length = 0 by omega, List.replicate_zero, List.append_nil, ← List.append_assoc]
      congr 1
      · rw [show 64 * (q + 1) = 64 * q + 64 by omega, List.take_add]
      · congr 1; omega
theorem pageOf_put {ss : List Sec} {id : Nat} (l : List UInt8) (h : id * 8 ≤ ss.length) (hl : l.length ≤ 512) : pageOf (putAt ss (id * 8) (pageSec l) 8) id = wholeP l := by
  unfold pageOf
  have : ((putAt ss (id * 8) (pageSec l) 8).drop (8 * id)).take 8 = (List.range 8).map (pageSec l) := by
    unfold putAt
    rw [List.append_assoc, List.drop_append, List.drop_eq_nil_of_le (by rw [List.length_take]; omega), List.nil_append, List.length_take,
      show 8 * id - min (id * 8) ss.length = 0 by omega, List.drop_zero, List.take_append_of_le_length (by simp), List.take_of_length_le (by simp)]
  rw [this, pageSec_cat]
  unfold wholeP
  rw [List.take_of_length_le (by omega)]
theorem nd_page {m : Nat} {ss : List Sec} {F : Pg} (hD : ND m ss F.d) {id : Nat} (h2 : 2 ≤ id) (h : id * 8 + 8 ≤ ss.length) : readP F id = (pageOf ss id, 0) := by
  unfold readP isPg pagesOf
  rw [nd_len hD]
  have h3 : (2 : Int) ≤ id := by omega
  have h4 : (id : Int) < ((ss.length / 8 : Nat) : Int) := by omega
  rw [if_pos (by simp only [Bool.and_eq_true, decide_eq_true_eq]; exact ⟨h3, h4⟩), Int.toNat_natCast, nd_readUp hD 8 h]
  unfold pageOf
  rw [Nat.mul_comm id 8]
/-! ### opening -/
theorem nd_begin {m : Nat} (hm : m ≤ 100000) (h16 : 16 ≤ m) : ∃ D', openD (Dv.new m) = (D', 0) ∧ ND m ((List.range 16).map beginSec) D' := by
  obtain ⟨D1, h1, h2⟩ := nd_new hm
  obtain ⟨D2, h3, h4⟩ := nd_wrUp h2 (b := 0) beginSec (Nat.zero_le _) 16 (.inr (by omega))
  obtain ⟨D3, h5, h6⟩ := nd_sync h4
  refine ⟨D3, ?_, by simpa [putAt] using h6⟩
  unfold openD begunD
  rw [if_neg (by simp [Dv.new, Dv.names]), h1]
  simp only [if_true]
  rw [h3]
  simp only [if_true]
  exact h5
theorem begin_metas : Metas ((List.range 16).map beginSec) mt1 := ⟨rfl, Sec.zero, rfl, .inl rfl⟩
theorem mt1_ok (long : Nat) : MtOk mt1 long := ⟨⟨by decide, by decide, by decide, by decide⟩, by decide, .inl rfl, by decide, by decide⟩
theorem nd_open {m : Nat} {ss : List Sec} {D : Dv} (hD : ND m ss D) : ∃ D', openD D = (D', 0) ∧ ND m ss D' := by
  obtain ⟨D', h1, h2⟩ := nd_sync hD
  refine ⟨D', ?_, h2⟩
  unfold openD
  rw [nd_names hD, if_pos (by simp)]
  exact h1
theorem openE_ok {m : Nat} {ss : List Sec} {D D' : Dv} (h : openD D = (D', 0)) (hD : ND m ss D') {mt : Mt} (hm : Metas ss mt) (hok : MtOk mt (pagesOf D')) (h16 : 16 ≤ ss.length) : openE D = 0 := by
  unfold openE
  rw [h]
  simp only
  rw [if_neg (by simp), best_of hD hm hok, if_neg]
  have := hok.gen
  have h2 : pagesOf D' = ss.length / 8 := by unfold pagesOf; rw [nd_len hD]
  omega
end Wb

namespace Wb
open Go

theorem nd_wrUpFull {m : Nat} {ss : List Sec} {D : Dv} (h : ND m ss D) {b : Nat} (f : Nat → Sec) (hb : b ≤ ss.length) (hm : ss.length ≤ m) (h8 : m < b + 8) : ∃ ss' D', wrUp D b f 8 = (D', 6) ∧ ND m ss' D' ∧ ss'.length = m := by
  obtain ⟨q, rfl⟩ : ∃ q, m = b + q := ⟨m - b, by omega⟩
  obtain ⟨D1, h1, h2⟩ := nd_wrUp h f hb q (.inr (Nat.le_refl _))
  have hl := putAt_len (f := f) (q := q) hb
  have hl2 : (putAt ss b f q).length = b + q := by omega
  have h3 := nd_full h2 (f q) (by omega)
  rw [hl2] at h3
  have h4 : wrUp D b f (q + 1) = (D1, 6) := by
    rw [wrUp_step h1]
    have hc : ((b : Int) + q) = ((b + q : Nat) : Int) := by omega
    rw [hc, h3]
  refine ⟨_, D1, ?_, h2, hl2⟩
  have h5 := wrUp_bad (D := D) (b := b) (f := f) (q := q + 1) (by rw [h4]; simp) (7 - q)
  rw [show q + 1 + (7 - q) = 8 by omega] at h5
  rw [h5, h4]

/-- i pages were put, of L sectors in all. -/
structure RoomOk (m L i : Nat) (F : Pg) : Prop where
  nd : ∃ ss, ND m ss F.d ∧ ss.length = L ∧ Metas ss F.mt
  lo : 16 + 8 * i ≤ L
  used : ∀ k, F.used k = decide (2 ≤ k ∧ k < 2 + i)
  fresh : F.fresh = List.range' 2 i
  mt : F.mt = mt1
  dead : F.dead = false
theorem RoomOk.pages {m L i : Nat} {F : Pg} (h : RoomOk m L i F) : pagesOf F.d = L / 8 := by
  obtain ⟨ss, h1, h2, _⟩ := h.nd
  unfold pagesOf
  rw [nd_len h1, h2]
theorem room_start {m : Nat} (hm : m ≤ 100000) (h16 : 16 ≤ m) : ∃ D', openD (Dv.new m) = (D', 0) ∧ openE (Dv.new m) = 0 ∧ RoomOk m 16 0 (openP D') := by
  obtain ⟨D', h1, h2⟩ := nd_begin hm h16
  have hp : pagesOf D' = 2 := by unfold pagesOf; rw [nd_len h2]; rfl
  have hb := best_of h2 begin_metas (mt1_ok _)
  refine ⟨D', h1, openE_ok h1 h2 begin_metas (mt1_ok _) (by simp), ⟨_, h2, by simp, by show Metas _ (bestMt D'); rw [hb]; exact begin_metas⟩, Nat.le_refl _, fun k => ?_, rfl, hb, rfl⟩
  show decide (2 ≤ k ∧ k < pagesOf D') = _
  rw [hp]
theorem room_least {m L i : Nat} {F : Pg} (h : RoomOk m L i F) {r : Nat} (hr : isLeast F r) : r = 2 + i := by
  obtain ⟨h1, h2, h3⟩ := hr
  have hp := h.pages
  have hlo := h.lo
  rcases Nat.lt_trichotomy r (2 + i) with h4 | h4 | h4
  · exfalso
    rcases h3 with h3 | h3
    · omega
    · rw [h.used] at h3; simp at h3; omega
  · exact h4
  · exfalso
    have := (h2 (2 + i) (by omega) h4).2
    rw [h.used] at this; simp at this
theorem range'_snoc (a n : Nat) : List.range' a n ++ [a + n] = List.range' a (n + 1) := by rw [List.range'_concat]; simp
theorem room_put {m L i : Nat} {F : Pg} (h : RoomOk m L i F) (b : List UInt8) (hi : 16 + 8 * i + 8 ≤ m) : ∃ F2, putP F b (2 + i) = (F2, 0) ∧ RoomOk m (max L (16 + 8 * i + 8)) (i + 1) F2 := by
  obtain ⟨ss, h1, h2, h3⟩ := h.nd
  have hlo := h.lo
  obtain ⟨D', h4, h5⟩ := nd_put h1 b (2 + i) (by omega) (by omega)
  refine ⟨_, h5, ⟨_, h4, ?_, ?_⟩, by omega, fun k => ?_, ?_, h.mt, h.dead⟩
  · rw [putAt_len (by omega)]; omega
  · exact h3.put _ (by omega) (by omega)
  · show (F.used k || decide (k = 2 + i)) = _
    rw [h.used, Bool.eq_iff_iff]
    simp only [Bool.or_eq_true, decide_eq_true_eq]
    omega
  · show F.fresh ++ [2 + i] = _
    rw [h.fresh, range'_snoc]
theorem room_full {m L i : Nat} {F : Pg} (h : RoomOk m L i F) (b : List UInt8) (hL : L ≤ m) (hi : m < 16 + 8 * i + 8) : ∃ F2, putP F b (2 + i) = (F2, 6) ∧ RoomOk m m i F2 := by
  obtain ⟨ss, h1, h2, h3⟩ := h.nd
  have hlo := h.lo
  obtain ⟨D1, g1, g2⟩ := nd_wrUp h1 (pageSec b) (b := (2 + i) * 8) (by omega) (m - (2 + i) * 8) (.inr (by omega))
  obtain ⟨ss', D', h4, h5, h6⟩ := nd_wrUpFull h1 (pageSec b) (b := (2 + i) * 8) (by omega) (by omega) (by omega)
  have hl := putAt_len (ss := ss) (f := pageSec b) (b := (2 + i) * 8) (q := m - (2 + i) * 8) (by omega)
  have hD : D' = D1 := by
    have h7 := nd_full g2 (pageSec b (m - (2 + i) * 8)) (by omega)
    have h8 : wrUp F.d ((2 + i) * 8) (pageSec b) (m - (2 + i) * 8 + 1) = (D1, 6) := by
      rw [wrUp_step g1]
      have hc : ((((2 + i) * 8 : Nat) : Int) + ((m - (2 + i) * 8 : Nat) : Int)) = ((putAt ss ((2 + i) * 8) (pageSec b) (m - (2 + i) * 8)).length : Int) := by rw [hl]; omega
      rw [hc, h7]
    have h9 := wrUp_bad (D := F.d) (b := (2 + i) * 8) (f := pageSec b) (q := m - (2 + i) * 8 + 1) (by rw [h8]; simp) (7 - (m - (2 + i) * 8))
    rw [show m - (2 + i) * 8 + 1 + (7 - (m - (2 + i) * 8)) = 8 by omega, h4, h8] at h9
    exact (Prod.mk.inj h9).1
  subst hD
  refine ⟨{ F with d := D' }, ?_, ⟨_, g2, by rw [hl]; omega, ?_⟩, by omega, h.used, h.fresh, h.mt, h.dead⟩
  · unfold putP
    rw [h4]
    rfl
  · obtain ⟨a, s, c, d⟩ := h3
    refine ⟨?_, s, ?_, d⟩
    · rw [putAt_far (by omega) (by have := Nat.mod_lt F.mt.gen (show 0 < 2 by decide); left; omega)]; exact a
    · rw [putAt_far (by omega) (by have := Nat.mod_lt (F.mt.gen + 1) (show 0 < 2 by decide); left; omega)]; exact c
theorem filter_len_iff (p q : Nat → Bool) (l : List Nat) (h : ∀ k ∈ l, p k = q k) : (l.filter p).length = (l.filter q).length := by
  rw [List.filter_congr h]
theorem free_none {m L i : Nat} {F : Pg} (h : RoomOk m L i F) (hL : L / 8 = 2 + i) : freeOf F = [] := by
  unfold freeOf freeUpTo
  rw [h.pages, hL, List.filter_eq_nil_iff]
  intro k hk
  have := List.mem_range.1 hk
  rw [h.used]
  simp; omega
theorem filter_ge (n : Nat) : ((List.range (2 + n)).filter fun j => decide (2 ≤ j)).length = n := by
  induction n with
  | zero => rfl
  | succ n ih =>
    rw [show 2 + (n + 1) = (2 + n) + 1 by omega, List.range_succ, List.filter_append, List.length_append, ih]
    simp
theorem room_drop {m L i : Nat} {F : Pg} (h : RoomOk m L i F) (hL : L / 8 = 2 + i) : RoomOk m L 0 (dropP F) ∧ (freeOf (dropP F)).length = i := by
  have hu : ∀ k, (dropP F).used k = false := by
    intro k
    show (F.used k && !decide (k ∈ F.fresh)) = false
    rw [h.used, h.fresh]
    by_cases hk : 2 ≤ k ∧ k < 2 + i
    · have : k ∈ List.range' 2 i := by rw [List.mem_range'_1]; omega
      simp [this]
    · simp [hk]
  refine ⟨⟨h.nd, by have := h.lo; omega, fun k => ?_, rfl, h.mt, h.dead⟩, ?_⟩
  · rw [hu]; symm; simp
  · unfold freeOf freeUpTo
    have hp : pagesOf (dropP F).d = 2 + i := by rw [← hL]; exact h.pages
    rw [hp]
    refine (filter_len_iff _ _ _ fun k _ => ?_).trans (filter_ge i)
    rw [hu]; simp
end Wb

namespace Wb
open Go

structure FileOk (m : Nat) (ss : List Sec) (F : Pg) : Prop where
  nd : ND m ss F.d
  len : 16 ≤ ss.length
  metas : Metas ss F.mt
  mok : MtOk F.mt (ss.length / 8)
  dead : F.dead = false
theorem FileOk.pages {m : Nat} {ss : List Sec} {F : Pg} (h : FileOk m ss F) : pagesOf F.d = ss.length / 8 := by
  unfold pagesOf; rw [nd_len h.nd]
theorem RoomOk.ok {m L i : Nat} {F : Pg} (h : RoomOk m L i F) : ∃ ss, FileOk m ss F ∧ ss.length = L := by
  obtain ⟨ss, h1, h2, h3⟩ := h.nd
  refine ⟨ss, ⟨h1, by have := h.lo; omega, h3, by rw [h.mt]; exact mt1_ok _, h.dead⟩, h2⟩
theorem rising_mem {F : Pg} {ids : List Int} (h : Rising F ids) {x : Int} (hx : x ∈ ids) : 2 ≤ x ∧ x < pagesOf F.d := by
  obtain ⟨j, hj⟩ := List.mem_iff_getElem?.1 hx
  have := (h j x hj).1
  unfold isPg at this
  simpa using this
theorem next_ok {F : Pg} {root count : Int} {ids : List Int} {mark : Nat} (hc : commitOk F root count ids) (hw : pagesOf F.d ≤ 12500) (hg : F.mt.gen + 1 < 2 ^ 64) (hm : mark < 2 ^ 64) : MtOk (nextMt F root count mark) (pagesOf F.d) := by
  obtain ⟨h1, h2, h3, h4⟩ := hc
  have hr : root = 0 ∨ (2 ≤ root ∧ root < pagesOf F.d) := by
    rcases h2 with h | h
    · exact .inl h
    · exact .inr (rising_mem h1 h)
  refine ⟨⟨hg, ?_, ?_, hm⟩, ?_, ?_, ?_, ?_⟩ <;> simp only [nextMt] <;> omega
theorem rising_pages {F F2 : Pg} (h : pagesOf F2.d = pagesOf F.d) {ids : List Int} (hr : Rising F ids) : Rising F2 ids := by
  intro j x hj
  have := hr j x hj
  unfold isPg at this ⊢
  rw [h]; exact this
theorem commit_ok {m : Nat} {ss : List Sec} {F : Pg} (h : FileOk m ss F) (hw : pagesOf F.d ≤ 12500) {root count : Int} {ids : List Int} {mark : Nat} (hc : commitOk F root count ids) (hg : F.mt.gen + 1 < 2 ^ 64) (hm : mark < 2 ^ 64) :
    ∃ D', wrMeta F.d (nextMt F root count mark) = (D', 0) ∧ pagesOf D' = pagesOf F.d ∧ FileOk m (ss.set ((nextMt F root count mark).gen % 2 * 8) (metaS (nextMt F root count mark))) (keepP { F with d := D', mt := nextMt F root count mark } ids) := by
  obtain ⟨D', h1, h2⟩ := nd_commit h.nd (nextMt F root count mark) h.len
  have hp : pagesOf D' = ss.length / 8 := by unfold pagesOf; rw [nd_len h2, List.length_set]
  refine ⟨D', h1, by rw [hp, h.pages], h2, by rw [List.length_set]; exact h.len, h.metas.next h.mok.ok h.len rfl, ?_, h.dead⟩
  rw [List.length_set, ← h.pages]
  exact next_ok hc hw hg hm
theorem rising_nil (F : Pg) : Rising F [] := fun j x h => by simp at h

/-! ### PageMeta -/
/-- The meta of a generation. -/
def pmMt (mark g : Nat) : Mt := if g ≤ 1 then ⟨g, 0, 0, 0⟩ else ⟨g, 0, g - 2, (mark + (g - 2)) % 2 ^ 64⟩
/-- The sector of a generation's meta; nought: none. -/
def pmSec (mark g : Nat) : Sec := if g = 0 then Sec.zero else metaS (pmMt mark g)
structure MetaOk (mark i : Nat) (F : Pg) : Prop where
  mt : F.mt = pmMt mark (i + 1)
  ok : ∃ ss, FileOk 500 ss F ∧ ss.length = 16 ∧ ss[(i + 1) % 2 * 8]? = some (pmSec mark (i + 1)) ∧ ss[i % 2 * 8]? = some (pmSec mark i)
theorem meta_start (mark : Nat) : ∃ D', openD (Dv.new 500) = (D', 0) ∧ openE (Dv.new 500) = 0 ∧ MetaOk mark 0 (openP D') := by
  obtain ⟨D', h1, h2⟩ := nd_begin (m := 500) (by decide) (by decide)
  have hp : pagesOf D' = 2 := by unfold pagesOf; rw [nd_len h2]; rfl
  have hb := best_of h2 begin_metas (mt1_ok _)
  refine ⟨D', h1, openE_ok h1 h2 begin_metas (mt1_ok _) (by simp), hb, _, ⟨h2, by simp, ?_, ?_, rfl⟩, by simp, rfl, rfl⟩
  · show Metas _ (bestMt D'); rw [hb]; exact begin_metas
  · show MtOk (bestMt D') _; rw [hb]; exact mt1_ok _
theorem meta_commit {mark i : Nat} {F : Pg} (h : MetaOk mark i F) (hi : i < 100) : ∃ D', wrMeta F.d (nextMt F 0 i ((mark + i) % 2 ^ 64)) = (D', 0) ∧ pagesOf D' = pagesOf F.d ∧ commitOk F 0 i [] ∧
    MetaOk mark (i + 1) (keepP { F with d := D', mt := nextMt F 0 i ((mark + i) % 2 ^ 64) } []) := by
  obtain ⟨ss, h1, h2, h3, h4⟩ := h.ok
  have hp : pagesOf F.d = 2 := by rw [h1.pages, h2]
  have hc : commitOk F 0 i [] := ⟨rising_nil F, .inl rfl, by omega, by omega⟩
  have hgen : F.mt.gen = i + 1 := by rw [h.mt]; unfold pmMt; split <;> rfl
  obtain ⟨D', g1, g2, g3⟩ := commit_ok h1 (by omega) hc (by rw [hgen]; omega) (Nat.mod_lt (mark + i) (show 0 < 2 ^ 64 by decide))
  have hn : nextMt F 0 i ((mark + i) % 2 ^ 64) = pmMt mark (i + 2) := by
    unfold nextMt pmMt
    rw [if_neg (by omega), hgen]
    simp
  rw [hn] at g1 g3 ⊢
  refine ⟨D', g1, g2, hc, rfl, _, g3, by rw [List.length_set]; exact h2, ?_, ?_⟩
  · have : (pmMt mark (i + 2)).gen = i + 2 := by unfold pmMt; rw [if_neg (by omega)]
    rw [this, show i + 1 + 1 = i + 2 by omega, List.getElem?_set_self (by have := Nat.mod_lt (i + 2) (show 0 < 2 by decide); omega)]
    unfold pmSec
    rw [if_neg (by omega)]
  · have : (pmMt mark (i + 2)).gen = i + 2 := by unfold pmMt; rw [if_neg (by omega)]
    rw [this, List.getElem?_set_ne (by omega)]
    exact h3
/-- What the law reads in the page k. -/
def pmGen (i k : Nat) : Nat := if (i + 1) % 2 = k then i + 1 else i
theorem meta_read {mark i : Nat} {F : Pg} (h : MetaOk mark i F) {k : Nat} (hk : k < 2) : F.d.read [112] ((8 * k : Nat) : Int) = (pmSec mark (pmGen i k), 0) := by
  obtain ⟨ss, h1, h2, h3, h4⟩ := h.ok
  unfold pmGen
  split
  · rename_i e
    refine nd_read h1.nd ?_
    rw [e] at h3
    rw [Nat.mul_comm]; exact h3
  · rename_i e
    refine nd_read h1.nd ?_
    have : i % 2 = k := by omega
    rw [this] at h4
    rw [Nat.mul_comm]; exact h4
theorem meta_open {mark i : Nat} {F : Pg} (h : MetaOk mark i F) : ∃ D', openD F.d = (D', 0) ∧ openE F.d = 0 ∧ (openP D').mt = pmMt mark (i + 1) := by
  obtain ⟨ss, h1, h2, h3, h4⟩ := h.ok
  obtain ⟨D', g1, g2⟩ := nd_open h1.nd
  have hp : pagesOf D' = ss.length / 8 := by unfold pagesOf; rw [nd_len g2]
  have hok : MtOk F.mt (pagesOf D') := by rw [hp]; exact h1.mok
  exact ⟨D', g1, openE_ok g1 g2 h1.metas hok h1.len, (best_of g2 h1.metas hok).trans h.mt⟩

/-! ### PageRefuses -/
theorem free_least {m : Nat} {ss : List Sec} {F : Pg} (h : FileOk m ss F) {r : Nat} (hr : isLeast F r) : 2 ≤ r ∧ (r * 8 ≤ ss.length ∨ r ≤ 2) := by
  have h1 : LeastRel F r := ⟨hr.1, hr.2.1⟩
  have h2 := h.pages
  refine ⟨hr.1, ?_⟩
  rcases Nat.lt_or_ge 2 r with h3 | h3
  · have := (hr.2.1 (r - 1) (by omega) (by omega)).1
    left; omega
  · right; exact h3
theorem refuse_put {ss : List Sec} {F : Pg} (h : FileOk 500 ss F) (hl : ss.length = 56) (b : List UInt8) {r : Nat} (hr : isLeast F r) : (putP F b r).2 = 0 := by
  have h1 := free_least h hr
  obtain ⟨D', _, h3⟩ := nd_put h.nd b r (by omega) (by omega)
  rw [h3]
/-- Sixteen sectors of a one and noughts. -/
def oneSec : Sec := ⟨1 :: List.replicate 63 0, by simp⟩
theorem bad_start : ∃ D1, (Dv.new 100).make [112] = (D1, 0) ∧ ND 100 [] D1 := nd_new (m := 100) (by decide)
theorem bad_write {i : Nat} {D : Dv} (h : ND 100 (List.replicate i oneSec) D) (hi : i < 100) : ∃ D', D.write [112] i oneSec = (D', 0) ∧ ND 100 (List.replicate (i + 1) oneSec) D' := by
  obtain ⟨D', h1, h2⟩ := nd_app h oneSec (by rw [List.length_replicate]; exact hi)
  rw [List.length_replicate] at h1
  exact ⟨D', h1, by rw [List.replicate_succ']; exact h2⟩
theorem metaAt_one (id long : Nat) : metaAt (oneSec, 0) id long = (mt0, false) := by
  unfold metaAt
  rw [if_neg (fun h => by have := h.2.1; revert this; decide)]
  rfl
theorem bad_open {D : Dv} (h : ND 100 (List.replicate 16 oneSec) D) : openE D = 12 ∧ (openD D).2 = 0 := by
  obtain ⟨D', h1, h2⟩ := nd_open h
  have r0 := nd_read h2 (k := 0) (s := oneSec) rfl
  have r8 := nd_read h2 (k := 8) (s := oneSec) rfl
  refine ⟨?_, by rw [h1]⟩
  unfold openE
  rw [h1]
  simp only
  rw [if_neg (by simp), if_pos]
  left
  unfold bestMt
  rw [show ((0 : Int) = ((0 : Nat) : Int)) from rfl, show ((8 : Int) = ((8 : Nat) : Int)) from rfl, r0, r8, metaAt_one, metaAt_one]
  rfl
end Wb

namespace Wb
open Go

theorem commitOk_one {F : Pg} {p : Nat} (h2 : 2 ≤ p) (hp : p < pagesOf F.d) {count : Int} (h0 : 0 ≤ count) (h1 : count ≤ 4611686018427387904) : commitOk F p count [(p : Int)] := by
  refine ⟨fun j x hj => ?_, .inr (by simp), h0, h1⟩
  cases j with
  | zero =>
    simp only [List.getElem?_cons_zero, Option.some.injEq] at hj
    subst hj
    refine ⟨?_, fun y h => by omega⟩
    unfold isPg
    simp only [Bool.and_eq_true, decide_eq_true_eq]
    omega
  | succ j => simp at hj
theorem awake9_plain : ∃ (D1 : Dv) (F2 : Pg) (D3 : Dv), openD (Dv.new 200) = (D1, 0) ∧ openE (Dv.new 200) = 0 ∧ (openP D1).mt = mt1 ∧ pagesOf D1 = 2 ∧ freeOf (openP D1) = [] ∧
    (∀ r, isLeast (openP D1) r → r = 2) ∧ putP (openP D1) [120] 2 = (F2, 0) ∧ F2.dead = false ∧ F2.mt = mt1 ∧ F2.fresh = [2] ∧ commitOk F2 2 3 [2] ∧ wrMeta F2.d (nextMt F2 2 3 7) = (D3, 0) ∧ pagesOf D3 = pagesOf F2.d ∧
    nextMt F2 2 3 7 = ⟨2, 2, 3, 7⟩ ∧ readP (keepP { F2 with d := D3, mt := nextMt F2 2 3 7 } [2]) 2 = (wholeP [120], 0) ∧ readP (keepP { F2 with d := D3, mt := nextMt F2 2 3 7 } [2]) 0 = ([], 1) := by
  obtain ⟨D1, h1, h2, h3⟩ := room_start (m := 200) (by decide) (by decide)
  obtain ⟨F2, h4, h5⟩ := room_put h3 [120] (by decide)
  obtain ⟨ss, h6, h7⟩ := h5.ok
  have hp2 : pagesOf F2.d = 3 := by rw [h5.pages]; rfl
  have hc : commitOk F2 2 3 [2] := commitOk_one (p := 2) (by decide) (by omega) (by decide) (by decide)
  have hmt := h5.mt
  obtain ⟨D3, h8, h9, h10⟩ := commit_ok (mark := 7) h6 (by omega) hc (by rw [hmt]; decide) (by decide)
  have hnx : nextMt F2 2 3 7 = ⟨2, 2, 3, 7⟩ := by unfold nextMt; rw [hmt]; rfl
  obtain ⟨ss1, g1, g2, g3⟩ := h3.nd
  obtain ⟨D4, g4, g5⟩ := nd_put g1 [120] 2 (by omega) (.inr (by decide))
  have hF2 : F2.d = D4 := by
    have := h4.symm.trans g5
    rw [(Prod.mk.inj this).1]
  have hss : FileOk 200 (putAt ss1 (2 * 8) (pageSec [120]) 8) F2 := by
    refine ⟨by rw [hF2]; exact g4, ?_, ?_, ?_, h5.dead⟩
    · rw [putAt_len (by omega)]; omega
    · rw [hmt]; rw [h3.mt] at g3; exact g3.put _ (by omega) (by decide)
    · rw [hmt]; exact mt1_ok _
  obtain ⟨D5, k1, k2, k3⟩ := commit_ok (mark := 7) hss (by omega) hc (by rw [hmt]; decide) (by decide)
  have hD : D5 = D3 := by
    have := h8.symm.trans k1
    exact (Prod.mk.inj this).1.symm
  subst hD
  refine ⟨D1, F2, D5, h1, h2, h3.mt, h3.pages, free_none h3 rfl, fun r hr => room_least h3 hr, h4, h5.dead, hmt, ?_, hc, h8, h9, hnx, ?_, ?_⟩
  · rw [h5.fresh]; rfl
  · have hl : (putAt ss1 (2 * 8) (pageSec [120]) 8).length = 24 := by rw [putAt_len (by omega)]; omega
    have hr := nd_page (F := keepP { F2 with d := D5, mt := nextMt F2 2 3 7 } [2]) k3.nd (id := 2) (by decide) (by rw [List.length_set, hl]; decide)
    refine hr.trans ?_
    rw [← pageOf_put (ss := ss1) (id := 2) [120] (by omega) (by decide)]
    congr 1
    apply pageOf_far
    intro k hk1 hk2
    rw [List.getElem?_set_ne]
    have := Nat.mod_lt (nextMt F2 2 3 7).gen (show 0 < 2 by decide)
    omega
  · unfold readP isPg
    rw [if_neg (by simp)]
end Wb

namespace Wb
open Go

/-! ### an insertion sort, swap by swap -/
/-- The first i stand sorted, but that the one at k may be too small for its place. -/
def InsOk (xs : List Int) (i k : Nat) : Prop :=
  k ≤ i ∧ i < xs.length ∧ (∀ a b x y, a < b → b ≤ i → a ≠ k → b ≠ k → xs[a]? = some x → xs[b]? = some y → x ≤ y) ∧ (∀ b x y, k < b → b ≤ i → xs[k]? = some x → xs[b]? = some y → x ≤ y)
def SortedTo (xs : List Int) (i : Nat) : Prop := ∀ a b x y, a < b → b < i → xs[a]? = some x → xs[b]? = some y → x ≤ y
theorem sortedTo_one (xs : List Int) : SortedTo xs 1 := fun a b x y h1 h2 _ _ => by omega
theorem ins_start {xs : List Int} {i : Nat} (h : SortedTo xs i) (hi : i < xs.length) : InsOk xs i i :=
  ⟨Nat.le_refl _, hi, fun a b x y h1 h2 h3 h4 h5 h6 => h a b x y h1 (by omega) h5 h6, fun b x y h1 h2 => by omega⟩
theorem ins_done {xs : List Int} {i k : Nat} (h : InsOk xs i k) (hend : k = 0 ∨ ∃ x y, xs[k - 1]? = some x ∧ xs[k]? = some y ∧ x ≤ y) : SortedTo xs (i + 1) := by
  obtain ⟨h1, h2, h3, h4⟩ := h
  intro a b x y hab hb hx hy
  by_cases hak : a = k
  · subst hak; exact h4 b x y hab (by omega) hx hy
  · by_cases hbk : b = k
    · subst hbk
      rcases hend with h | ⟨u, v, hu, hv, huv⟩
      · omega
      · rw [hv] at hy; cases hy
        by_cases ha : a = b - 1
        · subst ha; rw [hu] at hx; cases hx; exact huv
        · have := h3 a (b - 1) x u (by omega) (by omega) hak (by omega) hx hu
          omega
    · exact h3 a b x y hab (by omega) hak hbk hx hy
def swapL (xs : List Int) (k : Nat) (x y : Int) : List Int := (xs.set (k - 1) y).set k x
theorem ins_swap {xs : List Int} {i k : Nat} {x y : Int} (h : InsOk xs i k) (hk : 0 < k) (hx : xs[k - 1]? = some x) (hy : xs[k]? = some y) (hyx : y < x) : InsOk (swapL xs k x y) i (k - 1) := by
  obtain ⟨h1, h2, h3, h4⟩ := h
  have hg : ∀ j, (swapL xs k x y)[j]? = if j = k then some x else if j = k - 1 then some y else xs[j]? := by
    intro j
    unfold swapL
    rw [List.getElem?_set, List.getElem?_set]
    by_cases e1 : k = j
    · subst e1; simp; omega
    · rw [if_neg e1, if_neg (show ¬ j = k by omega)]
      by_cases e2 : k - 1 = j
      · subst e2; simp; omega
      · rw [if_neg e2, if_neg (show ¬ j = k - 1 by omega)]
  refine ⟨by omega, by simpa [swapL] using h2, ?_, ?_⟩
  · intro a b u v hab hb ha hb' hu hv
    rw [hg] at hu hv
    rw [if_neg ha] at hu
    rw [if_neg hb'] at hv
    by_cases hak : a = k
    · rw [if_pos hak] at hu; cases hu
      rw [if_neg (by omega)] at hv
      exact h3 (k - 1) b x v (by omega) hb (by omega) (by omega) hx hv
    · rw [if_neg hak] at hu
      by_cases hbk : b = k
      · rw [if_pos hbk] at hv; cases hv
        exact h3 a (k - 1) u x (by omega) (by omega) hak (by omega) hu hx
      · rw [if_neg hbk] at hv
        exact h3 a b u v hab hb hak hbk hu hv
  · intro b u v hab hb hu hv
    rw [hg] at hu hv
    rw [if_neg (by omega), if_pos rfl] at hu
    cases hu
    by_cases hbk : b = k
    · rw [if_pos hbk] at hv; cases hv; omega
    · rw [if_neg hbk, if_neg (by omega)] at hv
      exact h4 b y v (by omega) hb hy hv
theorem set_perm (xs : List Int) (a b : Nat) (x y : Int) (hab : a < b) (hx : xs[a]? = some x) (hy : xs[b]? = some y) : ((xs.set a y).set b x).Perm xs := by
  induction xs generalizing a b with
  | nil => simp at hx
  | cons c r ih =>
    cases a with
    | zero =>
      cases b with
      | zero => omega
      | succ b =>
        simp only [List.getElem?_cons_zero, Option.some.injEq] at hx
        subst hx
        simp only [List.getElem?_cons_succ] at hy
        simp only [List.set_cons_zero, List.set_cons_succ]
        have hb : b < r.length := (List.getElem?_eq_some_iff.1 hy).1
        have hsplit : r = r.take b ++ y :: r.drop (b + 1) := by
          have := List.drop_eq_getElem_cons hb
          rw [(List.getElem?_eq_some_iff.1 hy).2] at this
          rw [← this, List.take_append_drop]
        have hset : r.set b c = r.take b ++ c :: r.drop (b + 1) := by
          rw [List.set_eq_take_append_cons_drop, if_pos hb]
        rw [hset]
        have h1 : (y :: (r.take b ++ c :: r.drop (b + 1))).Perm (y :: c :: (r.take b ++ r.drop (b + 1))) := List.Perm.cons _ List.perm_middle
        have h2 : (c :: r).Perm (c :: y :: (r.take b ++ r.drop (b + 1))) := by
          refine List.Perm.cons _ ?_
          conv => lhs; rw [hsplit]
          exact List.perm_middle
        exact (h1.trans (List.Perm.swap _ _ _)).trans h2.symm
    | succ a =>
      cases b with
      | zero => omega
      | succ b =>
        simp only [List.getElem?_cons_succ] at hx hy
        simp only [List.set_cons_succ]
        exact List.Perm.cons _ (ih a b (by omega) hx hy)
theorem swap_perm {xs : List Int} {k : Nat} {x y : Int} (hk : 0 < k) (hx : xs[k - 1]? = some x) (hy : xs[k]? = some y) : (swapL xs k x y).Perm xs := set_perm xs (k - 1) k x y (by omega) hx hy
theorem swap_len (xs : List Int) (k : Nat) (x y : Int) : (swapL xs k x y).length = xs.length := by simp [swapL]

/-! ### PageTwice -/
structure TwOk (L : Nat) (ids news : List Nat) (F : Pg) : Prop where
  ok : ∃ ss, FileOk 3000 ss F ∧ ss.length ≤ L ∧ ss.length % 8 = 0
  used : ∀ k, F.used k = decide (k ∈ ids ∨ k ∈ news)
  rng : ∀ k, k ∈ ids ∨ k ∈ news → 2 ≤ k ∧ k < pagesOf F.d
  nodup : news.Nodup
  fresh : F.fresh.length = news.length
theorem tw_start : ∃ D', openD (Dv.new 3000) = (D', 0) ∧ openE (Dv.new 3000) = 0 ∧ TwOk 16 [] [] (openP D') ∧ (openP D').mt = mt1 := by
  obtain ⟨D', h1, h2, h3⟩ := room_start (m := 3000) (by decide) (by decide)
  obtain ⟨ss, h4, h5⟩ := h3.ok
  refine ⟨D', h1, h2, ⟨⟨ss, h4, by omega, by omega⟩, fun k => ?_, fun k hk => by simp at hk, List.nodup_nil, rfl⟩, h3.mt⟩
  rw [h3.used]
  simp
theorem tw_put {L : Nat} {ids news : List Nat} {F : Pg} (h : TwOk L ids news F) (b : List UInt8) {r : Nat} (hr : isLeast F r) (hL : L + 8 ≤ 3000) : ∃ F2, putP F b r = (F2, 0) ∧ F2.dead = false ∧ F2.mt = F.mt ∧ TwOk (L + 8) ids (news ++ [r]) F2 := by
  obtain ⟨ss, h1, h2, h3⟩ := h.ok
  have hp := h1.pages
  have hl := free_least h1 hr
  have hle : r ≤ pagesOf F.d := by
    rcases Nat.lt_or_ge 2 r with h4 | h4
    · have := (hr.2.1 (r - 1) (by omega) (by omega)).1; omega
    · have := hr.1; have := h1.len; omega
  have hnot : ¬ (r ∈ ids ∨ r ∈ news) := by
    intro hm
    have h4 := h.rng r hm
    rcases hr.2.2 with h5 | h5
    · omega
    · rw [h.used] at h5; simp at h5; rcases hm with h6 | h6
      · exact h5.1 h6
      · exact h5.2 h6
  obtain ⟨D', g1, g2⟩ := nd_put h1.nd b r (by omega) (by omega)
  have hlen := putAt_len (ss := ss) (b := r * 8) (f := pageSec b) (q := 8) (by omega)
  have hpg : pagesOf D' = (max (r * 8 + 8) ss.length) / 8 := by unfold pagesOf; rw [nd_len g1, hlen]
  have hge : pagesOf F.d ≤ pagesOf D' := by omega
  refine ⟨_, g2, h1.dead, rfl, ⟨⟨_, ⟨g1, by rw [hlen]; have := h1.len; omega, h1.metas.put _ (by omega) (by omega), ?_, h1.dead⟩, by rw [hlen]; omega, by rw [hlen]; omega⟩, fun k => ?_, fun k hk => ?_, ?_, ?_⟩⟩
  · have := h1.mok
    refine ⟨this.ok, this.gen, ?_, this.root', this.count⟩
    rcases this.root with h5 | h5
    · exact .inl h5
    · right; rw [hlen]; show 2 ≤ F.mt.root ∧ F.mt.root < _; omega
  · show (F.used k || decide (k = r)) = _
    rw [h.used, Bool.eq_iff_iff]
    simp only [Bool.or_eq_true, decide_eq_true_eq, List.mem_append, List.mem_singleton]
    constructor
    · rintro ((h5 | h5) | h5)
      · exact .inl h5
      · exact .inr (.inl h5)
      · exact .inr (.inr h5)
    · rintro (h5 | (h5 | h5))
      · exact .inl (.inl h5)
      · exact .inl (.inr h5)
      · exact .inr h5
  · show 2 ≤ k ∧ k < pagesOf D'
    rcases hk with h5 | h5
    · have := h.rng k (.inl h5); omega
    · rcases List.mem_append.1 h5 with h6 | h6
      · have := h.rng k (.inr h6); omega
      · rw [List.mem_singleton.1 h6]; have := hr.1; omega
  · rw [List.nodup_append]
    refine ⟨h.nodup, by simp, fun a ha b hb e => ?_⟩
    rw [List.mem_singleton.1 hb] at e
    exact hnot (.inr (e ▸ ha))
  · show (F.fresh ++ [r]).length = _
    rw [List.length_append, List.length_append, h.fresh]
theorem rising_sorted {F : Pg} {xs : List Int} (hs : SortedTo xs xs.length) (hn : xs.Nodup) (hr : ∀ x ∈ xs, isPg F x = true) : Rising F xs := by
  intro j x hj
  refine ⟨hr x (List.mem_of_getElem? hj), fun y h0 hy => ?_⟩
  have hjl := (List.getElem?_eq_some_iff.1 hj).1
  have h1 := hs (j - 1) j y x (by omega) hjl hy hj
  rcases Int.lt_or_eq_of_le h1 with h2 | h2
  · exact h2
  · exfalso
    subst h2
    obtain ⟨hy1, hy2⟩ := List.getElem?_eq_some_iff.1 hy
    obtain ⟨hj1, hj2⟩ := List.getElem?_eq_some_iff.1 hj
    exact List.pairwise_iff_getElem.1 hn (j - 1) j hy1 hj1 (by omega) (by rw [hy2, hj2])
theorem nodup_ints {l : List Nat} (h : l.Nodup) : (l.map fun (k : Nat) => (k : Int)).Nodup := by
  unfold List.Nodup at *
  rw [List.pairwise_map]
  exact h.imp fun {a b} hab e => hab (by omega)
/-- The commit of what was put. -/
theorem tw_commit {L : Nat} {ids news : List Nat} {F : Pg} (h : TwOk L ids news F) (hL : L ≤ 3000) {xs : List Int} (hp : xs.Perm (news.map fun (k : Nat) => (k : Int))) (hs : SortedTo xs xs.length) {root : Int} (hroot : xs[0]? = some root) {i : Nat} (hi : i < 100) (hgen : F.mt.gen = i + 1) :
    ∃ D', wrMeta F.d (nextMt F root i i) = (D', 0) ∧ pagesOf D' = pagesOf F.d ∧ commitOk F root i xs ∧ F.mt.gen + 1 < 2 ^ 64 ∧ F.dead = false ∧ (keepP { F with d := D', mt := nextMt F root i i } xs).mt.gen = i + 2 ∧
      ∃ ids2 : List Nat, xs = ids2.map (fun (k : Nat) => (k : Int)) ∧ ids2.Nodup ∧ TwOk L ids2 [] (keepP { F with d := D', mt := nextMt F root i i } xs) := by
  obtain ⟨ss, h1, h2, h3⟩ := h.ok
  have hpg := h1.pages
  have hmem : ∀ x ∈ xs, ∃ k : Nat, x = k ∧ k ∈ news := fun x hx => by
    have := hp.mem_iff.1 hx
    obtain ⟨k, hk, rfl⟩ := List.mem_map.1 this
    exact ⟨k, rfl, hk⟩
  have hn : xs.Nodup := hp.nodup_iff.2 (nodup_ints h.nodup)
  have hris : Rising F xs := rising_sorted hs hn fun x hx => by
    obtain ⟨k, rfl, hk⟩ := hmem x hx
    have := h.rng k (.inr hk)
    unfold isPg
    simp only [Bool.and_eq_true, decide_eq_true_eq]
    omega
  have hc : commitOk F root i xs := ⟨hris, .inr (List.mem_of_getElem? hroot), by omega, by omega⟩
  obtain ⟨D', g1, g2, g3⟩ := commit_ok (mark := i) h1 (by omega) hc (by rw [hgen]; omega) (by omega)
  have hids : xs = (xs.map Int.toNat).map (fun (k : Nat) => (k : Int)) := by
    rw [List.map_map]
    conv => lhs; rw [← List.map_id xs]
    apply List.map_congr_left
    intro x hx
    obtain ⟨k, rfl, _⟩ := hmem x hx
    simp
  refine ⟨D', g1, g2, hc, by rw [hgen]; omega, h1.dead, by show F.mt.gen + 1 = i + 2; rw [hgen], xs.map Int.toNat, hids, ?_, ⟨⟨_, g3, by rw [List.length_set]; exact h2, by rw [List.length_set]; exact h3⟩, fun k => ?_, fun k hk => ?_, List.nodup_nil, rfl⟩⟩
  · have : (xs.map Int.toNat).Nodup := by
      rw [hids] at hn
      unfold List.Nodup at *
      rw [List.pairwise_map] at hn
      exact hn.imp fun {a b} hab e => hab (by rw [e])
    exact this
  · show keptU xs k = _
    unfold keptU
    rw [Bool.eq_iff_iff]
    simp only [decide_eq_true_eq, List.not_mem_nil, or_false]
    rw [List.mem_map]
    constructor
    · intro hk; exact ⟨_, hk, by simp⟩
    · rintro ⟨x, hx, hxk⟩
      obtain ⟨k', rfl, _⟩ := hmem x hx
      simp at hxk; subst hxk; exact hx
  · rcases hk with hk | hk
    · obtain ⟨x, hx, hxk⟩ := List.mem_map.1 hk
      obtain ⟨k', rfl, hk'⟩ := hmem x hx
      simp at hxk; subst hxk
      have := h.rng k' (.inr hk')
      show 2 ≤ k' ∧ k' < pagesOf D'
      omega
    · simp at hk
/-- What is opened anew. -/
theorem tw_open {L : Nat} {ids : List Nat} {F : Pg} (h : TwOk L ids [] F) (hn : ids.Nodup) : ∃ D', openD F.d = (D', 0) ∧ openE F.d = 0 ∧ (openP D').mt = F.mt ∧ pagesOf D' = pagesOf F.d ∧ freeOf (openP D') = [] ∧
    Rising (openP D') (ids.map fun (k : Nat) => (k : Int)) = Rising F (ids.map fun (k : Nat) => (k : Int)) ∧
    freeOf (keepP (openP D') (ids.map fun (k : Nat) => (k : Int))) = freeOf F ∧ (freeOf F).length + ids.length + 2 = pagesOf F.d ∧
    (∀ k ∈ ids, (readP F k).2 = 0 ∧ readP (keepP (openP D') (ids.map fun (k : Nat) => (k : Int))) k = readP F k ∧ (readP F k).1.length = 512) := by
  obtain ⟨ss, h1, h2, h3⟩ := h.ok
  obtain ⟨D', g1, g2⟩ := nd_open h1.nd
  have hpF := h1.pages
  have hp : pagesOf D' = ss.length / 8 := by unfold pagesOf; rw [nd_len g2]
  have hok : MtOk F.mt (pagesOf D') := by rw [hp]; exact h1.mok
  refine ⟨D', g1, openE_ok g1 g2 h1.metas hok h1.len, best_of g2 h1.metas hok, by rw [hp, hpF], ?_, ?_, ?_, ?_, ?_⟩
  · unfold freeOf freeUpTo
    rw [List.filter_eq_nil_iff]
    intro k hk
    have hk' : k < pagesOf D' := List.mem_range.1 hk
    show ¬ (decide (2 ≤ k) && !decide (2 ≤ k ∧ k < pagesOf D')) = true
    simp; omega
  · apply propext
    exact ⟨fun hr => rising_pages (F2 := F) (by show pagesOf F.d = pagesOf D'; rw [hp, hpF]) hr, fun hr => rising_pages (by show pagesOf D' = pagesOf F.d; rw [hp, hpF]) hr⟩
  · unfold freeOf freeUpTo
    have e : pagesOf (keepP (openP D') (ids.map fun (k : Nat) => (k : Int))).d = pagesOf F.d := by show pagesOf D' = _; rw [hp, hpF]
    rw [e]
    apply List.filter_congr
    intro k _
    have : (keepP (openP D') (ids.map fun (k : Nat) => (k : Int))).used k = F.used k := by
      show keptU _ k = _
      rw [h.used]
      unfold keptU
      rw [Bool.eq_iff_iff]
      simp only [decide_eq_true_eq, List.not_mem_nil, or_false, List.mem_map]
      constructor
      · rintro ⟨j, hj, hjk⟩
        have : j = k := by omega
        exact this ▸ hj
      · intro hk; exact ⟨k, hk, rfl⟩
    rw [this]
  · have hcount : ∀ p, (∀ k ∈ ids, 2 ≤ k ∧ k < p) → ((List.range p).filter fun j => decide (2 ≤ j) && !F.used j).length + ids.length + 2 = max p 2 := by
      intro p hrng
      have h4 : ((List.range p).filter fun j => decide (j ∈ ids)).length = ids.length := by
        refine ((List.perm_ext_iff_of_nodup (List.nodup_range.filter _) hn).2 fun k => ?_).length_eq
        rw [List.mem_filter, List.mem_range]
        simp only [decide_eq_true_eq]
        exact ⟨fun hh => hh.2, fun hh => ⟨(hrng k hh).2, hh⟩⟩
      have h5 : ∀ l : List Nat, (l.filter fun j => decide (2 ≤ j)).length = (l.filter fun j => decide (2 ≤ j) && !F.used j).length + (l.filter fun j => decide (j ∈ ids)).length := by
        intro l
        induction l with
        | nil => rfl
        | cons a r ih =>
          simp only [List.filter_cons]
          have hu : F.used a = decide (a ∈ ids) := by rw [h.used]; simp
          by_cases ha : a ∈ ids
          · have := (hrng a ha).1
            simp [hu, ha, this, ih]; omega
          · by_cases h2a : 2 ≤ a
            · simp [hu, ha, h2a, ih]; omega
            · simp [hu, ha, h2a, ih]
      have h6 : ((List.range p).filter fun j => decide (2 ≤ j)).length = p - 2 := by
        rcases Nat.lt_or_ge p 2 with h7 | h7
        · rw [List.filter_eq_nil_iff.2 (fun k hk => by have := List.mem_range.1 hk; simp; omega)]; simp; omega
        · have := filter_ge (p - 2)
          rw [show 2 + (p - 2) = p by omega] at this
          exact this
      have h7 := h5 (List.range p)
      omega
    have hp2 : 2 ≤ pagesOf F.d := by have := h1.len; omega
    have := hcount (pagesOf F.d) (fun k hk => h.rng k (.inl hk))
    unfold freeOf freeUpTo
    omega
  · intro k hk
    have hk2 := h.rng k (.inl hk)
    have r1 := nd_page h1.nd hk2.1 (by omega)
    have r2 := nd_page (F := keepP (openP D') (ids.map fun (k : Nat) => (k : Int))) g2 hk2.1 (by omega)
    refine ⟨by rw [r1], by rw [r1, r2], ?_⟩
    have h0 : (readP F k).2 = 0 := by rw [r1]
    unfold readP at h0 ⊢
    have hpg : isPg F k = true := by unfold isPg; simp only [Bool.and_eq_true, decide_eq_true_eq]; omega
    rw [if_pos hpg] at h0 ⊢
    rw [readUp_len h0]
end Wb

namespace Wb
open Go

/-! ### a device with the one file, whatever its fuse -/
def fusF (fu : Int) (l : List Cell) : Dv := ⟨3000, fu, [([112], l)]⟩
theorem fus_get (fu : Int) (l : List Cell) : fget (fusF fu l).files [112] = some l := one_get _ l
theorem fus_cells (fu : Int) (l : List Cell) : (fusF fu l).cells [112] = l := by unfold Dv.cells; rw [fus_get]; rfl
theorem fus_len (fu : Int) (l : List Cell) : (fusF fu l).len [112] = l.length := by unfold Dv.len; rw [fus_cells]
theorem fus_thr (fu : Int) (l : List Cell) : (fusF fu l).thr [112] = if fu = 0 then 8 else 0 := by
  unfold Dv.thr
  rw [fus_get]
  rfl
theorem fus_pages (fu : Int) (l : List Cell) : pagesOf (fusF fu l) = l.length / 8 := by unfold pagesOf; rw [fus_len]
theorem fus_set (fu : Int) (l v : List Cell) : ({ fusF fu l with files := fset (fusF fu l).files [112] v } : Dv).done = fusF (if 0 < fu then fu - 1 else fu) v := by
  unfold Dv.done fusF
  simp only [one_set]
theorem fus_read (fu : Int) (l : List Cell) {k : Nat} {c : Cell} (h : l[k]? = some c) : (fusF fu l).read [112] (k : Int) = if c.nowBad then (Sec.zero, 7) else (c.now, 0) := by
  have hl := (List.getElem?_eq_some_iff.1 h).1
  unfold Dv.read
  rw [fus_get]
  simp only
  rw [if_neg (by omega), Int.toNat_natCast, h]
def wrC (l : List Cell) (k : Nat) (s : Sec) : List Cell := if k = l.length then l ++ [Cell.zero.write s] else l.modify k (·.write s)
def syC (l : List Cell) : List Cell := l.map fun (c : Cell) => if c.fresh then c.lasts else c
theorem fus_write (fu : Int) (l : List Cell) {k : Nat} (s : Sec) (hk : k ≤ l.length) (hm : l.length < 3000) :
    (fu = 0 ∧ (fusF fu l).write [112] (k : Int) s = (fusF fu l, 8)) ∨ (fu ≠ 0 ∧ (fusF fu l).write [112] (k : Int) s = (fusF (if 0 < fu then fu - 1 else fu) (wrC l k s), 0)) := by
  by_cases hf : fu = 0
  · left
    refine ⟨hf, ?_⟩
    unfold Dv.write
    rw [fus_thr, if_pos hf, if_pos (by decide)]
  · right
    refine ⟨hf, ?_⟩
    unfold Dv.write
    rw [fus_thr, if_neg hf, if_neg (by simp), fus_len, if_neg (by omega), fus_cells]
    unfold wrC
    by_cases h1 : k = l.length
    · rw [if_pos (by omega), if_neg (by show ¬ 3000 ≤ used [([112], l)]; rw [one_used]; omega), if_pos h1, fus_set]
    · rw [if_neg (by omega), if_neg h1, Int.toNat_natCast, fus_set]
theorem fus_sync (fu : Int) (l : List Cell) : (fu = 0 ∧ (fusF fu l).sync [112] = (fusF fu l, 8)) ∨ (fu ≠ 0 ∧ (fusF fu l).sync [112] = (fusF (if 0 < fu then fu - 1 else fu) (syC l), 0)) := by
  by_cases hf : fu = 0
  · left
    refine ⟨hf, ?_⟩
    unfold Dv.sync
    rw [fus_thr, if_pos hf, if_pos (by decide)]
  · right
    refine ⟨hf, ?_⟩
    unfold Dv.sync
    rw [fus_thr, if_neg hf, if_neg (by simp), fus_cells, fus_set]
    rfl
theorem fus_crash (fu : Int) (l : List Cell) (pick : List Int) : (fusF fu l).crash pick = fusF (-1) (trim (crashCells l pick).1) := rfl

/-! ### cells -/
/-- What lasts of a cell that is not fresh is what it reads. -/
def cellOk (c : Cell) : Prop := c.fresh = false → c.last = c.now ∧ c.lastBad = c.nowBad ∧ c.there = true
def CrAt (l : List Cell) (k : Nat) (s : Sec) : Prop := ∃ c, l[k]? = some c ∧ c.fresh = false ∧ c.nowBad = false ∧ c.now = s
def CrNow (l : List Cell) (k : Nat) (s : Sec) : Prop := ∃ c, l[k]? = some c ∧ c.nowBad = false ∧ c.now = s
theorem CrAt.now {l : List Cell} {k : Nat} {s : Sec} (h : CrAt l k s) : CrNow l k s := by
  obtain ⟨c, h1, h2, h3, h4⟩ := h
  exact ⟨c, h1, h3, h4⟩
theorem CrNow.lt {l : List Cell} {k : Nat} {s : Sec} (h : CrNow l k s) : k < l.length := by
  obtain ⟨c, h1, _⟩ := h
  exact (List.getElem?_eq_some_iff.1 h1).1
theorem CrNow.read {l : List Cell} {k : Nat} {s : Sec} (h : CrNow l k s) (fu : Int) : (fusF fu l).read [112] (k : Int) = (s, 0) := by
  obtain ⟨c, h1, h2, h3⟩ := h
  rw [fus_read fu l h1, h2, h3]
  rfl
theorem wrC_get {l : List Cell} {k : Nat} (s : Sec) {j : Nat} (hj : j ≠ k) : (wrC l k s)[j]? = l[j]? := by
  unfold wrC
  split
  · rename_i h
    rcases Nat.lt_or_ge j l.length with h1 | h1
    · rw [List.getElem?_append_left h1]
    · rw [List.getElem?_eq_none (by simp; omega), List.getElem?_eq_none h1]
  · rw [List.getElem?_modify]
    have hkj : ¬ k = j := fun h => hj h.symm
    cases l[j]? <;> simp [hkj]
theorem wrC_self {l : List Cell} {k : Nat} (s : Sec) (hk : k ≤ l.length) : (wrC l k s)[k]? = some ((l[k]?.getD Cell.zero).write s) := by
  unfold wrC
  split
  · rename_i h
    subst h
    rw [List.getElem?_append_right (Nat.le_refl _), List.getElem?_eq_none (Nat.le_refl _)]
    simp
  · rename_i h
    rw [List.getElem?_modify, List.getElem?_eq_getElem (by omega)]
    simp
theorem wrC_len {l : List Cell} {k : Nat} (s : Sec) (hk : k ≤ l.length) : (wrC l k s).length = max (k + 1) l.length := by
  unfold wrC
  split
  · simp; omega
  · rw [List.length_modify]; omega
theorem wrC_ok {l : List Cell} {k : Nat} (s : Sec) (h : ∀ c ∈ l, cellOk c) : ∀ c ∈ wrC l k s, cellOk c := by
  intro c hc
  obtain ⟨j, hj⟩ := List.mem_iff_getElem?.1 hc
  by_cases hjk : j = k
  · subst hjk
    have hk : j ≤ l.length := by
      have h1 := (List.getElem?_eq_some_iff.1 hj).1
      unfold wrC at h1
      split at h1
      · omega
      · rw [List.length_modify] at h1; omega
    rw [wrC_self s hk] at hj
    cases hj
    intro hf
    cases hf
  · rw [wrC_get s hjk] at hj
    exact h c (List.mem_of_getElem? hj)
theorem CrAt.wr {l : List Cell} {j k : Nat} {s s2 : Sec} (h : CrAt l j s) (hj : j ≠ k) : CrAt (wrC l k s2) j s := by
  obtain ⟨c, h1, h2⟩ := h
  exact ⟨c, by rw [wrC_get s2 hj]; exact h1, h2⟩
theorem CrNow.wr {l : List Cell} {j k : Nat} {s s2 : Sec} (h : CrNow l j s) (hj : j ≠ k) : CrNow (wrC l k s2) j s := by
  obtain ⟨c, h1, h2⟩ := h
  exact ⟨c, by rw [wrC_get s2 hj]; exact h1, h2⟩
theorem CrNow.self {l : List Cell} {k : Nat} (s : Sec) (hk : k ≤ l.length) : CrNow (wrC l k s) k s := ⟨_, wrC_self s hk, rfl, rfl⟩
theorem syC_len (l : List Cell) : (syC l).length = l.length := by simp [syC]
theorem syC_get (l : List Cell) (k : Nat) : (syC l)[k]? = l[k]?.map fun (c : Cell) => if c.fresh then c.lasts else c := by unfold syC; rw [List.getElem?_map]
theorem CrNow.sync {l : List Cell} {k : Nat} {s : Sec} (h : CrNow l k s) : CrAt (syC l) k s := by
  obtain ⟨c, h1, h2, h3⟩ := h
  refine ⟨if c.fresh then c.lasts else c, by rw [syC_get, h1]; rfl, ?_⟩
  cases hf : c.fresh with
  | true => rw [if_pos rfl]; exact ⟨rfl, h2, h3⟩
  | false => rw [if_neg (by simp)]; exact ⟨hf, h2, h3⟩
theorem syC_ok {l : List Cell} (h : ∀ c ∈ l, cellOk c) : ∀ c ∈ syC l, cellOk c := by
  intro c hc
  obtain ⟨c0, h0, rfl⟩ := List.mem_map.1 hc
  split
  · intro _; exact ⟨rfl, rfl, rfl⟩
  · exact h c0 h0
theorem endOf_lt {xs : List (Cell × Bool)} : ∀ {k : Nat} {x : Cell × Bool}, xs[k]? = some x → x.2 = true → k < endOf xs := by
  induction xs with
  | nil => intro k x h; simp at h
  | cons y r ih =>
    intro k x h hx
    simp only [endOf]
    cases k with
    | zero =>
      simp only [List.getElem?_cons_zero, Option.some.injEq] at h
      subst h
      split
      · omega
      · exact Nat.zero_lt_one
    | succ k =>
      simp only [List.getElem?_cons_succ] at h
      have := ih h hx
      rw [if_pos (by omega)]
      omega
/-- A cell that is there behind the crash, whatever is picked. -/
theorem crash_way {c : Cell} (h : c.fresh = true) (p : List Int) : ∃ way, (crashC c p).1 = fallC c way := by
  unfold crashC
  rw [if_pos h]
  exact ⟨_, rfl⟩
theorem crash_there {l : List Cell} {pick : List Int} {k : Nat} {c : Cell} (h : l[k]? = some c) (ht : ∀ p, (crashC c p).1.2 = true) : ∃ p, (trim (crashCells l pick).1)[k]? = some (crashC c p).1.1.lasts := by
  have h1 := crashCells_get l pick k
  rw [h, Option.map_some] at h1
  have h2 := endOf_lt h1 (ht _)
  refine ⟨pick.drop (freshN (l.take k)), ?_⟩
  rw [trim_get _ _ h2, h1, Option.map_some]
  unfold outC
  rw [if_pos (ht _)]
theorem CrAt.crash {l : List Cell} {k : Nat} {s : Sec} (h : CrAt l k s) (pick : List Int) : CrNow (trim (crashCells l pick).1) k s := by
  obtain ⟨c, h1, h2, h3, h4⟩ := h
  have hc : ∀ p, (crashC c p).1 = (c, true) := by
    intro p
    unfold crashC
    rw [h2]
    rfl
  obtain ⟨p, hp⟩ := crash_there (pick := pick) h1 (fun p => by rw [hc])
  rw [hc] at hp
  exact ⟨_, hp, h3, h4⟩

/-! ### what is safe -/
def CrPages (P : Nat → Sec → Prop) (ids : List Nat) (texts : List (List UInt8)) : Prop :=
  texts.length = ids.length ∧ ∀ (j : Nat) id, ids[j]? = some id → 2 ≤ id ∧ ∃ b, texts[j]? = some (wholeP b) ∧ b.length ≤ 512 ∧ ∀ q, q < 8 → P (id * 8 + q) (pageSec b q)
theorem CrPages.mono {P Q : Nat → Sec → Prop} {ids : List Nat} {texts : List (List UInt8)} (h : CrPages P ids texts) (hpq : ∀ k s, 16 ≤ k → P k s → Q k s) : CrPages Q ids texts :=
  ⟨h.1, fun j id hj => by
    obtain ⟨h1, b, h2, h3, h4⟩ := h.2 j id hj
    exact ⟨h1, b, h2, h3, fun q hq => hpq _ _ (by omega) (h4 q hq)⟩⟩
theorem CrPages.nil (P : Nat → Sec → Prop) : CrPages P [] [] := ⟨rfl, fun j id h => by simp at h⟩
/-- What is older than a meta. -/
def Older (m : Mt) (s : Sec) : Prop := s = Sec.zero ∨ ∃ m', m'.ok ∧ s = metaS m' ∧ m'.gen < m.gen
structure CrMt (m : Mt) (ids : List Nat) : Prop where
  ok : m.ok
  gen : m.gen ≠ 0
  root : m.root = 0 ∨ m.root ∈ ids
  root' : m.root ≤ 4611686018427387904
  count : m.count ≤ 4611686018427387904
structure Safe (l : List Cell) (m : Mt) (ids : List Nat) (texts : List (List UInt8)) : Prop where
  ok : ∀ c ∈ l, cellOk c
  mt : CrAt l (m.gen % 2 * 8) (metaS m)
  oth : ∃ s, CrAt l ((m.gen + 1) % 2 * 8) s ∧ Older m s
  last : ∃ s, CrAt l 15 s
  pages : CrPages (CrAt l) ids texts
  mok : CrMt m ids
/-- What stands behind a crash. -/
structure Good (l : List Cell) (m : Mt) (ids : List Nat) (texts : List (List UInt8)) : Prop where
  mt : CrNow l (m.gen % 2 * 8) (metaS m)
  oth : ∃ c, l[(m.gen + 1) % 2 * 8]? = some c ∧ (c.nowBad = true ∨ Older m c.now)
  len : 16 ≤ l.length
  pages : CrPages (CrNow l) ids texts
  mok : CrMt m ids
theorem Safe.crash {l : List Cell} {m : Mt} {ids : List Nat} {texts : List (List UInt8)} (h : Safe l m ids texts) (pick : List Int) : Good (trim (crashCells l pick).1) m ids texts := by
  obtain ⟨s, h1, h2⟩ := h.oth
  obtain ⟨c, h3, h4, h5⟩ := h1.crash pick
  obtain ⟨s', h6⟩ := h.last
  exact ⟨h.mt.crash pick, ⟨c, h3, .inr (by rw [h5]; exact h2)⟩, (h6.crash pick).lt, h.pages.mono (fun k s _ hk => hk.crash pick), h.mok⟩
theorem Safe.wr {l : List Cell} {m : Mt} {ids : List Nat} {texts : List (List UInt8)} (h : Safe l m ids texts) {k : Nat} (s : Sec) (hk : 16 ≤ k) (hp : ∀ id ∈ ids, k < id * 8 ∨ id * 8 + 8 ≤ k) : Safe (wrC l k s) m ids texts := by
  obtain ⟨s0, h1, h2⟩ := h.oth
  obtain ⟨s', h6⟩ := h.last
  refine ⟨wrC_ok s h.ok, h.mt.wr (by omega), ⟨s0, h1.wr (by omega), h2⟩, ⟨s', h6.wr (by omega)⟩, ⟨h.pages.1, fun j id hj => ?_⟩, h.mok⟩
  obtain ⟨g1, b, g2, g3, g4⟩ := h.pages.2 j id hj
  refine ⟨g1, b, g2, g3, fun q hq => (g4 q hq).wr ?_⟩
  have := hp id (List.mem_of_getElem? hj)
  omega
theorem Safe.sync {l : List Cell} {m : Mt} {ids : List Nat} {texts : List (List UInt8)} (h : Safe l m ids texts) : Safe (syC l) m ids texts := by
  obtain ⟨s0, h1, h2⟩ := h.oth
  obtain ⟨s', h6⟩ := h.last
  exact ⟨syC_ok h.ok, h.mt.now.sync, ⟨s0, h1.now.sync, h2⟩, ⟨s', h6.now.sync⟩, h.pages.mono (fun k s _ hk => hk.now.sync), h.mok⟩
theorem now_pages_wr {l : List Cell} {ids : List Nat} {texts : List (List UInt8)} (h : CrPages (CrNow l) ids texts) {k : Nat} (s : Sec) (hp : ∀ id ∈ ids, k < id * 8 ∨ id * 8 + 8 ≤ k) : CrPages (CrNow (wrC l k s)) ids texts := by
  refine ⟨h.1, fun j id hj => ?_⟩
  obtain ⟨g1, b, g2, g3, g4⟩ := h.2 j id hj
  refine ⟨g1, b, g2, g3, fun q hq => (g4 q hq).wr ?_⟩
  have := hp id (List.mem_of_getElem? hj)
  omega
theorem mod2_ne (a : Nat) : (a + 1) % 2 * 8 ≠ a % 2 * 8 := by omega
/-- A meta is written over the older one. -/
theorem Safe.meta {l : List Cell} {m m' : Mt} {ids nids : List Nat} {texts ntexts : List (List UInt8)} (h : Safe l m ids texts) (hn : CrPages (CrAt l) nids ntexts) (hm : CrMt m' nids) (hg : m'.gen = m.gen + 1) :
    Safe (syC (wrC l (m'.gen % 2 * 8) (metaS m'))) m' nids ntexts ∧ ∀ pick, Good (trim (crashCells (wrC l (m'.gen % 2 * 8) (metaS m')) pick).1) m ids texts ∨ Good (trim (crashCells (wrC l (m'.gen % 2 * 8) (metaS m')) pick).1) m' nids ntexts := by
  obtain ⟨s0, h1, h2⟩ := h.oth
  obtain ⟨s', h6⟩ := h.last
  have he : m'.gen % 2 * 8 = (m.gen + 1) % 2 * 8 := by rw [hg]
  have he2 : (m'.gen + 1) % 2 * 8 = m.gen % 2 * 8 := by rw [hg]; omega
  have hlt := h1.now.lt
  have hne : m.gen % 2 * 8 ≠ m'.gen % 2 * 8 := by omega
  have h15 : 15 ≠ m'.gen % 2 * 8 := by omega
  have hsl : m'.gen % 2 * 8 ≤ 8 := by omega
  have old : Older m' (metaS m) := .inr ⟨m, h.mok.ok, rfl, by omega⟩
  refine ⟨⟨syC_ok (wrC_ok _ h.ok), (CrNow.self _ (by omega)).sync, ⟨_, by rw [he2]; exact (h.mt.wr hne).now.sync, old⟩, ⟨s', (h6.wr h15).now.sync⟩, hn.mono (fun k s hk hx => (hx.wr (by omega)).now.sync), hm⟩, fun pick => ?_⟩
  obtain ⟨c, k1, k2, k3, k4⟩ := h1
  have hco := h.ok c (List.mem_of_getElem? k1) k2
  have hc3 : (wrC l (m'.gen % 2 * 8) (metaS m'))[m'.gen % 2 * 8]? = some (c.write (metaS m')) := by
    rw [wrC_self _ (by omega), he, k1]; rfl
  have hthere : ∀ p, (crashC (c.write (metaS m')) p).1.2 = true := by
    intro p
    obtain ⟨way, hw⟩ := crash_way (show (c.write (metaS m')).fresh = true from rfl) p
    rw [hw]
    unfold fallC
    split
    · exact hco.2.2
    · split <;> rfl
  obtain ⟨p, hp⟩ := crash_there (pick := pick) hc3 hthere
  have gmt := (h.mt.wr (s2 := metaS m') hne).crash pick
  have g15 := ((h6.wr (s2 := metaS m') h15).crash pick).lt
  have gold := h.pages.mono (Q := CrNow (trim (crashCells (wrC l (m'.gen % 2 * 8) (metaS m')) pick).1)) (fun k s hk hx => (hx.wr (by omega)).crash pick)
  have gnew := hn.mono (Q := CrNow (trim (crashCells (wrC l (m'.gen % 2 * 8) (metaS m')) pick).1)) (fun k s hk hx => (hx.wr (by omega)).crash pick)
  have hcase : ((crashC (c.write (metaS m')) p).1.1.lasts.nowBad = true ∨ Older m (crashC (c.write (metaS m')) p).1.1.lasts.now) ∨ ((crashC (c.write (metaS m')) p).1.1.lasts.nowBad = false ∧ (crashC (c.write (metaS m')) p).1.1.lasts.now = metaS m') := by
    obtain ⟨way, hw⟩ := crash_way (show (c.write (metaS m')).fresh = true from rfl) p
    rw [hw]
    unfold fallC
    split
    · left; right
      show Older m c.last
      rw [hco.1, k4]; exact h2
    · split
      · right; exact ⟨rfl, rfl⟩
      · left; left; rfl
  rcases hcase with hA | hB
  · left
    exact ⟨gmt, ⟨_, by rw [← he]; exact hp, hA⟩, g15, gold, h.mok⟩
  · right
    obtain ⟨cm, q1, q2, q3⟩ := gmt
    exact ⟨⟨_, hp, hB.1, hB.2⟩, ⟨cm, by rw [he2]; exact q1, .inr (by rw [q3]; exact old)⟩, g15, gnew, hm⟩

/-! ### opening behind a crash -/
theorem best_reads {D : Dv} {m : Mt} {r : Sec × Int} (hm : D.read [112] ((m.gen % 2 * 8 : Nat) : Int) = (metaS m, 0)) (hr : D.read [112] (((m.gen + 1) % 2 * 8 : Nat) : Int) = r) (hlt : ∀ id long, (metaAt r id long).1.gen < m.gen) (hok : MtOk m (pagesOf D)) : bestMt D = m := by
  have hat := hok.at
  have h0 : mt0.gen < m.gen := by have := hok.gen; show 0 < m.gen; omega
  unfold bestMt
  rcases Nat.mod_two_eq_zero_or_one m.gen with e | e
  · have e2 : (m.gen + 1) % 2 = 1 := by omega
    rw [e] at hm hat; rw [e2] at hr
    simp only [Nat.zero_mul, Nat.one_mul] at hm hr
    rw [show ((0 : Nat) : Int) = 0 from rfl] at hm
    rw [show ((8 : Nat) : Int) = 8 from rfl] at hr
    rw [hm, hr, hat]
    have hb : betterMt mt0 (m, true) = m := by unfold betterMt; rw [if_pos ⟨rfl, h0⟩]
    rw [hb]
    unfold betterMt
    rw [if_neg (fun h => by have := h.2; have := hlt 1 (pagesOf D); omega)]
  · have e2 : (m.gen + 1) % 2 = 0 := by omega
    rw [e] at hm hat; rw [e2] at hr
    simp only [Nat.zero_mul, Nat.one_mul] at hm hr
    rw [show ((0 : Nat) : Int) = 0 from rfl] at hr
    rw [show ((8 : Nat) : Int) = 8 from rfl] at hm
    rw [hm, hr, hat]
    have hb := better_no (a := mt0) (r := metaAt r 0 (pagesOf D)) (hlt 0 (pagesOf D)) h0
    unfold betterMt at hb ⊢
    rw [if_pos ⟨rfl, hb⟩]
theorem Good.sync {l : List Cell} {m : Mt} {ids : List Nat} {texts : List (List UInt8)} (h : Good l m ids texts) : Good (syC l) m ids texts := by
  obtain ⟨c, h1, h2⟩ := h.oth
  refine ⟨h.mt.sync.now, ⟨if c.fresh then c.lasts else c, by rw [syC_get, h1]; rfl, ?_⟩, by rw [syC_len]; exact h.len, h.pages.mono (fun k s _ hk => hk.sync.now), h.mok⟩
  split <;> exact h2
theorem readUp_now {fu : Int} {l : List Cell} {b : Nat} {f : Nat → Sec} : ∀ q, (∀ i, i < q → CrNow l (b + i) (f i)) → readUp (fusF fu l) b q = (((List.range q).map f).flatMap (·.1), 0)
  | 0, _ => by simp [readUp]
  | q + 1, h => by
    have ih := readUp_now (fu := fu) q (fun i hi => h i (by omega))
    have hr := (h q (by omega)).read fu
    have hc : ((b : Int) + q) = ((b + q : Nat) : Int) := by omega
    rw [readUp, ih, if_pos rfl, hc, hr, if_pos rfl, List.range_succ, List.map_append, List.flatMap_append]
    simp
theorem Good.mtOk {l : List Cell} {m : Mt} {ids : List Nat} {texts : List (List UInt8)} (h : Good l m ids texts) (fu : Int) : MtOk m (pagesOf (fusF fu l)) := by
  refine ⟨h.mok.ok, h.mok.gen, ?_, h.mok.root', h.mok.count⟩
  rcases h.mok.root with h1 | h1
  · exact .inl h1
  · right
    obtain ⟨j, hj⟩ := List.mem_iff_getElem?.1 h1
    obtain ⟨g1, b, g2, g3, g4⟩ := h.pages.2 j _ hj
    have := (g4 7 (by omega)).lt
    rw [fus_pages]
    omega
theorem Good.best {l : List Cell} {m : Mt} {ids : List Nat} {texts : List (List UInt8)} (h : Good l m ids texts) (fu : Int) : bestMt (fusF fu l) = m := by
  obtain ⟨c, h1, h2⟩ := h.oth
  refine best_reads (h.mt.read fu) (fus_read fu l h1) (fun id long => ?_) (h.mtOk fu)
  have h0 := h.mok.gen
  cases hb : c.nowBad with
  | true =>
    rw [if_pos rfl]
    unfold metaAt
    rw [if_neg (fun h => by have := h.1; cases this)]
    show 0 < m.gen
    omega
  | false =>
    rw [if_neg (by simp)]
    rcases h2 with h3 | h3
    · rw [hb] at h3; cases h3
    · exact older h3 h0 id long
theorem good_open {l : List Cell} {m : Mt} {ids : List Nat} {texts : List (List UInt8)} (h : Good l m ids texts) : openD (fusF (-1) l) = (fusF (-1) (syC l), 0) ∧ openE (fusF (-1) l) = 0 := by
  have h1 : openD (fusF (-1) l) = (fusF (-1) (syC l), 0) := by
    unfold openD
    rw [if_pos (by show [112] ∈ [([112] : Nm)]; simp)]
    rcases fus_sync (-1) l with ⟨h2, _⟩ | ⟨_, h2⟩
    · cases h2
    · rw [h2]; rfl
  refine ⟨h1, ?_⟩
  unfold openE
  rw [h1]
  simp only
  rw [if_neg (by simp), h.sync.best, fus_pages, syC_len, if_neg]
  have h2 := h.len
  have h3 := h.mok.gen
  omega
theorem good_read {l : List Cell} {m : Mt} {ids : List Nat} {texts : List (List UInt8)} (h : Good l m ids texts) {F : Pg} {fu : Int} (hF : F.d = fusF fu l) {j id : Nat} {t : List UInt8} (hj : ids[j]? = some id) (ht : texts[j]? = some t) : readP F (id : Int) = (t, 0) := by
  obtain ⟨g1, b, g2, g3, g4⟩ := h.pages.2 j id hj
  have := (g4 7 (by omega)).lt
  rw [ht] at g2
  cases g2
  unfold readP isPg
  rw [hF, fus_pages, if_pos (by simp; omega), Int.toNat_natCast, readUp_now 8 (fun i hi => g4 i hi), pageSec_cat, List.take_of_length_le (by omega)]
  rfl

/-! ### what stands between the calls -/
structure CrOk (n : Nat) (m : Mt) (ids : List Nat) (texts : List (List UInt8)) (nids : List Nat) (ntexts : List (List UInt8)) (F : Pg) : Prop where
  d : ∃ fu l, F.d = fusF fu l ∧ Safe l m ids texts ∧ CrPages (CrNow l) nids ntexts ∧ l.length % 8 = 0 ∧ l.length ≤ 16 + 8 * n
  mt : F.mt = m
  dead : F.dead = false
  used : ∀ id, id ∈ ids ∨ id ∈ nids → F.used id = true
  nodup : nids.Nodup
  fresh : F.fresh.length ≤ n
/-- What stands behind a call that fell. -/
def CrEnd (m : Mt) (ids : List Nat) (texts : List (List UInt8)) (m' : Mt) (ids' : List Nat) (texts' : List (List UInt8)) (D : Dv) : Prop :=
  ∃ fu l, D = fusF fu l ∧ ∀ pick, Good (trim (crashCells l pick).1) m ids texts ∨ Good (trim (crashCells l pick).1) m' ids' texts'
theorem CrEnd.crash {m m' : Mt} {ids ids' : List Nat} {texts texts' : List (List UInt8)} {D : Dv} (h : CrEnd m ids texts m' ids' texts' D) (pick : List Int) : ∃ l, D.crash pick = fusF (-1) l ∧ (Good l m ids texts ∨ Good l m' ids' texts') := by
  obtain ⟨fu, l, rfl, h2⟩ := h
  exact ⟨_, fus_crash fu l pick, h2 pick⟩
theorem CrOk.fallen {n : Nat} {m : Mt} {ids nids : List Nat} {texts ntexts : List (List UInt8)} {F : Pg} (h : CrOk n m ids texts nids ntexts F) : CrEnd m ids texts m ids texts F.d := by
  obtain ⟨fu, l, h1, h2, _⟩ := h.d
  exact ⟨fu, l, h1, fun pick => .inl (h2.crash pick)⟩
theorem cr_wrUp {m : Mt} {ids nids : List Nat} {texts ntexts : List (List UInt8)} {fu : Int} {l : List Cell} {p : Nat} (f : Nat → Sec) (h1 : Safe l m ids texts) (h2 : CrPages (CrNow l) nids ntexts) (hp : 2 ≤ p) (hi : p ∉ ids) (hn : p ∉ nids) (hl : p * 8 ≤ l.length) (h3 : p * 8 + 8 ≤ 3000) (h4 : l.length ≤ 2992) :
    ∀ q, q ≤ 8 → ∃ fu' l', (wrUp (fusF fu l) (p * 8) f q).1 = fusF fu' l' ∧ Safe l' m ids texts ∧ CrPages (CrNow l') nids ntexts ∧ p * 8 ≤ l'.length ∧ l'.length ≤ max (p * 8 + q) l.length ∧ (fu = -1 → fu' = -1 ∧ (wrUp (fusF fu l) (p * 8) f q).2 = 0) ∧
      ((wrUp (fusF fu l) (p * 8) f q).2 = 0 → l'.length = max (p * 8 + q) l.length ∧ ∀ i, i < q → CrNow l' (p * 8 + i) (f i))
  | 0, _ => ⟨fu, l, rfl, h1, h2, hl, by omega, fun h => ⟨h, rfl⟩, fun _ => ⟨by omega, fun i h => by omega⟩⟩
  | q + 1, hq => by
    obtain ⟨fu', l', a1, a2, a3, a4, a5, a6, a7⟩ := cr_wrUp f h1 h2 hp hi hn hl h3 h4 q (by omega)
    by_cases he : (wrUp (fusF fu l) (p * 8) f q).2 = 0
    · obtain ⟨b1, b2⟩ := a7 he
      have hpair : wrUp (fusF fu l) (p * 8) f q = (fusF fu' l', 0) := Prod.ext a1 he
      have hc : (((p * 8 : Nat) : Int) + q) = ((p * 8 + q : Nat) : Int) := by omega
      rw [wrUp_step hpair, hc]
      rcases fus_write fu' l' (k := p * 8 + q) (f q) (by omega) (by omega) with ⟨c1, c2⟩ | ⟨c1, c2⟩
      · rw [c2]
        refine ⟨fu', l', rfl, a2, a3, a4, by omega, fun h => ?_, fun h => ?_⟩
        · have := (a6 h).1; omega
        · cases h
      · rw [c2]
        have hfar : ∀ id, id ≠ p → p * 8 + q < id * 8 ∨ id * 8 + 8 ≤ p * 8 + q := fun id hid => by omega
        have hw := wrC_len (l := l') (k := p * 8 + q) (f q) (by omega)
        refine ⟨_, _, rfl, a2.wr (f q) (by omega) (fun id hid => hfar id (fun e => hi (e ▸ hid))), now_pages_wr a3 (f q) (fun id hid => hfar id (fun e => hn (e ▸ hid))), by omega, by omega, fun h => ?_, fun _ => ⟨by omega, fun i hi2 => ?_⟩⟩
        · have := (a6 h).1
          exact ⟨by rw [if_neg (by omega)]; exact this, rfl⟩
        · by_cases hiq : i = q
          · subst hiq; exact CrNow.self _ (by omega)
          · exact (b2 i (by omega)).wr (by omega)
    · have hb := wrUp_bad he 1
      rw [hb]
      exact ⟨fu', l', a1, a2, a3, a4, by omega, fun h => absurd (a6 h).2 he, fun h => absurd h he⟩
theorem cr_put {n : Nat} {m : Mt} {ids nids : List Nat} {texts ntexts : List (List UInt8)} {F : Pg} (h : CrOk n m ids texts nids ntexts F) (b : List UInt8) (hb : b.length ≤ 512) {p : Nat} (hp : isLeast F p) (hn : n < 100) :
    ((putP F b p).2 = 0 ∧ p ≤ 200 ∧ CrOk (n + 1) m ids texts (nids ++ [p]) (ntexts ++ [wholeP b]) (putP F b p).1) ∨ ((putP F b p).2 ≠ 0 ∧ CrEnd m ids texts m ids texts (putP F b p).1.d) := by
  obtain ⟨fu, l, h1, h2, h3, h4, h5⟩ := h.d
  have hpg : pagesOf F.d = l.length / 8 := by rw [h1, fus_pages]
  have hp2 := hp.1
  have h16 : 16 ≤ l.length := by obtain ⟨s, hs⟩ := h2.last; have := hs.now.lt; omega
  have hle : p * 8 ≤ l.length := by
    rcases Nat.lt_or_ge 2 p with h6 | h6
    · have := (hp.2.1 (p - 1) (by omega) (by omega)).1; omega
    · omega
  have hpage : ∀ {P : Nat → Sec → Prop} {is : List Nat} {ts : List (List UInt8)}, CrPages P is ts → (∀ k s, P k s → k < l.length) → ∀ id ∈ is, id * 8 + 8 ≤ l.length := by
    intro P is ts hP hPl id hid
    obtain ⟨j, hj⟩ := List.mem_iff_getElem?.1 hid
    obtain ⟨g1, b, g2, g3, g4⟩ := hP.2 j id hj
    have := hPl _ _ (g4 7 (by omega))
    omega
  have hno : ∀ {is : List Nat}, (∀ id ∈ is, id * 8 + 8 ≤ l.length ∧ F.used id = true) → p ∉ is := by
    intro is his hm
    obtain ⟨h6, h7⟩ := his p hm
    rcases hp.2.2 with h8 | h8
    · omega
    · rw [h7] at h8; cases h8
  have hi : p ∉ ids := hno (fun id hid => ⟨hpage h2.pages (fun k s hk => hk.now.lt) id hid, h.used id (.inl hid)⟩)
  have hni : p ∉ nids := hno (fun id hid => ⟨hpage h3 (fun k s hk => hk.lt) id hid, h.used id (.inr hid)⟩)
  obtain ⟨fu', l', a1, a2, a3, a4, a5, _, a7⟩ := cr_wrUp (fu := fu) (pageSec b) h2 h3 hp2 hi hni hle (by omega) (by omega) 8 (Nat.le_refl _)
  rw [← h1] at a1 a7
  by_cases he : (wrUp F.d (p * 8) (pageSec b) 8).2 = 0
  · obtain ⟨b1, b2⟩ := a7 he
    have hput : putP F b p = ({ F with d := (wrUp F.d (p * 8) (pageSec b) 8).1, used := fun j => F.used j || decide (j = p), fresh := F.fresh ++ [p] }, 0) := by unfold putP; rw [if_pos he]
    left
    rw [hput]
    refine ⟨rfl, by omega, ⟨fu', l', a1, a2, ⟨by simp [a3.1], fun j id hj => ?_⟩, by omega, by omega⟩, h.mt, h.dead, fun id hid => ?_, ?_, ?_⟩
    · by_cases hjl : j < nids.length
      · rw [List.getElem?_append_left hjl] at hj
        obtain ⟨g1, b', g2, g3, g4⟩ := a3.2 j id hj
        exact ⟨g1, b', by rw [List.getElem?_append_left (by rw [a3.1]; exact hjl)]; exact g2, g3, g4⟩
      · rw [List.getElem?_append_right (by omega)] at hj
        have hlt := (List.getElem?_eq_some_iff.1 hj).1
        have hj0 : j - nids.length = 0 := by simp at hlt; omega
        rw [hj0] at hj
        simp at hj
        subst hj
        exact ⟨hp2, b, by rw [List.getElem?_append_right (by rw [a3.1]; omega), a3.1, hj0]; rfl, hb, b2⟩
    · show (F.used id || decide (id = p)) = true
      have h9 : id ∈ ids ∨ id ∈ nids ∨ id = p := by
        rcases hid with h9 | h9
        · exact .inl h9
        · rcases List.mem_append.1 h9 with h9 | h9
          · exact .inr (.inl h9)
          · exact .inr (.inr (List.mem_singleton.1 h9))
      rcases h9 with h9 | h9 | h9
      · rw [h.used id (.inl h9)]; rfl
      · rw [h.used id (.inr h9)]; rfl
      · simp [h9]
    · rw [List.nodup_append]
      exact ⟨h.nodup, by simp, fun a ha b hb => by rw [List.mem_singleton.1 hb]; exact fun e => hni (e ▸ ha)⟩
    · show (F.fresh ++ [p]).length ≤ _
      rw [List.length_append]; have := h.fresh; simp; omega
  · right
    have hput : putP F b p = ({ F with d := (wrUp F.d (p * 8) (pageSec b) 8).1 }, (wrUp F.d (p * 8) (pageSec b) 8).2) := by unfold putP; rw [if_neg he]
    rw [hput]
    exact ⟨he, fu', l', a1, fun pick => .inl (a2.crash pick)⟩
theorem cr_commit {n : Nat} {m : Mt} {ids nids : List Nat} {texts ntexts : List (List UInt8)} {F : Pg} (h : CrOk n m ids texts nids ntexts F) {root count : Int} {mark : Nat} {sids : List Int} (hm : CrMt (nextMt F root count mark) nids) (hs : ∀ id ∈ nids, (id : Int) ∈ sids) (hn : n < 300) :
    ((wrMeta F.d (nextMt F root count mark)).2 = 0 ∧ pagesOf (wrMeta F.d (nextMt F root count mark)).1 = pagesOf F.d ∧ CrOk n (nextMt F root count mark) nids ntexts [] [] (keepP { F with d := (wrMeta F.d (nextMt F root count mark)).1, mt := nextMt F root count mark } sids)) ∨
    ((wrMeta F.d (nextMt F root count mark)).2 ≠ 0 ∧ CrEnd m ids texts (nextMt F root count mark) nids ntexts (wrMeta F.d (nextMt F root count mark)).1) := by
  obtain ⟨fu, l, h1, h2, h3, h4, h5⟩ := h.d
  have hgen : (nextMt F root count mark).gen = m.gen + 1 := by unfold nextMt; rw [h.mt]
  generalize nextMt F root count mark = m' at *
  have h16 : 16 ≤ l.length := by obtain ⟨s, hs⟩ := h2.last; have := hs.now.lt; omega
  unfold wrMeta
  rw [h1]
  rcases fus_sync fu l with ⟨_, c1⟩ | ⟨_, c1⟩
  · right
    rw [c1]
    exact ⟨by simp, fu, l, rfl, fun pick => .inl (h2.crash pick)⟩
  · rw [c1]
    simp only [if_true]
    have hc : ((m'.gen % 2 : Nat) : Int) * 8 = ((m'.gen % 2 * 8 : Nat) : Int) := by omega
    have hsl : m'.gen % 2 * 8 ≤ 8 := by omega
    have hl1 := syC_len l
    rw [hc]
    obtain ⟨k1, k2⟩ := h2.sync.meta (h3.mono (Q := CrAt (syC l)) (fun k s _ hk => hk.sync)) hm hgen
    rcases fus_write (if 0 < fu then fu - 1 else fu) (syC l) (k := m'.gen % 2 * 8) (metaS m') (by omega) (by omega) with ⟨_, c2⟩ | ⟨_, c2⟩
    · right
      rw [c2]
      exact ⟨by simp, _, _, rfl, fun pick => .inl (h2.sync.crash pick)⟩
    · rw [c2]
      simp only [if_true]
      rcases fus_sync (if 0 < (if 0 < fu then fu - 1 else fu) then (if 0 < fu then fu - 1 else fu) - 1 else (if 0 < fu then fu - 1 else fu)) (wrC (syC l) (m'.gen % 2 * 8) (metaS m')) with ⟨_, c3⟩ | ⟨_, c3⟩
      · right
        rw [c3]
        exact ⟨by simp, _, _, rfl, k2⟩
      · left
        rw [c3]
        have hl2 := wrC_len (l := syC l) (k := m'.gen % 2 * 8) (metaS m') (by omega)
        have hl3 := syC_len (wrC (syC l) (m'.gen % 2 * 8) (metaS m'))
        refine ⟨rfl, by rw [fus_pages, fus_pages]; congr 1; omega, ⟨_, _, rfl, k1, CrPages.nil _, by omega, by omega⟩, rfl, h.dead, fun id hid => ?_, List.nodup_nil, Nat.zero_le _⟩
        rcases hid with h9 | h9
        · show decide ((id : Int) ∈ sids) = true
          exact decide_eq_true (hs id h9)
        · simp at h9
/-! ### the start -/
theorem cr_start : ∃ D', openD (Dv.new 3000) = (D', 0) ∧ openE (Dv.new 3000) = 0 ∧ (openP D').mt = mt1 ∧ ∀ n, 0 ≤ n → CrOk 0 mt1 [] [] [] [] { openP D' with d := D'.setFuse n } := by
  have hup : ∀ q, q ≤ 16 → ∃ l, wrUp (fusF (-1) []) 0 beginSec q = (fusF (-1) l, 0) ∧ l.length = q ∧ (∀ c ∈ l, cellOk c) ∧ ∀ i, i < q → CrNow l i (beginSec i) := by
    intro q
    induction q with
    | zero => intro _; exact ⟨[], rfl, rfl, by simp, fun i h => by omega⟩
    | succ q ih =>
      intro hq
      obtain ⟨l, g1, g2, g3, g4⟩ := ih (by omega)
      rw [wrUp_step g1]
      have hc : (((0 : Nat) : Int) + q) = ((q : Nat) : Int) := by omega
      rw [hc]
      rcases fus_write (-1) l (k := q) (beginSec q) (by omega) (by omega) with ⟨c1, _⟩ | ⟨_, c2⟩
      · cases c1
      · refine ⟨_, c2, by rw [wrC_len _ (by omega)]; omega, wrC_ok _ g3, fun i hi => ?_⟩
        by_cases hiq : i = q
        · subst hiq; exact CrNow.self _ (by omega)
        · exact (g4 i (by omega)).wr hiq
  obtain ⟨l, g1, g2, g3, g4⟩ := hup 16 (Nat.le_refl _)
  have hmk : (Dv.new 3000).make [112] = (fusF (-1) [], 0) := one_start 3000 [112] (by decide) ⟨by decide, by decide⟩
  have hs : (fusF (-1) l).sync [112] = (fusF (-1) (syC l), 0) := by
    rcases fus_sync (-1) l with ⟨c1, _⟩ | ⟨_, c2⟩
    · cases c1
    · exact c2
  have hopen : openD (Dv.new 3000) = (fusF (-1) (syC l), 0) := by
    unfold openD begunD
    rw [if_neg (by simp [Dv.new, Dv.names]), hmk]
    simp only [if_true]
    rw [g1]
    simp only [if_true]
    exact hs
  have h8 : CrAt (syC l) 8 (metaS mt1) := (g4 8 (by omega)).sync
  have h0 : CrAt (syC l) 0 Sec.zero := (g4 0 (by omega)).sync
  have h15 : CrAt (syC l) 15 Sec.zero := (g4 15 (by omega)).sync
  have hmok : CrMt mt1 [] := ⟨⟨by decide, by decide, by decide, by decide⟩, by decide, .inl rfl, by decide, by decide⟩
  have hsafe : Safe (syC l) mt1 [] [] := ⟨syC_ok g3, h8, ⟨_, h0, .inl rfl⟩, ⟨_, h15⟩, CrPages.nil _, hmok⟩
  have hgood : Good (syC l) mt1 [] [] := ⟨h8.now, by obtain ⟨c, k1, k2, k3, k4⟩ := h0; exact ⟨c, k1, .inr (.inl k4)⟩, h15.now.lt, CrPages.nil _, hmok⟩
  have hbest := hgood.best (-1)
  refine ⟨_, hopen, ?_, hbest, fun n hn => ⟨⟨n, syC l, ?_, hsafe, CrPages.nil _, by rw [syC_len, g2], by rw [syC_len, g2]; omega⟩, hbest, rfl, fun id hid => by simp at hid, List.nodup_nil, Nat.le_refl _⟩⟩
  · unfold openE
    rw [hopen]
    simp only
    rw [if_neg (by simp), hbest, fus_pages, syC_len, g2, if_neg (by decide)]
  · unfold Dv.setFuse fusF
    rw [Int.max_eq_left (by omega)]
end Wb

namespace Wb
open Go

/-! ### names -/
def digit (n i : Nat) : UInt8 := UInt8.ofNat (48 + n / 10 ^ (5 - i) % 10)
def jname (n : Nat) : Nm := 106 :: (List.range 6).map (digit n)
theorem jname_len (n : Nat) : (jname n).length = 7 := by simp [jname]
def isDig (c : UInt8) : Bool := decide (48 ≤ c.toNat) && decide (c.toNat ≤ 57)
def decVal (l : List UInt8) : Nat := l.foldl (fun v c => v * 10 + (c.toNat - 48)) 0
/-- The number of a file's name; 0: it is none. -/
def numOf (m : Nm) : Nat := match m with
  | [] => 0
  | c :: r => if c = 106 ∧ r.length = 6 ∧ r.all isDig = true then decVal r else 0
theorem digit_val (n i : Nat) : (digit n i).toNat = 48 + n / 10 ^ (5 - i) % 10 := by
  unfold digit
  have : n / 10 ^ (5 - i) % 10 < 10 := Nat.mod_lt _ (by decide)
  simp only [UInt8.toNat_ofNat']
  omega
theorem num_name {n : Nat} (h : n ≤ 999999) : numOf (jname n) = n := by
  unfold numOf jname
  simp only
  rw [if_pos]
  · simp only [decVal, List.range, List.range.loop, List.map_cons, List.map_nil, List.foldl_cons, List.foldl_nil, digit_val]
    omega
  · refine ⟨by trivial, by simp, ?_⟩
    rw [List.all_eq_true]
    intro c hc
    obtain ⟨i, _, rfl⟩ := List.mem_map.1 hc
    unfold isDig
    have : n / 10 ^ (5 - i) % 10 < 10 := Nat.mod_lt _ (by decide)
    rw [digit_val]
    simp; omega
theorem foldl_dec (l : List UInt8) : ∀ a, l.foldl (fun v c => v * 10 + (c.toNat - 48)) a = a * 10 ^ l.length + decVal l := by
  induction l with
  | nil => intro a; simp [decVal]
  | cons c r ih =>
    intro a
    have h1 := ih (0 * 10 + (c.toNat - 48))
    unfold decVal
    simp only [List.foldl_cons, List.length_cons]
    rw [ih, h1, Nat.pow_succ, Nat.zero_mul, Nat.zero_add, Nat.add_mul]
    have : a * 10 * 10 ^ r.length = a * (10 ^ r.length * 10) := by rw [Nat.mul_assoc, Nat.mul_comm 10]
    omega
theorem decVal_cons (c : UInt8) (r : List UInt8) : decVal (c :: r) = (c.toNat - 48) * 10 ^ r.length + decVal r := by
  unfold decVal
  simp only [List.foldl_cons]
  rw [foldl_dec]
  unfold decVal
  simp
theorem decVal_lt {l : List UInt8} (h : l.all isDig = true) : decVal l < 10 ^ l.length := by
  induction l with
  | nil => simp [decVal]
  | cons c r ih =>
    simp only [List.all_cons, Bool.and_eq_true] at h
    have h1 := ih h.2
    have h2 := h.1
    unfold isDig at h2
    simp only [Bool.and_eq_true, decide_eq_true_eq] at h2
    rw [decVal_cons, List.length_cons, Nat.pow_succ]
    have : (c.toNat - 48) * 10 ^ r.length ≤ 9 * 10 ^ r.length := Nat.mul_le_mul_right _ (by omega)
    omega
theorem dec_lex {l m : List UInt8} (hl : l.all isDig = true) (hm : m.all isDig = true) (hlen : l.length = m.length) (h : decVal l < decVal m) : l < m := by
  induction l generalizing m with
  | nil =>
    cases m with
    | nil => simp at h
    | cons c r => simp at hlen
  | cons c r ih =>
    cases m with
    | nil => simp at hlen
    | cons d s =>
      simp only [List.all_cons, Bool.and_eq_true] at hl hm
      simp only [List.length_cons, Nat.add_right_cancel_iff] at hlen
      have hc := hl.1
      have hd := hm.1
      unfold isDig at hc hd
      simp only [Bool.and_eq_true, decide_eq_true_eq] at hc hd
      rw [decVal_cons, decVal_cons, hlen] at h
      have h1 := decVal_lt hl.2
      have h2 := decVal_lt hm.2
      rw [hlen] at h1
      rcases Nat.lt_trichotomy c.toNat d.toNat with h3 | h3 | h3
      · exact List.Lex.rel (by rw [UInt8.lt_iff_toNat_lt]; exact h3)
      · have hcd : c = d := UInt8.toNat_inj.1 h3
        subst hcd
        have : decVal r < decVal s := by omega
        exact List.Lex.cons (ih hl.2 hm.2 hlen this)
      · exfalso
        have : (d.toNat - 48 + 1) * 10 ^ s.length ≤ (c.toNat - 48) * 10 ^ s.length := Nat.mul_le_mul_right _ (by omega)
        rw [Nat.add_mul] at this
        omega
theorem digits_all (n : Nat) : ((List.range 6).map (digit n)).all isDig = true := by
  rw [List.all_eq_true]
  intro c hc
  obtain ⟨i, _, rfl⟩ := List.mem_map.1 hc
  unfold isDig
  have : n / 10 ^ (5 - i) % 10 < 10 := Nat.mod_lt _ (by decide)
  rw [digit_val]
  simp; omega
theorem jname_dec {n : Nat} (h : n ≤ 999999) : decVal ((List.range 6).map (digit n)) = n := by
  have := num_name h
  unfold numOf jname at this
  simp only at this
  rw [if_pos ⟨by trivial, by simp, digits_all n⟩] at this
  exact this
theorem jname_lt {a b : Nat} (hb : b ≤ 999999) (h : a < b) : jname a < jname b := by
  unfold jname
  refine List.Lex.cons (dec_lex (digits_all a) (digits_all b) (by simp) ?_)
  rw [jname_dec (by omega), jname_dec hb]; exact h
theorem jname_inj {a b : Nat} (ha : a ≤ 999999) (hb : b ≤ 999999) (h : jname a = jname b) : a = b := by
  have := congrArg numOf h
  rwa [num_name ha, num_name hb] at this

/-! ### sectors -/
def needN (n : Nat) : Nat := if n ≤ 48 then 1 else (n - 1) / 48 + 1
theorem needN_pos (n : Nat) : 1 ≤ needN n := by unfold needN; split <;> omega
structure Hd where
  seq : Nat
  place : Nat
  many : Nat
  kind : Nat
def headL (h : Hd) (n : Nat) : List UInt8 := be 8 h.seq ++ be 2 h.place ++ be 2 h.many ++ be 1 h.kind ++ be 1 0 ++ be 2 n
theorem headL_len (h : Hd) (n : Nat) : (headL h n).length = 16 := by simp [headL, be_len]
def jsec (h : Hd) (b : List UInt8) : Sec := ⟨headL h b.length ++ (b.take 48 ++ List.replicate (48 - b.length) 0), by
  simp only [List.length_append, headL_len, List.length_take, List.length_replicate]; omega⟩
def rdAt (s : Sec) (o n : Nat) : Nat := num ((s.1.drop o).take n)
/-- A sector's head, as it stands there, and how many octets it has. -/
def headP (s : Sec) : Hd := ⟨rdAt s 0 8, rdAt s 8 2, rdAt s 10 2, rdAt s 12 1⟩
def longP (s : Sec) : Nat := rdAt s 14 2
def partS (s : Sec) : List UInt8 := (s.1.drop 16).take (min (longP s) 48)
def sectorsP (seq kind : Nat) (b : List UInt8) : List Sec := (List.range (needN b.length)).map fun i => jsec ⟨seq, i, needN b.length, kind⟩ ((b.drop (48 * i)).take 48)
theorem sectorsP_len (seq kind : Nat) (b : List UInt8) : (sectorsP seq kind b).length = needN b.length := by simp [sectorsP]

theorem cut_mid (pre mid post : List UInt8) (o n : Nat) (ho : pre.length = o) (hn : mid.length = n) : ((pre ++ (mid ++ post)).drop o).take n = mid := by
  subst ho hn
  rw [List.drop_left, List.take_left]
theorem num_be2 (v : Nat) (h : v < 65536) : num (be 2 v) = v := num_be 2 v (by simpa using h) (by omega)
theorem num_be1 (v : Nat) (h : v < 256) : num (be 1 v) = v := num_be 1 v (by simpa using h) (by omega)
theorem num_be8 (v : Nat) (h : v < 2 ^ 64) : num (be 8 v) = v := num_be 8 v (by simpa using h) h
theorem head_jsec {h : Hd} {b : List UInt8} (h1 : h.seq < 2 ^ 64) (h2 : h.place < 65536) (h3 : h.many < 65536) (h4 : h.kind < 256) (hb : b.length ≤ 48) : headP (jsec h b) = h ∧ longP (jsec h b) = b.length ∧ partS (jsec h b) = b := by
  have e : (jsec h b).1 = be 8 h.seq ++ (be 2 h.place ++ (be 2 h.many ++ (be 1 h.kind ++ (be 1 0 ++ (be 2 b.length ++ (b.take 48 ++ List.replicate (48 - b.length) 0)))))) := by
    simp only [jsec, headL, List.append_assoc]
  have r1 : rdAt (jsec h b) 0 8 = h.seq := by
    unfold rdAt
    rw [e, List.drop_zero, List.take_append_of_le_length (by rw [be_len]; exact Nat.le_refl _), List.take_of_length_le (by rw [be_len]; exact Nat.le_refl _), num_be8 _ h1]
  have r2 : rdAt (jsec h b) 8 2 = h.place := by
    unfold rdAt
    rw [e, cut_mid (be 8 h.seq) (be 2 h.place) _ 8 2 (be_len _ _) (be_len _ _), num_be2 _ h2]
  have r3 : rdAt (jsec h b) 10 2 = h.many := by
    unfold rdAt
    rw [e, ← List.append_assoc, cut_mid (be 8 h.seq ++ be 2 h.place) (be 2 h.many) _ 10 2 (by simp [be_len]) (be_len _ _), num_be2 _ h3]
  have r4 : rdAt (jsec h b) 12 1 = h.kind := by
    unfold rdAt
    rw [e, ← List.append_assoc, ← List.append_assoc, cut_mid (be 8 h.seq ++ be 2 h.place ++ be 2 h.many) (be 1 h.kind) _ 12 1 (by simp [be_len]) (be_len _ _), num_be1 _ h4]
  have r5 : rdAt (jsec h b) 14 2 = b.length := by
    unfold rdAt
    rw [e, ← List.append_assoc, ← List.append_assoc, ← List.append_assoc, ← List.append_assoc, cut_mid (be 8 h.seq ++ be 2 h.place ++ be 2 h.many ++ be 1 h.kind ++ be 1 0) (be 2 b.length) _ 14 2 (by simp [be_len]) (be_len _ _), num_be2 _ (by omega)]
  refine ⟨?_, r5, ?_⟩
  · unfold headP; rw [r1, r2, r3, r4]
  · unfold partS
    have : longP (jsec h b) = b.length := r5
    rw [this]
    simp only [jsec]
    rw [List.drop_append, List.drop_eq_nil_of_le (by rw [headL_len]; exact Nat.le_refl _), headL_len, Nat.sub_self, List.drop_zero, List.nil_append, Nat.min_eq_left hb, List.take_of_length_le hb, List.take_left]

/-! ### a batch that is read -/
def gatherR (rd : Nat → Sec × Int) (at' : Nat) : Nat → (List Sec × List UInt8) × Int
  | 0 => (([], []), 0)
  | q + 1 => if (gatherR rd at' q).2 = 0 then
      (if (rd (at' + q)).2 = 0 then (((gatherR rd at' q).1.1 ++ [(rd (at' + q)).1], (gatherR rd at' q).1.2 ++ partS (rd (at' + q)).1), 0) else (([], []), (rd (at' + q)).2))
    else gatherR rd at' q
theorem gatherR_bad {rd : Nat → Sec × Int} {a q : Nat} (h : (gatherR rd a q).2 ≠ 0) : ∀ k, gatherR rd a (q + k) = gatherR rd a q
  | 0 => rfl
  | k + 1 => by
    have ih := gatherR_bad h k
    rw [← Nat.add_assoc, gatherR, ih, if_neg h]
structure BR where
  seq : Nat
  kind : Nat
  b : List UInt8
  many : Nat
  err : Int
def headBad (h : Hd) : Prop := h.seq = 0 ∨ h.kind = 0 ∨ h.many = 0 ∨ 4096 < h.many
instance (h : Hd) : Decidable (headBad h) := by unfold headBad; infer_instance
instance : DecidableEq Sec := inferInstance
/-- The batch that begins at a sector. -/
def batchR (rd : Nat → Sec × Int) (a : Nat) : BR :=
  if (rd a).2 ≠ 0 then ⟨0, 0, [], 0, (rd a).2⟩
  else if headBad (headP (rd a).1) then ⟨0, 0, [], 0, 1⟩
  else if (gatherR rd a (headP (rd a).1).many).2 ≠ 0 then ⟨0, 0, [], 0, (gatherR rd a (headP (rd a).1).many).2⟩
  else if (gatherR rd a (headP (rd a).1).many).1.1 = sectorsP (headP (rd a).1).seq (headP (rd a).1).kind (gatherR rd a (headP (rd a).1).many).1.2 then
    ⟨(headP (rd a).1).seq, (headP (rd a).1).kind, (gatherR rd a (headP (rd a).1).many).1.2, (headP (rd a).1).many, 0⟩
  else ⟨0, 0, [], 0, 1⟩
theorem parts_all (b : List UInt8) : ∀ q, ((List.range q).flatMap fun i => (b.drop (48 * i)).take 48) = b.take (48 * q)
  | 0 => by simp
  | q + 1 => by
    rw [List.range_succ, List.flatMap_append, parts_all b q]
    simp only [List.flatMap_cons, List.flatMap_nil, List.append_nil]
    rw [show 48 * (q + 1) = 48 * q + 48 by omega, List.take_add]
theorem gather_good {rd : Nat → Sec × Int} {a seq kind : Nat} {b : List UInt8} (hs : seq < 2 ^ 64) (hk : kind < 256) (hn : needN b.length ≤ 4096) (hrd : ∀ j s, (sectorsP seq kind b)[j]? = some s → rd (a + j) = (s, 0)) :
    ∀ q, q ≤ needN b.length → gatherR rd a q = (((sectorsP seq kind b).take q, b.take (48 * q)), 0)
  | 0, _ => by simp [gatherR]
  | q + 1, hq => by
    have ih := gather_good hs hk hn hrd q (by omega)
    have hg : (sectorsP seq kind b)[q]? = some (jsec ⟨seq, q, needN b.length, kind⟩ ((b.drop (48 * q)).take 48)) := by
      unfold sectorsP
      rw [List.getElem?_map, List.getElem?_range (by omega)]; rfl
    have hr := hrd q _ hg
    obtain ⟨_, _, hp⟩ := head_jsec (h := ⟨seq, q, needN b.length, kind⟩) (b := (b.drop (48 * q)).take 48) hs (by show q < 65536; omega) (by show needN b.length < 65536; omega) hk (by rw [List.length_take]; omega)
    have e1 : (sectorsP seq kind b).take (q + 1) = (sectorsP seq kind b).take q ++ [jsec ⟨seq, q, needN b.length, kind⟩ ((b.drop (48 * q)).take 48)] := by
      rw [List.take_add_one, hg]; rfl
    have e2 : b.take (48 * (q + 1)) = b.take (48 * q) ++ (b.drop (48 * q)).take 48 := by
      rw [show 48 * (q + 1) = 48 * q + 48 by omega, List.take_add]
    rw [gatherR, ih, if_pos rfl, hr, if_pos rfl, hp, e1, e2]
theorem batch_good {rd : Nat → Sec × Int} {a seq kind : Nat} {b : List UInt8} (hs0 : seq ≠ 0) (hs : seq < 2 ^ 64) (hk0 : kind ≠ 0) (hk : kind < 256) (hn : needN b.length ≤ 4096) (hrd : ∀ j s, (sectorsP seq kind b)[j]? = some s → rd (a + j) = (s, 0)) :
    batchR rd a = ⟨seq, kind, b, needN b.length, 0⟩ := by
  have hp := needN_pos b.length
  have hg : (sectorsP seq kind b)[0]? = some (jsec ⟨seq, 0, needN b.length, kind⟩ ((b.drop (48 * 0)).take 48)) := by
    unfold sectorsP
    rw [List.getElem?_map, List.getElem?_range (by omega)]; rfl
  have hr := hrd 0 _ hg
  rw [Nat.add_zero] at hr
  obtain ⟨hh, _, _⟩ := head_jsec (h := ⟨seq, 0, needN b.length, kind⟩) (b := (b.drop (48 * 0)).take 48) hs (by show (0 : Nat) < 65536; omega) (by show needN b.length < 65536; omega) hk (by rw [List.length_take]; omega)
  have hgr := gather_good hs hk hn hrd (needN b.length) (Nat.le_refl _)
  have hall : b.take (48 * needN b.length) = b := List.take_of_length_le (by unfold needN; split <;> omega)
  have hsl : (sectorsP seq kind b).take (needN b.length) = sectorsP seq kind b := List.take_of_length_le (by rw [sectorsP_len]; exact Nat.le_refl _)
  rw [hall, hsl] at hgr
  unfold batchR
  rw [hr]
  simp only [ne_eq, not_true_eq_false, if_false, hh]
  rw [if_neg (by unfold headBad; simp only; omega), hgr]
  simp
end Wb

namespace Wb
open Go

def nmOf (n : Nat) : Nm := if n < 1 ∨ 999999 < n then [] else jname n
theorem nmOf_len (n : Nat) : (nmOf n).length ≤ 7 := by
  unfold nmOf
  split
  · simp
  · rw [jname_len]; exact Nat.le_refl _
/-- What a sector of a file reads. -/
def readJ (D : Dv) (file : Nat) : Nat → Sec × Int := fun k => D.read (nmOf file) (k : Int)
/-- A batch as it is told. -/
structure Bt where
  seq : Nat
  kind : Nat
  b : List UInt8
  file : Nat
  pos : Nat
/-- The numbers of the journal's files, in the order of their names. -/
def filesP (D : Dv) : List Nat := (D.names.map numOf).filter fun n => decide (0 < n)
def followsP (s k last : Nat) : Bool := decide (last < s) && (decide (last = 0) || decide (k = 2) || decide (s - last = 1))
/-- The batches of a file from a sector on: the number of the last one, and all that were told. -/
def scanF (rd : Nat → Sec × Int) (file : Nat) : Nat → Nat → Nat × List Bt → Nat × List Bt
  | 0, _, acc => acc
  | n + 1, p, acc => if (batchR rd p).err = 0 ∧ followsP (batchR rd p).seq (batchR rd p).kind acc.1 = true then scanF rd file n (p + (batchR rd p).many) ((batchR rd p).seq, acc.2 ++ [⟨(batchR rd p).seq, (batchR rd p).kind, (batchR rd p).b, file, p⟩]) else acc
def scanStep (D : Dv) (acc : Nat × List Bt) (f : Nat) : Nat × List Bt := scanF (readJ D f) f (D.len (nmOf f) + 1) 0 acc
def scanUp (D : Dv) (q : Nat) : Nat × List Bt := ((filesP D).take q).foldl (scanStep D) (0, [])
def scanP (D : Dv) : List Bt := (scanUp D (filesP D).length).2
theorem scanUp_succ {D : Dv} {q f : Nat} (h : (filesP D)[q]? = some f) : scanUp D (q + 1) = scanStep D (scanUp D q) f := by
  unfold scanUp
  rw [List.take_add_one, h, List.foldl_append]
  rfl
/-- A batch that is told is within the file. -/
theorem gather_ok {rd : Nat → Sec × Int} {p : Nat} : ∀ q, (gatherR rd p q).2 = 0 → ∀ i, i < q → (rd (p + i)).2 = 0
  | 0, _, i, hi => by omega
  | q + 1, h, i, hi => by
    rw [gatherR] at h
    by_cases h1 : (gatherR rd p q).2 = 0
    · rw [if_pos h1] at h
      by_cases h2 : (rd (p + q)).2 = 0
      · rcases Nat.lt_or_ge i q with h3 | h3
        · exact gather_ok q h1 i h3
        · obtain rfl : i = q := by omega
          exact h2
      · rw [if_neg h2] at h
        exact absurd h h2
    · rw [if_neg h1] at h
      exact absurd h h1
theorem batch_err {rd : Nat → Sec × Int} {p : Nat} (h : (batchR rd p).err = 0) : 1 ≤ (batchR rd p).many ∧ (batchR rd p).many ≤ 4096 ∧ ∀ i, i < (batchR rd p).many → (rd (p + i)).2 = 0 := by
  unfold batchR at h ⊢
  split at h
  · rename_i h1; exact absurd h h1
  · split at h
    · exact absurd h (by decide)
    · split at h
      · rename_i h3; exact absurd h h3
      · split at h
        · rename_i h1 h2 h3 h4
          rw [if_neg h1, if_neg h2, if_neg h3, if_pos h4]
          have h5 : ¬ ((headP (rd p).1).seq = 0 ∨ (headP (rd p).1).kind = 0 ∨ (headP (rd p).1).many = 0 ∨ 4096 < (headP (rd p).1).many) := h2
          exact ⟨by show 1 ≤ (headP (rd p).1).many; omega, by show (headP (rd p).1).many ≤ 4096; omega, fun i hi => gather_ok (headP (rd p).1).many (Classical.not_not.1 h3) i hi⟩
        · exact absurd h (by decide)
theorem read_len {D : Dv} {n : Nm} {k : Nat} (h : (D.read n (k : Int)).2 = 0) : k < D.len n := by
  unfold Dv.read at h
  unfold Dv.len Dv.cells
  cases hf : fget D.files n with
  | none => rw [hf] at h; cases h
  | some l =>
    rw [hf] at h
    simp only at h
    split at h
    · cases h
    · rename_i hh
      show k < l.length
      omega
theorem batch_in {D : Dv} {f p : Nat} (h : (batchR (readJ D f) p).err = 0) : p + (batchR (readJ D f) p).many ≤ D.len (nmOf f) := by
  obtain ⟨h1, _, h3⟩ := batch_err h
  have := read_len (h3 ((batchR (readJ D f) p).many - 1) (by omega))
  omega
theorem batch_none {rd : Nat → Sec × Int} {p : Nat} (h : (batchR rd p).err ≠ 0) : (batchR rd p).seq = 0 ∧ (batchR rd p).kind = 0 ∧ (batchR rd p).b = [] ∧ (batchR rd p).many = 0 := by
  unfold batchR at h ⊢
  split
  · exact ⟨rfl, rfl, rfl, rfl⟩
  · split
    · exact ⟨rfl, rfl, rfl, rfl⟩
    · split
      · exact ⟨rfl, rfl, rfl, rfl⟩
      · split
        · rename_i h1 h2 h3 h4
          rw [if_neg h1, if_neg h2, if_neg h3, if_pos h4] at h
          exact absurd rfl h
        · exact ⟨rfl, rfl, rfl, rfl⟩
end Wb

namespace Wb
open Go

structure Jr where
  seq : Nat
  file : Nat
  next : Nat
  dead : Bool
/-- An opening, batch for batch: the device, the last number, the file that was synced last, whether it fell. -/
structure OpSt where
  d : Dv
  seq : Nat
  synced : Nat
  dead : Bool
def opStep (s : OpSt) (b : Bt) : OpSt :=
  if b.file ≠ s.synced ∧ s.dead = false then ⟨(s.d.sync (nmOf b.file)).1, b.seq, b.file, decide ((s.d.sync (nmOf b.file)).2 ≠ 0)⟩ else ⟨s.d, b.seq, s.synced, s.dead⟩
def opUp (D : Dv) (l : List Bt) (q : Nat) : OpSt := (l.take q).foldl opStep ⟨D, 0, 0, false⟩
theorem opUp_succ {D : Dv} {l : List Bt} {q : Nat} {b : Bt} (h : l[q]? = some b) : opUp D l (q + 1) = opStep (opUp D l q) b := by
  unfold opUp
  rw [List.take_add_one, h, List.foldl_append]
  rfl
def opAll (D : Dv) : OpSt := opUp D (scanP D) (scanP D).length
/-- The number of the next file, when q of them have been looked at. -/
def nextUp (fs : List Nat) (q : Nat) : Nat := (fs.take q).foldl (fun _ f => f + 1) 1
theorem nextUp_succ {fs : List Nat} {q f : Nat} (h : fs[q]? = some f) : nextUp fs (q + 1) = f + 1 := by
  unfold nextUp
  rw [List.take_add_one, h, List.foldl_append]
  rfl
def openJ (D : Dv) : Jr := ⟨(opAll D).seq, 0, nextUp (filesP D) (filesP D).length, (opAll D).dead⟩
/-- Sectors written one behind the other, till one falls. -/
def wrN (D : Dv) (n : Nm) (p : Nat) (ss : List Sec) : Nat → Dv × Int
  | 0 => (D, 0)
  | q + 1 => if (wrN D n p ss q).2 = 0 then (wrN D n p ss q).1.write n ((p : Int) + q) (ss[q]?.getD Sec.zero) else wrN D n p ss q
theorem wrN_bad {D : Dv} {n : Nm} {p : Nat} {ss : List Sec} {q : Nat} (h : (wrN D n p ss q).2 ≠ 0) : ∀ k, wrN D n p ss (q + k) = wrN D n p ss q
  | 0 => rfl
  | k + 1 => by
    have ih := wrN_bad h k
    rw [← Nat.add_assoc, wrN, ih, if_neg h]
theorem wrN_step {D D' : Dv} {n : Nm} {p : Nat} {ss : List Sec} {q : Nat} {s : Sec} (h : wrN D n p ss q = (D', 0)) (hs : ss[q]? = some s) : wrN D n p ss (q + 1) = D'.write n ((p : Int) + q) s := by
  rw [wrN, h, hs]; rfl
/-- A batch is written, so that it lasts. -/
def writeJ (D : Dv) (f p : Nat) (ss : List Sec) : Dv × Int := if (wrN D (nmOf f) p ss ss.length).2 = 0 then (wrN D (nmOf f) p ss ss.length).1.sync (nmOf f) else wrN D (nmOf f) p ss ss.length
structure JD where
  d : Dv
  j : Jr
/-- The next file is opened. -/
def nextJ (s : JD) : JD × Int :=
  if s.j.dead = true then (s, 8)
  else if 999999 < s.j.next then (s, 11)
  else if (s.d.make (nmOf s.j.next)).2 ≠ 0 then (⟨(s.d.make (nmOf s.j.next)).1, { s.j with dead := true }⟩, (s.d.make (nmOf s.j.next)).2)
  else (⟨(s.d.make (nmOf s.j.next)).1, { s.j with file := s.j.next, next := s.j.next + 1 }⟩, 0)
/-- Why an appending is refused ahead of all; nought: it is not. -/
def appendPre (s : JD) (kind : Int) (n : Nat) : Int :=
  if s.j.dead = true then 8 else if kind < 1 ∨ 255 < kind then 1 else if 4096 < needN n ∨ s.j.seq = 18446744073709551615 then 11 else if (s.d.most : Int) - (used s.d.files : Int) < (needN n : Int) then 6 else 0
def turnB (s : JD) : Bool := decide (s.j.file = 0) || decide (256 ≤ s.d.len (nmOf s.j.file))
/-- The next file is opened where it must be. -/
def turnJ (s : JD) : JD × Int := if turnB s = true then nextJ s else (s, 0)
def putW (s : JD) (kind : Nat) (b : List UInt8) : Dv × Int := writeJ s.d s.j.file (s.d.len (nmOf s.j.file)) (sectorsP (s.j.seq + 1) kind b)
def putJ (s : JD) (kind : Nat) (b : List UInt8) : JD × Int := if (putW s kind b).2 = 0 then (⟨(putW s kind b).1, { s.j with seq := s.j.seq + 1 }⟩, 0) else (⟨(putW s kind b).1, { s.j with dead := true }⟩, (putW s kind b).2)
/-- A batch is appended. -/
def appendJ (s : JD) (kind : Int) (b : List UInt8) : JD × Int :=
  if appendPre s kind b.length ≠ 0 then (s, appendPre s kind b.length) else if (turnJ s).2 ≠ 0 then turnJ s else putJ (turnJ s).1 kind.toNat b
end Wb

namespace Wb
open Go

abbrev FJ := List (Nat × List Cell)
def fsJ (L : FJ) : Files := L.map fun a => (jname a.1, a.2)
structure okJ (L : FJ) : Prop where
  rise : L.Pairwise (fun a b => a.1 < b.1)
  nums : ∀ a ∈ L, 1 ≤ a.1 ∧ a.1 ≤ 999999
def devJ (m : Nat) (fu : Int) (L : FJ) : Dv := ⟨m, fu, fsJ L⟩
def decF (fu : Int) : Int := if 0 < fu then fu - 1 else fu
theorem nmOf_jname {f : Nat} (h1 : 1 ≤ f) (h2 : f ≤ 999999) : nmOf f = jname f := by unfold nmOf; rw [if_neg (by omega)]
theorem jname_ok (f : Nat) : ¬ (jname f = [] ∨ 20 < (jname f).length) := by
  rw [jname_len]
  intro h
  rcases h with h | h
  · have := congrArg List.length h
    rw [jname_len] at this
    cases this
  · omega
theorem okJ.mid {A B : FJ} {f : Nat} {l : List Cell} (h : okJ (A ++ (f, l) :: B)) : (∀ a ∈ A, a.1 < f) ∧ 1 ≤ f ∧ f ≤ 999999 := by
  obtain ⟨h1, h2⟩ := h
  rw [List.pairwise_append] at h1
  exact ⟨fun a ha => h1.2.2 a ha (f, l) (by simp), h2 (f, l) (by simp)⟩
theorem okJ.names {A B : FJ} {f : Nat} {l : List Cell} (h : okJ (A ++ (f, l) :: B)) : ∀ a ∈ fsJ A, a.1 < jname f := by
  intro a ha
  obtain ⟨x, hx, rfl⟩ := List.mem_map.1 ha
  exact jname_lt h.mid.2.2 (h.mid.1 x hx)
theorem fsJ_app (A B : FJ) : fsJ (A ++ B) = fsJ A ++ fsJ B := by simp [fsJ]
theorem fsJ_get {A B : FJ} {f : Nat} {l : List Cell} (h : okJ (A ++ (f, l) :: B)) : fget (fsJ (A ++ (f, l) :: B)) (jname f) = some l := by
  rw [fsJ_app]
  exact fget_mid h.names
theorem fsJ_set {A B : FJ} {f : Nat} {l : List Cell} (h : okJ (A ++ (f, l) :: B)) (v : List Cell) : fset (fsJ (A ++ (f, l) :: B)) (jname f) v = fsJ (A ++ (f, v) :: B) := by
  rw [fsJ_app, fsJ_app]
  exact fset_mid h.names
theorem okJ.set {A B : FJ} {f : Nat} {l : List Cell} (h : okJ (A ++ (f, l) :: B)) (v : List Cell) : okJ (A ++ (f, v) :: B) := by
  obtain ⟨h1, h2⟩ := h
  refine ⟨?_, ?_⟩
  · have := h1
    rw [List.pairwise_append, List.pairwise_cons] at this ⊢
    exact ⟨this.1, ⟨this.2.1.1, this.2.1.2⟩, fun a ha b hb => by
      rcases List.mem_cons.1 hb with rfl | hb
      · exact this.2.2 a ha (f, l) (by simp)
      · exact this.2.2 a ha b (by simp [hb])⟩
  · intro a ha
    rcases List.mem_append.1 ha with ha | ha
    · exact h2 a (by simp [ha])
    · rcases List.mem_cons.1 ha with rfl | ha
      · exact h2 (f, l) (by simp)
      · exact h2 a (by simp [ha])
theorem fset_last {fs : Files} {n : Nm} (v : List Cell) (h : ∀ a ∈ fs, a.1 < n) : fset fs n v = fs ++ [(n, v)] := by
  induction fs with
  | nil => rfl
  | cons a r ih =>
    obtain ⟨m, x⟩ := a
    have h1 : m < n := h (m, x) (by simp)
    have h2 : n ≠ m := fun e => nm_irrefl m (by rw [e] at h1; exact h1)
    have h3 : ¬ n < m := fun e => nm_irrefl m (nm_trans h1 e)
    simp only [fset, h2, h3, if_false, List.cons_append]
    rw [ih (fun a ha => h a (List.mem_cons_of_mem _ ha))]
theorem fget_above {fs : Files} {n : Nm} (h : ∀ a ∈ fs, a.1 < n) : fget fs n = none := by
  cases hc : fget fs n with
  | none => rfl
  | some v => exact absurd (h _ (fget_mem hc)) (nm_irrefl n)
theorem devJ_make {m : Nat} {fu : Int} {L : FJ} {f : Nat} (h : okJ (L ++ [(f, [])])) : (devJ m fu L).make (jname f) = if fu = 0 then (devJ m fu L, 8) else (devJ m (decF fu) (L ++ [(f, [])]), 0) := by
  unfold Dv.make
  have hg : fget (devJ m fu L).files (jname f) = none := fget_above (okJ.names h)
  have hs : fset (devJ m fu L).files (jname f) [] = fsJ (L ++ [(f, [])]) := by
    rw [show (devJ m fu L).files = fsJ L from rfl, fset_last [] (okJ.names h), fsJ_app]
    rfl
  rw [hg, hs, if_neg (jname_ok f)]
  by_cases h0 : fu = 0
  · rw [if_pos (show (devJ m fu L).fuse = 0 from h0), if_pos h0]
  · rw [if_neg (show ¬ (devJ m fu L).fuse = 0 from h0), if_neg h0]
    rfl
theorem devJ_thr {m : Nat} {fu : Int} {A B : FJ} {f : Nat} {l : List Cell} (h : okJ (A ++ (f, l) :: B)) : (devJ m fu (A ++ (f, l) :: B)).thr (jname f) = if fu = 0 then 8 else 0 := by
  unfold Dv.thr
  rw [show (devJ m fu (A ++ (f, l) :: B)).files = fsJ (A ++ (f, l) :: B) from rfl, fsJ_get h]
  rfl
theorem devJ_cells {m : Nat} {fu : Int} {A B : FJ} {f : Nat} {l : List Cell} (h : okJ (A ++ (f, l) :: B)) : (devJ m fu (A ++ (f, l) :: B)).cells (jname f) = l := by
  unfold Dv.cells
  rw [show (devJ m fu (A ++ (f, l) :: B)).files = fsJ (A ++ (f, l) :: B) from rfl, fsJ_get h]
  rfl
theorem devJ_len {m : Nat} {fu : Int} {A B : FJ} {f : Nat} {l : List Cell} (h : okJ (A ++ (f, l) :: B)) : (devJ m fu (A ++ (f, l) :: B)).len (jname f) = l.length := by
  unfold Dv.len
  rw [devJ_cells h]
theorem devJ_put {m : Nat} {fu : Int} {A B : FJ} {f : Nat} {l : List Cell} (h : okJ (A ++ (f, l) :: B)) (v : List Cell) : ({ devJ m fu (A ++ (f, l) :: B) with files := fset (devJ m fu (A ++ (f, l) :: B)).files (jname f) v } : Dv).done = devJ m (decF fu) (A ++ (f, v) :: B) := by
  rw [show (devJ m fu (A ++ (f, l) :: B)).files = fsJ (A ++ (f, l) :: B) from rfl, fsJ_set h]
  rfl
theorem devJ_app {m : Nat} {fu : Int} {A B : FJ} {f : Nat} {l : List Cell} (h : okJ (A ++ (f, l) :: B)) (s : Sec) : (devJ m fu (A ++ (f, l) :: B)).write (jname f) (l.length : Int) s =
    if fu = 0 then (devJ m fu (A ++ (f, l) :: B), 8) else if m ≤ used (fsJ (A ++ (f, l) :: B)) then (devJ m fu (A ++ (f, l) :: B), 6) else (devJ m (decF fu) (A ++ (f, l ++ [Cell.zero.write s]) :: B), 0) := by
  unfold Dv.write
  rw [devJ_thr h, devJ_len h, devJ_cells h]
  by_cases h0 : fu = 0
  · rw [if_pos h0, if_pos (by decide), if_pos h0]
  · rw [if_neg h0, if_neg (by decide), if_neg (by omega), if_pos rfl, if_neg h0, devJ_put h]
    rfl
theorem devJ_over {m : Nat} {fu : Int} {A B : FJ} {f : Nat} {l : List Cell} (h : okJ (A ++ (f, l) :: B)) {k : Nat} (hk : k < l.length) (s : Sec) (h0 : fu ≠ 0) : (devJ m fu (A ++ (f, l) :: B)).write (jname f) (k : Int) s =
    (devJ m (decF fu) (A ++ (f, l.modify k (·.write s)) :: B), 0) := by
  unfold Dv.write
  rw [devJ_thr h, devJ_len h, devJ_cells h, if_neg h0, if_neg (by decide), if_neg (by omega), if_neg (by omega), devJ_put h, Int.toNat_natCast]
theorem devJ_sync {m : Nat} {fu : Int} {A B : FJ} {f : Nat} {l : List Cell} (h : okJ (A ++ (f, l) :: B)) : (devJ m fu (A ++ (f, l) :: B)).sync (jname f) =
    if fu = 0 then (devJ m fu (A ++ (f, l) :: B), 8) else (devJ m (decF fu) (A ++ (f, syC l) :: B), 0) := by
  unfold Dv.sync
  rw [devJ_thr h, devJ_cells h]
  by_cases h0 : fu = 0
  · rw [if_pos h0, if_pos (by decide), if_pos h0]
  · rw [if_neg h0, if_neg (by decide), if_neg h0, devJ_put h]
    rfl

/-! ### what is read -/
abbrev Row := List (Sec × Bool)
def vw (c : Cell) : Sec × Bool := (c.now, c.nowBad)
def vrd (r : Row) (k : Nat) : Sec × Int := match r[k]? with
  | none => (Sec.zero, 1)
  | some x => if x.2 then (Sec.zero, 7) else (x.1, 0)
def viewJ (L : FJ) : List (Nat × Row) := L.map fun a => (a.1, a.2.map vw)
theorem devJ_read {m : Nat} {fu : Int} {A B : FJ} {f : Nat} {l : List Cell} (h : okJ (A ++ (f, l) :: B)) : readJ (devJ m fu (A ++ (f, l) :: B)) f = vrd (l.map vw) := by
  funext k
  unfold readJ Dv.read vrd
  rw [nmOf_jname h.mid.2.1 h.mid.2.2, show (devJ m fu (A ++ (f, l) :: B)).files = fsJ (A ++ (f, l) :: B) from rfl, fsJ_get h, List.getElem?_map]
  simp only [Int.toNat_natCast]
  cases hc : l[k]? with
  | none =>
    rw [if_pos]
    · rfl
    · right
      have := List.getElem?_eq_none_iff.1 hc
      omega
  | some c =>
    have := (List.getElem?_eq_some_iff.1 hc).1
    rw [if_neg (by omega)]
    rfl
theorem devJ_files {m : Nat} {fu : Int} {L : FJ} (h : okJ L) : filesP (devJ m fu L) = L.map (·.1) := by
  unfold filesP Dv.names
  rw [show (devJ m fu L).files = fsJ L from rfl]
  have h1 : ((fsJ L).map (·.1)).map numOf = L.map (·.1) := by
    unfold fsJ
    rw [List.map_map, List.map_map]
    refine List.map_congr_left fun a ha => ?_
    exact num_name (h.nums a ha).2
  rw [h1, List.filter_eq_self]
  intro n hn
  obtain ⟨a, ha, rfl⟩ := List.mem_map.1 hn
  have := (h.nums a ha).1
  exact decide_eq_true (by omega)
def toldStep (acc : Nat × List Bt) (a : Nat × Row) : Nat × List Bt := scanF (vrd a.2) a.1 (a.2.length + 1) 0 acc
def told (V : List (Nat × Row)) : Nat × List Bt := V.foldl toldStep (0, [])
theorem foldl_same {α β : Type} {f g : β → α → β} : ∀ {l : List α} {b : β}, (∀ a ∈ l, ∀ x, f x a = g x a) → l.foldl f b = l.foldl g b
  | [], _, _ => rfl
  | a :: r, b, h => by
    rw [List.foldl_cons, List.foldl_cons, h a (by simp) b]
    exact foldl_same fun x hx => h x (List.mem_cons_of_mem _ hx)
theorem devJ_scan {m : Nat} {fu : Int} {L : FJ} (h : okJ L) : scanUp (devJ m fu L) (filesP (devJ m fu L)).length = told (viewJ L) := by
  unfold scanUp told viewJ
  rw [List.take_length, devJ_files h, List.foldl_map, List.foldl_map]
  refine foldl_same fun a ha acc => ?_
  obtain ⟨A, B, rfl⟩ := List.append_of_mem ha
  unfold scanStep toldStep
  rw [devJ_read h, nmOf_jname h.mid.2.1 h.mid.2.2, devJ_len h, List.length_map]
theorem devJ_scanP {m : Nat} {fu : Int} {L : FJ} (h : okJ L) : scanP (devJ m fu L) = (told (viewJ L)).2 := by
  unfold scanP
  rw [devJ_scan h]
end Wb

namespace Wb
open Go

def goodR (ss : List Sec) : Row := ss.map fun s => (s, false)
theorem goodR_len (ss : List Sec) : (goodR ss).length = ss.length := by simp [goodR]
theorem vrd_left {r t : Row} {k : Nat} (h : k < r.length) : vrd (r ++ t) k = vrd r k := by unfold vrd; rw [List.getElem?_append_left h]
theorem vrd_right (r t : Row) (k : Nat) : vrd (r ++ t) (r.length + k) = vrd t k := by
  unfold vrd
  rw [List.getElem?_append_right (by omega), show r.length + k - r.length = k by omega]
theorem vrd_end (r : Row) : vrd r r.length = (Sec.zero, 1) := by unfold vrd; rw [List.getElem?_eq_none (Nat.le_refl _)]
theorem vrd_good {ss : List Sec} {t : Row} {j : Nat} {s : Sec} (h : ss[j]? = some s) : vrd (goodR ss ++ t) j = (s, 0) := by
  have hl := (List.getElem?_eq_some_iff.1 h).1
  rw [vrd_left (by rw [goodR_len]; exact hl)]
  unfold vrd goodR
  rw [List.getElem?_map, h]
  rfl
/-- A batch that may stand in a file. -/
structure btOk (k : Nat) (b : List UInt8) (s : Nat) : Prop where
  kind : 1 ≤ k
  kind' : k < 256
  need : needN b.length ≤ 4096
  seq : s < 2 ^ 64
/-- A file's row that is batches, one behind the other, the first one's number one more than 'last'. -/
inductive FullF (f last : Nat) : Row → List Bt → Prop
  | nil : FullF f last [] []
  | snoc {r : Row} {bs : List Bt} {k : Nat} {b : List UInt8} : FullF f last r bs → btOk k b (last + bs.length + 1) →
      FullF f last (r ++ goodR (sectorsP (last + bs.length + 1) k b)) (bs ++ [⟨last + bs.length + 1, k, b, f, r.length⟩])
theorem FullF.len {f last : Nat} {r : Row} {bs : List Bt} (h : FullF f last r bs) : bs.length ≤ r.length := by
  induction h with
  | nil => exact Nat.le_refl _
  | @snoc r bs k b h _ ih =>
    simp only [List.length_append, List.length_cons, List.length_nil, goodR_len, sectorsP_len]
    have := needN_pos b.length
    omega
theorem batch_there {r t : Row} {s k : Nat} {b : List UInt8} (h0 : s ≠ 0) (hb : btOk k b s) : batchR (vrd (r ++ (goodR (sectorsP s k b) ++ t))) r.length = ⟨s, k, b, needN b.length, 0⟩ := by
  refine batch_good h0 hb.seq (by have := hb.kind; omega) hb.kind' hb.need fun j x hx => ?_
  rw [vrd_right]
  exact vrd_good hx
theorem scanF_stop {rd : Nat → Sec × Int} {f n p : Nat} {acc : Nat × List Bt} (h : (batchR rd p).err ≠ 0) : scanF rd f n p acc = acc := by
  cases n with
  | zero => rfl
  | succ n => rw [scanF, if_neg (fun hc => h hc.1)]
theorem FullF.scan {f last : Nat} {r : Row} {bs : List Bt} (h : FullF f last r bs) : ∀ (t : Row) (n : Nat) (A : List Bt), scanF (vrd (r ++ t)) f (bs.length + n) 0 (last, A) = scanF (vrd (r ++ t)) f n r.length (last + bs.length, A ++ bs) := by
  induction h with
  | nil => intro t n A; simp
  | @snoc r bs k b h hb ih =>
    intro t n A
    rw [List.append_assoc, List.length_append, show bs.length + [(⟨last + bs.length + 1, k, b, f, r.length⟩ : Bt)].length + n = bs.length + (n + 1) by simp; omega, ih, scanF,
      batch_there (by omega) hb]
    rw [if_pos ⟨rfl, by unfold followsP; simp only [Bool.and_eq_true, Bool.or_eq_true, decide_eq_true_eq]; omega⟩]
    simp only [List.length_append, goodR_len, sectorsP_len, List.length_cons, List.length_nil, List.append_assoc]
    rfl
/-- What is told of a row of files: how many batches, and which. -/
inductive Tells : List (Nat × Row) → Nat → List Bt → Prop
  | nil : Tells [] 0 []
  | file {V : List (Nat × Row)} {n : Nat} {B : List Bt} {f : Nat} {r t : Row} {bs : List Bt} : Tells V n B → FullF f n r bs → (batchR (vrd (r ++ t)) r.length).err ≠ 0 →
      Tells (V ++ [(f, r ++ t)]) (n + bs.length) (B ++ bs)
theorem Tells.told {V : List (Nat × Row)} {n : Nat} {B : List Bt} (h : Tells V n B) : told V = (n, B) := by
  induction h with
  | nil => rfl
  | @file V n B f r t bs h hf ht ih =>
    unfold Wb.told
    rw [List.foldl_append]
    have h1 : V.foldl toldStep (0, []) = (n, B) := ih
    rw [h1]
    simp only [List.foldl_cons, List.foldl_nil]
    unfold toldStep
    have hl := hf.len
    simp only
    rw [show (r ++ t).length + 1 = bs.length + ((r ++ t).length + 1 - bs.length) by rw [List.length_append]; omega, hf.scan, scanF_stop ht]
theorem stop_end (r : Row) : (batchR (vrd (r ++ [])) r.length).err ≠ 0 := by
  rw [List.append_nil]
  unfold batchR
  rw [vrd_end, if_pos (by decide)]
  decide
theorem Tells.full {V : List (Nat × Row)} {n : Nat} {B : List Bt} {f : Nat} {r : Row} {bs : List Bt} (h : Tells V n B) (hf : FullF f n r bs) : Tells (V ++ [(f, r)]) (n + bs.length) (B ++ bs) := by
  have := Tells.file h hf (stop_end r)
  rwa [List.append_nil] at this
theorem Tells.empty {V : List (Nat × Row)} {n : Nat} {B : List Bt} (h : Tells V n B) (f : Nat) : Tells (V ++ [(f, [])]) n B := by
  have := h.full (f := f) .nil
  simpa using this
theorem Tells.len {V : List (Nat × Row)} {n : Nat} {B : List Bt} (h : Tells V n B) : B.length = n := by
  induction h with
  | nil => rfl
  | file h hf ht ih => rw [List.length_append, ih]
/-- One behind the other. -/
def after (a b : Bt) : Prop := a.file < b.file ∨ (a.file = b.file ∧ a.pos < b.pos)
structure btIs (f last : Nat) (r : Row) (bs : List Bt) : Prop where
  seq : ∀ i b, bs[i]? = some b → b.seq = last + i + 1
  ok : ∀ b ∈ bs, btOk b.kind b.b b.seq
  pos : ∀ b ∈ bs, b.file = f ∧ b.pos < r.length
  rise : bs.Pairwise after
theorem FullF.is {f last : Nat} {r : Row} {bs : List Bt} (h : FullF f last r bs) : btIs f last r bs := by
  induction h with
  | nil => exact ⟨by simp, by simp, by simp, List.Pairwise.nil⟩
  | @snoc r bs k b h hb ih =>
    refine ⟨?_, ?_, ?_, ?_⟩
    · intro i x hi
      rcases Nat.lt_or_ge i bs.length with h1 | h1
      · rw [List.getElem?_append_left h1] at hi
        exact ih.seq i x hi
      · rw [List.getElem?_append_right h1] at hi
        obtain ⟨d, hd⟩ : ∃ d, i = bs.length + d := ⟨i - bs.length, by omega⟩
        subst hd
        rw [show bs.length + d - bs.length = d by omega] at hi
        cases d with
        | zero =>
          simp only [List.getElem?_cons_zero, Option.some.injEq] at hi
          subst hi
          rfl
        | succ d => simp at hi
    · intro x hx
      rcases List.mem_append.1 hx with hx | hx
      · exact ih.ok x hx
      · rw [List.mem_singleton.1 hx]; exact hb
    · intro x hx
      have hp := needN_pos b.length
      rcases List.mem_append.1 hx with hx | hx
      · refine ⟨(ih.pos x hx).1, ?_⟩
        have := (ih.pos x hx).2
        rw [List.length_append]
        omega
      · rw [List.mem_singleton.1 hx]
        refine ⟨rfl, ?_⟩
        show r.length < _
        rw [List.length_append, goodR_len, sectorsP_len]
        omega
    · rw [List.pairwise_append]
      refine ⟨ih.rise, List.pairwise_singleton _ _, fun x hx y hy => ?_⟩
      rw [List.mem_singleton.1 hy]
      obtain ⟨h1, h2⟩ := ih.pos x hx
      exact .inr ⟨h1, h2⟩
theorem Tells.seq {V : List (Nat × Row)} {n : Nat} {B : List Bt} (h : Tells V n B) : ∀ i b, B[i]? = some b → b.seq = i + 1 := by
  induction h with
  | nil => intro i b h; simp at h
  | @file V n B f r t bs h hf ht ih =>
    intro i x hi
    have hl := h.len
    rcases Nat.lt_or_ge i B.length with h1 | h1
    · rw [List.getElem?_append_left h1] at hi
      exact ih i x hi
    · rw [List.getElem?_append_right h1] at hi
      have := hf.is.seq _ _ hi
      omega
theorem Tells.files {V : List (Nat × Row)} {n : Nat} {B : List Bt} (h : Tells V n B) : ∀ b ∈ B, ∃ a ∈ V, b.file = a.1 ∧ b.pos < a.2.length := by
  induction h with
  | nil => intro b h; simp at h
  | @file V n B f r t bs h hf ht ih =>
    intro x hx
    rcases List.mem_append.1 hx with hx | hx
    · obtain ⟨a, ha, hb⟩ := ih x hx
      exact ⟨a, by simp [ha], hb⟩
    · obtain ⟨h1, h2⟩ := hf.is.pos x hx
      exact ⟨(f, r ++ t), by simp, h1, by show x.pos < (r ++ t).length; rw [List.length_append]; omega⟩
theorem Tells.ok {V : List (Nat × Row)} {n : Nat} {B : List Bt} (h : Tells V n B) : ∀ b ∈ B, btOk b.kind b.b b.seq := by
  induction h with
  | nil => intro b h; simp at h
  | @file V n B f r t bs h hf ht ih =>
    intro x hx
    rcases List.mem_append.1 hx with hx | hx
    · exact ih x hx
    · exact hf.is.ok x hx
theorem Tells.rise {V : List (Nat × Row)} {n : Nat} {B : List Bt} (h : Tells V n B) (hV : V.Pairwise (fun a b => a.1 < b.1)) : B.Pairwise after := by
  induction h with
  | nil => exact List.Pairwise.nil
  | @file V n B f r t bs h hf ht ih =>
    rw [List.pairwise_append] at hV ⊢
    refine ⟨ih hV.1, hf.is.rise, fun x hx y hy => ?_⟩
    obtain ⟨a, ha, hxa, _⟩ := h.files x hx
    have := hV.2.2 a ha (f, r ++ t) (by simp)
    have hy1 := (hf.is.pos y hy).1
    exact .inl (by rw [hxa, hy1]; exact this)
end Wb

namespace Wb
open Go

def settled (c : Cell) : Prop := c.fresh = false ∧ c.last = c.now ∧ c.lastBad = c.nowBad ∧ c.there = true
def SettledJ (L : FJ) : Prop := ∀ a ∈ L, ∀ c ∈ a.2, settled c
def RunJ (L : FJ) (f n : Nat) (B : List Bt) : Prop :=
  (f = 0 ∧ Tells (viewJ L) n B) ∨ (f ≠ 0 ∧ ∃ L0 l n0 B0 bs, L = L0 ++ [(f, l)] ∧ Tells (viewJ L0) n0 B0 ∧ FullF f n0 (l.map vw) bs ∧ n = n0 + bs.length ∧ B = B0 ++ bs)
theorem viewJ_app (A B : FJ) : viewJ (A ++ B) = viewJ A ++ viewJ B := by simp [viewJ]
theorem RunJ.tells {L : FJ} {f n : Nat} {B : List Bt} (h : RunJ L f n B) : Tells (viewJ L) n B := by
  rcases h with ⟨_, h⟩ | ⟨_, L0, l, n0, B0, bs, rfl, h1, h2, rfl, rfl⟩
  · exact h
  · rw [viewJ_app]
    exact h1.full h2
structure LiveJ (L : FJ) (J : Jr) (n : Nat) (B : List Bt) : Prop where
  ok : okJ L
  seq : J.seq = n
  dead : J.dead = false
  next0 : 1 ≤ J.next
  next : ∀ a ∈ L, a.1 < J.next
  run : RunJ L J.file n B
/-- A fuse that has not burnt. -/
def onF (fu fu' : Int) : Prop := -1 ≤ fu' ∧ (fu = -1 → fu' = -1)
theorem onF.refl {fu : Int} (h : -1 ≤ fu) : onF fu fu := ⟨h, id⟩
theorem onF.trans {a b c : Int} (h : onF a b) (k : onF b c) : onF a c := ⟨k.1, fun e => k.2 (h.2 e)⟩
theorem onF.dec {fu : Int} (h : -1 ≤ fu) (h0 : fu ≠ 0) : onF fu (decF fu) := by
  unfold decF
  refine ⟨by split <;> omega, fun e => by rw [if_neg (by omega)]; exact e⟩
theorem okJ.add {L : FJ} {f : Nat} (h : okJ L) (h1 : 1 ≤ f) (h2 : f ≤ 999999) (h3 : ∀ a ∈ L, a.1 < f) (v : List Cell) : okJ (L ++ [(f, v)]) := by
  refine ⟨?_, ?_⟩
  · rw [List.pairwise_append]
    exact ⟨h.rise, List.pairwise_singleton _ _, fun a ha b hb => by rw [List.mem_singleton.1 hb]; exact h3 a ha⟩
  · intro a ha
    rcases List.mem_append.1 ha with ha | ha
    · exact h.nums a ha
    · rw [List.mem_singleton.1 ha]; exact ⟨h1, h2⟩
theorem used_snoc (L : FJ) (f : Nat) (l : List Cell) : used (fsJ (L ++ [(f, l)])) = used (fsJ L) + l.length := by
  rw [fsJ_app, used_app]
  simp [fsJ, used]
/-- A new file is asked for. -/
def TurnP (L : FJ) (J : Jr) : Prop := J.file = 0 ∨ ∃ L0 l, L = L0 ++ [(J.file, l)] ∧ 256 ≤ l.length
theorem turnB_yes {m : Nat} {fu : Int} {L : FJ} {J : Jr} (hok : okJ L) (h : TurnP L J) : turnB ⟨devJ m fu L, J⟩ = true := by
  unfold turnB
  rcases h with h | ⟨L0, l, rfl, h⟩
  · simp [h]
  · rw [nmOf_jname hok.mid.2.1 hok.mid.2.2, devJ_len hok]
    simp [h]
theorem turnB_no {m : Nat} {fu : Int} {L0 : FJ} {J : Jr} {l : List Cell} (hok : okJ (L0 ++ [(J.file, l)])) (h0 : J.file ≠ 0) (h : l.length < 256) : turnB ⟨devJ m fu (L0 ++ [(J.file, l)]), J⟩ = false := by
  unfold turnB
  rw [nmOf_jname hok.mid.2.1 hok.mid.2.2, devJ_len hok]
  simp [h0]
  omega
/-- Where a batch comes to stand: the files ahead, the file, what is in it. -/
def SpotJ (L : FJ) (J : Jr) (L0 : FJ) (f : Nat) (l : List Cell) (nx : Nat) : Prop :=
  (TurnP L J ∧ L0 = L ∧ f = J.next ∧ l = [] ∧ nx = J.next + 1) ∨ (J.file ≠ 0 ∧ L = L0 ++ [(f, l)] ∧ f = J.file ∧ l.length < 256 ∧ nx = J.next)
theorem LiveJ.spot {L : FJ} {J : Jr} {n : Nat} {B : List Bt} (h : LiveJ L J n B) : ∃ L0 f l nx, SpotJ L J L0 f l nx := by
  rcases h.run with ⟨h0, _⟩ | ⟨h0, L0, l, n0, B0, bs, hL, _⟩
  · exact ⟨L, J.next, [], J.next + 1, .inl ⟨.inl h0, rfl, rfl, rfl, rfl⟩⟩
  · rcases Nat.lt_or_ge l.length 256 with h1 | h1
    · exact ⟨L0, J.file, l, J.next, .inr ⟨h0, hL, rfl, h1, rfl⟩⟩
    · exact ⟨L, J.next, [], J.next + 1, .inl ⟨.inr ⟨L0, l, hL, h1⟩, rfl, rfl, rfl, rfl⟩⟩
theorem SpotJ.live {L L0 : FJ} {J : Jr} {n f nx : Nat} {B : List Bt} {l : List Cell} (h : LiveJ L J n B) (hs : SpotJ L J L0 f l nx) (hx : J.next ≤ 999999) : LiveJ (L0 ++ [(f, l)]) ⟨J.seq, f, nx, false⟩ n B ∧ f ≠ 0 := by
  rcases hs with ⟨ht, rfl, rfl, rfl, rfl⟩ | ⟨h0, rfl, rfl, hl, rfl⟩
  · have h1 := h.next0
    refine ⟨⟨h.ok.add h1 hx h.next _, h.seq, rfl, by show 1 ≤ J.next + 1; omega, ?_, .inr ⟨by show J.next ≠ 0; omega, L0, [], n, B, [], rfl, h.run.tells, .nil, rfl, by simp⟩⟩, by omega⟩
    intro a ha
    show a.1 < J.next + 1
    rcases List.mem_append.1 ha with ha | ha
    · have := h.next a ha; omega
    · rw [List.mem_singleton.1 ha]; exact Nat.lt_succ_self _
  · exact ⟨⟨h.ok, h.seq, rfl, h.next0, h.next, h.run⟩, h0⟩
theorem turn_spot {m : Nat} {fu : Int} {L L0 : FJ} {J : Jr} {n f nx : Nat} {B : List Bt} {l : List Cell} (h : LiveJ L J n B) (hs : SpotJ L J L0 f l nx) (hx : J.next ≤ 999999) (hf : -1 ≤ fu) :
    (∃ fu', onF fu fu' ∧ turnJ ⟨devJ m fu L, J⟩ = (⟨devJ m fu' (L0 ++ [(f, l)]), ⟨J.seq, f, nx, false⟩⟩, 0)) ∨ (fu = 0 ∧ TurnP L J ∧ turnJ ⟨devJ m fu L, J⟩ = (⟨devJ m 0 L, { J with dead := true }⟩, 8)) := by
  obtain ⟨seq, file, next, dead⟩ := J
  have hd : dead = false := h.dead
  subst hd
  have hb := h.next0
  simp only at hx hb
  rcases hs with ⟨ht, rfl, rfl, rfl, rfl⟩ | ⟨h0, rfl, rfl, hl, rfl⟩
  · unfold turnJ
    rw [turnB_yes h.ok ht, if_pos rfl]
    unfold nextJ
    simp only
    rw [if_neg (by simp), if_neg (by omega), nmOf_jname hb hx, devJ_make (h.ok.add hb hx h.next _)]
    by_cases hz : fu = 0
    · right
      subst hz
      exact ⟨rfl, ht, by simp⟩
    · left
      rw [if_neg hz]
      exact ⟨_, onF.dec hf hz, by simp⟩
  · left
    unfold turnJ
    rw [turnB_no h.ok h0 hl, if_neg (by simp)]
    exact ⟨fu, onF.refl hf, rfl⟩
def freshC (ss : List Sec) : List Cell := ss.map Cell.zero.write
theorem freshC_len (ss : List Sec) : (freshC ss).length = ss.length := by simp [freshC]
theorem freshC_vw (ss : List Sec) : (freshC ss).map vw = goodR ss := by
  unfold freshC goodR
  rw [List.map_map]
  rfl
theorem freshC_sy (ss : List Sec) : syC (freshC ss) = ss.map fun s => (Cell.zero.write s).lasts := by
  unfold freshC syC
  rw [List.map_map]
  rfl
theorem take_snoc {α : Type} {l : List α} {q : Nat} {x : α} (h : l[q]? = some x) : l.take (q + 1) = l.take q ++ [x] := by rw [List.take_add_one, h]; rfl
theorem wrN_live {m : Nat} {fu : Int} {L0 : FJ} {f : Nat} {l : List Cell} (hok : okJ (L0 ++ [(f, l)])) (hf : -1 ≤ fu) (ss : List Sec) (hu : used (fsJ L0) + l.length + ss.length ≤ m) : ∀ q, q ≤ ss.length →
    (∃ fu', onF fu fu' ∧ wrN (devJ m fu (L0 ++ [(f, l)])) (jname f) l.length ss q = (devJ m fu' (L0 ++ [(f, l ++ freshC (ss.take q))]), 0)) ∨
    (fu ≠ -1 ∧ ∃ k, k < q ∧ wrN (devJ m fu (L0 ++ [(f, l)])) (jname f) l.length ss q = (devJ m 0 (L0 ++ [(f, l ++ freshC (ss.take k))]), 8))
  | 0, _ => .inl ⟨fu, onF.refl hf, by simp [wrN, freshC]⟩
  | q + 1, hq => by
    rcases wrN_live hok hf ss hu q (by omega) with ⟨fu', hon, hw⟩ | ⟨hne, k, hk, hw⟩
    · obtain ⟨s, hs⟩ : ∃ s, ss[q]? = some s := ⟨_, List.getElem?_eq_getElem (by omega)⟩
      have hok2 := hok.set (l ++ freshC (ss.take q))
      have hlen : (l ++ freshC (ss.take q)).length = l.length + q := by rw [List.length_append, freshC_len, List.length_take]; omega
      rw [wrN_step hw hs]
      have ha := devJ_app (m := m) (fu := fu') hok2 s
      rw [hlen] at ha
      rw [show ((l.length : Int) + (q : Int)) = ((l.length + q : Nat) : Int) by omega, ha]
      by_cases hz : fu' = 0
      · right
        subst hz
        rw [if_pos rfl]
        refine ⟨fun e => ?_, q, by omega, rfl⟩
        have := hon.2 e
        omega
      · left
        rw [if_neg hz, if_neg (by rw [used_snoc, hlen]; omega)]
        refine ⟨_, hon.trans (onF.dec hon.1 hz), ?_⟩
        rw [List.append_assoc, take_snoc hs]
        unfold freshC
        rw [List.map_append]
        rfl
    · right
      refine ⟨hne, k, by omega, ?_⟩
      rw [wrN, hw, if_neg (show ¬ (8 : Int) = 0 by decide)]
theorem writeJ_live {m : Nat} {fu : Int} {L0 : FJ} {f : Nat} {l : List Cell} (hok : okJ (L0 ++ [(f, l)])) (hf : -1 ≤ fu) (ss : List Sec) (hu : used (fsJ L0) + l.length + ss.length ≤ m) :
    (∃ fu', onF fu fu' ∧ writeJ (devJ m fu (L0 ++ [(f, l)])) f l.length ss = (devJ m fu' (L0 ++ [(f, syC (l ++ freshC ss))]), 0)) ∨
    (fu ≠ -1 ∧ ∃ k, writeJ (devJ m fu (L0 ++ [(f, l)])) f l.length ss = (devJ m 0 (L0 ++ [(f, l ++ freshC (ss.take k))]), 8)) := by
  unfold writeJ
  rw [nmOf_jname hok.mid.2.1 hok.mid.2.2]
  rcases wrN_live hok hf ss hu ss.length (Nat.le_refl _) with ⟨fu', hon, hw⟩ | ⟨hne, k, hk, hw⟩
  · rw [hw, if_pos rfl, List.take_length, devJ_sync (hok.set _)]
    by_cases hz : fu' = 0
    · right
      subst hz
      rw [if_pos rfl]
      refine ⟨fun e => ?_, ss.length, by rw [List.take_length]⟩
      have := hon.2 e
      omega
    · left
      rw [if_neg hz]
      exact ⟨_, hon.trans (onF.dec hon.1 hz), rfl⟩
  · right
    rw [hw, if_neg (show ¬ (8 : Int) = 0 by decide)]
    exact ⟨hne, k, rfl⟩
theorem syC_vw (l : List Cell) : (syC l).map vw = l.map vw := by
  unfold syC
  rw [List.map_map]
  refine List.map_congr_left fun c _ => ?_
  simp only [Function.comp]
  split <;> rfl
theorem syC_settled {l : List Cell} (h : ∀ c ∈ l, c.fresh = false → settled c) : ∀ c ∈ syC l, settled c := by
  intro c hc
  obtain ⟨c0, h0, rfl⟩ := List.mem_map.1 hc
  split
  · exact ⟨rfl, rfl, rfl, rfl⟩
  · rename_i hf
    exact h c0 h0 (by simpa using hf)
theorem syC_same {l : List Cell} (h : ∀ c ∈ l, settled c) : syC l = l := by
  unfold syC
  rw [show l = l.map id by simp, List.map_map]
  refine List.map_congr_left fun c hc => ?_
  have := (h c (by simpa using hc)).1
  simp [this]
/-- Where an appending fell: the batches that are told are those of ahead, and some sectors of the new one may stand behind them. -/
def FellJ (L : FJ) (n : Nat) (B : List Bt) (kind : Nat) (b : List UInt8) (L' : FJ) : Prop :=
  okJ L' ∧ (SettledJ L → (SettledJ L' ∧ Tells (viewJ L') n B) ∨ ∃ L0 f l k n0 B0 bs, L' = L0 ++ [(f, l ++ freshC ((sectorsP (n + 1) kind b).take k))] ∧ SettledJ (L0 ++ [(f, l)]) ∧ Tells (viewJ L0) n0 B0 ∧ FullF f n0 (l.map vw) bs ∧ n = n0 + bs.length ∧ B = B0 ++ bs)
/-- What is when an appending went well. -/
structure DoneJ (m : Nat) (fu : Int) (L : FJ) (J : Jr) (n : Nat) (B : List Bt) (kind : Nat) (b : List UInt8) (L0 : FJ) (f : Nat) (l : List Cell) (nx : Nat) (fu' : Int) (L' : FJ) : Prop where
  on : onF fu fu'
  live : LiveJ L' ⟨n + 1, f, nx, false⟩ (n + 1) (B ++ [⟨n + 1, kind, b, f, l.length⟩])
  shape : L' = L0 ++ [(f, syC (l ++ freshC (sectorsP (n + 1) kind b)))]
  rest : SettledJ L → SettledJ L'
  used : used (fsJ L') = used (fsJ L) + needN b.length
  turn : ∃ fu1, (turnJ ⟨devJ m fu L, J⟩).1 = ⟨devJ m fu1 (L0 ++ [(f, l)]), ⟨J.seq, f, nx, false⟩⟩ ∧ (devJ m fu1 (L0 ++ [(f, l)])).len (nmOf f) = l.length
theorem spot_used {L L0 : FJ} {J : Jr} {f nx : Nat} {l : List Cell} (hs : SpotJ L J L0 f l nx) : used (fsJ (L0 ++ [(f, l)])) = used (fsJ L) := by
  rcases hs with ⟨_, rfl, rfl, rfl, _⟩ | ⟨_, rfl, rfl, _, _⟩
  · rw [used_snoc]; rfl
  · rfl
theorem spot_settled {L L0 : FJ} {J : Jr} {f nx : Nat} {l : List Cell} (hs : SpotJ L J L0 f l nx) (h : SettledJ L) : SettledJ (L0 ++ [(f, l)]) := by
  rcases hs with ⟨_, rfl, rfl, rfl, _⟩ | ⟨_, rfl, rfl, _, _⟩
  · intro a ha c hc
    rcases List.mem_append.1 ha with ha | ha
    · exact h a ha c hc
    · rw [List.mem_singleton.1 ha] at hc; cases hc
  · exact h
theorem append_live {m : Nat} {fu : Int} {L L0 : FJ} {J : Jr} {n f nx : Nat} {B : List Bt} {l : List Cell} {kind : Nat} {b : List UInt8} (h : LiveJ L J n B) (hs : SpotJ L J L0 f l nx) (hx : J.next ≤ 999999) (hf : -1 ≤ fu) (hb : btOk kind b (n + 1)) (hu : used (fsJ L) + needN b.length ≤ m) :
    (∃ fu' L', appendJ ⟨devJ m fu L, J⟩ kind b = (⟨devJ m fu' L', ⟨n + 1, f, nx, false⟩⟩, 0) ∧ DoneJ m fu L J n B kind b L0 f l nx fu' L') ∨
    (∃ L' J' e, e ≠ 0 ∧ fu ≠ -1 ∧ appendJ ⟨devJ m fu L, J⟩ kind b = (⟨devJ m 0 L', J'⟩, e) ∧ FellJ L n B kind b L') := by
  have hpre : appendPre ⟨devJ m fu L, J⟩ kind b.length = 0 := by
    unfold appendPre
    have h1 := h.dead
    have h2 := h.seq
    have h3 := hb.kind
    have h4 := hb.kind'
    have h5 := hb.need
    have h6 := hb.seq
    simp only
    rw [if_neg (by rw [h1]; simp), if_neg (by omega), if_neg (by omega), if_neg]
    show ¬ ((m : Int) - (used (fsJ L) : Int) < (needN b.length : Int))
    omega
  have hus := spot_used hs
  obtain ⟨hl2, hf0⟩ := hs.live h hx
  have hrun := hl2.run
  simp only at hrun
  rcases hrun with ⟨h0, _⟩ | ⟨_, L1, l1, n0, B0, bs, hL1, ht1, hF1, hn1, hB1⟩
  · exact absurd h0 hf0
  obtain ⟨rfl, h2⟩ := List.append_inj' hL1 rfl
  have hl1 : l1 = l := by injection h2 with h3; injection h3 with _ h4; exact h4.symm
  subst hl1
  unfold appendJ
  rw [hpre, if_neg (by simp), Int.toNat_natCast]
  rcases turn_spot (m := m) h hs hx hf with ⟨fu1, hon1, htj⟩ | ⟨hz, hTP, htj⟩
  · rw [htj, if_neg (by simp)]
    unfold putJ putW
    simp only
    have hln : (devJ m fu1 (L0 ++ [(f, l1)])).len (nmOf f) = l1.length := by rw [nmOf_jname hl2.ok.mid.2.1 hl2.ok.mid.2.2, devJ_len hl2.ok]
    rw [hln]
    have hsq := h.seq
    rw [hsq]
    have hss := sectorsP_len (n + 1) kind b
    have hu2 : used (fsJ L0) + l1.length + (sectorsP (n + 1) kind b).length ≤ m := by rw [hss]; have h9 := used_snoc L0 f l1; omega
    rcases writeJ_live hl2.ok hon1.1 (sectorsP (n + 1) kind b) hu2 with ⟨fu', hon, hw⟩ | ⟨hne, k, hw⟩
    · left
      rw [hw, if_pos rfl]
      have hvw : (syC (l1 ++ freshC (sectorsP (n + 1) kind b))).map vw = l1.map vw ++ goodR (sectorsP (n + 1) kind b) := by rw [syC_vw, List.map_append, freshC_vw]
      have hn2 : n + 1 = n0 + (bs ++ [(⟨n + 1, kind, b, f, (l1.map vw).length⟩ : Bt)]).length := by rw [List.length_append]; simp; omega
      refine ⟨fu', _, rfl, ⟨hon1.trans hon, ⟨hl2.ok.set _, rfl, rfl, hl2.next0, ?_, ?_⟩, rfl, ?_, ?_, ⟨fu1, by rw [htj], hln⟩⟩⟩
      · intro a ha
        rcases List.mem_append.1 ha with ha | ha
        · exact hl2.next a (by simp [ha])
        · rw [List.mem_singleton.1 ha]
          exact hl2.next (f, l1) (by simp)
      · right
        refine ⟨hf0, L0, _, n0, B0, bs ++ [⟨n + 1, kind, b, f, l1.length⟩], rfl, ht1, ?_, ?_, ?_⟩
        · rw [hvw]
          have := FullF.snoc hF1 (k := kind) (b := b) (by rw [← hn1]; exact hb)
          rw [← hn1, List.length_map] at this
          exact this
        · rw [List.length_map] at hn2; exact hn2
        · rw [hB1, List.append_assoc]
      · intro hse a ha
        have hse2 := spot_settled hs hse
        rcases List.mem_append.1 ha with ha | ha
        · exact hse2 a (by simp [ha])
        · rw [List.mem_singleton.1 ha]
          refine syC_settled fun c hc hfr => ?_
          rcases List.mem_append.1 hc with hc | hc
          · exact hse2 (f, l1) (by simp) c hc
          · obtain ⟨s, _, rfl⟩ := List.mem_map.1 hc
            cases hfr
      · rw [used_snoc, syC_len, List.length_append, freshC_len, hss, ← hus, used_snoc]
        omega
    · right
      rw [hw, if_neg (show ¬ (8 : Int) = 0 by decide)]
      refine ⟨_, _, 8, by decide, fun e => hne (hon1.2 e), rfl, hl2.ok.set _, fun hse => .inr ⟨L0, f, l1, k, n0, B0, bs, rfl, spot_settled hs hse, ht1, hF1, hn1, hB1⟩⟩
  · right
    rw [htj, if_pos (show (8 : Int) ≠ 0 by decide)]
    exact ⟨L, _, 8, by decide, by omega, rfl, h.ok, fun hse => .inl ⟨hse, h.run.tells⟩⟩
end Wb

namespace Wb
open Go

theorem viewJ_split {L : FJ} {f : Nat} {r : Row} (h : (f, r) ∈ viewJ L) : ∃ A l B, L = A ++ (f, l) :: B := by
  obtain ⟨a, ha, he⟩ := List.mem_map.1 h
  obtain ⟨A, B, rfl⟩ := List.append_of_mem ha
  injection he with h1 h2
  subst h1
  exact ⟨A, a.2, B, rfl⟩
theorem viewJ_set (A B : FJ) (f : Nat) (l : List Cell) : viewJ (A ++ (f, syC l) :: B) = viewJ (A ++ (f, l) :: B) := by
  simp only [viewJ, List.map_append, List.map_cons, syC_vw]
theorem used_set (A B : FJ) (f : Nat) {l l' : List Cell} (h : l'.length = l.length) : used (fsJ (A ++ (f, l') :: B)) = used (fsJ (A ++ (f, l) :: B)) := by
  simp [fsJ, used, h]
structure OpenSt (m : Nat) (L : FJ) (s : OpSt) : Prop where
  ex : ∃ L', s.d = devJ m (-1) L' ∧ okJ L' ∧ viewJ L' = viewJ L ∧ (SettledJ L → L' = L) ∧ used (fsJ L') = used (fsJ L)
  live : s.dead = false
theorem open_step {m : Nat} {L : FJ} {s : OpSt} (h : OpenSt m L s) {b : Bt} (hb : ∃ a ∈ viewJ L, b.file = a.1) : OpenSt m L (opStep s b) ∧ (opStep s b).seq = b.seq := by
  obtain ⟨⟨L', hd, hok, hv, hse, hus⟩, hdead⟩ := h
  unfold opStep
  split
  · obtain ⟨a, ha, hbf⟩ := hb
    rw [← hv] at ha
    obtain ⟨f, r⟩ := a
    obtain ⟨A, l, B, rfl⟩ := viewJ_split ha
    simp only at hbf
    have hsy := devJ_sync (m := m) (fu := -1) hok
    rw [if_neg (by decide)] at hsy
    rw [hd, hbf, nmOf_jname hok.mid.2.1 hok.mid.2.2, hsy]
    refine ⟨⟨⟨_, rfl, hok.set _, by rw [viewJ_set]; exact hv, fun hs => ?_, by rw [used_set _ _ _ (syC_len l)]; exact hus⟩, by simp⟩, rfl⟩
    have e := hse hs
    rw [← e] at hs
    rw [syC_same (hs (f, l) (by simp))]
    exact e
  · exact ⟨⟨⟨L', hd, hok, hv, hse, hus⟩, hdead⟩, rfl⟩
theorem open_up {m : Nat} {L : FJ} {B : List Bt} (h : okJ L) (hB : ∀ b ∈ B, ∃ a ∈ viewJ L, b.file = a.1) (hs : ∀ i b, B[i]? = some b → b.seq = i + 1) : ∀ q, q ≤ B.length → OpenSt m L (opUp (devJ m (-1) L) B q) ∧ (opUp (devJ m (-1) L) B q).seq = q
  | 0, _ => ⟨⟨⟨L, rfl, h, rfl, fun _ => rfl, rfl⟩, rfl⟩, rfl⟩
  | q + 1, hq => by
    obtain ⟨b, hb⟩ : ∃ b, B[q]? = some b := ⟨_, List.getElem?_eq_getElem (by omega)⟩
    rw [opUp_succ hb]
    obtain ⟨h1, h2⟩ := open_step (open_up h hB hs q (by omega)).1 (hB b (List.mem_of_getElem? hb))
    exact ⟨h1, by rw [h2, hs q b hb]⟩
theorem next_up {fs : List Nat} (hr : fs.Pairwise (· < ·)) : (∀ f ∈ fs, f < nextUp fs fs.length) ∧ 1 ≤ nextUp fs fs.length ∧ ((fs = [] ∧ nextUp fs fs.length = 1) ∨ ∃ f ∈ fs, nextUp fs fs.length = f + 1) := by
  rcases List.eq_nil_or_concat fs with rfl | ⟨l, f, rfl⟩
  · exact ⟨by simp, Nat.le_refl _, .inl ⟨rfl, rfl⟩⟩
  · rw [List.concat_eq_append] at hr ⊢
    have e : nextUp (l ++ [f]) (l ++ [f]).length = f + 1 := by unfold nextUp; rw [List.take_length, List.foldl_append]; rfl
    rw [e]
    rw [List.pairwise_append] at hr
    refine ⟨fun x hx => ?_, by omega, .inr ⟨f, by simp, rfl⟩⟩
    rcases List.mem_append.1 hx with hx | hx
    · have := hr.2.2 x hx f (by simp); omega
    · rw [List.mem_singleton.1 hx]; exact Nat.lt_succ_self _
theorem open_live {m : Nat} {L : FJ} {n : Nat} {B : List Bt} (h : okJ L) (ht : Tells (viewJ L) n B) : ∃ L', (opAll (devJ m (-1) L)).d = devJ m (-1) L' ∧ viewJ L' = viewJ L ∧ (SettledJ L → L' = L) ∧ used (fsJ L') = used (fsJ L) ∧ scanP (devJ m (-1) L) = B ∧
    LiveJ L' (openJ (devJ m (-1) L)) n B ∧ (openJ (devJ m (-1) L)).file = 0 ∧ ((L = [] ∧ (openJ (devJ m (-1) L)).next = 1) ∨ ∃ a ∈ L, (openJ (devJ m (-1) L)).next = a.1 + 1) := by
  have hsc : scanP (devJ m (-1) L) = B := by rw [devJ_scanP h, ht.told]
  have hup := open_up (m := m) h (fun b hb => by obtain ⟨a, ha, hf, _⟩ := ht.files b hb; exact ⟨a, ha, hf⟩) ht.seq B.length (Nat.le_refl _)
  have hall : opAll (devJ m (-1) L) = opUp (devJ m (-1) L) B B.length := by unfold opAll; rw [hsc]
  obtain ⟨⟨⟨L', hd, hok, hv, hse, hus⟩, hdead⟩, hseq⟩ := hup
  replace hseq := hseq.trans ht.len
  obtain ⟨hn1, hn2, hn3⟩ := next_up (fs := L.map (·.1)) (by rw [List.pairwise_map]; exact h.rise)
  have hnx : (openJ (devJ m (-1) L)).next = nextUp (L.map (·.1)) (L.map (·.1)).length := by unfold openJ; rw [devJ_files h]
  have hfs : L'.map (·.1) = L.map (·.1) := by
    have := congrArg (List.map (·.1)) hv
    simpa [viewJ, List.map_map, Function.comp_def] using this
  refine ⟨L', by rw [hall]; exact hd, hv, hse, hus, hsc, ⟨hok, ?_, ?_, by rw [hnx]; exact hn2, fun a ha => ?_, .inl ⟨rfl, by rw [hv]; exact ht⟩⟩, rfl, ?_⟩
  · show (opAll (devJ m (-1) L)).seq = n
    rw [hall]
    exact hseq
  · show (opAll (devJ m (-1) L)).dead = false
    rw [hall]; exact hdead
  · rw [hnx]
    refine hn1 a.1 ?_
    rw [← hfs]
    exact List.mem_map.2 ⟨a, ha, rfl⟩
  · rw [hnx]
    rcases hn3 with ⟨h1, h2⟩ | ⟨f, hf, h2⟩
    · exact .inl ⟨by simpa using h1, h2⟩
    · obtain ⟨a, ha, rfl⟩ := List.mem_map.1 hf
      exact .inr ⟨a, ha, h2⟩
theorem new_dev {m : Nat} (hm : m ≤ 100000) : Dv.new m = devJ m (-1) [] := by
  unfold Dv.new devJ
  congr 1
  omega
theorem okJ_nil : okJ [] := ⟨List.Pairwise.nil, by simp⟩

/-! ### a crash -/
theorem settled_crash {c : Cell} (h : settled c) (p : List Int) : crashC c p = ((c, true), p) := by
  unfold crashC
  rw [h.1]
  rfl
theorem settled_lasts {c : Cell} (h : settled c) : c.lasts = c := by
  obtain ⟨h1, h2, h3, h4⟩ := h
  cases c
  simp only [Cell.lasts] at *
  subst h1 h2 h3 h4
  rfl
theorem lasts_settled (c : Cell) : settled c.lasts := ⟨rfl, rfl, rfl, rfl⟩
theorem crash_settled {l : List Cell} (h : ∀ c ∈ l, settled c) : ∀ pick, crashCells l pick = (l.map fun c => (c, true), pick) := by
  induction l with
  | nil => intro pick; rfl
  | cons c r ih =>
    intro pick
    unfold crashCells
    rw [settled_crash (h c (by simp)), ih (fun c hc => h c (by simp [hc]))]
    rfl
theorem endOf_append_true {xs ys : List (Cell × Bool)} (h : ∀ x ∈ xs, x.2 = true) : endOf (xs ++ ys) = xs.length + endOf ys := by
  induction xs with
  | nil => simp
  | cons x r ih =>
    have hx := h x (by simp)
    have ih' := ih (fun x hx => h x (by simp [hx]))
    simp only [List.cons_append, endOf, ih', List.length_cons, hx, if_true]
    split
    · omega
    · omega
theorem trim_settled_app {l : List Cell} (h : ∀ c ∈ l, settled c) (ys : List (Cell × Bool)) : trim ((l.map fun c => (c, true)) ++ ys) = l ++ (ys.map outC).take (endOf ys) := by
  unfold trim
  rw [endOf_append_true (by intro x hx; obtain ⟨c, _, rfl⟩ := List.mem_map.1 hx; rfl), List.map_append, List.length_map, List.map_map]
  have e : l.map (outC ∘ fun c => (c, true)) = l := by
    rw [show l.map (outC ∘ fun c => (c, true)) = l.map id from List.map_congr_left fun c hc => settled_lasts (h c hc), List.map_id]
  rw [e, List.take_append, List.take_of_length_le (by omega), show l.length + endOf ys - l.length = endOf ys by omega]
theorem crashCells_app (A B : List Cell) : ∀ pick, crashCells (A ++ B) pick = ((crashCells A pick).1 ++ (crashCells B (crashCells A pick).2).1, (crashCells B (crashCells A pick).2).2) := by
  induction A with
  | nil => intro pick; rfl
  | cons a r ih => intro pick; simp [crashCells, ih]
theorem crash_row {l t : List Cell} (h : ∀ c ∈ l, settled c) (pick : List Int) : trim (crashCells (l ++ t) pick).1 = l ++ ((crashCells t pick).1.map outC).take (endOf (crashCells t pick).1) := by
  rw [crashCells_app, crash_settled h]
  exact trim_settled_app h _
theorem crash_row_settled {l : List Cell} (h : ∀ c ∈ l, settled c) (pick : List Int) : trim (crashCells l pick).1 = l ∧ (crashCells l pick).2 = pick := by
  have := crash_row (t := []) h pick
  rw [List.append_nil] at this
  exact ⟨by rw [this]; simp [crashCells, endOf], by rw [crash_settled h]⟩
theorem crash_files_settled {L : FJ} (h : SettledJ L) : ∀ pick, crashFiles (fsJ L) pick = (fsJ L, pick) := by
  induction L with
  | nil => intro pick; rfl
  | cons a r ih =>
    intro pick
    obtain ⟨f, l⟩ := a
    have h1 := crash_row_settled (h (f, l) (by simp)) pick
    have h2 := ih (fun a ha => h a (by simp [ha])) pick
    show crashFiles ((jname f, l) :: fsJ r) pick = _
    unfold crashFiles
    rw [h1.1, h1.2, h2]
    rfl
theorem crash_live {m : Nat} {fu : Int} {L : FJ} (h : SettledJ L) (pick : List Int) : (devJ m fu L).crash pick = devJ m (-1) L := by
  unfold Dv.crash devJ
  simp only
  rw [crash_files_settled h]
theorem crash_last {m : Nat} {fu : Int} {L : FJ} {f : Nat} {l t : List Cell} (h : SettledJ (L ++ [(f, l)])) (pick : List Int) : (devJ m fu (L ++ [(f, l ++ t)])).crash pick = devJ m (-1) (L ++ [(f, l ++ ((crashCells t pick).1.map outC).take (endOf (crashCells t pick).1))]) := by
  unfold Dv.crash devJ
  simp only
  rw [fsJ_app, fsJ_app]
  rw [show fsJ [(f, l ++ t)] = [(jname f, l ++ t)] from rfl, crashFiles_snoc, crash_files_settled (fun a ha => h a (by simp [ha]))]
  simp only
  rw [crash_row (h (f, l) (by simp))]
  rfl
/-- What is left of sectors that were begun: each is as it was written, or bad. -/
def LeftR (ss : List Sec) (t : List Cell) : Prop := t.length ≤ ss.length ∧ ∀ (i : Nat) c, t[i]? = some c → settled c ∧ (c.nowBad = true ∨ (c.nowBad = false ∧ ss[i]? = some c.now))
theorem left_crash (ss : List Sec) (k : Nat) (pick : List Int) : LeftR ss (((crashCells (freshC (ss.take k)) pick).1.map outC).take (endOf (crashCells (freshC (ss.take k)) pick).1)) := by
  refine ⟨?_, fun i c hi => ?_⟩
  · rw [List.length_take, List.length_map, crashCells_len, freshC_len, List.length_take]
    omega
  · have hi2 : ((crashCells (freshC (ss.take k)) pick).1.map outC)[i]? = some c := by
      rw [List.getElem?_take] at hi
      split at hi
      · exact hi
      · cases hi
    rw [List.getElem?_map] at hi2
    obtain ⟨x, hx, rfl⟩ := Option.map_eq_some_iff.1 hi2
    rw [crashCells_get] at hx
    obtain ⟨c0, hc0, hx2⟩ := Option.map_eq_some_iff.1 hx
    unfold freshC at hc0
    rw [List.getElem?_map] at hc0
    obtain ⟨s, hs, rfl⟩ := Option.map_eq_some_iff.1 hc0
    have hs2 : ss[i]? = some s := by
      rw [List.getElem?_take] at hs
      split at hs
      · exact hs
      · cases hs
    obtain ⟨way, hw⟩ := crash_way (c := Cell.zero.write s) rfl (pick.drop (freshN ((freshC (ss.take k)).take i)))
    rw [hw] at hx2
    subst hx2
    unfold fallC
    split
    · refine ⟨?_, .inl ?_⟩
      · unfold outC
        exact lasts_settled _
      · rfl
    · split
      · exact ⟨lasts_settled _, .inr ⟨rfl, hs2⟩⟩
      · exact ⟨lasts_settled _, .inl rfl⟩
/-- A batch some of whose sectors are gone is none. -/
theorem batch_gone {r t : Row} {s k : Nat} {b : List UInt8} (hb : btOk k b s) (ht : ∀ (i : Nat) (x : Sec × Bool), t[i]? = some x → x.2 = true ∨ (x.2 = false ∧ (sectorsP s k b)[i]? = some x.1)) (hg : ∃ i, i < needN b.length ∧ (vrd t i).2 ≠ 0) : (batchR (vrd (r ++ t)) r.length).err ≠ 0 := by
  have hr : ∀ i, vrd (r ++ t) (r.length + i) = vrd t i := fun i => vrd_right r t i
  have hr0 : vrd (r ++ t) r.length = vrd t 0 := by have := hr 0; rwa [Nat.add_zero] at this
  have hsec : ∀ i, (vrd t i).2 = 0 → (sectorsP s k b)[i]? = some (vrd t i).1 := by
    intro i hi
    unfold vrd at hi ⊢
    cases hc : t[i]? with
    | none => rw [hc] at hi; cases hi
    | some x =>
      rw [hc] at hi
      simp only at hi ⊢
      rcases ht i x hc with h1 | ⟨h1, h2⟩
      · rw [h1, if_pos rfl] at hi; cases hi
      · rw [h1, if_neg (by simp)]; exact h2
  obtain ⟨i, hi, hbad⟩ := hg
  intro herr
  obtain ⟨h1, h2, h3⟩ := batch_err herr
  have hok0 := h3 0 (by omega)
  rw [Nat.add_zero, hr0] at hok0
  have hs0 := hsec 0 hok0
  unfold sectorsP at hs0
  rw [List.getElem?_map, List.getElem?_range (needN_pos _)] at hs0
  simp only [Option.map_some, Option.some.injEq] at hs0
  have hhd : headP (vrd t 0).1 = ⟨s, 0, needN b.length, k⟩ := by
    rw [← hs0]
    exact (head_jsec (h := ⟨s, 0, needN b.length, k⟩) hb.seq (by show (0 : Nat) < 65536; omega) (by show needN b.length < 65536; have := hb.need; omega) hb.kind' (by rw [List.length_take]; omega)).1
  have hmany : (batchR (vrd (r ++ t)) r.length).many = needN b.length := by
    unfold batchR at herr ⊢
    rw [hr0, hhd] at herr ⊢
    split at herr
    · rename_i hc; exact absurd herr hc
    · rename_i hc
      rw [if_neg hc]
      split at herr
      · cases herr
      · rename_i hc2
        rw [if_neg hc2]
        split at herr
        · rename_i hc3; exact absurd herr hc3
        · rename_i hc3
          rw [if_neg hc3]
          split at herr
          · rename_i hc4
            rw [if_pos hc4]
          · cases herr
  have := h3 i (by rw [hmany]; exact hi)
  rw [hr i] at this
  exact hbad this
/-- Behind a crash there are the batches of ahead, or the one that was begun too. -/
theorem fell_crash {m : Nat} {L L' : FJ} {n : Nat} {B : List Bt} {kind : Nat} {b : List UInt8} {fu : Int} (h : FellJ L n B kind b L') (hs : SettledJ L) (hb : btOk kind b (n + 1)) (pick : List Int) :
    ∃ L2, (devJ m fu L').crash pick = devJ m (-1) L2 ∧ okJ L2 ∧ SettledJ L2 ∧ L2.map (·.1) = L'.map (·.1) ∧ used (fsJ L2) ≤ used (fsJ L') ∧ (Tells (viewJ L2) n B ∨ ∃ f p, Tells (viewJ L2) (n + 1) (B ++ [⟨n + 1, kind, b, f, p⟩])) := by
  obtain ⟨hok, h⟩ := h
  rcases h hs with ⟨h1, h2⟩ | ⟨L0, f, l, k, n0, B0, bs, rfl, hse, ht, hF, hn, hB⟩
  · exact ⟨L', crash_live h1 pick, hok, h1, rfl, Nat.le_refl _, .inl h2⟩
  · have hcr := crash_last (m := m) (fu := fu) (t := freshC ((sectorsP (n + 1) kind b).take k)) hse pick
    obtain ⟨hl1, hl2⟩ := left_crash (sectorsP (n + 1) kind b) k pick
    have hlt : (((crashCells (freshC ((sectorsP (n + 1) kind b).take k)) pick).1.map outC).take (endOf (crashCells (freshC ((sectorsP (n + 1) kind b).take k)) pick).1)).length ≤ (freshC ((sectorsP (n + 1) kind b).take k)).length := by
      rw [List.length_take, List.length_map, crashCells_len]; omega
    generalize ((crashCells (freshC ((sectorsP (n + 1) kind b).take k)) pick).1.map outC).take (endOf (crashCells (freshC ((sectorsP (n + 1) kind b).take k)) pick).1) = t at *
    refine ⟨_, hcr, hok.set _, ?_, by simp, ?_, ?_⟩
    · intro a ha c hc
      rcases List.mem_append.1 ha with ha | ha
      · exact hse a (by simp [ha]) c hc
      · rw [List.mem_singleton.1 ha] at hc
        rcases List.mem_append.1 hc with hc | hc
        · exact hse (f, l) (by simp) c hc
        · obtain ⟨i, hi⟩ := List.mem_iff_getElem?.1 hc
          exact (hl2 i c hi).1
    · rw [used_snoc, used_snoc, List.length_append, List.length_append]
      omega
    · rw [viewJ_app]
      have hvw : viewJ [(f, l ++ t)] = [(f, l.map vw ++ t.map vw)] := by simp [viewJ]
      rw [hvw]
      by_cases hg : ∃ i, i < needN b.length ∧ (vrd (t.map vw) i).2 ≠ 0
      · left
        rw [hn, hB]
        refine Tells.file ht hF ?_
        refine batch_gone hb (fun i x hx => ?_) hg
        rw [List.getElem?_map] at hx
        obtain ⟨c, hc, rfl⟩ := Option.map_eq_some_iff.1 hx
        exact (hl2 i c hc).2
      · right
        have hall : ∀ i, i < needN b.length → (vrd (t.map vw) i).2 = 0 := fun i hi => Classical.byContradiction fun hc => hg ⟨i, hi, hc⟩
        have htv : t.map vw = goodR (sectorsP (n + 1) kind b) := by
          apply List.ext_getElem?
          intro i
          unfold goodR
          rw [List.getElem?_map, List.getElem?_map]
          rcases Nat.lt_or_ge i (needN b.length) with hi | hi
          · have h1 := hall i hi
            unfold vrd at h1
            rw [List.getElem?_map] at h1
            cases hc : t[i]? with
            | none => rw [hc] at h1; cases h1
            | some c =>
              rw [hc] at h1
              simp only [Option.map_some] at h1 ⊢
              rcases (hl2 i c hc).2 with h3 | ⟨h3, h4⟩
              · rw [show (vw c).2 = true from h3, if_pos rfl] at h1; cases h1
              · rw [h4]
                show some (c.now, c.nowBad) = some (c.now, false)
                rw [h3]
          · rw [List.getElem?_eq_none (by rw [sectorsP_len] at hl1; omega), List.getElem?_eq_none (by rw [sectorsP_len]; exact hi)]
            rfl
        refine ⟨f, (l.map vw).length, ?_⟩
        rw [htv]
        have hF2 := FullF.snoc hF (k := kind) (b := b) (by rw [← hn]; exact hb)
        have := ht.full hF2
        rw [← hn, List.length_append, ← Nat.add_assoc, ← hn, ← List.append_assoc, ← hB] at this
        exact this
end Wb

namespace Wb
open Go

theorem FullF.batch {f last : Nat} {r : Row} {bs : List Bt} (h : FullF f last r bs) : ∀ x ∈ bs, ∀ t, batchR (vrd (r ++ t)) x.pos = ⟨x.seq, x.kind, x.b, needN x.b.length, 0⟩ := by
  induction h with
  | nil => intro x hx; cases hx
  | @snoc r bs k b h hb ih =>
    intro x hx t
    rw [List.append_assoc]
    rcases List.mem_append.1 hx with hx | hx
    · exact ih x hx _
    · rw [List.mem_singleton.1 hx]
      exact batch_there (by omega) hb
theorem Tells.batch {V : List (Nat × Row)} {n : Nat} {B : List Bt} (h : Tells V n B) : ∀ x ∈ B, ∃ a ∈ V, a.1 = x.file ∧ batchR (vrd a.2) x.pos = ⟨x.seq, x.kind, x.b, needN x.b.length, 0⟩ := by
  induction h with
  | nil => intro x hx; cases hx
  | @file V n B f r t bs h hf ht ih =>
    intro x hx
    rcases List.mem_append.1 hx with hx | hx
    · obtain ⟨a, ha, hb⟩ := ih x hx
      exact ⟨a, by simp [ha], hb⟩
    · exact ⟨(f, r ++ t), by simp, ((hf.is.pos x hx).1).symm, hf.batch x hx t⟩
theorem devJ_batch {m : Nat} {fu : Int} {L : FJ} {n : Nat} {B : List Bt} (hok : okJ L) (h : Tells (viewJ L) n B) {x : Bt} (hx : x ∈ B) : batchR (readJ (devJ m fu L) x.file) x.pos = ⟨x.seq, x.kind, x.b, needN x.b.length, 0⟩ := by
  obtain ⟨a, ha, h1, h2⟩ := h.batch x hx
  obtain ⟨c, hc, rfl⟩ := List.mem_map.1 ha
  obtain ⟨A, C, rfl⟩ := List.append_of_mem hc
  rw [← h1, devJ_read hok]
  exact h2
theorem append_well {m : Nat} {L : FJ} {J : Jr} {n : Nat} {B : List Bt} {kind : Nat} {b : List UInt8} (h : LiveJ L J n B) (hx : J.next ≤ 999999) (hb : btOk kind b (n + 1)) (hu : used (fsJ L) + needN b.length ≤ m) :
    ∃ L0 f l nx L', SpotJ L J L0 f l nx ∧ appendJ ⟨devJ m (-1) L, J⟩ kind b = (⟨devJ m (-1) L', ⟨n + 1, f, nx, false⟩⟩, 0) ∧ DoneJ m (-1) L J n B kind b L0 f l nx (-1) L' := by
  obtain ⟨L0, f, l, nx, hs⟩ := h.spot
  rcases append_live (m := m) (fu := -1) h hs hx (by decide) hb hu with ⟨fu', L', he, hd⟩ | ⟨_, _, _, _, hne, _⟩
  · have := hd.on.2 rfl
    subst this
    exact ⟨L0, f, l, nx, L', hs, he, hd⟩
  · exact absurd rfl hne
theorem DoneJ.told {m : Nat} {fu fu' : Int} {L L0 L' : FJ} {J : Jr} {n f nx kind : Nat} {B : List Bt} {b : List UInt8} {l : List Cell} (h : DoneJ m fu L J n B kind b L0 f l nx fu' L') : Tells (viewJ L') (n + 1) (B ++ [⟨n + 1, kind, b, f, l.length⟩]) := h.live.run.tells
theorem DoneJ.len {m : Nat} {fu fu' : Int} {L L0 L' : FJ} {J : Jr} {n f nx kind : Nat} {B : List Bt} {b : List UInt8} {l : List Cell} (h : DoneJ m fu L J n B kind b L0 f l nx fu' L') : (turnJ ⟨devJ m fu L, J⟩).1.d.len (nmOf (turnJ ⟨devJ m fu L, J⟩).1.j.file) = l.length := by
  obtain ⟨fu1, h1, h2⟩ := h.turn
  rw [h1]
  exact h2
theorem append_pre {s : JD} {kind : Int} {b : List UInt8} {e : Int} (h : appendPre s kind b.length = e) (h0 : e ≠ 0) : appendJ s kind b = (s, e) := by
  unfold appendJ
  rw [h, if_pos h0]
theorem new_open (m : Nat) : scanP (devJ m (-1) []) = [] ∧ openJ (devJ m (-1) []) = ⟨0, 0, 1, false⟩ ∧ (opAll (devJ m (-1) [])).d = devJ m (-1) [] := ⟨rfl, rfl, rfl⟩
theorem new_live : LiveJ [] ⟨0, 0, 1, false⟩ 0 [] := ⟨okJ_nil, rfl, rfl, Nat.le_refl _, by simp, .inl ⟨rfl, .nil⟩⟩
/-- The first batch of a new journal. -/
theorem first_spot {L0 : FJ} {f nx : Nat} {l : List Cell} (h : SpotJ [] ⟨0, 0, 1, false⟩ L0 f l nx) : L0 = [] ∧ f = 1 ∧ l = [] ∧ nx = 2 := by
  rcases h with ⟨_, rfl, rfl, rfl, rfl⟩ | ⟨h0, _⟩
  · exact ⟨rfl, rfl, rfl, rfl⟩
  · exact absurd rfl h0
end Wb

namespace Wb
open Go

theorem rise_len : ∀ {L : FJ} {N : Nat}, L.Pairwise (fun a b => a.1 < b.1) → (∀ a ∈ L, 1 ≤ a.1 ∧ a.1 ≤ N) → L.length ≤ N := by
  intro L
  rcases List.eq_nil_or_concat L with rfl | ⟨l, x, rfl⟩
  · intro N _ _; exact Nat.zero_le _
  · intro N hr hn
    rw [List.concat_eq_append] at hr hn ⊢
    rw [List.pairwise_append] at hr
    have hx := hn x (by simp)
    have hlen : l.length < (l ++ [x]).length := by simp
    have := rise_len (L := l) (N := x.1 - 1) hr.1 (fun a ha => by
      have h1 := hr.2.2 a ha x (by simp)
      have h2 := (hn a (by simp [ha])).1
      omega)
    rw [List.length_append]
    simp
    omega
termination_by L => L.length
decreasing_by rename_i h; subst h; simp
theorem okJ.len {L : FJ} (h : okJ L) : L.length ≤ 1000000 := by
  have := rise_len h.rise h.nums
  omega
/-- A journal of few files. -/
structure FewJ (L : FJ) (J : Jr) (n : Nat) (B : List Bt) (N : Nat) : Prop where
  live : LiveJ L J n B
  next : J.next ≤ N + 1
  file : J.file ≤ N
theorem FewJ.append {m : Nat} {fu fu' : Int} {L L0 L' : FJ} {J : Jr} {n f nx kind N : Nat} {B : List Bt} {b : List UInt8} {l : List Cell} (h : FewJ L J n B N) (hs : SpotJ L J L0 f l nx) (hd : DoneJ m fu L J n B kind b L0 f l nx fu' L') : FewJ L' ⟨n + 1, f, nx, false⟩ (n + 1) (B ++ [⟨n + 1, kind, b, f, l.length⟩]) (N + 1) := by
  refine ⟨hd.live, ?_, ?_⟩
  · show nx ≤ N + 1 + 1
    have := h.next
    rcases hs with ⟨_, _, _, _, rfl⟩ | ⟨_, _, _, _, rfl⟩ <;> omega
  · show f ≤ N + 1
    have := h.next
    have := h.file
    rcases hs with ⟨_, _, rfl, _, _⟩ | ⟨_, _, rfl, _, _⟩ <;> omega
theorem FewJ.more {L : FJ} {J : Jr} {n N : Nat} {B : List Bt} (h : FewJ L J n B N) : FewJ L J n B (N + 1) := ⟨h.live, Nat.le_succ_of_le h.next, Nat.le_succ_of_le h.file⟩
theorem needN_small {n : Nat} (h : n ≤ 6144) : needN n ≤ 128 := by unfold needN; split <;> omega
theorem few_new : FewJ [] ⟨0, 0, 1, false⟩ 0 [] 0 := ⟨new_live, by decide, by decide⟩
theorem pre_full {m : Nat} {L : FJ} {J : Jr} {n : Nat} {B : List Bt} {kind : Nat} {len : Nat} (h : LiveJ L J n B) (hk : 1 ≤ kind ∧ kind < 256) (hn : n < 1000) (hl : needN len ≤ 4096) (hu : m < used (fsJ L) + needN len) (hum : used (fsJ L) ≤ m) : appendPre ⟨devJ m (-1) L, J⟩ kind len = 6 := by
  unfold appendPre
  have h1 := h.dead
  have h2 := h.seq
  simp only
  rw [if_neg (by rw [h1]; simp), if_neg (by omega), if_neg (by omega), if_pos]
  show (m : Int) - (used (fsJ L) : Int) < (needN len : Int)
  omega
theorem pre_bound {D : Dv} {J : Jr} {len : Nat} {kind : Nat} (hd : J.dead = false) (hk : 1 ≤ kind ∧ kind < 256) (hl : 4096 < needN len) : appendPre ⟨D, J⟩ kind len = 11 := by
  unfold appendPre
  simp only
  rw [if_neg (by rw [hd]; simp), if_neg (by omega), if_pos (.inl hl)]
theorem pre_arg {D : Dv} {J : Jr} {len : Nat} (hd : J.dead = false) : appendPre ⟨D, J⟩ 0 len = 1 := by
  unfold appendPre
  simp only
  rw [if_neg (by rw [hd]; simp), if_pos (by omega)]
end Wb
