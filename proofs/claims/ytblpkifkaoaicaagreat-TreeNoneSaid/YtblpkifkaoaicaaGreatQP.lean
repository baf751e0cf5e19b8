/- Lemmas and contracts of functions, joined. -/
import Derived.WalkKit
namespace Wb
open Go

abbrev Nm := List UInt8
def bs (l : Nm) : ByteArray := ⟨l.toArray⟩
theorem bs_size (l : Nm) : (bs l).size = l.length := by simp [bs, ByteArray.size]
theorem bs_list (l : Nm) : (bs l).data.toList = l := by simp [bs]
theorem bs_inj {a b : Nm} (h : bs a = bs b) : a = b := by rw [← bs_list a, h, bs_list]

theorem ba_size (b : ByteArray) : b.size = b.data.toList.length := by show b.data.size = _; simp
theorem ba_loop (b : ByteArray) (n : Nat) : ∀ (i : Nat) (r : List UInt8), b.size - i = n → ByteArray.toList.loop b i r = r.reverse ++ b.data.toList.drop i := by
  induction n with
  | zero =>
    intro i r h
    rw [ByteArray.toList.loop]
    have : ¬ i < b.size := by omega
    rw [if_neg this, List.drop_eq_nil_of_le (by rw [ba_size] at h; omega)]
    simp
  | succ n ih =>
    intro i r h
    rw [ByteArray.toList.loop]
    have hi : i < b.size := by omega
    rw [if_pos hi, ih (i + 1) _ (by omega)]
    have hi' : i < b.data.toList.length := by rw [ba_size] at hi; exact hi
    rw [List.drop_eq_getElem_cons hi']
    have : b.get! i = b.data.toList[i] := by
      unfold ByteArray.get!
      simp at hi'
      simp [getElem!_pos, hi']
    simp [this]
theorem ba_toList (b : ByteArray) : b.toList = b.data.toList := by
  unfold ByteArray.toList
  rw [ba_loop b _ 0 [] rfl]; simp
theorem bs_toList (l : Nm) : (bs l).toList = l := by rw [ba_toList, bs_list]

/-- A sector: 64 octets. -/
abbrev Sec := { l : List UInt8 // l.length = 64 }
def Sec.zero : Sec := ⟨List.replicate 64 0, by simp⟩

structure Cell where
  now : Sec
  last : Sec
  nowBad : Bool
  lastBad : Bool
  there : Bool
  fresh : Bool

def Cell.zero : Cell := ⟨Sec.zero, Sec.zero, false, false, false, false⟩
def Cell.lasts (c : Cell) : Cell := { c with last := c.now, lastBad := c.nowBad, there := true, fresh := false }

abbrev Files := List (Nm × List Cell)

def fget (fs : Files) (n : Nm) : Option (List Cell) :=
  match fs with
  | [] => none
  | (m, x) :: r => if n = m then some x else fget r n

def fset (fs : Files) (n : Nm) (v : List Cell) : Files :=
  match fs with
  | [] => [(n, v)]
  | (m, x) :: r => if n = m then (n, v) :: r else if n < m then (n, v) :: (m, x) :: r else (m, x) :: fset r n v

def fdel (fs : Files) (n : Nm) : Files :=
  match fs with
  | [] => []
  | (m, x) :: r => if n = m then r else (m, x) :: fdel r n

def used (fs : Files) : Nat := (fs.map (·.2.length)).sum
def sorted (fs : Files) : Prop := fs.Pairwise (fun a b => a.1 < b.1)

theorem fget_fset_same (fs : Files) (n : Nm) (v : List Cell) : fget (fset fs n v) n = some v := by
  induction fs with
  | nil => simp [fset, fget]
  | cons a r ih =>
    obtain ⟨m, x⟩ := a
    simp only [fset]
    split
    · simp [fget]
    · split
      · simp [fget]
      · rename_i h _; simp [fget, h, ih]

theorem fget_fset_other (fs : Files) {n k : Nm} (v : List Cell) (hne : k ≠ n) : fget (fset fs n v) k = fget fs k := by
  induction fs with
  | nil => simp [fset, fget, hne]
  | cons a r ih =>
    obtain ⟨m, x⟩ := a
    simp only [fset]
    split
    · rename_i h; subst h; simp [fget, hne]
    · split
      · simp [fget, hne]
      · simp only [fget, ih]

theorem fget_fset (fs : Files) (n k : Nm) (v : List Cell) : fget (fset fs n v) k = if k = n then some v else fget fs k := by
  split
  · rename_i h; rw [h, fget_fset_same]
  · rename_i h; rw [fget_fset_other _ _ h]

theorem fset_fset (fs : Files) (n : Nm) (a b : List Cell) : fset (fset fs n a) n b = fset fs n b := by
  induction fs with
  | nil => simp [fset]
  | cons x r ih =>
    obtain ⟨m, y⟩ := x
    simp only [fset]
    split
    · simp [fset]
    · split
      · simp [fset]
      · rename_i h1 h2; simp [fset, h1, h2, ih]

theorem fget_fdel_other (fs : Files) {n k : Nm} (hne : k ≠ n) : fget (fdel fs n) k = fget fs k := by
  induction fs with
  | nil => rfl
  | cons a r ih =>
    obtain ⟨m, x⟩ := a
    simp only [fdel]
    split
    · rename_i h; subst h; simp [fget, hne]
    · simp only [fget, ih]

theorem nm_irrefl (a : Nm) : ¬ a < a := List.lt_irrefl a
theorem nm_trans {a b c : Nm} (h : a < b) (k : b < c) : a < c := List.lt_trans h k
theorem nm_total {a b : Nm} (h : a ≠ b) (k : ¬ a < b) : b < a := by
  rcases Nat.lt_or_ge 0 1 with _ | h0
  · exact Classical.byContradiction fun h3 => h (List.le_antisymm (List.not_lt.1 h3) (List.not_lt.1 k))
  · omega

theorem sorted_lt {m : Nm} {x : List Cell} {r : Files} (h : sorted ((m, x) :: r)) {a : Nm × List Cell} (ha : a ∈ r) : m < a.1 := (List.pairwise_cons.1 h).1 a ha
theorem sorted_tail {m : Nm} {x : List Cell} {r : Files} (h : sorted ((m, x) :: r)) : sorted r := (List.pairwise_cons.1 h).2

theorem fget_mem {fs : Files} {n : Nm} {v : List Cell} (h : fget fs n = some v) : (n, v) ∈ fs := by
  induction fs with
  | nil => simp [fget] at h
  | cons a r ih =>
    obtain ⟨m, x⟩ := a
    simp only [fget] at h
    split at h
    · rename_i e; subst e; cases h; simp
    · exact List.mem_cons_of_mem _ (ih h)

theorem fget_of_mem {fs : Files} (hs : sorted fs) {n : Nm} {v : List Cell} (h : (n, v) ∈ fs) : fget fs n = some v := by
  induction fs with
  | nil => simp at h
  | cons a r ih =>
    obtain ⟨m, x⟩ := a
    rcases List.mem_cons.1 h with e | h'
    · cases e; simp [fget]
    · have := sorted_lt hs h'
      have hne : n ≠ m := fun e => nm_irrefl m (by simpa [e] using this)
      simp [fget, hne, ih (sorted_tail hs) h']

theorem fget_none {fs : Files} {n : Nm} (h : ∀ a ∈ fs, n < a.1) : fget fs n = none := by
  cases hc : fget fs n with
  | none => rfl
  | some v => exact absurd (h _ (fget_mem hc)) (nm_irrefl n)

theorem mem_fset {fs : Files} {n : Nm} {v : List Cell} {a : Nm × List Cell} (h : a ∈ fset fs n v) : a = (n, v) ∨ a ∈ fs := by
  induction fs with
  | nil => simp [fset] at h; exact .inl h
  | cons b r ih =>
    obtain ⟨m, x⟩ := b
    simp only [fset] at h
    split at h
    · rcases List.mem_cons.1 h with h | h
      · exact .inl h
      · exact .inr (List.mem_cons_of_mem _ h)
    · split at h
      · rcases List.mem_cons.1 h with h | h
        · exact .inl h
        · exact .inr h
      · rcases List.mem_cons.1 h with h | h
        · exact .inr (by rw [h]; simp)
        · rcases ih h with h | h
          · exact .inl h
          · exact .inr (List.mem_cons_of_mem _ h)

theorem sorted_fset {fs : Files} (hs : sorted fs) (n : Nm) (v : List Cell) : sorted (fset fs n v) := by
  induction fs with
  | nil => simp [fset, sorted]
  | cons b r ih =>
    obtain ⟨m, x⟩ := b
    have h1 := List.pairwise_cons.1 hs
    simp only [fset]
    split
    · rename_i e; subst e; exact List.pairwise_cons.2 ⟨h1.1, h1.2⟩
    · split
      · rename_i hlt
        refine List.pairwise_cons.2 ⟨fun a ha => ?_, hs⟩
        rcases List.mem_cons.1 ha with e | ha
        · rw [e]; exact hlt
        · exact nm_trans hlt (h1.1 a ha)
      · rename_i hne hlt
        refine List.pairwise_cons.2 ⟨fun a ha => ?_, ih h1.2⟩
        rcases mem_fset ha with e | ha
        · rw [e]; exact nm_total hne hlt
        · exact h1.1 a ha

theorem mem_fdel {fs : Files} {n : Nm} {a : Nm × List Cell} (h : a ∈ fdel fs n) : a ∈ fs := by
  induction fs with
  | nil => simp [fdel] at h
  | cons b r ih =>
    obtain ⟨m, x⟩ := b
    simp only [fdel] at h
    split at h
    · exact List.mem_cons_of_mem _ h
    · rcases List.mem_cons.1 h with h | h
      · rw [h]; simp
      · exact List.mem_cons_of_mem _ (ih h)

theorem sorted_fdel {fs : Files} (hs : sorted fs) (n : Nm) : sorted (fdel fs n) := by
  induction fs with
  | nil => simp [fdel, sorted]
  | cons b r ih =>
    obtain ⟨m, x⟩ := b
    have h1 := List.pairwise_cons.1 hs
    simp only [fdel]
    split
    · exact h1.2
    · exact List.pairwise_cons.2 ⟨fun a ha => h1.1 a (mem_fdel ha), ih h1.2⟩

theorem fget_fdel_same {fs : Files} (hs : sorted fs) (n : Nm) : fget (fdel fs n) n = none := by
  induction fs with
  | nil => rfl
  | cons b r ih =>
    obtain ⟨m, x⟩ := b
    simp only [fdel]
    split
    · rename_i e; subst e; exact fget_none (fun a ha => sorted_lt hs ha)
    · rename_i hne; simp [fget, hne, ih (sorted_tail hs)]

theorem fget_fdel {fs : Files} (hs : sorted fs) (n k : Nm) : fget (fdel fs n) k = if k = n then none else fget fs k := by
  split
  · rename_i h; rw [h, fget_fdel_same hs]
  · rename_i h; rw [fget_fdel_other _ h]

theorem used_fset {fs : Files} (hs : sorted fs) (n : Nm) (v : List Cell) : used (fset fs n v) + ((fget fs n).map List.length).getD 0 = used fs + v.length := by
  induction fs with
  | nil => simp [fset, fget, used]
  | cons b r ih =>
    obtain ⟨m, x⟩ := b
    simp only [fset]
    split
    · rename_i e; subst e; simp [fget, used]; omega
    · split
      · rename_i hne hlt
        have : fget r n = none := fget_none (fun a ha => nm_trans hlt (sorted_lt hs ha))
        simp [fget, hne, this, used]; omega
      · rename_i hne _
        have := ih (sorted_tail hs)
        simp only [used, List.map_cons, List.sum_cons, fget, hne, if_false] at this ⊢
        omega

theorem used_fdel {fs : Files} (n : Nm) : used (fdel fs n) + ((fget fs n).map List.length).getD 0 = used fs := by
  induction fs with
  | nil => simp [fdel, fget, used]
  | cons b r ih =>
    obtain ⟨m, x⟩ := b
    simp only [fdel]
    split
    · rename_i e; subst e; simp [fget, used]; omega
    · rename_i hne
      simp only [used, List.map_cons, List.sum_cons, fget, hne, if_false] at ih ⊢
      omega

theorem used_le {fs : Files} {n : Nm} {l : List Cell} (h : fget fs n = some l) : l.length ≤ used fs := by
  have := used_fdel (fs := fs) n
  rw [h] at this
  simp at this
  omega

/-- A device. -/
structure Dv where
  most : Nat
  fuse : Int
  files : Files

structure Dv.wf (D : Dv) : Prop where
  most : D.most ≤ 100000
  fuse : -1 ≤ D.fuse
  fuse' : D.fuse ≤ 9223372036854775807
  sorted : sorted D.files
  used : used D.files ≤ D.most
  nm : ∀ a ∈ D.files, a.1.length ≤ 20

theorem nm_fset {fs : Files} (h : ∀ a ∈ fs, a.1.length ≤ 20) {n : Nm} {l : List Cell} (hf : fget fs n = some l) (v : List Cell) : ∀ a ∈ fset fs n v, a.1.length ≤ 20 := fun a ha => by
  rcases mem_fset ha with e | ha
  · rw [e]; exact h (n, l) (fget_mem hf)
  · exact h a ha
theorem nm_fset_new {fs : Files} (h : ∀ a ∈ fs, a.1.length ≤ 20) {n : Nm} (hn : n.length ≤ 20) (v : List Cell) : ∀ a ∈ fset fs n v, a.1.length ≤ 20 := fun a ha => by
  rcases mem_fset ha with e | ha
  · rw [e]; exact hn
  · exact h a ha

def Dv.new (most : Int) : Dv := ⟨(min (max most 0) 100000).toNat, -1, []⟩
def Dv.done (D : Dv) : Dv := { D with fuse := if 0 < D.fuse then D.fuse - 1 else D.fuse }

def Dv.make (D : Dv) (n : Nm) : Dv × Int :=
  if D.fuse = 0 then (D, 8)
  else if n = [] ∨ 20 < n.length then (D, 1)
  else if (fget D.files n).isSome then (D, 9)
  else ({ D with files := fset D.files n [] }.done, 0)

def Dv.thr (D : Dv) (n : Nm) : Int := if D.fuse = 0 then 8 else if (fget D.files n).isSome then 0 else 10

def Dv.drop (D : Dv) (n : Nm) : Dv × Int :=
  if D.thr n ≠ 0 then (D, D.thr n) else ({ D with files := fdel D.files n }.done, 0)

def Cell.write (c : Cell) (s : Sec) : Cell := { c with now := s, nowBad := false, fresh := true }

def Dv.cells (D : Dv) (n : Nm) : List Cell := (fget D.files n).getD []
def Dv.len (D : Dv) (n : Nm) : Nat := (D.cells n).length

def Dv.write (D : Dv) (n : Nm) (k : Int) (s : Sec) : Dv × Int :=
  if D.thr n ≠ 0 then (D, D.thr n)
  else if k < 0 ∨ D.len n < k then (D, 1)
  else if k = D.len n then
    if D.most ≤ Wb.used D.files then (D, 6) else ({ D with files := fset D.files n (D.cells n ++ [Cell.zero.write s]) }.done, 0)
  else ({ D with files := fset D.files n ((D.cells n).modify k.toNat (·.write s)) }.done, 0)

def Dv.read (D : Dv) (n : Nm) (k : Int) : Sec × Int :=
  match fget D.files n with
  | none => (Sec.zero, 10)
  | some l => if k < 0 ∨ l.length ≤ k then (Sec.zero, 1) else
    match l[k.toNat]? with
    | some c => if c.nowBad then (Sec.zero, 7) else (c.now, 0)
    | none => (Sec.zero, 1)

def Dv.sync (D : Dv) (n : Nm) : Dv × Int :=
  if D.thr n ≠ 0 then (D, D.thr n) else ({ D with files := fset D.files n ((D.cells n).map fun (c : Cell) => if c.fresh then c.lasts else c) }.done, 0)

def Dv.setFuse (D : Dv) (n : Int) : Dv := { D with fuse := max n (-1) }

/-- A sector behind a crash, and whether it is there. -/
def fallC (c : Cell) (way : Int) : Cell × Bool :=
  if way = 0 then ({ c with now := c.last, nowBad := c.lastBad }, c.there) else if way = 1 then (c, true) else ({ c with now := Sec.zero, nowBad := true }, true)

def pickWay (p : Int) : Int := p % 3
def lost : Cell := { Cell.zero with nowBad := true }

/-- What a cell is behind a crash, whether it is there, and the picks that are left. -/
def crashC (c : Cell) (pick : List Int) : (Cell × Bool) × List Int :=
  if c.fresh then (fallC c (match pick with | [] => 0 | p :: _ => pickWay p), pick.tail) else ((c, true), pick)

def outC (x : Cell × Bool) : Cell := if x.2 then x.1.lasts else lost.lasts

def crashCells : List Cell → List Int → List (Cell × Bool) × List Int
  | [], pick => ([], pick)
  | c :: r, pick => ((crashC c pick).1 :: (crashCells r (crashC c pick).2).1, (crashCells r (crashC c pick).2).2)

/-- Behind the last one that is there. -/
def endOf : List (Cell × Bool) → Nat
  | [] => 0
  | x :: r => if 0 < endOf r then endOf r + 1 else if x.2 then 1 else 0

def trim (xs : List (Cell × Bool)) : List Cell := (xs.map outC).take (endOf xs)

def crashFiles : Files → List Int → Files × List Int
  | [], pick => ([], pick)
  | (n, l) :: r, pick => ((n, trim (crashCells l pick).1) :: (crashFiles r (crashCells l pick).2).1, (crashFiles r (crashCells l pick).2).2)

theorem crashCells_snoc (l : List Cell) (c : Cell) : ∀ pick, crashCells (l ++ [c]) pick = ((crashCells l pick).1 ++ [(crashC c (crashCells l pick).2).1], (crashC c (crashCells l pick).2).2) := by
  induction l with
  | nil => intro pick; rfl
  | cons a r ih => intro pick; simp [crashCells, ih]
theorem crashCells_len (l : List Cell) : ∀ pick, (crashCells l pick).1.length = l.length := by
  induction l with
  | nil => intro pick; rfl
  | cons a r ih => intro pick; simp [crashCells, ih]
theorem endOf_le (xs : List (Cell × Bool)) : endOf xs ≤ xs.length := by
  induction xs with
  | nil => simp [endOf]
  | cons x r ih => simp only [endOf, List.length_cons]; split <;> (try split) <;> omega
theorem endOf_snoc (xs : List (Cell × Bool)) (x : Cell × Bool) : endOf (xs ++ [x]) = if x.2 then xs.length + 1 else endOf xs := by
  induction xs with
  | nil => simp [endOf]
  | cons y r ih =>
    simp only [List.cons_append, endOf, ih, List.length_cons]
    by_cases h : x.2 = true
    · simp [h]
    · simp [h]
theorem trim_len (xs : List (Cell × Bool)) : (trim xs).length = endOf xs := by
  have := endOf_le xs
  simp [trim]; omega
theorem crashFiles_snoc (A : Files) (n : Nm) (l : List Cell) : ∀ pick, crashFiles (A ++ [(n, l)]) pick =
    ((crashFiles A pick).1 ++ [(n, trim (crashCells l (crashFiles A pick).2).1)], (crashCells l (crashFiles A pick).2).2) := by
  induction A with
  | nil => intro pick; rfl
  | cons a r ih => intro pick; obtain ⟨m, x⟩ := a; simp [crashFiles, ih]
theorem crashFiles_names (A : Files) : ∀ pick, (crashFiles A pick).1.map (·.1) = A.map (·.1) := by
  induction A with
  | nil => intro pick; rfl
  | cons a r ih => intro pick; obtain ⟨m, x⟩ := a; simp [crashFiles, ih]
theorem crashFiles_used (A : Files) : ∀ pick, used (crashFiles A pick).1 ≤ used A := by
  induction A with
  | nil => intro pick; exact Nat.le_refl _
  | cons a r ih =>
    intro pick
    obtain ⟨m, x⟩ := a
    have h1 := ih (crashCells x pick).2
    have h2 := endOf_le (crashCells x pick).1
    rw [crashCells_len] at h2
    simp only [used, crashFiles, List.map_cons, List.sum_cons, trim_len] at h1 ⊢
    omega
theorem sorted_names {A B : Files} (h : A.map (·.1) = B.map (·.1)) (hs : sorted B) : sorted A := by
  have : (A.map (·.1)).Pairwise (· < ·) := by rw [h, List.pairwise_map]; exact hs
  rw [List.pairwise_map] at this
  exact this
/-- A file in the midst. -/
theorem fset_mid {A B : Files} {n : Nm} {l t : List Cell} (h : ∀ a ∈ A, a.1 < n) : fset (A ++ (n, l) :: B) n t = A ++ (n, t) :: B := by
  induction A with
  | nil => simp [fset]
  | cons a r ih =>
    obtain ⟨m, x⟩ := a
    have h1 : m < n := h (m, x) (by simp)
    have h2 : n ≠ m := fun e => nm_irrefl m (by rw [e] at h1; exact h1)
    have h3 : ¬ n < m := fun e => nm_irrefl m (nm_trans h1 e)
    simp [fset, h2, h3, ih (fun a ha => h a (List.mem_cons_of_mem _ ha))]
theorem fget_mid {A B : Files} {n : Nm} {l : List Cell} (h : ∀ a ∈ A, a.1 < n) : fget (A ++ (n, l) :: B) n = some l := by
  induction A with
  | nil => simp [fget]
  | cons a r ih =>
    obtain ⟨m, x⟩ := a
    have h1 : m < n := h (m, x) (by simp)
    have h2 : n ≠ m := fun e => nm_irrefl m (by rw [e] at h1; exact h1)
    simp [fget, h2, ih (fun a ha => h a (List.mem_cons_of_mem _ ha))]
theorem used_app (A B : Files) : used (A ++ B) = used A + used B := by simp [used]

def Dv.crash (D : Dv) (pick : List Int) : Dv := { D with fuse := -1, files := (crashFiles D.files pick).1 }
def Dv.names (D : Dv) : List Nm := D.files.map (·.1)
end Wb

namespace Wb
/-- So many octets of a number. -/
def be : Nat → Nat → List UInt8
  | 0, _ => []
  | n + 1, v => UInt8.ofNat (v / 256 ^ n % 256) :: be n v
/-- Octets as a number. -/
def num (l : List UInt8) : Nat := l.foldl (fun v c => (v * 256 + c.toNat) % 2 ^ 64) 0
theorem be_len (n v : Nat) : (be n v).length = n := by
  induction n with
  | zero => rfl
  | succ n ih => simp [be, ih]
theorem be_get (n v k : Nat) (hk : k < n) : (be n v)[k]? = some (UInt8.ofNat (v / 256 ^ (n - 1 - k) % 256)) := by
  induction n generalizing k with
  | zero => omega
  | succ n ih =>
    cases k with
    | zero => simp [be]
    | succ k =>
      simp only [be, List.getElem?_cons_succ]
      rw [ih k (by omega)]
      congr 5
      omega
theorem be_take (n v k : Nat) (hk : k < n) : (be n v).take (k + 1) = (be n v).take k ++ [UInt8.ofNat (v / 256 ^ (n - 1 - k) % 256)] := by
  rw [List.take_add_one, be_get n v k hk]; rfl
theorem num_foldl (n v : Nat) : ∀ a : Nat, a * 256 ^ n + v % 256 ^ n < 2 ^ 64 → (be n v).foldl (fun v c => (v * 256 + c.toNat) % 2 ^ 64) a = a * 256 ^ n + v % 256 ^ n := by
  induction n with
  | zero => intro a h; simp [be, Nat.mod_one]
  | succ n ih =>
    intro a h
    simp only [be, List.foldl_cons]
    have h1 : (UInt8.ofNat (v / 256 ^ n % 256)).toNat = v / 256 ^ n % 256 := by
      simp
    have h2 : v % 256 ^ (n + 1) = (v / 256 ^ n % 256) * 256 ^ n + v % 256 ^ n := by
      have := Nat.mod_mul (x := v) (a := 256 ^ n) (b := 256)
      rw [Nat.pow_succ, this, Nat.add_comm, Nat.mul_comm]
    have h3 : a * 256 ^ (n + 1) = a * 256 * 256 ^ n := by rw [Nat.pow_succ, Nat.mul_assoc, Nat.mul_comm 256]
    rw [h1]
    have h4 : a * 256 + v / 256 ^ n % 256 < 2 ^ 64 := by
      have h5 : 1 ≤ 256 ^ n := Nat.one_le_iff_ne_zero.2 (by simp)
      have h6 : (a * 256 + v / 256 ^ n % 256) * 1 ≤ (a * 256 + v / 256 ^ n % 256) * 256 ^ n := Nat.mul_le_mul_left _ h5
      rw [h3, h2, ← Nat.add_assoc, ← Nat.add_mul] at h
      omega
    rw [Nat.mod_eq_of_lt h4, ih _ (by rw [Nat.add_mul, Nat.add_assoc, ← h2, ← h3]; exact h), h2, h3, Nat.add_mul]
    omega
theorem num_be (n v : Nat) (h : v < 256 ^ n) (h64 : v < 2 ^ 64) : num (be n v) = v := by
  unfold num
  rw [num_foldl n v 0 (by simp [Nat.mod_eq_of_lt h]; exact h64)]
  simp [Nat.mod_eq_of_lt h]
theorem num_lt (l : List UInt8) : num l < 2 ^ 64 := by
  unfold num
  suffices ∀ (l : List UInt8) (a : Nat), a < 2 ^ 64 → l.foldl (fun v c => (v * 256 + c.toNat) % 2 ^ 64) a < 2 ^ 64 from this l 0 (by decide)
  intro l
  induction l with
  | nil => intro a h; exact h
  | cons c r ih => intro a h; exact ih _ (Nat.mod_lt _ (by decide))
theorem num_snoc (l : List UInt8) (c : UInt8) : num (l ++ [c]) = (num l * 256 + c.toNat) % 2 ^ 64 := by simp [num]
end Wb

namespace Wb
open Go

/-- The octet of a number at a place: waybilllaw7.Sector. -/
def sbyte (n : Int) (i : Nat) : UInt8 := UInt8.ofNat (n / 2 ^ (i % 8) % 256).toNat
theorem sbyte_val (n : Int) (i : Nat) : ((sbyte n i).toNat : Int) = n / 2 ^ (i % 8) % 256 := by
  unfold sbyte
  have h1 : 0 ≤ n / 2 ^ (i % 8) % 256 := Int.emod_nonneg _ (by omega)
  have h2 : n / 2 ^ (i % 8) % 256 < 256 := Int.emod_lt_of_pos _ (by omega)
  generalize n / 2 ^ (i % 8) % 256 = x at *
  simp only [UInt8.toNat_ofNat']
  omega
def sectorUpTo (n : Int) (q : Nat) : Sec := ⟨(List.range 64).map fun i => if i < q then sbyte n i else 0, by simp⟩
def sectorOf (n : Int) : Sec := ⟨(List.range 64).map (sbyte n), by simp⟩
theorem sectorUpTo_zero (n : Int) : sectorUpTo n 0 = Sec.zero := by
  apply Subtype.ext
  simp only [sectorUpTo, Nat.not_lt_zero, if_false]
  rfl
theorem sectorUpTo_all (n : Int) : sectorUpTo n 64 = sectorOf n := by
  apply Subtype.ext
  simp only [sectorUpTo, sectorOf]
  apply List.map_congr_left
  intro i hi
  simp at hi
  simp [hi]
end Wb

namespace Wb
open Go

/-! ### SectFuse -/
def freshCells (a : Nat) : List Cell := (List.range a).map fun (j : Nat) => Cell.zero.write (sectorOf (j : Int))
theorem freshCells_len (a : Nat) : (freshCells a).length = a := by simp [freshCells]
theorem freshCells_succ (a : Nat) : freshCells (a + 1) = freshCells a ++ [Cell.zero.write (sectorOf a)] := by
  simp [freshCells, List.range_succ]

def fuseD (a i : Nat) : Dv := ⟨100, ((a - min i a : Nat) : Int), [([97], freshCells (min i a))]⟩

theorem fuse_start (a : Nat) : (((Dv.new 100).make [97]).1.setFuse a) = fuseD a 0 ∧ ((Dv.new 100).make [97]).2 = 0 := by
  refine ⟨?_, rfl⟩
  simp only [fuseD, Nat.zero_min, Nat.sub_zero]
  have : max (a : Int) (-1) = a := by omega
  simp [Dv.setFuse, this, Dv.make, Dv.new, fget, fset, Dv.done, freshCells]
  rfl

theorem fuse_write (a i : Nat) (ha : a < 32) : (fuseD a i).write [97] i (sectorOf i) = (fuseD a (i + 1), if i < a then 0 else 8) := by
  by_cases h : i < a
  · have h1 : min i a = i := by omega
    have h2 : min (i + 1) a = i + 1 := by omega
    have h3 : ((a - i : Nat) : Int) ≠ 0 := by omega
    simp only [Dv.write, Dv.thr, Dv.len, Dv.cells, fuseD, fget, h1, h2, h3, if_true, if_false, Option.isSome_some, Option.getD_some, freshCells_len, ne_eq, not_true_eq_false]
    rw [if_neg (by omega), if_pos h]
    simp only [used, List.map_cons, List.map_nil, List.sum_cons, List.sum_nil, freshCells_len]
    rw [if_neg (by omega)]
    simp only [fset, if_true, Dv.done, freshCells_succ]
    rw [if_pos (by omega)]
    simp
    omega
  · have h1 : min i a = a := by omega
    have h2 : min (i + 1) a = a := by omega
    simp [Dv.write, Dv.thr, fuseD, h1, h2, h]

theorem fuse_sync (a i : Nat) (h : i < a) : ((fuseD a i).sync [97]).2 = 0 := by
  have h1 : min i a = i := by omega
  have h3 : ((a - i : Nat) : Int) ≠ 0 := by omega
  have ht : (fuseD a i).thr [97] = 0 := by simp only [Dv.thr, fuseD, fget, h1, h3, if_false]; rfl
  unfold Dv.sync
  rw [if_neg (by rw [ht]; simp)]

theorem fuse_out (a i : Nat) (h : a ≤ i) : (fuseD a i).sync [97] = (fuseD a i, 8) ∧ (fuseD a i).make [98] = (fuseD a i, 8) ∧ (fuseD a i).drop [97] = (fuseD a i, 8) := by
  have h1 : min i a = a := by omega
  simp [Dv.sync, Dv.make, Dv.drop, Dv.thr, fuseD, h1]

theorem fuse_len (a i : Nat) : (fuseD a i).len [97] = min i a := by simp [Dv.len, Dv.cells, fuseD, fget, freshCells_len]

theorem crash_ones (a : Nat) : ∀ m, a ≤ m → ∀ l : List Cell, l.length = a → (∀ c ∈ l, c.fresh = true) → (crashCells l (List.replicate m 1)).1 = l.map (fun c => (c, true)) := by
  intro m hm l
  induction l generalizing a m with
  | nil => intro _ _; rfl
  | cons c r ih =>
    intro hl hf
    obtain ⟨m, rfl⟩ : ∃ q, m = q + 1 := ⟨m - 1, by simp at hl; omega⟩
    have hc : c.fresh = true := hf c (by simp)
    have h1 : crashC c (List.replicate (m + 1) 1) = ((c, true), List.replicate m 1) := by
      simp [crashC, hc, List.replicate_succ, pickWay, fallC]
    simp only [crashCells, h1, List.map_cons]
    rw [ih r.length m (by simp at hl; omega) rfl (fun c hc => hf c (List.mem_cons_of_mem _ hc))]

theorem endOf_all {xs : List (Cell × Bool)} (h : ∀ x ∈ xs, x.2 = true) : endOf xs = xs.length := by
  induction xs with
  | nil => rfl
  | cons x r ih =>
    have h1 := ih (fun y hy => h y (List.mem_cons_of_mem _ hy))
    have h2 := h x (by simp)
    simp only [endOf, h1, h2, List.length_cons, if_true]
    split <;> omega

theorem fuse_crash (a i : Nat) (ha : a < 32) (h : a ≤ i) : ((fuseD a i).crash (List.replicate 32 1)).len [97] = a ∧ (((fuseD a i).crash (List.replicate 32 1)).make [98]).2 = 0 := by
  have h1 : min i a = a := by omega
  have hx := crash_ones a 32 (by omega) (freshCells a) (freshCells_len a) (fun c hc => by
    simp only [freshCells, List.mem_map] at hc
    obtain ⟨j, _, rfl⟩ := hc
    rfl)
  have he : (trim (crashCells (freshCells a) (List.replicate 32 1)).1).length = a := by
    rw [trim_len, hx, endOf_all (by simp), List.length_map, freshCells_len]
  generalize List.replicate 32 (1 : Int) = p at *
  constructor
  · simp [Dv.len, Dv.cells, Dv.crash, fuseD, h1, crashFiles, fget, he]
  · simp [Dv.make, Dv.crash, fuseD, crashFiles, fget]
end Wb

namespace Wb
open Go

def bCells (a nb : Nat) : List Cell := (List.range nb).map fun (j : Nat) => Cell.zero.write (sectorOf ((a + j : Nat) : Int))
theorem bCells_len (a nb : Nat) : (bCells a nb).length = nb := by simp [bCells]
theorem bCells_succ (a nb : Nat) : bCells a (nb + 1) = bCells a nb ++ [Cell.zero.write (sectorOf ((a + nb : Nat) : Int))] := by
  simp [bCells, List.range_succ]

def twoF (x y : List Cell) : Files := [([97], x), ([98], y)]
theorem two_a (x y : List Cell) : fget (twoF x y) [97] = some x := rfl
theorem two_b (x y : List Cell) : fget (twoF x y) [98] = some y := rfl
theorem two_sa (x y v : List Cell) : fset (twoF x y) [97] v = twoF v y := rfl
theorem two_sb (x y v : List Cell) : fset (twoF x y) [98] v = twoF x v := rfl
theorem two_used (x y : List Cell) : used (twoF x y) = x.length + y.length := by simp [used, twoF]
theorem two_start (m : Nat) (hm : m < 32) : ∃ D1, (Dv.new m).make [97] = (D1, 0) ∧ D1.make [98] = ((⟨m, -1, twoF [] []⟩ : Dv), 0) := by
  have h : Dv.new m = ⟨m, -1, []⟩ := by
    have : (min (max (m : Int) 0) 100000).toNat = m := by omega
    unfold Dv.new
    rw [this]
  rw [h]
  exact ⟨_, rfl, rfl⟩

def fullD (a m i : Nat) : Dv := ⟨m, -1, twoF (freshCells (min (min i a) m)) (bCells a (min (i - a) (m - a)))⟩

theorem write_a (m : Nat) (x y : List Cell) (k : Nat) (s : Sec) : (⟨m, -1, twoF x y⟩ : Dv).write [97] k s =
    if x.length < k then ((⟨m, -1, twoF x y⟩ : Dv), 1) else if k = x.length then (if m ≤ x.length + y.length then ((⟨m, -1, twoF x y⟩ : Dv), 6) else ((⟨m, -1, twoF (x ++ [Cell.zero.write s]) y⟩ : Dv), 0))
    else ((⟨m, -1, twoF (x.modify k (·.write s)) y⟩ : Dv), 0) := by
  have ht : (⟨m, -1, twoF x y⟩ : Dv).thr [97] = 0 := rfl
  have hc : (⟨m, -1, twoF x y⟩ : Dv).cells [97] = x := rfl
  unfold Dv.write
  rw [if_neg (by rw [ht]; simp)]
  simp only [Dv.len, hc, two_used, two_sa, Int.toNat_natCast]
  by_cases h1 : x.length < k
  · rw [if_pos (by omega), if_pos h1]
  · rw [if_neg (by omega), if_neg h1]
    by_cases h2 : k = x.length
    · rw [if_pos (by omega), if_pos h2]; rfl
    · rw [if_neg (by omega), if_neg h2]; rfl
theorem write_b (m : Nat) (x y : List Cell) (k : Nat) (s : Sec) : (⟨m, -1, twoF x y⟩ : Dv).write [98] k s =
    if y.length < k then ((⟨m, -1, twoF x y⟩ : Dv), 1) else if k = y.length then (if m ≤ x.length + y.length then ((⟨m, -1, twoF x y⟩ : Dv), 6) else ((⟨m, -1, twoF x (y ++ [Cell.zero.write s])⟩ : Dv), 0))
    else ((⟨m, -1, twoF x (y.modify k (·.write s))⟩ : Dv), 0) := by
  have ht : (⟨m, -1, twoF x y⟩ : Dv).thr [98] = 0 := rfl
  have hc : (⟨m, -1, twoF x y⟩ : Dv).cells [98] = y := rfl
  unfold Dv.write
  rw [if_neg (by rw [ht]; simp)]
  simp only [Dv.len, hc, two_used, two_sb, Int.toNat_natCast]
  by_cases h1 : y.length < k
  · rw [if_pos (by omega), if_pos h1]
  · rw [if_neg (by omega), if_neg h1]
    by_cases h2 : k = y.length
    · rw [if_pos (by omega), if_pos h2]; rfl
    · rw [if_neg (by omega), if_neg h2]; rfl

theorem full_a_ok (a m i : Nat) (h : i < a) (hm : i < m) : (fullD a m i).write [97] i (sectorOf i) = (fullD a m (i + 1), 0) := by
  have h1 : min (min i a) m = i := by omega
  have h2 : min (min (i + 1) a) m = i + 1 := by omega
  have h3 : min (i - a) (m - a) = 0 := by omega
  have h4 : min (i + 1 - a) (m - a) = 0 := by omega
  unfold fullD
  rw [h1, h2, h3, h4, write_a, freshCells_len, bCells_len, if_neg (by omega), if_pos rfl, if_neg (by omega), freshCells_succ]
theorem full_a_no (a m i : Nat) (h : i < a) (hm : m ≤ i) : (fullD a m i).write [97] i (sectorOf i) = (fullD a m (i + 1), if m < i then 1 else 6) := by
  have h1 : min (min i a) m = m := by omega
  have h2 : min (min (i + 1) a) m = m := by omega
  have h3 : min (i - a) (m - a) = 0 := by omega
  have h4 : min (i + 1 - a) (m - a) = 0 := by omega
  unfold fullD
  rw [h1, h2, h3, h4, write_a, freshCells_len, bCells_len]
  by_cases h5 : m < i
  · rw [if_pos h5, if_pos h5]
  · rw [if_neg h5, if_pos (by omega), if_pos (by omega), if_neg h5]
theorem full_b_ok (a m i : Nat) (h : a ≤ i) (hm : i < m) : (fullD a m i).write [98] (i - a : Nat) (sectorOf i) = (fullD a m (i + 1), 0) := by
  have h1 : min (min i a) m = a := by omega
  have h2 : min (min (i + 1) a) m = a := by omega
  have h3 : min (i - a) (m - a) = i - a := by omega
  have h4 : min (i + 1 - a) (m - a) = (i - a) + 1 := by omega
  unfold fullD
  rw [h1, h2, h3, h4, write_b, freshCells_len, bCells_len, if_neg (by omega), if_pos rfl, if_neg (by omega), bCells_succ, show a + (i - a) = i by omega]
theorem full_b_no (a m i : Nat) (h : a ≤ i) (hm : m ≤ i) : (fullD a m i).write [98] (i - a : Nat) (sectorOf i) = (fullD a m (i + 1), if (fullD a m (i + 1)).len [98] < i - a then 1 else 6) := by
  have h1 : min (min (i + 1) a) m = min (min i a) m := by omega
  have h2 : min (i + 1 - a) (m - a) = min (i - a) (m - a) := by omega
  have h5 : (fullD a m (i + 1)).len [98] = min (i + 1 - a) (m - a) := by
    show (bCells a (min (i + 1 - a) (m - a))).length = _
    rw [bCells_len]
  rw [h5, h2]
  unfold fullD
  rw [h1, h2, write_b, freshCells_len, bCells_len]
  by_cases h6 : min (i - a) (m - a) < i - a
  · rw [if_pos h6, if_pos h6]
  · rw [if_neg h6, if_pos (by omega), if_pos (by omega), if_neg h6]

theorem full_lens (a m i : Nat) : (fullD a m i).len [97] = min (min i a) m ∧ (fullD a m i).len [98] = min (i - a) (m - a) ∧ used (fullD a m i).files = min (min i a) m + min (i - a) (m - a) := by
  refine ⟨?_, ?_, ?_⟩
  · show (freshCells _).length = _; rw [freshCells_len]
  · show (bCells _ _).length = _; rw [bCells_len]
  · show used (twoF _ _) = _; rw [two_used, freshCells_len, bCells_len]

theorem full_again (a m i : Nat) (h : 0 < min (min i a) m) (s : Sec) : ∃ x, x.length = min (min i a) m ∧ (fullD a m i).write [97] 0 s = ((⟨m, -1, twoF x (bCells a (min (i - a) (m - a)))⟩ : Dv), 0) := by
  refine ⟨(freshCells (min (min i a) m)).modify 0 (·.write s), by simp [freshCells_len], ?_⟩
  have := write_a m (freshCells (min (min i a) m)) (bCells a (min (i - a) (m - a))) 0 s
  rw [freshCells_len, if_neg (by omega), if_neg (by omega)] at this
  exact this
theorem drop_a (m : Nat) (x y : List Cell) : ∃ D, (⟨m, -1, twoF x y⟩ : Dv).drop [97] = (D, 0) ∧ used D.files = y.length ∧ D.len [98] = y.length :=
  ⟨_, rfl, by simp [twoF, fdel, used, Dv.done], rfl⟩
end Wb

namespace Wb
open Go

def oneF (m : Nat) (n : Nm) (l : List Cell) : Dv := ⟨m, -1, [(n, l)]⟩
theorem one_get (n : Nm) (l : List Cell) : fget [(n, l)] n = some l := by simp [fget]
theorem one_set (n : Nm) (l v : List Cell) : fset [(n, l)] n v = [(n, v)] := by simp [fset]
theorem one_used (n : Nm) (l : List Cell) : used [(n, l)] = l.length := by simp [used]
theorem one_thr (m : Nat) (n : Nm) (l : List Cell) : (oneF m n l).thr n = 0 := by simp [oneF, Dv.thr, one_get]
theorem one_cells (m : Nat) (n : Nm) (l : List Cell) : (oneF m n l).cells n = l := by simp [oneF, Dv.cells, one_get]
theorem one_len (m : Nat) (n : Nm) (l : List Cell) : (oneF m n l).len n = l.length := by simp [Dv.len, one_cells]
theorem one_done (m : Nat) (fs : Files) : (⟨m, -1, fs⟩ : Dv).done = ⟨m, -1, fs⟩ := rfl
theorem one_start (m : Nat) (n : Nm) (hm : m ≤ 100000) (h : n ≠ [] ∧ n.length ≤ 20) : (Dv.new m).make n = (oneF m n [], 0) := by
  have h1 : Dv.new m = ⟨m, -1, []⟩ := by
    have : (min (max (m : Int) 0) 100000).toNat = m := by omega
    unfold Dv.new; rw [this]
  rw [h1]
  unfold Dv.make
  rw [if_neg (show ¬ (-1 : Int) = 0 by decide), if_neg (by rintro (e | e); exact h.1 e; omega)]
  rfl
theorem one_append (m : Nat) (n : Nm) (l : List Cell) (s : Sec) (h : l.length < m) : (oneF m n l).write n l.length s = (oneF m n (l ++ [Cell.zero.write s]), 0) := by
  unfold Dv.write
  rw [if_neg (by rw [one_thr]; simp), one_len, one_cells, if_neg (by omega), if_pos rfl]
  simp only [oneF, one_used, one_set]
  rw [if_neg (by omega)]; rfl
theorem one_over (m : Nat) (n : Nm) (l : List Cell) (k : Nat) (s : Sec) (h : k < l.length) : (oneF m n l).write n k s = (oneF m n (l.modify k (·.write s)), 0) := by
  unfold Dv.write
  rw [if_neg (by rw [one_thr]; simp), one_len, one_cells, if_neg (by omega), if_neg (by omega), Int.toNat_natCast]
  simp only [oneF, one_set]; rfl
theorem one_read (m : Nat) (n : Nm) (l : List Cell) (k : Nat) (c : Cell) (h : l[k]? = some c) : (oneF m n l).read n k = if c.nowBad then (Sec.zero, 7) else (c.now, 0) := by
  have hk := (List.getElem?_eq_some_iff.1 h).1
  have hg : fget (oneF m n l).files n = some l := one_get n l
  unfold Dv.read
  rw [hg]
  simp only [Int.toNat_natCast, h]
  rw [if_neg (by omega)]
theorem one_sync (m : Nat) (n : Nm) (l : List Cell) : (oneF m n l).sync n = (oneF m n (l.map fun c => if c.fresh then c.lasts else c), 0) := by
  unfold Dv.sync
  rw [if_neg (by rw [one_thr]; simp), one_cells]
  simp only [oneF, one_set]; rfl
theorem one_crash (m : Nat) (n : Nm) (l : List Cell) (pick : List Int) : (oneF m n l).crash pick = oneF m n (trim (crashCells l pick).1) := rfl

/-! ### what a crash makes of each cell -/
def freshN (l : List Cell) : Nat := (l.filter (·.fresh)).length
theorem crashCells_rest (l : List Cell) : ∀ pick, (crashCells l pick).2 = pick.drop (freshN l) := by
  induction l with
  | nil => intro pick; rfl
  | cons c r ih =>
    intro pick
    simp only [crashCells, ih]
    cases hc : c.fresh
    · simp [crashC, hc, freshN]
    · simp [crashC, hc, freshN, Nat.add_comm]
theorem crashCells_get (l : List Cell) : ∀ pick (k : Nat), (crashCells l pick).1[k]? = l[k]?.map fun c => (crashC c (pick.drop (freshN (l.take k)))).1 := by
  induction l with
  | nil => intro pick k; simp [crashCells]
  | cons c r ih =>
    intro pick k
    cases k with
    | zero => simp [crashCells, freshN]
    | succ k =>
      simp only [crashCells, List.getElem?_cons_succ, ih, List.take_succ_cons]
      cases hc : c.fresh
      · simp [crashC, hc, freshN]
      · simp [crashC, hc, freshN, Nat.add_comm]
theorem trim_get (xs : List (Cell × Bool)) (k : Nat) (h : k < endOf xs) : (trim xs)[k]? = xs[k]?.map outC := by
  unfold trim
  rw [List.getElem?_take_of_lt h, List.getElem?_map]

/-! ### SectEnds -/
theorem freshOk : ∀ q, freshN (freshCells q) = q := by
  intro q
  have : (freshCells q).filter (·.fresh) = freshCells q := by
    rw [List.filter_eq_self]
    intro c hc
    simp only [freshCells, List.mem_map] at hc
    obtain ⟨j, _, rfl⟩ := hc
    rfl
  simp [freshN, this, freshCells_len]
theorem fresh_take (q k : Nat) (h : k ≤ q) : (freshCells q).take k = freshCells k := by
  simp only [freshCells, ← List.map_take, List.take_range, Nat.min_eq_left h]
theorem fresh_get (q k : Nat) (h : k < q) : (freshCells q)[k]? = some (Cell.zero.write (sectorOf (k : Int))) := by
  simp [freshCells, h]
def lastOf (xs : List Int) (q : Nat) : Nat := endOf (crashCells (freshCells q) xs).1
theorem lastOf_zero (xs : List Int) : lastOf xs 0 = 0 := rfl
theorem way_cases (x : Int) : pickWay x = 0 ∨ pickWay x = 1 ∨ pickWay x = 2 := by unfold pickWay; omega
theorem lastOf_succ (xs : List Int) (q : Nat) (x : Int) (hx : xs[q]? = some x) : lastOf xs (q + 1) = if pickWay x ≠ 0 then q + 1 else lastOf xs q := by
  unfold lastOf
  rw [freshCells_succ, crashCells_snoc, endOf_snoc, crashCells_rest, freshOk, crashCells_len, freshCells_len]
  have hd : xs.drop q = x :: xs.drop (q + 1) := by
    obtain ⟨h1, rfl⟩ := List.getElem?_eq_some_iff.1 hx
    exact List.drop_eq_getElem_cons h1
  rw [hd]
  have : (crashC (Cell.zero.write (sectorOf (q : Int))) (x :: xs.drop (q + 1))).1.2 = decide (pickWay x ≠ 0) := by
    rcases way_cases x with e | e | e <;> simp [crashC, Cell.write, fallC, e, Cell.zero]
  rw [this]
  by_cases h : pickWay x = 0 <;> simp [h]
theorem lastOf_le (xs : List Int) (q : Nat) : lastOf xs q ≤ q := by
  have := endOf_le (crashCells (freshCells q) xs).1
  rwa [crashCells_len, freshCells_len] at this

def EndsRel (D : Dv) (xs : List Int) (last i : Nat) : Prop :=
  ∃ l : List Cell, D = oneF 50 [102] l ∧ l.length = last ∧ ∀ j, i ≤ j → j < last → ∃ c x, l[j]? = some c ∧ xs[j]? = some x ∧ (pickWay x = 1 → c.nowBad = false ∧ c.now = sectorOf j) ∧ (pickWay x ≠ 1 → c.nowBad = true)
theorem ends_start (xs : List Int) (n : Nat) (hn : n ≤ xs.length) : EndsRel ((oneF 50 [102] (freshCells n)).crash xs) xs (lastOf xs n) 0 := by
  rw [one_crash]
  refine ⟨_, rfl, trim_len _, fun j _ hj => ?_⟩
  have hjn : j < n := Nat.lt_of_lt_of_le hj (lastOf_le xs n)
  obtain ⟨x, hx⟩ : ∃ x, xs[j]? = some x := ⟨xs[j]'(by omega), List.getElem?_eq_getElem _⟩
  have hd : xs.drop j = x :: xs.drop (j + 1) := by
    obtain ⟨h1, rfl⟩ := List.getElem?_eq_some_iff.1 hx
    exact List.drop_eq_getElem_cons h1
  refine ⟨outC (crashC (Cell.zero.write (sectorOf (j : Int))) (x :: xs.drop (j + 1))).1, x, ?_, hx, ?_⟩
  · rw [trim_get _ _ hj, crashCells_get, fresh_get _ _ hjn, fresh_take _ _ (by omega), freshOk, hd]
    simp only [Option.map_some]
  · rcases way_cases x with e | e | e <;> simp [crashC, Cell.write, fallC, e, Cell.zero, outC, Cell.lasts, lost]
theorem ends_len {D : Dv} {xs : List Int} {last i : Nat} (h : EndsRel D xs last i) : D.len [102] = last := by
  obtain ⟨l, rfl, hl, _⟩ := h
  rw [one_len, hl]
theorem ends_good {D : Dv} {xs : List Int} {last i : Nat} {x : Int} (h : EndsRel D xs last i) (hi : i < last) (hx : xs[i]? = some x) (hw : pickWay x = 1) : D.read [102] i = (sectorOf i, 0) ∧ EndsRel D xs last (i + 1) := by
  obtain ⟨l, rfl, hl, hc⟩ := h
  obtain ⟨c, x', h1, h2, h3, _⟩ := hc i (Nat.le_refl _) hi
  rw [hx] at h2; cases h2
  obtain ⟨h5, h6⟩ := h3 hw
  refine ⟨by rw [one_read _ _ _ _ c h1, h5, h6]; rfl, l, rfl, hl, fun j hj => hc j (by omega)⟩
theorem ends_bad {D : Dv} {xs : List Int} {last i : Nat} {x : Int} (h : EndsRel D xs last i) (hi : i < last) (hx : xs[i]? = some x) (hw : pickWay x ≠ 1) :
    ∃ D', D.read [102] i = (Sec.zero, 7) ∧ D.write [102] i (sectorOf (i + 9)) = (D', 0) ∧ D'.read [102] i = (sectorOf (i + 9), 0) ∧ EndsRel D' xs last (i + 1) := by
  obtain ⟨l, rfl, hl, hc⟩ := h
  obtain ⟨c, x', h1, h2, _, h4⟩ := hc i (Nat.le_refl _) hi
  rw [hx] at h2; cases h2
  refine ⟨oneF 50 [102] (l.modify i (·.write (sectorOf (i + 9)))), by rw [one_read _ _ _ _ c h1, h4 hw]; rfl, one_over _ _ _ _ _ (by omega), ?_, _, rfl, by simp [hl], fun j hj hj2 => ?_⟩
  · rw [one_read _ _ _ _ (c.write (sectorOf (i + 9))) (by rw [List.getElem?_modify, h1]; simp)]
    rfl
  · obtain ⟨c', x', k1, k2⟩ := hc j (by omega) hj2
    refine ⟨c', x', ?_, k2⟩
    rw [List.getElem?_modify, k1]; simp only [Option.map_eq_map, Option.map_some]; rw [if_neg (by omega)]
end Wb

namespace Wb
open Go

def syncCell0 (k : Nat) : Cell := (Cell.zero.write (sectorOf (k : Int))).lasts
def ovCell (n : Nat) (ov : List Bool) (k : Nat) : Cell :=
  if k < n then (if ov.getD k false then (syncCell0 k).write (sectorOf (100 + (k : Int))) else syncCell0 k) else Cell.zero.write (sectorOf (100 + (k : Int)))
def ovL (n : Nat) (ov : List Bool) (long : Nat) : List Cell := (List.range long).map (ovCell n ov)
theorem ovL_len (n : Nat) (ov : List Bool) (long : Nat) : (ovL n ov long).length = long := by simp [ovL]
theorem ovL_get (n : Nat) (ov : List Bool) (long k : Nat) (h : k < long) : (ovL n ov long)[k]? = some (ovCell n ov k) := by simp [ovL, h]
/-- What is over is over behind the first n. -/
def OvOk (n : Nat) (ov : List Bool) (long : Nat) : Prop := n ≤ long ∧ long ≤ 100 ∧ ∀ k, n ≤ k → k < long → ov.getD k false = true

theorem syncs_start (n : Nat) (hn : n ≤ 16) (z : Nat) : (oneF 100 [97] (freshCells n)).sync [97] = (oneF 100 [97] (ovL n (List.replicate z false) n), 0) ∧ OvOk n (List.replicate z false) n := by
  refine ⟨?_, Nat.le_refl _, by omega, fun k h1 h2 => by omega⟩
  rw [one_sync]
  congr 2
  apply List.ext_getElem?
  intro k
  by_cases hk : k < n
  · rw [ovL_get _ _ _ _ hk, List.getElem?_map, fresh_get _ _ hk]
    have : (List.replicate z false).getD k false = false := by
      rw [List.getD_eq_getElem?_getD, List.getElem?_replicate]; split <;> rfl
    simp only [ovCell, hk, this, if_true, Option.map_some]
    rfl
  · rw [List.getElem?_eq_none (by simp [freshCells_len]; omega), List.getElem?_eq_none (by rw [ovL_len]; omega)]

theorem getD_set (ov : List Bool) (k j : Nat) (hk : k < ov.length) : (ov.set k true).getD j false = if j = k then true else ov.getD j false := by
  simp only [List.getD_eq_getElem?_getD, List.getElem?_set]
  by_cases h : k = j
  · subst h; simp [hk]
  · simp [h, Ne.symm h]

theorem write_write (c : Cell) (s : Sec) : (c.write s).write s = c.write s := rfl

theorem syncs_write (n : Nat) (ov : List Bool) (long k : Nat) (h : OvOk n ov long) (hl : long < 100) (hk : k ≤ long) (hov : k < ov.length) :
    (oneF 100 [97] (ovL n ov long)).write [97] k (sectorOf (100 + (k : Int))) = (oneF 100 [97] (ovL n (ov.set k true) (max long (k + 1))), 0) ∧ OvOk n (ov.set k true) (max long (k + 1)) := by
  obtain ⟨h1, h2, h3⟩ := h
  refine ⟨?_, by omega, by omega, fun j hj hj2 => ?_⟩
  · by_cases hkl : k = long
    · subst hkl
      have := one_append 100 [97] (ovL n ov k) (sectorOf (100 + (k : Int))) (by rw [ovL_len]; exact hl)
      rw [ovL_len] at this
      rw [this, show max k (k + 1) = k + 1 by omega]
      congr 2
      apply List.ext_getElem?
      intro j
      rcases Nat.lt_trichotomy j k with hj | rfl | hj
      · rw [List.getElem?_append_left (by rw [ovL_len]; exact hj), ovL_get _ _ _ _ hj, ovL_get _ _ _ _ (by omega)]
        unfold ovCell
        rw [getD_set _ _ _ hov, if_neg (show ¬ j = k by omega)]
      · rw [List.getElem?_append_right (by rw [ovL_len]; omega), ovL_len, ovL_get _ _ _ _ (by omega)]
        simp only [Nat.sub_self, List.getElem?_cons_zero]
        unfold ovCell
        rw [if_neg (by omega)]
      · rw [List.getElem?_eq_none (by simp [ovL_len]; omega), List.getElem?_eq_none (by rw [ovL_len]; omega)]
    · have hk2 : k < long := by omega
      rw [one_over _ _ _ _ _ (by rw [ovL_len]; exact hk2), show max long (k + 1) = long by omega]
      congr 2
      apply List.ext_getElem?
      intro j
      rw [List.getElem?_modify]
      by_cases hj : j < long
      · rw [ovL_get _ _ _ _ hj, ovL_get _ _ _ _ hj]
        simp only [Option.map_eq_map, Option.map_some, Option.some.injEq]
        unfold ovCell
        rw [getD_set _ _ _ hov]
        by_cases hjk : k = j
        · subst hjk
          simp only [if_true]
          by_cases hkn : k < n
          · simp only [hkn, if_true]
            cases ov.getD k false <;> rfl
          · simp only [hkn, if_false]; rfl
        · rw [if_neg hjk]
          simp only [show (j = k) = False from propext ⟨fun e => hjk e.symm, False.elim⟩, if_false]
      · rw [List.getElem?_eq_none (by rw [ovL_len]; omega), List.getElem?_eq_none (by rw [ovL_len]; omega)]; rfl
  · rw [getD_set _ _ _ hov]
    split
    · rfl
    · exact h3 j hj (by omega)
theorem endOf_true (xs : List (Cell × Bool)) (k : Nat) (x : Cell × Bool) (h : xs[k]? = some x) (hx : x.2 = true) : k < endOf xs := by
  induction xs generalizing k with
  | nil => simp at h
  | cons y r ih =>
    cases k with
    | zero =>
      simp only [List.getElem?_cons_zero, Option.some.injEq] at h
      subst h
      simp only [endOf, hx, if_true]
      split <;> omega
    | succ k =>
      simp only [List.getElem?_cons_succ] at h
      have := ih k h
      simp only [endOf]
      rw [if_pos (by omega)]
      omega

theorem crashC_way (c : Cell) (p : List Int) (hc : c.fresh = true) : ∃ x : Int, (x = 0 ∨ x = 1 ∨ x = 2) ∧ (crashC c p).1 = fallC c x := by
  unfold crashC
  rw [if_pos hc]
  cases p with
  | nil => exact ⟨0, .inl rfl, rfl⟩
  | cons y r => exact ⟨pickWay y, way_cases y, rfl⟩

/-- What a sector reads behind the crash. -/
def SyncsSaid (n : Nat) (ov : List Bool) (k : Nat) (r : Sec × Int) : Prop :=
  (ov.getD k false = false ∧ k < n ∧ r = (sectorOf (k : Int), 0)) ∨
  (ov.getD k false = true ∧ (r = (Sec.zero, 7) ∨ r = (sectorOf (100 + (k : Int)), 0) ∨ (k < n ∧ r = (sectorOf (k : Int), 0))))

theorem syncs_crash (n : Nat) (ov : List Bool) (long : Nat) (pick : List Int) (h : OvOk n ov long) : ∃ D, (oneF 100 [97] (ovL n ov long)).crash pick = D ∧ n ≤ D.len [97] ∧ D.len [97] ≤ long ∧
    ∀ k : Nat, k < D.len [97] → SyncsSaid n ov k (D.read [97] k) := by
  obtain ⟨h1, h2, h3⟩ := h
  refine ⟨_, one_crash _ _ _ _, ?_⟩
  rw [one_len, trim_len]
  have hle := endOf_le (crashCells (ovL n ov long) pick).1
  rw [crashCells_len, ovL_len] at hle
  refine ⟨?_, hle, fun k hk => ?_⟩
  · by_cases h0 : n = 0
    · omega
    · have hk : n - 1 < long := by omega
      have hg := crashCells_get (ovL n ov long) pick (n - 1)
      rw [ovL_get _ _ _ _ hk] at hg
      have := endOf_true _ _ _ hg (by
        generalize pick.drop _ = p
        unfold ovCell
        rw [if_pos (by omega)]
        cases ov.getD (n - 1) false
        · rfl
        · simp only [if_true, crashC, Cell.write, fallC, syncCell0, Cell.lasts]
          cases p <;> simp <;> (split <;> (try rfl) <;> (split <;> rfl)))
      omega
  · have hkl : k < long := by omega
    have hg := crashCells_get (ovL n ov long) pick k
    rw [ovL_get _ _ _ _ hkl] at hg
    have ht := trim_get _ _ hk
    rw [hg] at ht
    rw [one_read _ _ _ _ _ ht]
    generalize pick.drop _ = p
    unfold SyncsSaid ovCell
    cases ho : ov.getD k false with
    | false =>
      have hkn : k < n := by
        rcases Nat.lt_or_ge k n with h | h
        · exact h
        · rw [h3 k h hkl] at ho; cases ho
      left
      refine ⟨rfl, hkn, ?_⟩
      simp only [hkn, if_true]
      rfl
    | true =>
      right
      refine ⟨rfl, ?_⟩
      by_cases hkn : k < n
      · simp only [hkn, if_true, true_and]
        obtain ⟨x, hx3, hx⟩ := crashC_way ((syncCell0 k).write (sectorOf (100 + (k : Int)))) p rfl
        rw [hx]
        rcases hx3 with e | e | e <;> rw [e]
        · right; right; rfl
        · right; left; rfl
        · left; rfl
      · simp only [hkn, if_false, false_and, or_false]
        obtain ⟨x, hx3, hx⟩ := crashC_way (Cell.zero.write (sectorOf (100 + (k : Int)))) p rfl
        rw [hx]
        rcases hx3 with e | e | e <;> rw [e]
        · left; rfl
        · right; rfl
        · left; rfl
end Wb

namespace Wb
open Go

def DropsOk (D : Dv) (i : Nat) : Prop := D.fuse = -1 ∧ sorted D.files ∧ (∀ a ∈ D.files, a.2 = []) ∧ D.files.length ≤ i

theorem fset_len (fs : Files) (n : Nm) (v : List Cell) : (fset fs n v).length ≤ fs.length + 1 := by
  induction fs with
  | nil => simp [fset]
  | cons a r ih =>
    obtain ⟨m, x⟩ := a
    simp only [fset]
    split
    · simp
    · split <;> simp; omega
theorem fdel_len (fs : Files) (n : Nm) : (fdel fs n).length ≤ fs.length := by
  induction fs with
  | nil => simp [fdel]
  | cons a r ih =>
    obtain ⟨m, x⟩ := a
    simp only [fdel]
    split <;> simp; omega

theorem drops_start (m : Int) (i : Nat) : DropsOk (Dv.new m) i := ⟨rfl, List.Pairwise.nil, by simp [Dv.new], by simp [Dv.new]⟩
theorem DropsOk.mono {D : Dv} {i j : Nat} (h : DropsOk D i) (hj : i ≤ j) : DropsOk D j := ⟨h.1, h.2.1, h.2.2.1, Nat.le_trans h.2.2.2 hj⟩

theorem drops_make_bad {D : Dv} {i : Nat} (h : DropsOk D i) {n : Nm} (hn : n = [] ∨ 20 < n.length) : D.make n = (D, 1) := by
  simp [Dv.make, h.1, hn]
theorem drops_make_there {D : Dv} {i : Nat} (h : DropsOk D i) {n : Nm} (hn : ¬ (n = [] ∨ 20 < n.length)) (hf : (fget D.files n).isSome = true) : D.make n = (D, 9) := by
  simp [Dv.make, h.1, hn, hf]
theorem drops_make_new {D : Dv} {i : Nat} (h : DropsOk D i) {n : Nm} (hn : ¬ (n = [] ∨ 20 < n.length)) (hf : (fget D.files n).isSome = false) :
    ∃ D', D.make n = (D', 0) ∧ DropsOk D' (i + 1) ∧ D'.files = fset D.files n [] := by
  refine ⟨_, by simp [Dv.make, h.1, hn, hf]; rfl, ⟨by simp [Dv.done], sorted_fset h.2.1 _ _, fun a ha => ?_, by have := fset_len D.files n []; have := h.2.2.2; simp [Dv.done]; omega⟩, rfl⟩
  rcases mem_fset ha with e | ha
  · rw [e]
  · exact h.2.2.1 a ha
theorem drops_drop_no {D : Dv} {i : Nat} (h : DropsOk D i) {n : Nm} (hf : (fget D.files n).isSome = false) : D.drop n = (D, 10) := by
  simp [Dv.drop, Dv.thr, h.1, hf]
theorem drops_drop_yes {D : Dv} {i : Nat} (h : DropsOk D i) {n : Nm} (hf : (fget D.files n).isSome = true) :
    ∃ D', D.drop n = (D', 0) ∧ DropsOk D' i ∧ D'.files = fdel D.files n := by
  refine ⟨_, by simp [Dv.drop, Dv.thr, h.1, hf]; rfl, ⟨by simp [Dv.done], sorted_fdel h.2.1 _, fun a ha => h.2.2.1 a (mem_fdel ha), Nat.le_trans (by simp [Dv.done]; exact fdel_len _ _) h.2.2.2⟩, rfl⟩
theorem crashFiles_nil {fs : Files} (h : ∀ a ∈ fs, a.2 = []) : crashFiles fs [] = (fs, []) := by
  induction fs with
  | nil => rfl
  | cons a r ih =>
    obtain ⟨m, x⟩ := a
    have hx : x = [] := h (m, x) (by simp)
    subst hx
    simp [crashFiles, crashCells, ih (fun a ha => h a (List.mem_cons_of_mem _ ha)), trim, endOf]
theorem drops_crash {D : Dv} {i : Nat} (h : DropsOk D i) : D.crash [] = D := by
  obtain ⟨m, f, fs⟩ := D
  have h1 : f = -1 := h.1
  subst h1
  simp [Dv.crash, crashFiles_nil h.2.2.1]
theorem used_nil {fs : Files} (h : ∀ a ∈ fs, a.2 = []) : used fs = 0 := by
  induction fs with
  | nil => rfl
  | cons a r ih =>
    have h1 := ih (fun b hb => h b (List.mem_cons_of_mem _ hb))
    have h2 := h a (by simp)
    unfold used at *
    simp [h2, h1]
theorem drops_used {D : Dv} {i : Nat} (h : DropsOk D i) : used D.files = 0 := used_nil h.2.2.1
theorem drops_len {D : Dv} {i : Nat} (h : DropsOk D i) (n : Nm) : D.len n = 0 := by
  unfold Dv.len Dv.cells
  cases hf : fget D.files n with
  | none => rfl
  | some l => rw [show l = [] from h.2.2.1 (n, l) (fget_mem hf)]; rfl
theorem names_at {D : Dv} (hs : sorted D.files) {k : Nat} {n : Nm} (h : D.names[k]? = some n) : (fget D.files n).isSome = true := by
  unfold Dv.names at h
  rw [List.getElem?_map] at h
  cases hk : D.files[k]? with
  | none => rw [hk] at h; cases h
  | some a =>
    rw [hk] at h
    simp only [Option.map_some, Option.some.injEq] at h
    subst h
    rw [fget_of_mem hs (n := a.1) (v := a.2) (List.mem_of_getElem? hk)]; rfl
theorem names_rise {D : Dv} (hs : sorted D.files) {k : Nat} {m n : Nm} (hm : D.names[k]? = some m) (hn : D.names[k + 1]? = some n) : m < n := by
  unfold Dv.names at hm hn
  rw [List.getElem?_map] at hm hn
  have hp := List.pairwise_iff_getElem.1 hs
  cases hk : D.files[k]? with
  | none => rw [hk] at hm; cases hm
  | some a =>
    cases hk2 : D.files[k + 1]? with
    | none => rw [hk2] at hn; cases hn
    | some b =>
      rw [hk] at hm; rw [hk2] at hn
      simp only [Option.map_some, Option.some.injEq] at hm hn
      subst hm hn
      obtain ⟨h1, rfl⟩ := List.getElem?_eq_some_iff.1 hk
      obtain ⟨h2, rfl⟩ := List.getElem?_eq_some_iff.1 hk2
      exact hp k (k + 1) h1 h2 (by omega)
end Wb

namespace Wb
open Go

/-- A meta. -/
structure Mt where
  gen : Nat
  root : Nat
  count : Nat
  mark : Nat
def markL : List UInt8 := [119, 97, 121, 98, 105, 108, 108, 49]
def metaL (m : Mt) : List UInt8 := markL ++ be 8 m.gen ++ be 8 m.root ++ be 8 m.count ++ be 8 m.mark
theorem metaL_len (m : Mt) : (metaL m).length = 40 := by simp [metaL, markL, be_len]
def metaS (m : Mt) : Sec := ⟨metaL m ++ List.replicate 24 0, by simp [metaL_len]⟩
structure Mt.ok (m : Mt) : Prop where
  gen : m.gen < 2 ^ 64
  root : m.root < 2 ^ 63
  count : m.count < 2 ^ 63
  mark : m.mark < 2 ^ 64
def rdN (s : Sec) (i : Nat) : Nat := num ((s.1.drop (8 * i)).take 8)
def metaP (s : Sec) : Mt := ⟨rdN s 1, rdN s 2, rdN s 3, rdN s 4⟩
def metaFits (m : Mt) (id : Nat) : Prop := m.gen ≠ 0 ∧ m.gen % 2 = id ∧ m.root ≤ 4611686018427387904 ∧ m.count ≤ 4611686018427387904
instance (m : Mt) (id : Nat) : Decidable (metaFits m id) := by unfold metaFits; infer_instance
/-- What stands where a meta may be: a meta, and whether it is one. -/
def metaAt (r : Sec × Int) (id long : Nat) : Mt × Bool :=
  if r.2 = 0 ∧ r.1.1.take 8 = markL ∧ metaFits (metaP r.1) id then
    (metaP r.1, decide (metaS (metaP r.1) = r.1 ∧ ((metaP r.1).root = 0 ∨ (2 ≤ (metaP r.1).root ∧ (metaP r.1).root < long))))
  else (⟨0, 0, 0, 0⟩, false)
theorem metaP_ok {s : Sec} {id : Nat} (h : metaFits (metaP s) id) : (metaP s).ok :=
  ⟨num_lt _, by have := h.2.2.1; omega, by have := h.2.2.2; omega, num_lt _⟩
end Wb

namespace Wb
open Go

/-- How many pages there are. -/
def pagesOf (D : Dv) : Nat := D.len [112] / 8
theorem len_small {D : Dv} (h : D.wf) (n : Nm) : D.len n ≤ 100000 := by
  unfold Dv.len Dv.cells
  cases hf : fget D.files n with
  | none => simp
  | some l =>
    have h1 := used_le hf
    have h2 := h.used
    have h3 := h.most
    simp only [Option.getD_some]
    omega
theorem pages_small {D : Dv} (h : D.wf) : pagesOf D ≤ 12500 := by
  have := len_small h [112]
  unfold pagesOf
  omega
/-- A file of pages, plain. -/
structure Pg where
  d : Dv
  mt : Mt
  used : Nat → Bool
  fresh : List Nat
  dead : Bool
def isPg (F : Pg) (k : Int) : Bool := decide (2 ≤ k) && decide (k < pagesOf F.d)
def isLeast (F : Pg) (r : Nat) : Prop := 2 ≤ r ∧ (∀ j, 2 ≤ j → j < r → j < pagesOf F.d ∧ F.used j = true) ∧ (pagesOf F.d ≤ r ∨ F.used r = false)
def LeastRel (F : Pg) (k : Nat) : Prop := 2 ≤ k ∧ (∀ j, 2 ≤ j → j < k → j < pagesOf F.d ∧ F.used j = true)
theorem LeastRel.le {F : Pg} {k : Nat} (h : LeastRel F k) : k ≤ pagesOf F.d + 2 := by
  rcases Nat.lt_or_ge 2 k with h2 | h2
  · have := (h.2 (k - 1) (by omega) (by omega)).1
    omega
  · omega
def freeUpTo (F : Pg) (k : Nat) : List Nat := (List.range k).filter fun j => decide (2 ≤ j) && !F.used j
def freeOf (F : Pg) : List Nat := freeUpTo F (pagesOf F.d)
theorem freeUpTo_succ (F : Pg) (k : Nat) (h2 : 2 ≤ k) : freeUpTo F (k + 1) = freeUpTo F k ++ if F.used k = true then [] else [k] := by
  unfold freeUpTo
  rw [List.range_succ, List.filter_append]
  congr 1
  cases hu : F.used k <;> simp [hu, h2]
theorem freeUpTo_two (F : Pg) (k : Nat) (h : k ≤ 2) : freeUpTo F k = [] := by
  unfold freeUpTo
  rw [List.filter_eq_nil_iff]
  intro j hj
  have := List.mem_range.1 hj
  have h3 : ¬ 2 ≤ j := by omega
  simp [h3]
theorem freeUpTo_len (F : Pg) (k : Nat) : (freeUpTo F k).length ≤ k := by
  have := List.length_filter_le (fun j => decide (2 ≤ j) && !F.used j) (List.range k)
  simpa [freeUpTo] using this
/-- These are pages, rising. -/
def Rising (F : Pg) (l : List Int) : Prop := ∀ (j : Nat) x, l[j]? = some x → isPg F x = true ∧ ∀ y, 0 < j → l[j - 1]? = some y → y < x
def RisingTo (F : Pg) (l : List Int) (k : Nat) : Prop := ∀ (j : Nat) x, j < k → l[j]? = some x → isPg F x = true ∧ ∀ y, 0 < j → l[j - 1]? = some y → y < x
open Classical in
noncomputable def risingB (F : Pg) (l : List Int) : Bool := decide (Rising F l)
theorem risingB_true {F : Pg} {l : List Int} (h : Rising F l) : risingB F l = true := by unfold risingB; simpa using h
theorem risingB_false {F : Pg} {l : List Int} (h : ¬ Rising F l) : risingB F l = false := by unfold risingB; simpa using h
def keptU (l : List Int) (j : Nat) : Bool := decide ((j : Int) ∈ l)
def keepP (F : Pg) (l : List Int) : Pg := { F with used := keptU l, fresh := [] }
theorem keptU_succ {l : List Int} {q k : Nat} (h : l[q]? = some (k : Int)) : keptU (l.take (q + 1)) = fun j => keptU (l.take q) j || decide (j = k) := by
  funext j
  unfold keptU
  rw [List.take_add_one, h]
  simp only [Option.toList_some, List.mem_append, List.mem_singleton, Bool.decide_or]
  congr 1
  simp only [decide_eq_decide]
  omega
theorem isPg_small {F : Pg} {x : Int} (h : isPg F x = true) (hw : F.d.wf) : 2 ≤ x ∧ x ≤ 12500 := by
  unfold isPg at h
  simp only [Bool.and_eq_true, decide_eq_true_eq] at h
  have := pages_small hw
  omega
def dropP (F : Pg) : Pg := { F with used := fun j => F.used j && !decide (j ∈ F.fresh), fresh := [] }
def dropU (F : Pg) (q : Nat) (j : Nat) : Bool := F.used j && !decide (j ∈ F.fresh.take q)
theorem dropU_zero (F : Pg) : dropU F 0 = F.used := by funext j; simp [dropU]
theorem dropU_all (F : Pg) : dropU F F.fresh.length = (dropP F).used := by funext j; simp [dropU, dropP]
theorem dropU_succ {F : Pg} {q k : Nat} (h : F.fresh[q]? = some k) : dropU F (q + 1) = fun j => dropU F q j && !decide (j = k) := by
  funext j
  unfold dropU
  rw [List.take_add_one, h]
  simp only [Option.toList_some, List.mem_append, List.mem_singleton, Bool.decide_or, Bool.not_or, Bool.and_assoc]
/-- The octets of the first q sectors from sector b on; or the first error. -/
def readUp (D : Dv) (b : Nat) : Nat → List UInt8 × Int
  | 0 => ([], 0)
  | q + 1 => if (readUp D b q).2 = 0 then (if (D.read [112] ((b : Int) + q)).2 = 0 then ((readUp D b q).1 ++ (D.read [112] ((b : Int) + q)).1.1, 0) else ([], (D.read [112] ((b : Int) + q)).2)) else readUp D b q
theorem readUp_bad {D : Dv} {b q : Nat} (h : (readUp D b q).2 ≠ 0) : ∀ k, readUp D b (q + k) = readUp D b q
  | 0 => rfl
  | k + 1 => by
    rw [← Nat.add_assoc, readUp, readUp_bad h k, if_neg h]
theorem readUp_len {D : Dv} {b q : Nat} (h : (readUp D b q).2 = 0) : (readUp D b q).1.length = 64 * q := by
  induction q with
  | zero => rfl
  | succ q ih =>
    rw [readUp] at h ⊢
    by_cases h1 : (readUp D b q).2 = 0
    · rw [if_pos h1] at h ⊢
      by_cases h2 : (D.read [112] ((b : Int) + q)).2 = 0
      · rw [if_pos h2]
        simp only [List.length_append, ih h1, (D.read [112] ((b : Int) + q)).1.2]
        omega
      · rw [if_neg h2] at h; exact absurd h h2
    · rw [if_neg h1] at h; exact absurd h h1
/-- A page's octets, or the error. -/
def readP (F : Pg) (id : Int) : List UInt8 × Int := if isPg F id = true then readUp F.d (id.toNat * 8) 8 else ([], 1)
end Wb

namespace Wb
open Go

/-- q sectors written one behind the other from sector b on, till one falls. -/
def wrUp (D : Dv) (b : Nat) (f : Nat → Sec) : Nat → Dv × Int
  | 0 => (D, 0)
  | q + 1 => if (wrUp D b f q).2 = 0 then (wrUp D b f q).1.write [112] ((b : Int) + q) (f q) else wrUp D b f q
theorem wrUp_bad {D : Dv} {b : Nat} {f : Nat → Sec} {q : Nat} (h : (wrUp D b f q).2 ≠ 0) : ∀ k, wrUp D b f (q + k) = wrUp D b f q
  | 0 => rfl
  | k + 1 => by
    have ih := wrUp_bad h k
    rw [← Nat.add_assoc, wrUp, ih, if_neg h]
theorem wrUp_step {D D' : Dv} {b : Nat} {f : Nat → Sec} {q : Nat} (h : wrUp D b f q = (D', 0)) : wrUp D b f (q + 1) = D'.write [112] ((b : Int) + q) (f q) := by
  rw [wrUp, h]; rfl

def padS (l : List UInt8) : Sec := ⟨l.take 64 ++ List.replicate (64 - l.length) 0, by rw [List.length_append, List.length_take, List.length_replicate]; omega⟩
def pageSec (l : List UInt8) (i : Nat) : Sec := padS (l.drop (64 * i))
/-- A page's octets, noughts behind. -/
def wholeP (l : List UInt8) : List UInt8 := l ++ List.replicate (512 - l.length) 0

def mt0 : Mt := ⟨0, 0, 0, 0⟩
def mt1 : Mt := ⟨1, 0, 0, 0⟩
def beginSec (k : Nat) : Sec := if k = 8 then metaS mt1 else Sec.zero
def begunD (D : Dv) : Dv × Int := if (D.make [112]).2 = 0 then wrUp (D.make [112]).1 0 beginSec 16 else D.make [112]
def betterMt (a : Mt) (r : Mt × Bool) : Mt := if r.2 = true ∧ a.gen < r.1.gen then r.1 else a
def bestMt (D : Dv) : Mt := betterMt (betterMt mt0 (metaAt (D.read [112] 0) 0 (pagesOf D))) (metaAt (D.read [112] 8) 1 (pagesOf D))
/-- The device behind what an opening begins with. -/
def openD (D : Dv) : Dv × Int :=
  if [112] ∈ D.names then D.sync [112] else if (begunD D).2 = 0 then (begunD D).1.sync [112] else begunD D
def openE (D : Dv) : Int := if (openD D).2 ≠ 0 then (openD D).2 else if (bestMt (openD D).1).gen = 0 ∨ pagesOf (openD D).1 < 2 then 12 else 0

/-- A meta is written. -/
def wrMeta (D : Dv) (m : Mt) : Dv × Int :=
  if (D.sync [112]).2 = 0 then
    (if ((D.sync [112]).1.write [112] ((m.gen % 2 : Nat) * 8) (metaS m)).2 = 0 then ((D.sync [112]).1.write [112] ((m.gen % 2 : Nat) * 8) (metaS m)).1.sync [112] else (D.sync [112]).1.write [112] ((m.gen % 2 : Nat) * 8) (metaS m))
  else D.sync [112]

/-! ### A device with the one file, all of whose sectors can be read -/
def ND (m : Nat) (ss : List Sec) (D : Dv) : Prop := ∃ l, D = oneF m [112] l ∧ l.map (·.now) = ss ∧ ∀ c ∈ l, c.nowBad = false
theorem nd_len {m : Nat} {ss : List Sec} {D : Dv} (h : ND m ss D) : D.len [112] = ss.length := by
  obtain ⟨l, rfl, rfl, _⟩ := h
  rw [one_len, List.length_map]
theorem nd_read {m : Nat} {ss : List Sec} {D : Dv} (h : ND m ss D) {k : Nat} {s : Sec} (hs : ss[k]? = some s) : D.read [112] (k : Int) = (s, 0) := by
  obtain ⟨l, rfl, rfl, hb⟩ := h
  rw [List.getElem?_map] at hs
  cases hc : l[k]? with
  | none => rw [hc] at hs; cases hs
  | some c =>
    rw [hc] at hs
    simp only [Option.map_some, Option.some.injEq] at hs
    rw [one_read _ _ _ _ c hc, hb c (List.mem_of_getElem? hc), hs]
    rfl
theorem nd_readNo {m : Nat} {ss : List Sec} {D : Dv} (h : ND m ss D) {k : Nat} (hk : ss.length ≤ k) : D.read [112] (k : Int) = (Sec.zero, 1) := by
  obtain ⟨l, rfl, rfl, hb⟩ := h
  rw [List.length_map] at hk
  have hg : fget (oneF m [112] l).files [112] = some l := one_get _ l
  unfold Dv.read
  rw [hg]
  simp only
  rw [if_pos (by omega)]
theorem nd_over {m : Nat} {ss : List Sec} {D : Dv} (h : ND m ss D) {k : Nat} (s : Sec) (hk : k < ss.length) : ∃ D', D.write [112] (k : Int) s = (D', 0) ∧ ND m (ss.set k s) D' := by
  obtain ⟨l, rfl, rfl, hb⟩ := h
  rw [List.length_map] at hk
  refine ⟨_, one_over _ _ _ _ _ hk, _, rfl, ?_, fun c hc => ?_⟩
  · apply List.ext_getElem?
    intro j
    rw [List.getElem?_map, List.getElem?_modify, List.getElem?_set, List.length_map, List.getElem?_map]
    by_cases hj : k = j
    · subst hj; simp [hk, Cell.write]
    · simp [hj]
  · obtain ⟨j, hj⟩ := List.mem_iff_getElem?.1 hc
    rw [List.getElem?_modify] at hj
    cases hl : l[j]? with
    | none => rw [hl] at hj; cases hj
    | some c0 =>
      rw [hl] at hj
      simp only [Option.map_eq_map, Option.map_some, Option.some.injEq] at hj
      have := hb c0 (List.mem_of_getElem? hl)
      split at hj
      · rw [← hj]; rfl
      · rw [← hj]; exact this
theorem nd_app {m : Nat} {ss : List Sec} {D : Dv} (h : ND m ss D) (s : Sec) (hk : ss.length < m) : ∃ D', D.write [112] (ss.length : Int) s = (D', 0) ∧ ND m (ss ++ [s]) D' := by
  obtain ⟨l, rfl, rfl, hb⟩ := h
  rw [List.length_map] at hk ⊢
  refine ⟨_, one_append _ _ _ _ hk, _, rfl, by simp [Cell.write], fun c hc => ?_⟩
  rcases List.mem_append.1 hc with h | h
  · exact hb c h
  · rw [List.mem_singleton.1 h]; rfl
theorem nd_full {m : Nat} {ss : List Sec} {D : Dv} (h : ND m ss D) (s : Sec) (hk : m ≤ ss.length) : D.write [112] (ss.length : Int) s = (D, 6) := by
  obtain ⟨l, rfl, rfl, hb⟩ := h
  rw [List.length_map] at hk ⊢
  unfold Dv.write
  rw [if_neg (by rw [one_thr]; simp), one_len, if_neg (by omega), if_pos rfl]
  simp only [oneF, one_used]
  rw [if_pos hk]
theorem nd_sync {m : Nat} {ss : List Sec} {D : Dv} (h : ND m ss D) : ∃ D', D.sync [112] = (D', 0) ∧ ND m ss D' := by
  obtain ⟨l, rfl, rfl, hb⟩ := h
  refine ⟨_, one_sync _ _ _, _, rfl, ?_, fun c hc => ?_⟩
  · rw [List.map_map]
    apply List.map_congr_left
    intro c _
    simp only [Function.comp]
    split <;> rfl
  · obtain ⟨c0, h0, rfl⟩ := List.mem_map.1 hc
    have := hb c0 h0
    split
    · simpa [Cell.lasts] using this
    · exact this
theorem nd_names {m : Nat} {ss : List Sec} {D : Dv} (h : ND m ss D) : D.names = [[112]] := by
  obtain ⟨l, rfl, rfl, hb⟩ := h
  rfl
theorem nd_new {m : Nat} (hm : m ≤ 100000) : ∃ D', (Dv.new m).make [112] = (D', 0) ∧ ND m [] D' := ⟨_, one_start m [112] hm ⟨by decide, by decide⟩, [], rfl, rfl, by simp⟩

def putAt (ss : List Sec) (b : Nat) (f : Nat → Sec) (q : Nat) : List Sec := ss.take b ++ (List.range q).map f ++ ss.drop (b + q)
theorem putAt_len {ss : List Sec} {b : Nat} {f : Nat → Sec} {q : Nat} (h : b ≤ ss.length) : (putAt ss b f q).length = max (b + q) ss.length := by
  simp [putAt]; omega
theorem putAt_zero (ss : List Sec) (b : Nat) (f : Nat → Sec) : putAt ss b f 0 = ss := by simp [putAt]
theorem putAt_get {ss : List Sec} {b : Nat} {f : Nat → Sec} {q : Nat} (h : b ≤ ss.length) (k : Nat) : (putAt ss b f q)[k]? = if k < b then ss[k]? else if k < b + q then some (f (k - b)) else ss[k]? := by
  unfold putAt
  by_cases h1 : k < b
  · rw [if_pos h1, List.append_assoc, List.getElem?_append_left (by simp; omega), List.getElem?_take_of_lt h1]
  · rw [if_neg h1]
    by_cases h2 : k < b + q
    · rw [if_pos h2, List.getElem?_append_left (by simp; omega), List.getElem?_append_right (by simp; omega)]
      have : k - min b ss.length < q := by omega
      have h3 : min b ss.length = b := by omega
      simp [h3, show k - b < q by omega]
    · rw [if_neg h2, List.getElem?_append_right (by simp; omega), List.getElem?_drop]
      congr 1
      simp
      omega
theorem putAt_succ {ss : List Sec} {b : Nat} {f : Nat → Sec} {q : Nat} (h : b ≤ ss.length) (hq : b + q < ss.length) : (putAt ss b f q).set (b + q) (f q) = putAt ss b f (q + 1) := by
  apply List.ext_getElem?
  intro k
  rw [List.getElem?_set, putAt_len h, putAt_get h, putAt_get h]
  by_cases h1 : b + q = k
  · subst h1
    rw [if_pos rfl, if_pos (by omega), if_neg (by omega), if_pos (by omega)]
    congr 2; omega
  · rw [if_neg h1]
    by_cases h2 : k < b
    · rw [if_pos h2, if_pos h2]
    · rw [if_neg h2, if_neg h2]
      by_cases h3 : k < b + q
      · rw [if_pos h3, if_pos (by omega)]
      · rw [if_neg h3, if_neg (by omega)]
theorem putAt_snoc {ss : List Sec} {b : Nat} {f : Nat → Sec} {q : Nat} (h : b ≤ ss.length) (hq : ss.length ≤ b + q) : putAt ss b f q ++ [f q] = putAt ss b f (q + 1) := by
  unfold putAt
  rw [List.drop_eq_nil_of_le hq, List.drop_eq_nil_of_le (by omega), List.range_succ]
  simp
theorem nd_wrUp {m : Nat} {ss : List Sec} {D : Dv} (h : ND m ss D) {b : Nat} (f : Nat → Sec) (hb : b ≤ ss.length) : ∀ q, (b + q ≤ ss.length ∨ b + q ≤ m) → ∃ D', wrUp D b f q = (D', 0) ∧ ND m (putAt ss b f q) D'
  | 0, _ => ⟨D, rfl, by rw [putAt_zero]; exact h⟩
  | q + 1, hq => by
    obtain ⟨D', h1, h2⟩ := nd_wrUp h f hb q (by omega)
    rw [wrUp_step h1]
    have hc : ((b : Int) + q) = ((b + q : Nat) : Int) := by omega
    rw [hc]
    have hl := putAt_len (f := f) (q := q) hb
    by_cases hk : b + q < ss.length
    · obtain ⟨D2, h3, h4⟩ := nd_over h2 (k := b + q) (f q) (by omega)
      exact ⟨D2, h3, by rw [← putAt_succ hb hk]; exact h4⟩
    · have hl2 : (putAt ss b f q).length = b + q := by omega
      have h3 := nd_app h2 (f q) (by omega)
      rw [hl2] at h3
      obtain ⟨D2, h3, h4⟩ := h3
      exact ⟨D2, h3, by rw [← putAt_snoc hb (by omega)]; exact h4⟩

/-! ### pages -/
def pageOf (ss : List Sec) (id : Nat) : List UInt8 := ((ss.drop (8 * id)).take 8).flatMap (·.1)
theorem nd_readUp {m : Nat} {ss : List Sec} {D : Dv} (h : ND m ss D) {b : Nat} : ∀ q, b + q ≤ ss.length → readUp D b q = (((ss.drop b).take q).flatMap (·.1), 0)
  | 0, _ => by simp [readUp]
  | q + 1, hq => by
    have ih := nd_readUp h (b := b) q (by omega)
    have hk : b + q < ss.length := by omega
    have hr := nd_read h (List.getElem?_eq_getElem hk)
    have hc : ((b : Int) + q) = ((b + q : Nat) : Int) := by omega
    have hd : (ss.drop b)[q]? = some ss[b + q] := by rw [List.getElem?_drop, List.getElem?_eq_getElem hk]
    rw [readUp, ih, if_pos rfl, hc, hr, if_pos rfl, List.take_add_one, hd]
    simp
end Wb

namespace Wb
open Go

/-- A page is put; id: the least that is free. -/
def putP (F : Pg) (b : List UInt8) (id : Nat) : Pg × Int :=
  if (wrUp F.d (id * 8) (pageSec b) 8).2 = 0 then ({ F with d := (wrUp F.d (id * 8) (pageSec b) 8).1, used := fun j => F.used j || decide (j = id), fresh := F.fresh ++ [id] }, 0)
  else ({ F with d := (wrUp F.d (id * 8) (pageSec b) 8).1 }, (wrUp F.d (id * 8) (pageSec b) 8).2)
def commitOk (F : Pg) (root count : Int) (ids : List Int) : Prop := Rising F ids ∧ (root = 0 ∨ root ∈ ids) ∧ 0 ≤ count ∧ count ≤ 4611686018427387904
def nextMt (F : Pg) (root count : Int) (mark : Nat) : Mt := ⟨F.mt.gen + 1, root.toNat, count.toNat, mark⟩
/-- A file that was opened over a device. -/
def openP (D : Dv) : Pg := ⟨D, bestMt D, fun j => decide (2 ≤ j ∧ j < pagesOf D), [], false⟩

/-! ### metas -/
theorem take8_meta (m : Mt) : (metaS m).1.take 8 = markL := by simp [metaS, metaL, markL]
theorem be8_cut (v : Nat) (pre post : List UInt8) (k : Nat) (hk : pre.length = k) : ((pre ++ (be 8 v ++ post)).drop k).take 8 = be 8 v := by
  subst hk
  rw [List.drop_left, List.take_append_of_le_length (by rw [be_len]; exact Nat.le_refl _), List.take_of_length_le (by rw [be_len]; exact Nat.le_refl _)]
theorem metaP_metaS {m : Mt} (h : m.ok) : metaP (metaS m) = m := by
  have hn : ∀ v, v < 2 ^ 64 → num (be 8 v) = v := fun v hv => num_be 8 v (by simpa using hv) hv
  have h1 : rdN (metaS m) 1 = m.gen := by
    unfold rdN metaS metaL
    simp only [List.append_assoc]
    rw [be8_cut m.gen markL _ 8 rfl, hn _ h.gen]
  have h2 : rdN (metaS m) 2 = m.root := by
    unfold rdN metaS metaL
    have e : markL ++ be 8 m.gen ++ be 8 m.root ++ be 8 m.count ++ be 8 m.mark ++ List.replicate 24 0 = (markL ++ be 8 m.gen) ++ (be 8 m.root ++ (be 8 m.count ++ be 8 m.mark ++ List.replicate 24 0)) := by simp only [List.append_assoc]
    simp only [e]
    rw [be8_cut m.root _ _ 16 (by simp [be_len, markL]), hn _ (by have := h.root; omega)]
  have h3 : rdN (metaS m) 3 = m.count := by
    unfold rdN metaS metaL
    have e : markL ++ be 8 m.gen ++ be 8 m.root ++ be 8 m.count ++ be 8 m.mark ++ List.replicate 24 0 = (markL ++ be 8 m.gen ++ be 8 m.root) ++ (be 8 m.count ++ (be 8 m.mark ++ List.replicate 24 0)) := by simp only [List.append_assoc]
    simp only [e]
    rw [be8_cut m.count _ _ 24 (by simp [be_len, markL]), hn _ (by have := h.count; omega)]
  have h4 : rdN (metaS m) 4 = m.mark := by
    unfold rdN metaS metaL
    have e : markL ++ be 8 m.gen ++ be 8 m.root ++ be 8 m.count ++ be 8 m.mark ++ List.replicate 24 0 = (markL ++ be 8 m.gen ++ be 8 m.root ++ be 8 m.count) ++ (be 8 m.mark ++ List.replicate 24 0) := by simp only [List.append_assoc]
    simp only [e]
    rw [be8_cut m.mark _ _ 32 (by simp [be_len, markL]), hn _ h.mark]
  unfold metaP
  rw [h1, h2, h3, h4]
theorem metaAt_good {m : Mt} {long : Nat} (h : m.ok) (h0 : m.gen ≠ 0) (h1 : m.root ≤ 4611686018427387904) (h2 : m.count ≤ 4611686018427387904) (h3 : m.root = 0 ∨ (2 ≤ m.root ∧ m.root < long)) : metaAt (metaS m, 0) (m.gen % 2) long = (m, true) := by
  unfold metaAt
  rw [if_pos ⟨rfl, take8_meta m, by simp only [metaP_metaS h]; exact ⟨h0, rfl, h1, h2⟩⟩, metaP_metaS h]
  simp [h3]
theorem metaAt_zero (id long : Nat) : metaAt (Sec.zero, 0) id long = (mt0, false) := by
  unfold metaAt
  rw [if_neg (fun h => by have := h.2.1; revert this; decide)]
  rfl
theorem metaAt_old {m : Mt} (h : m.ok) (id long : Nat) : metaAt (metaS m, 0) id long = (mt0, false) ∨ ∃ b, metaAt (metaS m, 0) id long = (m, b) := by
  unfold metaAt
  split
  · right; exact ⟨_, by rw [metaP_metaS h]⟩
  · left; rfl
/-- A meta that a file may have. -/
structure MtOk (m : Mt) (long : Nat) : Prop where
  ok : m.ok
  gen : m.gen ≠ 0
  root : m.root = 0 ∨ (2 ≤ m.root ∧ m.root < long)
  root' : m.root ≤ 4611686018427387904
  count : m.count ≤ 4611686018427387904
theorem MtOk.at {m : Mt} {long : Nat} (h : MtOk m long) : metaAt (metaS m, 0) (m.gen % 2) long = (m, true) := metaAt_good h.ok h.gen h.root' h.count h.root
/-- The meta stands in its page; what stands in the other one is older. -/
def Metas (ss : List Sec) (m : Mt) : Prop := ss[m.gen % 2 * 8]? = some (metaS m) ∧ ∃ s, ss[(m.gen + 1) % 2 * 8]? = some s ∧ (s = Sec.zero ∨ ∃ m', m'.ok ∧ s = metaS m' ∧ m'.gen < m.gen)
theorem older {s : Sec} {m : Mt} (h : s = Sec.zero ∨ ∃ m', m'.ok ∧ s = metaS m' ∧ m'.gen < m.gen) (h0 : m.gen ≠ 0) (id long : Nat) : (metaAt (s, 0) id long).1.gen < m.gen := by
  rcases h with rfl | ⟨m', h1, rfl, h2⟩
  · rw [metaAt_zero]; show 0 < m.gen; omega
  · rcases metaAt_old h1 id long with h | ⟨b, h⟩
    · rw [h]; show 0 < m.gen; omega
    · rw [h]; exact h2
theorem better_no {a m : Mt} {r : Mt × Bool} (h : r.1.gen < m.gen) (ha : a.gen < m.gen) : (betterMt a r).gen < m.gen := by
  unfold betterMt; split <;> assumption
theorem best_of {m : Nat} {ss : List Sec} {D : Dv} (hD : ND m ss D) {mt : Mt} (hm : Metas ss mt) (hok : MtOk mt (pagesOf D)) : bestMt D = mt := by
  obtain ⟨h1, s, h2, h3⟩ := hm
  have hlt := older h3 hok.gen
  have hat := hok.at
  have h0 : mt0.gen < mt.gen := by have := hok.gen; show 0 < mt.gen; omega
  unfold bestMt
  rcases Nat.mod_two_eq_zero_or_one mt.gen with e | e
  · have e2 : (mt.gen + 1) % 2 = 1 := by omega
    rw [e] at h1 hat; rw [e2] at h2
    have r0 := nd_read hD h1
    have r8 := nd_read hD h2
    simp only [Nat.zero_mul, Nat.one_mul] at r0 r8
    rw [show ((0 : Nat) : Int) = 0 from rfl] at r0
    rw [show ((8 : Nat) : Int) = 8 from rfl] at r8
    rw [r0, r8, hat]
    have hb : betterMt mt0 (mt, true) = mt := by unfold betterMt; rw [if_pos ⟨rfl, h0⟩]
    rw [hb]
    unfold betterMt
    rw [if_neg (fun h => by have := h.2; have := hlt 1 (pagesOf D); omega)]
  · have e2 : (mt.gen + 1) % 2 = 0 := by omega
    rw [e] at h1 hat; rw [e2] at h2
    have r0 := nd_read hD h2
    have r8 := nd_read hD h1
    simp only [Nat.zero_mul, Nat.one_mul] at r0 r8
    rw [show ((0 : Nat) : Int) = 0 from rfl] at r0
    rw [show ((8 : Nat) : Int) = 8 from rfl] at r8
    rw [r0, r8, hat]
    have hb := better_no (a := mt0) (r := metaAt (s, 0) 0 (pagesOf D)) (hlt 0 (pagesOf D)) h0
    unfold betterMt at hb ⊢
    rw [if_pos ⟨rfl, hb⟩]
theorem nd_commit {m : Nat} {ss : List Sec} {D : Dv} (hD : ND m ss D) (mt : Mt) (h16 : 16 ≤ ss.length) : ∃ D', wrMeta D mt = (D', 0) ∧ ND m (ss.set (mt.gen % 2 * 8) (metaS mt)) D' := by
  obtain ⟨D1, h1, h2⟩ := nd_sync hD
  have hk : mt.gen % 2 * 8 < ss.length := by have := Nat.mod_lt mt.gen (show 0 < 2 by decide); omega
  obtain ⟨D2, h3, h4⟩ := nd_over h2 (metaS mt) hk
  obtain ⟨D3, h5, h6⟩ := nd_sync h4
  refine ⟨D3, ?_, h6⟩
  unfold wrMeta
  rw [h1]
  simp only [if_true]
  have hc : ((mt.gen % 2 : Nat) : Int) * 8 = ((mt.gen % 2 * 8 : Nat) : Int) := by omega
  rw [hc, h3]
  simp only [if_true]
  exact h5
theorem Metas.next {ss : List Sec} {m : Mt} (h : Metas ss m) (hok : m.ok) (h16 : 16 ≤ ss.length) {m' : Mt} (hg : m'.gen = m.gen + 1) : Metas (ss.set (m'.gen % 2 * 8) (metaS m')) m' := by
  have hk : m'.gen % 2 * 8 < ss.length := by have := Nat.mod_lt m'.gen (show 0 < 2 by decide); omega
  refine ⟨by rw [List.getElem?_set_self hk], metaS m, ?_, .inr ⟨m, hok, rfl, by omega⟩⟩
  have e : (m'.gen + 1) % 2 = m.gen % 2 := by omega
  rw [e, List.getElem?_set_ne (by omega), h.1]
theorem nd_put {m : Nat} {ss : List Sec} {F : Pg} (hD : ND m ss F.d) (b : List UInt8) (id : Nat) (h1 : id * 8 ≤ ss.length) (h2 : id * 8 + 8 ≤ ss.length ∨ id * 8 + 8 ≤ m) :
    ∃ D', ND m (putAt ss (id * 8) (pageSec b) 8) D' ∧ putP F b id = ({ F with d := D', used := fun j => F.used j || decide (j = id), fresh := F.fresh ++ [id] }, 0) := by
  obtain ⟨D', h3, h4⟩ := nd_wrUp hD (pageSec b) h1 8 h2
  refine ⟨D', h4, ?_⟩
  unfold putP
  rw [h3]
  rfl
theorem putAt_far {ss : List Sec} {b : Nat} {f : Nat → Sec} {q : Nat} (h : b ≤ ss.length) {k : Nat} (hk : k < b ∨ b + q ≤ k) : (putAt ss b f q)[k]? = ss[k]? := by
  rw [putAt_get h]
  by_cases h1 : k < b
  · rw [if_pos h1]
  · rw [if_neg h1, if_neg (by omega)]
theorem Metas.put {ss : List Sec} {mt : Mt} (h : Metas ss mt) (f : Nat → Sec) {b : Nat} (h1 : b ≤ ss.length) (h2 : 16 ≤ b) : Metas (putAt ss b f 8) mt := by
  obtain ⟨a, s, c, d⟩ := h
  refine ⟨?_, s, ?_, d⟩
  · rw [putAt_far h1 (by have := Nat.mod_lt mt.gen (show 0 < 2 by decide); omega), a]
  · rw [putAt_far h1 (by have := Nat.mod_lt (mt.gen + 1) (show 0 < 2 by decide); omega), c]
/-! ### pages' octets -/
theorem pageOf_far {ss ss' : List Sec} {id : Nat} (h : ∀ k, id * 8 ≤ k → k < id * 8 + 8 → ss'[k]? = ss[k]?) : pageOf ss' id = pageOf ss id := by
  unfold pageOf
  congr 1
  apply List.ext_getElem?
  intro k
  by_cases hk : k < 8
  · rw [List.getElem?_take_of_lt hk, List.getElem?_take_of_lt hk, List.getElem?_drop, List.getElem?_drop, h _ (by omega) (by omega)]
  · rw [List.getElem?_eq_none (by simp; omega), List.getElem?_eq_none (by simp; omega)]
theorem pageSec_cat (l : List UInt8) : ∀ q, ((List.range q).map (pageSec l)).flatMap (·.1) = l.take (64 * q) ++ List.replicate (64 * q - l.length) 0
  | 0 => by simp
  | q + 1 => by
    rw [List.range_succ, List.map_append, List.flatMap_append, pageSec_cat l q]
    simp only [List.map_cons, List.map_nil, List.flatMap_cons, List.flatMap_nil, List.append_nil, pageSec, padS]
    rw [List.length_drop]
    rcases Nat.lt_or_ge l.length (64 * q) with h | h
    · rw [List.drop_eq_nil_of_le (by omega), List.take_nil, List.nil_append, List.take_of_length_le (l := l) (i := 64 * q) (by omega), List.take_of_length_le (l := l) (i := 64 * (q + 1)) (by omega), List.append_assoc, List.replicate_append_replicate]
      congr 2; omega
    · rw [show 64 * q - l.length = 0 by omega, List.replicate_zero, List.append_nil, ← List.append_assoc]
      congr 1
      · rw [show 64 * (q + 1) = 64 * q + 64 by omega, List.take_add]
      · congr 1; omega
theorem pageOf_put {ss : List Sec} {id : Nat} (l : List UInt8) (h : id * 8 ≤ ss.length) (hl : l.length ≤ 512) : pageOf (putAt ss (id * 8) (pageSec l) 8) id = wholeP l := by
  unfold pageOf
  have : ((putAt ss (id * 8) (pageSec l) 8).drop (8 * id)).take 8 = (List.range 8).map (pageSec l) := by
    unfold putAt
    rw [List.append_assoc, List.drop_append, List.drop_eq_nil_of_le (by rw [List.length_take]; omega), List.nil_append, List.length_take,
      show 8 * id - min (id * 8) ss.length = 0 by omega, List.drop_zero, List.take_append_of_le_length (by simp), List.take_of_length_le (by simp)]
  rw [this, pageSec_cat]
  unfold wholeP
  rw [List.take_of_length_le (by omega)]
theorem nd_page {m : Nat} {ss : List Sec} {F : Pg} (hD : ND m ss F.d) {id : Nat} (h2 : 2 ≤ id) (h : id * 8 + 8 ≤ ss.length) : readP F id = (pageOf ss id, 0) := by
  unfold readP isPg pagesOf
  rw [nd_len hD]
  have h3 : (2 : Int) ≤ id := by omega
  have h4 : (id : Int) < ((ss.length / 8 : Nat) : Int) := by omega
  rw [if_pos (by simp only [Bool.and_eq_true, decide_eq_true_eq]; exact ⟨h3, h4⟩), Int.toNat_natCast, nd_readUp hD 8 h]
  unfold pageOf
  rw [Nat.mul_comm id 8]
/-! ### opening -/
theorem nd_begin {m : Nat} (hm : m ≤ 100000) (h16 : 16 ≤ m) : ∃ D', openD (Dv.new m) = (D', 0) ∧ ND m ((List.range 16).map beginSec) D' := by
  obtain ⟨D1, h1, h2⟩ := nd_new hm
  obtain ⟨D2, h3, h4⟩ := nd_wrUp h2 (b := 0) beginSec (Nat.zero_le _) 16 (.inr (by omega))
  obtain ⟨D3, h5, h6⟩ := nd_sync h4
  refine ⟨D3, ?_, by simpa [putAt] using h6⟩
  unfold openD begunD
  rw [if_neg (by simp [Dv.new, Dv.names]), h1]
  simp only [if_true]
  rw [h3]
  simp only [if_true]
  exact h5
theorem begin_metas : Metas ((List.range 16).map beginSec) mt1 := ⟨rfl, Sec.zero, rfl, .inl rfl⟩
theorem mt1_ok (long : Nat) : MtOk mt1 long := ⟨⟨by decide, by decide, by decide, by decide⟩, by decide, .inl rfl, by decide, by decide⟩
theorem nd_open {m : Nat} {ss : List Sec} {D : Dv} (hD : ND m ss D) : ∃ D', openD D = (D', 0) ∧ ND m ss D' := by
  obtain ⟨D', h1, h2⟩ := nd_sync hD
  refine ⟨D', ?_, h2⟩
  unfold openD
  rw [nd_names hD, if_pos (by simp)]
  exact h1
theorem openE_ok {m : Nat} {ss : List Sec} {D D' : Dv} (h : openD D = (D', 0)) (hD : ND m ss D') {mt : Mt} (hm : Metas ss mt) (hok : MtOk mt (pagesOf D')) (h16 : 16 ≤ ss.length) : openE D = 0 := by
  unfold openE
  rw [h]
  simp only
  rw [if_neg (by simp), best_of hD hm hok, if_neg]
  have := hok.gen
  have h2 : pagesOf D' = ss.length / 8 := by unfold pagesOf; rw [nd_len hD]
  omega
end Wb

namespace Wb
open Go

theorem nd_wrUpFull {m : Nat} {ss : List Sec} {D : Dv} (h : ND m ss D) {b : Nat} (f : Nat → Sec) (hb : b ≤ ss.length) (hm : ss.length ≤ m) (h8 : m < b + 8) : ∃ ss' D', wrUp D b f 8 = (D', 6) ∧ ND m ss' D' ∧ ss'.length = m := by
  obtain ⟨q, rfl⟩ : ∃ q, m = b + q := ⟨m - b, by omega⟩
  obtain ⟨D1, h1, h2⟩ := nd_wrUp h f hb q (.inr (Nat.le_refl _))
  have hl := putAt_len (f := f) (q := q) hb
  have hl2 : (putAt ss b f q).length = b + q := by omega
  have h3 := nd_full h2 (f q) (by omega)
  rw [hl2] at h3
  have h4 : wrUp D b f (q + 1) = (D1, 6) := by
    rw [wrUp_step h1]
    have hc : ((b : Int) + q) = ((b + q : Nat) : Int) := by omega
    rw [hc, h3]
  refine ⟨_, D1, ?_, h2, hl2⟩
  have h5 := wrUp_bad (D := D) (b := b) (f := f) (q := q + 1) (by rw [h4]; simp) (7 - q)
  rw [show q + 1 + (7 - q) = 8 by omega] at h5
  rw [h5, h4]

/-- i pages were put, of L sectors in all. -/
structure RoomOk (m L i : Nat) (F : Pg) : Prop where
  nd : ∃ ss, ND m ss F.d ∧ ss.length = L ∧ Metas ss F.mt
  lo : 16 + 8 * i ≤ L
  used : ∀ k, F.used k = decide (2 ≤ k ∧ k < 2 + i)
  fresh : F.fresh = List.range' 2 i
  mt : F.mt = mt1
  dead : F.dead = false
theorem RoomOk.pages {m L i : Nat} {F : Pg} (h : RoomOk m L i F) : pagesOf F.d = L / 8 := by
  obtain ⟨ss, h1, h2, _⟩ := h.nd
  unfold pagesOf
  rw [nd_len h1, h2]
theorem room_start {m : Nat} (hm : m ≤ 100000) (h16 : 16 ≤ m) : ∃ D', openD (Dv.new m) = (D', 0) ∧ openE (Dv.new m) = 0 ∧ RoomOk m 16 0 (openP D') := by
  obtain ⟨D', h1, h2⟩ := nd_begin hm h16
  have hp : pagesOf D' = 2 := by unfold pagesOf; rw [nd_len h2]; rfl
  have hb := best_of h2 begin_metas (mt1_ok _)
  refine ⟨D', h1, openE_ok h1 h2 begin_metas (mt1_ok _) (by simp), ⟨_, h2, by simp, by show Metas _ (bestMt D'); rw [hb]; exact begin_metas⟩, Nat.le_refl _, fun k => ?_, rfl, hb, rfl⟩
  show decide (2 ≤ k ∧ k < pagesOf D') = _
  rw [hp]
theorem room_least {m L i : Nat} {F : Pg} (h : RoomOk m L i F) {r : Nat} (hr : isLeast F r) : r = 2 + i := by
  obtain ⟨h1, h2, h3⟩ := hr
  have hp := h.pages
  have hlo := h.lo
  rcases Nat.lt_trichotomy r (2 + i) with h4 | h4 | h4
  · exfalso
    rcases h3 with h3 | h3
    · omega
    · rw [h.used] at h3; simp at h3; omega
  · exact h4
  · exfalso
    have := (h2 (2 + i) (by omega) h4).2
    rw [h.used] at this; simp at this
theorem range'_snoc (a n : Nat) : List.range' a n ++ [a + n] = List.range' a (n + 1) := by rw [List.range'_concat]; simp
theorem room_put {m L i : Nat} {F : Pg} (h : RoomOk m L i F) (b : List UInt8) (hi : 16 + 8 * i + 8 ≤ m) : ∃ F2, putP F b (2 + i) = (F2, 0) ∧ RoomOk m (max L (16 + 8 * i + 8)) (i + 1) F2 := by
  obtain ⟨ss, h1, h2, h3⟩ := h.nd
  have hlo := h.lo
  obtain ⟨D', h4, h5⟩ := nd_put h1 b (2 + i) (by omega) (by omega)
  refine ⟨_, h5, ⟨_, h4, ?_, ?_⟩, by omega, fun k => ?_, ?_, h.mt, h.dead⟩
  · rw [putAt_len (by omega)]; omega
  · exact h3.put _ (by omega) (by omega)
  · show (F.used k || decide (k = 2 + i)) = _
    rw [h.used, Bool.eq_iff_iff]
    simp only [Bool.or_eq_true, decide_eq_true_eq]
    omega
  · show F.fresh ++ [2 + i] = _
    rw [h.fresh, range'_snoc]
theorem room_full {m L i : Nat} {F : Pg} (h : RoomOk m L i F) (b : List UInt8) (hL : L ≤ m) (hi : m < 16 + 8 * i + 8) : ∃ F2, putP F b (2 + i) = (F2, 6) ∧ RoomOk m m i F2 := by
  obtain ⟨ss, h1, h2, h3⟩ := h.nd
  have hlo := h.lo
  obtain ⟨D1, g1, g2⟩ := nd_wrUp h1 (pageSec b) (b := (2 + i) * 8) (by omega) (m - (2 + i) * 8) (.inr (by omega))
  obtain ⟨ss', D', h4, h5, h6⟩ := nd_wrUpFull h1 (pageSec b) (b := (2 + i) * 8) (by omega) (by omega) (by omega)
  have hl := putAt_len (ss := ss) (f := pageSec b) (b := (2 + i) * 8) (q := m - (2 + i) * 8) (by omega)
  have hD : D' = D1 := by
    have h7 := nd_full g2 (pageSec b (m - (2 + i) * 8)) (by omega)
    have h8 : wrUp F.d ((2 + i) * 8) (pageSec b) (m - (2 + i) * 8 + 1) = (D1, 6) := by
      rw [wrUp_step g1]
      have hc : ((((2 + i) * 8 : Nat) : Int) + ((m - (2 + i) * 8 : Nat) : Int)) = ((putAt ss ((2 + i) * 8) (pageSec b) (m - (2 + i) * 8)).length : Int) := by rw [hl]; omega
      rw [hc, h7]
    have h9 := wrUp_bad (D := F.d) (b := (2 + i) * 8) (f := pageSec b) (q := m - (2 + i) * 8 + 1) (by rw [h8]; simp) (7 - (m - (2 + i) * 8))
    rw [show m - (2 + i) * 8 + 1 + (7 - (m - (2 + i) * 8)) = 8 by omega, h4, h8] at h9
    exact (Prod.mk.inj h9).1
  subst hD
  refine ⟨{ F with d := D' }, ?_, ⟨_, g2, by rw [hl]; omega, ?_⟩, by omega, h.used, h.fresh, h.mt, h.dead⟩
  · unfold putP
    rw [h4]
    rfl
  · obtain ⟨a, s, c, d⟩ := h3
    refine ⟨?_, s, ?_, d⟩
    · rw [putAt_far (by omega) (by have := Nat.mod_lt F.mt.gen (show 0 < 2 by decide); left; omega)]; exact a
    · rw [putAt_far (by omega) (by have := Nat.mod_lt (F.mt.gen + 1) (show 0 < 2 by decide); left; omega)]; exact c
theorem filter_len_iff (p q : Nat → Bool) (l : List Nat) (h : ∀ k ∈ l, p k = q k) : (l.filter p).length = (l.filter q).length := by
  rw [List.filter_congr h]
theorem free_none {m L i : Nat} {F : Pg} (h : RoomOk m L i F) (hL : L / 8 = 2 + i) : freeOf F = [] := by
  unfold freeOf freeUpTo
  rw [h.pages, hL, List.filter_eq_nil_iff]
  intro k hk
  have := List.mem_range.1 hk
  rw [h.used]
  simp; omega
theorem filter_ge (n : Nat) : ((List.range (2 + n)).filter fun j => decide (2 ≤ j)).length = n := by
  induction n with
  | zero => rfl
  | succ n ih =>
    rw [show 2 + (n + 1) = (2 + n) + 1 by omega, List.range_succ, List.filter_append, List.length_append, ih]
    simp
theorem room_drop {m L i : Nat} {F : Pg} (h : RoomOk m L i F) (hL : L / 8 = 2 + i) : RoomOk m L 0 (dropP F) ∧ (freeOf (dropP F)).length = i := by
  have hu : ∀ k, (dropP F).used k = false := by
    intro k
    show (F.used k && !decide (k ∈ F.fresh)) = false
    rw [h.used, h.fresh]
    by_cases hk : 2 ≤ k ∧ k < 2 + i
    · have : k ∈ List.range' 2 i := by rw [List.mem_range'_1]; omega
      simp [this]
    · simp [hk]
  refine ⟨⟨h.nd, by have := h.lo; omega, fun k => ?_, rfl, h.mt, h.dead⟩, ?_⟩
  · rw [hu]; symm; simp
  · unfold freeOf freeUpTo
    have hp : pagesOf (dropP F).d = 2 + i := by rw [← hL]; exact h.pages
    rw [hp]
    refine (filter_len_iff _ _ _ fun k _ => ?_).trans (filter_ge i)
    rw [hu]; simp
end Wb

namespace Wb
open Go

structure FileOk (m : Nat) (ss : List Sec) (F : Pg) : Prop where
  nd : ND m ss F.d
  len : 16 ≤ ss.length
  metas : Metas ss F.mt
  mok : MtOk F.mt (ss.length / 8)
  dead : F.dead = false
theorem FileOk.pages {m : Nat} {ss : List Sec} {F : Pg} (h : FileOk m ss F) : pagesOf F.d = ss.length / 8 := by
  unfold pagesOf; rw [nd_len h.nd]
theorem RoomOk.ok {m L i : Nat} {F : Pg} (h : RoomOk m L i F) : ∃ ss, FileOk m ss F ∧ ss.length = L := by
  obtain ⟨ss, h1, h2, h3⟩ := h.nd
  refine ⟨ss, ⟨h1, by have := h.lo; omega, h3, by rw [h.mt]; exact mt1_ok _, h.dead⟩, h2⟩
theorem rising_mem {F : Pg} {ids : List Int} (h : Rising F ids) {x : Int} (hx : x ∈ ids) : 2 ≤ x ∧ x < pagesOf F.d := by
  obtain ⟨j, hj⟩ := List.mem_iff_getElem?.1 hx
  have := (h j x hj).1
  unfold isPg at this
  simpa using this
theorem next_ok {F : Pg} {root count : Int} {ids : List Int} {mark : Nat} (hc : commitOk F root count ids) (hw : pagesOf F.d ≤ 12500) (hg : F.mt.gen + 1 < 2 ^ 64) (hm : mark < 2 ^ 64) : MtOk (nextMt F root count mark) (pagesOf F.d) := by
  obtain ⟨h1, h2, h3, h4⟩ := hc
  have hr : root = 0 ∨ (2 ≤ root ∧ root < pagesOf F.d) := by
    rcases h2 with h | h
    · exact .inl h
    · exact .inr (rising_mem h1 h)
  refine ⟨⟨hg, ?_, ?_, hm⟩, ?_, ?_, ?_, ?_⟩ <;> simp only [nextMt] <;> omega
theorem rising_pages {F F2 : Pg} (h : pagesOf F2.d = pagesOf F.d) {ids : List Int} (hr : Rising F ids) : Rising F2 ids := by
  intro j x hj
  have := hr j x hj
  unfold isPg at this ⊢
  rw [h]; exact this
theorem commit_ok {m : Nat} {ss : List Sec} {F : Pg} (h : FileOk m ss F) (hw : pagesOf F.d ≤ 12500) {root count : Int} {ids : List Int} {mark : Nat} (hc : commitOk F root count ids) (hg : F.mt.gen + 1 < 2 ^ 64) (hm : mark < 2 ^ 64) :
    ∃ D', wrMeta F.d (nextMt F root count mark) = (D', 0) ∧ pagesOf D' = pagesOf F.d ∧ FileOk m (ss.set ((nextMt F root count mark).gen % 2 * 8) (metaS (nextMt F root count mark))) (keepP { F with d := D', mt := nextMt F root count mark } ids) := by
  obtain ⟨D', h1, h2⟩ := nd_commit h.nd (nextMt F root count mark) h.len
  have hp : pagesOf D' = ss.length / 8 := by unfold pagesOf; rw [nd_len h2, List.length_set]
  refine ⟨D', h1, by rw [hp, h.pages], h2, by rw [List.length_set]; exact h.len, h.metas.next h.mok.ok h.len rfl, ?_, h.dead⟩
  rw [List.length_set, ← h.pages]
  exact next_ok hc hw hg hm
theorem rising_nil (F : Pg) : Rising F [] := fun j x h => by simp at h

/-! ### PageMeta -/
/-- The meta of a generation. -/
def pmMt (mark g : Nat) : Mt := if g ≤ 1 then ⟨g, 0, 0, 0⟩ else ⟨g, 0, g - 2, (mark + (g - 2)) % 2 ^ 64⟩
/-- The sector of a generation's meta; nought: none. -/
def pmSec (mark g : Nat) : Sec := if g = 0 then Sec.zero else metaS (pmMt mark g)
structure MetaOk (mark i : Nat) (F : Pg) : Prop where
  mt : F.mt = pmMt mark (i + 1)
  ok : ∃ ss, FileOk 500 ss F ∧ ss.length = 16 ∧ ss[(i + 1) % 2 * 8]? = some (pmSec mark (i + 1)) ∧ ss[i % 2 * 8]? = some (pmSec mark i)
theorem meta_start (mark : Nat) : ∃ D', openD (Dv.new 500) = (D', 0) ∧ openE (Dv.new 500) = 0 ∧ MetaOk mark 0 (openP D') := by
  obtain ⟨D', h1, h2⟩ := nd_begin (m := 500) (by decide) (by decide)
  have hp : pagesOf D' = 2 := by unfold pagesOf; rw [nd_len h2]; rfl
  have hb := best_of h2 begin_metas (mt1_ok _)
  refine ⟨D', h1, openE_ok h1 h2 begin_metas (mt1_ok _) (by simp), hb, _, ⟨h2, by simp, ?_, ?_, rfl⟩, by simp, rfl, rfl⟩
  · show Metas _ (bestMt D'); rw [hb]; exact begin_metas
  · show MtOk (bestMt D') _; rw [hb]; exact mt1_ok _
theorem meta_commit {mark i : Nat} {F : Pg} (h : MetaOk mark i F) (hi : i < 100) : ∃ D', wrMeta F.d (nextMt F 0 i ((mark + i) % 2 ^ 64)) = (D', 0) ∧ pagesOf D' = pagesOf F.d ∧ commitOk F 0 i [] ∧
    MetaOk mark (i + 1) (keepP { F with d := D', mt := nextMt F 0 i ((mark + i) % 2 ^ 64) } []) := by
  obtain ⟨ss, h1, h2, h3, h4⟩ := h.ok
  have hp : pagesOf F.d = 2 := by rw [h1.pages, h2]
  have hc : commitOk F 0 i [] := ⟨rising_nil F, .inl rfl, by omega, by omega⟩
  have hgen : F.mt.gen = i + 1 := by rw [h.mt]; unfold pmMt; split <;> rfl
  obtain ⟨D', g1, g2, g3⟩ := commit_ok h1 (by omega) hc (by rw [hgen]; omega) (Nat.mod_lt (mark + i) (show 0 < 2 ^ 64 by decide))
  have hn : nextMt F 0 i ((mark + i) % 2 ^ 64) = pmMt mark (i + 2) := by
    unfold nextMt pmMt
    rw [if_neg (by omega), hgen]
    simp
  rw [hn] at g1 g3 ⊢
  refine ⟨D', g1, g2, hc, rfl, _, g3, by rw [List.length_set]; exact h2, ?_, ?_⟩
  · have : (pmMt mark (i + 2)).gen = i + 2 := by unfold pmMt; rw [if_neg (by omega)]
    rw [this, show i + 1 + 1 = i + 2 by omega, List.getElem?_set_self (by have := Nat.mod_lt (i + 2) (show 0 < 2 by decide); omega)]
    unfold pmSec
    rw [if_neg (by omega)]
  · have : (pmMt mark (i + 2)).gen = i + 2 := by unfold pmMt; rw [if_neg (by omega)]
    rw [this, List.getElem?_set_ne (by omega)]
    exact h3
/-- What the law reads in the page k. -/
def pmGen (i k : Nat) : Nat := if (i + 1) % 2 = k then i + 1 else i
theorem meta_read {mark i : Nat} {F : Pg} (h : MetaOk mark i F) {k : Nat} (hk : k < 2) : F.d.read [112] ((8 * k : Nat) : Int) = (pmSec mark (pmGen i k), 0) := by
  obtain ⟨ss, h1, h2, h3, h4⟩ := h.ok
  unfold pmGen
  split
  · rename_i e
    refine nd_read h1.nd ?_
    rw [e] at h3
    rw [Nat.mul_comm]; exact h3
  · rename_i e
    refine nd_read h1.nd ?_
    have : i % 2 = k := by omega
    rw [this] at h4
    rw [Nat.mul_comm]; exact h4
theorem meta_open {mark i : Nat} {F : Pg} (h : MetaOk mark i F) : ∃ D', openD F.d = (D', 0) ∧ openE F.d = 0 ∧ (openP D').mt = pmMt mark (i + 1) := by
  obtain ⟨ss, h1, h2, h3, h4⟩ := h.ok
  obtain ⟨D', g1, g2⟩ := nd_open h1.nd
  have hp : pagesOf D' = ss.length / 8 := by unfold pagesOf; rw [nd_len g2]
  have hok : MtOk F.mt (pagesOf D') := by rw [hp]; exact h1.mok
  exact ⟨D', g1, openE_ok g1 g2 h1.metas hok h1.len, (best_of g2 h1.metas hok).trans h.mt⟩

/-! ### PageRefuses -/
theorem free_least {m : Nat} {ss : List Sec} {F : Pg} (h : FileOk m ss F) {r : Nat} (hr : isLeast F r) : 2 ≤ r ∧ (r * 8 ≤ ss.length ∨ r ≤ 2) := by
  have h1 : LeastRel F r := ⟨hr.1, hr.2.1⟩
  have h2 := h.pages
  refine ⟨hr.1, ?_⟩
  rcases Nat.lt_or_ge 2 r with h3 | h3
  · have := (hr.2.1 (r - 1) (by omega) (by omega)).1
    left; omega
  · right; exact h3
theorem refuse_put {ss : List Sec} {F : Pg} (h : FileOk 500 ss F) (hl : ss.length = 56) (b : List UInt8) {r : Nat} (hr : isLeast F r) : (putP F b r).2 = 0 := by
  have h1 := free_least h hr
  obtain ⟨D', _, h3⟩ := nd_put h.nd b r (by omega) (by omega)
  rw [h3]
/-- Sixteen sectors of a one and noughts. -/
def oneSec : Sec := ⟨1 :: List.replicate 63 0, by simp⟩
theorem bad_start : ∃ D1, (Dv.new 100).make [112] = (D1, 0) ∧ ND 100 [] D1 := nd_new (m := 100) (by decide)
theorem bad_write {i : Nat} {D : Dv} (h : ND 100 (List.replicate i oneSec) D) (hi : i < 100) : ∃ D', D.write [112] i oneSec = (D', 0) ∧ ND 100 (List.replicate (i + 1) oneSec) D' := by
  obtain ⟨D', h1, h2⟩ := nd_app h oneSec (by rw [List.length_replicate]; exact hi)
  rw [List.length_replicate] at h1
  exact ⟨D', h1, by rw [List.replicate_succ']; exact h2⟩
theorem metaAt_one (id long : Nat) : metaAt (oneSec, 0) id long = (mt0, false) := by
  unfold metaAt
  rw [if_neg (fun h => by have := h.2.1; revert this; decide)]
  rfl
theorem bad_open {D : Dv} (h : ND 100 (List.replicate 16 oneSec) D) : openE D = 12 ∧ (openD D).2 = 0 := by
  obtain ⟨D', h1, h2⟩ := nd_open h
  have r0 := nd_read h2 (k := 0) (s := oneSec) rfl
  have r8 := nd_read h2 (k := 8) (s := oneSec) rfl
  refine ⟨?_, by rw [h1]⟩
  unfold openE
  rw [h1]
  simp only
  rw [if_neg (by simp), if_pos]
  left
  unfold bestMt
  rw [show ((0 : Int) = ((0 : Nat) : Int)) from rfl, show ((8 : Int) = ((8 : Nat) : Int)) from rfl, r0, r8, metaAt_one, metaAt_one]
  rfl
end Wb

namespace Wb
open Go

theorem commitOk_one {F : Pg} {p : Nat} (h2 : 2 ≤ p) (hp : p < pagesOf F.d) {count : Int} (h0 : 0 ≤ count) (h1 : count ≤ 4611686018427387904) : commitOk F p count [(p : Int)] := by
  refine ⟨fun j x hj => ?_, .inr (by simp), h0, h1⟩
  cases j with
  | zero =>
    simp only [List.getElem?_cons_zero, Option.some.injEq] at hj
    subst hj
    refine ⟨?_, fun y h => by omega⟩
    unfold isPg
    simp only [Bool.and_eq_true, decide_eq_true_eq]
    omega
  | succ j => simp at hj
theorem awake9_plain : ∃ (D1 : Dv) (F2 : Pg) (D3 : Dv), openD (Dv.new 200) = (D1, 0) ∧ openE (Dv.new 200) = 0 ∧ (openP D1).mt = mt1 ∧ pagesOf D1 = 2 ∧ freeOf (openP D1) = [] ∧
    (∀ r, isLeast (openP D1) r → r = 2) ∧ putP (openP D1) [120] 2 = (F2, 0) ∧ F2.dead = false ∧ F2.mt = mt1 ∧ F2.fresh = [2] ∧ commitOk F2 2 3 [2] ∧ wrMeta F2.d (nextMt F2 2 3 7) = (D3, 0) ∧ pagesOf D3 = pagesOf F2.d ∧
    nextMt F2 2 3 7 = ⟨2, 2, 3, 7⟩ ∧ readP (keepP { F2 with d := D3, mt := nextMt F2 2 3 7 } [2]) 2 = (wholeP [120], 0) ∧ readP (keepP { F2 with d := D3, mt := nextMt F2 2 3 7 } [2]) 0 = ([], 1) := by
  obtain ⟨D1, h1, h2, h3⟩ := room_start (m := 200) (by decide) (by decide)
  obtain ⟨F2, h4, h5⟩ := room_put h3 [120] (by decide)
  obtain ⟨ss, h6, h7⟩ := h5.ok
  have hp2 : pagesOf F2.d = 3 := by rw [h5.pages]; rfl
  have hc : commitOk F2 2 3 [2] := commitOk_one (p := 2) (by decide) (by omega) (by decide) (by decide)
  have hmt := h5.mt
  obtain ⟨D3, h8, h9, h10⟩ := commit_ok (mark := 7) h6 (by omega) hc (by rw [hmt]; decide) (by decide)
  have hnx : nextMt F2 2 3 7 = ⟨2, 2, 3, 7⟩ := by unfold nextMt; rw [hmt]; rfl
  obtain ⟨ss1, g1, g2, g3⟩ := h3.nd
  obtain ⟨D4, g4, g5⟩ := nd_put g1 [120] 2 (by omega) (.inr (by decide))
  have hF2 : F2.d = D4 := by
    have := h4.symm.trans g5
    rw [(Prod.mk.inj this).1]
  have hss : FileOk 200 (putAt ss1 (2 * 8) (pageSec [120]) 8) F2 := by
    refine ⟨by rw [hF2]; exact g4, ?_, ?_, ?_, h5.dead⟩
    · rw [putAt_len (by omega)]; omega
    · rw [hmt]; rw [h3.mt] at g3; exact g3.put _ (by omega) (by decide)
    · rw [hmt]; exact mt1_ok _
  obtain ⟨D5, k1, k2, k3⟩ := commit_ok (mark := 7) hss (by omega) hc (by rw [hmt]; decide) (by decide)
  have hD : D5 = D3 := by
    have := h8.symm.trans k1
    exact (Prod.mk.inj this).1.symm
  subst hD
  refine ⟨D1, F2, D5, h1, h2, h3.mt, h3.pages, free_none h3 rfl, fun r hr => room_least h3 hr, h4, h5.dead, hmt, ?_, hc, h8, h9, hnx, ?_, ?_⟩
  · rw [h5.fresh]; rfl
  · have hl : (putAt ss1 (2 * 8) (pageSec [120]) 8).length = 24 := by rw [putAt_len (by omega)]; omega
    have hr := nd_page (F := keepP { F2 with d := D5, mt := nextMt F2 2 3 7 } [2]) k3.nd (id := 2) (by decide) (by rw [List.length_set, hl]; decide)
    refine hr.trans ?_
    rw [← pageOf_put (ss := ss1) (id := 2) [120] (by omega) (by decide)]
    congr 1
    apply pageOf_far
    intro k hk1 hk2
    rw [List.getElem?_set_ne]
    have := Nat.mod_lt (nextMt F2 2 3 7).gen (show 0 < 2 by decide)
    omega
  · unfold readP isPg
    rw [if_neg (by simp)]
end Wb
