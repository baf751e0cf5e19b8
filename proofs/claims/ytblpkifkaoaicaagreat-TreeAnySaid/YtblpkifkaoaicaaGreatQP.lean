/- Lemmas and contracts of functions, joined. -/
import Derived.WalkKit
namespace Wb
open Go

abbrev Nm := List UInt8
def bs (l : Nm) : ByteArray := ⟨l.toArray⟩
theorem bs_size (l : Nm) : (bs l).size = l.length := by simp [bs, ByteArray.size]
theorem bs_list (l : Nm) : (bs l).data.toList = l := by simp [bs]
theorem bs_inj {a b : Nm} (h : bs a = bs b) : a = b := by rw [← bs_list a, h, bs_list]

theorem ba_size (b : ByteArray) : b.size = b.data.toList.length := by show b.data.size = _; simp
theorem ba_loop (b : ByteArray) (n : Nat) : ∀ (i : Nat) (r : List UInt8), b.size - i = n → ByteArray.toList.loop b i r = r.reverse ++ b.data.toList.drop i := by
  induction n with
  | zero =>
    intro i r h
    rw [ByteArray.toList.loop]
    have : ¬ i < b.size := by omega
    rw [if_neg this, List.drop_eq_nil_of_le (by rw [ba_size] at h; omega)]
    simp
  | succ n ih =>
    intro i r h
    rw [ByteArray.toList.loop]
    have hi : i < b.size := by omega
    rw [if_pos hi, ih (i + 1) _ (by omega)]
    have hi' : i < b.data.toList.length := by rw [ba_size] at hi; exact hi
    rw [List.drop_eq_getElem_cons hi']
    have : b.get! i = b.data.toList[i] := by
      unfold ByteArray.get!
      simp at hi'
      simp [getElem!_pos, hi']
    simp [this]
theorem ba_toList (b : ByteArray) : b.toList = b.data.toList := by
  unfold ByteArray.toList
  rw [ba_loop b _ 0 [] rfl]; simp
theorem bs_toList (l : Nm) : (bs l).toList = l := by rw [ba_toList, bs_list]

/-- A sector: 64 octets. -/
abbrev Sec := { l : List UInt8 // l.length = 64 }
def Sec.zero : Sec := ⟨List.replicate 64 0, by simp⟩

structure Cell where
  now : Sec
  last : Sec
  nowBad : Bool
  lastBad : Bool
  there : Bool
  fresh : Bool

def Cell.zero : Cell := ⟨Sec.zero, Sec.zero, false, false, false, false⟩
def Cell.lasts (c : Cell) : Cell := { c with last := c.now, lastBad := c.nowBad, there := true, fresh := false }

abbrev Files := List (Nm × List Cell)

def fget (fs : Files) (n : Nm) : Option (List Cell) :=
  match fs with
  | [] => none
  | (m, x) :: r => if n = m then some x else fget r n

def fset (fs : Files) (n : Nm) (v : List Cell) : Files :=
  match fs with
  | [] => [(n, v)]
  | (m, x) :: r => if n = m then (n, v) :: r else if n < m then (n, v) :: (m, x) :: r else (m, x) :: fset r n v

def fdel (fs : Files) (n : Nm) : Files :=
  match fs with
  | [] => []
  | (m, x) :: r => if n = m then r else (m, x) :: fdel r n

def used (fs : Files) : Nat := (fs.map (·.2.length)).sum
def sorted (fs : Files) : Prop := fs.Pairwise (fun a b => a.1 < b.1)

theorem fget_fset_same (fs : Files) (n : Nm) (v : List Cell) : fget (fset fs n v) n = some v := by
  induction fs with
  | nil => simp [fset, fget]
  | cons a r ih =>
    obtain ⟨m, x⟩ := a
    simp only [fset]
    split
    · simp [fget]
    · split
      · simp [fget]
      · rename_i h _; simp [fget, h, ih]

theorem fget_fset_other (fs : Files) {n k : Nm} (v : List Cell) (hne : k ≠ n) : fget (fset fs n v) k = fget fs k := by
  induction fs with
  | nil => simp [fset, fget, hne]
  | cons a r ih =>
    obtain ⟨m, x⟩ := a
    simp only [fset]
    split
    · rename_i h; subst h; simp [fget, hne]
    · split
      · simp [fget, hne]
      · simp only [fget, ih]

theorem fset_fset (fs : Files) (n : Nm) (a b : List Cell) : fset (fset fs n a) n b = fset fs n b := by
  induction fs with
  | nil => simp [fset]
  | cons x r ih =>
    obtain ⟨m, y⟩ := x
    simp only [fset]
    split
    · simp [fset]
    · split
      · simp [fset]
      · rename_i h1 h2; simp [fset, h1, h2, ih]

theorem nm_irrefl (a : Nm) : ¬ a < a := List.lt_irrefl a
theorem nm_trans {a b c : Nm} (h : a < b) (k : b < c) : a < c := List.lt_trans h k
theorem nm_total {a b : Nm} (h : a ≠ b) (k : ¬ a < b) : b < a := by
  rcases Nat.lt_or_ge 0 1 with _ | h0
  · exact Classical.byContradiction fun h3 => h (List.le_antisymm (List.not_lt.1 h3) (List.not_lt.1 k))
  · omega

theorem sorted_lt {m : Nm} {x : List Cell} {r : Files} (h : sorted ((m, x) :: r)) {a : Nm × List Cell} (ha : a ∈ r) : m < a.1 := (List.pairwise_cons.1 h).1 a ha
theorem sorted_tail {m : Nm} {x : List Cell} {r : Files} (h : sorted ((m, x) :: r)) : sorted r := (List.pairwise_cons.1 h).2

theorem fget_mem {fs : Files} {n : Nm} {v : List Cell} (h : fget fs n = some v) : (n, v) ∈ fs := by
  induction fs with
  | nil => simp [fget] at h
  | cons a r ih =>
    obtain ⟨m, x⟩ := a
    simp only [fget] at h
    split at h
    · rename_i e; subst e; cases h; simp
    · exact List.mem_cons_of_mem _ (ih h)

theorem fget_of_mem {fs : Files} (hs : sorted fs) {n : Nm} {v : List Cell} (h : (n, v) ∈ fs) : fget fs n = some v := by
  induction fs with
  | nil => simp at h
  | cons a r ih =>
    obtain ⟨m, x⟩ := a
    rcases List.mem_cons.1 h with e | h'
    · cases e; simp [fget]
    · have := sorted_lt hs h'
      have hne : n ≠ m := fun e => nm_irrefl m (by simpa [e] using this)
      simp [fget, hne, ih (sorted_tail hs) h']

theorem fget_none {fs : Files} {n : Nm} (h : ∀ a ∈ fs, n < a.1) : fget fs n = none := by
  cases hc : fget fs n with
  | none => rfl
  | some v => exact absurd (h _ (fget_mem hc)) (nm_irrefl n)

theorem mem_fset {fs : Files} {n : Nm} {v : List Cell} {a : Nm × List Cell} (h : a ∈ fset fs n v) : a = (n, v) ∨ a ∈ fs := by
  induction fs with
  | nil => simp [fset] at h; exact .inl h
  | cons b r ih =>
    obtain ⟨m, x⟩ := b
    simp only [fset] at h
    split at h
    · rcases List.mem_cons.1 h with h | h
      · exact .inl h
      · exact .inr (List.mem_cons_of_mem _ h)
    · split at h
      · rcases List.mem_cons.1 h with h | h
        · exact .inl h
        · exact .inr h
      · rcases List.mem_cons.1 h with h | h
        · exact .inr (by rw [h]; simp)
        · rcases ih h with h | h
          · exact .inl h
          · exact .inr (List.mem_cons_of_mem _ h)

theorem sorted_fset {fs : Files} (hs : sorted fs) (n : Nm) (v : List Cell) : sorted (fset fs n v) := by
  induction fs with
  | nil => simp [fset, sorted]
  | cons b r ih =>
    obtain ⟨m, x⟩ := b
    have h1 := List.pairwise_cons.1 hs
    simp only [fset]
    split
    · rename_i e; subst e; exact List.pairwise_cons.2 ⟨h1.1, h1.2⟩
    · split
      · rename_i hlt
        refine List.pairwise_cons.2 ⟨fun a ha => ?_, hs⟩
        rcases List.mem_cons.1 ha with e | ha
        · rw [e]; exact hlt
        · exact nm_trans hlt (h1.1 a ha)
      · rename_i hne hlt
        refine List.pairwise_cons.2 ⟨fun a ha => ?_, ih h1.2⟩
        rcases mem_fset ha with e | ha
        · rw [e]; exact nm_total hne hlt
        · exact h1.1 a ha

theorem used_fset {fs : Files} (hs : sorted fs) (n : Nm) (v : List Cell) : used (fset fs n v) + ((fget fs n).map List.length).getD 0 = used fs + v.length := by
  induction fs with
  | nil => simp [fset, fget, used]
  | cons b r ih =>
    obtain ⟨m, x⟩ := b
    simp only [fset]
    split
    · rename_i e; subst e; simp [fget, used]; omega
    · split
      · rename_i hne hlt
        have : fget r n = none := fget_none (fun a ha => nm_trans hlt (sorted_lt hs ha))
        simp [fget, hne, this, used]; omega
      · rename_i hne _
        have := ih (sorted_tail hs)
        simp only [used, List.map_cons, List.sum_cons, fget, hne, if_false] at this ⊢
        omega

theorem used_fdel {fs : Files} (n : Nm) : used (fdel fs n) + ((fget fs n).map List.length).getD 0 = used fs := by
  induction fs with
  | nil => simp [fdel, fget, used]
  | cons b r ih =>
    obtain ⟨m, x⟩ := b
    simp only [fdel]
    split
    · rename_i e; subst e; simp [fget, used]; omega
    · rename_i hne
      simp only [used, List.map_cons, List.sum_cons, fget, hne, if_false] at ih ⊢
      omega

theorem used_le {fs : Files} {n : Nm} {l : List Cell} (h : fget fs n = some l) : l.length ≤ used fs := by
  have := used_fdel (fs := fs) n
  rw [h] at this
  simp at this
  omega

/-- A device. -/
structure Dv where
  most : Nat
  fuse : Int
  files : Files

structure Dv.wf (D : Dv) : Prop where
  most : D.most ≤ 100000
  fuse : -1 ≤ D.fuse
  fuse' : D.fuse ≤ 9223372036854775807
  sorted : sorted D.files
  used : used D.files ≤ D.most
  nm : ∀ a ∈ D.files, a.1.length ≤ 20

theorem nm_fset {fs : Files} (h : ∀ a ∈ fs, a.1.length ≤ 20) {n : Nm} {l : List Cell} (hf : fget fs n = some l) (v : List Cell) : ∀ a ∈ fset fs n v, a.1.length ≤ 20 := fun a ha => by
  rcases mem_fset ha with e | ha
  · rw [e]; exact h (n, l) (fget_mem hf)
  · exact h a ha
theorem nm_fset_new {fs : Files} (h : ∀ a ∈ fs, a.1.length ≤ 20) {n : Nm} (hn : n.length ≤ 20) (v : List Cell) : ∀ a ∈ fset fs n v, a.1.length ≤ 20 := fun a ha => by
  rcases mem_fset ha with e | ha
  · rw [e]; exact hn
  · exact h a ha

def Dv.new (most : Int) : Dv := ⟨(min (max most 0) 100000).toNat, -1, []⟩
def Dv.done (D : Dv) : Dv := { D with fuse := if 0 < D.fuse then D.fuse - 1 else D.fuse }

def Dv.make (D : Dv) (n : Nm) : Dv × Int :=
  if D.fuse = 0 then (D, 8)
  else if n = [] ∨ 20 < n.length then (D, 1)
  else if (fget D.files n).isSome then (D, 9)
  else ({ D with files := fset D.files n [] }.done, 0)

def Dv.thr (D : Dv) (n : Nm) : Int := if D.fuse = 0 then 8 else if (fget D.files n).isSome then 0 else 10

def Dv.drop (D : Dv) (n : Nm) : Dv × Int :=
  if D.thr n ≠ 0 then (D, D.thr n) else ({ D with files := fdel D.files n }.done, 0)

def Cell.write (c : Cell) (s : Sec) : Cell := { c with now := s, nowBad := false, fresh := true }

def Dv.cells (D : Dv) (n : Nm) : List Cell := (fget D.files n).getD []
def Dv.len (D : Dv) (n : Nm) : Nat := (D.cells n).length

def Dv.write (D : Dv) (n : Nm) (k : Int) (s : Sec) : Dv × Int :=
  if D.thr n ≠ 0 then (D, D.thr n)
  else if k < 0 ∨ D.len n < k then (D, 1)
  else if k = D.len n then
    if D.most ≤ Wb.used D.files then (D, 6) else ({ D with files := fset D.files n (D.cells n ++ [Cell.zero.write s]) }.done, 0)
  else ({ D with files := fset D.files n ((D.cells n).modify k.toNat (·.write s)) }.done, 0)

def Dv.read (D : Dv) (n : Nm) (k : Int) : Sec × Int :=
  match fget D.files n with
  | none => (Sec.zero, 10)
  | some l => if k < 0 ∨ l.length ≤ k then (Sec.zero, 1) else
    match l[k.toNat]? with
    | some c => if c.nowBad then (Sec.zero, 7) else (c.now, 0)
    | none => (Sec.zero, 1)

def Dv.sync (D : Dv) (n : Nm) : Dv × Int :=
  if D.thr n ≠ 0 then (D, D.thr n) else ({ D with files := fset D.files n ((D.cells n).map fun (c : Cell) => if c.fresh then c.lasts else c) }.done, 0)

def Dv.setFuse (D : Dv) (n : Int) : Dv := { D with fuse := max n (-1) }

def Dv.names (D : Dv) : List Nm := D.files.map (·.1)
end Wb

namespace Wb
/-- So many octets of a number. -/
def be : Nat → Nat → List UInt8
  | 0, _ => []
  | n + 1, v => UInt8.ofNat (v / 256 ^ n % 256) :: be n v
/-- Octets as a number. -/
def num (l : List UInt8) : Nat := l.foldl (fun v c => (v * 256 + c.toNat) % 2 ^ 64) 0
theorem be_len (n v : Nat) : (be n v).length = n := by
  induction n with
  | zero => rfl
  | succ n ih => simp [be, ih]
theorem be_get (n v k : Nat) (hk : k < n) : (be n v)[k]? = some (UInt8.ofNat (v / 256 ^ (n - 1 - k) % 256)) := by
  induction n generalizing k with
  | zero => omega
  | succ n ih =>
    cases k with
    | zero => simp [be]
    | succ k =>
      simp only [be, List.getElem?_cons_succ]
      rw [ih k (by omega)]
      congr 5
      omega
theorem be_take (n v k : Nat) (hk : k < n) : (be n v).take (k + 1) = (be n v).take k ++ [UInt8.ofNat (v / 256 ^ (n - 1 - k) % 256)] := by
  rw [List.take_add_one, be_get n v k hk]; rfl
theorem num_foldl (n v : Nat) : ∀ a : Nat, a * 256 ^ n + v % 256 ^ n < 2 ^ 64 → (be n v).foldl (fun v c => (v * 256 + c.toNat) % 2 ^ 64) a = a * 256 ^ n + v % 256 ^ n := by
  induction n with
  | zero => intro a h; simp [be, Nat.mod_one]
  | succ n ih =>
    intro a h
    simp only [be, List.foldl_cons]
    have h1 : (UInt8.ofNat (v / 256 ^ n % 256)).toNat = v / 256 ^ n % 256 := by
      simp
    have h2 : v % 256 ^ (n + 1) = (v / 256 ^ n % 256) * 256 ^ n + v % 256 ^ n := by
      have := Nat.mod_mul (x := v) (a := 256 ^ n) (b := 256)
      rw [Nat.pow_succ, this, Nat.add_comm, Nat.mul_comm]
    have h3 : a * 256 ^ (n + 1) = a * 256 * 256 ^ n := by rw [Nat.pow_succ, Nat.mul_assoc, Nat.mul_comm 256]
    rw [h1]
    have h4 : a * 256 + v / 256 ^ n % 256 < 2 ^ 64 := by
      have h5 : 1 ≤ 256 ^ n := Nat.one_le_iff_ne_zero.2 (by simp)
      have h6 : (a * 256 + v / 256 ^ n % 256) * 1 ≤ (a * 256 + v / 256 ^ n % 256) * 256 ^ n := Nat.mul_le_mul_left _ h5
      rw [h3, h2, ← Nat.add_assoc, ← Nat.add_mul] at h
      omega
    rw [Nat.mod_eq_of_lt h4, ih _ (by rw [Nat.add_mul, Nat.add_assoc, ← h2, ← h3]; exact h), h2, h3, Nat.add_mul]
    omega
theorem num_be (n v : Nat) (h : v < 256 ^ n) (h64 : v < 2 ^ 64) : num (be n v) = v := by
  unfold num
  rw [num_foldl n v 0 (by simp [Nat.mod_eq_of_lt h]; exact h64)]
  simp [Nat.mod_eq_of_lt h]
theorem num_lt (l : List UInt8) : num l < 2 ^ 64 := by
  unfold num
  suffices ∀ (l : List UInt8) (a : Nat), a < 2 ^ 64 → l.foldl (fun v c => (v * 256 + c.toNat) % 2 ^ 64) a < 2 ^ 64 from this l 0 (by decide)
  intro l
  induction l with
  | nil => intro a h; exact h
  | cons c r ih => intro a h; exact ih _ (Nat.mod_lt _ (by decide))
theorem num_snoc (l : List UInt8) (c : UInt8) : num (l ++ [c]) = (num l * 256 + c.toNat) % 2 ^ 64 := by simp [num]
end Wb

namespace Wb
open Go

end Wb

namespace Wb
open Go

/-! ### SectFuse -/
end Wb

namespace Wb
open Go

end Wb

namespace Wb
open Go

def oneF (m : Nat) (n : Nm) (l : List Cell) : Dv := ⟨m, -1, [(n, l)]⟩
theorem one_get (n : Nm) (l : List Cell) : fget [(n, l)] n = some l := by simp [fget]
theorem one_set (n : Nm) (l v : List Cell) : fset [(n, l)] n v = [(n, v)] := by simp [fset]
theorem one_used (n : Nm) (l : List Cell) : used [(n, l)] = l.length := by simp [used]
theorem one_thr (m : Nat) (n : Nm) (l : List Cell) : (oneF m n l).thr n = 0 := by simp [oneF, Dv.thr, one_get]
theorem one_cells (m : Nat) (n : Nm) (l : List Cell) : (oneF m n l).cells n = l := by simp [oneF, Dv.cells, one_get]
theorem one_len (m : Nat) (n : Nm) (l : List Cell) : (oneF m n l).len n = l.length := by simp [Dv.len, one_cells]
theorem one_start (m : Nat) (n : Nm) (hm : m ≤ 100000) (h : n ≠ [] ∧ n.length ≤ 20) : (Dv.new m).make n = (oneF m n [], 0) := by
  have h1 : Dv.new m = ⟨m, -1, []⟩ := by
    have : (min (max (m : Int) 0) 100000).toNat = m := by omega
    unfold Dv.new; rw [this]
  rw [h1]
  unfold Dv.make
  rw [if_neg (show ¬ (-1 : Int) = 0 by decide), if_neg (by rintro (e | e); exact h.1 e; omega)]
  rfl
theorem one_append (m : Nat) (n : Nm) (l : List Cell) (s : Sec) (h : l.length < m) : (oneF m n l).write n l.length s = (oneF m n (l ++ [Cell.zero.write s]), 0) := by
  unfold Dv.write
  rw [if_neg (by rw [one_thr]; simp), one_len, one_cells, if_neg (by omega), if_pos rfl]
  simp only [oneF, one_used, one_set]
  rw [if_neg (by omega)]; rfl
theorem one_over (m : Nat) (n : Nm) (l : List Cell) (k : Nat) (s : Sec) (h : k < l.length) : (oneF m n l).write n k s = (oneF m n (l.modify k (·.write s)), 0) := by
  unfold Dv.write
  rw [if_neg (by rw [one_thr]; simp), one_len, one_cells, if_neg (by omega), if_neg (by omega), Int.toNat_natCast]
  simp only [oneF, one_set]; rfl
theorem one_read (m : Nat) (n : Nm) (l : List Cell) (k : Nat) (c : Cell) (h : l[k]? = some c) : (oneF m n l).read n k = if c.nowBad then (Sec.zero, 7) else (c.now, 0) := by
  have hk := (List.getElem?_eq_some_iff.1 h).1
  have hg : fget (oneF m n l).files n = some l := one_get n l
  unfold Dv.read
  rw [hg]
  simp only [Int.toNat_natCast, h]
  rw [if_neg (by omega)]
theorem one_sync (m : Nat) (n : Nm) (l : List Cell) : (oneF m n l).sync n = (oneF m n (l.map fun c => if c.fresh then c.lasts else c), 0) := by
  unfold Dv.sync
  rw [if_neg (by rw [one_thr]; simp), one_cells]
  simp only [oneF, one_set]; rfl
/-! ### what a crash makes of each cell -/
/-! ### SectEnds -/
end Wb

namespace Wb
open Go

end Wb

namespace Wb
open Go

end Wb

namespace Wb
open Go

/-- A meta. -/
structure Mt where
  gen : Nat
  root : Nat
  count : Nat
  mark : Nat
def markL : List UInt8 := [119, 97, 121, 98, 105, 108, 108, 49]
def metaL (m : Mt) : List UInt8 := markL ++ be 8 m.gen ++ be 8 m.root ++ be 8 m.count ++ be 8 m.mark
theorem metaL_len (m : Mt) : (metaL m).length = 40 := by simp [metaL, markL, be_len]
def metaS (m : Mt) : Sec := ⟨metaL m ++ List.replicate 24 0, by simp [metaL_len]⟩
structure Mt.ok (m : Mt) : Prop where
  gen : m.gen < 2 ^ 64
  root : m.root < 2 ^ 63
  count : m.count < 2 ^ 63
  mark : m.mark < 2 ^ 64
def rdN (s : Sec) (i : Nat) : Nat := num ((s.1.drop (8 * i)).take 8)
def metaP (s : Sec) : Mt := ⟨rdN s 1, rdN s 2, rdN s 3, rdN s 4⟩
def metaFits (m : Mt) (id : Nat) : Prop := m.gen ≠ 0 ∧ m.gen % 2 = id ∧ m.root ≤ 4611686018427387904 ∧ m.count ≤ 4611686018427387904
instance (m : Mt) (id : Nat) : Decidable (metaFits m id) := by unfold metaFits; infer_instance
/-- What stands where a meta may be: a meta, and whether it is one. -/
def metaAt (r : Sec × Int) (id long : Nat) : Mt × Bool :=
  if r.2 = 0 ∧ r.1.1.take 8 = markL ∧ metaFits (metaP r.1) id then
    (metaP r.1, decide (metaS (metaP r.1) = r.1 ∧ ((metaP r.1).root = 0 ∨ (2 ≤ (metaP r.1).root ∧ (metaP r.1).root < long))))
  else (⟨0, 0, 0, 0⟩, false)
theorem metaP_ok {s : Sec} {id : Nat} (h : metaFits (metaP s) id) : (metaP s).ok :=
  ⟨num_lt _, by have := h.2.2.1; omega, by have := h.2.2.2; omega, num_lt _⟩
end Wb

namespace Wb
open Go

/-- How many pages there are. -/
def pagesOf (D : Dv) : Nat := D.len [112] / 8
theorem len_small {D : Dv} (h : D.wf) (n : Nm) : D.len n ≤ 100000 := by
  unfold Dv.len Dv.cells
  cases hf : fget D.files n with
  | none => simp
  | some l =>
    have h1 := used_le hf
    have h2 := h.used
    have h3 := h.most
    simp only [Option.getD_some]
    omega
theorem pages_small {D : Dv} (h : D.wf) : pagesOf D ≤ 12500 := by
  have := len_small h [112]
  unfold pagesOf
  omega
/-- A file of pages, plain. -/
structure Pg where
  d : Dv
  mt : Mt
  used : Nat → Bool
  fresh : List Nat
  dead : Bool
def isPg (F : Pg) (k : Int) : Bool := decide (2 ≤ k) && decide (k < pagesOf F.d)
def isLeast (F : Pg) (r : Nat) : Prop := 2 ≤ r ∧ (∀ j, 2 ≤ j → j < r → j < pagesOf F.d ∧ F.used j = true) ∧ (pagesOf F.d ≤ r ∨ F.used r = false)
def LeastRel (F : Pg) (k : Nat) : Prop := 2 ≤ k ∧ (∀ j, 2 ≤ j → j < k → j < pagesOf F.d ∧ F.used j = true)
theorem LeastRel.le {F : Pg} {k : Nat} (h : LeastRel F k) : k ≤ pagesOf F.d + 2 := by
  rcases Nat.lt_or_ge 2 k with h2 | h2
  · have := (h.2 (k - 1) (by omega) (by omega)).1
    omega
  · omega
/-- These are pages, rising. -/
def Rising (F : Pg) (l : List Int) : Prop := ∀ (j : Nat) x, l[j]? = some x → isPg F x = true ∧ ∀ y, 0 < j → l[j - 1]? = some y → y < x
def RisingTo (F : Pg) (l : List Int) (k : Nat) : Prop := ∀ (j : Nat) x, j < k → l[j]? = some x → isPg F x = true ∧ ∀ y, 0 < j → l[j - 1]? = some y → y < x
open Classical in
noncomputable def risingB (F : Pg) (l : List Int) : Bool := decide (Rising F l)
theorem risingB_true {F : Pg} {l : List Int} (h : Rising F l) : risingB F l = true := by unfold risingB; simpa using h
theorem risingB_false {F : Pg} {l : List Int} (h : ¬ Rising F l) : risingB F l = false := by unfold risingB; simpa using h
def keptU (l : List Int) (j : Nat) : Bool := decide ((j : Int) ∈ l)
def keepP (F : Pg) (l : List Int) : Pg := { F with used := keptU l, fresh := [] }
theorem keptU_succ {l : List Int} {q k : Nat} (h : l[q]? = some (k : Int)) : keptU (l.take (q + 1)) = fun j => keptU (l.take q) j || decide (j = k) := by
  funext j
  unfold keptU
  rw [List.take_add_one, h]
  simp only [Option.toList_some, List.mem_append, List.mem_singleton, Bool.decide_or]
  congr 1
  simp only [decide_eq_decide]
  omega
theorem isPg_small {F : Pg} {x : Int} (h : isPg F x = true) (hw : F.d.wf) : 2 ≤ x ∧ x ≤ 12500 := by
  unfold isPg at h
  simp only [Bool.and_eq_true, decide_eq_true_eq] at h
  have := pages_small hw
  omega
def dropP (F : Pg) : Pg := { F with used := fun j => F.used j && !decide (j ∈ F.fresh), fresh := [] }
def dropU (F : Pg) (q : Nat) (j : Nat) : Bool := F.used j && !decide (j ∈ F.fresh.take q)
theorem dropU_zero (F : Pg) : dropU F 0 = F.used := by funext j; simp [dropU]
theorem dropU_all (F : Pg) : dropU F F.fresh.length = (dropP F).used := by funext j; simp [dropU, dropP]
theorem dropU_succ {F : Pg} {q k : Nat} (h : F.fresh[q]? = some k) : dropU F (q + 1) = fun j => dropU F q j && !decide (j = k) := by
  funext j
  unfold dropU
  rw [List.take_add_one, h]
  simp only [Option.toList_some, List.mem_append, List.mem_singleton, Bool.decide_or, Bool.not_or, Bool.and_assoc]
end Wb

namespace Wb
open Go

/-- q sectors written one behind the other from sector b on, till one falls. -/
def wrUp (D : Dv) (b : Nat) (f : Nat → Sec) : Nat → Dv × Int
  | 0 => (D, 0)
  | q + 1 => if (wrUp D b f q).2 = 0 then (wrUp D b f q).1.write [112] ((b : Int) + q) (f q) else wrUp D b f q
theorem wrUp_bad {D : Dv} {b : Nat} {f : Nat → Sec} {q : Nat} (h : (wrUp D b f q).2 ≠ 0) : ∀ k, wrUp D b f (q + k) = wrUp D b f q
  | 0 => rfl
  | k + 1 => by
    have ih := wrUp_bad h k
    rw [← Nat.add_assoc, wrUp, ih, if_neg h]
theorem wrUp_step {D D' : Dv} {b : Nat} {f : Nat → Sec} {q : Nat} (h : wrUp D b f q = (D', 0)) : wrUp D b f (q + 1) = D'.write [112] ((b : Int) + q) (f q) := by
  rw [wrUp, h]; rfl

def padS (l : List UInt8) : Sec := ⟨l.take 64 ++ List.replicate (64 - l.length) 0, by rw [List.length_append, List.length_take, List.length_replicate]; omega⟩
def pageSec (l : List UInt8) (i : Nat) : Sec := padS (l.drop (64 * i))
def mt0 : Mt := ⟨0, 0, 0, 0⟩
def mt1 : Mt := ⟨1, 0, 0, 0⟩
def beginSec (k : Nat) : Sec := if k = 8 then metaS mt1 else Sec.zero
def begunD (D : Dv) : Dv × Int := if (D.make [112]).2 = 0 then wrUp (D.make [112]).1 0 beginSec 16 else D.make [112]
def betterMt (a : Mt) (r : Mt × Bool) : Mt := if r.2 = true ∧ a.gen < r.1.gen then r.1 else a
def bestMt (D : Dv) : Mt := betterMt (betterMt mt0 (metaAt (D.read [112] 0) 0 (pagesOf D))) (metaAt (D.read [112] 8) 1 (pagesOf D))
/-- The device behind what an opening begins with. -/
def openD (D : Dv) : Dv × Int :=
  if [112] ∈ D.names then D.sync [112] else if (begunD D).2 = 0 then (begunD D).1.sync [112] else begunD D
def openE (D : Dv) : Int := if (openD D).2 ≠ 0 then (openD D).2 else if (bestMt (openD D).1).gen = 0 ∨ pagesOf (openD D).1 < 2 then 12 else 0

/-- A meta is written. -/
def wrMeta (D : Dv) (m : Mt) : Dv × Int :=
  if (D.sync [112]).2 = 0 then
    (if ((D.sync [112]).1.write [112] ((m.gen % 2 : Nat) * 8) (metaS m)).2 = 0 then ((D.sync [112]).1.write [112] ((m.gen % 2 : Nat) * 8) (metaS m)).1.sync [112] else (D.sync [112]).1.write [112] ((m.gen % 2 : Nat) * 8) (metaS m))
  else D.sync [112]

/-! ### A device with the one file, all of whose sectors can be read -/
def ND (m : Nat) (ss : List Sec) (D : Dv) : Prop := ∃ l, D = oneF m [112] l ∧ l.map (·.now) = ss ∧ ∀ c ∈ l, c.nowBad = false
theorem nd_len {m : Nat} {ss : List Sec} {D : Dv} (h : ND m ss D) : D.len [112] = ss.length := by
  obtain ⟨l, rfl, rfl, _⟩ := h
  rw [one_len, List.length_map]
theorem nd_read {m : Nat} {ss : List Sec} {D : Dv} (h : ND m ss D) {k : Nat} {s : Sec} (hs : ss[k]? = some s) : D.read [112] (k : Int) = (s, 0) := by
  obtain ⟨l, rfl, rfl, hb⟩ := h
  rw [List.getElem?_map] at hs
  cases hc : l[k]? with
  | none => rw [hc] at hs; cases hs
  | some c =>
    rw [hc] at hs
    simp only [Option.map_some, Option.some.injEq] at hs
    rw [one_read _ _ _ _ c hc, hb c (List.mem_of_getElem? hc), hs]
    rfl
theorem nd_over {m : Nat} {ss : List Sec} {D : Dv} (h : ND m ss D) {k : Nat} (s : Sec) (hk : k < ss.length) : ∃ D', D.write [112] (k : Int) s = (D', 0) ∧ ND m (ss.set k s) D' := by
  obtain ⟨l, rfl, rfl, hb⟩ := h
  rw [List.length_map] at hk
  refine ⟨_, one_over _ _ _ _ _ hk, _, rfl, ?_, fun c hc => ?_⟩
  · apply List.ext_getElem?
    intro j
    rw [List.getElem?_map, List.getElem?_modify, List.getElem?_set, List.length_map, List.getElem?_map]
    by_cases hj : k = j
    · subst hj; simp [hk, Cell.write]
    · simp [hj]
  · obtain ⟨j, hj⟩ := List.mem_iff_getElem?.1 hc
    rw [List.getElem?_modify] at hj
    cases hl : l[j]? with
    | none => rw [hl] at hj; cases hj
    | some c0 =>
      rw [hl] at hj
      simp only [Option.map_eq_map, Option.map_some, Option.some.injEq] at hj
      have := hb c0 (List.mem_of_getElem? hl)
      split at hj
      · rw [← hj]; rfl
      · rw [← hj]; exact this
theorem nd_app {m : Nat} {ss : List Sec} {D : Dv} (h : ND m ss D) (s : Sec) (hk : ss.length < m) : ∃ D', D.write [112] (ss.length : Int) s = (D', 0) ∧ ND m (ss ++ [s]) D' := by
  obtain ⟨l, rfl, rfl, hb⟩ := h
  rw [List.length_map] at hk ⊢
  refine ⟨_, one_append _ _ _ _ hk, _, rfl, by simp [Cell.write], fun c hc => ?_⟩
  rcases List.mem_append.1 hc with h | h
  · exact hb c h
  · rw [List.mem_singleton.1 h]; rfl
theorem nd_sync {m : Nat} {ss : List Sec} {D : Dv} (h : ND m ss D) : ∃ D', D.sync [112] = (D', 0) ∧ ND m ss D' := by
  obtain ⟨l, rfl, rfl, hb⟩ := h
  refine ⟨_, one_sync _ _ _, _, rfl, ?_, fun c hc => ?_⟩
  · rw [List.map_map]
    apply List.map_congr_left
    intro c _
    simp only [Function.comp]
    split <;> rfl
  · obtain ⟨c0, h0, rfl⟩ := List.mem_map.1 hc
    have := hb c0 h0
    split
    · simpa [Cell.lasts] using this
    · exact this
theorem nd_new {m : Nat} (hm : m ≤ 100000) : ∃ D', (Dv.new m).make [112] = (D', 0) ∧ ND m [] D' := ⟨_, one_start m [112] hm ⟨by decide, by decide⟩, [], rfl, rfl, by simp⟩

def putAt (ss : List Sec) (b : Nat) (f : Nat → Sec) (q : Nat) : List Sec := ss.take b ++ (List.range q).map f ++ ss.drop (b + q)
theorem putAt_len {ss : List Sec} {b : Nat} {f : Nat → Sec} {q : Nat} (h : b ≤ ss.length) : (putAt ss b f q).length = max (b + q) ss.length := by
  simp [putAt]; omega
theorem putAt_zero (ss : List Sec) (b : Nat) (f : Nat → Sec) : putAt ss b f 0 = ss := by simp [putAt]
theorem putAt_get {ss : List Sec} {b : Nat} {f : Nat → Sec} {q : Nat} (h : b ≤ ss.length) (k : Nat) : (putAt ss b f q)[k]? = if k < b then ss[k]? else if k < b + q then some (f (k - b)) else ss[k]? := by
  unfold putAt
  by_cases h1 : k < b
  · rw [if_pos h1, List.append_assoc, List.getElem?_append_left (by simp; omega), List.getElem?_take_of_lt h1]
  · rw [if_neg h1]
    by_cases h2 : k < b + q
    · rw [if_pos h2, List.getElem?_append_left (by simp; omega), List.getElem?_append_right (by simp; omega)]
      have : k - min b ss.length < q := by omega
      have h3 : min b ss.length = b := by omega
      simp [h3, show k - b < q by omega]
    · rw [if_neg h2, List.getElem?_append_right (by simp; omega), List.getElem?_drop]
      congr 1
      simp
      omega
theorem putAt_succ {ss : List Sec} {b : Nat} {f : Nat → Sec} {q : Nat} (h : b ≤ ss.length) (hq : b + q < ss.length) : (putAt ss b f q).set (b + q) (f q) = putAt ss b f (q + 1) := by
  apply List.ext_getElem?
  intro k
  rw [List.getElem?_set, putAt_len h, putAt_get h, putAt_get h]
  by_cases h1 : b + q = k
  · subst h1
    rw [if_pos rfl, if_pos (by omega), if_neg (by omega), if_pos (by omega)]
    congr 2; omega
  · rw [if_neg h1]
    by_cases h2 : k < b
    · rw [if_pos h2, if_pos h2]
    · rw [if_neg h2, if_neg h2]
      by_cases h3 : k < b + q
      · rw [if_pos h3, if_pos (by omega)]
      · rw [if_neg h3, if_neg (by omega)]
theorem putAt_snoc {ss : List Sec} {b : Nat} {f : Nat → Sec} {q : Nat} (h : b ≤ ss.length) (hq : ss.length ≤ b + q) : putAt ss b f q ++ [f q] = putAt ss b f (q + 1) := by
  unfold putAt
  rw [List.drop_eq_nil_of_le hq, List.drop_eq_nil_of_le (by omega), List.range_succ]
  simp
theorem nd_wrUp {m : Nat} {ss : List Sec} {D : Dv} (h : ND m ss D) {b : Nat} (f : Nat → Sec) (hb : b ≤ ss.length) : ∀ q, (b + q ≤ ss.length ∨ b + q ≤ m) → ∃ D', wrUp D b f q = (D', 0) ∧ ND m (putAt ss b f q) D'
  | 0, _ => ⟨D, rfl, by rw [putAt_zero]; exact h⟩
  | q + 1, hq => by
    obtain ⟨D', h1, h2⟩ := nd_wrUp h f hb q (by omega)
    rw [wrUp_step h1]
    have hc : ((b : Int) + q) = ((b + q : Nat) : Int) := by omega
    rw [hc]
    have hl := putAt_len (f := f) (q := q) hb
    by_cases hk : b + q < ss.length
    · obtain ⟨D2, h3, h4⟩ := nd_over h2 (k := b + q) (f q) (by omega)
      exact ⟨D2, h3, by rw [← putAt_succ hb hk]; exact h4⟩
    · have hl2 : (putAt ss b f q).length = b + q := by omega
      have h3 := nd_app h2 (f q) (by omega)
      rw [hl2] at h3
      obtain ⟨D2, h3, h4⟩ := h3
      exact ⟨D2, h3, by rw [← putAt_snoc hb (by omega)]; exact h4⟩

/-! ### pages -/
end Wb

namespace Wb
open Go

/-- A page is put; id: the least that is free. -/
def putP (F : Pg) (b : List UInt8) (id : Nat) : Pg × Int :=
  if (wrUp F.d (id * 8) (pageSec b) 8).2 = 0 then ({ F with d := (wrUp F.d (id * 8) (pageSec b) 8).1, used := fun j => F.used j || decide (j = id), fresh := F.fresh ++ [id] }, 0)
  else ({ F with d := (wrUp F.d (id * 8) (pageSec b) 8).1 }, (wrUp F.d (id * 8) (pageSec b) 8).2)
def commitOk (F : Pg) (root count : Int) (ids : List Int) : Prop := Rising F ids ∧ (root = 0 ∨ root ∈ ids) ∧ 0 ≤ count ∧ count ≤ 4611686018427387904
def nextMt (F : Pg) (root count : Int) (mark : Nat) : Mt := ⟨F.mt.gen + 1, root.toNat, count.toNat, mark⟩
/-- A file that was opened over a device. -/
def openP (D : Dv) : Pg := ⟨D, bestMt D, fun j => decide (2 ≤ j ∧ j < pagesOf D), [], false⟩

/-! ### metas -/
theorem take8_meta (m : Mt) : (metaS m).1.take 8 = markL := by simp [metaS, metaL, markL]
theorem be8_cut (v : Nat) (pre post : List UInt8) (k : Nat) (hk : pre.length = k) : ((pre ++ (be 8 v ++ post)).drop k).take 8 = be 8 v := by
  subst hk
  rw [List.drop_left, List.take_append_of_le_length (by rw [be_len]; exact Nat.le_refl _), List.take_of_length_le (by rw [be_len]; exact Nat.le_refl _)]
theorem metaP_metaS {m : Mt} (h : m.ok) : metaP (metaS m) = m := by
  have hn : ∀ v, v < 2 ^ 64 → num (be 8 v) = v := fun v hv => num_be 8 v (by simpa using hv) hv
  have h1 : rdN (metaS m) 1 = m.gen := by
    unfold rdN metaS metaL
    simp only [List.append_assoc]
    rw [be8_cut m.gen markL _ 8 rfl, hn _ h.gen]
  have h2 : rdN (metaS m) 2 = m.root := by
    unfold rdN metaS metaL
    have e : markL ++ be 8 m.gen ++ be 8 m.root ++ be 8 m.count ++ be 8 m.mark ++ List.replicate 24 0 = (markL ++ be 8 m.gen) ++ (be 8 m.root ++ (be 8 m.count ++ be 8 m.mark ++ List.replicate 24 0)) := by simp only [List.append_assoc]
    simp only [e]
    rw [be8_cut m.root _ _ 16 (by simp [be_len, markL]), hn _ (by have := h.root; omega)]
  have h3 : rdN (metaS m) 3 = m.count := by
    unfold rdN metaS metaL
    have e : markL ++ be 8 m.gen ++ be 8 m.root ++ be 8 m.count ++ be 8 m.mark ++ List.replicate 24 0 = (markL ++ be 8 m.gen ++ be 8 m.root) ++ (be 8 m.count ++ (be 8 m.mark ++ List.replicate 24 0)) := by simp only [List.append_assoc]
    simp only [e]
    rw [be8_cut m.count _ _ 24 (by simp [be_len, markL]), hn _ (by have := h.count; omega)]
  have h4 : rdN (metaS m) 4 = m.mark := by
    unfold rdN metaS metaL
    have e : markL ++ be 8 m.gen ++ be 8 m.root ++ be 8 m.count ++ be 8 m.mark ++ List.replicate 24 0 = (markL ++ be 8 m.gen ++ be 8 m.root ++ be 8 m.count) ++ (be 8 m.mark ++ List.replicate 24 0) := by simp only [List.append_assoc]
    simp only [e]
    rw [be8_cut m.mark _ _ 32 (by simp [be_len, markL]), hn _ h.mark]
  unfold metaP
  rw [h1, h2, h3, h4]
theorem metaAt_good {m : Mt} {long : Nat} (h : m.ok) (h0 : m.gen ≠ 0) (h1 : m.root ≤ 4611686018427387904) (h2 : m.count ≤ 4611686018427387904) (h3 : m.root = 0 ∨ (2 ≤ m.root ∧ m.root < long)) : metaAt (metaS m, 0) (m.gen % 2) long = (m, true) := by
  unfold metaAt
  rw [if_pos ⟨rfl, take8_meta m, by simp only [metaP_metaS h]; exact ⟨h0, rfl, h1, h2⟩⟩, metaP_metaS h]
  simp [h3]
theorem metaAt_zero (id long : Nat) : metaAt (Sec.zero, 0) id long = (mt0, false) := by
  unfold metaAt
  rw [if_neg (fun h => by have := h.2.1; revert this; decide)]
  rfl
theorem metaAt_old {m : Mt} (h : m.ok) (id long : Nat) : metaAt (metaS m, 0) id long = (mt0, false) ∨ ∃ b, metaAt (metaS m, 0) id long = (m, b) := by
  unfold metaAt
  split
  · right; exact ⟨_, by rw [metaP_metaS h]⟩
  · left; rfl
/-- A meta that a file may have. -/
structure MtOk (m : Mt) (long : Nat) : Prop where
  ok : m.ok
  gen : m.gen ≠ 0
  root : m.root = 0 ∨ (2 ≤ m.root ∧ m.root < long)
  root' : m.root ≤ 4611686018427387904
  count : m.count ≤ 4611686018427387904
theorem MtOk.at {m : Mt} {long : Nat} (h : MtOk m long) : metaAt (metaS m, 0) (m.gen % 2) long = (m, true) := metaAt_good h.ok h.gen h.root' h.count h.root
/-- The meta stands in its page; what stands in the other one is older. -/
def Metas (ss : List Sec) (m : Mt) : Prop := ss[m.gen % 2 * 8]? = some (metaS m) ∧ ∃ s, ss[(m.gen + 1) % 2 * 8]? = some s ∧ (s = Sec.zero ∨ ∃ m', m'.ok ∧ s = metaS m' ∧ m'.gen < m.gen)
theorem older {s : Sec} {m : Mt} (h : s = Sec.zero ∨ ∃ m', m'.ok ∧ s = metaS m' ∧ m'.gen < m.gen) (h0 : m.gen ≠ 0) (id long : Nat) : (metaAt (s, 0) id long).1.gen < m.gen := by
  rcases h with rfl | ⟨m', h1, rfl, h2⟩
  · rw [metaAt_zero]; show 0 < m.gen; omega
  · rcases metaAt_old h1 id long with h | ⟨b, h⟩
    · rw [h]; show 0 < m.gen; omega
    · rw [h]; exact h2
theorem better_no {a m : Mt} {r : Mt × Bool} (h : r.1.gen < m.gen) (ha : a.gen < m.gen) : (betterMt a r).gen < m.gen := by
  unfold betterMt; split <;> assumption
theorem best_of {m : Nat} {ss : List Sec} {D : Dv} (hD : ND m ss D) {mt : Mt} (hm : Metas ss mt) (hok : MtOk mt (pagesOf D)) : bestMt D = mt := by
  obtain ⟨h1, s, h2, h3⟩ := hm
  have hlt := older h3 hok.gen
  have hat := hok.at
  have h0 : mt0.gen < mt.gen := by have := hok.gen; show 0 < mt.gen; omega
  unfold bestMt
  rcases Nat.mod_two_eq_zero_or_one mt.gen with e | e
  · have e2 : (mt.gen + 1) % 2 = 1 := by omega
    rw [e] at h1 hat; rw [e2] at h2
    have r0 := nd_read hD h1
    have r8 := nd_read hD h2
    simp only [Nat.zero_mul, Nat.one_mul] at r0 r8
    rw [show ((0 : Nat) : Int) = 0 from rfl] at r0
    rw [show ((8 : Nat) : Int) = 8 from rfl] at r8
    rw [r0, r8, hat]
    have hb : betterMt mt0 (mt, true) = mt := by unfold betterMt; rw [if_pos ⟨rfl, h0⟩]
    rw [hb]
    unfold betterMt
    rw [if_neg (fun h => by have := h.2; have := hlt 1 (pagesOf D); omega)]
  · have e2 : (mt.gen + 1) % 2 = 0 := by omega
    rw [e] at h1 hat; rw [e2] at h2
    have r0 := nd_read hD h2
    have r8 := nd_read hD h1
    simp only [Nat.zero_mul, Nat.one_mul] at r0 r8
    rw [show ((0 : Nat) : Int) = 0 from rfl] at r0
    rw [show ((8 : Nat) : Int) = 8 from rfl] at r8
    rw [r0, r8, hat]
    have hb := better_no (a := mt0) (r := metaAt (s, 0) 0 (pagesOf D)) (hlt 0 (pagesOf D)) h0
    unfold betterMt at hb ⊢
    rw [if_pos ⟨rfl, hb⟩]
theorem nd_commit {m : Nat} {ss : List Sec} {D : Dv} (hD : ND m ss D) (mt : Mt) (h16 : 16 ≤ ss.length) : ∃ D', wrMeta D mt = (D', 0) ∧ ND m (ss.set (mt.gen % 2 * 8) (metaS mt)) D' := by
  obtain ⟨D1, h1, h2⟩ := nd_sync hD
  have hk : mt.gen % 2 * 8 < ss.length := by have := Nat.mod_lt mt.gen (show 0 < 2 by decide); omega
  obtain ⟨D2, h3, h4⟩ := nd_over h2 (metaS mt) hk
  obtain ⟨D3, h5, h6⟩ := nd_sync h4
  refine ⟨D3, ?_, h6⟩
  unfold wrMeta
  rw [h1]
  simp only [if_true]
  have hc : ((mt.gen % 2 : Nat) : Int) * 8 = ((mt.gen % 2 * 8 : Nat) : Int) := by omega
  rw [hc, h3]
  simp only [if_true]
  exact h5
theorem Metas.next {ss : List Sec} {m : Mt} (h : Metas ss m) (hok : m.ok) (h16 : 16 ≤ ss.length) {m' : Mt} (hg : m'.gen = m.gen + 1) : Metas (ss.set (m'.gen % 2 * 8) (metaS m')) m' := by
  have hk : m'.gen % 2 * 8 < ss.length := by have := Nat.mod_lt m'.gen (show 0 < 2 by decide); omega
  refine ⟨by rw [List.getElem?_set_self hk], metaS m, ?_, .inr ⟨m, hok, rfl, by omega⟩⟩
  have e : (m'.gen + 1) % 2 = m.gen % 2 := by omega
  rw [e, List.getElem?_set_ne (by omega), h.1]
theorem nd_put {m : Nat} {ss : List Sec} {F : Pg} (hD : ND m ss F.d) (b : List UInt8) (id : Nat) (h1 : id * 8 ≤ ss.length) (h2 : id * 8 + 8 ≤ ss.length ∨ id * 8 + 8 ≤ m) :
    ∃ D', ND m (putAt ss (id * 8) (pageSec b) 8) D' ∧ putP F b id = ({ F with d := D', used := fun j => F.used j || decide (j = id), fresh := F.fresh ++ [id] }, 0) := by
  obtain ⟨D', h3, h4⟩ := nd_wrUp hD (pageSec b) h1 8 h2
  refine ⟨D', h4, ?_⟩
  unfold putP
  rw [h3]
  rfl
theorem putAt_far {ss : List Sec} {b : Nat} {f : Nat → Sec} {q : Nat} (h : b ≤ ss.length) {k : Nat} (hk : k < b ∨ b + q ≤ k) : (putAt ss b f q)[k]? = ss[k]? := by
  rw [putAt_get h]
  by_cases h1 : k < b
  · rw [if_pos h1]
  · rw [if_neg h1, if_neg (by omega)]
theorem Metas.put {ss : List Sec} {mt : Mt} (h : Metas ss mt) (f : Nat → Sec) {b : Nat} (h1 : b ≤ ss.length) (h2 : 16 ≤ b) : Metas (putAt ss b f 8) mt := by
  obtain ⟨a, s, c, d⟩ := h
  refine ⟨?_, s, ?_, d⟩
  · rw [putAt_far h1 (by have := Nat.mod_lt mt.gen (show 0 < 2 by decide); omega), a]
  · rw [putAt_far h1 (by have := Nat.mod_lt (mt.gen + 1) (show 0 < 2 by decide); omega), c]
/-! ### pages' octets -/
/-! ### opening -/
theorem nd_begin {m : Nat} (hm : m ≤ 100000) (h16 : 16 ≤ m) : ∃ D', openD (Dv.new m) = (D', 0) ∧ ND m ((List.range 16).map beginSec) D' := by
  obtain ⟨D1, h1, h2⟩ := nd_new hm
  obtain ⟨D2, h3, h4⟩ := nd_wrUp h2 (b := 0) beginSec (Nat.zero_le _) 16 (.inr (by omega))
  obtain ⟨D3, h5, h6⟩ := nd_sync h4
  refine ⟨D3, ?_, by simpa [putAt] using h6⟩
  unfold openD begunD
  rw [if_neg (by simp [Dv.new, Dv.names]), h1]
  simp only [if_true]
  rw [h3]
  simp only [if_true]
  exact h5
theorem begin_metas : Metas ((List.range 16).map beginSec) mt1 := ⟨rfl, Sec.zero, rfl, .inl rfl⟩
theorem mt1_ok (long : Nat) : MtOk mt1 long := ⟨⟨by decide, by decide, by decide, by decide⟩, by decide, .inl rfl, by decide, by decide⟩
theorem openE_ok {m : Nat} {ss : List Sec} {D D' : Dv} (h : openD D = (D', 0)) (hD : ND m ss D') {mt : Mt} (hm : Metas ss mt) (hok : MtOk mt (pagesOf D')) (h16 : 16 ≤ ss.length) : openE D = 0 := by
  unfold openE
  rw [h]
  simp only
  rw [if_neg (by simp), best_of hD hm hok, if_neg]
  have := hok.gen
  have h2 : pagesOf D' = ss.length / 8 := by unfold pagesOf; rw [nd_len hD]
  omega
end Wb

namespace Wb
open Go

/-- i pages were put, of L sectors in all. -/
structure RoomOk (m L i : Nat) (F : Pg) : Prop where
  nd : ∃ ss, ND m ss F.d ∧ ss.length = L ∧ Metas ss F.mt
  lo : 16 + 8 * i ≤ L
  used : ∀ k, F.used k = decide (2 ≤ k ∧ k < 2 + i)
  fresh : F.fresh = List.range' 2 i
  mt : F.mt = mt1
  dead : F.dead = false
theorem RoomOk.pages {m L i : Nat} {F : Pg} (h : RoomOk m L i F) : pagesOf F.d = L / 8 := by
  obtain ⟨ss, h1, h2, _⟩ := h.nd
  unfold pagesOf
  rw [nd_len h1, h2]
theorem room_start {m : Nat} (hm : m ≤ 100000) (h16 : 16 ≤ m) : ∃ D', openD (Dv.new m) = (D', 0) ∧ openE (Dv.new m) = 0 ∧ RoomOk m 16 0 (openP D') := by
  obtain ⟨D', h1, h2⟩ := nd_begin hm h16
  have hp : pagesOf D' = 2 := by unfold pagesOf; rw [nd_len h2]; rfl
  have hb := best_of h2 begin_metas (mt1_ok _)
  refine ⟨D', h1, openE_ok h1 h2 begin_metas (mt1_ok _) (by simp), ⟨_, h2, by simp, by show Metas _ (bestMt D'); rw [hb]; exact begin_metas⟩, Nat.le_refl _, fun k => ?_, rfl, hb, rfl⟩
  show decide (2 ≤ k ∧ k < pagesOf D') = _
  rw [hp]
end Wb

namespace Wb
open Go

structure FileOk (m : Nat) (ss : List Sec) (F : Pg) : Prop where
  nd : ND m ss F.d
  len : 16 ≤ ss.length
  metas : Metas ss F.mt
  mok : MtOk F.mt (ss.length / 8)
  dead : F.dead = false
theorem FileOk.pages {m : Nat} {ss : List Sec} {F : Pg} (h : FileOk m ss F) : pagesOf F.d = ss.length / 8 := by
  unfold pagesOf; rw [nd_len h.nd]
theorem RoomOk.ok {m L i : Nat} {F : Pg} (h : RoomOk m L i F) : ∃ ss, FileOk m ss F ∧ ss.length = L := by
  obtain ⟨ss, h1, h2, h3⟩ := h.nd
  refine ⟨ss, ⟨h1, by have := h.lo; omega, h3, by rw [h.mt]; exact mt1_ok _, h.dead⟩, h2⟩
theorem rising_mem {F : Pg} {ids : List Int} (h : Rising F ids) {x : Int} (hx : x ∈ ids) : 2 ≤ x ∧ x < pagesOf F.d := by
  obtain ⟨j, hj⟩ := List.mem_iff_getElem?.1 hx
  have := (h j x hj).1
  unfold isPg at this
  simpa using this
theorem next_ok {F : Pg} {root count : Int} {ids : List Int} {mark : Nat} (hc : commitOk F root count ids) (hw : pagesOf F.d ≤ 12500) (hg : F.mt.gen + 1 < 2 ^ 64) (hm : mark < 2 ^ 64) : MtOk (nextMt F root count mark) (pagesOf F.d) := by
  obtain ⟨h1, h2, h3, h4⟩ := hc
  have hr : root = 0 ∨ (2 ≤ root ∧ root < pagesOf F.d) := by
    rcases h2 with h | h
    · exact .inl h
    · exact .inr (rising_mem h1 h)
  refine ⟨⟨hg, ?_, ?_, hm⟩, ?_, ?_, ?_, ?_⟩ <;> simp only [nextMt] <;> omega
theorem rising_pages {F F2 : Pg} (h : pagesOf F2.d = pagesOf F.d) {ids : List Int} (hr : Rising F ids) : Rising F2 ids := by
  intro j x hj
  have := hr j x hj
  unfold isPg at this ⊢
  rw [h]; exact this
theorem commit_ok {m : Nat} {ss : List Sec} {F : Pg} (h : FileOk m ss F) (hw : pagesOf F.d ≤ 12500) {root count : Int} {ids : List Int} {mark : Nat} (hc : commitOk F root count ids) (hg : F.mt.gen + 1 < 2 ^ 64) (hm : mark < 2 ^ 64) :
    ∃ D', wrMeta F.d (nextMt F root count mark) = (D', 0) ∧ pagesOf D' = pagesOf F.d ∧ FileOk m (ss.set ((nextMt F root count mark).gen % 2 * 8) (metaS (nextMt F root count mark))) (keepP { F with d := D', mt := nextMt F root count mark } ids) := by
  obtain ⟨D', h1, h2⟩ := nd_commit h.nd (nextMt F root count mark) h.len
  have hp : pagesOf D' = ss.length / 8 := by unfold pagesOf; rw [nd_len h2, List.length_set]
  refine ⟨D', h1, by rw [hp, h.pages], h2, by rw [List.length_set]; exact h.len, h.metas.next h.mok.ok h.len rfl, ?_, h.dead⟩
  rw [List.length_set, ← h.pages]
  exact next_ok hc hw hg hm
/-! ### PageMeta -/
/-! ### PageRefuses -/
end Wb

namespace Wb
open Go

end Wb
