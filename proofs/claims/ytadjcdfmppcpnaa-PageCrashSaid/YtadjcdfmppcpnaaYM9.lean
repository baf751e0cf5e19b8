import Derived.Test.YtadjcdfmppcpnaaYLaw9
import Derived.Test.YtadjcdfmppcpnaaYH4
import Derived.Test.YtadjcdfmppcpnaaYP9p
/-! PagePlays: the statement's own rows in memory beside the file. -/
namespace Wb
open Go Go.RowKit Go.Maps Go.MapKept Go.ChangeMaps
variable {P : Program} {w w' : World} {ops : Array Oper} {rest : List Oper} {o : Oper} {a : Act} {Q : Exit → Act → World → Prop}
/-- T{x, y}. -/
theorem wl_slice2 (hg : o.guard = none) (t : TypeId) (x y : Operand) (hop : o.op = .buildSlice t 2 #[(0, x), (1, y)]) (e : TypeId) (z : Value) (by1 : Nat) (ht : P.underlying t = some (.slice e)) (h2 : (P.info? e).map (fun i => (i.zero, i.size, i.bytes)) = some (some z, 1, by1)) (hzc : z.cells = #[z])
    (u v : Value) (hx : a.eval x = u) (hy : a.eval y = v) (hu : u.cells = #[u]) (hv : v.cells = #[v])
    (hK : ∀ b w', w.heap.size ≤ b → w'.heap[b]? = some (.cells #[u, v] e (0, 0)) → Keeps w w' (fun _ => False) → wpList P ops Q rest (a.put o.dst (.slice (some ⟨b, 0, none⟩) 2 2)) w') : wpList P ops Q (o :: rest) a w := by
  refine wpList_plain hg fun K' hK' => ?_
  have hr : (Instr.buildSlice t 2 #[(0, u), (1, v)]).run P w = .ok (.slice (some ⟨w.heap.size, 0, none⟩) 2 2) (w.alloc (.cells #[u, v] e)) := by
    obtain ⟨i, hi, hz0, hs0, hb0⟩ := info_parts' h2
    simp [Instr.buildSlice, run_underlying ht, Instr.fill, zeroValue, Go.sizeOf, typeInfo, hi, hz0, hs0, hzc, hu, hv, newRow, newObj, Sem.run, Result.andThen]
    have hA : ((Array.map (fun x => [z][x % 1]?.getD default) (Array.range 2)).setIfInBounds 0 u).setIfInBounds 1 v = #[u, v] := by
      apply Array.toList_inj.1
      simp [Array.toList_range, List.range_succ]
    rw [hA]
  unfold Oper.wp execOp
  simp only [hop, List.map_toArray, List.map_cons, List.map_nil, hx, hy, hr, Sem.run_bind, Sem.run_pure, Result.andThen_ok]
  exact hK' _ _ (hK _ _ (Nat.le_refl _) (heap_alloc w _).1 ((Keeps.refl w _).alloc _))
end Wb
namespace Go.Proofs.Ytadjcdfmppcpnaa
open Go Go.RowKit Go.Maps Wb

def boolsV (l : List Bool) : List Value := l.map Value.bool
def textsV (l : List (List UInt8)) : List Value := l.map fun t => Value.string (bs t)
theorem boolsV_len (l : List Bool) : (boolsV l).length = l.length := by simp [boolsV]
theorem textsV_len (l : List (List UInt8)) : (textsV l).length = l.length := by simp [textsV]
theorem boolsV_at {l : List Bool} {j : Nat} {b : Bool} (h : l[j]? = some b) : (boolsV l)[j]? = some (.bool b) := by simp [boolsV, h]
theorem textsV_at {l : List (List UInt8)} {j : Nat} {b : List UInt8} (h : l[j]? = some b) : (textsV l)[j]? = some (.string (bs b)) := by simp [textsV, h]
theorem boolsV_set (l : List Bool) (j : Nat) (b : Bool) : (boolsV l).set j (.bool b) = boolsV (l.set j b) := by simp [boolsV]
theorem textsV_set (l : List (List UInt8)) (j : Nat) (b : List UInt8) : (textsV l).set j (.string (bs b)) = textsV (l.set j b) := by simp [textsV]
theorem info_bool : (Try.prog.info? 4).map (fun i => (i.zero, i.size, i.bytes)) = some (some (.bool false), 1, 1) := by kernel_rfl
theorem info_text : (Try.prog.info? 9).map (fun i => (i.zero, i.size, i.bytes)) = some (some (.string ByteArray.empty), 1, 16) := by kernel_rfl

def Own3 (O : Nat → Prop) (u k t : Value) (g : Nat) : Prop := O g ∨ u.ownBlock = some g ∨ k.ownBlock = some g ∨ t.ownBlock = some g
structure PlMem (w0 w : World) (f : Nat) (dv : DH) (F : Pg) (O : Nat → Prop) (u k t : Value) (us ks : List Bool) (ts : List (List UInt8)) : Prop where
  iu : isOwn w w0.heap.size 4 u (boolsV us)
  ik : isOwn w w0.heap.size 4 k (boolsV ks)
  it : isOwn w w0.heap.size 9 t (textsV ts)
  uk : ∀ g, u.ownBlock = some g → k.ownBlock ≠ some g
  ut : ∀ g, u.ownBlock = some g → t.ownBlock ≠ some g
  kt : ∀ g, k.ownBlock = some g → t.ownBlock ≠ some g
  io : ∀ g, O g → w0.heap.size ≤ g ∧ u.ownBlock ≠ some g ∧ k.ownBlock ≠ some g ∧ t.ownBlock ≠ some g
  law : Law9 w0 w f dv F (Own3 O u k t)
/-- The file beside blocks of the statement's own, some of which are written or made anew. -/
theorem Law9.swap {w0 w w' : World} {f : Nat} {dv : DH} {F : Pg} {X Y : Nat → Prop} (h : Law9 w0 w f dv F X) (hk : Keeps w w' X) (hX : ∀ i, X i → w0.heap.size ≤ i) (hY : ∀ i, Y i → X i ∨ w.heap.size ≤ i) (hl : ∀ i, Y i → i < w'.heap.size) : Law9 w0 w' f dv F Y := by
  have h6 := h.wrote hk hX
  obtain ⟨bu, fv, k1, k2, k3, k4⟩ := h
  refine ⟨bu, fv, k1.kept hk (fun i hi hs => (k2 i hs).1 hi), fun i hi => ⟨fun hv => ?_, (k2 i hi).2⟩, hl, h6.keeps⟩
  rcases hY i hv with h1 | h1
  · exact (k2 i hi).1 h1
  · exact absurd (k1.lt hi) (Nat.not_lt.2 h1)
section
variable {w0 w w' : World} {f : Nat} {dv : DH} {F F2 : Pg} {O O' : Nat → Prop} {u k t : Value} {us ks : List Bool} {ts : List (List UInt8)}
theorem PlMem.low (h : PlMem w0 w f dv F O u k t us ks ts) : ∀ i, Own3 O u k t i → w0.heap.size ≤ i := fun i hi => by
  rcases hi with hi | hi | hi | hi
  · exact (h.io i hi).1
  · exact (h.iu.blk i hi).1
  · exact (h.ik.blk i hi).1
  · exact (h.it.blk i hi).1
theorem PlMem.lt (h : PlMem w0 w f dv F O u k t us ks ts) : ∀ i, Own3 O u k t i → i < w.heap.size := by
  obtain ⟨bu, fv, k1, k2, k3, k4⟩ := h.law
  exact k3
theorem PlMem.new (h : PlMem w0 w f dv F O u k t us ks ts) (hk : Keeps w w' (fun _ => False)) : PlMem w0 w' f dv F O u k t us ks ts :=
  ⟨h.iu.new hk, h.ik.new hk, h.it.new hk, h.uk, h.ut, h.kt, h.io, h.law.new hk⟩
/-- A block of the statement's own is written; others are new. -/
theorem PlMem.turnO (h : PlMem w0 w f dv F O u k t us ks ts) (hk : Keeps w w' O) (hO : ∀ g, O' g → O g ∨ w.heap.size ≤ g) (hl : ∀ g, O' g → g < w'.heap.size) : PlMem w0 w' f dv F O' u k t us ks ts := by
  have hk2 : Keeps w w' (Own3 O u k t) := hk.mono (fun i _ hi => .inl hi)
  refine ⟨h.iu.kept hk (fun g hg ho => (h.io g ho).2.1 hg), h.ik.kept hk (fun g hg ho => (h.io g ho).2.2.1 hg), h.it.kept hk (fun g hg ho => (h.io g ho).2.2.2 hg), h.uk, h.ut, h.kt, fun g hg => ?_, h.law.swap hk2 h.low (fun i hi => ?_) (fun i hi => ?_)⟩
  · rcases hO g hg with h1 | h1
    · exact h.io g h1
    · refine ⟨Nat.le_trans h.law.keeps.size h1, fun e => ?_, fun e => ?_, fun e => ?_⟩
      · exact absurd (h.iu.blk g e).2 (Nat.not_lt.2 h1)
      · exact absurd (h.ik.blk g e).2 (Nat.not_lt.2 h1)
      · exact absurd (h.it.blk g e).2 (Nat.not_lt.2 h1)
  · rcases hi with hi | hi
    · exact (hO i hi).imp .inl id
    · exact .inl (.inr hi)
  · rcases hi with hi | hi
    · exact hl i hi
    · exact Nat.lt_of_lt_of_le (h.lt i (.inr hi)) hk.size
theorem PlMem.more (h : PlMem w0 w f dv F O u k t us ks ts) (hk : Keeps w w' (fun _ => False)) (hO : ∀ g, O' g → O g ∨ w.heap.size ≤ g) (hl : ∀ g, O' g → g < w'.heap.size) : PlMem w0 w' f dv F O' u k t us ks ts :=
  h.turnO (hk.mono (fun _ _ h => h.elim)) hO hl
theorem PlMem.less (h : PlMem w0 w f dv F O u k t us ks ts) (hO : ∀ g, O' g → O g) : PlMem w0 w f dv F O' u k t us ks ts :=
  h.more (Keeps.refl _ _) (fun g hg => .inl (hO g hg)) (fun g hg => h.lt g (.inl (hO g hg)))
/-- A call on the file. -/
theorem PlMem.call (h : PlMem w0 w f dv F O u k t us ks ts) (hL : Law9 w0 w' f dv F2 (Own3 O u k t)) (hk : Keeps w w' (Apart w0 (Own3 O u k t))) : PlMem w0 w' f dv F2 O u k t us ks ts :=
  ⟨h.iu.kept hk (fun _ hg hh => hh.1 (.inr (.inl hg))), h.ik.kept hk (fun _ hg hh => hh.1 (.inr (.inr (.inl hg)))), h.it.kept hk (fun _ hg hh => hh.1 (.inr (.inr (.inr hg)))), h.uk, h.ut, h.kt, h.io, hL⟩
/-- One of the three rows is written, or laid anew. -/
theorem PlMem.wroteU {u' : Value} {us' : List Bool} (h : PlMem w0 w f dv F O u k t us ks ts) (ho : isOwn w' w0.heap.size 4 u' (boolsV us')) (hk : Keeps w w' (fun b => u.ownBlock = some b)) (hat : u'.ownBlock = u.ownBlock ∨ u'.ownBlock = some w.heap.size) : PlMem w0 w' f dv F O u' k t us' ks ts := by
  have hk2 : Keeps w w' (Own3 O u k t) := hk.mono (fun i _ hi => .inr (.inl hi))
  have hnew : ∀ g, u'.ownBlock = some g → u.ownBlock = some g ∨ g = w.heap.size := fun g hg => by
    rcases hat with h1 | h1
    · left; rw [← h1]; exact hg
    · right; rw [h1] at hg; simpa using hg.symm
  refine ⟨ho, h.ik.kept hk (fun g hg e => h.uk g e hg), h.it.kept hk (fun g hg e => h.ut g e hg), fun g hg e => ?_, fun g hg e => ?_, h.kt, fun g hg => ?_, h.law.swap hk2 h.low (fun i hi => ?_) (fun i hi => ?_)⟩
  · rcases hnew g hg with h1 | h1
    · exact h.uk g h1 e
    · have := (h.ik.blk g e).2; omega
  · rcases hnew g hg with h1 | h1
    · exact h.ut g h1 e
    · have := (h.it.blk g e).2; omega
  · refine ⟨(h.io g hg).1, fun e => ?_, (h.io g hg).2.2⟩
    rcases hnew g e with h1 | h1
    · exact (h.io g hg).2.1 h1
    · have := h.lt g (.inl hg); omega
  · rcases hi with hi | hi | hi
    · exact .inl (.inl hi)
    · rcases hnew i hi with h1 | h1
      · exact .inl (.inr (.inl h1))
      · right; omega
    · exact .inl (.inr (.inr hi))
  · rcases hi with hi | hi | hi
    · exact Nat.lt_of_lt_of_le (h.lt i (.inl hi)) hk.size
    · exact (ho.blk i hi).2
    · exact Nat.lt_of_lt_of_le (h.lt i (.inr (.inr hi))) hk.size
theorem PlMem.wroteK {k' : Value} {ks' : List Bool} (h : PlMem w0 w f dv F O u k t us ks ts) (ho : isOwn w' w0.heap.size 4 k' (boolsV ks')) (hk : Keeps w w' (fun b => k.ownBlock = some b)) (hat : k'.ownBlock = k.ownBlock ∨ k'.ownBlock = some w.heap.size) : PlMem w0 w' f dv F O u k' t us ks' ts := by
  have hk2 : Keeps w w' (Own3 O u k t) := hk.mono (fun i _ hi => .inr (.inr (.inl hi)))
  have hnew : ∀ g, k'.ownBlock = some g → k.ownBlock = some g ∨ g = w.heap.size := fun g hg => by
    rcases hat with h1 | h1
    · left; rw [← h1]; exact hg
    · right; rw [h1] at hg; simpa using hg.symm
  refine ⟨h.iu.kept hk (fun g hg e => h.uk g hg e), ho, h.it.kept hk (fun g hg e => h.kt g e hg), fun g hg e => ?_, h.ut, fun g hg e => ?_, fun g hg => ?_, h.law.swap hk2 h.low (fun i hi => ?_) (fun i hi => ?_)⟩
  · rcases hnew g e with h1 | h1
    · exact h.uk g hg h1
    · have := (h.iu.blk g hg).2; omega
  · rcases hnew g hg with h1 | h1
    · exact h.kt g h1 e
    · have := (h.it.blk g e).2; omega
  · refine ⟨(h.io g hg).1, (h.io g hg).2.1, fun e => ?_, (h.io g hg).2.2.2⟩
    rcases hnew g e with h1 | h1
    · exact (h.io g hg).2.2.1 h1
    · have := h.lt g (.inl hg); omega
  · rcases hi with hi | hi | hi | hi
    · exact .inl (.inl hi)
    · exact .inl (.inr (.inl hi))
    · rcases hnew i hi with h1 | h1
      · exact .inl (.inr (.inr (.inl h1)))
      · right; omega
    · exact .inl (.inr (.inr (.inr hi)))
  · rcases hi with hi | hi | hi | hi
    · exact Nat.lt_of_lt_of_le (h.lt i (.inl hi)) hk.size
    · exact Nat.lt_of_lt_of_le (h.lt i (.inr (.inl hi))) hk.size
    · exact (ho.blk i hi).2
    · exact Nat.lt_of_lt_of_le (h.lt i (.inr (.inr (.inr hi)))) hk.size
theorem PlMem.wroteT {t' : Value} {ts' : List (List UInt8)} (h : PlMem w0 w f dv F O u k t us ks ts) (ho : isOwn w' w0.heap.size 9 t' (textsV ts')) (hk : Keeps w w' (fun b => t.ownBlock = some b)) (hat : t'.ownBlock = t.ownBlock ∨ t'.ownBlock = some w.heap.size) : PlMem w0 w' f dv F O u k t' us ks ts' := by
  have hk2 : Keeps w w' (Own3 O u k t) := hk.mono (fun i _ hi => .inr (.inr (.inr hi)))
  have hnew : ∀ g, t'.ownBlock = some g → t.ownBlock = some g ∨ g = w.heap.size := fun g hg => by
    rcases hat with h1 | h1
    · left; rw [← h1]; exact hg
    · right; rw [h1] at hg; simpa using hg.symm
  refine ⟨h.iu.kept hk (fun g hg e => h.ut g hg e), h.ik.kept hk (fun g hg e => h.kt g hg e), ho, h.uk, fun g hg e => ?_, fun g hg e => ?_, fun g hg => ?_, h.law.swap hk2 h.low (fun i hi => ?_) (fun i hi => ?_)⟩
  · rcases hnew g e with h1 | h1
    · exact h.ut g hg h1
    · have := (h.iu.blk g hg).2; omega
  · rcases hnew g e with h1 | h1
    · exact h.kt g hg h1
    · have := (h.ik.blk g hg).2; omega
  · refine ⟨(h.io g hg).1, (h.io g hg).2.1, (h.io g hg).2.2.1, fun e => ?_⟩
    rcases hnew g e with h1 | h1
    · exact (h.io g hg).2.2.2 h1
    · have := h.lt g (.inl hg); omega
  · rcases hi with hi | hi | hi | hi
    · exact .inl (.inl hi)
    · exact .inl (.inr (.inl hi))
    · exact .inl (.inr (.inr (.inl hi)))
    · rcases hnew i hi with h1 | h1
      · exact .inl (.inr (.inr (.inr h1)))
      · right; omega
  · rcases hi with hi | hi | hi | hi
    · exact Nat.lt_of_lt_of_le (h.lt i (.inl hi)) hk.size
    · exact Nat.lt_of_lt_of_le (h.lt i (.inr (.inl hi))) hk.size
    · exact Nat.lt_of_lt_of_le (h.lt i (.inr (.inr (.inl hi)))) hk.size
    · exact (ho.blk i hi).2
theorem keeps_own9 {w : World} {g n cap j : Nat} {x : Value} : Keeps w (w.setCell ⟨g, j, none⟩ x) (fun b => (Value.slice (some ⟨g, 0, none⟩) n cap).ownBlock = some b) :=
  ((Keeps.refl w (fun b => (Value.slice (some ⟨g, 0, none⟩) n cap).ownBlock = some b)).setCell (p := ⟨g, j, none⟩) (fun _ => rfl) x)
theorem PlMem.setU {g n cap j : Nat} {b : Bool} (h : PlMem w0 w f dv F O (.slice (some ⟨g, 0, none⟩) n cap) k t us ks ts) (hj : j < us.length) : PlMem w0 (w.setCell ⟨g, j, none⟩ (.bool b)) f dv F O (.slice (some ⟨g, 0, none⟩) n cap) k t (us.set j b) ks ts := by
  refine h.wroteU ?_ keeps_own9 (.inl rfl)
  rw [← boolsV_set]
  exact isOwn_set h.iu (by rw [boolsV_len]; exact hj) _
theorem PlMem.setK {g n cap j : Nat} {b : Bool} (h : PlMem w0 w f dv F O u (.slice (some ⟨g, 0, none⟩) n cap) t us ks ts) (hj : j < ks.length) : PlMem w0 (w.setCell ⟨g, j, none⟩ (.bool b)) f dv F O u (.slice (some ⟨g, 0, none⟩) n cap) t us (ks.set j b) ts := by
  refine h.wroteK ?_ keeps_own9 (.inl rfl)
  rw [← boolsV_set]
  exact isOwn_set h.ik (by rw [boolsV_len]; exact hj) _
theorem PlMem.setT {g n cap j : Nat} {b : List UInt8} (h : PlMem w0 w f dv F O u k (.slice (some ⟨g, 0, none⟩) n cap) us ks ts) (hj : j < ts.length) : PlMem w0 (w.setCell ⟨g, j, none⟩ (.string (bs b))) f dv F O u k (.slice (some ⟨g, 0, none⟩) n cap) us ks (ts.set j b) := by
  refine h.wroteT ?_ keeps_own9 (.inl rfl)
  rw [← textsV_set]
  exact isOwn_set h.it (by rw [textsV_len]; exact hj) _
end
end Go.Proofs.Ytadjcdfmppcpnaa
