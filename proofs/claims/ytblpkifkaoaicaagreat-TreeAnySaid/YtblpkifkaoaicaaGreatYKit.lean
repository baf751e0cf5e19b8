import Derived.Maps.Keyed
import Derived.Maps.Own
import Derived.WalkKit
import Derived.DeepKeys5
import Derived.Deep.Quiet
import Derived.Deep.MidRow
import Derived.StillTailTactics
import Derived.OrdersHeld
namespace Wb
open Go Go.RowKit Go.Maps Go.MapKept Go.ChangeMaps

theorem l_a {α : Type _} (l : List α) (i : Nat) (a : α) : l.toArray.setIfInBounds i a = (l.set i a).toArray := List.setIfInBounds_toArray l i a
theorem l_s {α : Type _} {x : α} {xs : List α} {n : Nat} {a : α} : (x :: xs).set (n + 1) a = x :: xs.set n a := List.set_cons_succ
theorem l_z {α : Type _} {x : α} {xs : List α} {a : α} : (x :: xs).set 0 a = a :: xs := List.set_cons_zero
/-- What a call may have changed: blocks of 'S' alone, and new ones. -/
structure Keeps (w w' : World) (S : Nat → Prop) : Prop where
  os : w'.os = w.os
  tape : w'.tape = w.tape
  output : w'.output = w.output
  size : w.heap.size ≤ w'.heap.size
  block : ∀ k, k < w.heap.size → ¬ S k → w'.heap[k]? = w.heap[k]?

theorem Keeps.refl (w : World) (S : Nat → Prop) : Keeps w w S := ⟨rfl, rfl, rfl, Nat.le_refl _, fun _ _ _ => rfl⟩

theorem Keeps.trans {a b c : World} {S : Nat → Prop} (h : Keeps a b S) (k : Keeps b c S) : Keeps a c S :=
  ⟨k.os.trans h.os, k.tape.trans h.tape, k.output.trans h.output, Nat.le_trans h.size k.size, fun i hi hs => (k.block i (Nat.lt_of_lt_of_le hi h.size) hs).trans (h.block i hi hs)⟩

/-- A step that may have changed, of what was there at first, S alone. -/
theorem Keeps.then {a b c : World} {S T : Nat → Prop} (h : Keeps a b S) (k : Keeps b c T) (hT : ∀ i, i < a.heap.size → T i → S i) : Keeps a c S :=
  ⟨k.os.trans h.os, k.tape.trans h.tape, k.output.trans h.output, Nat.le_trans h.size k.size, fun i hi hs => (k.block i (Nat.lt_of_lt_of_le hi h.size) (fun t => hs (hT i hi t))).trans (h.block i hi hs)⟩

theorem Keeps.mono {a b : World} {S T : Nat → Prop} (h : Keeps a b S) (hT : ∀ i, i < a.heap.size → S i → T i) : Keeps a b T :=
  ⟨h.os, h.tape, h.output, h.size, fun i hi hs => h.block i hi (fun t => hs (hT i hi t))⟩

theorem Keeps.drew {a w : World} {S : Nat → Prop} (h : Keeps a w S) : Keeps a w.drew S := ⟨h.os, h.tape, h.output, h.size, h.block⟩
theorem Keeps.drewN {a w : World} {S : Nat → Prop} (h : Keeps a w S) (n : Nat) : Keeps a (w.drewN n) S := ⟨h.os, h.tape, h.output, h.size, h.block⟩

theorem Keeps.alloc {a w : World} {S : Nat → Prop} (h : Keeps a w S) (o : Obj) : Keeps a (w.alloc o) S :=
  h.trans ⟨rfl, rfl, rfl, by simp, fun k hk _ => Below.heap_alloc _ _ _ hk⟩

theorem Keeps.setCell {a w : World} {S : Nat → Prop} (h : Keeps a w S) {p : Addr} (hp : p.block < a.heap.size → S p.block) (u : Value) : Keeps a (w.setCell p u) S :=
  ⟨h.os, h.tape, h.output, by simpa [World.setCell] using h.size, fun i hi hs => by
    rw [Below.heap_setCell _ _ _ _ (fun e => hs (by rw [e]; exact hp (by rw [← e]; exact hi)))]; exact h.block i hi hs⟩

theorem heap_setBlock (w : World) (b : Nat) (o : Obj) (i : Nat) (h : i ≠ b) : (setBlock w b o).heap[i]? = w.heap[i]? := by
  simp only [ChangeMaps.setBlock]
  rw [Array.getElem?_setIfInBounds, if_neg (fun e => h e.symm)]

theorem Keeps.setBlock {a w : World} {S : Nat → Prop} (h : Keeps a w S) {b : Nat} (hp : b < a.heap.size → S b) (o : Obj) : Keeps a (setBlock w b o) S :=
  ⟨h.os, h.tape, h.output, by simpa [ChangeMaps.setBlock] using h.size, fun i hi hs => by
    rw [heap_setBlock _ _ _ _ (fun e => hs (by rw [e]; exact hp (by rw [← e]; exact hi)))]; exact h.block i hi hs⟩

theorem Keeps.grown {a w w' : World} {S : Nat → Prop} {row : Option Nat} (h : Keeps a w S) (hg : w.grownBy w' row) (hr : ∀ k, row = some k → k < a.heap.size → S k) : Keeps a w' S :=
  ⟨hg.os.trans h.os, hg.tape.trans h.tape, hg.output.trans h.output, Nat.le_trans h.size hg.size, fun i hi hs => by
    rw [hg.block i (Nat.lt_of_lt_of_le hi h.size) (fun e => hs (hr i e.symm hi))]; exact h.block i hi hs⟩

theorem Keeps.below {a w w' : World} {S : Nat → Prop} {B : Nat} (h : Keeps a w S) (hb : Below B w w') (hB : a.heap.size ≤ B) : Keeps a w' S :=
  ⟨hb.os.trans h.os, hb.tape.trans h.tape, hb.output.trans h.output, Nat.le_trans h.size hb.size, fun i hi hs => by
    rw [hb.block i (Nat.lt_of_lt_of_le hi hB)]; exact h.block i hi hs⟩

theorem Keeps.cell {w w' : World} {S : Nat → Prop} (h : Keeps w w' S) {p : Addr} (hp : p.block < w.heap.size) (hs : ¬ S p.block) : w'.cell? p = w.cell? p := World.cell?_of_block (w := w) (h.block p.block hp hs)
theorem Keeps.frozen {w w' : World} {S : Nat → Prop} (h : Keeps w w' S) {p : Addr} (hp : p.block < w.heap.size) (hs : ¬ S p.block) : w'.frozen? p = w.frozen? p := World.frozen?_of_block (w := w) (h.block p.block hp hs)
theorem Keeps.blk {w w' : World} {S : Nat → Prop} (h : Keeps w w' S) {k : Nat} {o : Obj} (hb : w.heap[k]? = some o) (hs : ¬ S k) : w'.heap[k]? = some o :=
  (h.block k (Array.getElem?_eq_some_iff.1 hb).1 hs).trans hb
theorem lt_of_blk {w : World} {k : Nat} {o : Obj} (hb : w.heap[k]? = some o) : k < w.heap.size := (Array.getElem?_eq_some_iff.1 hb).1
theorem ne_new {w : World} {k b : Nat} {o : Obj} (hb : w.heap[k]? = some o) (h : w.heap.size ≤ b) : k ≠ b := Nat.ne_of_lt (Nat.lt_of_lt_of_le (lt_of_blk hb) h)
theorem Keeps.toBelow {w w' : World} {S : Nat → Prop} (h : Keeps w w' S) (hS : ∀ i, i < w.heap.size → ¬ S i) : Below w.heap.size w w' :=
  ⟨h.os, h.tape, h.output, h.size, fun i hi => h.block i hi (hS i hi)⟩

/-! ### maps -/
def KeyOk (P : Program) (k : TypeId) (key : Value) : Prop := ∃ l, keyOf P k key = some l

/-- Block b is a map that holds 'f'. -/
def isMap (P : Program) (k : TypeId) (w : World) (b : Nat) (f : Value → Option Value) : Prop :=
  ∃ es clock, w.heap[b]? = some (.map es clock) ∧ Stamped es clock ∧ (∀ x ∈ es.toList, KeyOk P k x.key) ∧ ∀ key v, f key = some v ↔ ∃ x ∈ es.toList, x.key = key ∧ x.val = v

section
variable {P : Program} {k : TypeId} {w w' : World} {b : Nat} {f g : Value → Option Value}

theorem isMap.lt (h : isMap P k w b f) : b < w.heap.size := by
  obtain ⟨es, clock, hb, _⟩ := h
  exact (Array.getElem?_eq_some_iff.1 hb).1

theorem isMap.of_block (h : isMap P k w b f) (hb : w'.heap[b]? = w.heap[b]?) : isMap P k w' b f := by
  obtain ⟨es, clock, h1, h2⟩ := h
  exact ⟨es, clock, hb.trans h1, h2⟩

theorem isMap.alloc (h : isMap P k w b f) (o : Obj) : isMap P k (w.alloc o) b f := h.of_block (Below.heap_alloc w o b h.lt)
theorem isMap.drewN (h : isMap P k w b f) (n : Nat) : isMap P k (w.drewN n) b f := h
theorem isMap.drew (h : isMap P k w b f) : isMap P k w.drew b f := h
theorem isMap.kept {S : Nat → Prop} (h : isMap P k w b f) (hk : Keeps w w' S) (hb : ¬ S b) : isMap P k w' b f :=
  h.of_block (hk.block b h.lt hb)

theorem isMap.key (h : isMap P k w b f) {key v : Value} (hf : f key = some v) : KeyOk P k key := by
  obtain ⟨es, clock, _, _, h3, h4⟩ := h
  obtain ⟨x, hx, rfl, _⟩ := (h4 key v).1 hf
  exact h3 x hx

theorem isMap.congr (h : isMap P k w b f) (hg : ∀ key, KeyOk P k key → g key = f key) (hg' : ∀ key v, g key = some v → KeyOk P k key) : isMap P k w b g := by
  have : f = g := by
    funext key
    by_cases hk : KeyOk P k key
    · exact (hg key hk).symm
    · cases hf : f key with
      | none =>
        cases hgk : g key with
        | none => rfl
        | some v => exact absurd (hg' key v hgk) hk
      | some v => exact absurd (h.key hf) hk
  exact this ▸ h

/-- A new map. -/
theorem isMap_made (P : Program) (k : TypeId) (w : World) : isMap P k (w.alloc (.map #[] 0)) w.heap.size (fun _ => none) :=
  ⟨#[], 0, (heap_alloc w _).1, stamped_empty 0, by simp, by simp⟩

/-- 'm[k]', 'v, ok := m[k]'. -/
theorem isMap.look {t e : TypeId} (h : isMap P k w b f) (K : Keyed P k) (ht : P.underlying t = some (.map k e)) {z : Value} (hz : (zeroValue e).run P w = .ok z w) {key : Value} (hkey : KeyOk P k key) (c : Bool) :
    (Instr.lookup t (.map (some b)) key c).run P w = .ok (if c then .tuple #[(f key).getD z, .bool (f key).isSome] else (f key).getD z) w := by
  obtain ⟨es, clock, hb, hs, hko, hf⟩ := h
  obtain ⟨l, hl⟩ := hkey
  rcases K.find w hl es.toList (fun x hx => hko x hx) with ⟨h1, h2⟩ | ⟨j, e0, h1, h2, h3⟩
  · have hn : f key = none := by
      cases hc : f key with
      | none => rfl
      | some v => obtain ⟨x, hx, hk, _⟩ := (hf key v).1 hc; exact absurd hk (h2 x hx)
    simp [Instr.lookup, run_underlying ht, MapKept.run_getObj_map hb, K.check w _ hl, h1, hz, Result.andThen, hn]
  · have hv : f key = some e0.val := (hf key e0.val).2 ⟨e0, List.mem_of_getElem? h2, h3, rfl⟩
    simp [Instr.lookup, run_underlying ht, MapKept.run_getObj_map hb, K.check w _ hl, h1, Result.andThen, hv]

open Classical in
/-- The map behind 'm[key] = v' (some), 'delete(m, key)' (none). -/
noncomputable def upd (f : Value → Option Value) (key : Value) (v : Option Value) : Value → Option Value := fun x => if x = key then v else f x

theorem upd_same (f : Value → Option Value) (key : Value) (v : Option Value) : upd f key v key = v := by simp [upd]
theorem upd_other (f : Value → Option Value) {key x : Value} (v : Option Value) (h : x ≠ key) : upd f key v x = f x := by simp [upd, h]

theorem nodup_key {es : Array MapEntry} {clock : Nat} (h : Stamped es clock) {i j : Nat} {x y : MapEntry} (hi : es.toList[i]? = some x) (hj : es.toList[j]? = some y) (e : x.key = y.key) : i = j := by
  obtain ⟨hi', rfl⟩ := List.getElem?_eq_some_iff.1 hi
  obtain ⟨hj', rfl⟩ := List.getElem?_eq_some_iff.1 hj
  have hp := List.pairwise_iff_getElem.1 ((stamped_iff es clock).1 h).2.2
  rcases Nat.lt_trichotomy i j with h1 | h1 | h1
  · exact absurd e (hp i j hi' hj' h1)
  · exact h1
  · exact absurd e.symm (hp j i hj' hi' h1)

/-- 'm[k] = v'. -/
theorem isMap.store {t e : TypeId} (h : isMap P k w b f) (K : Keyed P k) (ht : P.underlying t = some (.map k e)) {key val : Value} (hkey : KeyOk P k key) :
    ∃ o, (Instr.mapUpdate t (.map (some b)) key val).run P w = .ok () (setBlock w b o) ∧ isMap P k (setBlock w b o) b (upd f key (some val)) := by
  obtain ⟨es, clock, hb, hs, hko, hf⟩ := h
  obtain ⟨l, hl⟩ := hkey
  rcases K.find w hl es.toList (fun x hx => hko x hx) with ⟨h1, h2⟩ | ⟨j, e0, h1, h2, h3⟩
  · refine ⟨.map (es.push ⟨key, val, clock⟩) (clock + 1), ?_, es.push ⟨key, val, clock⟩, clock + 1, heap_setBlock_same hb _, stamped_push hs h2, ?_, ?_⟩
    · simp [Instr.mapUpdate, run_underlying ht, MapKept.run_getObj_map hb, K.check w false hl, h1, MapKept.run_setObj_map _ hb, Result.andThen, setBlock]
    · intro x hx
      simp only [Array.toList_push, List.mem_append, List.mem_singleton] at hx
      rcases hx with hx | rfl
      · exact hko x hx
      · exact ⟨l, hl⟩
    · intro x v
      by_cases e : x = key
      · subst e
        rw [upd_same]
        simp only [Option.some.injEq, Array.toList_push, List.mem_append, List.mem_singleton]
        constructor
        · rintro rfl; exact ⟨_, .inr rfl, rfl, rfl⟩
        · rintro ⟨y, hy | rfl, h4, h5⟩
          · exact absurd h4 (h2 y hy)
          · exact h5
      · rw [upd_other f _ e, hf]
        simp only [Array.toList_push, List.mem_append, List.mem_singleton]
        constructor
        · rintro ⟨y, hy, h4, h5⟩; exact ⟨y, .inl hy, h4, h5⟩
        · rintro ⟨y, hy | rfl, h4, h5⟩
          · exact ⟨y, hy, h4, h5⟩
          · exact absurd h4.symm e
  · have hj : es[j]? = some e0 := by simpa using h2
    have hjl : j < es.toList.length := (List.getElem?_eq_some_iff.1 h2).1
    have hkeyf : ∀ e', es[j]? = some e' → ({ e' with key := key, val := val } : MapEntry).key = e'.key := fun e' he' => by rw [hj] at he'; cases he'; exact h3.symm
    have hlist : (es.modify j (fun e' => { e' with key := key, val := val })).toList = es.toList.set j { e0 with key := key, val := val } := by rw [Array.toList_modify, modify_eq_set _ _ _ _ h2]
    have who : ∀ x, x ∈ es.toList.set j { e0 with key := key, val := val } ↔ (x = { e0 with key := key, val := val } ∨ (x ∈ es.toList ∧ x.key ≠ key)) := by
      intro x
      constructor
      · intro hx
        obtain ⟨i, hi, ex⟩ := List.getElem_of_mem hx
        rw [List.getElem_set] at ex
        split at ex
        · exact Or.inl ex.symm
        · rename_i hne
          have hi' : i < es.toList.length := by simpa using hi
          refine Or.inr ⟨ex ▸ List.getElem_mem hi', fun e1 => hne ?_⟩
          exact nodup_key hs h2 (by rw [List.getElem?_eq_getElem hi', ex]) (h3.trans e1.symm)
      · rintro (rfl | ⟨hx, hne⟩)
        · exact List.mem_iff_getElem.2 ⟨j, by simpa using hjl, by simp⟩
        · obtain ⟨i, hi, rfl⟩ := List.getElem_of_mem hx
          have : j ≠ i := fun e => hne (by subst e; rw [List.getElem?_eq_getElem hi] at h2; cases h2; exact h3)
          exact List.mem_iff_getElem.2 ⟨i, by simpa using hi, by rw [List.getElem_set_ne this]⟩
    refine ⟨.map (es.modify j (fun e' => { e' with key := key, val := val })) clock, ?_, es.modify j (fun e' => { e' with key := key, val := val }), clock, heap_setBlock_same hb _, stamped_modify hs _ _ (fun _ _ => rfl) (fun e' _ he' => hkeyf e' he'), ?_, ?_⟩
    · simp [Instr.mapUpdate, run_underlying ht, MapKept.run_getObj_map hb, K.check w false hl, h1, hj, h3, K.stays w hl, MapKept.run_setObj_map _ hb, Result.andThen, setBlock]
    · intro x hx
      rw [hlist, who] at hx
      rcases hx with rfl | ⟨hx, _⟩
      · exact ⟨l, hl⟩
      · exact hko x hx
    · intro x v
      rw [hlist]
      by_cases e : x = key
      · subst e
        rw [upd_same]
        simp only [Option.some.injEq]
        constructor
        · rintro rfl; exact ⟨_, (who _).2 (.inl rfl), rfl, rfl⟩
        · rintro ⟨y, hy, h4, h5⟩
          rcases (who y).1 hy with rfl | ⟨_, h6⟩
          · exact h5
          · exact absurd h4 h6
      · rw [upd_other f _ e, hf]
        constructor
        · rintro ⟨y, hy, h4, h5⟩; exact ⟨y, (who y).2 (.inr ⟨hy, fun h6 => e (h4.symm.trans h6)⟩), h4, h5⟩
        · rintro ⟨y, hy, h4, h5⟩
          rcases (who y).1 hy with rfl | ⟨h6, _⟩
          · exact absurd h4.symm e
          · exact ⟨y, h6, h4, h5⟩

/-- 'delete(m, k)'. -/
theorem isMap.drop {t e ty : TypeId} (h : isMap P k w b f) (K : Keyed P k) (ht : P.underlying t = some (.map k e)) {key : Value} (hkey : KeyOk P k key) :
    ∃ o, (Builtin.delete_ #[t, k] ty #[.map (some b), key]).run P w = .ok (.tuple #[]) (setBlock w b o) ∧ isMap P k (setBlock w b o) b (upd f key none) := by
  obtain ⟨es, clock, hb, hs, hko, hf⟩ := h
  obtain ⟨l, hl⟩ := hkey
  rcases K.find w hl es.toList (fun x hx => hko x hx) with ⟨h1, h2⟩ | ⟨j, e0, h1, h2, h3⟩
  · refine ⟨.map es clock, ?_, es, clock, heap_setBlock_same hb _, hs, hko, ?_⟩
    · simp [Builtin.delete_, run_underlying ht, MapKept.run_getObj_map hb, K.check w _ hl, h1, MapKept.run_setObj_map _ hb, Result.andThen, setBlock]
    · intro x v
      by_cases e : x = key
      · subst e
        rw [upd_same]
        refine ⟨fun h4 => (by cases h4), ?_⟩
        rintro ⟨y, hy, h4, _⟩
        exact absurd h4 (h2 y hy)
      · rw [upd_other f _ e, hf]
  · have hjl : j < es.toList.length := (List.getElem?_eq_some_iff.1 h2).1
    have hjs : j < es.size := by simpa using hjl
    have hsub : (es.eraseIdxIfInBounds j).toList = es.toList.eraseIdx j := by
      unfold Array.eraseIdxIfInBounds
      rw [dif_pos hjs]
      simp
    have who : ∀ x, x ∈ es.toList.eraseIdx j ↔ x ∈ es.toList ∧ x.key ≠ key := by
      intro x
      rw [List.mem_eraseIdx_iff_getElem?]
      constructor
      · rintro ⟨i, hne, hi⟩
        exact ⟨List.mem_of_getElem? hi, fun e1 => hne (nodup_key hs hi h2 (e1.trans h3.symm))⟩
      · rintro ⟨hx, hne⟩
        obtain ⟨i, hi⟩ := List.getElem?_of_mem hx
        exact ⟨i, fun e1 => hne (by subst e1; rw [h2] at hi; cases hi; exact h3), hi⟩
    refine ⟨.map (es.eraseIdxIfInBounds j) clock, ?_, es.eraseIdxIfInBounds j, clock, heap_setBlock_same hb _, stamped_erase hs j, ?_, ?_⟩
    · simp [Builtin.delete_, run_underlying ht, MapKept.run_getObj_map hb, K.check w _ hl, h1, MapKept.run_setObj_map _ hb, Result.andThen, setBlock]
    · intro x hx
      rw [hsub, who] at hx
      exact hko x hx.1
    · intro x v
      rw [hsub]
      by_cases e : x = key
      · subst e
        rw [upd_same]
        refine ⟨fun h4 => (by cases h4), ?_⟩
        rintro ⟨y, hy, h4, _⟩
        exact absurd h4 ((who y).1 hy).2
      · rw [upd_other f _ e, hf]
        constructor
        · rintro ⟨y, hy, h4, h5⟩; exact ⟨y, (who y).2 ⟨hy, fun h6 => e (h4.symm.trans h6)⟩, h4, h5⟩
        · rintro ⟨y, hy, h4, h5⟩; exact ⟨y, ((who y).1 hy).1, h4, h5⟩

end

/-! ### at the operation -/
section
variable {P : Program} {w : World} {ops : Array Oper} {rest : List Oper} {o : Oper} {a : Act} {Q : Exit → Act → World → Prop} {k : TypeId} {b : Nat} {f : Value → Option Value}

theorem wl_look (hg : o.guard = none) (m x : Operand) (t : TypeId) (c : Bool) (hop : o.op = Op.lookup t m x c) (e : TypeId) (K : Keyed P k) (ht : P.underlying t = some (.map k e)) (z : Value) (hz : ∀ w, (zeroValue e).run P w = .ok z w)
    (hmap : isMap P k w b f) (hm : a.eval m = .map (some b)) (key : Value) (hx : a.eval x = key) (hkey : KeyOk P k key)
    (hK : wpList P ops Q rest (a.put o.dst (if c then .tuple #[(f key).getD z, .bool (f key).isSome] else (f key).getD z)) w) : wpList P ops Q (o :: rest) a w := by
  refine wpList_plain hg fun K' hK' => ?_
  unfold Oper.wp
  simp [execOp, hop, hm, hx, hmap.look K ht (hz w) hkey c, Result.andThen]
  exact hK' _ _ (by simpa using hK)

/-- 'm[k]' where it is there. -/
theorem wl_look_at (hg : o.guard = none) (m x : Operand) (t : TypeId) (hop : o.op = Op.lookup t m x false) (e : TypeId) (K : Keyed P k) (ht : P.underlying t = some (.map k e)) (z : Value) (hz : ∀ w, (zeroValue e).run P w = .ok z w)
    (hmap : isMap P k w b f) (hm : a.eval m = .map (some b)) (key : Value) (hx : a.eval x = key) (hkey : KeyOk P k key) (v : Value) (hf : f key = some v)
    (hK : wpList P ops Q rest (a.put o.dst v) w) : wpList P ops Q (o :: rest) a w :=
  wl_look hg m x t false hop e K ht z hz hmap hm key hx hkey (by rw [hf]; exact hK)
/-- 'm[k]' where it is not. -/
theorem wl_look_no (hg : o.guard = none) (m x : Operand) (t : TypeId) (hop : o.op = Op.lookup t m x false) (e : TypeId) (K : Keyed P k) (ht : P.underlying t = some (.map k e)) (z : Value) (hz : ∀ w, (zeroValue e).run P w = .ok z w)
    (hmap : isMap P k w b f) (hm : a.eval m = .map (some b)) (key : Value) (hx : a.eval x = key) (hkey : KeyOk P k key) (hf : f key = none)
    (hK : wpList P ops Q rest (a.put o.dst z) w) : wpList P ops Q (o :: rest) a w :=
  wl_look hg m x t false hop e K ht z hz hmap hm key hx hkey (by rw [hf]; exact hK)
/-- 'v, ok := m[k]' where it is there. -/
theorem wl_ok_at (hg : o.guard = none) (m x : Operand) (t : TypeId) (hop : o.op = Op.lookup t m x true) (e : TypeId) (K : Keyed P k) (ht : P.underlying t = some (.map k e)) (z : Value) (hz : ∀ w, (zeroValue e).run P w = .ok z w)
    (hmap : isMap P k w b f) (hm : a.eval m = .map (some b)) (key : Value) (hx : a.eval x = key) (hkey : KeyOk P k key) (v : Value) (hf : f key = some v)
    (hK : wpList P ops Q rest (a.put o.dst (.tuple #[v, .bool true])) w) : wpList P ops Q (o :: rest) a w :=
  wl_look hg m x t true hop e K ht z hz hmap hm key hx hkey (by rw [hf]; exact hK)
/-- 'v, ok := m[k]' where it is not. -/
theorem wl_ok_no (hg : o.guard = none) (m x : Operand) (t : TypeId) (hop : o.op = Op.lookup t m x true) (e : TypeId) (K : Keyed P k) (ht : P.underlying t = some (.map k e)) (z : Value) (hz : ∀ w, (zeroValue e).run P w = .ok z w)
    (hmap : isMap P k w b f) (hm : a.eval m = .map (some b)) (key : Value) (hx : a.eval x = key) (hkey : KeyOk P k key) (hf : f key = none)
    (hK : wpList P ops Q rest (a.put o.dst (.tuple #[z, .bool false])) w) : wpList P ops Q (o :: rest) a w :=
  wl_look hg m x t true hop e K ht z hz hmap hm key hx hkey (by rw [hf]; exact hK)

theorem wl_store (hg : o.guard = none) (m x v : Operand) (t : TypeId) (hop : o.op = Op.mapUpdate t m x v) (e : TypeId) (K : Keyed P k) (ht : P.underlying t = some (.map k e))
    (hmap : isMap P k w b f) (hm : a.eval m = .map (some b)) (key val : Value) (hx : a.eval x = key) (hv : a.eval v = val) (hkey : KeyOk P k key)
    (hK : ∀ w', isMap P k w' b (upd f key (some val)) → Keeps w w' (· = b) → wpList P ops Q rest (a.put o.dst undef) w') : wpList P ops Q (o :: rest) a w := by
  refine wpList_plain hg fun K' hK' => ?_
  obtain ⟨ob, hrun, hm'⟩ := hmap.store K ht (val := val) hkey
  unfold Oper.wp
  simp [execOp, hop, hm, hx, hv, hrun, Result.andThen]
  exact hK' _ _ (hK _ hm' ((Keeps.refl w (· = b)).setBlock (fun _ => rfl) ob))

theorem gd_load (ty : TypeId) {dst : Option Tmp} {x : Operand} {t : TypeId} {pos : String} {after : Array Edge} (h : wpList P ops Q (⟨dst, .load ty x, t, pos, after, none⟩ :: rest) a w) : wpList P ops Q (⟨dst, .load ty x, t, pos, after, none⟩ :: rest) a w := h
theorem gd_store (ty : TypeId) {dst : Option Tmp} {x y : Operand} {t : TypeId} {pos : String} {after : Array Edge} (h : wpList P ops Q (⟨dst, .store ty x y, t, pos, after, none⟩ :: rest) a w) : wpList P ops Q (⟨dst, .store ty x y, t, pos, after, none⟩ :: rest) a w := h
theorem gd_alloc (ty : TypeId) {dst : Option Tmp} {t : TypeId} {pos : String} {after : Array Edge} (h : wpList P ops Q (⟨dst, .alloc ty, t, pos, after, none⟩ :: rest) a w) : wpList P ops Q (⟨dst, .alloc ty, t, pos, after, none⟩ :: rest) a w := h
theorem gd_box (ty : TypeId) {dst : Option Tmp} {x : Operand} {t : TypeId} {pos : String} {after : Array Edge} (h : wpList P ops Q (⟨dst, .box ty x, t, pos, after, none⟩ :: rest) a w) : wpList P ops Q (⟨dst, .box ty x, t, pos, after, none⟩ :: rest) a w := h

theorem gd_build (ty : TypeId) {dst : Option Tmp} {x : Array (Nat × Operand)} {t : TypeId} {pos : String} {after : Array Edge} (h : wpList P ops Q (⟨dst, .build ty x, t, pos, after, none⟩ :: rest) a w) : wpList P ops Q (⟨dst, .build ty x, t, pos, after, none⟩ :: rest) a w := h
/-- An empty literal. -/
theorem wl_build0 (hg : o.guard = none) (ty : TypeId) (hop : o.op = .build ty #[]) (v : Value) (hz : ∀ w, (Instr.build ty #[]).run P w = .ok v w)
    (hK : wpList P ops Q rest (a.put o.dst v) w) : wpList P ops Q (o :: rest) a w := by
  refine wpList_plain hg fun K' hK' => ?_
  have hz' := hz w
  unfold Oper.wp execOp
  simp only [hop, List.map_toArray, List.map_nil, hz', Sem.run_bind, Sem.run_pure, Result.andThen_ok]
  exact hK' _ _ hK

/-- A literal. -/
theorem wl_buildL (hg : o.guard = none) (ty : TypeId) (parts : List (Nat × Operand)) (hop : o.op = .build ty parts.toArray) (vs : List (Nat × Value)) (hv : (parts.map fun p => (p.1, a.eval p.2)) = vs) (v : Value)
    (hz : ∀ w, (Instr.build ty vs.toArray).run P w = .ok v w) (hK : wpList P ops Q rest (a.put o.dst v) w) : wpList P ops Q (o :: rest) a w := by
  refine wpList_plain hg fun K' hK' => ?_
  have hz' := hz w
  have hv' : (parts.map fun (x : Nat × Operand) => match x with | (i, x) => (i, a.eval x)) = vs := hv
  unfold Oper.wp execOp
  simp only [hop, List.map_toArray, hv', hz', Sem.run_bind, Sem.run_pure, Result.andThen_ok]
  exact hK' _ _ hK

/-- A boxed struct or array. -/
theorem wl_box_agg (hg : o.guard = none) (ty : TypeId) (x : Operand) (hop : o.op = .box ty x) (Z : Array Value) (hx : a.eval x = .agg Z)
    (hK : ∀ b w', w.heap.size ≤ b → w'.heap[b]? = some (.cells Z ty (0, 0)) → Keeps w w' (fun _ => False) → wpList P ops Q rest (a.put o.dst (.pointer (some ⟨b, 0, none⟩))) w') : wpList P ops Q (o :: rest) a w := by
  refine wpList_plain hg fun K' hK' => ?_
  have hr : (Instr.box ty (.agg Z)).run P w = .ok (.pointer (some ⟨w.heap.size, 0, none⟩)) (w.alloc (.cells Z ty)) := by
    simp [Instr.box, newVar, newRow, newObj, Sem.run, Value.cells]
  unfold Oper.wp execOp
  simp only [hop, hx, hr, Sem.run_bind, Sem.run_pure, Result.andThen_ok]
  exact hK' _ _ (hK _ _ (Nat.le_refl _) (heap_alloc w _).1 ((Keeps.refl w _).alloc _))

/-- Cells 'V' laid over 'C' from o on. -/
def splice (C : Array Value) (o : Nat) (V : Array Value) : Array Value := (C.toList.take o ++ V.toList ++ C.toList.drop (o + V.size)).toArray

theorem Keeps.setRow {a w : World} {S : Nat → Prop} (h : Keeps a w S) {g : Nat} (hp : g < a.heap.size → S g) (cs : Array Value) : Keeps a (w.setRow g cs) S :=
  ⟨h.os, h.tape, h.output, by simpa using h.size, fun i hi hs => by
    have : i ≠ g := fun e => hs (by rw [e]; exact hp (by rw [← e]; exact hi))
    simp only [World.setRow, Array.getElem?_modify]
    rw [if_neg (fun e => this e.symm)]
    exact h.block i hi hs⟩

theorem Keeps.setCells {a : World} {S : Nat → Prop} {b : Nat} (hp : b < a.heap.size → S b) : ∀ (vs : List Value) (o : Nat) {w : World}, Keeps a w S → Keeps a (w.setCells b o vs) S
  | [], _, _, h => h
  | v :: r, o, _, h => Keeps.setCells hp r (o + 1) (h.setCell (p := ⟨b, o, none⟩) hp v)

/-- A struct or an array is read out of a block. -/
theorem wl_load_agg (hg : o.guard = none) (ty : TypeId) (x : Operand) (hop : o.op = .load ty x) (g off : Nat) (hx : a.eval x = .pointer (some ⟨g, off, none⟩)) (C : Array Value) (t : TypeId) (fr : Nat × Nat) (hb : w.heap[g]? = some (.cells C t fr))
    (V : Array Value) (hV : C.extract off (off + V.size) = V) (d : TypeDesc) (hu : P.underlying ty = some d) (hd : d.isRow = true) (hi : (P.info? ty).map (·.size) = some V.size)
    (hK : wpList P ops Q rest (a.put o.dst (.agg V)) w) : wpList P ops Q (o :: rest) a w := by
  refine wpList_load_mid hg ty x hop g off hx V.toList d (fun j v hj => ?_) hu hd (by simpa using hi) (by simpa using hK)
  have hj' : V[j]? = some v := by simpa using hj
  rw [cell_of_row w g (off + j) C t fr hb]
  have hjl : j < V.size := (Array.getElem?_eq_some_iff.1 hj').1
  rw [← hV, Array.getElem?_extract] at hj'
  split at hj'
  · exact hj'
  · cases hj'

theorem run_load_agg (ty : TypeId) (g off : Nat) (C : Array Value) (t : TypeId) (fr : Nat × Nat) (hb : w.heap[g]? = some (.cells C t fr))
    (V : Array Value) (hV : C.extract off (off + V.size) = V) (d : TypeDesc) (hu : P.underlying ty = some d) (hd : d.isRow = true) (hi : (P.info? ty).map (·.size) = some V.size) :
    (Instr.loadAt ty (.pointer (some ⟨g, off, none⟩))).run P w = .ok (.agg V) w := by
  have := run_loadAt_mid (P := P) w g off ty V.toList d (fun j v hj => by
    have hj' : V[j]? = some v := by simpa using hj
    rw [cell_of_row w g (off + j) C t fr hb]
    have hjl : j < V.size := (Array.getElem?_eq_some_iff.1 hj').1
    rw [← hV, Array.getElem?_extract] at hj'
    split at hj'
    · exact hj'
    · cases hj') hu hd (by simpa using hi)
  simpa using this

/-- .. in a still region. -/
theorem ws_load_agg {Qs : Act → Prop} (hg : o.guard = none) (ty : TypeId) (x : Operand) (hop : o.op = .load ty x) (g off : Nat) (hx : a.eval x = .pointer (some ⟨g, off, none⟩)) (C : Array Value) (t : TypeId) (fr : Nat × Nat) (hb : w.heap[g]? = some (.cells C t fr))
    (V : Array Value) (hV : C.extract off (off + V.size) = V) (d : TypeDesc) (hu : P.underlying ty = some d) (hd : d.isRow = true) (hi : (P.info? ty).map (·.size) = some V.size)
    (hK : wpStill P ops w Qs rest (a.put o.dst (.agg V))) : wpStill P ops w Qs (o :: rest) a := by
  refine wpStill_step fun K hK' => ?_
  rw [if_pos (by simp [Region.wanted, hg])]
  unfold Oper.still execOp
  simp only [hop, hx, run_load_agg ty g off C t fr hb V hV d hu hd hi, Sem.run_bind, Sem.run_pure, Result.andThen_ok]
  exact ⟨rfl, hK' _ hK⟩

theorem wp_store_agg {K : Act → World → Prop} (ty : TypeId) (x y : Operand) (hop : o.op = .store ty x y) (g off : Nat) (hx : a.eval x = .pointer (some ⟨g, off, none⟩)) (C : Array Value) (t : TypeId) (hb : w.heap[g]? = some (.cells C t (0, 0)))
    (V : Array Value) (hy : a.eval y = .agg V) (C' : Array Value) (hC : splice C off V = C') (hle : off + V.size ≤ C.size) (hi : (P.info? ty).map (·.size) = some V.size) (h1 : V.all (·.oneCell') = true)
    (hK : ∀ w', w'.heap[g]? = some (.cells C' t (0, 0)) → Keeps w w' (· = g) → K (a.put o.dst undef) w') : o.wp P a w K Q := by
  have hs := run_storeCells_at (P := P) g off t V.toList 0 C w hb (by simpa using hle) (fun v hv => (Array.all_eq_true_iff_forall_mem.1 h1) v (by simpa using hv))
  have hw : (storeVar ty ⟨g, off, none⟩ (.agg V)).run P w = .ok () (w.setRow g C') := by
    cases hq : P.info? ty with
    | none => simp [hq] at hi
    | some i =>
      have hsz : V.size = i.size := by simp [hq] at hi; omega
      simp only [Nat.add_zero, Array.length_toList] at hs
      rw [← hC]
      have hso : (Go.sizeOf ty).run P w = .ok i.size w := by simp [Go.sizeOf, typeInfo, hq]
      rw [← hsz] at hso
      simp only [storeVar, Sem.run_bind, hso, Result.andThen_ok, Value.cells, ne_eq, not_true_eq_false, if_false]
      exact hs
  unfold Oper.wp execOp
  simp only [hop, hx, hy, Instr.storeAt, Instr.sureAddr, Sem.run_bind, Sem.run_pure, Result.andThen_ok, hw]
  exact hK _ (setRow_heap w g C C' t (0, 0) hb) ((Keeps.refl w (· = g)).setRow (fun _ => rfl) C')

/-- A struct or an array is written into a block. -/
theorem wl_store_agg (hg : o.guard = none) (ty : TypeId) (x y : Operand) (hop : o.op = .store ty x y) (g off : Nat) (hx : a.eval x = .pointer (some ⟨g, off, none⟩)) (C : Array Value) (t : TypeId) (hb : w.heap[g]? = some (.cells C t (0, 0)))
    (V : Array Value) (hy : a.eval y = .agg V) (C' : Array Value) (hC : splice C off V = C') (hle : off + V.size ≤ C.size) (hi : (P.info? ty).map (·.size) = some V.size) (h1 : V.all (·.oneCell') = true)
    (hK : ∀ w', w'.heap[g]? = some (.cells C' t (0, 0)) → Keeps w w' (· = g) → wpList P ops Q rest (a.put o.dst undef) w') : wpList P ops Q (o :: rest) a w :=
  wpList_plain hg fun _ hK' => wp_store_agg ty x y hop g off hx C t hb V hy C' hC hle hi h1 fun w' h2 h3 => hK' _ _ (hK w' h2 h3)

/-! ### drawn regions by hand -/
theorem yi_load_agg {S : World → Prop} (hg : o.guard = none) (ty : TypeId) (x : Operand) (hop : o.op = .load ty x) (g off : Nat) (hx : a.eval x = .pointer (some ⟨g, off, none⟩)) (C : Array Value) (t : TypeId) (fr : Nat × Nat) (hb : ∀ w, S w → w.heap[g]? = some (.cells C t fr))
    (V : Array Value) (hV : C.extract off (off + V.size) = V) (d : TypeDesc) (hu : P.underlying ty = some d) (hd : d.isRow = true) (hi : (P.info? ty).map (·.size) = some V.size) : YieldsIf P ops S o (.agg V) a :=
  .inl ⟨by simp [Region.wanted, hg], fun w hw => by
    unfold execOp
    simp only [hop, hx, run_load_agg ty g off C t fr (hb w hw) V hV d hu hd hi, Sem.run_bind, Sem.run_pure, Result.andThen_ok]⟩
theorem yi_load {S : World → Prop} (hg : o.guard = none) (ty : TypeId) (x : Operand) (hop : o.op = .load ty x) (p : Addr) (hx : a.eval x = .pointer (some p)) (v : Value) (hb : ∀ w, S w → w.cell? p = some v)
    (hl : ∀ w, w.cell? p = some v → (Instr.loadAt ty (.pointer (some p))).run P w = .ok v w) : YieldsIf P ops S o v a :=
  .inl ⟨by simp [Region.wanted, hg], fun w hw => by
    unfold execOp
    simp only [hop, hx, hl w (hb w hw), Sem.run_bind, Sem.run_pure, Result.andThen_ok]⟩
theorem yi_pure {S : World → Prop} (hg : o.guard = none) (v : Value) (hr : ∀ w, (execOp a.eval o).run P w = .ok (.value v) w) : YieldsIf P ops S o v a :=
  .inl ⟨by simp [Region.wanted, hg], fun w _ => hr w⟩
theorem ya_take {S : World → Prop} {md : Region.Mode} (i : Nat) {fuel : Nat} {listed : Array Bool} {v : Value} {d : Tmp} {op : Op} {t : TypeId} {pos : String} {after : Array Edge} (hi : ops[i]? = some ⟨some d, op, t, pos, after, none⟩)
    (hs : Region.noSelect ops = true) (hf : Region.free md ops listed i = true) (hr : (Region.ready md ops listed).contains i = true)
    (hQ : ∀ c a w, Q (.panic c) (a.put (some d) v) w → Q (.panic c) a w) (hS : S w) {tmps : Array Value} {defers : List Deferred} (hy : YieldsIf P ops S ⟨some d, op, t, pos, after, none⟩ v ⟨tmps, defers⟩)
    (h : wpAnyH P md ops Q S fuel (listed.setIfInBounds i true) ⟨tmps.setIfInBounds d v, defers⟩ w) : wpAnyH P md ops Q S (fuel + 1) listed ⟨tmps, defers⟩ w :=
  wpAnyH_take hi hs hf hr hQ hy hS h
theorem ya_one {S : World → Prop} {md : Region.Mode} (i : Nat) {fuel : Nat} {listed : Array Bool} {d : Option Tmp} {op : Op} {t : TypeId} {pos : String} {after : Array Edge} (hi : ops[i]? = some ⟨d, op, t, pos, after, none⟩) (hr : Region.ready md ops listed = [i])
    (h : Oper.wp P ⟨d, op, t, pos, after, none⟩ a w (fun a' w' => S w' ∧ wpAnyH P md ops Q S fuel (listed.setIfInBounds i true) a' w') Q) : wpAnyH P md ops Q S (fuel + 1) listed a w :=
  wpAnyH_all hr (by simp) (fun j hj => by
    have : j = i := by simpa using hj
    subst this
    unfold wpOp
    simp only [hi, Region.wanted, if_true]
    exact .inl h)
theorem yi_build {S : World → Prop} (hg : o.guard = none) (ty : TypeId) (parts : List (Nat × Operand)) (hop : o.op = .build ty parts.toArray) (vs : List (Nat × Value)) (hv : (parts.map fun p => (p.1, a.eval p.2)) = vs) (v : Value)
    (hb : ∀ w, (Instr.build ty vs.toArray).run P w = .ok v w) : YieldsIf P ops S o v a :=
  .inl ⟨by simp [Region.wanted, hg], fun w _ => by
    unfold execOp
    have hv' : (parts.map fun (x : Nat × Operand) => match x with | (i, x) => (i, a.eval x)) = vs := hv
    simp only [hop, List.map_toArray, hv', hb w, Sem.run_bind, Sem.run_pure, Result.andThen_ok]⟩

/-- A call, by its contract, at the operation. -/
theorem wp_call {K : Act → World → Prop} (f : FuncId) (xs : List Operand) (ts : Array TypeId) (hop : o.op = .call ⟨.value (.func f), xs.toArray, ts⟩) (fn : Func) (hf : P.funcs[f]? = some fn)
    (hn : (fn.name == "runtime.NumGoroutine") = false) (hb : fn.body.isNone = false) (vs : List Value) (hv : xs.map a.eval = vs) {R : Ending → World → Prop} (hc : Calls P f vs.toArray w R)
    (hR : ∀ e w', R e w' → ∃ v, e = .returned v ∧ K (a.put o.dst v) w') : o.wp P a w K Q := by
  unfold Oper.wp execOp
  have hn' : fn.name ≠ "runtime.NumGoroutine" := by simpa using hn
  have hb' : fn.body ≠ none := by intro e; rw [e] at hb; cases hb
  simp [hop, resolve, Deferred.ofValue, Act.eval, invoke, callFunc, hf, hn', hb', hv]
  rw [Oper.upon_enter]
  refine hc.mono fun e w' h => ?_
  obtain ⟨v, rfl, hK⟩ := hR e w' h
  exact hK

/-- 'm[k] = v' at the operation. -/
theorem wp_mapset {K : Act → World → Prop} (m x v : Operand) (t : TypeId) (hop : o.op = Op.mapUpdate t m x v) (e : TypeId) (Kd : Keyed P k) (ht : P.underlying t = some (.map k e))
    (hmap : isMap P k w b f) (hm : a.eval m = .map (some b)) (key val : Value) (hx : a.eval x = key) (hv : a.eval v = val) (hkey : KeyOk P k key)
    (hK : ∀ w', isMap P k w' b (upd f key (some val)) → Keeps w w' (· = b) → K (a.put o.dst undef) w') : o.wp P a w K Q := by
  obtain ⟨ob, hrun, hm'⟩ := hmap.store Kd ht (val := val) hkey
  unfold Oper.wp
  simp [execOp, hop, hm, hx, hv, hrun, Result.andThen]
  exact hK _ hm' ((Keeps.refl w (· = b)).setBlock (fun _ => rfl) ob)

/-- A new struct or array. -/
theorem wl_alloc_agg (hg : o.guard = none) (ty : TypeId) (hop : o.op = .alloc ty) (Z : Array Value) (hz : ∀ w, (zeroValue ty).run P w = .ok (.agg Z) w)
    (hK : ∀ b w', w.heap.size ≤ b → w'.heap[b]? = some (.cells Z ty (0, 0)) → Keeps w w' (fun _ => False) → wpList P ops Q rest (a.put o.dst (.pointer (some ⟨b, 0, none⟩))) w') : wpList P ops Q (o :: rest) a w := by
  refine wpList_plain hg fun K' hK' => ?_
  have hr : (Instr.alloc ty true (.tuple #[])).run P w = .ok (.pointer (some ⟨w.heap.size, 0, none⟩)) (w.alloc (.cells Z ty)) := by
    simp [Instr.alloc, Sem.run_bind, hz, newVar, newRow, newObj, Sem.run, Value.cells]
  unfold Oper.wp execOp
  simp only [hop, hr, Sem.run_bind, Sem.run_pure, Result.andThen_ok]
  exact hK' _ _ (hK _ _ (Nat.le_refl _) (heap_alloc w _).1 ((Keeps.refl w _).alloc _))

theorem wl_delete (hg : o.guard = none) (m x : Operand) (t : TypeId) (hop : o.op = Op.call { callee := Callee.builtin Builtin.delete, args := #[m, x], argTypes := #[t, k] }) (e : TypeId) (K : Keyed P k) (ht : P.underlying t = some (.map k e))
    (hmap : isMap P k w b f) (hm : a.eval m = .map (some b)) (key : Value) (hx : a.eval x = key) (hkey : KeyOk P k key)
    (hK : ∀ w', isMap P k w' b (upd f key none) → Keeps w w' (· = b) → wpList P ops Q rest (a.put o.dst (.tuple #[])) w') : wpList P ops Q (o :: rest) a w := by
  refine wpList_plain hg fun K' hK' => ?_
  obtain ⟨ob, hrun, hm'⟩ := hmap.drop (ty := o.type) K ht hkey
  unfold Oper.wp
  simp [execOp, hop, resolve, invoke, builtin, hm, hx, hrun, Result.andThen]
  exact hK' _ _ (hK _ hm' ((Keeps.refl w (· = b)).setBlock (fun _ => rfl) ob))

end
end Wb
