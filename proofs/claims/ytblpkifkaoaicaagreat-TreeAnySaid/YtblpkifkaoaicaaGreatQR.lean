/- Lemmas and contracts of functions, joined. -/
import Derived.Test.YtblpkifkaoaicaaGreatQY
import Derived.Test.YtblpkifkaoaicaaGreatQO
import Derived.Test.YtblpkifkaoaicaaGreatYSlF
import Derived.Test.YtblpkifkaoaicaaGreatYMapLen
import Derived.Test.YtblpkifkaoaicaaGreatQV
import Derived.Test.YtblpkifkaoaicaaGreatQX
namespace Go.Proofs.YtblpkifkaoaicaaGreat
open Go Go.RowKit Go.Maps Wb
theorem l_keep11 {w0 w : World} {f : Nat} {dv : DH} {F : Pg} {X : Nat → Prop} {v : Value} {ids : List Int} (h : Law9 w0 w f dv F X) (hv : isRd w v (intV ids)) (hg : ∀ g, v.ownBlock = some g → ids = [] ∨ ((X g ∨ g < w0.heap.size) ∧ g < w.heap.size)) (hl : ids.length ≤ 140737488351232) (hr : Rising F ids) :
    Calls Tryz.prog 63 #[.pointer (some ⟨f, 0, none⟩), v] w fun e w2 => e = .returned (.int .i64 0) ∧ Law9 w0 w2 f dv (keepP F ids) X ∧ Keeps w w2 (Apart w0 X) := by
  obtain ⟨bu, fv, h1, h2, h3, h4⟩ := h
  refine (keep_yes w _ F h1 v ids hv (fun g hgg => (hg g hgg).imp id (fun hh => ⟨fun hs => ?_, hh.2⟩)) hl (risingB_true hr)).mono ?_
  · rcases hh.1 with hx | hx
    · exact (h2 g hs).1 hx
    · exact absurd (h2 g hs).2 (Nat.not_le.2 hx)
  · intro e w2 hp
    exact law_of_post h2 h3 h4 hp
end Go.Proofs.YtblpkifkaoaicaaGreat

namespace Go.Proofs.YtblpkifkaoaicaaGreat
open Go Go.RowKit Go.Maps Wb

/-- Rows whose first q pages are told. -/
def rsQ (rs : List Rw) (pg : Nat → Nat) (q : Nat) : List Rw := rs.mapIdx fun i r => if i < q then ⟨r.key, r.val, (pg i : Int)⟩ else r
theorem rsQ_len (rs : List Rw) (pg : Nat → Nat) (q : Nat) : (rsQ rs pg q).length = rs.length := by simp [rsQ]
theorem rsQ_zero (rs : List Rw) (pg : Nat → Nat) : rsQ rs pg 0 = rs := by
  unfold rsQ
  apply List.ext_getElem?
  intro i
  rw [List.getElem?_mapIdx]
  cases rs[i]? <;> simp
theorem rsQ_at {rs : List Rw} {pg : Nat → Nat} {q : Nat} {r : Rw} (h : rs[q]? = some r) : (rsQ rs pg q)[q]? = some r := by
  unfold rsQ
  rw [List.getElem?_mapIdx, h]
  simp
theorem rsQ_next {rs : List Rw} {pg : Nat → Nat} {q : Nat} {r : Rw} (h : rs[q]? = some r) : rsQ rs pg (q + 1) = (rsQ rs pg q).set q ⟨r.key, r.val, (pg q : Int)⟩ := by
  have hlt := (List.getElem?_eq_some_iff.1 h).1
  apply List.ext_getElem?
  intro i
  rw [List.getElem?_set]
  by_cases hi : q = i
  · subst hi
    rw [if_pos rfl, if_pos (by rw [rsQ_len]; exact hlt)]
    unfold rsQ
    rw [List.getElem?_mapIdx, h]
    simp
  · rw [if_neg hi]
    unfold rsQ
    rw [List.getElem?_mapIdx, List.getElem?_mapIdx]
    cases rs[i]? with
    | none => rfl
    | some x =>
      simp only [Option.map_some]
      by_cases h1 : i < q
      · rw [if_pos h1, if_pos (by omega)]
      · rw [if_neg h1, if_neg (by omega)]
/-- How far a call of put has come since its start. -/
structure PR (w0 w1 : World) (X1 : Nat → Prop) (f : Nat) (dv : DH) (w : World) (X : Nat → Prop) (L : List Nat) (v : Value) (B : List Nat) (G : Pg) (v' : Value) (w' : World) (X' : Nat → Prop) (Ln : List Nat) : Prop where
  st : PSt w0 w1 X1 f dv w' X' (L ++ Ln) G v'
  sub : ∀ y ∈ Ln, y ∈ B
  len : Ln.length ≤ B.length
  own : ∀ i, X i → X' i
  keep : Keeps w w' (fun i => i ∈ Ln ∨ Apart w0 X i ∨ v.ownBlock = some i)
  blk : ∀ g, v'.ownBlock = some g → v.ownBlock = some g ∨ w.heap.size ≤ g
theorem Law9.step {w0 w w' : World} {f : Nat} {dv : DH} {F : Pg} {X Y S : Nat → Prop} (h : Law9 w0 w f dv F X) (hk : Keeps w w' S) (hS : ∀ i, S i → X i ∧ w0.heap.size ≤ i) (hY : ∀ i, Y i → X i ∨ w.heap.size ≤ i) (hl : ∀ i, Y i → i < w'.heap.size) : Law9 w0 w' f dv F Y := by
  obtain ⟨bu, fv, h1, h2, h3, h4⟩ := h
  refine ⟨bu, fv, h1.kept hk (fun i hi hs => (h2 i hs).1 (hS i hi).1), fun i hi => ⟨fun hy => ?_, (h2 i hi).2⟩, hl, h4.then hk (fun i hi h => absurd (hS i h).2 (Nat.not_le.2 hi))⟩
  rcases hY i hy with h | h
  · exact (h2 i hi).1 h
  · exact absurd (h1.lt hi) (Nat.not_lt.2 h)
theorem isOwn.ty {w : World} {lo : Nat} {e : TypeId} {v : Value} {vs : List Value} (h : isOwn w lo e v vs) {g : Nat} (hg : v.ownBlock = some g) : ∃ C, w.heap[g]? = some (.cells C e (0, 0)) := by
  rcases h.2 with ⟨rfl, _⟩ | ⟨g', cap, cur, rfl, _, h2, _⟩
  · cases hg
  · cases hg; exact ⟨cur, h2⟩
namespace PSt
variable {w0 w1 w w' : World} {X1 X : Nat → Prop} {f : Nat} {dv : DH} {L : List Nat} {F G : Pg} {v v' : Value}
theorem size (h : PSt w0 w1 X1 f dv w X L F v) : w1.heap.size ≤ w.heap.size := h.keep.size
theorem xlt (h : PSt w0 w1 X1 f dv w X L F v) {i : Nat} (hi : X i) : i < w.heap.size := by
  obtain ⟨bu, fv, _, _, h3, _⟩ := h.law
  exact h3 i hi
theorem base (h : PSt w0 w1 X1 f dv w X L F v) : Keeps w0 w (fun _ => False) := h.law.keeps
/-- A page was put. -/
theorem put (h : PSt w0 w1 X1 f dv w X L F v) (hl : Law9 w0 w' f dv G X) (hk : Keeps w w' (Apart w0 X)) (hd : G.dead = false) : PSt w0 w1 X1 f dv w' X L G v :=
  ⟨h.keep.then hk (fun i _ hi => .inr ⟨fun hx => hi.1 (h.sub i hx), hi.2⟩), hl, h.sub, fun x hx => by
    obtain ⟨lf, rv, kv, p, h1, h2⟩ := h.ids x hx
    exact ⟨lf, rv, kv, p, h1, hk.blk h2 (fun hs => hs.1 (h.sub x (h.has x hx)))⟩, h.own.kept hk (fun g hg hs => hs.1 (h.blk g hg)), h.blk, hd, h.low, h.has, h.top⟩
/-- A block of the walk's own is written. -/
theorem ownW (h : PSt w0 w1 X1 f dv w X L F v) {g : Nat} (hx : X g) (hg : w1.heap.size ≤ g) (hv : v.ownBlock ≠ some g) (hk : Keeps w w' (· = g)) : PSt w0 w1 X1 f dv w' X L F v :=
  ⟨h.keep.then hk (fun i hi e => by have e' : i = g := e; omega), h.law.step hk (fun i e => by have e' : i = g := e; subst e'; exact ⟨hx, Nat.le_trans h.low hg⟩) (fun i hi => .inl hi) (fun i hi => Nat.lt_of_lt_of_le (h.xlt hi) hk.size), h.sub, fun x hx => by
    obtain ⟨lf, rv, kv, p, h1, h2⟩ := h.ids x hx
    exact ⟨lf, rv, kv, p, h1, hk.blk h2 (fun e => by have e' : x = g := e; have := lt_of_blk h1; omega)⟩, h.own.kept hk (fun q hq e => by have e' : q = g := e; subst e'; exact hv hq), h.blk, h.dead, h.low, h.has, h.top⟩
/-- A knot of the tree that was not written is as it was. -/
theorem knot (h : PSt w0 w1 X1 f dv w X L F v) {y : Nat} {C : Array Value} (hy : w1.heap[y]? = some (.cells C 96 (0, 0))) (hx : X1 y) (hn : y ∉ L) : w.heap[y]? = some (.cells C 96 (0, 0)) :=
  h.keep.blk hy (fun hs => hs.elim hn (fun hs => hs.1 hx))
theorem knots (h : PSt w0 w1 X1 f dv w X L F v) {y : Nat} (hy : Knots w1 y) (hx : X1 y) : Knots w y := by
  by_cases hn : y ∈ L
  · obtain ⟨lf, rv, kv, p, h1, h2⟩ := h.ids y hn
    exact ⟨_, h2⟩
  · obtain ⟨C, hC⟩ := hy
    exact ⟨C, h.knot hC hx hn⟩
/-- What is no knot's, and not the list's own, stays. -/
theorem off (h : PSt w0 w1 X1 f dv w X L F v) {Ln : List Nat} (hL : ∀ y ∈ Ln, X1 y ∧ Knots w1 y) : Off w X1 (fun i => i ∈ Ln ∨ Apart w0 X i ∨ v.ownBlock = some i) := by
  rintro i (hi | hi | hi) _
  · exact .inr (h.knots (hL i hi).2 (hL i hi).1)
  · exact .inl (fun hx => hi.1 (h.sub i hx))
  · exact .inl (fun hx => by have := (h.top i hx).2; have := (h.own.blk i hi).1; omega)
/-- A knot is written: its number, and the list. -/
theorem wrote (h : PSt w0 w1 X1 f dv w X L F v) {b p : Nat} {lf : Bool} {rv kv : Value} {wb : World} (h1 : w1.heap[b]? = some (.cells (knA 0 lf rv kv) 96 (0, 0))) (hx : X1 b) (hb : b ∉ L) (hwb : wb = w.setCell ⟨b, 0, none⟩ (.int .i64 p))
    (ho : isOwn w' w1.heap.size 91 v' ((L ++ [b]).map ptrV)) (hk : Keeps wb w' (fun i => v.ownBlock = some i)) (hv : v'.ownBlock = v.ownBlock ∨ ∃ g, v'.ownBlock = some g ∧ wb.heap.size ≤ g) :
    PSt w0 w1 X1 f dv w' (fun i => X i ∨ v'.ownBlock = some i) (L ++ [b]) F v' ∧ Keeps w w' (fun i => i ∈ [b] ∨ v.ownBlock = some i) := by
  have hbw := h.knot h1 hx hb
  have hks : Keeps w wb (· = b) := by rw [hwb]; exact keeps_cell w b 0 _
  have hkk : Keeps w w' (fun i => i ∈ [b] ∨ v.ownBlock = some i) := (hks.mono (fun i _ e => .inl (by have e' : i = b := e; simp [e']))).then hk (fun i _ e => .inr e)
  have hnb : v.ownBlock ≠ some b := fun e => by
    have := (h.own.blk b e).1
    have := lt_of_blk h1
    omega
  have hsz : wb.heap.size = w.heap.size := by rw [hwb]; simp only [World.size_setCell]
  refine ⟨⟨?_, h.law.step hkk (fun i hi => ?_) (fun i hi => ?_) (fun i hi => ?_), fun i hi => .inl (h.sub i hi), fun x hx9 => ?_, ho, fun g hg => .inr hg, h.dead, h.low, fun x hx9 => ?_, h.top⟩, hkk⟩
  · refine (h.keep.mono (fun i _ hi => hi.imp (fun h9 => List.mem_append_left _ h9) id)).then hkk (fun i hi e => ?_)
    rcases e with e | e
    · exact .inl (List.mem_append_right _ e)
    · have := (h.own.blk i e).1; omega
  · rcases hi with hi | hi
    · have e : i = b := by simpa using hi
      subst e
      exact ⟨h.sub _ hx, (h.top _ hx).1⟩
    · have h9 := (h.own.blk i hi).1
      have h8 := h.base.size
      exact ⟨h.blk i hi, by have := (h.top _ hx); omega⟩
  · rcases hi with hi | hi
    · exact .inl hi
    · rcases hv with h9 | ⟨g, h9, h8⟩
      · exact .inl (h.blk i (by rw [← h9]; exact hi))
      · rw [h9] at hi; injection hi with hi; subst hi; exact .inr (by omega)
  · rcases hi with hi | hi
    · exact Nat.lt_of_lt_of_le (h.xlt hi) hkk.size
    · exact (ho.blk i hi).2
  · rcases List.mem_append.1 hx9 with h9 | h9
    · obtain ⟨lf, rv, kv, p, h3, h4⟩ := h.ids x h9
      refine ⟨lf, rv, kv, p, h3, hkk.blk h4 (fun e => ?_)⟩
      rcases e with e | e
      · have e : x = b := by simpa using e
        exact hb (e ▸ h9)
      · have := (h.own.blk x e).1; have := lt_of_blk h3; omega
    · have e : x = b := by simpa using h9
      subst e
      refine ⟨lf, rv, kv, p, h1, hk.blk ?_ (fun e => hnb e)⟩
      rw [hwb]
      exact blk_setCell hbw 0 _
  · rcases List.mem_append.1 hx9 with h9 | h9
    · exact h.has x h9
    · have e : x = b := by simpa using h9
      subst e
      exact hx
/-- Blocks of the walk's own are told to be kept. -/
theorem moreY (h : PSt w0 w1 X1 f dv w X L F v) {Y : Nat → Prop} (hk : Keeps w w' (fun _ => False)) (hY : ∀ i, Y i → w.heap.size ≤ i ∧ i < w'.heap.size) : PSt w0 w1 X1 f dv w' (fun i => X i ∨ Y i) L F v := by
  have h1 := h.new hk
  refine ⟨h1.keep, h.law.more hk (fun i hi => hi.imp id (fun h => (hY i h).1)) (fun i hi => ?_), fun i hi => .inl (h.sub i hi), h1.ids, h1.own, fun g hg => .inl (h.blk g hg), h.dead, h.low, h.has, h.top⟩
  · rcases hi with hi | hi
    · exact Nat.lt_of_lt_of_le (h.xlt hi) hk.size
    · exact (hY i hi).2
/-- What the tree's rows and kids stay by. -/
theorem off1 (h : PSt w0 w1 X1 f dv w X L F v) : Off w1 X1 (fun i => i ∈ L ∨ Apart w0 X1 i) := by
  rintro i (hi | hi) _
  · obtain ⟨lf, rv, kv, p, h1, _⟩ := h.ids i hi
    exact .inr ⟨_, h1⟩
  · exact .inl hi.1
end PSt
namespace PR
variable {w0 w1 w wa wb : World} {X1 X Xa Xb : Nat → Prop} {f : Nat} {dv : DH} {L La Lb : List Nat} {v va vb : Value} {B B1 B2 : List Nat} {F G : Pg}
theorem refl (h : PSt w0 w1 X1 f dv w X L F v) : PR w0 w1 X1 f dv w X L v [] F v w X [] := ⟨by rw [List.append_nil]; exact h, fun y hy => (by cases hy), Nat.le_refl _, fun _ h => h, Keeps.refl _ _, fun _ h => .inl h⟩
theorem trans (h : PR w0 w1 X1 f dv w X L v B1 F va wa Xa La) (k : PR w0 w1 X1 f dv wa Xa (L ++ La) va B2 G vb wb Xb Lb) : PR w0 w1 X1 f dv w X L v (B1 ++ B2) G vb wb Xb (La ++ Lb) :=
  ⟨by rw [← List.append_assoc]; exact k.st, fun y hy => (List.mem_append.1 hy).elim (fun h1 => List.mem_append_left _ (h.sub y h1)) (fun h1 => List.mem_append_right _ (k.sub y h1)), by rw [List.length_append, List.length_append]; have := h.len; have := k.len; omega, fun i hi => k.own i (h.own i hi),
    (h.keep.mono (fun i _ hi => hi.imp (List.mem_append_left _) id)).then k.keep (fun i hi hs => by
      rcases hs with hs | hs | hs
      · exact .inl (List.mem_append_right _ hs)
      · exact .inr (.inl ⟨fun hx => hs.1 (h.own i hx), hs.2⟩)
      · rcases h.blk i hs with h1 | h1
        · exact .inr (.inr h1)
        · omega), fun g hg => (k.blk g hg).elim (fun h1 => h.blk g h1) (fun h1 => .inr (Nat.le_trans h.keep.size h1))⟩
theorem wide (h : PR w0 w1 X1 f dv w X L v B F va wa Xa La) (hs : ∀ y ∈ B, y ∈ B1) (hl : B.length ≤ B1.length) : PR w0 w1 X1 f dv w X L v B1 F va wa Xa La := ⟨h.st, fun y hy => hs y (h.sub y hy), Nat.le_trans h.len hl, h.own, h.keep, h.blk⟩
theorem new (h : PR w0 w1 X1 f dv w X L v B F va wa Xa La) (hk : Keeps wa wb (fun _ => False)) : PR w0 w1 X1 f dv w X L v B F va wb Xa La := ⟨h.st.new hk, h.sub, h.len, h.own, h.keep.then hk (fun _ _ h => h.elim), h.blk⟩
theorem more (h : PR w0 w1 X1 f dv w X L v B F va wa Xa La) (g : Nat) (hg : wa.heap.size ≤ g) (hk : Keeps wa wb (fun _ => False)) (hl : g < wb.heap.size) : PR w0 w1 X1 f dv w X L v B F va wb (fun i => Xa i ∨ i = g) La := ⟨h.st.more g hg hk hl, h.sub, h.len, fun i hi => .inl (h.own i hi), h.keep.then hk (fun _ _ h => h.elim), h.blk⟩
theorem moreY (h : PR w0 w1 X1 f dv w X L v B F va wa Xa La) {Y : Nat → Prop} (hk : Keeps wa wb (fun _ => False)) (hY : ∀ i, Y i → wa.heap.size ≤ i ∧ i < wb.heap.size) : PR w0 w1 X1 f dv w X L v B F va wb (fun i => Xa i ∨ Y i) La := ⟨h.st.moreY hk hY, h.sub, h.len, fun i hi => .inl (h.own i hi), h.keep.then hk (fun _ _ h => h.elim), h.blk⟩
theorem put (h : PR w0 w1 X1 f dv w X L v B F va wa Xa La) (hl : Law9 w0 wb f dv G Xa) (hk : Keeps wa wb (Apart w0 Xa)) (hd : G.dead = false) : PR w0 w1 X1 f dv w X L v B G va wb Xa La := ⟨h.st.put hl hk hd, h.sub, h.len, h.own, h.keep.then hk (fun i _ hi => .inr (.inl ⟨fun hx => hi.1 (h.own i hx), hi.2⟩)), h.blk⟩
theorem ownW (h : PR w0 w1 X1 f dv w X L v B F va wa Xa La) {g : Nat} (hx : Xa g) (hg : w.heap.size ≤ g) (hg1 : w1.heap.size ≤ g) (hv : va.ownBlock ≠ some g) (hk : Keeps wa wb (· = g)) : PR w0 w1 X1 f dv w X L v B F va wb Xa La := ⟨h.st.ownW hx hg1 hv hk, h.sub, h.len, h.own, h.keep.then hk (fun i hi e => by have e' : i = g := e; omega), h.blk⟩
/-- The knot itself is written. -/
theorem wrote (h : PR w0 w1 X1 f dv w X L v B F va wa Xa La) {b p : Nat} {lf : Bool} {rv kv : Value} {wm : World} (h1 : w1.heap[b]? = some (.cells (knA 0 lf rv kv) 96 (0, 0))) (hx : X1 b) (hb : b ∉ L ++ La) (hwm : wm = wa.setCell ⟨b, 0, none⟩ (.int .i64 p))
    (ho : isOwn wb w1.heap.size 91 vb (((L ++ La) ++ [b]).map ptrV)) (hk : Keeps wm wb (fun i => va.ownBlock = some i)) (hv : vb.ownBlock = va.ownBlock ∨ ∃ g, vb.ownBlock = some g ∧ wm.heap.size ≤ g) :
    PR w0 w1 X1 f dv w X L v (B ++ [b]) F vb wb (fun i => Xa i ∨ vb.ownBlock = some i) (La ++ [b]) := by
  obtain ⟨k1, k2⟩ := h.st.wrote h1 hx hb hwm ho hk hv
  have hsz : wa.heap.size ≤ wm.heap.size := by rw [hwm, World.size_setCell]; exact Nat.le_refl _
  refine ⟨by rw [← List.append_assoc]; exact k1, fun y hy => (List.mem_append.1 hy).elim (fun h9 => List.mem_append_left _ (h.sub y h9)) (fun h9 => List.mem_append_right _ h9), by rw [List.length_append, List.length_append]; have := h.len; omega, fun i hi => .inl (h.own i hi), (h.keep.mono (fun i _ hi => hi.imp (List.mem_append_left _) id)).then k2 (fun i hi hs => ?_), fun g hg => ?_⟩
  · rcases hs with hs | hs
    · exact .inl (List.mem_append_right _ hs)
    · rcases h.blk i hs with h9 | h9
      · exact .inr (.inr h9)
      · omega
  · rcases hv with h9 | ⟨g', h9, h8⟩
    · exact h.blk g (by rw [← h9]; exact hg)
    · rw [h9] at hg; injection hg with hg; subst hg; exact .inr (Nat.le_trans h.keep.size (Nat.le_trans hsz h8))
end PR
/-- Lists, one behind another. -/
def catB (B : Nat → List Nat) : Nat → List Nat
  | 0 => []
  | q + 1 => catB B q ++ B q
theorem mem_catB {B : Nat → List Nat} {q y : Nat} : y ∈ catB B q ↔ ∃ i, i < q ∧ y ∈ B i := by
  induction q with
  | zero => simp [catB]
  | succ q ih =>
    show y ∈ catB B q ++ B q ↔ _
    rw [List.mem_append, ih]
    constructor
    · rintro (⟨i, h1, h2⟩ | h)
      · exact ⟨i, by omega, h2⟩
      · exact ⟨q, by omega, h⟩
    · rintro ⟨i, h1, h2⟩
      rcases Nat.lt_or_ge i q with h | h
      · exact .inl ⟨i, h, h2⟩
      · obtain rfl : i = q := by omega
        exact .inr h2
theorem catB_le {B : Nat → List Nat} {q m : Nat} (h : q ≤ m) : (catB B q).length ≤ (catB B m).length := by
  induction m with
  | zero => obtain rfl : q = 0 := by omega
            exact Nat.le_refl _
  | succ m ih =>
    rcases Nat.lt_or_ge m q with h1 | h1
    · obtain rfl : q = m + 1 := by omega
      exact Nat.le_refl _
    · have := ih h1
      show _ ≤ (catB B m ++ B m).length
      rw [List.length_append]; omega
theorem catB_list (L : List (List Nat)) : catB (fun i => L.getD i []) L.length = L.flatten := by
  have h : ∀ q, q ≤ L.length → catB (fun i => L.getD i []) q = (L.take q).flatten := by
    intro q
    induction q with
    | zero => intro _; simp [catB]
    | succ q ih =>
      intro hq
      show catB _ q ++ _ = _
      have h1 : L[q]? = some (L[q]'(by omega)) := List.getElem?_eq_getElem _
      rw [ih (by omega), take_snoc h1, List.flatten_append]
      congr 1
      simp [List.getD, h1]
  rw [h _ (Nat.le_refl _), List.take_length]
theorem putP_dead (F : Pg) (b : List UInt8) (p : Nat) : (putP F b p).1.dead = F.dead := by unfold putP; split <;> rfl
/-- What writing a knot and all below it comes to. -/
def KPost (w0 w1 : World) (X1 : Nat → Prop) (f : Nat) (dv : DH) (B : List Nat) (G : Pg) (er : Int) (Good : World → Prop) (w : World) (X : Nat → Prop) (L : List Nat) (v : Value) (e : Ending) (w' : World) : Prop :=
  ∃ v' X' Ln, e = .returned (.tuple #[v', .int .i64 er]) ∧ PR w0 w1 X1 f dv w X L v B G v' w' X' Ln ∧ (er = 0 → Good w')
/-- A kid's contract, as the loop needs it: it is as it was at w1 till then. -/
def KidOk (w0 w1 : World) (X1 : Nat → Prop) (f : Nat) (dv : DH) (t x : Nat) (B : List Nat) (F G : Pg) (er : Int) (Good : World → Prop) : Prop :=
  ∀ (w : World) (X : Nat → Prop) (L : List Nat) (v : Value), PSt w0 w1 X1 f dv w X L F v → (∀ y ∈ L, y ∉ B) → L.length + B.length ≤ 1000000 → Calls Tryz.prog 74 #[.pointer (some ⟨t, 0, none⟩), .pointer (some ⟨x, 0, none⟩), v] w (KPost w0 w1 X1 f dv B G er Good w X L v)
/-- A tree's blocks are the statement's own, and knots. -/
theorem isKB.own {w : World} {X : Nat → Prop} : ∀ {d : Nat} {n : Nd d} {t : Bt d}, isKB w X d n t → ∀ b ∈ blocksB d t, X b ∧ Knots w b
  | 0, n, t, ⟨rs, h1, h2⟩, b, hb => by
    have e : b = rootB t := List.mem_singleton.1 (show b ∈ [rootB t] from hb)
    subst e
    obtain ⟨rv, kv, h3, _⟩ := h1.ex
    exact ⟨h1.x, _, h3⟩
  | d + 1, n, t, ⟨rs, h1, h2, h3, h4⟩, b, hb => by
    rcases List.mem_cons.1 hb with rfl | hb
    · obtain ⟨rv, kv, h3, _⟩ := h1.ex
      exact ⟨h1.x, _, h3⟩
    · obtain ⟨l, hl, hx⟩ := List.mem_flatten.1 hb
      obtain ⟨k, hk, rfl⟩ := List.mem_map.1 hl
      obtain ⟨i, hi⟩ := List.getElem?_of_mem hk
      have hr : n.2[i]? = some (n.2[i]'(by have := (List.getElem?_eq_some_iff.1 hi).1; omega)) := List.getElem?_eq_getElem _
      exact isKB.own (h4 i _ k hr hi) b hx
/-- A tree of whose knots none was written is as it was. -/
theorem isKB.still {w0 w1 w : World} {X1 X : Nat → Prop} {f : Nat} {dv : DH} {L : List Nat} {F : Pg} {v : Value} (hst : PSt w0 w1 X1 f dv w X L F v) {d : Nat} {n : Nd d} {tr : Bt d} (h : isKB w1 X1 d n tr) (hL : ∀ y ∈ L, y ∉ blocksB d tr) : isKB w X1 d n tr :=
  isKB.kept hst.keep (fun i hi _ => by
    rcases hi with hi | hi
    · obtain ⟨lf, rv, kv, p, h1, _⟩ := hst.ids i hi
      exact .inr ⟨_, h1⟩
    · exact .inl hi.1) h (fun b hb hs => by
    rcases hs with hs | hs
    · exact hL b hs hb
    · exact hs.1 (h.own b hb).1)
/-- A knot that has its page, in those words. -/
theorem putHas_ok {w0 w1 : World} {X1 : Nat → Prop} {f : Nat} {dv : DH} {t : Nat} {d : Nat} {n : Nd d} {tr : Bt d} (h : isKB w1 X1 d n tr) (hp : n.1 ≠ 0) (F : Pg) : KidOk w0 w1 X1 f dv t (rootB tr) (blocksB d tr) F F 0 (fun w' => isKB w' X1 d n tr) := by
  intro w X L v hst hL _
  have hkb := isKB.still hst h hL
  obtain ⟨lf, rs, ks, hkn⟩ : ∃ lf rs ks, KN w X1 (rootB tr) n.1 lf rs ks := by
    cases d with
    | zero => obtain ⟨rs, h1, _⟩ := hkb; exact ⟨_, rs, _, h1⟩
    | succ d => obtain ⟨rs, h1, _⟩ := hkb; exact ⟨_, rs, _, h1⟩
  refine (putHas_calls w X1 t (rootB tr) n.1 lf rs ks v hkn hp).mono ?_
  rintro e w' ⟨rfl, rfl⟩
  exact ⟨v, X, [], rfl, (PR.refl hst).wide (fun y hy => by cases hy) (Nat.zero_le _), fun _ => hkb⟩
end Go.Proofs.YtblpkifkaoaicaaGreat

namespace Go.Proofs.YtblpkifkaoaicaaGreat
open Go Go.RowKit Go.Maps Wb

theorem buildTr (f c h : Nat) (w : World) : (Instr.build 93 #[(0, .pointer (some ⟨f, 0, none⟩)), (3, .int .i64 c), (4, .int .i64 h)]).run Tryz.prog w = .ok (.agg (treeA f (.pointer none) (.pointer none) c h)) w := by kernel_rfl
def readerA (f : Nat) (mv : Value) (kv : Value) : Array Value := #[.pointer (some ⟨f, 0, none⟩), mv, kv, .int .i64 0]
theorem buildRd (f : Nat) (m : Option Nat) (w : World) : (Instr.build 135 #[(0, .pointer (some ⟨f, 0, none⟩)), (1, .map m)]).run Tryz.prog w = .ok (.agg (readerA f (.map m) (.slice none 0 0))) w := by kernel_rfl
set_option maxRecDepth 100000 in
set_option maxHeartbeats 1200000 in
theorem openNone_calls (w0 w : World) (f : Nat) (dv : DH) (F : Pg) (X : Nat → Prop) (h : Law9 w0 w f dv F X) (hr : F.mt.root = 0) (hc : F.mt.count = 0) :
    Calls Tryz.prog 33 #[.pointer (some ⟨f, 0, none⟩)] w fun e w' => ∃ t, e = .returned (.tuple #[.pointer (some ⟨t, 0, none⟩), .int .i64 0]) ∧ w.heap.size ≤ t ∧ w'.heap[t]? = some (.cells (treeA f (.pointer none) (.pointer none) 0 0) 93 (0, 0)) ∧ Law9 w0 w' f dv (keepP F []) (fun i => X i ∨ i = t) ∧ Keeps w w' (Apart w0 X) := by
  have hmt : metaA F.mt = #[.int .u64 F.mt.gen, .int .i64 ((0 : Nat) : Int), .int .i64 ((0 : Nat) : Int), .int .u64 F.mt.mark] := by unfold metaA; rw [hr, hc]
  have HMT := Lib.hid hmt
  have HL := Lib.hid h
  clear hr hc h hmt
  go_enter Tryz.func33, Tryz.ntmps33
  go_wp2_with fail
  refine (l_meta HL.out).mono ?_
  rintro e w1 ⟨rfl, hl1, hk1⟩
  have HK1 := Lib.hid hk1
  have HL1 := Lib.hid hl1
  clear hl1 hk1
  go_wp2_with (first
    | ((with_reducible refine gd_alloc 119 ?_); refine wl_alloc_agg rfl _ rfl _ zeroM ?_; intro bm w2 hbm HB2 HK2)
    | ((with_reducible refine gd_store 119 ?_); refine wl_store_agg rfl _ _ _ rfl bm _ rfl _ _ HB2 (metaA F.mt) rfl (metaA F.mt) (store_meta _ _) (Nat.le_refl 4) (infoMs _) (metaA_one _) ?_; intro w3 HB3 HK3; rw [HMT.out] at HB3; have k1 : w3.cell? ⟨bm, 1, none⟩ = some (.int .i64 ((0 : Nat) : Int)) := (by rw [cell_of_block HB3]; rfl); have k2 : w3.cell? ⟨bm, 2, none⟩ = some (.int .i64 ((0 : Nat) : Int)) := (by rw [cell_of_block HB3]; rfl))
    | ((with_reducible refine gd_build 93 ?_); refine wl_buildL rfl _ _ rfl [(0, .pointer (some ⟨f, 0, none⟩)), (3, .int .i64 ((0 : Nat) : Int)), (4, .int .i64 ((0 : Nat) : Int))] rfl (.agg (treeA f (.pointer none) (.pointer none) 0 0)) (fun _ => buildTr _ _ _ _) ?_)
    | ((with_reducible refine gd_box 93 ?_); refine wl_box_agg rfl _ _ rfl (treeA f (.pointer none) (.pointer none) 0 0) rfl ?_; intro t w4 ht HB4 HK4; have k11 : w4.cell? ⟨bm, 1, none⟩ = some (.int .i64 ((0 : Nat) : Int)) := Keeps.cellK HK4 k1)
    | ((with_reducible refine gd_makeMap 133 ?_); refine wl_makeMap rfl _ rfl 169 ?_; intro bs w5 hbs hms HK5)
    | ((with_reducible refine gd_build 135 ?_); refine wl_buildL rfl _ _ rfl [(0, .pointer (some ⟨f, 0, none⟩)), (1, .map (some bs))] rfl (.agg (readerA f (.map (some bs)) (.slice none 0 0))) (fun _ => buildRd _ _ _) ?_)
    | ((with_reducible refine gd_box 135 ?_); refine wl_box_agg rfl _ _ rfl (readerA f (.map (some bs)) (.slice none 0 0)) rfl ?_; intro br w6 hbr HB6 HK6; have k12 : w6.cell? ⟨bm, 1, none⟩ = some (.int .i64 ((0 : Nat) : Int)) := Keeps.cellK HK6 (Keeps.cellK HK5 k11); have k22 : w6.cell? ⟨bm, 2, none⟩ = some (.int .i64 ((0 : Nat) : Int)) := Keeps.cellK HK6 (Keeps.cellK HK5 (Keeps.cellK HK4 k2)); have r2 : w6.cell? ⟨br, 2, none⟩ = some (.slice none 0 0) := (by rw [cell_of_block HB6]; rfl))
    | fail)
  have HS : (fun (w' : World) => w'.cell? ⟨br, 2, none⟩ = some (.slice none 0 0) ∧ w'.cell? ⟨bm, 2, none⟩ = some (.int .i64 ((0 : Nat) : Int))) w6.drew := ⟨r2, k22⟩
  refine wp_region_held_drew (S := (fun (w' : World) => w'.cell? ⟨br, 2, none⟩ = some (.slice none 0 0) ∧ w'.cell? ⟨bm, 2, none⟩ = some (.int .i64 ((0 : Nat) : Int)))) (by kernel_rfl) HS (fun _ => ?_)
  first | (refine rg_s 0 rfl (by kernel_rfl) (fun _ _ _ h => h) HS ?_ ?_; rfl) | (refine rg_t 0 (v := ?_) rfl (by kernel_rfl) (fun _ _ _ h => h) HS ?_ ?_ ?_; rotate_left; rfl; focus (intro w hSw; (try dsimp only at hSw); go_simp; all_goals (with_reducible rfl)))
  simp only [Act.put, l_a, l_s, l_z]
  first | (refine rg_s 1 rfl (by kernel_rfl) (fun _ _ _ h => h) HS ?_ ?_; rfl) | (refine rg_t 1 (v := ?_) rfl (by kernel_rfl) (fun _ _ _ h => h) HS ?_ ?_ ?_; rotate_left; rfl; focus (intro w hSw; (try dsimp only at hSw); go_simp; all_goals (with_reducible rfl)))
  simp only [Act.put, l_a, l_s, l_z]
  first | (refine rg_s 2 rfl (by kernel_rfl) (fun _ _ _ h => h) HS ?_ ?_; rfl) | (refine rg_t 2 (v := ?_) rfl (by kernel_rfl) (fun _ _ _ h => h) HS ?_ ?_ ?_; rotate_left; rfl; focus (intro w hSw; (try dsimp only at hSw); go_simp; all_goals (with_reducible rfl)))
  simp only [Act.put, l_a, l_s, l_z]
  first | (refine rg_s 3 rfl (by kernel_rfl) (fun _ _ _ h => h) HS ?_ ?_; rfl) | (refine rg_t 3 (v := ?_) rfl (by kernel_rfl) (fun _ _ _ h => h) HS ?_ ?_ ?_; rotate_left; rfl; focus (intro w hSw; (try dsimp only at hSw); go_simp; all_goals (with_reducible rfl)))
  simp only [Act.put, l_a, l_s, l_z]
  first | (refine rg_s 4 rfl (by kernel_rfl) (fun _ _ _ h => h) HS ?_ ?_; rfl) | (refine rg_t 4 (v := ?_) rfl (by kernel_rfl) (fun _ _ _ h => h) HS ?_ ?_ ?_; rotate_left; rfl; focus (intro w hSw; (try dsimp only at hSw); go_simp; all_goals (with_reducible rfl)))
  simp only [Act.put, l_a, l_s, l_z]
  first | (refine rg_s 5 rfl (by kernel_rfl) (fun _ _ _ h => h) HS ?_ ?_; rfl) | (refine rg_t 5 (v := ?_) rfl (by kernel_rfl) (fun _ _ _ h => h) HS ?_ ?_ ?_; rotate_left; rfl; focus (intro w hSw; (try dsimp only at hSw); go_simp; all_goals (with_reducible rfl)))
  simp only [Act.put, l_a, l_s, l_z]
  first | (refine rg_s 6 rfl (by kernel_rfl) (fun _ _ _ h => h) HS ?_ ?_; rfl) | (refine rg_t 6 (v := ?_) rfl (by kernel_rfl) (fun _ _ _ h => h) HS ?_ ?_ ?_; rotate_left; rfl; focus (intro w hSw; (try dsimp only at hSw); go_simp; all_goals (with_reducible rfl)))
  simp only [Act.put, l_a, l_s, l_z]
  first | (refine rg_s 7 rfl (by kernel_rfl) (fun _ _ _ h => h) HS ?_ ?_; rfl) | (refine rg_t 7 (v := ?_) rfl (by kernel_rfl) (fun _ _ _ h => h) HS ?_ ?_ ?_; rotate_left; rfl; focus (intro w hSw; (try dsimp only at hSw); go_simp; all_goals (with_reducible rfl)))
  simp only [Act.put, l_a, l_s, l_z]
  refine wpAnyH_done (by kernel_rfl) ?_ _
  have HKT : Hid (Keeps w w6.drew (fun _ => False)) := Lib.hid (((((HK1.out.trans HK2).then HK3 (fun i hi e => by have e' : i = bm := e; have := HK1.out.size; omega)).trans HK4).trans (HK5.trans HK6)).drew)
  have HTB : Hid (w6.drew.heap[t]? = some (.cells (treeA f (.pointer none) (.pointer none) 0 0) 93 (0, 0))) := Lib.hid ((HK5.trans HK6).blk HB4 (fun h => h))
  have HTW : Hid (w.heap.size ≤ t) := Lib.hid (by have := HK1.out.size; have := HK2.size; have := HK3.size; omega)
  have HTL : Hid (∀ i, w1.heap.size ≤ i → i = t → True) := Lib.hid (fun _ _ _ => trivial)
  have HLT : Hid (Law9 w0 w6.drew f dv F (fun i => X i ∨ i = t)) := Lib.hid (HL1.out.more ((((HK2.trans (Keeps.refl _ _)).then HK3 (fun i hi e => by have e' : i = bm := e; omega)).trans HK4).trans (HK5.trans HK6)).drew (fun i hi => by
    rcases hi with hi | rfl
    · exact .inl hi
    · exact .inr (by have := HK2.size; have := HK3.size; omega)) (fun i hi => by
    rcases hi with hi | rfl
    · obtain ⟨bu, fv, _, _, h3, _⟩ := HL1.out
      have q1 := h3 i hi
      have q2 := HK2.size; have q3 := HK3.size; have q4 := HK4.size; have q5 := HK5.size; have q6 := HK6.size
      exact Nat.lt_of_lt_of_le q1 (by show _ ≤ w6.heap.size; omega)
    · exact lt_of_blk HTB.out))
  have HTR : Hid (isTree w6.drew (fun i => X i ∨ i = t) t f none none 0 0) := Lib.hid ⟨.inr rfl, _, _, HTB.out, rfl, rfl⟩
  clear k1 k2 k11 k12 k22 r2 HS HB2 HB3 HB4 HB6 HK2 HK3 HK4 HK5 HK6 hms hbm hbs hbr ht
  go_wp2_with fail
  refine (treePages_calls _ _ t f none none 0 0 HTR.out trivial (Nat.zero_le _)).mono ?_
  rintro e w7 ⟨v7, rfl, ho7, hk7⟩
  have he7 : sortN (nI (idsR none)) = [] := by simp [sortN, nI, idsR]
  rw [he7] at ho7
  obtain ⟨a7, c7, e7⟩ := isOwn.shapeN ho7
  simp only [List.map_nil, List.length_nil] at e7
  subst e7
  have HO7 := Lib.hid ho7
  have HK7 := Lib.hid hk7
  have HKEEP : Hid (∀ u, u = Value.slice a7 0 c7 → Calls Tryz.prog 63 #[.pointer (some ⟨f, 0, none⟩), u] w7 fun e w2 => e = .returned (.int .i64 0) ∧ Law9 w0 w2 f dv (keepP F []) (fun i => X i ∨ i = t) ∧ Keeps w7 w2 (Apart w0 (fun i => X i ∨ i = t))) := Lib.hid (fun u hu => by
    subst hu
    refine l_keep11 (HLT.out.new HK7.out) (ids := []) ?_ (fun _ _ => .inl rfl) (Nat.zero_le _) (fun j x h => by cases h)
    exact HO7.out.rd)
  clear ho7 hk7 he7
  as_aux_lemma =>
  go_wp2_with fail
  refine (HKEEP.out _ rfl).mono ?_
  rintro e w8 ⟨rfl, hl8, hk8⟩
  have HPO : Hid (∃ t', Ending.returned (.tuple #[.pointer (some ⟨t, 0, none⟩), .int .i64 0]) = .returned (.tuple #[.pointer (some ⟨t', 0, none⟩), .int .i64 0]) ∧ w.heap.size ≤ t' ∧ w8.heap[t']? = some (.cells (treeA f (.pointer none) (.pointer none) 0 0) 93 (0, 0)) ∧ Law9 w0 w8 f dv (keepP F []) (fun i => X i ∨ i = t') ∧ Keeps w w8 (Apart w0 X)) := Lib.hid ⟨t, rfl, HTW.out, hk8.blk (HK7.out.blk HTB.out (fun h => h)) (fun h => h.1 (.inr rfl)), hl8, ((HKT.out.trans HK7.out).mono (fun _ _ h => h.elim)).trans (hk8.mono (fun i _ h => ⟨fun hx => h.1 (.inl hx), h.2⟩))⟩
  clear hl8 hk8
  go_wp2_with fail
  go_ret2
  exact HPO.out
end Go.Proofs.YtblpkifkaoaicaaGreat

namespace Go.Proofs.YtblpkifkaoaicaaGreat
open Go Go.RowKit Go.Maps Wb

/-- Kids, as they are written one after another. -/
structure KidsOk (w0 w1 : World) (X1 : Nat → Prop) (f : Nat) (dv : DH) (t : Nat) (ks : List Nat) (B : Nat → List Nat) (G : Nat → Pg) (er : Nat → Int) (pg : Nat → Nat) (Good : Nat → World → Prop) : Prop where
  ok : ∀ i x, ks[i]? = some x → (∀ j, j < i → er j = 0) → KidOk w0 w1 X1 f dv t x (B i) (G i) (G (i + 1)) (er i) (Good i)
  page : ∀ i x w, ks[i]? = some x → Good i w → w.cell? ⟨x, 0, none⟩ = some (.int .i64 (pg i))
  stay : ∀ i w w' S, i < ks.length → Good i w → Keeps w w' S → Off w X1 S → (∀ y ∈ B i, ¬ S y) → Good i w'
  apart : ∀ i j y, i < j → j < ks.length → y ∈ B i → y ∉ B j
  own : ∀ i y, i < ks.length → y ∈ B i → X1 y ∧ Knots w1 y
theorem isOwnA.ty {w : World} {lo : Nat} {e : TypeId} {sz : Nat} {v : Value} {rows : List (Array Value)} (h : isOwnA w lo e sz v rows) {g : Nat} (hg : v.ownBlock = some g) : ∃ C, w.heap[g]? = some (.cells C e (0, 0)) := by
  rcases h.2.2 with ⟨rfl, _⟩ | ⟨g', cap, cur, rfl, _, h2, _⟩
  · cases hg
  · cases hg; exact ⟨cur, h2⟩
theorem blk_ty {w : World} {g : Nat} {C D : Array Value} {e e' : TypeId} (h : w.heap[g]? = some (.cells C e (0, 0))) (k : w.heap[g]? = some (.cells D e' (0, 0))) : e = e' := by
  rw [h] at k
  injection k with k
  injection k with _ k
/-- In the loop over kids: q are written, r rows told. -/
structure LR (w0 w1 : World) (X1 : Nat → Prop) (f : Nat) (dv : DH) (w : World) (X : Nat → Prop) (L : List Nat) (v : Value) (B : Nat → List Nat) (G : Nat → Pg) (er : Nat → Int) (Good : Nat → World → Prop) (rs : List Rw) (pg : Nat → Nat) (lf : Bool) (bn : Nat) (cl : Value) (lo q r : Nat) (vq : Value) (wr : World) (Xq : Nat → Prop) (Lq : List Nat) : Prop where
  pr : PR w0 w1 X1 f dv w X L v (catB B q) (G q) vq wr Xq Lq
  xn : Xq bn
  xc : ∀ g, cl.ownBlock = some g → Xq g
  nb : wr.heap[bn]? = some (.cells (nodeA lf cl) 108 (0, 0))
  rows : isOwnA wr lo 70 3 cl (rowsA (rsQ rs pg r))
  done : ∀ j, j < q → er j = 0 ∧ Good j wr
  hlo : w.heap.size ≤ lo
  hbn : w.heap.size ≤ bn
  h1 : w1.heap.size ≤ w.heap.size
namespace LR
variable {w0 w1 : World} {X1 : Nat → Prop} {f : Nat} {dv : DH} {t : Nat} {ks : List Nat} {w : World} {X : Nat → Prop} {L : List Nat} {v : Value} {B : Nat → List Nat} {G : Nat → Pg} {er : Nat → Int} {Good : Nat → World → Prop} {rs : List Rw} {pg : Nat → Nat} {lf : Bool} {bn : Nat} {cl : Value} {lo q r : Nat} {vq : Value} {wr : World} {Xq : Nat → Prop} {Lq : List Nat}
theorem kid (hks : KidsOk w0 w1 X1 f dv t ks B G er pg Good) (hq : q < ks.length) (h : LR w0 w1 X1 f dv w X L v B G er Good rs pg lf bn cl lo q r vq wr Xq Lq) {v5 : Value} {w5 : World} {X5 : Nat → Prop} {L5 : List Nat} (k : PR w0 w1 X1 f dv wr Xq (L ++ Lq) vq (B q) (G (q + 1)) v5 w5 X5 L5) (he : er q = 0) (hg : Good q w5) :
    LR w0 w1 X1 f dv w X L v B G er Good rs pg lf bn cl lo (q + 1) r v5 w5 X5 (Lq ++ L5) := by
  have hL5 : ∀ y ∈ L5, X1 y ∧ Knots w1 y := fun y hy => hks.own q y hq (k.sub y hy)
  have hnew : ∀ i C e, wr.heap[i]? = some (.cells C e (0, 0)) → e ≠ 91 → Xq i → w.heap.size ≤ i → ¬ (i ∈ L5 ∨ Apart w0 Xq i ∨ vq.ownBlock = some i) := by
    rintro i C e hi hne hx hw (hs | hs | hs)
    · obtain ⟨D, hD⟩ := (hL5 i hs).2
      have := lt_of_blk hD
      have := h.h1
      omega
    · exact hs.1 hx
    · obtain ⟨D, hD⟩ := isOwn.ty h.pr.st.own hs
      exact hne (blk_ty hi hD)
  refine ⟨h.pr.trans k, k.own _ h.xn, fun g hg => k.own _ (h.xc g hg), k.keep.blk h.nb (hnew bn _ _ h.nb (by decide) h.xn h.hbn), h.rows.kept k.keep (fun g hg => ?_), fun j hj => ?_, h.hlo, h.hbn, h.h1⟩
  · obtain ⟨C, hC⟩ := isOwnA.ty h.rows hg
    exact hnew g C _ hC (by decide) (h.xc g hg) (Nat.le_trans h.hlo (h.rows.blk g hg).1)
  · rcases Nat.lt_or_ge j q with h9 | h9
    · obtain ⟨d1, d2⟩ := h.done j h9
      refine ⟨d1, hks.stay j wr w5 _ (by omega) d2 k.keep (h.pr.st.off hL5) ?_⟩
      rintro y hy (hs | hs | hs)
      · exact hks.apart j q y h9 hq hy (k.sub y hs)
      · exact hs.1 (h.pr.st.sub y (hks.own j y (by omega) hy).1)
      · obtain ⟨D, hD⟩ := (hks.own j y (by omega) hy).2
        have := lt_of_blk hD
        have := (h.pr.st.own.blk y hs).1
        omega
    · obtain rfl : j = q := by omega
      exact ⟨he, hg⟩
theorem drew (hks : KidsOk w0 w1 X1 f dv t ks B G er pg Good) (hq : q ≤ ks.length) (h : LR w0 w1 X1 f dv w X L v B G er Good rs pg lf bn cl lo q r vq wr Xq Lq) : LR w0 w1 X1 f dv w X L v B G er Good rs pg lf bn cl lo q r vq wr.drew Xq Lq :=
  ⟨h.pr.new (Keeps.refl _ _).drew, h.xn, h.xc, h.nb, h.rows.new (Keeps.refl _ _).drew, fun j hj => ⟨(h.done j hj).1, hks.stay j wr wr.drew (fun _ => False) (by omega) (h.done j hj).2 (Keeps.refl _ _).drew Off.new (fun _ _ h => h)⟩, h.hlo, h.hbn, h.h1⟩
/-- A row is told its page. -/
theorem page (hks : KidsOk w0 w1 X1 f dv t ks B G er pg Good) (hq : q ≤ ks.length) {N c : Nat} {ad : Option Addr} {rw0 : Rw} (hr : rs[r]? = some rw0) (h : LR w0 w1 X1 f dv w X L v B G er Good rs pg lf bn (.slice ad N c) lo q r vq wr Xq Lq) :
    ∃ g, ad = some ⟨g, 0, none⟩ ∧ wr.cell? ⟨g, r * 3 + 2, none⟩ = some (.int .i64 rw0.page) ∧ wr.frozen? ⟨g, r * 3 + 2, none⟩ = false ∧
      LR w0 w1 X1 f dv w X L v B G er Good rs pg lf bn (.slice ad N c) lo q (r + 1) vq (wr.setCell ⟨g, r * 3 + 2, none⟩ (.int .i64 (pg r))) Xq Lq := by
  obtain ⟨g, rfl, k1, ⟨Cg, k2⟩, k3, k4, k5⟩ := isOwnA.setPage h.rows (rsQ_at hr)
  obtain ⟨k6, k7⟩ := k5 (pg r)
  have hxg : Xq g := h.xc g rfl
  have hg1 : w1.heap.size ≤ g := Nat.le_trans h.h1 (Nat.le_trans h.hlo k1)
  have hvg : vq.ownBlock ≠ some g := fun e => by
    obtain ⟨D, hD⟩ := isOwn.ty h.pr.st.own e
    exact absurd (blk_ty k2 hD) (by decide)
  refine ⟨g, rfl, k3, k4, h.pr.ownW hxg (Nat.le_trans h.hlo k1) hg1 hvg k7, h.xn, h.xc, k7.blk h.nb (fun e => ?_), ?_, fun j hj => ⟨(h.done j hj).1, hks.stay j wr _ _ (by omega) (h.done j hj).2 k7 (fun i e _ => .inl (fun hx => ?_)) (fun y hy e => ?_)⟩, h.hlo, h.hbn, h.h1⟩
  · have e' : bn = g := e
    subst e'
    exact absurd (blk_ty k2 h.nb) (by decide)
  · rw [rsQ_next hr]
    exact k6
  · have e' : i = g := e
    subst e'
    have := (h.pr.st.top _ hx).2
    omega
  · have e' : y = g := e
    subst e'
    obtain ⟨D, hD⟩ := (hks.own j y (by omega) hy).2
    have := lt_of_blk hD
    omega
end LR
end Go.Proofs.YtblpkifkaoaicaaGreat

namespace Go.Proofs.YtblpkifkaoaicaaGreat
open Go Go.RowKit Go.Maps Wb

theorem storeNode (lf lf' : Bool) (a b : Value) : Wb.splice (nodeA lf a) 0 (nodeA lf' b) = nodeA lf' b := by rfl
theorem nodeA_one (lf : Bool) (a : Option Addr) (n c : Nat) : (nodeA lf (.slice a n c)).all (·.oneCell') = true := by simp [nodeA, Value.oneCell']
theorem infoNd28 : (Tryz.prog.info? 108).map (·.size) = some 2 := by kernel_rfl
theorem info_ptr31 : (Tryz.prog.info? 91).map (fun i => (i.zero, i.size, i.bytes)) = some (some (.pointer none), 1, 8) := by kernel_rfl
/-- What the walk needs of a knot and its kids. -/
structure PutG (w0 w1 : World) (X1 : Nat → Prop) (f : Nat) (dv : DH) (t b : Nat) (lf : Bool) (rs : List Rw) (ks : List Nat) (B : Nat → List Nat) (G : Nat → Pg) (er : Nat → Int) (pg : Nat → Nat) (Good : Nat → World → Prop) (Gz : Pg) (ez : Int) : Prop where
  kn : KN w1 X1 b 0 lf rs ks
  tb : X1 t ∧ ∃ C, w1.heap[t]? = some (.cells C 93 (0, 0)) ∧ C[0]? = some (.pointer (some ⟨f, 0, none⟩))
  kids : KidsOk w0 w1 X1 f dv t ks B G er pg Good
  len : ks.length ≤ rs.length ∧ rs.length ≤ 1000
  nb : ∀ i, i < ks.length → b ∉ B i
  fin : (∀ j, j < ks.length → er j = 0) → Shorts (rsQ rs pg ks.length) ∧ okN ⟨lf, rsQ rs pg ks.length⟩ = true ∧ (bytesN ⟨lf, rsQ rs pg ks.length⟩).length ≤ 512 ∧ (G ks.length).fresh.length ≤ 1000000 ∧ (Gz, ez) = ((putF (G ks.length) (bytesN ⟨lf, rsQ rs pg ks.length⟩)).1, (putF (G ks.length) (bytesN ⟨lf, rsQ rs pg ks.length⟩)).2.2)
  bad : ∀ q, q < ks.length → (∀ j, j < q → er j = 0) → er q ≠ 0 → Gz = G (q + 1) ∧ ez = er q
def PutGood (X1 : Nat → Prop) (b : Nat) (lf : Bool) (rs : List Rw) (ks : List Nat) (p : Nat) (Good : Nat → World → Prop) (w' : World) : Prop := KN w' X1 b p lf rs ks ∧ ∀ i, i < ks.length → Good i w'
/-- A kid's bad end is the knot's. -/
theorem put_bad {w0 w1 : World} {X1 : Nat → Prop} {f : Nat} {dv : DH} {w : World} {X : Nat → Prop} {L : List Nat} {v : Value} {B : Nat → List Nat} {b M q : Nat} {Gq Gz : Pg} {Good : World → Prop} {vq v5 : Value} {wr w5 : World} {Xq X5 : Nat → Prop} {Lq L5 : List Nat} {er : Int} (h : PR w0 w1 X1 f dv w X L v (catB B q) Gq vq wr Xq Lq) (hq : q < M) (k : PR w0 w1 X1 f dv wr Xq (L ++ Lq) vq (B q) Gz v5 w5 X5 L5) (he : er ≠ 0) :
    KPost w0 w1 X1 f dv (b :: catB B M) Gz er Good w X L v (.returned (.tuple #[v5, .int .i64 er])) w5 :=
  ⟨v5, X5, _, rfl, (h.trans k).wide (fun y hy => List.mem_cons_of_mem _ (by
    have hy : y ∈ catB B (q + 1) := hy
    obtain ⟨i, h1, h2⟩ := mem_catB.1 hy
    exact mem_catB.2 ⟨i, by omega, h2⟩)) (by
    have := catB_le (B := B) (show q + 1 ≤ M by omega)
    show (catB B (q + 1)).length ≤ _
    rw [List.length_cons]; omega), fun h9 => absurd h9 he⟩
theorem LR.put {w0 w1 : World} {X1 : Nat → Prop} {f : Nat} {dv : DH} {t : Nat} {ks : List Nat} {w : World} {X : Nat → Prop} {L : List Nat} {v : Value} {B : Nat → List Nat} {G : Nat → Pg} {er : Nat → Int} {Good : Nat → World → Prop} {rs : List Rw} {pg : Nat → Nat} {lf : Bool} {bn : Nat} {cl : Value} {lo r : Nat} {vq : Value} {wr : World} {Xq : Nat → Prop} {Lq : List Nat}
    (hks : KidsOk w0 w1 X1 f dv t ks B G er pg Good) (h : LR w0 w1 X1 f dv w X L v B G er Good rs pg lf bn cl lo ks.length r vq wr Xq Lq) {w6 w7 : World} {Gz : Pg} (hk : Keeps wr w6 (fun _ => False)) (hl : Law9 w0 w7 f dv Gz Xq) (hk7 : Keeps w6 w7 (Apart w0 Xq)) (hd : Gz.dead = false) :
    PR w0 w1 X1 f dv w X L v (catB B ks.length) Gz vq w7 Xq Lq ∧ ∀ i, i < ks.length → Good i w7 := by
  have h6 := h.pr.new hk
  have hkk : Keeps wr w7 (Apart w0 Xq) := (hk.mono (fun _ _ h => h.elim)).trans hk7
  refine ⟨h6.put hl hk7 hd, fun i hi => hks.stay i wr w7 _ hi (h.done i hi).2 hkk (fun j hj _ => .inl (fun hx => hj.1 (h.pr.st.sub j hx))) (fun y hy hs => hs.1 (h.pr.st.sub y (hks.own i y hi hy).1))⟩
/-- The knot has its number. -/
theorem put_fin {w0 w1 : World} {X1 : Nat → Prop} {f : Nat} {dv : DH} {t b : Nat} {lf : Bool} {rs : List Rw} {ks : List Nat} {B : Nat → List Nat} {G : Nat → Pg} {er : Nat → Int} {pg : Nat → Nat} {Good : Nat → World → Prop} {Gz : Pg} {ez : Int} (hp : PutG w0 w1 X1 f dv t b lf rs ks B G er pg Good Gz ez) {w : World} {X : Nat → Prop} {L : List Nat} {v : Value} (hL : ∀ y ∈ L, y ∉ b :: catB B ks.length)
    {vq v10 : Value} {w7 w9 w10 : World} {Xq : Nat → Prop} {Lq : List Nat} {p : Nat} (h : PR w0 w1 X1 f dv w X L v (catB B ks.length) Gz vq w7 Xq Lq) (hg : ∀ i, i < ks.length → Good i w7) (hk9 : Keeps (w7.setCell ⟨b, 0, none⟩ (.int .i64 p)) w9 (fun _ => False)) (ha : isOwn w10 w1.heap.size 91 v10 (((L ++ Lq) ++ [b]).map ptrV)) (hk : Keeps w9 w10 (fun i => vq.ownBlock = some i)) (hv : v10.ownBlock = vq.ownBlock ∨ v10.ownBlock = some w9.heap.size) :
    KPost w0 w1 X1 f dv (b :: catB B ks.length) Gz 0 (PutGood X1 b lf rs ks p Good) w X L v (.returned (.tuple #[v10, .int .i64 0])) w10 := by
  obtain ⟨rv, kv, hb1, hrw1, hkd1⟩ := hp.kn.ex
  have hbq : b ∉ L ++ Lq := fun hm => by
    rcases List.mem_append.1 hm with h9 | h9
    · exact hL b h9 (List.mem_cons_self ..)
    · obtain ⟨i, h1, h2⟩ := mem_catB.1 (h.sub b h9)
      exact hp.nb i h1 h2
  have hkk : Keeps (w7.setCell ⟨b, 0, none⟩ (.int .i64 p)) w10 (fun i => vq.ownBlock = some i) := (hk9.mono (fun _ _ h => h.elim)).trans hk
  have hw := h.wrote hb1 hp.kn.x hbq rfl ha hkk (hv.imp id (fun e => ⟨_, e, hk9.size⟩))
  have hk7 : KN w7 X1 b 0 lf rs ks := hp.kn.kept h.st.keep h.st.off1 (fun hs => hs.elim hbq (fun hs => hs.1 hp.kn.x))
  obtain ⟨s1, s2⟩ := hk7.setId p
  have hnx : ∀ i, vq.ownBlock = some i → ¬ X1 i := fun i hi hx => by
    have := (h.st.own.blk i hi).1
    have := (h.st.top i hx).2
    omega
  refine ⟨v10, _, _, rfl, hw.wide (fun y hy => ?_) (by rw [List.length_append, List.length_cons]; exact Nat.le_refl _), fun _ => ⟨s1.kept hkk (fun i hi _ => .inl (hnx i hi)) (fun hs => hnx b hs hp.kn.x), fun i hi => ?_⟩⟩
  · rcases List.mem_append.1 hy with h9 | h9
    · exact List.mem_cons_of_mem _ h9
    · obtain rfl : y = b := by simpa using h9
      exact List.mem_cons_self ..
  · have g1 := hp.kids.stay i _ _ _ hi (hg i hi) s2 (fun j e _ => .inr (by
      have e' : j = b := e
      subst e'
      obtain ⟨rv, kv, h3, _⟩ := hk7.ex
      exact ⟨_, h3⟩)) (fun y hy e => by
      have e' : y = b := e
      subst e'
      exact hp.nb i hi hy)
    exact hp.kids.stay i _ _ _ hi g1 hkk (fun j hj _ => .inl (hnx j hj)) (fun y hy hs => hnx y hs (hp.kids.own i y hi hy).1)
set_option maxRecDepth 100000 in
set_option maxHeartbeats 4000000 in
theorem putG_calls (w0 w1 : World) (X1 : Nat → Prop) (f : Nat) (dv : DH) (t b : Nat) (lf : Bool) (rs : List Rw) (ks : List Nat) (B : Nat → List Nat) (G : Nat → Pg) (er : Nat → Int) (pg : Nat → Nat) (Good : Nat → World → Prop) (Gz : Pg) (ez : Int) (hp : PutG w0 w1 X1 f dv t b lf rs ks B G er pg Good Gz ez) :
    KidOk w0 w1 X1 f dv t b (b :: catB B ks.length) (G 0) Gz ez (PutGood X1 b lf rs ks (leastP (G ks.length)) Good) := by
  intro w X L v hst hL hsz
  obtain ⟨rv, kv, hb1, hrw1, hkd1⟩ := hp.kn.ex
  have hx1 := hp.kn.x
  have hbL : b ∉ L := fun h => hL b h (List.mem_cons_self ..)
  have hb := hst.knot hb1 hx1 hbL
  have hrw := hrw1.kept hst.keep hst.off1
  obtain ⟨⟨ad2, cap2, rfl, _, _⟩, _⟩ := id hkd1
  obtain ⟨⟨ad, cap, rfl, _, _⟩, _⟩ := id hrw
  obtain ⟨av, mv, pv, rfl⟩ := isOwn.shape hst.own
  have HNC := Lib.hid hrw.2.1
  have HRD := Lib.hid hrw.1
  obtain ⟨N, hN⟩ : ∃ N, N = (rowsA rs).length := ⟨_, rfl⟩
  obtain ⟨M, hM⟩ : ∃ M, M = ks.length := ⟨_, rfl⟩
  have hNr : N = rs.length := by rw [hN, rowsA_len]
  have hM2 : (ks.map ptrV).length = M := by rw [List.length_map, hM]
  have hMN : M ≤ N := by have := hp.len.1; omega
  have hN9 : N ≤ 1000 := by have := hp.len.2; omega
  rw [← hN, hM2] at hb
  rw [← hN] at HNC HRD
  have c0 : w.cell? ⟨b, 0, none⟩ = some (.int .i64 0) := by rw [cell_of_block hb]; rfl
  have HB := Lib.hid hb
  have HP := Lib.hid hp
  have HST := Lib.hid hst
  have HLN := Lib.hid hL
  have HSZ := Lib.hid hsz
  have HM := Lib.hid hM
  have HNR := Lib.hid hNr
  have HB1 := Lib.hid hb1
  have HKD : Hid (∀ j, j < M → ∃ x g2 o2, ad2 = some ⟨g2, o2, none⟩ ∧ ks[j]? = some x ∧ ∀ wr Xq Lq Gq vq, PSt w0 w1 X1 f dv wr Xq Lq Gq vq → wr.cell? ⟨g2, o2 + j, none⟩ = some (.pointer (some ⟨x, 0, none⟩))) := Lib.hid fun j hj => by
    have hx : ks[j]? = some (ks[j]'(by omega)) := List.getElem?_eq_getElem _
    obtain ⟨⟨ad9, cap9, e9, _, hrd9⟩, _⟩ := id hkd1
    injection e9 with e8 e7 e6
    obtain ⟨g2, o2, e, _, hc⟩ := hrd9 j (ptrV _) (by rw [List.getElem?_map, hx]; rfl)
    refine ⟨_, g2, o2, e8.trans e, hx, fun wr Xq Lq Gq vq hs => ?_⟩
    obtain ⟨⟨ad7, cap7, e5, _, hrd7⟩, _⟩ := hkd1.kept hs.keep hs.off1
    injection e5 with e4 e3 e2
    obtain ⟨g3, o3, e1, _, hc3⟩ := hrd7 j (ptrV _) (by rw [List.getElem?_map, hx]; rfl)
    have e0 : some (⟨g2, o2, none⟩ : Addr) = some ⟨g3, o3, none⟩ := by rw [← e, ← e8, e4, e1]
    injection e0 with e0
    injection e0 with f1 f2
    subst f1 f2
    exact hc3
  have HX1 := Lib.hid hx1
  have hMi : (M : Int) ≤ 1000 := by omega
  have hM0 : (0 : Int) ≤ M := by omega
  have hNi : (N : Int) ≤ 1000 := by omega
  have HN9 := Lib.hid hN9
  have HMN := Lib.hid hMN
  obtain ⟨KP, hKP⟩ : ∃ KP : Ending → World → Prop, KP = KPost w0 w1 X1 f dv (b :: catB B ks.length) Gz ez (PutGood X1 b lf rs ks (leastP (G ks.length)) Good) w X L (.slice av mv pv) := ⟨_, rfl⟩
  rw [← hKP]
  have HKP := Lib.hid hKP
  clear hKP
  clear hb hp hrw hkd1 hN hM hst hL hsz hbL hx1 hb1 hrw1 hNr hM2 hMN hN9
  go_enter Tryz.func74, Tryz.ntmps74
  go_wp2_with fail
  refine (asNode_calls w b 0 lf _ _ _ _ HB.out).mono ?_
  rintro e wa ⟨rfl, hka⟩
  have HKA := Lib.hid hka
  clear hka
  go_wp2_with (first
    | ((with_reducible refine gd_alloc 108 ?_); refine wl_alloc_agg rfl _ rfl _ zeroNdX ?_; intro bn wb hbn HBN HKN)
    | ((with_reducible refine gd_store 108 ?_); refine wl_store_agg rfl _ _ _ rfl bn _ rfl _ _ HBN (nodeA lf (.slice ad N cap)) rfl (nodeA lf (.slice ad N cap)) (storeNode _ _ _ _) (Nat.le_refl 2) infoNd28 (nodeA_one _ _ _ _) ?_; intro wc HBC HKC; have q1 : wc.cell? ⟨bn, 1, none⟩ = some (.slice ad N cap) := by (rw [cell_of_block HBC]; rfl))
    | fail)
  have HPR0 : Hid (PR w0 w1 X1 f dv w X L (.slice av mv pv) [] (G 0) (.slice av mv pv) wc (fun i => X i ∨ i = bn) []) := Lib.hid (by
    have h1 := ((PR.refl HST.out).new HKA.out).more bn hbn HKN (lt_of_blk HBN)
    have h2 := HST.out.size
    have h3 := HKA.out.size
    exact h1.ownW (.inr rfl) (by omega) (by omega) (fun e => by
      obtain ⟨D, hD⟩ := isOwn.ty h1.st.own e
      exact absurd (blk_ty HBN hD) (by decide)) HKC)
  have HBN1 : Hid (w.heap.size ≤ bn) := Lib.hid (Nat.le_trans HKA.out.size hbn)
  have HWC : Hid (w.heap.size ≤ wc.heap.size) := Lib.hid (Nat.le_trans HKA.out.size (Nat.le_trans HKN.size HKC.size))
  have HCL := Lib.hid (cloneR_calls wc (.slice ad N cap) rs (HRD.out.new ((HKA.out.trans HKN).then HKC (fun i hi e => by have e' : i = bn := e; have := HBN1.out; omega))) HNC.out (by have := HNR.out; have := HN9.out; omega))
  have HBC1 := Lib.hid HBC
  clear HBN HKN hbn HBC HKC HKA
  refine HCL.out.mono ?_
  rintro e wd ⟨vd, rfl, hod, hkd⟩
  obtain ⟨ad5, cp5, rfl⟩ := hod.shape
  obtain ⟨lo, hlo⟩ : ∃ lo, lo = wc.heap.size := ⟨_, rfl⟩
  obtain ⟨N2, hN2⟩ : ∃ N2, N2 = (rowsA rs).length := ⟨_, rfl⟩
  rw [← hlo, ← hN2] at hod
  rw [← hN2]
  have HN2 : Hid (N2 = N) := Lib.hid (by rw [hN2, rowsA_len]; exact HNR.out.symm)
  have d1 : wd.cell? ⟨bn, 1, none⟩ = some (.slice ad N cap) := by rw [cell_of_block (hkd.blk HBC1.out (fun h => h))]; rfl
  have f1 : wd.frozen? ⟨bn, 1, none⟩ = false := free_of_block (hkd.blk HBC1.out (fun h => h)) 1
  have HLR : Hid (∃ Xq, LR w0 w1 X1 f dv w X L (.slice av mv pv) B G er Good rs pg lf bn (.slice ad5 N2 cp5) lo 0 0 (.slice av mv pv) (wd.setCell ⟨bn, 1, none⟩ (.slice ad5 N2 cp5)) Xq []) := Lib.hid (by
    have h1 := HPR0.out.moreY (Y := fun i => (Value.slice ad5 N2 cp5).ownBlock = some i) hkd (fun i hi => by rw [← hlo]; exact hod.blk i hi)
    have h2 := HST.out.size
    have h3 := HBN1.out
    have hbd := hkd.blk HBC1.out (fun h => h)
    have hks := keeps_cell wd bn 1 (.slice ad5 N2 cp5)
    have hcn : ∀ g, (Value.slice ad5 N2 cp5).ownBlock = some g → g ≠ bn := fun g hg e => by
      subst e
      obtain ⟨D, hD⟩ := isOwnA.ty hod hg
      exact absurd (blk_ty hbd hD) (by decide)
    refine ⟨_, h1.ownW (.inl (.inr rfl)) (by omega) (by omega) (fun e => ?_) hks, .inl (.inr rfl), fun g hg => .inr hg, blk_setCell hbd 1 _, ?_, fun j hj => by omega, ?_, h3, h2⟩
    · obtain ⟨D, hD⟩ := isOwn.ty h1.st.own e
      exact absurd (blk_ty hbd hD) (by decide)
    · rw [rsQ_zero]
      exact hod.kept hks (fun g hg e => hcn g hg e)
    · rw [hlo]; exact HWC.out)
  have c3 : wd.cell? ⟨b, 3, none⟩ = some (.slice ad2 M cap2) := by
    have h1 := HPR0.out.new hkd
    have h2 := h1.st.knot HB1.out HX1.out (by rw [List.append_nil]; exact fun h => HLN.out b h (List.mem_cons_self ..))
    rw [List.length_map, ← HM.out] at h2
    rw [cell_of_block h2]; rfl
  have hbb : b ≠ bn := fun e => by
    have := lt_of_blk HB.out
    have := HBN1.out
    omega
  obtain ⟨R, hR⟩ : ∃ R : Nat → Nat → Value → World → Prop, R = fun q r vq wr => ∃ Xq Lq, LR w0 w1 X1 f dv w X L (.slice av mv pv) B G er Good rs pg lf bn (.slice ad5 N2 cp5) lo q r vq wr Xq Lq := ⟨_, rfl⟩
  have HR0 : Hid (R 0 0 (.slice av mv pv) (wd.setCell ⟨bn, 1, none⟩ (.slice ad5 N2 cp5))) := Lib.hid (by
    obtain ⟨Xq, h⟩ := HLR.out
    rw [hR]; exact ⟨Xq, [], h⟩)
  have HNILK : Hid (∀ q r vq wr, R q r vq wr → ∃ a m c, vq = .slice a m c) := Lib.hid (fun q r vq wr h => by
    rw [hR] at h
    obtain ⟨Xq, Lq, h⟩ := h
    exact isOwn.shape h.pr.st.own)
  have HKID : Hid (∀ q vq wr, q < M → R q q vq wr → ∃ x g2 o2, ad2 = some ⟨g2, o2, none⟩ ∧ ks[q]? = some x ∧ wr.cell? ⟨g2, o2 + q, none⟩ = some (.pointer (some ⟨x, 0, none⟩)) ∧ Calls Tryz.prog 74 #[.pointer (some ⟨t, 0, none⟩), .pointer (some ⟨x, 0, none⟩), vq] wr (fun e w5 => ∃ a5 m5 c5, e = .returned (.tuple #[.slice a5 m5 c5, .int .i64 (er q)]) ∧ (er q ≠ 0 → KP e w5) ∧ (er q = 0 → R (q + 1) q (.slice a5 m5 c5) w5))) := Lib.hid (fun q vq wr hq h => by
    rw [hR] at h
    obtain ⟨Xq, Lq, h⟩ := h
    obtain ⟨x, g2, o2, e1, e2, e3⟩ := HKD.out q hq
    have hq' : q < ks.length := by rw [← HM.out]; exact hq
    refine ⟨x, g2, o2, e1, e2, e3 wr Xq _ _ _ h.pr.st, ?_⟩
    have hlenq : (L ++ Lq).length + (B q).length ≤ 1000000 := by
      have h1 := h.pr.len
      have h2 := catB_le (B := B) (show q + 1 ≤ ks.length by omega)
      have h3 : (catB B (q + 1)).length = (catB B q).length + (B q).length := by show (catB B q ++ B q).length = _; rw [List.length_append]
      have h4 := HSZ.out
      rw [List.length_cons] at h4
      rw [List.length_append]
      omega
    have hnin : ∀ y ∈ L ++ Lq, y ∉ B q := fun y hy hb => by
      rcases List.mem_append.1 hy with h9 | h9
      · exact HLN.out y h9 (List.mem_cons_of_mem _ (mem_catB.2 ⟨q, hq', hb⟩))
      · obtain ⟨i, h1, h2⟩ := mem_catB.1 (h.pr.sub y h9)
        exact HP.out.kids.apart i q y h1 hq' h2 hb
    refine (HP.out.kids.ok q x e2 (fun j hj => (h.done j hj).1) wr Xq (L ++ Lq) vq h.pr.st hnin hlenq).mono ?_
    rintro e w5 ⟨v5, X5, L5, rfl, k1, k2⟩
    obtain ⟨a5, m5, c5, e5⟩ := isOwn.shape k1.st.own
    refine ⟨a5, m5, c5, by rw [e5], fun he => ?_, fun he => ?_⟩
    · rw [HKP.out]
      obtain ⟨f1, f2⟩ := HP.out.bad q hq' (fun j hj => (h.done j hj).1) he
      rw [f1, f2]
      exact put_bad h.pr hq' k1 he
    · rw [hR]
      exact ⟨X5, Lq ++ L5, by rw [← e5]; exact h.kid HP.out.kids hq' k1 he (k2 he)⟩)
  have HPAGE : Hid (∀ q vq wr x, q < M → ks[q]? = some x → R (q + 1) q vq wr → ∃ g p0, ad5 = some ⟨g, 0, none⟩ ∧ q < N2 ∧ wr.cell? ⟨bn, 1, none⟩ = some (.slice ad5 N2 cp5) ∧ wr.cell? ⟨x, 0, none⟩ = some (.int .i64 (pg q)) ∧ wr.cell? ⟨g, q * 3 + 2, none⟩ = some p0 ∧ wr.frozen? ⟨g, q * 3 + 2, none⟩ = false ∧ R (q + 1) (q + 1) vq (wr.drew.setCell ⟨g, q * 3 + 2, none⟩ (.int .i64 (pg q)))) := Lib.hid (fun q vq wr x hq hx h => by
    rw [hR] at h
    obtain ⟨Xq, Lq, h⟩ := h
    have hq' : q < ks.length := by rw [← HM.out]; exact hq
    have hr : rs[q]? = some (rs[q]'(by have := HP.out.len.1; omega)) := List.getElem?_eq_getElem _
    obtain ⟨g, e1, e2, e3, e4⟩ := (h.drew HP.out.kids (by omega)).page HP.out.kids (by omega) hr
    refine ⟨g, _, e1, by have := HMN.out; have := HN2.out; omega, by rw [cell_of_block h.nb]; rfl, HP.out.kids.page q x wr hx (h.done q (by omega)).2, e2, e3, ?_⟩
    rw [hR]
    exact ⟨Xq, Lq, e4⟩)
  have HEND : Hid (∀ vq wr, R M M vq wr → (∀ j, j < ks.length → er j = 0) ∧ wr.heap[bn]? = some (.cells (nodeA lf (.slice ad5 N2 cp5)) 108 (0, 0)) ∧ ∃ bz : World → Value → Prop, Calls Tryz.prog 102 #[.agg (nodeA lf (.slice ad5 N2 cp5))] wr (fun e w6 => ∃ v6, e = .returned (.tuple #[v6, .bool true]) ∧ (∃ a6 m6 c6, v6 = .slice a6 m6 c6) ∧ bz w6 v6)
      ∧ ∀ w6 v6, bz w6 v6 → w6.cell? ⟨t, 0, none⟩ = some (.pointer (some ⟨f, 0, none⟩)) ∧ Calls Tryz.prog 103 #[.pointer (some ⟨f, 0, none⟩), v6] w6 (fun e w7 => ∃ idv : Int, e = .returned (.tuple #[.int .i64 idv, .int .i64 ez]) ∧ (ez ≠ 0 → KP (.returned (.tuple #[vq, .int .i64 ez])) w7) ∧ (ez = 0 → idv = (leastP (G ks.length) : Nat) ∧ ∃ id0, w7.cell? ⟨b, 0, none⟩ = some id0 ∧ w7.frozen? ⟨b, 0, none⟩ = false ∧ ∃ vs, vs.length ≤ 1000000 ∧ w1.heap.size ≤ w7.heap.size ∧ (∀ w9, Keeps (w7.setCell ⟨b, 0, none⟩ (.int .i64 (leastP (G ks.length) : Nat))) w9 (fun _ => False) → isOwn w9 w1.heap.size 91 vq vs ∧
        ∀ v10 w10, Appended w9 w1.heap.size 91 vq (vs ++ [ptrV b]) v10 w10 → KP (.returned (.tuple #[v10, .int .i64 0])) w10)))) := Lib.hid (fun vq wr h => by
    rw [hR] at h
    obtain ⟨Xq, Lq, h⟩ := h
    have hM := HM.out
    subst hM
    have her : ∀ j, j < ks.length → er j = 0 := fun j hj => (h.done j hj).1
    obtain ⟨n1, n2, n3, n4, n5⟩ := HP.out.fin her
    have hap := append_calls wr lf (.slice ad5 N2 cp5) _ h.rows.rd n1
    refine ⟨her, h.nb, fun w6 v6 => isOwn w6 wr.heap.size 5 v6 (octs (bytesN ⟨lf, rsQ rs pg ks.length⟩)) ∧ Keeps wr w6 (fun _ => False), hap.mono ?_, ?_⟩
    · rintro e w6 ⟨v6, rfl, k1, k2⟩
      rw [if_pos n2] at k1
      refine ⟨v6, by rw [n2], isOwn.shape k1, k1, k2⟩
    rintro w6 v6 ⟨k1, k2⟩
    obtain ⟨htx, C, hC, hC0⟩ := HP.out.tb
    have ht6 := ((h.pr.st.new k2).stays hC htx (by decide))
    refine ⟨by rw [cell_of_block ht6]; exact hC0, ?_⟩
    refine (l_put h.pr.st.law h.pr.st.dead k2 k1.rd (fun g hg => k1.blk g hg) n3 n4).mono ?_
    rintro e w7 ⟨p, hp, rfl, hl7, hk7⟩
    have hp' := leastP_is hp
    subst hp'
    have hGz : Gz = (putP (G ks.length) (bytesN ⟨lf, rsQ rs pg ks.length⟩) (leastP (G ks.length))).1 := congrArg Prod.fst n5
    have hez : ez = (putP (G ks.length) (bytesN ⟨lf, rsQ rs pg ks.length⟩) (leastP (G ks.length))).2 := congrArg Prod.snd n5
    rw [← hGz] at hl7
    rw [← hez]
    obtain ⟨hpr, hgd⟩ := h.put HP.out.kids k2 hl7 hk7 (by rw [hGz, putP_dead]; exact h.pr.st.dead)
    refine ⟨_, rfl, fun he => ?_, fun he => ?_⟩
    · rw [HKP.out]
      refine ⟨vq, Xq, Lq, rfl, hpr.wide (fun y hy => List.mem_cons_of_mem _ hy) (by rw [List.length_cons]; omega), fun h9 => absurd h9 he⟩
    · rw [if_pos he]
      obtain ⟨rv, kv, hb1, _, _⟩ := HP.out.kn.ex
      have hbq : b ∉ L ++ Lq := fun hm => by
        rcases List.mem_append.1 hm with h9 | h9
        · exact HLN.out b h9 (List.mem_cons_self ..)
        · obtain ⟨i, h1, h2⟩ := mem_catB.1 (h.pr.sub b h9)
          exact HP.out.nb i h1 h2
      have hb7 := hpr.st.knot hb1 HP.out.kn.x hbq
      refine ⟨rfl, _, cell_of_block hb7 .., free_of_block hb7 0, (L ++ Lq).map ptrV, ?_, hpr.st.size, fun w9 hk9 => ⟨?_, fun v10 w10 ha => ?_⟩⟩
      · have h4 := HSZ.out
        rw [List.length_cons] at h4
        have h1 := h.pr.len
        rw [List.length_map, List.length_append]
        omega
      · refine (hpr.st.own.kept (keeps_cell w7 b 0 _) (fun g hg e => ?_)).new hk9
        have e' : g = b := e
        subst e'
        have := (hpr.st.own.blk g hg).1
        have := lt_of_blk hb1
        omega
      · rw [HKP.out, he]
        exact put_fin HP.out HLN.out hpr hgd hk9 (by rw [List.map_append]; exact ha.1) ha.2.1 ha.2.2)
  have HN2M := Lib.hid (And.intro HN2.out HMN.out)
  have HN2i : Hid ((N2 : Int) ≤ 1000) := Lib.hid (by have := HN2.out; omega)
  clear q1 HCL HBC1 HPR0 hod hkd hlo hN2 HWC c0 HLR hR HKP
  clear HP HST HLN HSZ HB HB1 HKD HX1 HNR HNC HRD HBN1
  go_wp2_with fail
  clear c3 d1 f1
  go_loopw [2, 33] (fun v2 v33 wr => ∃ (q : Nat) (a : Option Addr) (m c : Nat), q ≤ M ∧ v2 = .slice a m c ∧ v33 = .int .i64 q ∧ Hid (R q q (.slice a m c) wr)) (fun _ v33 _ => M - (intOf v33).toNat)
  case atStart => exact ⟨0, av, mv, pv, Nat.zero_le _, rfl, rfl, HR0⟩
  case round =>
    clear HR0 hbb
    obtain ⟨q, a, m, c, hqM, rfl, rfl, hrel⟩ := hrel
    by_cases hlt : q < M
    · as_aux_lemma =>
      have hlb : decide ((q : Int) < (M : Int)) = true := by simp; omega
      have hlbn : decide (q < M) = true := by simp; omega
      have hq0 : (0 : Int) ≤ q := by omega
      have hqMi : (q : Int) < M := by omega
      obtain ⟨x, g2, o2, rfl, hx, cx, hcall⟩ := HKID.out q _ _ hlt hrel.out
      obtain ⟨ee, hee⟩ : ∃ ee, ee = er q := ⟨_, rfl⟩
      rw [← hee] at hcall
      have HCALL := Lib.hid hcall
      have HLT := Lib.hid hlt
      have HX := Lib.hid hx
      clear hcall hrel hee HKID hlt hx
      go_wp2_with fail
      refine HCALL.out.mono ?_
      rintro e w5 ⟨a5, m5, c5, rfl, hbad, hgood⟩
      clear cx HCALL
      by_cases hez : ee = 0
      · as_aux_lemma =>
        obtain ⟨g, p0, rfl, hqN, k1, kx, kg, kf, hr5⟩ := HPAGE.out q _ w5 x HLT.out HX.out (hgood hez)
        have HR5 := Lib.hid hr5
        have hqN2 : (q : Int) < N2 := by omega
        subst hez
        clear hbad hgood hr5 HPAGE HEND
        go_wp2_with fail
        refine wp_region_still_tail 9 (by kernel_rfl) (by kernel_rfl) ?_
        simp only [List.take_succ_cons, List.take_zero, List.drop_succ_cons, List.drop_zero]
        iterate 9 still_step
        refine wpStill_nil ?_
        go_wp2_with fail
        go_roundw
        case rel => exact ⟨q + 1, a5, m5, c5, HLT.out, rfl, by go_num, HR5⟩
        case measure => have := HLT.out; simp [intOf]; omega
      · as_aux_lemma =>
        have HPO := Lib.hid (hbad hez)
        have hezb : (ee == 0) = false := by simp [hez]
        clear hbad hgood HPAGE HEND
        go_wp2_with fail
        exact HPO.out
    · as_aux_lemma =>
      obtain rfl : q = M := by omega
      have hlb : decide ((q : Int) < (q : Int)) = false := by simp
      have hlbn : decide (q < q) = false := by simp
      obtain ⟨_, hnb, bz, hap, hrst⟩ := HEND.out _ _ hrel.out
      have HAP := Lib.hid hap
      have HRST := Lib.hid hrst
      have HNB := Lib.hid hnb
      clear hnb hap hrst hrel HEND hlt HKID HPAGE
      go_wp2_with (first
        | ((with_reducible refine gd_load 108 ?_); refine wl_load_agg rfl _ _ rfl bn 0 rfl _ _ _ HNB.out (nodeA lf (.slice ad5 N2 cp5)) rfl _ Tryz.underlying108 rfl (infoNd _ _) ?_)
        | fail)
      refine HAP.out.mono ?_
      rintro e w6 ⟨v6, rfl, ⟨a6, m6, c6, rfl⟩, hbz⟩
      obtain ⟨ct, hput⟩ := HRST.out _ _ hbz
      have HPUT := Lib.hid hput
      clear HAP HRST HNB hput hbz
      go_wp2_with fail
      refine HPUT.out.mono ?_
      rintro e w7 ⟨idv, rfl, hbad, hgood⟩
      clear HPUT ct
      by_cases hez : ez = 0
      · as_aux_lemma =>
        obtain ⟨rfl, id0, cb, fb, vs, hvs, hw1, hfin⟩ := hgood hez
        have HFIN := Lib.hid hfin
        have HVS := Lib.hid hvs
        have HW1 := Lib.hid hw1
        subst hez
        clear hbad hgood hfin hvs hw1
        obtain ⟨lp, hlp⟩ : ∃ lp, lp = leastP (G ks.length) := ⟨_, rfl⟩
        rw [← hlp] at HFIN
        rw [← hlp]
        clear hlp
        go_wp2_with (first
          | (refine wl_slice1 rfl _ _ rfl 91 _ 8 Tryz.underlying94 info_ptr31 rfl (ptrV b) rfl rfl ?_; intro bb w9 hbb HB9 HK9)
          | (at_builtin; refine wl_appendN rfl _ _ 94 rfl 91 _ 8 Tryz.underlying94 info_ptr31 rfl w1.heap.size (.slice a m c) vs rfl (HFIN.out w9 HK9).1 _ [ptrV b] rfl (isVals_one (ok := fun _ => True) HB9 trivial).rd (fun _ h => by cases h) (by simp; rfl) (by have := HVS.out; simp [maxLen]; omega) (by have := HVS.out; simp; omega) (Nat.le_trans HW1.out (by have := HK9.size; simpa using this)) ?_; intro v10 w10 hap; have HPO := Lib.hid ((HFIN.out w9 HK9).2 v10 w10 hap))
          | fail)
        exact HPO.out
      · as_aux_lemma =>
        have HPO := Lib.hid (hbad hez)
        have hezb : (ez == 0) = false := by simp [hez]
        clear hbad hgood
        go_wp2_with fail
        exact HPO.out
end Go.Proofs.YtblpkifkaoaicaaGreat

namespace Go.Proofs.YtblpkifkaoaicaaGreat
open Go Go.RowKit Go.Maps Wb

theorem KidOk.good {w0 w1 : World} {X1 : Nat → Prop} {f : Nat} {dv : DH} {t x : Nat} {B : List Nat} {F G : Pg} {er : Int} {Good Good' : World → Prop} (h : KidOk w0 w1 X1 f dv t x B F G er Good) (hg : ∀ w', er = 0 → Good w' → Good' w') : KidOk w0 w1 X1 f dv t x B F G er Good' := by
  intro w X L v h1 h2 h3
  refine (h w X L v h1 h2 h3).mono ?_
  rintro e w' ⟨v', X', Ln, k1, k2, k3⟩
  exact ⟨v', X', Ln, k1, k2, fun he => hg w' he (k3 he)⟩
theorem RsOk.rwsOf0 {rs : List Rw} {l : Wb.Rows 0} (h : RsOk rs l) : rs = rwsOf 0 l := h
theorem isKB.kn {w : World} {X : Nat → Prop} : ∀ {d : Nat} {n : Nd d} {t : Bt d}, isKB w X d n t → ∃ lf rs ks, KN w X (rootB t) n.1 lf rs ks
  | 0, _, _, ⟨rs, h, _⟩ => ⟨_, rs, _, h⟩
  | _ + 1, _, _, ⟨rs, h, _⟩ => ⟨_, rs, _, h⟩
theorem shorts_of {d : Nat} {l : Wb.Rows d} {rs : List Rw} (hf : Fit d l) (hl : rs.length = l.length) (hk : rs.map (·.key) = l.map keyR) (hv : ∀ r ∈ rs, r.val.length ≤ 1000) : Shorts rs := by
  refine ⟨by have := fit_len hf; omega, fun r hr => ⟨?_, hv r hr⟩⟩
  have h1 : r.key ∈ rs.map (·.key) := List.mem_map.2 ⟨r, hr, rfl⟩
  rw [hk] at h1
  obtain ⟨x, hx, e⟩ := List.mem_map.1 h1
  have := (hf.2.key hx).2
  rw [← e]
  omega
theorem put_ok {w0 w1 : World} {X1 : Nat → Prop} {f : Nat} {dv : DH} {t : Nat} {C : Array Value} {Inv : Nat → Pg → Prop} {cap : Nat} (hI : InvOk Inv cap) (htx : X1 t) (hC : w1.heap[t]? = some (.cells C 93 (0, 0))) (hC0 : C[0]? = some (.pointer (some ⟨f, 0, none⟩))) :
    ∀ {d : Nat} {n : Nd d} {tr : Bt d} {F : Pg} {i : Nat}, isKB w1 X1 d n tr → Ord d n.2 → Fit d n.2 → n.2 ≠ [] → pgOk d n → Inv i F → i + nodesN d n ≤ cap →
      KidOk w0 w1 X1 f dv t (rootB tr) (blocksB d tr) F (wrN d F n).1 (wrN d F n).2.2 (fun w' => isKB w' X1 d (wrN d F n).2.1 tr)
  | 0, n, tr, F, i, hk, ho, hf, hne, hp, hi, hc => by
    by_cases hz : n.1 = 0
    · obtain ⟨rs, h1, h2⟩ := hk
      have h3 := h2.rwsOf0
      rw [hz] at h1
      have hb : (bytesN ⟨true, rwsOf 0 n.2⟩).length ≤ 512 := by
        rw [bytesN_len]
        have := rws_size (d := 0) n.2
        rw [show decide (0 = 0) = true from rfl] at this
        rw [this]
        exact hf.1
      have hG : PutG w0 w1 X1 f dv t (rootB tr) true rs [] (fun _ => []) (fun _ => F) (fun _ => 0) (fun _ => 0) (fun _ _ => True) (wrN 0 F n).1 (wrN 0 F n).2.2 := by
        refine ⟨h1, ⟨htx, C, hC, hC0⟩, ⟨fun i x hx => (by cases hx), fun i x w hx => (by cases hx), fun i w w' S hx => absurd hx (Nat.not_lt_zero _), fun i j y _ hj => absurd hj (Nat.not_lt_zero _), fun i y hi => absurd hi (Nat.not_lt_zero _)⟩, ⟨Nat.zero_le _, ?_⟩, fun i hi => absurd hi (Nat.not_lt_zero _), fun _ => ?_, fun q hq => absurd hq (Nat.not_lt_zero _)⟩
        · have := h2.len
          have := fit_len hf
          omega
        · have e : rsQ rs (fun _ => 0) (List.length ([] : List Nat)) = rs := rsQ_zero rs _
          rw [e, h3]
          refine ⟨shorts_of hf (by rw [← h3]; exact h2.len) (by rw [← h3]; exact h2.keys) (fun r hr => ?_), okN_leaf ho hf, hb, hI.fresh _ _ hi, ?_⟩
          · obtain ⟨x, hx, rfl⟩ := List.mem_map.1 (show r ∈ n.2.map (fun r => (⟨keyR r, valR r, 0⟩ : Rw)) from hr)
            have := (hf.2 x hx).2
            show (valR x).length ≤ 1000
            omega
          · rw [wrN_leaf hz]
            by_cases hq : (putF F (bytesN ⟨true, rwsOf 0 n.2⟩)).2.2 = 0
            · rw [if_pos hq, hq]
            · rw [if_neg hq]
      refine (putG_calls w0 w1 X1 f dv t (rootB tr) true rs [] _ _ _ _ _ _ _ hG).good fun w' he hg => ⟨rs, ?_, ?_⟩
      · have h9 : (wrN 0 F n).2.1.1 = leastP F := by
          rw [wrN_leaf hz] at he ⊢
          by_cases hq : (putF F (bytesN ⟨true, rwsOf 0 n.2⟩)).2.2 = 0
          · rw [if_pos hq]; rfl
          · rw [if_neg hq] at he; exact absurd he hq
        rw [h9]
        exact hg.1
      · have h9 : (wrN 0 F n).2.1.2 = n.2 := by
          rw [wrN_leaf hz]
          by_cases hq : (putF F (bytesN ⟨true, rwsOf 0 n.2⟩)).2.2 = 0
          · rw [if_pos hq]
          · rw [if_neg hq]
        rw [h9]
        exact h2
    · rw [wrN_has hz]
      exact putHas_ok hk hz F
  | d + 1, n, tr, F, i, hk, ho, hf, hne, hp, hi, hc => by
    by_cases hz : n.1 = 0
    · have hnod := blocks_nodup hk ho (.inl hne)
      have hK := hk
      obtain ⟨rs, h1, h2, h3, h4⟩ := hk
      have hl2 := h2.len
      have hfl := fit_len hf
      have hkl : ((kidsB tr).map rootB).length = n.2.length := by rw [List.length_map, h3]
      obtain ⟨BL, hBL⟩ : ∃ BL, BL = (kidsB tr).map fun x => blocksB d x := ⟨_, rfl⟩
      have hBl : BL.length = n.2.length := by rw [hBL, List.length_map, h3]
      have hcat : catB (fun i => BL.getD i []) n.2.length = BL.flatten := by rw [← hBl]; exact catB_list BL
      have hnod2 : (rootB tr :: BL.flatten).Nodup := by rw [hBL]; exact hnod
      rw [List.nodup_cons] at hnod2
      have at' : ∀ i, i < n.2.length → ∃ r x, n.2[i]? = some r ∧ (kidsB tr)[i]? = some x ∧ BL.getD i [] = blocksB d x ∧ isKB w1 X1 d (kidR r) x := fun i hi => by
        have hr : n.2[i]? = some (n.2[i]'hi) := List.getElem?_eq_getElem _
        obtain ⟨x, hx⟩ : ∃ x, (kidsB tr)[i]? = some x := ⟨_, List.getElem?_eq_getElem (by omega)⟩
        refine ⟨_, x, hr, hx, ?_, h4 i _ _ hr hx⟩
        have hb : BL[i]? = some (blocksB d x) := by rw [hBL, List.getElem?_map, hx]; rfl
        rw [List.getD_eq_getElem?_getD, hb]
        rfl
      have hmem : ∀ i y, i < n.2.length → y ∈ BL.getD i [] → y ∈ BL.flatten := fun i y hi hy => by
        rw [← hcat]
        exact mem_catB.2 ⟨i, hi, hy⟩
      have hks : KidsOk w0 w1 X1 f dv t ((kidsB tr).map rootB) (fun i => BL.getD i []) (gW d n.2 F) (erW d n.2 F) (fun i => (ndW d n.2 F i).1) (fun i w => ∃ x, (kidsB tr)[i]? = some x ∧ isKB w X1 d (ndW d n.2 F i) x) := by
        refine ⟨fun i x hx he => ?_, fun i x w hx hg => ?_, fun i w w' S hi hg hkk hoff hS => ?_, fun i j y hij hj hy hy' => ?_, fun i y hi hy => ?_⟩
        · have hil : i < n.2.length := by have := (List.getElem?_eq_some_iff.1 hx).1; omega
          obtain ⟨r, y, hr, hy, hB, hky⟩ := at' i hil
          rw [List.getElem?_map, hy, Option.map_some] at hx
          injection hx with hx
          subst hx
          have hm := List.mem_of_getElem? hr
          obtain ⟨⟨j, hj, hij⟩, _⟩ := kids_inv hI hi hc hp hf i (by omega) he
          have hn1 := nodesUp_at hr
          have hn2 := nodesUp_le (l := n.2) (q := i + 1)
          have hc' : i + 0 = i := rfl
          have hcc := hc
          have hcc : _ + (1 + (n.2.map fun r => nodesN d (kidR r)).sum) ≤ cap := hcc
          obtain ⟨q1, q2, q3⟩ := ho.1 r hm
          have := put_ok (w0 := w0) (dv := dv) hI htx hC hC0 (i := j) (F := gW d n.2 F i) hky q2 (fit_kid hf hm) q1 (hp.2 r hm) hij (by omega)
          show KidOk w0 w1 X1 f dv t (rootB y) (BL.getD i []) _ _ _ _
          rw [hB, gW_at hr, erW_at hr]
          exact this.good fun w' _ hg => ⟨y, hy, by rw [ndW_at hr]; exact hg⟩
        · obtain ⟨y, hy, hg⟩ := hg
          rw [List.getElem?_map, hy, Option.map_some] at hx
          injection hx with hx
          subst hx
          obtain ⟨lf, rs, ks, hkn⟩ := hg.kn
          obtain ⟨rv, kv, hb, _⟩ := hkn.ex
          rw [cell_of_block hb]
          rfl
        · obtain ⟨x, hx, hg⟩ := hg
          refine ⟨x, hx, isKB.kept hkk hoff hg (fun y hy => hS y ?_)⟩
          obtain ⟨r, x', hr, hx', hB, _⟩ := at' i (by omega)
          rw [hx] at hx'
          injection hx' with hx'
          show y ∈ BL.getD i []
          rw [hB, ← hx']
          exact hy
        · have hp9 := List.pairwise_flatten.1 hnod2.2
          have hj' : j < BL.length := by omega
          have hi' : i < BL.length := by omega
          have := List.pairwise_iff_getElem.1 hp9.2 i j hi' hj' hij y (by
            have hy : y ∈ BL.getD i [] := hy
            rwa [List.getD_eq_getElem?_getD, List.getElem?_eq_getElem hi'] at hy) y (by
            have hy' : y ∈ BL.getD j [] := hy'
            rwa [List.getD_eq_getElem?_getD, List.getElem?_eq_getElem hj'] at hy')
          exact this rfl
        · obtain ⟨r, x, hr, hx, hB, hkx⟩ := at' i (by omega)
          have hy : y ∈ BL.getD i [] := hy
          rw [hB] at hy
          exact isKB.own hkx y hy
      have hcc : _ + (1 + (n.2.map fun r => nodesN d (kidR r)).sum) ≤ cap := hc
      have hrq : rsQ rs (fun i => (ndW d n.2 F i).1) n.2.length = rwsOf (d + 1) (rwW d n.2 F n.2.length) := by
        apply List.ext_getElem?
        intro k
        show _ = (List.map _ _)[k]?
        rw [List.getElem?_map]
        by_cases hkk : k < n.2.length
        · have hr : n.2[k]? = some (n.2[k]'hkk) := List.getElem?_eq_getElem _
          have hr9 : rs[k]? = some (rs[k]'(by omega)) := List.getElem?_eq_getElem _
          rw [rwW_get (Nat.le_refl _) hkk hr]
          have hkey := congrArg (fun l => l[k]?) h2.keys
          simp only [List.getElem?_map, hr, hr9, Option.map_some, Option.some.injEq] at hkey
          have hval := h2.2 _ (List.mem_of_getElem? hr9)
          unfold rsQ
          rw [List.getElem?_mapIdx, hr9, Option.map_some, if_pos hkk, Option.map_some, hval, hkey]
          rfl
        · rw [List.getElem?_eq_none (by rw [rsQ_len]; omega), List.getElem?_eq_none (by rw [rwW_len (Nat.le_refl _)]; omega)]
          rfl
      have hkeys : (rwW d n.2 F n.2.length).map keyR = n.2.map keyR := by rw [rwW_keys (Nat.le_refl _), List.take_length]
      rw [hz] at h1
      have hG : PutG w0 w1 X1 f dv t (rootB tr) false rs ((kidsB tr).map rootB) (fun i => BL.getD i []) (gW d n.2 F) (erW d n.2 F) (fun i => (ndW d n.2 F i).1) (fun i w => ∃ x, (kidsB tr)[i]? = some x ∧ isKB w X1 d (ndW d n.2 F i) x) (wrN (d + 1) F n).1 (wrN (d + 1) F n).2.2 := by
        refine ⟨h1, ⟨htx, C, hC, hC0⟩, hks, ⟨by omega, by omega⟩, fun i hi hb => hnod2.1 (hmem i _ (by omega) hb), fun he => ?_, fun q hq he hb => ?_⟩
        · rw [hkl] at he ⊢
          obtain ⟨⟨j, hj, hij⟩, hkk⟩ := kids_inv hI hi hc hp hf _ (Nat.le_refl _) he
          rw [hrq]
          have hsz : sizeR (rwW d n.2 F n.2.length) ≤ 512 := by rw [keys_size hkeys]; exact hf.1
          refine ⟨shorts_of (d := d + 1) (l := n.2) hf (by rw [← hrq, rsQ_len]; exact hl2) ?_ (fun r hr => ?_), okN_in ?_ (fun r hr => ?_) (fun e => ?_) hsz, ?_, hI.fresh _ _ hij, ?_⟩
          · show ((rwW d n.2 F n.2.length).map fun r => (⟨keyR r, [], ((kidR r).1 : Int)⟩ : Rw)).map _ = _
            rw [List.map_map]
            exact hkeys
          · obtain ⟨x, hx, rfl⟩ := List.mem_map.1 (show r ∈ (rwW d n.2 F n.2.length).map (fun r => (⟨keyR r, [], ((kidR r).1 : Int)⟩ : Rw)) from hr)
            exact Nat.zero_le _
          · rw [hkeys, List.pairwise_map]
            exact ho.keys
          · obtain ⟨k, hkr⟩ := List.getElem?_of_mem hr
            have hkl' : k < n.2.length := by
              have := (List.getElem?_eq_some_iff.1 hkr).1
              rwa [rwW_len (Nat.le_refl _)] at this
            have hr8 : n.2[k]? = some (n.2[k]'hkl') := List.getElem?_eq_getElem _
            rw [rwW_get (Nat.le_refl _) hkl' hr8] at hkr
            injection hkr with hkr
            rw [← hkr]
            obtain ⟨g1, g2⟩ := hkk k hkl'
            have g3 := g1.id
            refine ⟨(hf.2 _ (List.mem_of_getElem? hr8)).1, ?_⟩
            rcases g3 with g3 | g3
            · exact absurd g3 g2
            · exact g3
          · have := congrArg List.length e
            rw [rwW_len (Nat.le_refl _)] at this
            exact hne (List.eq_nil_of_length_eq_zero this)
          · rw [bytesN_len]
            have h9 := rws_size (rwW d n.2 F n.2.length)
            rw [show decide (d + 1 = 0) = false from rfl] at h9
            rw [h9]
            exact hsz
          · rw [wrN_in hz, wrL_all0 he, if_neg (by simp)]
            simp only
            by_cases hq : (putF (gW d n.2 F n.2.length) (bytesN ⟨false, rwsOf (d + 1) (rwW d n.2 F n.2.length)⟩)).2.2 = 0
            · rw [if_pos hq, hq]
            · rw [if_neg hq]
        · obtain ⟨g1, g2⟩ := wrL_bad0 (by omega) he hb
          rw [wrN_in hz, if_pos (by rw [g2]; exact hb)]
          exact ⟨g1, g2⟩
      have hfin := putG_calls w0 w1 X1 f dv t (rootB tr) false rs ((kidsB tr).map rootB) _ _ _ _ _ _ _ hG
      rw [hkl] at hfin
      have hcat' : rootB tr :: catB (fun i => BL.getD i []) n.2.length = blocksB (d + 1) tr := by rw [hcat, hBL]; rfl
      rw [hcat'] at hfin
      refine hfin.good fun w' he hg => ?_
      obtain ⟨g1, g2⟩ := hg
      have hall : ∀ j, j < n.2.length → erW d n.2 F j = 0 := by
        rcases erW_cases (l := n.2) (F := F) with h9 | ⟨q, hq, h8, h7⟩
        · exact h9
        · obtain ⟨k1, k2⟩ := wrL_bad0 hq h8 h7
          rw [wrN_in hz, if_pos (by rw [k2]; exact h7)] at he
          exact absurd (k2 ▸ he) h7
      have hq : (putF (gW d n.2 F n.2.length) (bytesN ⟨false, rwsOf (d + 1) (rwW d n.2 F n.2.length)⟩)).2.2 = 0 := by
        rw [wrN_in hz, wrL_all0 hall, if_neg (by simp)] at he
        simp only at he
        exact Classical.byContradiction fun hn => by
          rw [if_neg hn] at he
          exact hn he
      have hres : (wrN (d + 1) F n).2.1 = (leastP (gW d n.2 F n.2.length), rwW d n.2 F n.2.length) := by
        rw [wrN_in hz, wrL_all0 hall, if_neg (by simp)]
        simp only
        rw [if_pos hq]
        rfl
      rw [hres]
      refine ⟨rs, g1, ⟨by rw [h2.keys]; exact hkeys.symm, h2.2⟩, by rw [h3]; exact (rwW_len (Nat.le_refl _)).symm, fun k r x hr hx => ?_⟩
      have hkl' : k < n.2.length := by have := (List.getElem?_eq_some_iff.1 hx).1; omega
      have hr8 : n.2[k]? = some (n.2[k]'hkl') := List.getElem?_eq_getElem _
      have hr : (rwW d n.2 F n.2.length)[k]? = some r := hr
      rw [rwW_get (Nat.le_refl _) hkl' hr8] at hr
      injection hr with hr
      rw [← hr]
      obtain ⟨x', hx', hgx⟩ := g2 k (by omega)
      rw [hx] at hx'
      injection hx' with hx'
      rw [hx']
      exact hgx
    · rw [wrN_has hz]
      exact putHas_ok hk hz F
end Go.Proofs.YtblpkifkaoaicaaGreat

namespace Wb
open Go
/-- A commit of pages: the file, the error. -/
def comP (F : Pg) (root count : Int) (mark : Nat) (ids : List Int) : Pg × Int :=
  if (wrMeta F.d (nextMt F root count mark)).2 = 0 then (keepP { F with d := (wrMeta F.d (nextMt F root count mark)).1, mt := nextMt F root count mark } ids, 0)
  else ({ F with d := (wrMeta F.d (nextMt F root count mark)).1, dead := true }, (wrMeta F.d (nextMt F root count mark)).2)
structure ComOk (F : Pg) (root count : Int) (mark : Nat) (ids : List Int) : Prop where
  ok : commitOk F root count ids
  gen : F.mt.gen + 1 < 2 ^ 64
  mrk : mark < 2 ^ 64
  pg : (wrMeta F.d (nextMt F root count mark)).2 = 0 → pagesOf (wrMeta F.d (nextMt F root count mark)).1 = pagesOf F.d
end Wb
namespace Go.Proofs.YtblpkifkaoaicaaGreat
open Go Go.RowKit Go.Maps Wb

theorem l_comm {w0 w : World} {f : Nat} {dv : DH} {F : Pg} {X : Nat → Prop} {v : Value} {ids : List Int} {root count : Int} {mark : Nat} (h : Law9 w0 w f dv F X) (hdead : F.dead = false) (hv : isRd w v (intV ids)) (hg : ∀ g, v.ownBlock = some g → ids = [] ∨ ((X g ∨ g < w0.heap.size) ∧ g < w.heap.size)) (hl : ids.length ≤ 140737488351232) (hc : ComOk F root count mark ids) :
    Calls Tryz.prog 73 #[.pointer (some ⟨f, 0, none⟩), .int .i64 root, .int .i64 count, .int .u64 mark, v] w fun e w2 => e = .returned (.int .i64 (comP F root count mark ids).2) ∧ Law9 w0 w2 f dv (comP F root count mark ids).1 X ∧ Keeps w w2 (Apart w0 X) := by
  obtain ⟨bu, fv, h1, h2, h3, h4⟩ := h
  refine (commit_yes w _ F h1 hdead root count mark v ids hv (fun g hgg => (hg g hgg).imp id (fun hh => ⟨fun hs => ?_, hh.2⟩)) hl hc.ok hc.gen hc.mrk hc.pg).mono ?_
  · rcases hh.1 with hx | hx
    · exact (h2 g hs).1 hx
    · exact absurd (h2 g hs).2 (Nat.not_le.2 hx)
  · intro e w2 hp
    unfold CommitPost at hp
    unfold comP
    by_cases hw : (wrMeta F.d (nextMt F root count mark)).2 = 0
    · rw [if_pos hw] at hp ⊢
      exact law_of_post h2 h3 h4 hp
    · rw [if_neg hw] at hp ⊢
      exact law_of_post h2 h3 h4 hp
theorem Law9.less {w0 w : World} {f : Nat} {dv : DH} {F : Pg} {X Y : Nat → Prop} (h : Law9 w0 w f dv F X) (hY : ∀ i, Y i → X i) : Law9 w0 w f dv F Y := by
  obtain ⟨bu, fv, h1, h2, h3, h4⟩ := h
  exact ⟨bu, fv, h1, fun i hi => ⟨fun hy => (h2 i hi).1 (hY i hy), (h2 i hi).2⟩, fun i hi => h3 i (hY i hi), h4⟩
theorem isKB.mono {w : World} {X Y : Nat → Prop} (hY : ∀ i, i < w.heap.size → X i → Y i) : ∀ {d : Nat} {n : Nd d} {t : Bt d}, isKB w X d n t → isKB w Y d n t
  | 0, n, t, ⟨rs, h1, h2⟩ => ⟨rs, h1.mono hY, h2⟩
  | d + 1, n, t, ⟨rs, h1, h2, h3, h4⟩ => ⟨rs, h1.mono hY, h2, h3, fun i r x hr hx => isKB.mono hY (h4 i r x hr hx)⟩
/-- How far a commit has come, whatever became of the file. -/
structure PSe (w0 w1 : World) (X1 : Nat → Prop) (f : Nat) (dv : DH) (w : World) (X : Nat → Prop) (L : List Nat) (F : Pg) (v : Value) : Prop where
  keep : Keeps w1 w (fun i => i ∈ L ∨ Apart w0 X1 i)
  law : Law9 w0 w f dv F X
  sub : ∀ i, X1 i → X i
  ids : IdsTo w1 w L
  own : isOwn w w1.heap.size 91 v (L.map ptrV)
  blk : ∀ g, v.ownBlock = some g → X g
  has : ∀ x ∈ L, X1 x
  top : ∀ i, X1 i → w0.heap.size ≤ i ∧ i < w1.heap.size
theorem PSt.e {w0 w1 w : World} {T Xs X : Nat → Prop} {f : Nat} {dv : DH} {L : List Nat} {F : Pg} {v : Value} (h : PSt w0 w1 T f dv w X L F v) (hk : Keeps w1 w (fun i => i ∈ L ∨ Apart w0 Xs i)) (hs : ∀ i, Xs i → X i) (hT : ∀ i, T i → Xs i) (ht : ∀ i, Xs i → w0.heap.size ≤ i ∧ i < w1.heap.size) : PSe w0 w1 Xs f dv w X L F v := ⟨hk, h.law, hs, h.ids, h.own, h.blk, fun x hx => hT x (h.has x hx), ht⟩
theorem KN.but {w : World} {T : Nat → Prop} {t b id : Nat} {lf : Bool} {rs : List Rw} {ks : List Nat} {C : Array Value} (h : KN w T b id lf rs ks) (ht : w.heap[t]? = some (.cells C 93 (0, 0))) : KN w (But T t) b id lf rs ks := by
  obtain ⟨rv, kv, h1, h2, h3⟩ := h.ex
  have hne : ∀ g D e, w.heap[g]? = some (.cells D e (0, 0)) → e ≠ 93 → g ≠ t := fun g D e hg hn e2 => by
    subst e2
    rw [hg] at ht
    injection ht with ht
    injection ht with _ ht
    exact hn ht
  refine ⟨⟨h.x, hne _ _ _ h1 (by decide)⟩, rv, kv, h1, ⟨h2.1, h2.2.1, fun g hg => ?_⟩, ⟨h3.1, h3.2.1, fun g hg => ?_⟩⟩
  · obtain ⟨hx, D, hD⟩ := h2.2.2 g hg
    exact ⟨⟨hx, hne _ _ _ hD (by decide)⟩, D, hD⟩
  · obtain ⟨hx, D, hD⟩ := h3.2.2 g hg
    exact ⟨⟨hx, hne _ _ _ hD (by decide)⟩, D, hD⟩
theorem isKB.but {w : World} {T : Nat → Prop} {t : Nat} {C : Array Value} (ht : w.heap[t]? = some (.cells C 93 (0, 0))) : ∀ {d : Nat} {n : Nd d} {tr : Bt d}, isKB w T d n tr → isKB w (But T t) d n tr
  | 0, n, tr, ⟨rs, h1, h2⟩ => ⟨rs, h1.but ht, h2⟩
  | d + 1, n, tr, ⟨rs, h1, h2, h3, h4⟩ => ⟨rs, h1.but ht, h2, h3, fun i r x hr hx => isKB.but ht (h4 i r x hr hx)⟩
theorem PSe.put {w0 w1 w w' : World} {X1 X : Nat → Prop} {f : Nat} {dv : DH} {L : List Nat} {F G : Pg} {v : Value} (h : PSe w0 w1 X1 f dv w X L F v) (hl : Law9 w0 w' f dv G X) (hk : Keeps w w' (Apart w0 X)) : PSe w0 w1 X1 f dv w' X L G v :=
  ⟨h.keep.then hk (fun i _ hi => .inr ⟨fun hx => hi.1 (h.sub i hx), hi.2⟩), hl, h.sub, fun x hx => by
    obtain ⟨lf, rv, kv, p, h1, h2⟩ := h.ids x hx
    exact ⟨lf, rv, kv, p, h1, hk.blk h2 (fun hs => hs.1 (h.sub x (h.has x hx)))⟩, h.own.kept hk (fun g hg hs => hs.1 (h.blk g hg)), h.blk, h.has, h.top⟩
theorem PSt.ownS {w0 w1 w w' : World} {X1 X S : Nat → Prop} {f : Nat} {dv : DH} {L : List Nat} {F : Pg} {v : Value} (h : PSt w0 w1 X1 f dv w X L F v) (hS : ∀ i, S i → X i ∧ w1.heap.size ≤ i ∧ v.ownBlock ≠ some i) (hk : Keeps w w' S) : PSt w0 w1 X1 f dv w' X L F v :=
  ⟨h.keep.then hk (fun i hi e => by have := (hS i e).2.1; omega), h.law.step hk (fun i e => ⟨(hS i e).1, Nat.le_trans h.low (hS i e).2.1⟩) (fun i hi => .inl hi) (fun i hi => Nat.lt_of_lt_of_le (h.xlt hi) hk.size), h.sub, fun x hx => by
    obtain ⟨lf, rv, kv, p, h1, h2⟩ := h.ids x hx
    exact ⟨lf, rv, kv, p, h1, hk.blk h2 (fun e => by have := (hS x e).2.1; have := lt_of_blk h1; omega)⟩, h.own.kept hk (fun q hq e => (hS q e).2.2 hq), h.blk, h.dead, h.low, h.has, h.top⟩
theorem PSt.begin {w0 w : World} {T X : Nat → Prop} {f : Nat} {dv : DH} {F : Pg} (h : Law9 w0 w f dv F X) (hd : F.dead = false) (hT : ∀ i, T i → X i) (hX : ∀ i, X i → w0.heap.size ≤ i) : PSt w0 w T f dv w X [] F (.slice none 0 0) := by
  have hl := h
  obtain ⟨bu, fv, _, _, h3, h4⟩ := h
  exact ⟨Keeps.refl _ _, hl, hT, fun x hx => (by cases hx), isOwn_nil _ _ _, fun g hg => (by cases hg), hd, h4.size, fun x hx => (by cases hx), fun i hi => ⟨hX i (hT i hi), h3 i (hT i hi)⟩⟩
/-- What a commit of a tree with a root comes to: the file, the error. -/
noncomputable def coM (d : Nat) (n : Nd d) (F : Pg) (count : Int) (mark : Nat) : Pg × Int :=
  if (wrN d F n).2.2 = 0 then comP (wrN d F n).1 ((wrN d F n).2.1.1 : Nat) count mark (sortN (nI (idsN d (wrN d F n).2.1))) else ((wrN d F n).1, (wrN d F n).2.2)
def CoPost (w0 w : World) (T X : Nat → Prop) (f : Nat) (dv : DH) (d : Nat) (n : Nd d) (tr : Bt d) (F : Pg) (count : Int) (mark : Nat) (e : Ending) (w' : World) : Prop :=
  ∃ v X' Ln, e = .returned (.tuple #[v, .int .i64 (coM d n F count mark).2]) ∧ PSe w0 w X f dv w' X' Ln (coM d n F count mark).1 v ∧ (∀ y ∈ Ln, y ∈ blocksB d tr) ∧ Ln.length ≤ (blocksB d tr).length ∧ ((wrN d F n).2.2 = 0 → isKB w' T d (wrN d F n).2.1 tr)
/-- What a commit of a tree needs. -/
structure CoOk (w0 w : World) (T X : Nat → Prop) (f : Nat) (dv : DH) (t : Nat) (kv : Value) (d : Nat) (n : Nd d) (tr : Bt d) (F : Pg) (count had : Nat) (mark : Nat) : Prop where
  law : Law9 w0 w f dv F X
  top : ∀ i, X i → w0.heap.size ≤ i
  low : ∀ i, T i → X i
  tx : T t
  tb : w.heap[t]? = some (.cells (treeA f (.pointer (some ⟨rootB tr, 0, none⟩)) kv count had) 93 (0, 0))
  kb : isKB w T d n tr
  fit : Fit d n.2
  put : KidOk w0 w T f dv t (rootB tr) (blocksB d tr) F (wrN d F n).1 (wrN d F n).2.2 (fun w' => isKB w' T d (wrN d F n).2.1 tr)
  few : (blocksB d tr).length ≤ 1000000 ∧ (idsN d (wrN d F n).2.1).length ≤ 1000000
  dead : F.dead = false
  com : (wrN d F n).2.2 = 0 → (wrN d F n).1.dead = false ∧ ComOk (wrN d F n).1 ((wrN d F n).2.1.1 : Nat) count mark (sortN (nI (idsN d (wrN d F n).2.1)))
set_option maxRecDepth 100000 in
set_option maxHeartbeats 4000000 in
theorem commitS_calls (w0 w : World) (T X : Nat → Prop) (f : Nat) (dv : DH) (t : Nat) (kv : Value) (d : Nat) (n : Nd d) (tr : Bt d) (F : Pg) (count had : Nat) (mark : Nat) (h : CoOk w0 w T X f dv t kv d n tr F count had mark) :
    Calls Tryz.prog 43 #[.pointer (some ⟨t, 0, none⟩), .int .u64 mark] w (CoPost w0 w T X f dv d n tr F count mark) := by
  obtain ⟨KP, hKP⟩ : ∃ KP : Ending → World → Prop, KP = CoPost w0 w T X f dv d n tr F count mark := ⟨_, rfl⟩
  obtain ⟨ez, hez⟩ : ∃ ez, ez = (wrN d F n).2.2 := ⟨_, rfl⟩
  obtain ⟨b, hb⟩ : ∃ b, b = rootB tr := ⟨_, rfl⟩
  rw [← hKP]
  have htb := h.tb
  rw [← hb] at htb
  have c1 : w.cell? ⟨t, 1, none⟩ = some (.pointer (some ⟨b, 0, none⟩)) := by rw [cell_of_block htb]; rfl
  have hst0 := PSt.begin h.law h.dead h.low h.top
  have HPUT : Hid (Calls Tryz.prog 74 #[.pointer (some ⟨t, 0, none⟩), .pointer (some ⟨b, 0, none⟩), .slice none 0 0] w fun e w1 => ∃ a m c, e = .returned (.tuple #[.slice a m c, .int .i64 ez]) ∧ (ez ≠ 0 → KP (.returned (.tuple #[.slice a m c, .int .i64 ez])) w1) ∧ (ez = 0 → w1.cell? ⟨t, 1, none⟩ = some (.pointer (some ⟨b, 0, none⟩)) ∧
      Calls Tryz.prog 45 #[.pointer (some ⟨b, 0, none⟩), .slice none 0 0] w1 fun e w2 => ∃ a2 m2 c2, e = .returned (.slice a2 m2 c2) ∧ Calls Tryz.prog 46 #[.slice a2 m2 c2] w2 fun e w3 => e = .returned (.tuple #[]) ∧ ∃ id : Nat, ∃ er : Int, w3.cell? ⟨t, 0, none⟩ = some (.pointer (some ⟨f, 0, none⟩)) ∧ w3.cell? ⟨t, 1, none⟩ = some (.pointer (some ⟨b, 0, none⟩)) ∧ w3.cell? ⟨t, 3, none⟩ = some (.int .i64 count) ∧ w3.cell? ⟨b, 0, none⟩ = some (.int .i64 id) ∧
        Calls Tryz.prog 73 #[.pointer (some ⟨f, 0, none⟩), .int .i64 id, .int .i64 count, .int .u64 mark, .slice a2 m2 c2] w3.drew fun e w4 => e = .returned (.int .i64 er) ∧ (w4.cell? ⟨t, 0, none⟩ = some (.pointer (some ⟨f, 0, none⟩)) ∧ w4.cell? ⟨t, 1, none⟩ = some (.pointer (some ⟨b, 0, none⟩)) ∧ w4.cell? ⟨t, 3, none⟩ = some (.int .i64 count) ∧ w4.cell? ⟨b, 0, none⟩ = some (.int .i64 id)) ∧ KP (.returned (.tuple #[.slice a m c, .int .i64 er])) w4)) := Lib.hid (by
    rw [hb]
    refine (h.put w X [] (.slice none 0 0) hst0 (fun y hy => by cases hy) (by rw [List.length_nil, Nat.zero_add]; exact h.few.1)).mono ?_
    rintro e w1 ⟨v1, X1, Ln, rfl, hpr, hgood⟩
    have hst := hpr.st
    rw [List.nil_append] at hst
    obtain ⟨a, m, c, e1⟩ := isOwn.shape hst.own
    have hkX : Keeps w w1 (fun i => i ∈ Ln ∨ Apart w0 X i) := hpr.keep.mono (fun i _ hi => by
      rcases hi with hi | hi | hi
      · exact .inl hi
      · exact .inr hi
      · cases hi)
    have htopX : ∀ i, X i → w0.heap.size ≤ i ∧ i < w.heap.size := fun i hi => ⟨h.top i hi, hst0.xlt hi⟩
    refine ⟨a, m, c, by rw [e1, hez], fun hne => ?_, fun h0 => ?_⟩
    · rw [hKP]
      have hc : coM d n F count mark = ((wrN d F n).1, (wrN d F n).2.2) := by unfold coM; rw [if_neg (by rw [← hez]; exact hne)]
      refine ⟨v1, X1, Ln, ?_, ?_, hpr.sub, hpr.len, fun h9 => absurd (hez ▸ h9) hne⟩
      · rw [hc, e1, hez]
      · rw [hc]; exact hst.e hkX hpr.own h.low htopX
    · rw [hez] at h0
      have hkb := hgood h0
      obtain ⟨hd1, hcok⟩ := h.com h0
      obtain ⟨n', hn'⟩ : ∃ n', n' = (wrN d F n).2.1 := ⟨_, rfl⟩
      have hid9 := h.few.2
      rw [← hn'] at hkb hcok hid9
      have hfit' : Fit d n'.2 := by rw [hn']; exact Alike.fit (wrN_alike F n).symm h.fit
      have htb1 := hst.stays h.tb h.tx (by decide)
      refine ⟨by rw [cell_of_block htb1]; rfl, ?_⟩
      refine (knPages_calls w1 T d n' (rootB tr) hkb.isK hfit' w1 (.slice none 0 0) [] (Keeps.refl _ _) (isOwn_nil _ _ _) (by rw [List.length_nil, Nat.zero_add]; exact hid9)).mono ?_
      rintro e w2 ⟨v2, rfl, ho2, hk2⟩
      rw [List.nil_append] at ho2
      obtain ⟨a2, m2, c2, e2⟩ := isOwn.shape ho2
      refine ⟨a2, m2, c2, by rw [e2], ?_⟩
      rw [← e2]
      refine (sortI_calls w2 w1.heap.size 3 v2 (nI (idsN d n')) ho2 (by simpa [nI] using hid9)).mono ?_
      rintro e w3 ⟨rfl, ho3, hk3⟩
      have hs2 := hst.moreY (Y := fun i => v2.ownBlock = some i) hk2 (fun i hi => ho2.blk i hi)
      have hs3 := hs2.ownS (S := fun i => v2.ownBlock = some i) (fun i hi => ⟨.inr hi, by have := (ho2.blk i hi).1; have := hst.size; omega, fun e => by
        obtain ⟨D, hD⟩ := isOwn.ty hs2.own e
        obtain ⟨E, hE⟩ := isOwn.ty ho2 hi
        exact absurd (blk_ty hD hE) (by decide)⟩) hk3
      have htb3 := hs3.stays h.tb h.tx (by decide)
      have hnx : ∀ i, v2.ownBlock = some i → ¬ T i := fun i hi hx => by
        have := (ho2.blk i hi).1
        have := hst.size
        have := (hst.top i hx).2
        omega
      have hkb3 : isKB w3 T d n' tr := (isKB.kept hk2 Off.new hkb (fun _ _ h => h)).kept hk3 (fun i hi _ => .inl (hnx i hi)) (fun y hy hs => hnx y hs (hkb.own y hy).1)
      obtain ⟨lf, rs, ks, hkn⟩ := hkb3.kn
      obtain ⟨rvv, kvv, hbb, _⟩ := hkn.ex
      refine ⟨rfl, n'.1, (comP (wrN d F n).1 (n'.1 : Nat) count mark (sortN (nI (idsN d n')))).2, by rw [cell_of_block htb3]; rfl, by rw [cell_of_block htb3]; rfl, by rw [cell_of_block htb3]; rfl, by rw [cell_of_block hbb]; rfl, ?_⟩
      have hlen9 : (sortN (nI (idsN d n'))).length ≤ 140737488351232 := by
        have h9 : (nI (idsN d n')).length = (idsN d n').length := by simp [nI]
        rw [sortN_len, h9]; omega
      refine (l_comm hs3.law.drew hd1 (ho3.new (Keeps.refl _ _).drew).rd (fun g hg => .inr ⟨.inl (.inr hg), (ho3.blk g hg).2⟩) hlen9 hcok).mono ?_
      rintro e w4 ⟨rfl, hl4, hk4⟩
      have hk4' : Keeps w3 w4 (Apart w0 (fun i => X1 i ∨ v2.ownBlock = some i)) := ((Keeps.refl w3 _).drew).trans hk4
      have hk3X : Keeps w w3 (fun i => i ∈ Ln ∨ Apart w0 X i) := ((hkX.then hk2 (fun _ _ h => h.elim))).then hk3 (fun i hi hs => by
        have := (ho2.blk i hs).1
        have := hst.size
        omega)
      have hse := (hs3.e hk3X (fun i hi => .inl (hpr.own i hi)) h.low htopX).put hl4 hk4'
      have hna : ∀ i, Apart w0 (fun i => X1 i ∨ v2.ownBlock = some i) i → ¬ T i := fun i hi hx => hi.1 (.inl (hst.sub i hx))
      have hkb4 : isKB w4 T d n' tr := hkb3.kept hk4' (fun i hi _ => .inl (hna i hi)) (fun y hy hs => hna y hs (hkb3.own y hy).1)
      have htb4 := hk4'.blk htb3 (fun hs => hna t hs h.tx)
      obtain ⟨lf4, rs4, ks4, hkn4⟩ := hkb4.kn
      obtain ⟨rv4, kv4, hbb4, _⟩ := hkn4.ex
      refine ⟨rfl, ⟨by rw [cell_of_block htb4]; rfl, by rw [cell_of_block htb4]; rfl, by rw [cell_of_block htb4]; rfl, by rw [cell_of_block hbb4]; rfl⟩, ?_⟩
      rw [hKP]
      have hc : coM d n F count mark = comP (wrN d F n).1 (n'.1 : Nat) count mark (sortN (nI (idsN d n'))) := by unfold coM; rw [if_pos h0, hn']
      refine ⟨v1, fun i => X1 i ∨ v2.ownBlock = some i, Ln, by rw [hc, e1], ?_, hpr.sub, hpr.len, fun _ => ?_⟩
      · rw [hc]; exact hse
      · rw [← hn']; exact hkb4)
  clear htb hst0 h hKP hez hb
  go_enter Tryz.func43, Tryz.ntmps43
  go_wp2_with fail
  refine HPUT.out.mono ?_
  rintro e w1 ⟨a, m, c, rfl, hbad, hgood⟩
  clear HPUT c1
  by_cases h0 : ez = 0
  · as_aux_lemma =>
    obtain ⟨c1, hpg⟩ := hgood h0
    subst h0
    have HPG := Lib.hid hpg
    clear hbad hgood hpg
    go_wp2_with fail
    refine HPG.out.mono ?_
    rintro e w2 ⟨a2, m2, c2, rfl, hso⟩
    have HSO := Lib.hid hso
    clear HPG hso c1
    go_wp2_with fail
    refine HSO.out.mono ?_
    rintro e w3 ⟨rfl, id, er, d0, d1, d3, db, hco⟩
    have HCO := Lib.hid hco
    clear HSO hco
    go_wp2_with fail
    have HS : (fun (w' : World) => w'.cell? ⟨t, 0, none⟩ = some (.pointer (some ⟨f, 0, none⟩)) ∧ w'.cell? ⟨t, 1, none⟩ = some (.pointer (some ⟨b, 0, none⟩)) ∧ w'.cell? ⟨t, 3, none⟩ = some (.int .i64 count) ∧ w'.cell? ⟨b, 0, none⟩ = some (.int .i64 id)) w3.drew := ⟨d0, d1, d3, db⟩
    refine wp_region_held_drew (S := (fun (w' : World) => w'.cell? ⟨t, 0, none⟩ = some (.pointer (some ⟨f, 0, none⟩)) ∧ w'.cell? ⟨t, 1, none⟩ = some (.pointer (some ⟨b, 0, none⟩)) ∧ w'.cell? ⟨t, 3, none⟩ = some (.int .i64 count) ∧ w'.cell? ⟨b, 0, none⟩ = some (.int .i64 id))) (by kernel_rfl) HS (fun _ => ?_)
    refine rg_t 0 (v := ?_) rfl (by kernel_rfl) (fun _ _ _ h => h) HS ?_ ?_ ?_; rotate_left; rfl; focus (intro w hSw; (try dsimp only at hSw); go_simp; all_goals (with_reducible rfl))
    simp only [Act.put, l_a, l_s, l_z]
    refine rg_t 1 (v := ?_) rfl (by kernel_rfl) (fun _ _ _ h => h) HS ?_ ?_ ?_; rotate_left; rfl; focus (intro w hSw; (try dsimp only at hSw); go_simp; all_goals (with_reducible rfl))
    simp only [Act.put, l_a, l_s, l_z]
    refine rg_t 2 (v := ?_) rfl (by kernel_rfl) (fun _ _ _ h => h) HS ?_ ?_ ?_; rotate_left; rfl; focus (intro w hSw; (try dsimp only at hSw); go_simp; all_goals (with_reducible rfl))
    simp only [Act.put, l_a, l_s, l_z]
    refine rg_t 3 (v := ?_) rfl (by kernel_rfl) (fun _ _ _ h => h) HS ?_ ?_ ?_; rotate_left; rfl; focus (intro w hSw; (try dsimp only at hSw); go_simp; all_goals (with_reducible rfl))
    simp only [Act.put, l_a, l_s, l_z]
    refine rg_t 4 (v := ?_) rfl (by kernel_rfl) (fun _ _ _ h => h) HS ?_ ?_ ?_; rotate_left; rfl; focus (intro w hSw; (try dsimp only at hSw); go_simp; all_goals (with_reducible rfl))
    simp only [Act.put, l_a, l_s, l_z]
    refine rg_t 5 (v := ?_) rfl (by kernel_rfl) (fun _ _ _ h => h) HS ?_ ?_ ?_; rotate_left; rfl; focus (intro w hSw; (try dsimp only at hSw); go_simp; all_goals (with_reducible rfl))
    simp only [Act.put, l_a, l_s, l_z]
    refine rg_t 6 (v := ?_) rfl (by kernel_rfl) (fun _ _ _ h => h) HS ?_ ?_ ?_; rotate_left; rfl; focus (intro w hSw; (try dsimp only at hSw); go_simp; all_goals (with_reducible rfl))
    simp only [Act.put, l_a, l_s, l_z]
    refine rg_t 7 (v := ?_) rfl (by kernel_rfl) (fun _ _ _ h => h) HS ?_ ?_ ?_; rotate_left; rfl; focus (intro w hSw; (try dsimp only at hSw); go_simp; all_goals (with_reducible rfl))
    simp only [Act.put, l_a, l_s, l_z]
    refine rg_t 8 (v := ?_) rfl (by kernel_rfl) (fun _ _ _ h => h) HS ?_ ?_ ?_; rotate_left; rfl; focus (intro w hSw; (try dsimp only at hSw); go_simp; all_goals (with_reducible rfl))
    simp only [Act.put, l_a, l_s, l_z]
    refine rg_t 9 (v := ?_) rfl (by kernel_rfl) (fun _ _ _ h => h) HS ?_ ?_ ?_; rotate_left; rfl; focus (intro w hSw; (try dsimp only at hSw); go_simp; all_goals (with_reducible rfl))
    simp only [Act.put, l_a, l_s, l_z]
    refine rg_t 10 (v := ?_) rfl (by kernel_rfl) (fun _ _ _ h => h) HS ?_ ?_ ?_; rotate_left; rfl; focus (intro w hSw; (try dsimp only at hSw); go_simp; all_goals (with_reducible rfl))
    simp only [Act.put, l_a, l_s, l_z]
    refine rg_t 11 (v := ?_) rfl (by kernel_rfl) (fun _ _ _ h => h) HS ?_ ?_ ?_; rotate_left; rfl; focus (intro w hSw; (try dsimp only at hSw); go_simp; all_goals (with_reducible rfl))
    simp only [Act.put, l_a, l_s, l_z]
    refine rg_t 12 (v := ?_) rfl (by kernel_rfl) (fun _ _ _ h => h) HS ?_ ?_ ?_; rotate_left; rfl; focus (intro w hSw; (try dsimp only at hSw); go_simp; all_goals (with_reducible rfl))
    simp only [Act.put, l_a, l_s, l_z]
    refine rg_t 13 (v := ?_) rfl (by kernel_rfl) (fun _ _ _ h => h) HS ?_ ?_ ?_; rotate_left; rfl; focus (intro w hSw; (try dsimp only at hSw); go_simp; all_goals (with_reducible rfl))
    simp only [Act.put, l_a, l_s, l_z]
    refine rg_t 14 (v := ?_) rfl (by kernel_rfl) (fun _ _ _ h => h) HS ?_ ?_ ?_; rotate_left; rfl; focus (intro w hSw; (try dsimp only at hSw); go_simp; all_goals (with_reducible rfl))
    simp only [Act.put, l_a, l_s, l_z]
    refine rg_t 15 (v := ?_) rfl (by kernel_rfl) (fun _ _ _ h => h) HS ?_ ?_ ?_; rotate_left; rfl; focus (intro w hSw; (try dsimp only at hSw); go_simp; all_goals (with_reducible rfl))
    simp only [Act.put, l_a, l_s, l_z]
    refine rg_t 16 (v := ?_) rfl (by kernel_rfl) (fun _ _ _ h => h) HS ?_ ?_ ?_; rotate_left; rfl; focus (intro w hSw; (try dsimp only at hSw); go_simp; all_goals (with_reducible rfl))
    simp only [Act.put, l_a, l_s, l_z]
    refine rg_t 17 (v := ?_) rfl (by kernel_rfl) (fun _ _ _ h => h) HS ?_ ?_ ?_; rotate_left; rfl; focus (intro w hSw; (try dsimp only at hSw); go_simp; all_goals (with_reducible rfl))
    simp only [Act.put, l_a, l_s, l_z]
    refine rg_one 18 rfl (by kernel_rfl) (by rfl) ?_
    refine rg_call 73 _ _ rfl _ Tryz.func73 (by kernel_rfl) (by kernel_rfl) [.pointer (some ⟨f, 0, none⟩), .int .i64 id, .int .i64 count, .int .u64 mark, .slice a2 m2 c2] rfl HCO.out ?_
    rintro e w4 ⟨rfl, HS4, hkp⟩
    have HKP := Lib.hid hkp
    refine ⟨_, rfl, HS4, ?_⟩
    simp only [Act.put, l_a, l_s, l_z]
    refine rg_t 19 (v := ?_) rfl (by kernel_rfl) (fun _ _ _ h => h) HS4 ?_ ?_ ?_; rotate_left; rfl; focus (intro w hSw; (try dsimp only at hSw); go_simp; all_goals (with_reducible rfl))
    simp only [Act.put, l_a, l_s, l_z]
    refine rg_t 20 (v := ?_) rfl (by kernel_rfl) (fun _ _ _ h => h) HS4 ?_ ?_ ?_; rotate_left; rfl; focus (intro w hSw; (try dsimp only at hSw); go_simp; all_goals (with_reducible rfl))
    simp only [Act.put, l_a, l_s, l_z]
    refine wpAnyH_done (by kernel_rfl) ?_ _
    clear hkp
    go_wp2_with fail
    exact HKP.out
  · as_aux_lemma =>
    have HPO := Lib.hid (hbad h0)
    have hezb : (ez == 0) = false := by simp [h0]
    clear hbad hgood
    go_wp2_with fail
    exact HPO.out
end Go.Proofs.YtblpkifkaoaicaaGreat

namespace Go.Proofs.YtblpkifkaoaicaaGreat
open Go Go.RowKit Go.Maps Wb

/-- Behind a commit that failed: of the knots that were written q have no number again. -/
structure RB (w0 w1 : World) (X : Nat → Prop) (f : Nat) (dv : DH) (G : Pg) (v : Value) (L : List Nat) (X' : Nat → Prop) (q : Nat) (wr : World) : Prop where
  keep : Keeps w1 wr (fun i => i ∈ L.drop q ∨ Apart w0 X i)
  law : Law9 w0 wr f dv G X'
  ids : ∀ x ∈ L.drop q, ∃ lf rv kv p, w1.heap[x]? = some (.cells (knA 0 lf rv kv) 96 (0, 0)) ∧ wr.heap[x]? = some (.cells (knA p lf rv kv) 96 (0, 0))
  own : isOwn wr w1.heap.size 91 v (L.map ptrV)
theorem PSe.rb {w0 w1 w : World} {X X' : Nat → Prop} {f : Nat} {dv : DH} {L : List Nat} {G : Pg} {v : Value} (h : PSe w0 w1 X f dv w X' L G v) : RB w0 w1 X f dv G v L X' 0 w := ⟨h.keep, h.law, h.ids, h.own⟩
theorem RB.step {w0 w1 wr : World} {X X' : Nat → Prop} {f : Nat} {dv : DH} {G : Pg} {v : Value} {L : List Nat} {q x : Nat} (h : RB w0 w1 X f dv G v L X' q wr) (hx : L[q]? = some x) (hX : ∀ x ∈ L, X' x ∧ w0.heap.size ≤ x) :
    ∃ g o p0, (∃ n c, v = .slice (some ⟨g, o, none⟩) n c) ∧ wr.cell? ⟨g, o + q, none⟩ = some (.pointer (some ⟨x, 0, none⟩)) ∧ wr.cell? ⟨x, 0, none⟩ = some p0 ∧ wr.frozen? ⟨x, 0, none⟩ = false ∧ RB w0 w1 X f dv G v L X' (q + 1) (wr.setCell ⟨x, 0, none⟩ (.int .i64 0)) := by
  have hq := (List.getElem?_eq_some_iff.1 hx).1
  have hd : L.drop q = x :: L.drop (q + 1) := by
    rw [List.drop_eq_getElem_cons hq]
    congr 1
    exact (List.getElem?_eq_some_iff.1 hx).2
  obtain ⟨lf, rv, kv, p, h1, h2⟩ := h.ids x (by rw [hd]; exact List.mem_cons_self ..)
  obtain ⟨g, c, e1, _, hg, _, hc⟩ := isOwn.at h.own (j := q) (x := ptrV x) (by rw [List.getElem?_map, hx]; rfl)
  have hks := keeps_cell wr x 0 (.int .i64 0)
  have hbx : (wr.setCell ⟨x, 0, none⟩ (.int .i64 0)).heap[x]? = some (.cells (knA 0 lf rv kv) 96 (0, 0)) := blk_setCell h2 0 _
  have hxm := hX x (List.mem_of_getElem? hx)
  have hlt := lt_of_blk h1
  refine ⟨g, 0, _, ⟨_, c, e1⟩, by rw [Nat.zero_add]; exact hc, by rw [cell_of_block h2]; rfl, free_of_block h2 0, ⟨⟨(h.keep.os ▸ hks.os), (h.keep.tape ▸ hks.tape), (h.keep.output ▸ hks.output), Nat.le_trans h.keep.size hks.size, fun k hk hs => ?_⟩, h.law.step hks (fun i e => by have e' : i = x := e; subst e'; exact hxm) (fun i hi => .inl hi) (fun i hi => ?_), fun y hy => ?_, h.own.kept hks (fun k hk e => ?_)⟩⟩
  · by_cases e : k = x
    · subst e
      rw [hbx, h1]
    · rw [hks.block k (Nat.lt_of_lt_of_le hk h.keep.size) (fun e' => e e')]
      refine h.keep.block k hk (fun hs' => ?_)
      rcases hs' with hs' | hs'
      · rw [hd] at hs'
        rcases List.mem_cons.1 hs' with e' | e'
        · exact e e'
        · exact hs (.inl e')
      · exact hs (.inr hs')
  · obtain ⟨bu, fv, _, _, h3, _⟩ := h.law
    exact Nat.lt_of_lt_of_le (h3 i hi) hks.size
  · by_cases e : y = x
    · subst e
      exact ⟨lf, rv, kv, 0, h1, hbx⟩
    · obtain ⟨lf', rv', kv', p', k1, k2⟩ := h.ids y (by rw [hd]; exact List.mem_cons_of_mem _ hy)
      exact ⟨lf', rv', kv', p', k1, hks.blk k2 (fun e' => e e')⟩
  · have e' : k = x := e
    subst e'
    have := (h.own.blk k hk).1
    omega
/-- What Commit comes to. -/
def CmPost (w0 w : World) (T X : Nat → Prop) (f : Nat) (dv : DH) (t : Nat) (root kept : Root) (count had : Nat) (G : Pg) (er : Int) (root' : Root) (e : Ending) (w' : World) : Prop :=
  e = .returned (.int .i64 er) ∧ Law9 w0 w' f dv (if er = 0 then G else dropP G) X ∧ Keeps w w' (fun i => T i ∨ Apart w0 X i) ∧ (er = 0 → isTree w' T t f root' root' count count) ∧ (er ≠ 0 → isTree w' T t f root kept count had)
/-- What lies behind commit, as Commit goes on. -/
def CmNext (f t : Nat) (ob : Option Addr) (count : Nat) (er : Int) (KP : Ending → World → Prop) (e : Ending) (w1 : World) : Prop :=
  ∃ a m c, e = .returned (.tuple #[.slice a m c, .int .i64 er]) ∧
      (er = 0 → w1.cell? ⟨t, 1, none⟩ = some (.pointer ob) ∧ w1.cell? ⟨t, 3, none⟩ = some (.int .i64 count) ∧ (∃ o, w1.cell? ⟨t, 2, none⟩ = some (.pointer o)) ∧ (∃ z : Int, w1.cell? ⟨t, 4, none⟩ = some (.int .i64 z)) ∧ w1.frozen? ⟨t, 2, none⟩ = false ∧ w1.frozen? ⟨t, 4, none⟩ = false ∧ ∀ k, KP (.returned (.int .i64 0)) (((w1.drewN k).setCell ⟨t, 2, none⟩ (.pointer ob)).setCell ⟨t, 4, none⟩ (.int .i64 count))) ∧
      (er ≠ 0 → w1.cell? ⟨t, 0, none⟩ = some (.pointer (some ⟨f, 0, none⟩)) ∧ Calls Tryz.prog 44 #[.pointer (some ⟨f, 0, none⟩)] w1 fun e w2 => e = .returned (.tuple #[]) ∧ ∃ R : Nat → World → Prop, R 0 w2 ∧ m ≤ 1000000 ∧ (∀ q wr, q < m → R q wr → ∃ g o x p0, a = some ⟨g, o, none⟩ ∧ wr.cell? ⟨g, o + q, none⟩ = some (.pointer (some ⟨x, 0, none⟩)) ∧ wr.cell? ⟨x, 0, none⟩ = some p0 ∧ wr.frozen? ⟨x, 0, none⟩ = false ∧ R (q + 1) (wr.setCell ⟨x, 0, none⟩ (.int .i64 0))) ∧ ∀ wr, R m wr → KP (.returned (.int .i64 er)) wr)
set_option maxRecDepth 100000 in
set_option maxHeartbeats 4000000 in
theorem commitW_calls (w : World) (f t : Nat) (ob : Option Addr) (count : Nat) (mark : Nat) (er : Int) (KP : Ending → World → Prop) (hco : Calls Tryz.prog 43 #[.pointer (some ⟨t, 0, none⟩), .int .u64 mark] w (CmNext f t ob count er KP)) :
    Calls Tryz.prog 16 #[.pointer (some ⟨t, 0, none⟩), .int .u64 mark] w KP := by
  have HCO := Lib.hid hco
  clear hco
  go_enter Tryz.func16, Tryz.ntmps16
  go_wp2_with fail
  refine HCO.out.mono ?_
  rintro e w1 ⟨a, m, c, rfl, hgood, hbad⟩
  clear HCO
  by_cases h0 : er = 0
  · as_aux_lemma =>
    obtain ⟨c1, c3, ⟨o, c2⟩, ⟨z, c4⟩, f2, f4, hpo⟩ := hgood h0
    have HPO := Lib.hid hpo
    subst h0
    clear hgood hbad hpo
    go_wp2_with fail
    go_region
    · go_wp2_with fail
      first | exact HPO.out _ | (go_ret; exact HPO.out _)
  · as_aux_lemma =>
    have hezb : (er == 0) = false := by simp [h0]
    obtain ⟨c0, hdrop⟩ := hbad h0
    have HDROP := Lib.hid hdrop
    clear hgood hbad hdrop
    go_wp2_with fail
    refine HDROP.out.mono ?_
    rintro e w2 ⟨rfl, R, hr0, hm, hst, hend⟩
    have HR0 := Lib.hid hr0
    have HST := Lib.hid hst
    have HEND := Lib.hid hend
    have hmi : (m : Int) ≤ 1000000 := by omega
    have hm0 : (0 : Int) ≤ m := by omega
    clear HDROP hr0 hm hst hend c0
    go_wp2_with fail
    go_loopw [24] (fun v24 wr => ∃ (q : Nat), q ≤ m ∧ v24 = .int .i64 q ∧ Hid (R q wr)) (fun v24 _ => m - (intOf v24).toNat)
    case atStart => exact ⟨0, Nat.zero_le _, rfl, HR0⟩
    case round =>
      clear HR0
      obtain ⟨q, hqM, rfl, hrel⟩ := hrel
      by_cases hlt : q < m
      · as_aux_lemma =>
        have hlb : decide ((q : Int) < (m : Int)) = true := by simp; omega
        have hlbn : decide (q < m) = true := by simp; omega
        have hq0 : (0 : Int) ≤ q := by omega
        have hqMi : (q : Int) < m := by omega
        obtain ⟨g, o, x, p0, rfl, cx, c0, fx, hr1⟩ := HST.out q _ hlt hrel.out
        have HR1 := Lib.hid hr1
        have HLT := Lib.hid hlt
        clear hr1 hrel hlt HST HEND
        go_wp2_with fail
        go_roundw
        case rel => exact ⟨q + 1, HLT.out, by go_num, HR1⟩
        case measure => have := HLT.out; simp [intOf]; omega
      · as_aux_lemma =>
        obtain rfl : q = m := by omega
        have hlb : decide ((q : Int) < (q : Int)) = false := by simp
        have hlbn : decide (q < q) = false := by simp
        have HPO := Lib.hid (HEND.out _ hrel.out)
        clear hrel hlt HST HEND
        go_wp2_with fail
        first | exact HPO.out | (go_ret; exact HPO.out)
set_option maxRecDepth 100000 in
set_option maxHeartbeats 4000000 in
theorem commitT_calls (w0 w : World) (T X : Nat → Prop) (f : Nat) (dv : DH) (t : Nat) (kv : Value) (d : Nat) (n : Nd d) (tr : Bt d) (F : Pg) (kept : Root) (count had : Nat) (mark : Nat) (h : CoOk w0 w T X f dv t kv d n tr F count had mark) (ht : isTree w T t f (some ⟨d, n⟩) kept count had) (hdr : (coM d n F count mark).2 ≠ 0 → (coM d n F count mark).1.fresh.length ≤ 140737488351232) (hz : (coM d n F count mark).2 = 0 → (wrN d F n).2.2 = 0) :
    Calls Tryz.prog 16 #[.pointer (some ⟨t, 0, none⟩), .int .u64 mark] w (CmPost w0 w T X f dv t (some ⟨d, n⟩) kept count had (coM d n F count mark).1 (coM d n F count mark).2 (some ⟨d, (wrN d F n).2.1⟩)) := by
  obtain ⟨KP, hKP⟩ : ∃ KP : Ending → World → Prop, KP = CmPost w0 w T X f dv t (some ⟨d, n⟩) kept count had (coM d n F count mark).1 (coM d n F count mark).2 (some ⟨d, (wrN d F n).2.1⟩) := ⟨_, rfl⟩
  obtain ⟨er, her⟩ : ∃ er, er = (coM d n F count mark).2 := ⟨_, rfl⟩
  obtain ⟨b, hb⟩ : ∃ b, b = rootB tr := ⟨_, rfl⟩
  rw [← hKP]
  refine commitW_calls w f t (some ⟨b, 0, none⟩) count mark er KP (by
    have hlw : ∀ i, X i → i < w.heap.size := fun i hi => by
      obtain ⟨bu, fv, _, _, h3, _⟩ := h.law
      exact h3 i hi
    refine (commitS_calls w0 w T X f dv t kv d n tr F count had mark h).mono ?_
    rintro e w1 ⟨v, X', Ln, rfl, hse, hsub, hlen, hgood⟩
    obtain ⟨a, m, c, e1⟩ := isOwn.shape hse.own
    obtain ⟨a9, c9, e9⟩ := isOwn.shapeN hse.own
    have hm : m = Ln.length := by rw [e1] at e9; injection e9 with _ e9 _; rw [e9, List.length_map]
    have htT : t ∉ Ln := fun hm => by
      obtain ⟨D, hD⟩ := (h.kb.own t (hsub t hm)).2
      exact absurd (blk_ty h.tb hD) (by decide)
    have htb1 := hse.keep.blk h.tb (fun hs => hs.elim htT (fun hs => hs.1 (h.low t h.tx)))
    refine ⟨a, m, c, by rw [e1, her], fun h0 => ?_, fun h0 => ?_⟩
    · rw [her] at h0
      have hkb := hgood (hz h0)
      obtain ⟨o, ho⟩ : ∃ o, kv = .pointer o := by
        obtain ⟨rv9, kv9, hb9, _, hk9⟩ := ht.ex
        obtain ⟨o, ho⟩ := hk9.shape
        have h8 := h.tb
        rw [hb9] at h8
        injection h8 with h8
        injection h8 with h8
        have h7 := congrArg (fun a => a[2]?) h8
        simp [treeA] at h7
        exact ⟨o, by rw [← h7]; exact ho⟩
      refine ⟨by rw [cell_of_block htb1, ← hb]; rfl, by rw [cell_of_block htb1]; rfl, ⟨o, by rw [cell_of_block htb1, ← ho]; rfl⟩, ⟨_, by rw [cell_of_block htb1]; rfl⟩, free_of_block htb1 2, free_of_block htb1 4, fun k => ?_⟩
      have hk2 := keeps_cells2 (w1.drewN k) t 2 4 (.pointer (some ⟨b, 0, none⟩)) (.int .i64 count)
      have hk3 : Keeps w1 (((w1.drewN k).setCell ⟨t, 2, none⟩ (.pointer (some ⟨b, 0, none⟩))).setCell ⟨t, 4, none⟩ (.int .i64 count)) (· = t) := ((Keeps.refl w1 _).drewN k).trans hk2
      have htb2 : (((w1.drewN k).setCell ⟨t, 2, none⟩ (.pointer (some ⟨b, 0, none⟩))).setCell ⟨t, 4, none⟩ (.int .i64 count)).heap[t]? = some (.cells (treeA f (.pointer (some ⟨b, 0, none⟩)) (.pointer (some ⟨b, 0, none⟩)) count count) 93 (0, 0)) := by
        rw [hb]
        exact blk_setCell (blk_setCell (show (w1.drewN k).heap[t]? = _ from htb1) 2 _) 4 _
      have hroot : isRoot (((w1.drewN k).setCell ⟨t, 2, none⟩ (.pointer (some ⟨b, 0, none⟩))).setCell ⟨t, 4, none⟩ (.int .i64 count)) (But T t) (some ⟨d, (wrN d F n).2.1⟩) (.pointer (some ⟨b, 0, none⟩)) := by
        refine ⟨b, rfl, ?_⟩
        rw [hb]
        exact ((isKB.but htb1 hkb).isK).kept (hb ▸ hk3) (fun i e _ hx => hx.2 e)
      rw [hKP]
      refine ⟨by rw [h0], ?_, ?_, fun _ => ⟨h.tx, _, _, htb2, hroot, hroot⟩, fun h9 => absurd h0 h9⟩
      · rw [if_pos h0]
        refine (hse.law.step hk3 (fun i e => ?_) (fun i hi => .inl hi) (fun i hi => ?_)).less (fun i hi => hse.sub i hi)
        · have e' : i = t := e
          subst e'
          exact ⟨hse.sub _ (h.low _ h.tx), h.top _ (h.low _ h.tx)⟩
        · obtain ⟨bu, fv, _, _, h3, _⟩ := hse.law
          exact Nat.lt_of_lt_of_le (h3 i hi) hk3.size
      · refine (hse.keep.mono (fun i _ hi => ?_)).then hk3 (fun i _ e => .inl ?_)
        · rcases hi with hi | hi
          · exact .inl (h.kb.own i (hsub i hi)).1
          · exact .inr hi
        · have e' : i = t := e
          subst e'
          exact h.tx
    · refine ⟨by rw [cell_of_block htb1]; rfl, ?_⟩
      rw [her] at h0
      refine (l_drop hse.law (hdr h0)).mono ?_
      rintro e w2 ⟨rfl, hl2, hk2⟩
      have hs2 := hse.put hl2 hk2
      refine ⟨rfl, RB w0 w X f dv (dropP (coM d n F count mark).1) v Ln X', hs2.rb, by rw [hm]; exact Nat.le_trans hlen h.few.1, fun q wr hq hr => ?_, fun wr hr => ?_⟩
      · have hx : Ln[q]? = some (Ln[q]'(by omega)) := List.getElem?_eq_getElem _
        obtain ⟨g, o, p0, ⟨n9, c9, e8⟩, k1, k2, k3, k4⟩ := hr.step hx (fun x hx => ⟨hse.sub x (hse.has x hx), h.top x (hse.has x hx)⟩)
        rw [e1] at e8
        injection e8 with e8
        exact ⟨g, o, _, p0, e8, k1, k2, k3, k4⟩
      · have hk := hr.keep
        rw [hm, List.drop_length] at hk
        have hkA : Keeps w wr (Apart w0 X) := hk.mono (fun i _ hi => hi.elim (fun h => (by cases h)) id)
        rw [hKP, her]
        refine ⟨rfl, ?_, hkA.mono (fun i _ hi => .inr hi), fun h9 => absurd h9 h0, fun _ => ht.kept hkA (fun i hi _ hx => hi.1 (h.low i hx))⟩
        rw [if_neg h0]
        exact hr.law.less (fun i hi => hse.sub i hi))
/-- A tree without a root is committed. -/
structure CoNo (w0 w : World) (T X : Nat → Prop) (f : Nat) (dv : DH) (t : Nat) (F : Pg) (kept : Root) (count had : Nat) (mark : Nat) : Prop where
  law : Law9 w0 w f dv F X
  top : ∀ i, X i → w0.heap.size ≤ i
  low : ∀ i, T i → X i
  tr : isTree w T t f none kept count had
  dead : F.dead = false
  com : ComOk F 0 count mark []
set_option maxRecDepth 100000 in
set_option maxHeartbeats 2000000 in
theorem commitN_calls (w0 w : World) (T X : Nat → Prop) (f : Nat) (dv : DH) (t : Nat) (F : Pg) (kept : Root) (count had : Nat) (mark : Nat) (h : CoNo w0 w T X f dv t F kept count had mark) :
    Calls Tryz.prog 43 #[.pointer (some ⟨t, 0, none⟩), .int .u64 mark] w fun e w' => e = .returned (.tuple #[.slice none 0 0, .int .i64 (comP F 0 count mark []).2]) ∧ Law9 w0 w' f dv (comP F 0 count mark []).1 X ∧ Keeps w w' (Apart w0 X) := by
  obtain ⟨rv, kv, hb, hr, hk⟩ := h.tr.ex
  have hr : rv = .pointer none := hr
  subst hr
  obtain ⟨KP, hKP⟩ : ∃ KP : Ending → World → Prop, KP = fun e w' => e = .returned (.tuple #[.slice none 0 0, .int .i64 (comP F 0 count mark []).2]) ∧ Law9 w0 w' f dv (comP F 0 count mark []).1 X ∧ Keeps w w' (Apart w0 X) := ⟨_, rfl⟩
  rw [← hKP]
  obtain ⟨er, her⟩ : ∃ er, er = (comP F 0 count mark []).2 := ⟨_, rfl⟩
  have c0 : w.cell? ⟨t, 0, none⟩ = some (.pointer (some ⟨f, 0, none⟩)) := by rw [cell_of_block hb]; rfl
  have c1 : w.cell? ⟨t, 1, none⟩ = some (.pointer none) := by rw [cell_of_block hb]; rfl
  have c3 : w.cell? ⟨t, 3, none⟩ = some (.int .i64 count) := by rw [cell_of_block hb]; rfl
  have HCO : Hid (Calls Tryz.prog 73 #[.pointer (some ⟨f, 0, none⟩), .int .i64 0, .int .i64 count, .int .u64 mark, .slice none 0 0] w.drew fun e w4 => e = .returned (.int .i64 er) ∧ (w4.cell? ⟨t, 0, none⟩ = some (.pointer (some ⟨f, 0, none⟩)) ∧ w4.cell? ⟨t, 3, none⟩ = some (.int .i64 count)) ∧ KP (.returned (.tuple #[.slice none 0 0, .int .i64 er])) w4) := Lib.hid (by
    refine (l_comm (v := .slice none 0 0) (ids := []) h.law.drew h.dead ⟨none, 0, rfl, Nat.le_refl _, fun j x hj => by cases hj⟩ (fun g hg => by cases hg) (Nat.zero_le _) h.com).mono ?_
    rintro e w4 ⟨rfl, hl4, hk4⟩
    have hk5 : Keeps w w4 (Apart w0 X) := ((Keeps.refl w _).drew).trans hk4
    have hb4 := hk5.blk hb (fun hs => hs.1 (h.low t h.tr.x))
    refine ⟨by rw [her], ⟨by rw [cell_of_block hb4]; rfl, by rw [cell_of_block hb4]; rfl⟩, ?_⟩
    rw [hKP, her]
    exact ⟨rfl, hl4, hk5⟩)
  clear h hb hk hKP her
  go_enter Tryz.func43, Tryz.ntmps43
  go_wp2_with fail
  have HS : (fun (w' : World) => w'.cell? ⟨t, 0, none⟩ = some (.pointer (some ⟨f, 0, none⟩)) ∧ w'.cell? ⟨t, 3, none⟩ = some (.int .i64 count)) w.drew := ⟨c0, c3⟩
  refine wp_region_held_drew (S := (fun (w' : World) => w'.cell? ⟨t, 0, none⟩ = some (.pointer (some ⟨f, 0, none⟩)) ∧ w'.cell? ⟨t, 3, none⟩ = some (.int .i64 count))) (by kernel_rfl) HS (fun _ => ?_)
  refine rg_t 0 (v := ?_) rfl (by kernel_rfl) (fun _ _ _ h => h) HS ?_ ?_ ?_; rotate_left; rfl; focus (intro w hSw; (try dsimp only at hSw); go_simp; all_goals (with_reducible rfl))
  simp only [Act.put, l_a, l_s, l_z]
  refine rg_t 1 (v := ?_) rfl (by kernel_rfl) (fun _ _ _ h => h) HS ?_ ?_ ?_; rotate_left; rfl; focus (intro w hSw; (try dsimp only at hSw); go_simp; all_goals (with_reducible rfl))
  simp only [Act.put, l_a, l_s, l_z]
  refine rg_t 2 (v := ?_) rfl (by kernel_rfl) (fun _ _ _ h => h) HS ?_ ?_ ?_; rotate_left; rfl; focus (intro w hSw; (try dsimp only at hSw); go_simp; all_goals (with_reducible rfl))
  simp only [Act.put, l_a, l_s, l_z]
  refine rg_t 3 (v := ?_) rfl (by kernel_rfl) (fun _ _ _ h => h) HS ?_ ?_ ?_; rotate_left; rfl; focus (intro w hSw; (try dsimp only at hSw); go_simp; all_goals (with_reducible rfl))
  simp only [Act.put, l_a, l_s, l_z]
  refine rg_t 4 (v := ?_) rfl (by kernel_rfl) (fun _ _ _ h => h) HS ?_ ?_ ?_; rotate_left; rfl; focus (intro w hSw; (try dsimp only at hSw); go_simp; all_goals (with_reducible rfl))
  simp only [Act.put, l_a, l_s, l_z]
  refine rg_t 5 (v := ?_) rfl (by kernel_rfl) (fun _ _ _ h => h) HS ?_ ?_ ?_; rotate_left; rfl; focus (intro w hSw; (try dsimp only at hSw); go_simp; all_goals (with_reducible rfl))
  simp only [Act.put, l_a, l_s, l_z]
  refine rg_t 6 (v := ?_) rfl (by kernel_rfl) (fun _ _ _ h => h) HS ?_ ?_ ?_; rotate_left; rfl; focus (intro w hSw; (try dsimp only at hSw); go_simp; all_goals (with_reducible rfl))
  simp only [Act.put, l_a, l_s, l_z]
  refine rg_t 7 (v := ?_) rfl (by kernel_rfl) (fun _ _ _ h => h) HS ?_ ?_ ?_; rotate_left; rfl; focus (intro w hSw; (try dsimp only at hSw); go_simp; all_goals (with_reducible rfl))
  simp only [Act.put, l_a, l_s, l_z]
  refine rg_t 8 (v := ?_) rfl (by kernel_rfl) (fun _ _ _ h => h) HS ?_ ?_ ?_; rotate_left; rfl; focus (intro w hSw; (try dsimp only at hSw); go_simp; all_goals (with_reducible rfl))
  simp only [Act.put, l_a, l_s, l_z]
  refine rg_one 9 rfl (by kernel_rfl) (by rfl) ?_
  refine rg_call 73 _ _ rfl _ Tryz.func73 (by kernel_rfl) (by kernel_rfl) [.pointer (some ⟨f, 0, none⟩), .int .i64 0, .int .i64 count, .int .u64 mark, .slice none 0 0] rfl HCO.out ?_
  rintro e w4 ⟨rfl, HS4, hkp⟩
  have HKP := Lib.hid hkp
  refine ⟨_, rfl, HS4, ?_⟩
  simp only [Act.put, l_a, l_s, l_z]
  refine rg_t 10 (v := ?_) rfl (by kernel_rfl) (fun _ _ _ h => h) HS4 ?_ ?_ ?_; rotate_left; rfl; focus (intro w hSw; (try dsimp only at hSw); go_simp; all_goals (with_reducible rfl))
  simp only [Act.put, l_a, l_s, l_z]
  refine rg_t 11 (v := ?_) rfl (by kernel_rfl) (fun _ _ _ h => h) HS4 ?_ ?_ ?_; rotate_left; rfl; focus (intro w hSw; (try dsimp only at hSw); go_simp; all_goals (with_reducible rfl))
  simp only [Act.put, l_a, l_s, l_z]
  refine wpAnyH_done (by kernel_rfl) ?_ _
  clear hkp
  go_wp2_with fail
  first | exact HKP.out | (go_ret2; exact HKP.out)
theorem commitTN_calls (w0 w : World) (T X : Nat → Prop) (f : Nat) (dv : DH) (t : Nat) (F : Pg) (kept : Root) (count had : Nat) (mark : Nat) (h : CoNo w0 w T X f dv t F kept count had mark) (hdr : (comP F 0 count mark []).2 ≠ 0 → (comP F 0 count mark []).1.fresh.length ≤ 140737488351232) :
    Calls Tryz.prog 16 #[.pointer (some ⟨t, 0, none⟩), .int .u64 mark] w (CmPost w0 w T X f dv t none kept count had (comP F 0 count mark []).1 (comP F 0 count mark []).2 none) := by
  obtain ⟨rv, kv, hb, hr, hk⟩ := h.tr.ex
  have hr : rv = .pointer none := hr
  subst hr
  obtain ⟨o, ho⟩ := hk.shape
  refine commitW_calls w f t none count mark (comP F 0 count mark []).2 _ ((commitN_calls w0 w T X f dv t F kept count had mark h).mono ?_)
  rintro e w1 ⟨rfl, hl1, hk1⟩
  have htb1 := hk1.blk hb (fun hs => hs.1 (h.low t h.tr.x))
  refine ⟨none, 0, 0, rfl, fun h0 => ⟨by rw [cell_of_block htb1]; rfl, by rw [cell_of_block htb1]; rfl, ⟨o, by rw [cell_of_block htb1, ← ho]; rfl⟩, ⟨_, by rw [cell_of_block htb1]; rfl⟩, free_of_block htb1 2, free_of_block htb1 4, fun k => ?_⟩, fun h0 => ⟨by rw [cell_of_block htb1]; rfl, ?_⟩⟩
  · have hk2 := keeps_cells2 (w1.drewN k) t 2 4 (.pointer none) (.int .i64 count)
    have hk3 : Keeps w1 (((w1.drewN k).setCell ⟨t, 2, none⟩ (.pointer none)).setCell ⟨t, 4, none⟩ (.int .i64 count)) (· = t) := ((Keeps.refl w1 _).drewN k).trans hk2
    have htb2 : (((w1.drewN k).setCell ⟨t, 2, none⟩ (.pointer none)).setCell ⟨t, 4, none⟩ (.int .i64 count)).heap[t]? = some (.cells (treeA f (.pointer none) (.pointer none) count count) 93 (0, 0)) := blk_setCell (blk_setCell (show (w1.drewN k).heap[t]? = _ from htb1) 2 _) 4 _
    refine ⟨by rw [h0], ?_, (hk1.mono (fun _ _ h => .inr h)).then hk3 (fun i _ e => .inl (by have e' : i = t := e; subst e'; exact h.tr.x)), fun _ => ⟨h.tr.x, _, _, htb2, rfl, rfl⟩, fun h9 => absurd h0 h9⟩
    rw [if_pos h0]
    refine hl1.step hk3 (fun i e => ?_) (fun i hi => .inl hi) (fun i hi => ?_)
    · have e' : i = t := e
      subst e'
      exact ⟨h.low _ h.tr.x, h.top _ (h.low _ h.tr.x)⟩
    · obtain ⟨bu, fv, _, _, h3, _⟩ := hl1
      exact Nat.lt_of_lt_of_le (h3 i hi) hk3.size
  · refine (l_drop hl1 (hdr h0)).mono ?_
    rintro e w2 ⟨rfl, hl2, hk2⟩
    have hkA := hk1.trans hk2
    refine ⟨rfl, fun _ w' => w' = w2, rfl, Nat.zero_le _, fun q wr hq => absurd hq (Nat.not_lt_zero _), fun wr hr => ?_⟩
    subst hr
    refine ⟨rfl, by rw [if_neg h0]; exact hl2, hkA.mono (fun i _ hi => .inr hi), fun h9 => absurd h9 h0, fun _ => h.tr.kept hkA (fun i hi _ hx => hi.1 (h.low i hx))⟩
end Go.Proofs.YtblpkifkaoaicaaGreat

namespace Go.Proofs.YtblpkifkaoaicaaGreat
open Go Go.RowKit Go.Maps Wb

theorem idsN_eq : ∀ (d : Nat) (n : Nd d), idsN d n = idsW d n
  | 0, _ => rfl
  | d + 1, n => by
    show n.1 :: (n.2.map fun r => idsN d (kidR r)).flatten = n.1 :: (n.2.map fun r => idsW d (kidR r)).flatten
    rw [List.map_congr_left (fun r _ => idsN_eq d (kidR r))]
theorem idsR_eq (t : Root) : idsR t = idsT t := by
  match t with
  | none => rfl
  | some ⟨d, n⟩ => exact idsN_eq d n
theorem sortN_perm (zs : List Int) : (sortN zs).Perm zs := List.mergeSort_perm _ _
theorem sortN_sorted (zs : List Int) : (sortN zs).Pairwise (· ≤ ·) := by
  have := List.pairwise_mergeSort (le := fun (x y : Int) => decide (x ≤ y)) (fun a b c h1 h2 => by simp only [decide_eq_true_eq] at *; omega) (fun a b => by simp only [Bool.or_eq_true, decide_eq_true_eq]; omega) zs
  exact this.imp (fun h => by simpa using h)
theorem nI_mem {l : List Nat} {x : Nat} : (x : Int) ∈ nI l ↔ x ∈ l := by
  unfold nI
  constructor
  · intro h
    obtain ⟨y, hy, e⟩ := List.mem_map.1 h
    obtain rfl : y = x := by omega
    exact hy
  · exact fun h => List.mem_map.2 ⟨x, h, rfl⟩
theorem sortN_mem {l : List Nat} {x : Nat} : (x : Int) ∈ sortN (nI l) ↔ x ∈ l := by rw [(sortN_perm _).mem_iff, nI_mem]
theorem rising_sort {F : Pg} {l : List Nat} (hn : l.Nodup) (hp : ∀ x ∈ l, 2 ≤ x ∧ x < pagesOf F.d) : Rising F (sortN (nI l)) := by
  have hn' : (sortN (nI l)).Nodup := by
    rw [(sortN_perm _).nodup_iff]
    unfold nI List.Nodup
    rw [List.pairwise_map]
    exact hn.imp (fun h e => h (by omega))
  intro j x hj
  refine ⟨?_, fun y h0 hy => ?_⟩
  · have hm := List.mem_of_getElem? hj
    rw [(sortN_perm _).mem_iff] at hm
    obtain ⟨z, hz, e⟩ := List.mem_map.1 hm
    obtain ⟨h1, h2⟩ := hp z hz
    subst e
    unfold isPg
    simp only [Bool.and_eq_true, decide_eq_true_eq]
    omega
  · have hjl := (List.getElem?_eq_some_iff.1 hj).1
    have h1 := List.pairwise_iff_getElem.1 (sortN_sorted (nI l)) (j - 1) j (by omega) hjl (by omega)
    have h2 := List.pairwise_iff_getElem.1 hn' (j - 1) j (by omega) hjl (by omega)
    rw [(List.getElem?_eq_some_iff.1 hj).2, (List.getElem?_eq_some_iff.1 hy).2] at h1 h2
    have h2 : y ≠ x := h2
    omega
/-- A tree over its file. -/
structure TS (m P g : Nat) (F : Pg) (root kept : Root) : Prop where
  fr : FR m P (nodesT kept) g F
  us : ∀ j, F.used j = true ↔ j ∈ idsT kept
  fresh : F.fresh = []
  ok : RootOk root
  okk : RootOk kept
  her : herT root
  nz : (nzT root).Nodup ∧ ∀ x ∈ nzT root, x ∈ idsT kept
  fullk : fullT kept
  nodk : (idsT kept).Nodup
theorem pgOk_of : ∀ {d : Nat} {n : Nd d}, (∀ x ∈ nzN d n, 2 ≤ x ∧ x ≤ 4294967295) → pgOk d n
  | 0, n, h => by
    by_cases hz : n.1 = 0
    · exact .inl hz
    · exact .inr (h n.1 (by show n.1 ∈ (if n.1 = 0 then [] else [n.1]); rw [if_neg hz]; simp))
  | d + 1, n, h => by
    refine ⟨?_, fun r hr => pgOk_of (fun x hx => h x (List.mem_append_right _ (List.mem_flatten.2 ⟨_, List.mem_map.2 ⟨r, hr, rfl⟩, hx⟩)))⟩
    by_cases hz : n.1 = 0
    · exact .inl hz
    · exact .inr (h n.1 (List.mem_append_left _ (by rw [if_neg hz]; simp)))
theorem fullT_her {t : Root} (h : fullT t) : herT t := by
  match t, h with
  | none, _ => trivial
  | some ⟨d, n⟩, h => exact full_her h
theorem fullT_nz {t : Root} (h : fullT t) : nzT t = idsT t := by
  match t, h with
  | none, _ => rfl
  | some ⟨d, n⟩, h => exact full_nz h
namespace TS
variable {m P g : Nat} {F : Pg} {root kept : Root}
theorem put (h : TS m P g F root kept) {k v : Nm} (hk : keyOk k) (hv : v.length ≤ 20) : TS m P g F (putT root k v) kept := by
  obtain ⟨h1, h2⟩ := putT_fr h.her k v
  exact ⟨h.fr, h.us, h.fresh, (putT_ok h.ok hk hv).1, h.okk, h2, ⟨h1.nodup h.nz.1, fun x hx => h.nz.2 x (h1.subset hx)⟩, h.fullk, h.nodk⟩
theorem pg {d : Nat} {n : Nd d} (h : TS m P g F (some ⟨d, n⟩) kept) (hP : P ≤ 100000) : pgOk d n := by
  refine pgOk_of (fun x hx => ?_)
  obtain ⟨U, _, hus⟩ := h.fr.us
  obtain ⟨_, h1, h2⟩ := hus x ((h.us x).2 (h.nz.2 x hx))
  have := h.fr.pages
  omega
theorem inv {d : Nat} {n : Nd d} (_h : TS m P g F (some ⟨d, n⟩) kept) (hm : 8 * P ≤ m) (hP : P ≤ 12500) (hr : nodesT kept + nodesN d n + 2 ≤ P) : InvOk (FRi m P (nodesT kept) g (nodesN d n)) (nodesN d n) := FR.inv hm (by omega) (by omega)
theorem commit {d : Nat} {n : Nd d} (h : TS m P g F (some ⟨d, n⟩) kept) (hm : 8 * P ≤ m) (hP : P ≤ 12500) (hr : nodesT kept + nodesN d n + 2 ≤ P) (hg : g + 1 < 2 ^ 64) {count mark : Nat} (hc : count ≤ 4611686018427387904) (hmk : mark < 2 ^ 64) :
    (wrN d F n).2.2 = 0 ∧ (wrN d F n).1.dead = false ∧ ComOk (wrN d F n).1 ((wrN d F n).2.1.1 : Nat) count mark (sortN (nI (idsN d (wrN d F n).2.1))) ∧ (coM d n F count mark).2 = 0 ∧ TS m P (g + 1) (coM d n F count mark).1 (some ⟨d, (wrN d F n).2.1⟩) (some ⟨d, (wrN d F n).2.1⟩) := by
  have hI := h.inv hm hP hr
  have hpg := h.pg (by omega)
  have hi : FRi m P (nodesT kept) g (nodesN d n) 0 F := ⟨h.fr, Nat.zero_le _⟩
  obtain ⟨w1, w2, news, w3⟩ := wrN_good hI (fun i F b hF hi => by
    obtain ⟨h1, h2, h3, h4, _⟩ := hF.1.put hm (by omega) b
    exact ⟨h4, h1⟩) hi (by omega) hpg h.ok.2.1 h.her
  obtain ⟨⟨j, hj, hij⟩, _, _⟩ := wrN_inv hI hi (by omega) hpg h.ok.2.1 w1
  obtain ⟨G, hG⟩ : ∃ G, G = (wrN d F n).1 := ⟨_, rfl⟩
  obtain ⟨n', hn'⟩ : ∃ n', n' = (wrN d F n).2.1 := ⟨_, rfl⟩
  have hal : Wb.Alike n' n := by rw [hn']; exact wrN_alike F n
  have hco : coM d n F count mark = comP G (n'.1 : Nat) count mark (sortN (nI (idsN d n'))) := by unfold coM; rw [if_pos w1, hG, hn']
  rw [← hn'] at w2 w3 ⊢
  rw [← hG] at w3 hij ⊢
  rw [hco]
  have hfr := hij.1
  obtain ⟨U, _, hus⟩ := hfr.us
  have hnod : (idsW d n').Nodup := by
    rw [w3.perm.nodup_iff, List.nodup_append]
    refine ⟨h.nz.1, w3.nodup, fun a ha b hb e => ?_⟩
    subst e
    have h1 := (h.us a).2 (h.nz.2 a ha)
    rw [w3.new a hb] at h1
    cases h1
  have hin : ∀ x ∈ idsW d n', 2 ≤ x ∧ x < pagesOf G.d := fun x hx => by
    rw [w3.perm.mem_iff, List.mem_append] at hx
    have : G.used x = true := by
      rw [w3.used]
      exact hx.imp (fun hx => (h.us x).2 (h.nz.2 x hx)) id
    exact (hus x this).2
  have hhead : n'.1 ∈ idsW d n' := by
    cases d with
    | zero => show n'.1 ∈ [n'.1]; simp
    | succ d => exact List.mem_cons_self ..
  have hcm : commitOk G (n'.1 : Nat) count (sortN (nI (idsN d n'))) := ⟨by rw [idsN_eq]; exact rising_sort hnod hin, .inr (by rw [idsN_eq]; exact sortN_mem.2 hhead), by omega, by omega⟩
  obtain ⟨ss, pgs, f1, f2, f3⟩ := hfr.ss
  have hpP := hfr.pages
  have hgen := hfr.gen
  obtain ⟨D', c1, c2, c3⟩ := commit_ok (mark := mark) f1 (by omega) hcm (by omega) hmk
  have hcp : comP G (n'.1 : Nat) count mark (sortN (nI (idsN d n'))) = (keepP { G with d := D', mt := nextMt G (n'.1 : Nat) count mark } (sortN (nI (idsN d n'))), 0) := by unfold comP; rw [c1, if_pos rfl]
  have hused : ∀ j, keptU (sortN (nI (idsN d n'))) j = true ↔ j ∈ idsW d n' := fun j => by
    unfold keptU
    rw [decide_eq_true_eq, idsN_eq]
    exact sortN_mem
  rw [hcp]
  have hfl : (some ⟨d, n'⟩ : Root) = some ⟨d, n'⟩ := rfl
  have hok' : RootOk (some ⟨d, n'⟩) := by
    obtain ⟨k1, k2, k3⟩ := h.ok
    have hal' : Wb.Alike n n' := Eq.symm hal
    refine ⟨hal'.ord k1, hal'.fit k2, ?_⟩
    have hl := hal.len
    rcases k3 with k3 | k3
    · refine .inl ⟨k3.1, fun e => k3.2 (List.eq_nil_of_length_eq_zero (by rw [← hl, e]; rfl))⟩
    · exact .inr (by omega)
  have hfull : fullT (some ⟨d, n'⟩) := w2
  refine ⟨w1, f1.dead, ⟨hcm, by omega, hmk, fun _ => by rw [c1]; exact c2⟩, rfl, ⟨?_, hused, rfl, hok', hok', fullT_her hfull, ⟨by rw [fullT_nz hfull]; exact hnod, fun x hx => by rw [fullT_nz hfull] at hx; exact hx⟩, hfull, hnod⟩⟩
  refine ⟨⟨_, pgs, c3, by rw [List.length_set]; exact f2, f3⟩, ⟨idsW d n', by rw [idsW_len]; exact Nat.le_refl _, fun j hj => ?_⟩, Nat.zero_le _, ?_⟩
  · have hj : j ∈ idsW d n' := (hused j).1 hj
    refine ⟨hj, (hin j hj).1, ?_⟩
    show j < pagesOf D'
    rw [c2]
    exact (hin j hj).2
  · show G.mt.gen + 1 ≤ g + 1
    omega
theorem commitN (h : TS m P g F none kept) (hP : P ≤ 12500) (hg : g + 1 < 2 ^ 64) {count mark : Nat} (hc : count ≤ 4611686018427387904) (hmk : mark < 2 ^ 64) :
    F.dead = false ∧ ComOk F 0 count mark [] ∧ (comP F 0 count mark []).2 = 0 ∧ TS m P (g + 1) (comP F 0 count mark []).1 none none := by
  have hcm : commitOk F 0 count [] := ⟨fun j x hj => (by cases hj), .inl rfl, by omega, by omega⟩
  have hfr := h.fr
  obtain ⟨ss, pgs, f1, f2, f3⟩ := hfr.ss
  have hpP := hfr.pages
  have hgen := hfr.gen
  obtain ⟨D', c1, c2, c3⟩ := commit_ok (mark := mark) f1 (by omega) hcm (by omega) hmk
  have hcp : comP F 0 count mark [] = (keepP { F with d := D', mt := nextMt F 0 count mark } [], 0) := by unfold comP; rw [c1, if_pos rfl]
  rw [hcp]
  refine ⟨f1.dead, ⟨hcm, by omega, hmk, fun _ => by rw [c1]; exact c2⟩, rfl, ⟨⟨⟨_, pgs, c3, by rw [List.length_set]; exact f2, f3⟩, ⟨[], Nat.zero_le _, fun j hj => ?_⟩, Nat.zero_le _, ?_⟩, fun j => ?_, rfl, trivial, trivial, trivial, ⟨List.nodup_nil, fun x hx => by cases hx⟩, trivial, List.nodup_nil⟩⟩
  · have hj : keptU [] j = true := hj
    simp [keptU] at hj
  · show F.mt.gen + 1 ≤ g + 1
    omega
  · show keptU [] j = true ↔ j ∈ ([] : List Nat)
    simp [keptU]
theorem start {m P : Nat} (hm : m ≤ 100000) (h16 : 16 ≤ m) (hP : 2 ≤ P) : ∃ D', openD (Dv.new m) = (D', 0) ∧ openE (Dv.new m) = 0 ∧ (openP D').mt.root = 0 ∧ (openP D').mt.count = 0 ∧ TS m P 1 (keepP (openP D') []) none none := by
  obtain ⟨D', h1, h2, h3⟩ := room_start hm h16
  obtain ⟨ss, f1, f2⟩ := h3.ok
  refine ⟨D', h1, h2, by rw [h3.mt]; rfl, by rw [h3.mt]; rfl, ⟨⟨⟨ss, 2, ⟨f1.nd, f1.len, f1.metas, f1.mok, f1.dead⟩, by omega, hP⟩, ⟨[], Nat.zero_le _, fun j hj => ?_⟩, Nat.zero_le _, ?_⟩, fun j => ?_, rfl, trivial, trivial, trivial, ⟨List.nodup_nil, fun x hx => by cases hx⟩, trivial, List.nodup_nil⟩⟩
  · have hj : keptU [] j = true := hj
    simp [keptU] at hj
  · show (openP D').mt.gen ≤ 1
    rw [h3.mt]
    exact Nat.le_refl _
  · show keptU [] j = true ↔ j ∈ ([] : List Nat)
    simp [keptU]
end TS
end Go.Proofs.YtblpkifkaoaicaaGreat

namespace Go.Proofs.YtblpkifkaoaicaaGreat
open Go Go.RowKit Go.Maps Wb

/-- A tree over its file; S: all blocks of theirs. -/
structure Tr (w0 w : World) (f : Nat) (dv : DH) (S : Nat → Prop) (F : Pg) (t : Nat) (root kept : Root) (count had : Nat) : Prop where
  ex : ∃ bu fv T, isFile w ⟨f, dv, bu, fv, 0⟩ F ∧ (∀ i, FH.S ⟨f, dv, bu, fv, 0⟩ i → S i ∧ ¬ T i) ∧ (∀ i, T i → S i) ∧ isTree w T t f root kept count had
  low : ∀ i, S i → w0.heap.size ≤ i ∧ i < w.heap.size
  base : Keeps w0 w (fun _ => False)
/-- .. behind a call. -/
def TrTo (w0 w w' : World) (f : Nat) (dv : DH) (S : Nat → Prop) (F : Pg) (t : Nat) (root kept : Root) (count had : Nat) : Prop :=
  ∃ S', Tr w0 w' f dv S' F t root kept count had ∧ (∀ i, S i → S' i) ∧ (∀ i, S' i → S i ∨ w.heap.size ≤ i) ∧ Keeps w w' S
namespace Tr
variable {w0 w w' : World} {f : Nat} {dv : DH} {S : Nat → Prop} {F : Pg} {t : Nat} {root kept : Root} {count had : Nat}
theorem kept' (h : Tr w0 w f dv S F t root kept count had) {Z : Nat → Prop} (hk : Keeps w w' Z) (hZ : ∀ i, Z i → ¬ S i ∧ w0.heap.size ≤ i) : Tr w0 w' f dv S F t root kept count had := by
  obtain ⟨bu, fv, T, h1, h2, h3, h4⟩ := h.ex
  exact ⟨⟨bu, fv, T, h1.kept hk (fun i hs hi => (hZ i hs).1 (h2 i hi).1), h2, h3, h4.kept hk (fun i hi _ hx => (hZ i hi).1 (h3 i hx))⟩, fun i hi => ⟨(h.low i hi).1, Nat.lt_of_lt_of_le (h.low i hi).2 hk.size⟩, h.base.then hk (fun i hi hz => absurd (hZ i hz).2 (Nat.not_le.2 hi))⟩
theorem new (h : Tr w0 w f dv S F t root kept count had) (hk : Keeps w w' (fun _ => False)) : Tr w0 w' f dv S F t root kept count had := h.kept' hk (fun _ h => h.elim)
theorem tree (h : Tr w0 w f dv S F t root kept count had) : ∃ T, isTree w T t f root kept count had := by
  obtain ⟨bu, fv, T, h1, h2, h3, h4⟩ := h.ex
  exact ⟨T, h4⟩
theorem dev (h : Tr w0 w f dv S F t root kept count had) : isDev w dv F.d := by
  obtain ⟨bu, fv, T, h1, h2, h3, h4⟩ := h.ex
  exact h1.dev
theorem start (h : Tr w0 w f dv S F t root kept count had) {w1 : World} (hb : Keeps w1 w0 (fun _ => False)) : Tr w1 w f dv S F t root kept count had :=
  ⟨h.ex, fun i hi => ⟨Nat.le_trans hb.size (h.low i hi).1, (h.low i hi).2⟩, hb.then h.base (fun _ _ h => h)⟩
/-- The tree's own set, and all that is no block of the file. -/
theorem law (h : Tr w0 w f dv S F t root kept count had) : ∃ T X, Law9 w0 w f dv F X ∧ (∀ i, X i → w0.heap.size ≤ i) ∧ (∀ i, T i → X i) ∧ (∀ i, T i → S i) ∧ isTree w T t f root kept count had ∧
    ∀ w' (Fn : Pg) root' kept' count' had', Law9 w0 w' f dv Fn X → Keeps w w' (fun i => T i ∨ Apart w0 X i) → isTree w' T t f root' kept' count' had' → TrTo w0 w w' f dv S Fn t root' kept' count' had' := by
  obtain ⟨bu, fv, T, h1, h2, h3, h4⟩ := h.ex
  refine ⟨T, fun i => w0.heap.size ≤ i ∧ i < w.heap.size ∧ ¬ FH.S ⟨f, dv, bu, fv, 0⟩ i, ⟨bu, fv, h1, fun i hi => ⟨fun hx => hx.2.2 hi, (h.low i (h2 i hi).1).1⟩, fun i hi => hi.2.1, h.base⟩, fun i hi => hi.1, fun i hi => ⟨(h.low i (h3 i hi)).1, (h.low i (h3 i hi)).2, fun hs => (h2 i hs).2 hi⟩, h3, h4, ?_⟩
  intro w' Fn root' kept' count' had' hl hk ht
  obtain ⟨bu', fv', k1, k2, k3, k4⟩ := hl
  have hin : ∀ i, ¬ (w0.heap.size ≤ i ∧ i < w.heap.size ∧ ¬ FH.S ⟨f, dv, bu, fv, 0⟩ i) → w0.heap.size ≤ i → FH.S ⟨f, dv, bu, fv, 0⟩ i ∨ w.heap.size ≤ i := fun i hn hi => by
    by_cases hs : FH.S ⟨f, dv, bu, fv, 0⟩ i
    · exact .inl hs
    · exact .inr (Classical.byContradiction fun h9 => hn ⟨hi, by omega, hs⟩)
  refine ⟨fun i => S i ∨ (w.heap.size ≤ i ∧ i < w'.heap.size), ⟨⟨bu', fv', T, k1, fun i hi => ?_, fun i hi => .inl (h3 i hi), ht⟩, fun i hi => ?_, k4⟩, fun i hi => .inl hi, fun i hi => hi.imp id (fun h => h.1), hk.mono (fun i hil hi => ?_)⟩
  · obtain ⟨q1, q2⟩ := k2 i hi
    rcases hin i q1 q2 with h9 | h9
    · exact ⟨.inl (h2 i h9).1, (h2 i h9).2⟩
    · exact ⟨.inr ⟨h9, k1.lt hi⟩, fun hT => by have := (h.low i (h3 i hT)).2; omega⟩
  · rcases hi with hi | hi
    · exact ⟨(h.low i hi).1, Nat.lt_of_lt_of_le (h.low i hi).2 hk.size⟩
    · exact ⟨Nat.le_trans h.base.size hi.1, hi.2⟩
  · rcases hi with hi | hi
    · exact h3 i hi
    · rcases hin i hi.1 hi.2 with h9 | h9
      · exact (h2 i h9).1
      · omega
end Tr
theorem TrTo.keep {w0 w w' : World} {f : Nat} {dv : DH} {S : Nat → Prop} {F : Pg} {t : Nat} {root kept : Root} {count had : Nat} (h : TrTo w0 w w' f dv S F t root kept count had) : Keeps w w' S := by
  obtain ⟨S', _, _, _, hk⟩ := h
  exact hk
section
variable {w0 w w' : World} {f : Nat} {dv : DH} {S : Nat → Prop} {F : Pg} {t : Nat} {root kept : Root} {count had : Nat}
theorem tr_put (h : Tr w0 w f dv S F t root kept count had) (hok : RootOk root) (hc : count ≤ 1000000) {k v : Nm} (hk : keyOk k) (hv : v.length ≤ 20) :
    Calls Tryz.prog 13 #[.pointer (some ⟨t, 0, none⟩), .string (bs k), .string (bs v)] w fun e w' => e = .returned (.int .i64 0) ∧ TrTo w0 w w' f dv S F t (putT root k v) kept (count + if hasM (flatT root) k = true then 0 else 1) had := by
  obtain ⟨bu, fv, T, h1, h2, h3, h4⟩ := h.ex
  refine (treePut_calls w (fun i => T i ∨ w.heap.size ≤ i) (fun i hi => .inr hi) t f root kept count had (h4.mono (fun i _ hi => .inl hi)) hok hc k v hk hv).mono ?_
  rintro e w' ⟨rfl, ht, hk'⟩
  have htS : S t := h3 t h4.x
  refine ⟨rfl, fun i => S i ∨ (w.heap.size ≤ i ∧ i < w'.heap.size), ⟨⟨bu, fv, fun i => (T i ∨ w.heap.size ≤ i) ∧ i < w'.heap.size, h1.kept hk' (fun i e hi => ?_), fun i hi => ⟨.inl (h2 i hi).1, fun hT => ?_⟩, fun i hi => ?_, ht.mono (fun i hil hi => ⟨hi, hil⟩)⟩, fun i hi => ?_, h.base.then hk' (fun i hi e => ?_)⟩, fun i hi => .inl hi, fun i hi => hi.imp id (fun h => h.1), hk'.mono (fun i _ e => ?_)⟩
  · have e' : i = t := e
    subst e'
    exact (h2 _ hi).2 h4.x
  · rcases hT.1 with h9 | h9
    · exact (h2 i hi).2 h9
    · have := h1.lt hi; omega
  · rcases hi.1 with h9 | h9
    · exact .inl (h3 i h9)
    · exact .inr ⟨h9, hi.2⟩
  · rcases hi with hi | hi
    · exact ⟨(h.low i hi).1, Nat.lt_of_lt_of_le (h.low i hi).2 hk'.size⟩
    · exact ⟨Nat.le_trans h.base.size hi.1, hi.2⟩
  · have e' : i = t := e
    subst e'
    have := (h.low _ htS).1
    omega
  · have e' : i = t := e
    subst e'
    exact htS
theorem tr_get (h : Tr w0 w f dv S F t root kept count had) (hok : RootOk root) (k : Nm) : Calls Tryz.prog 22 #[.pointer (some ⟨t, 0, none⟩), .string (bs k)] w (Quiet w (getV (flatT root) k)) := by
  obtain ⟨T, ht⟩ := h.tree
  exact get_calls w T t f root kept count had ht hok k
theorem tr_count (h : Tr w0 w f dv S F t root kept count had) : Calls Tryz.prog 18 #[.pointer (some ⟨t, 0, none⟩)] w fun e w' => e = .returned (.int .i64 count) ∧ w = w' := by
  obtain ⟨T, ht⟩ := h.tree
  exact count_calls w T t f root kept count had ht
theorem tr_high (h : Tr w0 w f dv S F t root kept count had) (hok : RootOk root) (hh : highR root ≤ 1000000) : Calls Tryz.prog 19 #[.pointer (some ⟨t, 0, none⟩)] w fun e w' => e = .returned (.int .i64 (highR root)) ∧ w = w' := by
  obtain ⟨T, ht⟩ := h.tree
  exact high_calls w T t f root kept count had ht hok hh
theorem tr_pages (h : Tr w0 w f dv S F t root kept count had) (hok : RootOk kept) (hb : (idsR kept).length ≤ 1000000) : Calls Tryz.prog 20 #[.pointer (some ⟨t, 0, none⟩)] w (PagesPost w (idsR kept)) := by
  obtain ⟨T, ht⟩ := h.tree
  exact treePages_calls w T t f root kept count had ht hok hb
theorem tr_rows (h : Tr w0 w f dv S F t root kept count had) (hok : RootOk root) (k : Nm) (nI : Int) (n : Nat) (hn : n = nI.toNat) (hb : (flatT root).length ≤ 1000000) : Calls Tryz.prog 21 #[.pointer (some ⟨t, 0, none⟩), .string (bs k), .int .i64 nI] w (TRows w (rowsOut (flatT root) k n)) := by
  obtain ⟨T, ht⟩ := h.tree
  exact rows_calls w T t f root kept count had ht hok k nI n hn hb
theorem blocksB_len {w : World} {X : Nat → Prop} : ∀ {d : Nat} {n : Nd d} {t : Bt d}, isKB w X d n t → (blocksB d t).length = nodesN d n
  | 0, n, t, _ => rfl
  | d + 1, n, t, ⟨rs, h1, h2, h3, h4⟩ => by
    show (rootB t :: ((kidsB t).map fun x => blocksB d x).flatten).length = 1 + (n.2.map fun r => nodesN d (kidR r)).sum
    rw [List.length_cons, List.length_flatten, List.map_map, Nat.add_comm]
    congr 2
    apply List.ext_getElem?
    intro i
    rw [List.getElem?_map, List.getElem?_map]
    by_cases hi : i < n.2.length
    · have hr : n.2[i]? = some n.2[i] := List.getElem?_eq_getElem hi
      have hx : (kidsB t)[i]? = some ((kidsB t)[i]'(by omega)) := List.getElem?_eq_getElem _
      rw [hr, hx, Option.map_some, Option.map_some]
      exact congrArg some (blocksB_len (h4 i _ _ hr hx))
    · rw [List.getElem?_eq_none (by omega), List.getElem?_eq_none (by omega)]
      rfl
theorem nodes_bare : ∀ (d : Nat) (n : Nd d), nodesN d (0, bareL d n.2) = nodesN d n
  | 0, _ => rfl
  | d + 1, n => by
    show 1 + ((n.2.map (bareR (d + 1))).map fun r => nodesN d (kidR r)).sum = 1 + (n.2.map fun r => nodesN d (kidR r)).sum
    rw [List.map_map]
    congr 2
    apply List.map_congr_left
    intro r _
    exact nodes_bare d (kidR r)
theorem nodes_alike {d : Nat} {n m : Nd d} (h : Wb.Alike n m) : nodesN d n = nodesN d m := by
  rw [← nodes_bare d n, ← nodes_bare d m]
  rw [show bareL d n.2 = bareL d m.2 from h]
/-- What a commit that has room leaves. -/
theorem tr_commit {m P g mark : Nat} (h : Tr w0 w f dv S F t root kept count had) (ts : TS m P g F root kept) (hm : 8 * P ≤ m) (hP : P ≤ 12500) (hr : nodesT kept + nodesT root + 2 ≤ P) (hg : g + 1 < 2 ^ 64) (hc : count ≤ 4611686018427387904) (hmk : mark < 2 ^ 64) :
    Calls Tryz.prog 16 #[.pointer (some ⟨t, 0, none⟩), .int .u64 mark] w fun e w' => e = .returned (.int .i64 0) ∧ ∃ Fn root', TrTo w0 w w' f dv S Fn t root' root' count count ∧ TS m P (g + 1) Fn root' root' ∧ flatT root' = flatT root ∧ nodesT root' ≤ 2 * (flatT root).length ∧ highR root' = highR root := by
  obtain ⟨T, X, hl, htop, hTX, hTS, htr, hto⟩ := h.law
  match root, ts, hr, htr with
  | none, ts, hr, htr =>
    obtain ⟨c1, c2, c3, c4⟩ := ts.commitN hP hg hc hmk
    refine (commitTN_calls w0 w T X f dv t F kept count had mark ⟨hl, htop, hTX, htr, c1, c2⟩ (fun h9 => absurd c3 h9)).mono ?_
    rintro e w' ⟨rfl, k1, k2, k3, _⟩
    rw [c3, if_pos rfl] at k1
    exact ⟨by rw [c3], _, none, hto _ _ _ _ _ _ k1 k2 (k3 c3), c4, rfl, Nat.zero_le _, rfl⟩
  | some ⟨d, n⟩, ts, hr, htr =>
    have hr' : nodesT kept + nodesN d n + 2 ≤ P := hr
    obtain ⟨c1, c2, c3, c4, c5⟩ := ts.commit (count := count) (mark := mark) hm hP hr' hg hc hmk
    obtain ⟨rv, kv, hb, ⟨b, hv, hkb⟩, hkk⟩ := htr.ex
    obtain ⟨tr, htb, hkb⟩ := hkb.kb
    subst hv
    have hkT : isKB w T d n tr := hkb.mono (fun i _ hi => hi.1)
    have hI := ts.inv hm hP hr'
    have hok := ts.ok
    have hpo := put_ok (w0 := w0) (dv := dv) hI htr.x hb rfl (F := F) (i := 0) hkT hok.1 hok.2.1 (by
      rcases hok.2.2 with h9 | h9
      · exact h9.2
      · intro e; rw [e] at h9; simp at h9) (ts.pg (by omega)) ⟨ts.fr, Nat.zero_le _⟩ (by omega)
    have hfew := nodesT_few c5.ok
    have hal : flat d (wrN d F n).2.1.2 = flat d n.2 := (wrN_alike F n).flat
    have hid : (idsN d (wrN d F n).2.1).length = nodesN d (wrN d F n).2.1 := by rw [idsN_eq, idsW_len]
    have hbl := blocksB_len hkT
    have hnn : nodesN d (wrN d F n).2.1 ≤ 1000000 := by
      rw [nodes_alike (wrN_alike F n)]
      omega
    have hco : CoOk w0 w T X f dv t kv d n tr F count had mark := by
      refine ⟨hl, htop, hTX, htr.x, by rw [htb]; exact hb, hkT, hok.2.1, hpo, ⟨by rw [hbl]; omega, by rw [hid]; exact hnn⟩, ts.fr.dead, fun _ => ⟨c2, c3⟩⟩
    refine (commitT_calls w0 w T X f dv t kv d n tr F kept count had mark hco htr (fun h9 => absurd c4 h9) (fun _ => c1)).mono ?_
    rintro e w' ⟨rfl, k1, k2, k3, _⟩
    rw [c4, if_pos rfl] at k1
    refine ⟨by rw [c4], _, some ⟨d, (wrN d F n).2.1⟩, hto _ _ _ _ _ _ k1 k2 (k3 c4), c5, hal, ?_, rfl⟩
    have : flatT (some ⟨d, (wrN d F n).2.1⟩) = flat d n.2 := hal
    rw [this] at hfew
    exact hfew
end
end Go.Proofs.YtblpkifkaoaicaaGreat

namespace Go.Proofs.YtblpkifkaoaicaaGreat
open Go Go.RowKit Go.Maps Wb

theorem tr_begin {w0 w' : World} {f : Nat} {dv : DH} {F : Pg} {t : Nat} (hl : Law9 w0 w' f dv F (fun i => False ∨ i = t)) (ht : w'.heap[t]? = some (.cells (treeA f (.pointer none) (.pointer none) 0 0) 93 (0, 0))) (hlo : w0.heap.size ≤ t) : ∃ S, Tr w0 w' f dv S F t none none 0 0 := by
  obtain ⟨bu, fv, h1, h2, h3, h4⟩ := hl
  refine ⟨fun i => FH.S ⟨f, dv, bu, fv, 0⟩ i ∨ i = t, ⟨bu, fv, (· = t), h1, fun i hi => ⟨.inl hi, fun e => (h2 i hi).1 (.inr e)⟩, fun i e => .inr e, rfl, _, _, ht, rfl, rfl⟩, fun i hi => ?_, h4⟩
  rcases hi with hi | hi
  · exact ⟨(h2 i hi).2, h1.lt hi⟩
  · subst hi
    exact ⟨hlo, lt_of_blk ht⟩
set_option maxRecDepth 100000 in
set_option maxHeartbeats 2000000 in
theorem opened_none (w0 w : World) (m P : Nat) (hm : m ≤ 100000) (h16 : 16 ≤ m) (hP : 2 ≤ P) (h : DH) (hd : isDev w h (Dv.new m)) (hS : ∀ i, h.S i → w0.heap.size ≤ i) (hk : Keeps w0 w (fun _ => False)) :
    Calls Tryz.prog 28 #[.pointer (some ⟨h.p, 0, none⟩)] w fun e w' => ∃ t f S F, e = .returned (.pointer (some ⟨t, 0, none⟩)) ∧ Tr w0 w' f h S F t none none 0 0 ∧ TS m P 1 F none none := by
  obtain ⟨D1, E1, E2, E3, E4, E5⟩ := TS.start hm h16 hP
  have H5 := Lib.hid E5
  have HO : Hid (Calls Tryz.prog 25 #[.pointer (some ⟨h.p, 0, none⟩)] w fun e w1 => ∃ f, e = .returned (.tuple #[.pointer (some ⟨f, 0, none⟩), .int .i64 0]) ∧ Calls Tryz.prog 33 #[.pointer (some ⟨f, 0, none⟩)] w1 fun e w' => ∃ t, e = .returned (.tuple #[.pointer (some ⟨t, 0, none⟩), .int .i64 0]) ∧ ∃ S, Tr w0 w' f h S (keepP (openP D1) []) t none none 0 0) := Lib.hid (by
    refine l_open (w0 := w0) (X := fun _ => False) hd (openE_files _) E1 E2 (fun _ h => h.elim) hS hk fun f w2 hL2 hk2 => ?_
    refine ⟨f, rfl, ?_⟩
    refine (openNone_calls w0 w2 f h _ _ hL2 E3 E4).mono ?_
    rintro e w3 ⟨t, rfl, h1, h2, h3, h4⟩
    exact ⟨t, rfl, tr_begin h3 h2 (Nat.le_trans hL2.keeps.size h1)⟩)
  clear hd hS hk E1 E2 E3 E4 E5 hm h16 hP
  go_enter Tryz.func28, Tryz.ntmps28
  go_wp2_with fail
  refine HO.out.mono ?_
  rintro e w1 ⟨f, rfl, ho⟩
  have HO2 := Lib.hid ho
  clear HO ho
  go_wp2_with fail
  refine HO2.out.mono ?_
  rintro e w2 ⟨t, rfl, S, htr⟩
  have HTR := Lib.hid htr
  clear HO2 htr
  go_wp2_with fail
  go_ret
  exact ⟨t, f, S, _, rfl, HTR.out, H5.out⟩
set_option maxRecDepth 100000 in
set_option maxHeartbeats 2000000 in
theorem fresh_calls (w0 w : World) (m P : Nat) (hm : m ≤ 100000) (h16 : 16 ≤ m) (hP : 2 ≤ P) (hk : Keeps w0 w (fun _ => False)) :
    Calls Tryz.prog 11 #[.int .i64 m] w fun e w' => ∃ (h : DH) (t f : Nat) (S : Nat → Prop) (F : Pg), e = .returned (.tuple #[.pointer (some ⟨h.p, 0, none⟩), .pointer (some ⟨t, 0, none⟩)]) ∧ Tr w0 w' f h S F t none none 0 0 ∧ TS m P 1 F none none ∧ Keeps w w' (fun _ => False) ∧ ∀ i, S i → w.heap.size ≤ i := by
  have HK := Lib.hid hk
  have HM := Lib.hid hm
  have HM6 := Lib.hid h16
  have HP := Lib.hid hP
  clear hk hm h16 hP
  go_enter Tryz.func11, Tryz.ntmps11
  go_wp2_with fail
  refine new_any _ _ fun h w1 hd1 hk1 hS => ?_
  have HO := Lib.hid (opened_none w w1 m P HM.out HM6.out HP.out h hd1 hS hk1)
  clear hd1 hS
  go_wp2_with fail
  refine HO.out.mono ?_
  rintro e w2 ⟨t, f, S, F, rfl, htr, hts⟩
  have HPO : Hid (Tr w0 w2 f h S F t none none 0 0 ∧ TS m P 1 F none none ∧ Keeps w w2 (fun _ => False) ∧ ∀ i, S i → w.heap.size ≤ i) := Lib.hid ⟨htr.start HK.out, hts, htr.base, fun i hi => (htr.low i hi).1⟩
  clear htr hts HO hk1
  go_wp2_with fail
  first | exact ⟨h, t, f, S, F, rfl, HPO.out⟩ | (go_ret2; exact ⟨h, t, f, S, F, rfl, HPO.out⟩)
end Go.Proofs.YtblpkifkaoaicaaGreat

namespace Go.Proofs.YtblpkifkaoaicaaGreat
open Go Go.RowKit Go.Maps Wb

theorem idsR_len (t : Root) : (idsR t).length = nodesT t := by
  rw [idsR_eq]
  match t with
  | none => rfl
  | some ⟨d, n⟩ => exact idsW_len d n
theorem nodes_one {t : Root} (h : highR t = 1) : nodesT t = 1 := by
  match t, h with
  | some ⟨0, n⟩, _ => rfl
  | some ⟨d + 1, n⟩, h => exact absurd (show d + 1 + 1 = 1 from h) (by omega)
theorem putT_none (k v : Nm) (hk : keyOk k) (hv : v.length ≤ 20) : highR (putT none k v) = 1 ∧ RootOk (putT none k v) ∧ flatT (putT none k v) = [(k, v)] := by
  obtain ⟨h1, h2⟩ := putT_ok (t := none) trivial hk hv
  refine ⟨?_, h1, h2⟩
  have e : putT none k v = topR (fresh0 (splitR (putL [] k v))) := rfl
  have e2 : putL [] k v = [mkV k v] := rfl
  have e3 : splitR [mkV k v] = [[mkV k v]] := by unfold splitR; rw [if_pos (.inr (by show 1 < 4; decide))]
  rw [e, e2, e3]
  rfl
set_option maxRecDepth 100000 in
set_option maxHeartbeats 4000000 in
theorem awake11_calls (w : World) : Calls Tryz.prog 12 #[] w (Quiet w (.bool true)) := by
  have hk1 : keyOk [107] := ⟨by decide, by decide⟩
  obtain ⟨p1, p2, p3⟩ := putT_none [107] [118] hk1 (by decide)
  have hg1 : getV (flatT (putT none [107] [118])) [107] = .tuple #[.string (bs [118]), .bool true, .int .i64 0] := by rw [p3]; rfl
  have hg2 : getV (flatT (putT none [107] [118])) [120] = .tuple #[.string (bs []), .bool false, .int .i64 0] := by rw [p3]; rfl
  obtain ⟨R1, hR1⟩ : ∃ R1, R1 = putT none [107] [118] := ⟨_, rfl⟩
  rw [← hR1] at p1 p2 p3 hg1 hg2
  have HR1 := Lib.hid hR1
  have P1 := Lib.hid p1
  have P2 := Lib.hid p2
  have P3 := Lib.hid p3
  have G1 := Lib.hid hg1
  have G2 := Lib.hid hg2
  clear hR1 p1 p2 p3 hg1 hg2
  have HF := Lib.hid (fresh_calls w w 300 37 (by decide) (by decide) (by decide) (Keeps.refl _ _))
  go_enter Tryz.func12, Tryz.ntmps12
  go_wp2_with fail
  refine HF.out.mono ?_
  rintro e w1 ⟨h, t, f, S0, F0, rfl, htr, hts, hk0, hS0⟩
  have HPUT := Lib.hid (tr_put (k := [107]) (v := [118]) htr trivial (by decide) hk1 (by decide))
  have HTS : Hid (TS 300 37 1 F0 R1 none) := Lib.hid (by rw [HR1.out]; exact hts.put hk1 (by decide))
  have HK0 := Lib.hid hk0
  have HS0 := Lib.hid hS0
  clear HF htr hts hk0 hS0 hk1
  go_wp2_with fail
  refine HPUT.out.mono ?_
  rintro e w2 ⟨rfl, S1, htr1, hs1, hg1, hk1⟩
  rw [← HR1.out] at htr1
  have HGA := Lib.hid (tr_get htr1 P2.out [107])
  rw [G1.out] at HGA
  have HTR1 := Lib.hid htr1
  have HK1 : Hid (Keeps w w2 (fun _ => False) ∧ ∀ i, S1 i → w.heap.size ≤ i) := Lib.hid ⟨HK0.out.then hk1 (fun i hi hs => absurd (HS0.out i hs) (Nat.not_le.2 hi)), fun i hi => (hg1 i hi).elim (fun h => HS0.out i h) (fun h => Nat.le_trans HK0.out.size h)⟩
  clear HPUT htr1 hs1 hg1 hk1
  go_wp2_with fail
  refine HGA.out.mono ?_
  rintro e w3 ⟨rfl, hk3⟩
  have HTR3 := Lib.hid (HTR1.out.new hk3)
  have HGB := Lib.hid (tr_get HTR3.out P2.out [120])
  rw [G2.out] at HGB
  have HK3 : Hid (Keeps w w3 (fun _ => False)) := Lib.hid (HK1.out.1.trans hk3)
  clear HGA hk3
  go_wp2_with fail
  refine HGB.out.mono ?_
  rintro e w4 ⟨rfl, hk4⟩
  have HTR4 := Lib.hid (HTR3.out.new hk4)
  have HK4 : Hid (Keeps w w4 (fun _ => False)) := Lib.hid (HK3.out.trans hk4)
  have HCO := Lib.hid (tr_commit (mark := 5) HTR4.out HTS.out (by decide) (by decide) (by have h1 := nodes_one P1.out; have h2 : nodesT none = 0 := rfl; omega) (by decide) (by show (0 : Nat) + (if hasM (flatT none) [107] = true then 0 else 1) ≤ _; decide) (by decide))
  clear HGB hk4
  go_wp2_with fail
  refine HCO.out.mono ?_
  rintro e w5 ⟨rfl, F5, R5, ⟨S5, htr5, hs5, hg5, hk5⟩, hts5, hfl5, _, hhi5⟩
  have hh5 : highR R5 = 1 := hhi5.trans P1.out
  have hn5 := nodes_one hh5
  have hlen5 : (idsR R5).length = 1 := by rw [idsR_len]; exact hn5
  have HTR5 := Lib.hid htr5
  have HPG := Lib.hid (tr_pages htr5 hts5.ok (by omega))
  have HK5 : Hid (Keeps w w5 (fun _ => False)) := Lib.hid (HK4.out.then hk5 (fun i hi hs => absurd (HK1.out.2 i hs) (Nat.not_le.2 hi)))
  have HOK5 := Lib.hid hts5.ok
  have HH5 := Lib.hid hh5
  have HL5 : Hid ((sortN (nI (idsR R5))).length = 1) := Lib.hid (by rw [sortN_len]; simp [nI, hlen5])
  clear HCO htr5 hs5 hg5 hk5 hts5 hfl5 hhi5 hh5 hn5 hlen5
  go_wp2_with fail
  refine HPG.out.mono ?_
  rintro e w6 ⟨v6, rfl, ho6, hk6⟩
  obtain ⟨a6, c6, e6⟩ := isOwn.shapeN ho6
  rw [List.length_map, HL5.out] at e6
  subst e6
  have HTR6 := Lib.hid (HTR5.out.new hk6)
  have HK6 : Hid (Keeps w w6 (fun _ => False)) := Lib.hid (HK5.out.trans hk6)
  have hcn := tr_count HTR6.out
  have hct : (0 : Nat) + (if hasM (flatT none) [107] = true then 0 else 1) = 1 := by decide
  rw [hct] at hcn
  have hhg := tr_high HTR6.out HOK5.out (by rw [HH5.out]; decide)
  rw [HH5.out] at hhg
  have HCN := Lib.hid hcn
  have HHG := Lib.hid hhg
  have hbe : (bs [118]).toList = [118] := bs_toList _
  have HPN := Lib.hid (putNo_calls w6 t [] [] (by decide) (by decide) (fun h => h.1.1 rfl))
  clear ho6 hk6 hcn hct hhg HPG
  go_wp2_with (first
    | (go_at_call 18; refine HCN.out.mono ?_; rintro e w' ⟨rfl, rfl⟩)
    | (go_at_call 19; refine HHG.out.mono ?_; rintro e w' ⟨rfl, rfl⟩)
    | (go_at_call 13; refine HPN.out.mono ?_; rintro e w' ⟨rfl, rfl⟩)
    | fail)
  first | exact ⟨rfl, HK6.out⟩ | (go_ret; exact ⟨rfl, HK6.out⟩)
end Go.Proofs.YtblpkifkaoaicaaGreat
