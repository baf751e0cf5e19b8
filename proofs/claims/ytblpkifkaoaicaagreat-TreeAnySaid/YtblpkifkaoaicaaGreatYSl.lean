import Derived.Test.YtblpkifkaoaicaaGreatYKit
import Derived.Maps.AppendAt
import Derived.Laws.AppendOwnNone
import Derived.Laws.OwnMore
import Derived.OwnWalk
/-! Slices of one-cell values: read, and of the call's own. -/
namespace Wb
open Go Go.RowKit Go.Maps Go.MapKept Go.ChangeMaps
variable {P : Program} {w w' : World} {ops : Array Oper} {rest : List Oper} {o : Oper} {a : Act} {Q : Exit → Act → World → Prop}

/-- A slice that reads as vs; its block, if it has one, is ok. -/
def isVals (w : World) (ok : Nat → Prop) (v : Value) (vs : List Value) : Prop :=
  ∃ a cap, v = .slice a vs.length cap ∧ vs.length ≤ cap ∧ cap ≤ 140737488351232 ∧ (vs = [] ∨ ∃ g o, a = some ⟨g, o, none⟩ ∧ ok g ∧ g < w.heap.size ∧ ∀ j x, vs[j]? = some x → w.cell? ⟨g, o + j, none⟩ = some x)
theorem isVals.kept {ok S : Nat → Prop} {v : Value} {vs : List Value} (h : isVals w ok v vs) (hk : Keeps w w' S) (hS : ∀ i, ok i → i < w.heap.size → ¬ S i) : isVals w' ok v vs := by
  obtain ⟨a, cap, rfl, h0, h00, h⟩ := h
  refine ⟨a, cap, rfl, h0, h00, ?_⟩
  rcases h with h | ⟨g, o, rfl, h1, h2, h3⟩
  · exact .inl h
  · exact .inr ⟨g, o, rfl, h1, Nat.lt_of_lt_of_le h2 hk.size, fun j n hj => (hk.cell (p := ⟨g, o + j, none⟩) h2 (hS g h1 h2)).trans (h3 j n hj)⟩
theorem isVals.new {ok : Nat → Prop} {v : Value} {vs : List Value} (h : isVals w ok v vs) (hk : Keeps w w' (fun _ => False)) : isVals w' ok v vs := h.kept hk (fun _ _ _ h => h)
theorem isVals.drew {ok : Nat → Prop} {v : Value} {vs : List Value} (h : isVals w ok v vs) : isVals w.drew ok v vs := h
/-- A slice of the call's own (ownsRow, one cell an element). -/
abbrev isOwn (w : World) (lo : Nat) (e : TypeId) (v : Value) (vs : List Value) : Prop := w.ownsRow lo e 1 v vs.length vs
theorem isOwn_nil (w : World) (lo : Nat) (e : TypeId) : isOwn w lo e (.slice none 0 0) [] := ⟨rfl, .inl ⟨rfl, rfl⟩⟩
theorem isOwn.kept {lo : Nat} {e : TypeId} {v : Value} {vs : List Value} {S : Nat → Prop} (h : isOwn w lo e v vs) (hk : Keeps w w' S) (hS : ∀ g, v.ownBlock = some g → ¬ S g) : isOwn w' lo e v vs := by
  refine ⟨h.1, ?_⟩
  rcases h.2 with h1 | ⟨g, cap, cur, rfl, h1, h2, h3⟩
  · exact .inl h1
  · exact .inr ⟨g, cap, cur, rfl, h1, hk.blk h2 (hS g rfl), h3⟩
theorem isOwn.new {lo : Nat} {e : TypeId} {v : Value} {vs : List Value} (h : isOwn w lo e v vs) (hk : Keeps w w' (fun _ => False)) : isOwn w' lo e v vs := h.kept hk (fun _ _ h => h)
theorem isOwn.low {lo lo' : Nat} {e : TypeId} {v : Value} {vs : List Value} (h : isOwn w lo e v vs) (hl : lo' ≤ lo) : isOwn w lo' e v vs := by
  refine ⟨h.1, ?_⟩
  rcases h.2 with h1 | ⟨g, cap, cur, rfl, h1, h2, h3⟩
  · exact .inl h1
  · exact .inr ⟨g, cap, cur, rfl, Nat.le_trans hl h1, h2, h3⟩
theorem isOwn.blk {lo : Nat} {e : TypeId} {v : Value} {vs : List Value} (h : isOwn w lo e v vs) : ∀ g, v.ownBlock = some g → lo ≤ g ∧ g < w.heap.size := by
  intro g hg
  rcases h.2 with ⟨rfl, _⟩ | ⟨g', cap, cur, rfl, h1, h2, _⟩
  · cases hg
  · cases hg; exact ⟨h1, lt_of_blk h2⟩
/-- The values can be read, wherever the slice ends. -/
theorem isOwn.at {lo : Nat} {e : TypeId} {v : Value} {vs : List Value} (h : isOwn w lo e v vs) {j : Nat} {x : Value} (hj : vs[j]? = some x) : ∃ g cap, v = .slice (some ⟨g, 0, none⟩) vs.length cap ∧ vs.length ≤ cap ∧ lo ≤ g ∧ g < w.heap.size ∧ w.cell? ⟨g, j, none⟩ = some x := by
  rcases h.2 with ⟨rfl, h0⟩ | ⟨g, cap, cur, rfl, h1, h2, h3, h4, h5, h6⟩
  · have := List.eq_nil_of_length_eq_zero h0
    subst this; cases hj
  · refine ⟨g, cap, rfl, h3, h1, lt_of_blk h2, ?_⟩
    unfold World.cell?
    rw [h2]
    simp only [Nat.mul_one] at h6
    rw [← h6] at hj
    have hj2 := (List.getElem?_eq_some_iff.1 hj).1
    rw [List.getElem?_take_of_lt (by simp at hj2; omega)] at hj
    simpa using hj

/-- A slice that reads as vs, whatever its capacity. -/
def isRd (w : World) (v : Value) (vs : List Value) : Prop :=
  ∃ a cap, v = .slice a vs.length cap ∧ vs.length ≤ cap ∧ ∀ j x, vs[j]? = some x → ∃ g o, a = some ⟨g, o, none⟩ ∧ g < w.heap.size ∧ w.cell? ⟨g, o + j, none⟩ = some x
theorem isVals.rd {ok : Nat → Prop} {v : Value} {vs : List Value} (h : isVals w ok v vs) : isRd w v vs := by
  obtain ⟨a, cap, rfl, h0, h00, h⟩ := h
  refine ⟨a, cap, rfl, h0, fun j x hj => ?_⟩
  rcases h with rfl | ⟨g, o, rfl, h1, h2, h3⟩
  · cases hj
  · exact ⟨g, o, rfl, h2, h3 j x hj⟩
theorem isOwn.rd {lo : Nat} {e : TypeId} {v : Value} {vs : List Value} (h : isOwn w lo e v vs) : isRd w v vs := by
  have hat := @isOwn.at w lo e v vs h
  rcases h.2 with ⟨rfl, h0⟩ | ⟨g, cap, cur, rfl, h1, h2, h3, h4, h5, h6⟩
  · have := List.eq_nil_of_length_eq_zero h0
    subst this
    exact ⟨none, 0, rfl, Nat.le_refl _, fun j x hj => by cases hj⟩
  · refine ⟨_, cap, rfl, h3, fun j x hj => ?_⟩
    obtain ⟨g', cap', he, _, _, h7, h8⟩ := hat hj
    cases he
    exact ⟨g, 0, rfl, h7, by simpa using h8⟩
theorem isRd.kept {S : Nat → Prop} {v : Value} {vs : List Value} (h : isRd w v vs) (hk : Keeps w w' S) (hS : ∀ g, v.ownBlock = some g → ¬ S g) : isRd w' v vs := by
  obtain ⟨a, cap, rfl, h0, h⟩ := h
  refine ⟨a, cap, rfl, h0, fun j x hj => ?_⟩
  obtain ⟨g, o, rfl, h1, h2⟩ := h j x hj
  exact ⟨g, o, rfl, Nat.lt_of_lt_of_le h1 hk.size, (hk.cell (p := ⟨g, o + j, none⟩) h1 (hS g rfl)).trans h2⟩
theorem isRd.new {v : Value} {vs : List Value} (h : isRd w v vs) (hk : Keeps w w' (fun _ => False)) : isRd w' v vs := h.kept hk (fun _ _ h => h)

theorem isOwn.nilcap {lo : Nat} {e : TypeId} {v : Value} {vs : List Value} (h : isOwn w lo e v vs) : ∀ cap, v = .slice none 0 cap → cap = 0 := by
  intro cap hv
  rcases h.2 with ⟨rfl, h0⟩ | ⟨g', cap', cur, rfl, _⟩
  · cases hv; rfl
  · cases hv

theorem info_parts' {e : TypeId} {z : Value} {s by1 : Nat} (h : (P.info? e).map (fun i => (i.zero, i.size, i.bytes)) = some (some z, s, by1)) : ∃ i, P.info? e = some i ∧ i.zero = some z ∧ i.size = s ∧ i.bytes = by1 := by
  cases hi : P.info? e with
  | none => rw [hi] at h; cases h
  | some i =>
    rw [hi] at h
    simp only [Option.map_some, Option.some.injEq, Prod.mk.injEq] at h
    exact ⟨i, rfl, h.1, h.2.1, h.2.2⟩

/-- What an append leaves. -/
def Appended (w : World) (lo : Nat) (e : TypeId) (v : Value) (vs : List Value) (v' : Value) (w' : World) : Prop :=
  isOwn w' lo e v' vs ∧ Keeps w w' (fun b => v.ownBlock = some b) ∧ (v'.ownBlock = v.ownBlock ∨ v'.ownBlock = some w.heap.size)

theorem run_appendN (t ty e : TypeId) (z : Value) (by1 : Nat) (ht : P.underlying t = some (.slice e)) (h2 : (P.info? e).map (fun i => (i.zero, i.size, i.bytes)) = some (some z, 1, by1)) (hz : z.cells.size = 1)
    (lo : Nat) (v : Value) (vs : List Value) (hown : isOwn w lo e v vs) (src : Value) (us : List Value) (hsrc : isRd w src us) (hsn : ∀ cap, src = .slice none 0 cap → cap = 0)
    (h1 : ∀ u ∈ us, u.oneCell' = true) (h63 : vs.length + us.length ≤ maxLen) (hb : (vs.length + us.length) * by1 ≤ 140737488355328) (hlo : lo ≤ w.heap.size) :
    ∃ v' w', (Builtin.append_ #[t, t] ty #[v, src]).run P w = .ok v' w' ∧ Appended w lo e v (vs ++ us) v' w' := by
  obtain ⟨i, hi, hz0, hs0, hb0⟩ := info_parts' h2
  obtain ⟨a, cap, rfl, hc1, hc3⟩ := hsrc
  cases a with
  | none =>
    have hus : us = [] := by
      cases us with
      | nil => rfl
      | cons u r => obtain ⟨g, o, h, _⟩ := hc3 0 u rfl; cases h
    subst hus
    obtain rfl := hsn cap rfl
    exact ⟨v, w, run_append_owned_none (P := P) (w := w) lo t ty e i 1 ht hi v _ vs hown, by simpa using hown, Keeps.refl _ _, .inl rfl⟩
  | some ad =>
    have hnews : ∀ j u, us[j]? = some u → w.cell? (ad.add j) = some u := by
      intro j u hj
      obtain ⟨g, o, h, _, this⟩ := hc3 j u hj
      cases h
      unfold Addr.add
      split
      · rename_i h0; subst h0; simpa using this
      · exact this
    obtain ⟨v', w', hr, ho, hg, _, hat⟩ := run_append_own_at (P := P) w lo t ty e i z 1 by1 ht hi hz0 hs0 hb0 hz (by decide) v vs.length vs hown ad us.length cap us (by simp) hnews h1 h63 hb hlo
    refine ⟨v', w', hr, ?_, (Keeps.refl w _).grown hg (fun k hk _ => hk.symm ▸ rfl), hat⟩
    have : (vs ++ us).length = vs.length + us.length := List.length_append
    show w'.ownsRow lo e 1 v' (vs ++ us).length (vs ++ us)
    rw [this]; exact ho

/-- append(s, xs..), s of the call's own. -/
theorem wl_appendN (hg : o.guard = none) (s x : Operand) (t : TypeId) (hop : o.op = .call { callee := .builtin .append, args := #[s, x], argTypes := #[t, t] })
    (e : TypeId) (z : Value) (by1 : Nat) (ht : P.underlying t = some (.slice e)) (h2 : (P.info? e).map (fun i => (i.zero, i.size, i.bytes)) = some (some z, 1, by1)) (hz : z.cells.size = 1)
    (lo : Nat) (v : Value) (vs : List Value) (hs : a.eval s = v) (hown : isOwn w lo e v vs) (src : Value) (us : List Value) (hx : a.eval x = src) (hsrc : isRd w src us) (hsn : ∀ cap, src = .slice none 0 cap → cap = 0)
    (h1 : ∀ u ∈ us, u.oneCell' = true) (h63 : vs.length + us.length ≤ maxLen) (hb : (vs.length + us.length) * by1 ≤ 140737488355328) (hlo : lo ≤ w.heap.size)
    (hK : ∀ v' w', Appended w lo e v (vs ++ us) v' w' → wpList P ops Q rest (a.put o.dst v') w') : wpList P ops Q (o :: rest) a w := by
  refine wpList_plain hg fun K' hK' => ?_
  obtain ⟨v', w', hr, hap⟩ := run_appendN (P := P) (w := w) t o.type e z by1 ht h2 hz lo v vs hown src us hsrc hsn h1 h63 hb hlo
  unfold Oper.wp execOp
  simp only [hop, resolve, invoke, builtin, Sem.run_bind, Sem.run_pure, Result.andThen_ok, List.map_toArray, List.map_cons, List.map_nil, hs, hx, hr]
  exact hK' _ _ (hK v' w' hap)

/-- T{x} ahead of an append: the element lies in a block of its own. -/
theorem wl_slice1 (hg : o.guard = none) (t : TypeId) (x : Operand) (hop : o.op = .buildSlice t 1 #[(0, x)]) (e : TypeId) (z : Value) (by1 : Nat) (ht : P.underlying t = some (.slice e)) (h2 : (P.info? e).map (fun i => (i.zero, i.size, i.bytes)) = some (some z, 1, by1)) (hzc : z.cells = #[z])
    (u : Value) (hx : a.eval x = u) (hu : u.cells = #[u])
    (hK : ∀ b w', w.heap.size ≤ b → w'.heap[b]? = some (.cells #[u] e (0, 0)) → Keeps w w' (fun _ => False) → wpList P ops Q rest (a.put o.dst (.slice (some ⟨b, 0, none⟩) 1 1)) w') : wpList P ops Q (o :: rest) a w := by
  refine wpList_plain hg fun K' hK' => ?_
  have hr : (Instr.buildSlice t 1 #[(0, u)]).run P w = .ok (.slice (some ⟨w.heap.size, 0, none⟩) 1 1) (w.alloc (.cells #[u] e)) := by
    obtain ⟨i, hi, hz0, hs0, hb0⟩ := info_parts' h2
    simp [Instr.buildSlice, run_underlying ht, Instr.fill, zeroValue, Go.sizeOf, typeInfo, hi, hz0, hs0, hzc, hu, newRow, newObj, Sem.run, Result.andThen]
    have hA : (Array.map (fun x => [z][x % 1]?.getD default) (Array.range 1)).setIfInBounds 0 u = #[u] := by
      apply Array.toList_inj.1
      simp [Array.toList_range, List.range_succ]
    rw [hA]
  unfold Oper.wp execOp
  simp only [hop, List.map_toArray, List.map_cons, List.map_nil, hx, hr, Sem.run_bind, Sem.run_pure, Result.andThen_ok]
  exact hK' _ _ (hK _ _ (Nat.le_refl _) (heap_alloc w _).1 ((Keeps.refl w _).alloc _))
/-- T{} ahead of an append: a slice of nothing. -/
theorem wl_slice0 (hg : o.guard = none) (t : TypeId) (hop : o.op = .buildSlice t 0 #[]) (e : TypeId) (z : Value) (by1 : Nat) (ht : P.underlying t = some (.slice e)) (h2 : (P.info? e).map (fun i => (i.zero, i.size, i.bytes)) = some (some z, 1, by1))
    (hK : ∀ b w', w.heap.size ≤ b → w'.heap[b]? = some (.cells #[] e (0, 0)) → Keeps w w' (fun _ => False) → wpList P ops Q rest (a.put o.dst (.slice (some ⟨b, 0, none⟩) 0 0)) w') : wpList P ops Q (o :: rest) a w := by
  refine wpList_plain hg fun K' hK' => ?_
  have hr : (Instr.buildSlice t 0 #[]).run P w = .ok (.slice (some ⟨w.heap.size, 0, none⟩) 0 0) (w.alloc (.cells #[] e)) := by
    obtain ⟨i, hi, hz0, hs0, hb0⟩ := info_parts' h2
    simp [Instr.buildSlice, run_underlying ht, Instr.fill, Go.sizeOf, typeInfo, hi, hs0, newRow, newObj, Sem.run, Result.andThen]
    have hA : Array.map (fun _ => (default : Value)) (Array.range 0) = #[] := by
      apply Array.toList_inj.1
      simp
    rw [hA]
  unfold Oper.wp execOp
  simp only [hop, List.map_toArray, List.map_nil, hr, Sem.run_bind, Sem.run_pure, Result.andThen_ok]
  exact hK' _ _ (hK _ _ (Nat.le_refl _) (heap_alloc w _).1 ((Keeps.refl w _).alloc _))
theorem isOwn_made {lo b : Nat} {e : TypeId} {vs : List Value} (hb : w.heap[b]? = some (.cells vs.toArray e (0, 0))) (hlo : lo ≤ b) (hl : vs.length ≤ maxLen) : isOwn w lo e (.slice (some ⟨b, 0, none⟩) vs.length vs.length) vs :=
  ⟨by simp, .inr ⟨b, vs.length, vs.toArray, rfl, hlo, hb, Nat.le_refl _, hl, by simp, by simp⟩⟩
theorem isVals_one {b : Nat} {e : TypeId} {u : Value} {ok : Nat → Prop} (hb : w.heap[b]? = some (.cells #[u] e (0, 0))) (hok : ok b) : isVals w ok (.slice (some ⟨b, 0, none⟩) 1 1) [u] :=
  ⟨_, 1, rfl, Nat.le_refl _, by omega, .inr ⟨b, 0, rfl, hok, lt_of_blk hb, fun j x hj => by
    unfold World.cell?
    rw [hb]
    cases j with
    | zero => simpa using hj
    | succ j => cases hj⟩⟩
/-- An append keeps what was there when the own block is new. -/
theorem Appended.keeps {w0 : World} {S : Nat → Prop} {lo : Nat} {e : TypeId} {v v' : Value} {vs us : List Value} (h : Appended w lo e v vs v' w') (h0 : isOwn w lo e v us) (hk : Keeps w0 w S) (hlo : w0.heap.size ≤ lo) : Keeps w0 w' S :=
  hk.then h.2.1 (fun i hi hb => absurd (h0.blk i hb).1 (by omega))
end Wb
