import Derived.Test.YtblpkifkaoaicaaGreatYSl
import Derived.Great.BuildSlice
/-! Slices of structs and arrays: so many cells an element. -/
namespace Wb
open Go Go.RowKit Go.Maps Go.MapKept Go.ChangeMaps
variable {P : Program} {w w' : World} {ops : Array Oper} {rest : List Oper} {o : Oper} {a : Act} {Q : Exit → Act → World → Prop}

theorem cellA_of {b : Nat} {C : Array Value} {t : TypeId} {fr : Nat × Nat} (h : w.heap[b]? = some (.cells C t fr)) (j : Nat) : w.cell? ⟨b, j, none⟩ = C[j]? := by
  unfold World.cell?
  rw [h]
  rfl
def flatA (rows : List (Array Value)) : List Value := rows.flatMap (·.toList)
theorem flatA_len {sz : Nat} {rows : List (Array Value)} (h : ∀ r ∈ rows, r.size = sz) : (flatA rows).length = rows.length * sz := by
  induction rows with
  | nil => simp [flatA]
  | cons r t ih =>
    have h1 := ih (fun x hx => h x (List.mem_cons_of_mem _ hx))
    have h2 := h r (by simp)
    unfold flatA at h1 ⊢
    rw [List.flatMap_cons, List.length_append, h1, Array.length_toList, h2, List.length_cons, Nat.add_mul]
    omega
theorem flatA_get {sz : Nat} {rows : List (Array Value)} (h : ∀ r ∈ rows, r.size = sz) {j : Nat} {r : Array Value} (hj : rows[j]? = some r) {i : Nat} {x : Value} (hi : r.toList[i]? = some x) : (flatA rows)[j * sz + i]? = some x := by
  induction rows generalizing j with
  | nil => simp at hj
  | cons q t ih =>
    have hq := h q (by simp)
    have ht := fun x hx => h x (List.mem_cons_of_mem q hx)
    unfold flatA
    rw [List.flatMap_cons]
    cases j with
    | zero =>
      simp only [List.getElem?_cons_zero, Option.some.injEq] at hj
      subst hj
      have hl := (List.getElem?_eq_some_iff.1 hi).1
      rw [Nat.zero_mul, Nat.zero_add, List.getElem?_append_left hl]
      exact hi
    | succ j =>
      simp only [List.getElem?_cons_succ] at hj
      have := ih ht hj
      rw [List.getElem?_append_right (by rw [Array.length_toList, hq, Nat.succ_mul]; omega), Array.length_toList, hq, Nat.succ_mul, show j * sz + sz + i - sz = j * sz + i by omega]
      exact this
theorem flatA_snoc (rows : List (Array Value)) (r : Array Value) : flatA (rows ++ [r]) = flatA rows ++ r.toList := by simp [flatA]
/-- A slice of the call's own, sz cells an element. -/
def isOwnA (w : World) (lo : Nat) (e : TypeId) (sz : Nat) (v : Value) (rows : List (Array Value)) : Prop := (∀ r ∈ rows, r.size = sz) ∧ w.ownsRow lo e sz v rows.length (flatA rows)
theorem isOwnA_nil (w : World) (lo : Nat) (e : TypeId) (sz : Nat) : isOwnA w lo e sz (.slice none 0 0) [] := ⟨by simp, by simp [flatA], .inl ⟨rfl, rfl⟩⟩
section
variable {lo : Nat} {e : TypeId} {sz : Nat} {v : Value} {rows : List (Array Value)}
theorem isOwnA.kept {S : Nat → Prop} (h : isOwnA w lo e sz v rows) (hk : Keeps w w' S) (hS : ∀ g, v.ownBlock = some g → ¬ S g) : isOwnA w' lo e sz v rows := by
  refine ⟨h.1, h.2.1, ?_⟩
  rcases h.2.2 with h1 | ⟨g, cap, cur, rfl, h1, h2, h3⟩
  · exact .inl h1
  · exact .inr ⟨g, cap, cur, rfl, h1, hk.blk h2 (hS g rfl), h3⟩
theorem isOwnA.new (h : isOwnA w lo e sz v rows) (hk : Keeps w w' (fun _ => False)) : isOwnA w' lo e sz v rows := h.kept hk (fun _ _ h => h)
theorem isOwnA.low {lo' : Nat} (h : isOwnA w lo e sz v rows) (hl : lo' ≤ lo) : isOwnA w lo' e sz v rows := by
  refine ⟨h.1, h.2.1, ?_⟩
  rcases h.2.2 with h1 | ⟨g, cap, cur, rfl, h1, h2, h3⟩
  · exact .inl h1
  · exact .inr ⟨g, cap, cur, rfl, Nat.le_trans hl h1, h2, h3⟩
theorem isOwnA.blk (h : isOwnA w lo e sz v rows) : ∀ g, v.ownBlock = some g → lo ≤ g ∧ g < w.heap.size := by
  intro g hg
  rcases h.2.2 with ⟨rfl, _⟩ | ⟨g', cap, cur, rfl, h1, h2, _⟩
  · cases hg
  · cases hg; exact ⟨h1, lt_of_blk h2⟩
theorem isOwnA.shape (h : isOwnA w lo e sz v rows) : ∃ ad cap, v = .slice ad rows.length cap := by
  rcases h.2.2 with ⟨rfl, h0⟩ | ⟨g, cap, cur, rfl, _⟩
  · exact ⟨none, 0, by rw [h0]⟩
  · exact ⟨_, _, rfl⟩
theorem isOwnA.nilcap (h : isOwnA w lo e sz v rows) : ∀ cap, v = .slice none 0 cap → cap = 0 := by
  intro cap hv
  rcases h.2.2 with ⟨rfl, h0⟩ | ⟨g', cap', cur, rfl, _⟩
  · cases hv; rfl
  · cases hv
theorem isOwnA.at (h : isOwnA w lo e sz v rows) {j : Nat} {r : Array Value} (hj : rows[j]? = some r) : ∃ g cap, v = .slice (some ⟨g, 0, none⟩) rows.length cap ∧ rows.length ≤ cap ∧ lo ≤ g ∧ g < w.heap.size ∧ w.rangeAt g (j * sz) r.toList := by
  rcases h.2.2 with ⟨rfl, h0⟩ | ⟨g, cap, cur, rfl, h1, h2, h3, h4, h5, h6⟩
  · have := (List.getElem?_eq_some_iff.1 hj).1; omega
  · refine ⟨g, cap, rfl, h3, h1, lt_of_blk h2, fun i x hi => ?_⟩
    have hg := flatA_get h.1 hj hi
    rw [← h6] at hg
    have hlt := (List.getElem?_eq_some_iff.1 hg).1
    rw [List.length_take] at hlt
    rw [List.getElem?_take_of_lt (by omega)] at hg
    rw [cellA_of h2]
    simpa using hg
theorem isOwnA.len (h : isOwnA w lo e sz v rows) : rows.length ≤ 9223372036854775807 := by
  rcases h.2.2 with ⟨_, h0⟩ | ⟨g, cap, cur, _, h1, h2, h3, h4, _⟩
  · omega
  · unfold maxLen at h4; omega
end
/-- A slice that is read, sz cells an element. -/
def isRdA (w : World) (sz : Nat) (v : Value) (rows : List (Array Value)) : Prop :=
  ∃ ad cap, v = .slice ad rows.length cap ∧ rows.length ≤ cap ∧ ∀ j r, rows[j]? = some r → ∃ g off, ad = some ⟨g, off, none⟩ ∧ g < w.heap.size ∧ w.rangeAt g (off + j * sz) r.toList
theorem isOwnA.rd {lo : Nat} {e : TypeId} {sz : Nat} {v : Value} {rows : List (Array Value)} (h : isOwnA w lo e sz v rows) : isRdA w sz v rows := by
  have hat := @isOwnA.at w lo e sz v rows h
  rcases h.2.2 with ⟨rfl, h0⟩ | ⟨g, cap, cur, rfl, h1, h2, h3, h4, h5, h6⟩
  · exact ⟨none, 0, by rw [h0], by omega, fun j r hj => by have := (List.getElem?_eq_some_iff.1 hj).1; omega⟩
  · refine ⟨_, cap, rfl, h3, fun j r hj => ?_⟩
    obtain ⟨g', cap', he, _, _, h7, h8⟩ := hat hj
    cases he
    exact ⟨g, 0, rfl, h7, by rw [Nat.zero_add]; exact h8⟩
theorem isRdA.kept {sz : Nat} {v : Value} {rows : List (Array Value)} {S : Nat → Prop} (h : isRdA w sz v rows) (hk : Keeps w w' S) (hS : ∀ g, v.ownBlock = some g → ¬ S g) : isRdA w' sz v rows := by
  obtain ⟨ad, cap, rfl, h0, h⟩ := h
  refine ⟨ad, cap, rfl, h0, fun j r hj => ?_⟩
  obtain ⟨g, off, rfl, h1, h2⟩ := h j r hj
  exact ⟨g, off, rfl, Nat.lt_of_lt_of_le h1 hk.size, fun i x hi => (hk.cell (p := ⟨g, off + j * sz + i, none⟩) h1 (hS g rfl)).trans (h2 i x hi)⟩
theorem isRdA.new {sz : Nat} {v : Value} {rows : List (Array Value)} (h : isRdA w sz v rows) (hk : Keeps w w' (fun _ => False)) : isRdA w' sz v rows := h.kept hk (fun _ _ h => h)
def AppendedA (w : World) (lo : Nat) (e : TypeId) (sz : Nat) (v : Value) (rows : List (Array Value)) (v' : Value) (w' : World) : Prop :=
  isOwnA w' lo e sz v' rows ∧ Keeps w w' (fun b => v.ownBlock = some b) ∧ (v'.ownBlock = v.ownBlock ∨ v'.ownBlock = some w.heap.size)
/-- append(s, x), x laid in a block of its own. -/
theorem wl_appendA (hg : o.guard = none) (s x : Operand) (t : TypeId) (hop : o.op = .call { callee := .builtin .append, args := #[s, x], argTypes := #[t, t] })
    (e : TypeId) (z : Value) (sz by1 : Nat) (ht : P.underlying t = some (.slice e)) (h2 : (P.info? e).map (fun i => (i.zero, i.size, i.bytes)) = some (some z, sz, by1)) (hz : z.cells.size = sz) (hsz : 0 < sz)
    (lo : Nat) (v : Value) (rows : List (Array Value)) (hs : a.eval s = v) (hown : isOwnA w lo e sz v rows) (b : Nat) (r : Array Value) (hx : a.eval x = .slice (some ⟨b, 0, none⟩) 1 1) (hb : w.heap[b]? = some (.cells r e (0, 0))) (hr : r.size = sz)
    (h1 : r.all (·.oneCell') = true) (h63 : rows.length + 1 ≤ maxLen) (hby : (rows.length + 1) * by1 ≤ 140737488355328) (hlo : lo ≤ w.heap.size)
    (hK : ∀ v' w', AppendedA w lo e sz v (rows ++ [r]) v' w' → wpList P ops Q rest (a.put o.dst v') w') : wpList P ops Q (o :: rest) a w := by
  refine wpList_plain hg fun K' hK' => ?_
  obtain ⟨i, hi, hz0, hs0, hb0⟩ := info_parts' h2
  obtain ⟨v', w', hrun, ho, hgr, _, hat⟩ := run_append_own_at (P := P) w lo t o.type e i z sz by1 ht hi hz0 hs0 hb0 hz hsz v rows.length (flatA rows) hown.2 ⟨b, 0, none⟩ 1 1 r.toList (by rw [Array.length_toList, hr]; omega) (fun j u hj => by
    have e1 : (⟨b, 0, none⟩ : Addr).add j = ⟨b, j, none⟩ := by
      unfold Addr.add
      split
      · rename_i h0; rw [h0]
      · simp
    rw [e1, cellA_of hb]
    simpa using hj) (fun u hu => (Array.all_eq_true_iff_forall_mem.1 h1) u (by simpa using hu)) h63 hby hlo
  have hap : AppendedA w lo e sz v (rows ++ [r]) v' w' := by
    refine ⟨⟨fun q hq => ?_, ?_⟩, (Keeps.refl w _).grown hgr (fun k hk _ => hk.symm ▸ rfl), hat⟩
    · rcases List.mem_append.1 hq with hq | hq
      · exact hown.1 q hq
      · rw [List.mem_singleton.1 hq]; exact hr
    · have hl : (rows ++ [r]).length = rows.length + 1 := by simp
      rw [hl, flatA_snoc]
      exact ho
  unfold Oper.wp execOp
  simp only [hop, resolve, invoke, builtin, Sem.run_bind, Sem.run_pure, Result.andThen_ok, List.map_toArray, List.map_cons, List.map_nil, hs, hx, hrun]
  exact hK' _ _ (hK v' w' hap)
/-- T{x} ahead of an append. -/
theorem wl_sliceA1 (hg : o.guard = none) (t : TypeId) (x : Operand) (hop : o.op = .buildSlice t 1 #[(0, x)]) (e : TypeId) (z : Value) (sz by1 : Nat) (ht : P.underlying t = some (.slice e)) (h2 : (P.info? e).map (fun i => (i.zero, i.size, i.bytes)) = some (some z, sz, by1)) (hsz : 0 < sz) (hsm : sz ≤ 1000)
    (r : Array Value) (hx : a.eval x = .agg r) (hr : r.size = sz)
    (hK : ∀ b w', w.heap.size ≤ b → w'.heap[b]? = some (.cells r e (0, 0)) → Keeps w w' (fun _ => False) → wpList P ops Q rest (a.put o.dst (.slice (some ⟨b, 0, none⟩) 1 1)) w') : wpList P ops Q (o :: rest) a w := by
  obtain ⟨i, hi, hz0, hs0, hb0⟩ := info_parts' h2
  refine wpList_buildSlice hg t e 1 #[(0, x)] hop r i z ht hi hz0 (by rw [hs0]; omega) (by rw [hs0]; omega) ?_ (hK _ _ (Nat.le_refl _) (heap_alloc w _).1 ((Keeps.refl w _).alloc _))
  have e1 : (#[(0, x)].map fun (p : Nat × Operand) => (p.1, a.eval p.2)).toList = (([Value.agg r].zipIdx 0).map fun (p : Value × Nat) => (p.2, p.1)) := by simp [hx]
  have e2 := Great.fill_whole (s := i.size) (by omega) [Value.agg r] ((Array.range (1 * i.size)).map (z.cells[· % z.cells.size]!)) (fun v hv => by rw [List.mem_singleton.1 hv]; show r.size = _; omega) (by simp)
  have e3 : ([Value.agg r].flatMap fun v => v.cells.toList).toArray = r := by
    show ((r.toList ++ []).toArray) = r
    simp
  rw [e3] at e2
  exact (congrArg _ e1).trans e2
end Wb
