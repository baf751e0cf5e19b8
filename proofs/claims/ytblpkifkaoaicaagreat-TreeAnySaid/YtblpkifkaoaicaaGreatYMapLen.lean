import Derived.Test.YtblpkifkaoaicaaGreatYKit
/-! len of a map that is known as a function. -/
namespace Wb
open Go Go.RowKit Go.Maps Go.MapKept Go.ChangeMaps
theorem nodup_len_le {α : Type} {l m : List α} (hl : l.Nodup) (h : ∀ x ∈ l, x ∈ m) : l.length ≤ m.length := by
  induction l generalizing m with
  | nil => simp
  | cons a r ih =>
    obtain ⟨h1, h2⟩ := List.nodup_cons.1 hl
    obtain ⟨s, t, rfl⟩ := List.append_of_mem (h a (by simp))
    have := ih (m := s ++ t) h2 (fun x hx => by
      have := h x (List.mem_cons_of_mem _ hx)
      simp only [List.mem_append, List.mem_cons] at this ⊢
      rcases this with h3 | rfl | h3
      · exact .inl h3
      · exact absurd hx h1
      · exact .inr h3)
    simp at this ⊢; omega
theorem isMap.size {P : Program} {k : TypeId} {w : World} {b : Nat} {f : Value → Option Value} (h : isMap P k w b f) (L : List Value) (hn : L.Nodup) (hL : ∀ v, v ∈ L ↔ (f v).isSome = true) :
    ∃ es clock, w.heap[b]? = some (.map es clock) ∧ es.size = L.length := by
  obtain ⟨es, clock, hb, hs, hko, hf⟩ := h
  refine ⟨es, clock, hb, ?_⟩
  have hnd : (es.toList.map (·.key)).Nodup := by
    have hp := List.pairwise_iff_getElem.1 ((stamped_iff es clock).1 hs).2.2
    unfold List.Nodup
    rw [List.pairwise_map, List.pairwise_iff_getElem]
    intro i j hi hj hij
    exact hp i j hi hj hij
  have hmem : ∀ v, v ∈ es.toList.map (·.key) ↔ v ∈ L := by
    intro v
    rw [hL, List.mem_map]
    constructor
    · rintro ⟨x, hx, rfl⟩
      rw [(hf x.key x.val).2 ⟨x, hx, rfl, rfl⟩]; rfl
    · intro h1
      obtain ⟨u, hu⟩ := Option.isSome_iff_exists.1 h1
      obtain ⟨x, hx, h2, _⟩ := (hf v u).1 hu
      exact ⟨x, hx, h2⟩
  have h1 := nodup_len_le hnd (fun x hx => (hmem x).1 hx)
  have h2 := nodup_len_le hn (fun x hx => (hmem x).2 hx)
  simp at h1 h2
  omega
theorem isMap.len {P : Program} {k : TypeId} {w : World} {b : Nat} {f : Value → Option Value} (h : isMap P k w b f) {t e ty : TypeId} (ht : P.underlying t = some (.map k e)) (L : List Value) (hn : L.Nodup) (hL : ∀ v, v ∈ L ↔ (f v).isSome = true) :
    (Builtin.len_ #[t] ty #[.map (some b)]).run P w = .ok (.int .i64 L.length) w := by
  obtain ⟨es, clock, hb, hs⟩ := h.size L hn hL
  simp [Builtin.len_, run_underlying ht, MapKept.run_getObj_map hb, hs, goInt, Result.andThen]
/-- make(map[K]V) -/
theorem wl_makeMap {P : Program} {w : World} {o : Oper} {a : Act} {ops : Array Oper} {rest : List Oper} {Q : Exit → Act → World → Prop} (hg : o.guard = none) (t : TypeId) (hop : o.op = .makeMap t none) (k : TypeId)
    (hK : ∀ b w', w.heap.size ≤ b → isMap P k w' b (fun _ => none) → Keeps w w' (fun _ => False) → wpList P ops Q rest (a.put o.dst (.map (some b))) w') : wpList P ops Q (o :: rest) a w := by
  refine wpList_plain hg fun K' hK' => ?_
  unfold Oper.wp execOp
  have := run_makeMap (P := P) t w
  simp only [hop, Option.map_none, this, Sem.run_bind, Sem.run_pure, Result.andThen_ok]
  exact hK' _ _ (hK _ _ (Nat.le_refl _) (isMap_made P k w) ((Keeps.refl w _).alloc _))
theorem gd_makeMap {P : Program} {w : World} {a : Act} {ops : Array Oper} {rest : List Oper} {Q : Exit → Act → World → Prop} (ty : TypeId) {dst : Option Tmp} {x : Option Operand} {t : TypeId} {pos : String} {after : Array Edge} (h : wpList P ops Q (⟨dst, .makeMap ty x, t, pos, after, none⟩ :: rest) a w) : wpList P ops Q (⟨dst, .makeMap ty x, t, pos, after, none⟩ :: rest) a w := h
end Wb
