import Derived.Test.YtblpkifkaoaicaaGreatKit
import Derived.OwnWalk
/-! make([]T, n), T of one cell. -/
namespace Wb
open Go Go.RowKit Go.Maps Go.MapKept Go.ChangeMaps
theorem wl_make {P : Program} {w : World} {ops : Array Oper} {rest : List Oper} {o : Oper} {a : Act} {Q : Exit → Act → World → Prop}
    (hg : o.guard = none) (l c : Operand) (t : TypeId) (hop : o.op = Op.makeSlice t l c) (e : TypeId) (i : TypeInfo) (z : Value) (h1 : P.underlying t = some (.slice e)) (h2 : P.info? e = some i) (h3 : i.zero = some z) (h4 : i.size = 1)
    (hz : z.cells = #[z]) (kl kc : IntKind) (L : Int) (n : Nat) (hl : a.eval l = .int kl L) (hc : a.eval c = .int kc L) (hL : L = (n : Int)) (b2 : i.bytes * n ≤ 281474976710656) (b3 : n ≤ maxLen)
    (hK : ∀ b w', w.heap.size ≤ b → w'.heap[b]? = some (.cells (Array.replicate n z) e (0, 0)) → Keeps w w' (fun _ => False) → wpList P ops Q rest (a.put o.dst (.slice (some ⟨b, 0, none⟩) n n)) w') : wpList P ops Q (o :: rest) a w := by
  refine wpList_make_full w hg l c t hop w.heap.size e i z 1 h1 h2 h3 h4 kl kc L L n hl hc hL hL b2 b3 (Nat.le_refl _) fun w' ho hgr => ?_
  obtain ⟨_, ho⟩ := ho
  rcases ho with ⟨h, _⟩ | ⟨g, cap, cur, hv, hb, hh, _, _, hs, ht⟩
  · cases h
  · cases hv
    refine hK _ _ (Nat.le_refl _) ?_ ((Keeps.refl w _).grown hgr (fun k hk => by cases hk))
    rw [hh]
    have : cur = Array.replicate n z := by
      apply Array.toList_inj.1
      rw [List.take_of_length_le (by simp [hs])] at ht
      rw [ht, hz]
      simp only [madeCells, Array.toList_replicate]
      simp [Nat.mod_one]
      apply List.ext_getElem?
      intro j
      by_cases hj : j < n <;> simp [hj]
    rw [this]
theorem wl_make1 {P : Program} {w : World} {ops : Array Oper} {rest : List Oper} {o : Oper} {a : Act} {Q : Exit → Act → World → Prop}
    (hg : o.guard = none) (l c : Operand) (t : TypeId) (hop : o.op = Op.makeSlice t l c) (e : TypeId) (z : Value) (by1 : Nat) (h1 : P.underlying t = some (.slice e)) (h2 : (P.info? e).map (fun i => (i.zero, i.size, i.bytes)) = some (some z, 1, by1))
    (hz : z.cells = #[z]) (kl kc : IntKind) (L : Int) (n : Nat) (hl : a.eval l = .int kl L) (hc : a.eval c = .int kc L) (hL : L = (n : Int)) (b2 : by1 * n ≤ 281474976710656) (b3 : n ≤ maxLen)
    (hK : ∀ b w', w.heap.size ≤ b → w'.heap[b]? = some (.cells (Array.replicate n z) e (0, 0)) → Keeps w w' (fun _ => False) → wpList P ops Q rest (a.put o.dst (.slice (some ⟨b, 0, none⟩) n n)) w') : wpList P ops Q (o :: rest) a w := by
  cases hi : P.info? e with
  | none => rw [hi] at h2; cases h2
  | some i =>
    rw [hi] at h2
    simp only [Option.map_some, Option.some.injEq, Prod.mk.injEq] at h2
    obtain ⟨h3, h4, h5⟩ := h2
    exact wl_make hg l c t hop e i z h1 hi h3 h4 hz kl kc L n hl hc hL (by rw [h5]; exact b2) b3 hK
end Wb
