import Derived.Test.YtadjcdfmppcpnaaArg
import Derived.Deep.Slices
import Derived.Deep.Strs
/-! Arguments that came in: a slice of structs of three ints. -/
namespace Go.Proofs.Ytadjcdfmppcpnaa
open Go Go.RowKit Go.Maps Go.WideShapes Go.ChangeShapes Wb

/-- A slice of structs of three ints, in blocks that are ok. -/
def isOps (w : World) (ok : Nat → Prop) (v : Value) (xs : List (Int × Int × Int)) : Prop :=
  ∃ a cap, v = .slice a xs.length cap ∧ xs.length ≤ cap ∧ cap ≤ 140737488351232 ∧ (xs = [] ∨ ∃ g o, a = some ⟨g, o, none⟩ ∧ ok g ∧ g < w.heap.size ∧
    ∀ (j : Nat) x, xs[j]? = some x → kOk x.1 ∧ kOk x.2.1 ∧ kOk x.2.2 ∧ w.cell? ⟨g, o + j * 3, none⟩ = some (.int .i64 x.1) ∧ w.cell? ⟨g, o + j * 3 + 1, none⟩ = some (.int .i64 x.2.1) ∧ w.cell? ⟨g, o + j * 3 + 2, none⟩ = some (.int .i64 x.2.2))
theorem kOk_wf {n : Int} (h : (Lit.int .i64 n).wf = true) : kOk n := by
  have := bounds_i64 h
  unfold kOk
  omega
section
variable {H : Type} {enc : TypeId × Value → H} {P : Program} {w : World}
theorem arg_ops {t e : TypeId} {f0 f1 f2 : Field} {v : Value} {d : DataW H} {p : List MemPlace} {base : Nat} (ht : P.underlying t = some (.slice e)) (he : P.underlying e = some (.struct #[f0, f1, f2])) (hc : P.cellsOf e = 3) (hy : P.bytesOf e = 24)
    (o0 : f0.offset = 0) (o1 : f1.offset = 1) (o2 : f2.offset = 2) (u0 : P.underlying f0.type = some (.int .i64)) (u1 : P.underlying f1.type = some (.int .i64)) (u2 : P.underlying f2.type = some (.int .i64))
    (c0 : P.cellsOf f0.type = 1) (c1 : P.cellsOf f1.type = 1) (c2 : P.cellsOf f2.type = 1)
    (hok : Value.okWide P w .any base t v) (hA : DataW.Trod enc P w 0 (fun _ => true) true t v d p) (hsz : ∀ n ∈ d.weights P t, decide (n ≤ reachBytes) = true) : ∃ xs, isOps w (fun g => g < w.heap.size) v xs := by
  obtain ⟨a, len, cap, rfl⟩ := okWide_slice ht hok
  obtain ⟨fuel, hf⟩ := hA
  rcases Go.Deep.open_slice ht hf with ⟨hcs, _⟩ | ⟨a, l, c, m, n, D, Pl, hcs, _, hl, hm, hmm, hx, hel⟩
  · simp [Value.cells] at hcs
    obtain ⟨rfl, rfl, rfl⟩ := hcs
    exact ⟨[], none, 0, rfl, Nat.le_refl _, by decide, .inl rfl⟩
  · simp [Value.cells] at hcs
    obtain ⟨rfl, rfl, rfl⟩ := hcs
    simp only [if_true] at hmm
    obtain rfl : m = cap := hmm
    obtain ⟨rfl, rfl⟩ := Prod.mk.inj hx
    have hb := of_decide_eq_true (hsz ((((List.range len).map D).length + ((List.range (m - len)).map fun j => D (len + j)).length) * P.bytesOf e) (by simp [DataW.weights, ht]))
    rw [hy] at hb
    have hr := reachBytes_lt
    simp only [List.length_map, List.length_range] at hb
    have each : ∀ i, i < len → ∃ q : Int × Int × Int, kOk q.1 ∧ kOk q.2.1 ∧ kOk q.2.2 ∧ w.cell? (a.add (i * 3)) = some (.int .i64 q.1) ∧ w.cell? (a.add (i * 3 + 1)) = some (.int .i64 q.2.1) ∧ w.cell? (a.add (i * 3 + 2)) = some (.int .i64 q.2.2) := by
      intro i hi
      obtain ⟨cs', h1, h2⟩ := hel i (by omega)
      rw [hc] at h1
      obtain ⟨_, hlen, hcell⟩ := World.cells?_some h1
      obtain ⟨y0, y1, y2, k, _, _, g0, g1, g2⟩ := Go.Deep.trod_struct3 he h2
      match cs', hlen with
      | [v0, v1, v2], _ =>
        simp [o0, o1, o2, c0, c1, c2] at g0 g1 g2
        obtain ⟨n0, e0, _, w0⟩ := DataW.trod_int u0 g0
        obtain ⟨n1, e1, _, w1⟩ := DataW.trod_int u1 g1
        obtain ⟨n2, e2, _, w2⟩ := DataW.trod_int u2 g2
        simp only [List.cons.injEq, and_true] at e0 e1 e2
        subst e0 e1 e2
        have q0 := hcell 0 (by omega)
        have q1 := hcell 1 (by omega)
        have q2 := hcell 2 (by omega)
        rw [Go.Deep.add_add] at q0 q1 q2
        exact ⟨(n0, n1, n2), kOk_wf w0, kOk_wf w1, kOk_wf w2, by simpa using q0, by simpa using q1, by simpa using q2⟩
    obtain ⟨q, hq⟩ := Go.Deep.choose_lt each
    refine ⟨(List.range len).map q, some a, m, by simp, by simpa using hl, by omega, ?_⟩
    by_cases h0 : len = 0
    · left; subst h0; rfl
    · obtain ⟨b, off, sp⟩ := a
      have hsp : sp = none := by simpa [Addr.add] using World.cell?_spot (hq 0 (by omega)).2.2.2.1
      subst hsp
      have hlt : b < w.heap.size := by
        have := (hq 0 (by omega)).2.2.2.1
        rw [add_plain] at this
        exact cell_lt9 this
      refine .inr ⟨b, off, rfl, hlt, hlt, fun j x hj => ?_⟩
      have hjl : j < len := by have := (List.getElem?_eq_some_iff.1 hj).1; simpa using this
      have hjx : x = q j := by simpa [hjl] using hj.symm
      subst hjx
      have := hq j hjl
      rw [add_plain, add_plain, add_plain, ← Nat.add_assoc, ← Nat.add_assoc] at this
      exact this
end
end Go.Proofs.Ytadjcdfmppcpnaa
