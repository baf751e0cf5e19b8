import Derived.Test.YtadjcdfmppcpnaaYArg
import Derived.Deep.Matrix
/-! Arguments that came in: a slice of slices of ints. -/
namespace Go.Proofs.Ytadjcdfmppcpnaa
open Go Go.RowKit Go.Maps Go.WideShapes Go.ChangeShapes Wb

/-- A row of ints that came in. -/
def isRowI (w : World) (ok : Nat → Prop) (v : Value) (xs : List Int) : Prop :=
  ∃ a cap, v = .slice a xs.length cap ∧ xs.length ≤ cap ∧ cap ≤ 9223372036854775807 ∧ (∀ x ∈ xs, kOk x) ∧ (xs = [] ∨ ∃ g o, a = some ⟨g, o, none⟩ ∧ ok g ∧ g < w.heap.size ∧ ∀ j x, xs[j]? = some x → w.cell? ⟨g, o + j, none⟩ = some (.int .i64 x))
/-- A slice of rows of ints, in blocks that are ok. -/
def isRows (w : World) (ok : Nat → Prop) (v : Value) (xs : List (List Int)) : Prop :=
  ∃ a cap, v = .slice a xs.length cap ∧ xs.length ≤ cap ∧ cap ≤ 140737488351232 ∧ (xs = [] ∨ ∃ g o, a = some ⟨g, o, none⟩ ∧ ok g ∧ g < w.heap.size ∧
    ∀ (j : Nat) x, xs[j]? = some x → ∃ u, w.cell? ⟨g, o + j, none⟩ = some u ∧ isRowI w ok u x)
/-- A slice of ints that came in, by its octets. -/
def isInts8 (w : World) (ok : Nat → Prop) (v : Value) (xs : List Int) : Prop := isInts w ok v xs ∧ xs.length * 8 ≤ 140737488351232
theorem isRowI.kept {w w' : World} {ok : Nat → Prop} {v : Value} {xs : List Int} {S : Nat → Prop} (h : isRowI w ok v xs) (hk : Keeps w w' S) (hS : ∀ i, ok i → i < w.heap.size → ¬ S i) : isRowI w' ok v xs := by
  obtain ⟨a, cap, rfl, h0, h00, h01, h⟩ := h
  refine ⟨a, cap, rfl, h0, h00, h01, ?_⟩
  rcases h with h | ⟨g, o, rfl, h1, h2, h3⟩
  · exact .inl h
  · exact .inr ⟨g, o, rfl, h1, Nat.lt_of_lt_of_le h2 hk.size, fun j n hj => (hk.cell (p := ⟨g, o + j, none⟩) h2 (hS g h1 h2)).trans (h3 j n hj)⟩
section
variable {H : Type} {enc : TypeId × Value → H} {P : Program} {w : World}
theorem arg_ints8 {t e : TypeId} {v : Value} {d : DataW H} {p : List MemPlace} {base : Nat} (ht : P.underlying t = some (.slice e)) (he : P.underlying e = some (.int .i64)) (hc : P.cellsOf e = 1) (hy : P.bytesOf e = 8)
    (hok : Value.okWide P w .any base t v) (hA : DataW.Trod enc P w 0 (fun _ => true) true t v d p) (hsz : ∀ n ∈ d.weights P t, decide (n ≤ reachBytes) = true) : ∃ xs, isInts8 w (fun g => g < w.heap.size) v xs := by
  obtain ⟨a, len, cap, rfl⟩ := okWide_slice ht hok
  obtain ⟨fuel, hf⟩ := hA
  rcases open_ints ht he hc hf with ⟨hcs, _⟩ | ⟨a, l, c, zs, hcs, _, hl, hm, hz, hx, hcell, hwz⟩
  · simp [Value.cells] at hcs
    obtain ⟨rfl, rfl, rfl⟩ := hcs
    exact ⟨[], ⟨none, 0, rfl, Nat.le_refl _, by decide, by simp, .inl rfl⟩, by decide⟩
  · simp [Value.cells] at hcs
    obtain ⟨rfl, rfl, rfl⟩ := hcs
    simp only [if_true] at hz
    obtain ⟨rfl, rfl⟩ := Prod.mk.inj hx
    have hb := of_decide_eq_true (hsz ((((lits (H := H) .i64 (zs.take len)).length + (lits (H := H) .i64 (zs.drop len)).length)) * P.bytesOf e) (by simp [DataW.weights, ht]))
    rw [hy] at hb
    have hr : reachBytes = 140737488351232 := rfl
    have hr2 := reachBytes_lt
    simp only [lits, List.length_map, List.length_take, List.length_drop] at hb
    have htl : (zs.take len).length = len := by rw [List.length_take]; omega
    refine ⟨zs.take len, ⟨some a, cap, by rw [htl], by omega, by omega, fun x hx => ?_, ?_⟩, by rw [htl]; rw [hr] at hb; omega⟩
    · have := bounds_i64 (hwz x (List.mem_of_mem_take hx))
      unfold kOk
      omega
    · by_cases h0 : len = 0
      · left; subst h0; rfl
      · obtain ⟨b, off, rfl, hcc⟩ := ints_at hcell (by omega)
        refine .inr ⟨b, off, rfl, ?_, ?_, fun j x hj => ?_⟩
        · have := cell_lt9 (hcc 0 (by omega)); exact this
        · have := cell_lt9 (hcc 0 (by omega)); exact this
        · have hjl : j < (zs.take len).length := (List.getElem?_eq_some_iff.1 hj).1
          rw [hcc j (by omega)]
          rw [List.getElem?_take_of_lt (by omega)] at hj
          rw [List.getD_eq_getElem?_getD, hj]; rfl
theorem arg_rows {t e q : TypeId} {v : Value} {d : DataW H} {p : List MemPlace} {base : Nat} (ht : P.underlying t = some (.slice e)) (he : P.underlying e = some (.slice q)) (hq : P.underlying q = some (.int .i64)) (hc : P.cellsOf e = 1) (cq : P.cellsOf q = 1) (hy : P.bytesOf e = 24)
    (hok : Value.okWide P w .any base t v) (hA : DataW.Trod enc P w 0 (fun _ => true) true t v d p) (hsz : ∀ n ∈ d.weights P t, decide (n ≤ reachBytes) = true) : ∃ xs, isRows w (fun g => g < w.heap.size) v xs := by
  obtain ⟨a, len, cap, rfl⟩ := okWide_slice ht hok
  obtain ⟨fuel, hf⟩ := hA
  rcases Go.Deep.open_int_rows ht he hq hc cq hf with ⟨hcs, _⟩ | ⟨a, l, c, A, L, C, Z, hcs, _, hl, hm, hx, hel⟩
  · simp [Value.cells] at hcs
    obtain ⟨rfl, rfl, rfl⟩ := hcs
    exact ⟨[], none, 0, rfl, Nat.le_refl _, by decide, .inl rfl⟩
  · simp [Value.cells] at hcs
    obtain ⟨rfl, rfl, rfl⟩ := hcs
    obtain ⟨rfl, rfl⟩ := Prod.mk.inj hx
    have hb := of_decide_eq_true (hsz ((((List.range len).map fun r => Go.Deep.intRow (H := H) .i64 (A r) (L r) (Z r)).length + ((List.range (cap - len)).map fun j => Go.Deep.intRow (H := H) .i64 (A (len + j)) (L (len + j)) (Z (len + j))).length) * P.bytesOf e) (by simp [DataW.weights, ht]))
    rw [hy] at hb
    have hr := reachBytes_lt
    simp only [List.length_map, List.length_range] at hb
    refine ⟨(List.range len).map fun r => (Z r).take (L r), some a, cap, by simp, by simpa using hl, by omega, ?_⟩
    by_cases h0 : len = 0
    · left; subst h0; rfl
    · obtain ⟨b, off, sp⟩ := a
      have hsp : sp = none := by simpa [Addr.add] using World.cell?_spot (hel 0 (by omega)).1
      subst hsp
      have hlt : b < w.heap.size := by
        have := (hel 0 (by omega)).1
        rw [add_plain] at this
        exact cell_lt9 this
      refine .inr ⟨b, off, rfl, hlt, hlt, fun j x hj => ?_⟩
      have hjl : j < len := by have := (List.getElem?_eq_some_iff.1 hj).1; simpa using this
      have hjx : x = (Z j).take (L j) := by simpa [hjl] using hj.symm
      subst hjx
      obtain ⟨e1, e2, e3, e4, e5, e6, e7⟩ := hel j (by omega)
      rw [add_plain] at e1
      have htl : ((Z j).take (L j)).length = L j := by rw [List.length_take]; omega
      refine ⟨_, e1, A j, C j, by rw [htl], by rw [htl]; exact e2, by unfold maxLen at e3; omega, fun x hx => ?_, ?_⟩
      · have := bounds_i64 (e5 x (List.mem_of_mem_take hx))
        unfold kOk
        omega
      · by_cases hL0 : L j = 0
        · left; rw [hL0]; rfl
        · right
          cases hAj : A j with
          | none => have := e6 hAj; omega
          | some a' =>
            obtain ⟨_, hcc⟩ := e7 a' hAj
            obtain ⟨b', off', sp'⟩ := a'
            have hsp' : sp' = none := by simpa [Addr.add] using World.cell?_spot (hcc 0 (by omega))
            subst hsp'
            have hlt' : b' < w.heap.size := by
              have := hcc 0 (by omega)
              rw [add_plain] at this
              exact cell_lt9 this
            refine ⟨b', off', rfl, hlt', hlt', fun i x hi => ?_⟩
            have hil : i < ((Z j).take (L j)).length := (List.getElem?_eq_some_iff.1 hi).1
            have := hcc i (by omega)
            rw [add_plain] at this
            rw [this]
            rw [List.getElem?_take_of_lt (by omega)] at hi
            rw [List.getD_eq_getElem?_getD, hi]; rfl
end
end Go.Proofs.Ytadjcdfmppcpnaa
