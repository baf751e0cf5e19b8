import Derived.Test.YtadjcdfmppcpnaaYL2
import Derived.SizedLaws
import Derived.SliceStrings
import Derived.OpenShut
/-! Arguments that came in: slices of ints and of texts. -/
namespace Go.Proofs.Ytadjcdfmppcpnaa
open Go Go.RowKit Go.Maps Go.WideShapes Go.ChangeShapes Wb

/-- A slice of texts, in blocks that are ok. -/
def isTexts (w : World) (ok : Nat → Prop) (v : Value) (xs : List Nm) : Prop :=
  ∃ a cap, v = .slice a xs.length cap ∧ xs.length ≤ cap ∧ cap ≤ 140737488351232 ∧ (∀ x ∈ xs, x.length ≤ 9223372036854775807) ∧ (xs = [] ∨ ∃ g o, a = some ⟨g, o, none⟩ ∧ ok g ∧ g < w.heap.size ∧ ∀ j x, xs[j]? = some x → w.cell? ⟨g, o + j, none⟩ = some (.string (bs x)))
theorem isTexts.kept {w w' : World} {ok : Nat → Prop} {v : Value} {xs : List Nm} {S : Nat → Prop} (h : isTexts w ok v xs) (hk : Keeps w w' S) (hS : ∀ i, ok i → i < w.heap.size → ¬ S i) : isTexts w' ok v xs := by
  obtain ⟨a, cap, rfl, h0, h00, h01, h⟩ := h
  refine ⟨a, cap, rfl, h0, h00, h01, ?_⟩
  rcases h with h | ⟨g, o, rfl, h1, h2, h3⟩
  · exact .inl h
  · exact .inr ⟨g, o, rfl, h1, Nat.lt_of_lt_of_le h2 hk.size, fun j n hj => (hk.cell (p := ⟨g, o + j, none⟩) h2 (hS g h1 h2)).trans (h3 j n hj)⟩
theorem isInts.weaken {w : World} {ok ok' : Nat → Prop} {v : Value} {xs : List Int} (h : isInts w ok v xs) (hS : ∀ i, ok i → ok' i) : isInts w ok' v xs := by
  obtain ⟨a, cap, rfl, h0, h00, h01, h⟩ := h
  refine ⟨a, cap, rfl, h0, h00, h01, ?_⟩
  rcases h with h | ⟨g, o, rfl, h1, h2, h3⟩
  · exact .inl h
  · exact .inr ⟨g, o, rfl, hS _ h1, h2, h3⟩

theorem cell_lt9 {w : World} {a : Addr} {v : Value} (h : w.cell? a = some v) : a.block < w.heap.size := by
  unfold World.cell? at h
  cases hb : w.heap[a.block]? with
  | none => simp [hb] at h
  | some o => exact lt_of_blk hb

section
variable {H : Type} {enc : TypeId × Value → H} {P : Program} {w : World}
theorem arg_ints {t e : TypeId} {v : Value} {d : DataW H} {p : List MemPlace} {base : Nat} (ht : P.underlying t = some (.slice e)) (he : P.underlying e = some (.int .i64)) (hc : P.cellsOf e = 1) (hy : P.bytesOf e = 8)
    (hok : Value.okWide P w .any base t v) (hA : DataW.Trod enc P w 0 (fun _ => true) true t v d p) (hsz : ∀ n ∈ d.weights P t, decide (n ≤ reachBytes) = true) : ∃ xs, isInts w (fun g => g < w.heap.size) v xs := by
  obtain ⟨a, len, cap, rfl⟩ := okWide_slice ht hok
  obtain ⟨fuel, hf⟩ := hA
  rcases open_ints ht he hc hf with ⟨hcs, _⟩ | ⟨a, l, c, zs, hcs, _, hl, hm, hz, hx, hcell, hwz⟩
  · simp [Value.cells] at hcs
    obtain ⟨rfl, rfl, rfl⟩ := hcs
    exact ⟨[], none, 0, rfl, Nat.le_refl _, by decide, by simp, .inl rfl⟩
  · simp [Value.cells] at hcs
    obtain ⟨rfl, rfl, rfl⟩ := hcs
    simp only [if_true] at hz
    obtain ⟨rfl, rfl⟩ := Prod.mk.inj hx
    have hb := of_decide_eq_true (hsz ((((lits (H := H) .i64 (zs.take len)).length + (lits (H := H) .i64 (zs.drop len)).length)) * P.bytesOf e) (by simp [DataW.weights, ht]))
    rw [hy] at hb
    have hr := reachBytes_lt
    simp only [lits, List.length_map, List.length_take, List.length_drop] at hb
    have htl : (zs.take len).length = len := by rw [List.length_take]; omega
    refine ⟨zs.take len, some a, cap, by rw [htl], by omega, by omega, fun x hx => ?_, ?_⟩
    · have := bounds_i64 (hwz x (List.mem_of_mem_take hx))
      unfold kOk
      omega
    · by_cases h0 : len = 0
      · left; subst h0; rfl
      · obtain ⟨b, off, rfl, hcc⟩ := ints_at hcell (by omega)
        refine .inr ⟨b, off, rfl, ?_, ?_, fun j x hj => ?_⟩
        · have := cell_lt9 (hcc 0 (by omega)); exact this
        · have := cell_lt9 (hcc 0 (by omega)); exact this
        · have hjl : j < (zs.take len).length := (List.getElem?_eq_some_iff.1 hj).1
          rw [hcc j (by omega)]
          rw [List.getElem?_take_of_lt (by omega)] at hj
          rw [List.getD_eq_getElem?_getD, hj]; rfl
theorem arg_texts {t e : TypeId} {v : Value} {d : DataW H} {p : List MemPlace} {base : Nat} (ht : P.underlying t = some (.slice e)) (he : P.underlying e = some .string) (hc : P.cellsOf e = 1) (hy : P.bytesOf e = 16)
    (hok : Value.okWide P w .any base t v) (hA : DataW.Trod enc P w 0 (fun _ => true) true t v d p) (hsz : ∀ n ∈ d.weights P t, decide (n ≤ reachBytes) = true) : ∃ xs, isTexts w (fun g => g < w.heap.size) v xs := by
  obtain ⟨a, len, cap, rfl⟩ := okWide_slice ht hok
  obtain ⟨fuel, hf⟩ := hA
  rcases open_strings ht he hc hf with ⟨hcs, _⟩ | ⟨a, l, c, zs, hcs, _, hl, hm, hz, hx, hcell, hwz⟩
  · simp [Value.cells] at hcs
    obtain ⟨rfl, rfl, rfl⟩ := hcs
    exact ⟨[], none, 0, rfl, Nat.le_refl _, by decide, by simp, .inl rfl⟩
  · simp [Value.cells] at hcs
    obtain ⟨rfl, rfl, rfl⟩ := hcs
    simp only [if_true] at hz
    obtain ⟨rfl, rfl⟩ := Prod.mk.inj hx
    have hb := of_decide_eq_true (hsz ((((strs (H := H) (zs.take len)).length + (strs (H := H) (zs.drop len)).length)) * P.bytesOf e) (by simp [DataW.weights, ht]))
    rw [hy] at hb
    have hr := reachBytes_lt
    simp only [strs, List.length_map, List.length_take, List.length_drop] at hb
    have htl : ((zs.take len).map fun s => s.data.toList).length = len := by rw [List.length_map, List.length_take]; omega
    refine ⟨(zs.take len).map fun s => s.data.toList, some a, cap, by rw [htl], by omega, by omega, fun x hx => ?_, ?_⟩
    · obtain ⟨s, hs, rfl⟩ := List.mem_map.1 hx
      have := hwz s (List.mem_of_mem_take hs)
      unfold maxLen at this
      have h9 : s.data.toList.length = s.size := Array.length_toList
      omega
    · by_cases h0 : len = 0
      · left; subst h0; rfl
      · obtain ⟨b, off, sp⟩ := a
        have hsp : sp = none := by simpa [Addr.add] using World.cell?_spot (hcell 0 (by omega))
        subst hsp
        have hcc : ∀ j, j < zs.length → w.cell? ⟨b, off + j, none⟩ = some (.string (zs.getD j ByteArray.empty)) := fun j hj => by rw [← add_plain]; exact hcell j hj
        refine .inr ⟨b, off, rfl, ?_, ?_, fun j x hj => ?_⟩
        · have := cell_lt9 (hcc 0 (by omega)); exact this
        · have := cell_lt9 (hcc 0 (by omega)); exact this
        · have hjl : j < ((zs.take len).map fun s => s.data.toList).length := (List.getElem?_eq_some_iff.1 hj).1
          rw [hcc j (by omega)]
          rw [List.getElem?_map, List.getElem?_take_of_lt (by omega)] at hj
          rw [List.getD_eq_getElem?_getD]
          cases hz2 : zs[j]? with
          | none => rw [hz2] at hj; cases hj
          | some s => rw [hz2] at hj; simp only [Option.map_some, Option.some.injEq] at hj; subst hj; simp [bs]
end
end Go.Proofs.Ytadjcdfmppcpnaa
