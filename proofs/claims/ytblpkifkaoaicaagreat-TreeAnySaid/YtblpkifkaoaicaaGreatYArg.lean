import Derived.Test.YtblpkifkaoaicaaGreatQX
import Derived.SizedLaws
import Derived.SliceStrings
import Derived.OpenShut
/-! Arguments that came in: slices of ints and of texts. -/
namespace Go.Proofs.YtblpkifkaoaicaaGreat
open Go Go.RowKit Go.Maps Go.WideShapes Go.ChangeShapes Wb

theorem cell_lt9 {w : World} {a : Addr} {v : Value} (h : w.cell? a = some v) : a.block < w.heap.size := by
  unfold World.cell? at h
  cases hb : w.heap[a.block]? with
  | none => simp [hb] at h
  | some o => exact lt_of_blk hb

section
variable {H : Type} {enc : TypeId × Value → H} {P : Program} {w : World}
theorem arg_ints {t e : TypeId} {v : Value} {d : DataW H} {p : List MemPlace} {base : Nat} (ht : P.underlying t = some (.slice e)) (he : P.underlying e = some (.int .i64)) (hc : P.cellsOf e = 1) (hy : P.bytesOf e = 8)
    (hok : Value.okWide P w .any base t v) (hA : DataW.Trod enc P w 0 (fun _ => true) true t v d p) (hsz : ∀ n ∈ d.weights P t, decide (n ≤ reachBytes) = true) : ∃ xs, isInts w (fun g => g < w.heap.size) v xs := by
  obtain ⟨a, len, cap, rfl⟩ := okWide_slice ht hok
  obtain ⟨fuel, hf⟩ := hA
  rcases open_ints ht he hc hf with ⟨hcs, _⟩ | ⟨a, l, c, zs, hcs, _, hl, hm, hz, hx, hcell, hwz⟩
  · simp [Value.cells] at hcs
    obtain ⟨rfl, rfl, rfl⟩ := hcs
    exact ⟨[], none, 0, rfl, Nat.le_refl _, by decide, by simp, .inl rfl⟩
  · simp [Value.cells] at hcs
    obtain ⟨rfl, rfl, rfl⟩ := hcs
    simp only [if_true] at hz
    obtain ⟨rfl, rfl⟩ := Prod.mk.inj hx
    have hb := of_decide_eq_true (hsz ((((lits (H := H) .i64 (zs.take len)).length + (lits (H := H) .i64 (zs.drop len)).length)) * P.bytesOf e) (by simp [DataW.weights, ht]))
    rw [hy] at hb
    have hr := reachBytes_lt
    simp only [lits, List.length_map, List.length_take, List.length_drop] at hb
    have htl : (zs.take len).length = len := by rw [List.length_take]; omega
    refine ⟨zs.take len, some a, cap, by rw [htl], by omega, by omega, fun x hx => ?_, ?_⟩
    · have := bounds_i64 (hwz x (List.mem_of_mem_take hx))
      unfold kOk
      omega
    · by_cases h0 : len = 0
      · left; subst h0; rfl
      · obtain ⟨b, off, rfl, hcc⟩ := ints_at hcell (by omega)
        refine .inr ⟨b, off, rfl, ?_, ?_, fun j x hj => ?_⟩
        · have := cell_lt9 (hcc 0 (by omega)); exact this
        · have := cell_lt9 (hcc 0 (by omega)); exact this
        · have hjl : j < (zs.take len).length := (List.getElem?_eq_some_iff.1 hj).1
          rw [hcc j (by omega)]
          rw [List.getElem?_take_of_lt (by omega)] at hj
          rw [List.getD_eq_getElem?_getD, hj]; rfl
end
end Go.Proofs.YtblpkifkaoaicaaGreat
