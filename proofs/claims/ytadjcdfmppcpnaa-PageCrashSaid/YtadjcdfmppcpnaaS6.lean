import Derived.Test.YtadjcdfmppcpnaaS5
/-! Package sect: New, Drop. -/
namespace Go.Proofs.Ytadjcdfmppcpnaa
open Go Go.RowKit Go.Maps Wb

def NewPost (m : Int) (w : World) (e : Ending) (w' : World) : Prop :=
  ∃ h : DH, e = .returned (.pointer (some ⟨h.p, 0, none⟩)) ∧ isDev w' h (Dv.new m) ∧ Keeps w w' (fun _ => False) ∧ ∀ i, h.S i → w.heap.size ≤ i

theorem longF_nil : longF [] = fun _ => none := by funext v; unfold longF; cases decS v <;> rfl
theorem cellF_nil : cellF [] = fun _ => none := by funext v; unfold cellF; cases decW v <;> rfl

theorem new_at (w : World) (m x : Int) (hx : x = min (max m 0) 100000) :
    NewPost m w (.returned (.pointer (some ⟨w.heap.size + 1 + 1, 0, none⟩))) (((w.alloc (.map #[] 0)).alloc (.map #[] 0)).alloc (.cells #[.int .i64 x, .int .i64 0, .int .i64 (-1), .map (some w.heap.size), .map (some (w.heap.size + 1))] 113)) := by
  have h1 : isMap Try.prog 9 (w.alloc (.map #[] 0)) w.heap.size (fun _ => none) := isMap_made _ _ _
  have h2 : isMap Try.prog 119 ((w.alloc (.map #[] 0)).alloc (.map #[] 0)) (w.heap.size + 1) (fun _ => none) := by
    have := isMap_made Try.prog 119 (w.alloc (.map #[] 0))
    simpa using this
  refine ⟨⟨w.heap.size + 1 + 1, w.heap.size, w.heap.size + 1⟩, rfl, ⟨?_, ?_, ?_, ?_, ?_⟩, ?_, ?_⟩
  · have := (MapKept.heap_alloc ((w.alloc (.map #[] 0)).alloc (.map #[] 0)) (.cells #[.int .i64 x, .int .i64 0, .int .i64 (-1), .map (some w.heap.size), .map (some (w.heap.size + 1))] 113)).1
    have e : ((Dv.new m).most : Int) = x := by simp [Dv.new]; omega
    simp only [fldA, e]
    simpa [Dv.new, used] using this
  · show isMap _ _ _ _ (longF [])
    rw [longF_nil]; exact (h1.alloc _).alloc _
  · show isMap _ _ _ _ (cellF [])
    rw [cellF_nil]; exact h2.alloc _
  · exact ⟨by simp [Dv.new]; omega, by simp [Dv.new], by simp [Dv.new], by simp [Dv.new, sorted], by simp [Dv.new, used], by simp [Dv.new]⟩
  · show w.heap.size ≠ w.heap.size + 1; omega
  · exact (((Keeps.refl w _).alloc _).alloc _).alloc _
  · rintro i (rfl | rfl | rfl) <;> simp <;> omega

set_option maxRecDepth 100000 in
set_option maxHeartbeats 1000000 in
theorem new_calls (w : World) (m : Int) : Calls Try.prog 21 #[.int .i64 m] w (NewPost m w) := by
  have hmm := @run_makeMap Try.prog
  by_cases h1 : m < 0
  · have HN := Lib.hid (new_at w m 0 (by omega))
    go_enter Try.func21, Try.ntmps21
    go_wp2
    go_ret
    exact HN.out
  · by_cases h2 : 100000 < m
    · have HN := Lib.hid (new_at w m 100000 (by omega))
      have h1' : 0 ≤ m := by omega
      clear h1
      go_enter Try.func21, Try.ntmps21
      go_wp2
      all_goals first
        | (go_ret; exact HN.out)
        | (exfalso; have : m ≤ 100000 := by assumption
           omega)
    · have HN := Lib.hid (new_at w m m (by omega))
      have h1' : 0 ≤ m := by omega
      have h2' : m ≤ 100000 := by omega
      clear h1 h2
      go_enter Try.func21, Try.ntmps21
      go_wp2
      go_ret
      exact HN.out
end Go.Proofs.Ytadjcdfmppcpnaa
