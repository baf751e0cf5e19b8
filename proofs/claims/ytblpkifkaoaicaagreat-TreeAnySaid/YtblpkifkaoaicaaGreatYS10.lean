import Derived.Test.YtblpkifkaoaicaaGreatYS9
import Derived.Test.YtblpkifkaoaicaaGreatYIt
import Derived.BigFrameIn
/-! Package sect: Names. -/
namespace Go.Proofs.YtblpkifkaoaicaaGreat
open Go Go.RowKit Go.Maps Wb

/-- A slice of texts, from block lo on. -/
def isStrs (w : World) (lo : Nat) (v : Value) (xs : List Nm) : Prop :=
  ∃ a cap, v = .slice a xs.length cap ∧ (xs = [] ∨ ∃ g, a = some ⟨g, 0, none⟩ ∧ lo ≤ g ∧ g < w.heap.size ∧ ∀ j n, xs[j]? = some n → w.cell? ⟨g, j, none⟩ = some (.string (bs n)))

theorem isStrs.kept {w w' : World} {lo : Nat} {v : Value} {xs : List Nm} {S : Nat → Prop} (h : isStrs w lo v xs) (hk : Keeps w w' S) (hS : ∀ i, lo ≤ i → i < w.heap.size → ¬ S i) : isStrs w' lo v xs := by
  obtain ⟨a, cap, rfl, h⟩ := h
  refine ⟨a, cap, rfl, ?_⟩
  rcases h with h | ⟨g, rfl, h1, h2, h3⟩
  · exact .inl h
  · exact .inr ⟨g, rfl, h1, Nat.lt_of_lt_of_le h2 hk.size, fun j n hj => (hk.cell (p := ⟨g, j, none⟩) h2 (hS g h1 h2)).trans (h3 j n hj)⟩

def NamesPost (D : Dv) (w : World) (e : Ending) (w' : World) : Prop := ∃ v, e = .returned v ∧ isStrs w' w.heap.size v D.names ∧ Keeps w w' (fun _ => False)

set_option maxRecDepth 100000 in
set_option maxHeartbeats 1000000 in
theorem names_calls (w : World) (h : DH) (D : Dv) (hd : isDev w h D) (hl : D.files.length ≤ 1000000) :
    Calls Tryz.prog 52 #[.pointer (some ⟨h.p, 0, none⟩)] w (NamesPost D w) := by
  obtain ⟨nn, D0, hown, hsz, hperm⟩ := owns_names hd.wf.sorted hd.long hd.wf.nm hl
  have hmax : Maps.size D0 ≤ maxLen := Nat.le_trans hsz (by unfold maxLen; decide)
  have hbytes : Maps.size D0 * 16 ≤ 140737488355328 := by omega
  have HP := Lib.hid hperm
  have HS := Lib.hid hd.wf.sorted
  have c3 := hd.c3
  clear hsz hperm hl
  refine (callsIn_wide (n := 6)).1 ?_
  have hfK : Fence.wide.fn 82 := trivial
  have hfS : Fence.wide.fn 81 := trivial
  refine callsIn_of_wp Tryz.func52 rfl trivial ?_ rfl
  simp only [Tryz.ntmps52, List.size_toArray, List.length_cons, List.length_nil, Nat.reduceAdd, Nat.reduceSub, Array.replicate_succ, Array.replicate_zero, List.push_toArray, List.append_toArray, List.nil_append, List.cons_append]
  gi_wp2_with (first
    | (gi_at_call 82; refine (Tryz.maps_Keys_82 _ _).mono ?_; rintro e w' ⟨rfl, rfl⟩)
    | (gi_at_call 81; refine (Tryz.slices_Sorted_keys_81_82 h.bl nn D0 noR w hown hmax hbytes).mono ?_; rintro e w' ⟨v, ss, rfl, hS, hrow, hnil, hb⟩))
  go_ret
  have hss := names_sorted HS.out (hS.trans HP.out)
  have hlen : ss.length = D.names.length := by
    have := (hS.trans HP.out).length_eq
    simpa [Dv.names] using this
  refine ⟨v, rfl, ?_, (Keeps.refl w _).below (((Below.refl _ w).alloc (Nat.le_refl _) _).trans (hb.mono (by simp))) (Nat.le_refl _)⟩
  obtain ⟨h1, h2⟩ := hrow
  rw [hss] at h2
  rcases h2 with ⟨rfl, h3⟩ | ⟨g, cap, cur, rfl, h3, h4, h5, h6, h7, h8⟩
  · refine ⟨none, 0, ?_, .inl ?_⟩
    · rw [← hlen, h3]
    · exact List.eq_nil_of_length_eq_zero (by rw [← hlen]; exact h3)
  · refine ⟨some ⟨g, 0, none⟩, cap, by rw [hlen], .inr ⟨g, rfl, ?_, lt_of_blk h4, fun j n hj => ?_⟩⟩
    · simp at h3; omega
    · rw [cell_of_block h4]
      have hj' : (cur.toList.take (ss.length * 1))[j]? = some (.string (bs n)) := by
        rw [h8, List.getElem?_map]
        have : (List.map (fun x => x.fst) D.files)[j]? = some n := hj
        rw [this]; rfl
      have := List.getElem?_take (l := cur.toList) (i := ss.length * 1) (j := j)
      rw [hj'] at this
      split at this
      · simpa using this.symm
      · cases this
end Go.Proofs.YtblpkifkaoaicaaGreat
