import Derived.Test.YtblpkifkaoaicaaGreatQN
import Derived.Test.YtblpkifkaoaicaaGreatYSi
/-! slices.Sort of a slice of ints of the call's own. -/
namespace Go.Proofs.YtblpkifkaoaicaaGreat
open Go Go.RowKit Go.Maps Wb Go.Sort

def sortN (zs : List Int) : List Int := zs.mergeSort fun x y => decide (x ≤ y)
theorem sortN_len (zs : List Int) : (sortN zs).length = zs.length := List.length_mergeSort _
theorem putRow_heap (w : World) (g off : Nat) (d : Array Int) (cur : Array Value) (e : TypeId) (os : Array Obj) (n : Nat) (hb : w.heap[g]? = some (.cells cur e (0, 0))) :
    (grow (putRow (Value.int .i64) (Sort.ahead w n) g off d) os).heap[g]? = some (.cells (putCells (Value.int .i64) off d cur) e (0, 0)) ∧ Keeps w (grow (putRow (Value.int .i64) (Sort.ahead w n) g off d) os) (· = g) := by
  have hlt := lt_of_blk hb
  have hsz : (w.heap.modify g (onCells (putCells (Value.int .i64) off d))).size = w.heap.size := Array.size_modify ..
  constructor
  · show (w.heap.modify g (onCells (putCells (Value.int .i64) off d)) ++ os)[g]? = _
    rw [Array.getElem?_append_left (by rw [hsz]; exact hlt), Array.getElem?_modify, if_pos rfl, hb]
    rfl
  · refine ⟨rfl, rfl, rfl, ?_, fun k hk hne => ?_⟩
    · show w.heap.size ≤ (w.heap.modify g (onCells (putCells (Value.int .i64) off d)) ++ os).size
      rw [Array.size_append, hsz]
      omega
    · show (w.heap.modify g (onCells (putCells (Value.int .i64) off d)) ++ os)[k]? = _
      rw [Array.getElem?_append_left (by rw [hsz]; exact hk), Array.getElem?_modify, if_neg (fun e => hne e.symm)]
theorem putCells_take (d : List Int) (cur : Array Value) (h : d.length ≤ cur.size) : (putCells (Value.int .i64) 0 d.toArray cur).toList.take d.length = d.map (Value.int .i64) := by
  apply List.ext_getElem?
  intro k
  rw [List.getElem?_take, List.getElem?_map]
  by_cases hk : k < d.length
  · rw [if_pos hk, Array.getElem?_toList]
    unfold putCells
    rw [Array.getElem?_mapIdx, Array.getElem?_eq_getElem (by omega), Option.map_some, if_pos ⟨Nat.zero_le _, by simpa using hk⟩, List.getElem?_eq_getElem hk]
    simp [hk]
  · rw [if_neg hk, List.getElem?_eq_none (by omega)]
    rfl
theorem sortI_calls (w : World) (lo : Nat) (e : TypeId) (v : Value) (zs : List Int) (h : isOwn w lo e v (zs.map (Value.int .i64))) (hl : zs.length ≤ 1000000) :
    Calls Tryz.prog 46 #[v] w fun x w' => x = .returned (.tuple #[]) ∧ isOwn w' lo e v ((sortN zs).map (Value.int .i64)) ∧ Keeps w w' (fun i => v.ownBlock = some i) := by
  rcases h.2 with ⟨rfl, h0⟩ | ⟨g, cap, cur, rfl, h1, h2, h3, h4, h5, h6⟩
  · have hz : zs = [] := by cases zs with
      | nil => rfl
      | cons _ _ => simp at h0
    subst hz
    refine (AnyM.slices_Sort_int_none Tryz.sort46 none 0 w).mono ?_
    rintro x w' ⟨rfl, rfl⟩
    exact ⟨rfl, by rw [show sortN [] = [] from by simp [sortN]]; exact isOwn_nil _ _ _, Keeps.refl _ _⟩
  · rw [List.length_map, Nat.mul_one] at h6
    rw [List.length_map] at h3 ⊢
    have hcs : cur.size = cap := by rw [h5, Nat.mul_one]
    have hH : Holds (Value.int .i64) w g 0 zs.toArray := fun j hj => by
      have hj : j < zs.length := by simpa using hj
      refine ⟨?_, free_of_block h2 _⟩
      rw [cell_of_block h2]
      have h7 := congrArg (fun l => l[j]?) h6
      simp only [List.getElem?_take, if_pos hj, List.getElem?_map, Array.getElem?_toList] at h7
      rw [List.getElem?_eq_getElem hj, Option.map_some] at h7
      simp only [Nat.zero_add]
      rw [h7]
      simp [hj]
    refine (AnyM.slices_Sort_int Tryz.sort46 g 0 cap zs w hH (lt_of_blk h2) (by omega)).mono ?_
    rintro x w' ⟨rfl, n, os, rfl⟩
    obtain ⟨q1, q2⟩ := putRow_heap w g 0 (sortN zs).toArray cur e os n h2
    refine ⟨rfl, ⟨by simp, .inr ⟨g, cap, _, by rw [List.length_map, sortN_len], h1, q1, by rw [List.length_map, sortN_len]; exact h3, h4, ?_, ?_⟩⟩, q2.mono (fun i _ hi => by subst hi; rfl)⟩
    · show (putCells (Value.int .i64) 0 (sortN zs).toArray cur).size = _
      unfold putCells
      rw [Array.size_mapIdx, h5]
    · rw [List.length_map, Nat.mul_one]
      exact putCells_take _ _ (by rw [sortN_len, hcs]; exact h3)
end Go.Proofs.YtblpkifkaoaicaaGreat
