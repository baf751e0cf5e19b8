import Derived.Test.YtblpkifkaoaicaaGreatYSlC
/-! append where there is room, append(s, make([]T, k)...) where there is none; the library's Insert and Delete stand on these. -/
namespace Wb
open Go Go.RowKit Go.Maps Go.MapKept Go.ChangeMaps
variable {P : Program} {w w' : World} {ops : Array Oper} {rest : List Oper} {o : Oper} {a : Act} {Q : Exit → Act → World → Prop}

/-- copy of structs into a block that is known whole; what is not copied need not be storable. -/
theorem run_copyB (dT sT ty e : TypeId) (g off dLen dCap : Nat) (sg soff sn sc : Nat) (rows : List (Array Value)) (sz : Nat) (hu : P.underlying dT = some (.slice e)) (hs : (P.info? e).map (·.size) = some sz) (hsz : 0 < sz)
    (C : Array Value) (t : TypeId) (hb : w.heap[g]? = some (.cells C t (0, 0))) (hr : ∀ r ∈ rows, r.size = sz) (hrd : ∀ (j : Nat) r, rows[j]? = some r → w.rangeAt sg (soff + j * sz) r.toList) (n : Nat) (hn : n = min sn dLen) (hrl : rows.length = n) (hfit : off + n * sz ≤ C.size) (h1 : ∀ r ∈ rows, r.all (·.oneCell') = true) :
    (Builtin.copy_ #[dT, sT] ty #[.slice (some ⟨g, off, none⟩) dLen dCap, .slice (some ⟨sg, soff, none⟩) sn sc]).run P w = .ok (goInt n) (w.setRow g (Wb.splice C off (flatA rows).toArray)) := by
  have hn' : Nat.min sn dLen = n := hn.symm
  have hlf : (flatA rows).length = n * sz := by rw [flatA_len hr, hrl]
  have hst := run_storeCells_at (P := P) g off t (flatA rows) 0 C w hb (by rw [hlf]; simpa using hfit) (flatA_one h1)
  simp only [Nat.add_zero] at hst
  have hsp : Wb.splice C off (flatA rows).toArray = (C.toList.take off ++ flatA rows ++ C.toList.drop (off + (flatA rows).length)).toArray := by
    unfold Wb.splice
    simp only [List.size_toArray, List.append_assoc]
  rw [hsp]
  have hl := run_loadCells_list (P := P) w ⟨sg, soff, none⟩ (flatA rows) (fun j u hj => by
    rw [addr_add]
    exact flat_cells hr hsz hrd j u hj)
  rw [hlf] at hl
  cases hq : P.info? e with
  | none => simp [hq] at hs
  | some i =>
    have hi : i.size = sz := by simpa [hq] using hs
    simp [Builtin.copy_, run_underlying hu, Builtin.lenOf, Builtin.firstCells, Go.sizeOf, typeInfo, hq, hi, hn', hl, hst]
theorem wl_copyB (hgd : o.guard = none) (d s : Operand) (dT sT : TypeId) (ho : o.op = .call { callee := .builtin .copy, args := #[d, s], argTypes := #[dT, sT] }) (e : TypeId) (sz : Nat) (hu : P.underlying dT = some (.slice e)) (hs : (P.info? e).map (·.size) = some sz) (hsz : 0 < sz)
    (g off dLen dCap : Nat) (hd : a.eval d = .slice (some ⟨g, off, none⟩) dLen dCap) (sg soff sn sc : Nat) (hsv : a.eval s = .slice (some ⟨sg, soff, none⟩) sn sc) (rows : List (Array Value)) (hr : ∀ r ∈ rows, r.size = sz) (hrd : ∀ (j : Nat) r, rows[j]? = some r → w.rangeAt sg (soff + j * sz) r.toList)
    (C : Array Value) (t : TypeId) (hb : w.heap[g]? = some (.cells C t (0, 0))) (n : Nat) (hn : n = min sn dLen) (hrl : rows.length = n) (hfit : off + n * sz ≤ C.size) (h1 : ∀ r ∈ rows, r.all (·.oneCell') = true)
    (hK : ∀ w', w'.heap[g]? = some (.cells (Wb.splice C off (flatA rows).toArray) t (0, 0)) → Keeps w w' (· = g) → wpList P ops Q rest (a.put o.dst (goInt n)) w') : wpList P ops Q (o :: rest) a w := by
  refine wpList_plain hgd fun K' hK' => ?_
  have hrun := run_copyB (P := P) (w := w) dT sT o.type e g off dLen dCap sg soff sn sc rows sz hu hs hsz C t hb hr hrd n hn hrl hfit h1
  unfold Oper.wp execOp
  simp only [ho, resolve, invoke, builtin, Sem.run_bind, Sem.run_pure, Result.andThen_ok, List.map_toArray, List.map_cons, List.map_nil, hd, hsv, hrun]
  exact hK' _ _ (hK _ (setRow_heap w g C _ t _ hb) ((Keeps.refl w (· = g)).setRow (fun _ => rfl) _))
/-- append(s, make([]T, k)...) where there is no room: a block of its own. -/
theorem wl_appendZN (hg : o.guard = none) (s x : Operand) (t ti : TypeId) (hop : o.op = .call { callee := .builtin .append, args := #[s, x], argTypes := #[t, ti] })
    (e : TypeId) (z : Value) (sz by1 : Nat) (ht : P.underlying t = some (.slice e)) (hti : P.underlying ti = some (.int .i64)) (h2 : (P.info? e).map (fun i => (i.zero, i.size, i.bytes)) = some (some z, sz, by1)) (hz : z.cells.size = sz) (hsz : 0 < sz) 
    (lo : Nat) (g n c : Nat) (rows : List (Array Value)) (hs : a.eval s = .slice (some ⟨g, 0, none⟩) n c) (hown : isOwnA w lo e sz (.slice (some ⟨g, 0, none⟩) n c) rows) (k : Nat) (K : Int) (hx : a.eval x = .int .i64 K) (hK2 : K = k) (hno : c < n + k) (h63 : n + k ≤ maxLen) (hb : (n + k) * by1 ≤ 140737488355328)
    (hK : ∀ B cap C w', w.heap.size ≤ B → n + k ≤ cap → cap ≤ maxLen → C.size = cap * sz → C.toList.take (n * sz) = flatA rows → w'.heap[B]? = some (.cells C e (0, 0)) → Keeps w w' (fun _ => False) → wpList P ops Q rest (a.put o.dst (.slice (some ⟨B, 0, none⟩) (n + k) cap)) w') : wpList P ops Q (o :: rest) a w := by
  refine wpList_plain hg fun K' hK' => ?_
  obtain ⟨i, hi, hz0, hs0, hb0⟩ := info_parts' h2
  obtain ⟨hr, hown⟩ := hown
  have hfl := flatA_len hr
  rcases hown.2 with ⟨he, _⟩ | ⟨g', cap, cur, he, hbg, hg', hnc, hcm, hcs, htake⟩
  · cases he
  injection he with e1 e2 e3
  injection e1 with e1
  injection e1 with e1
  subst e1 e3
  rw [← e2] at hfl htake
  have hk63 : (k : Int) ≤ 9223372036854775807 := by simp only [maxLen] at h63; omega
  have hwk : IntKind.i64.wrap (k : Int) = k := i64_smallK _ (by omega) hk63
  have hkb : k * by1 ≤ 140737488355328 := Nat.le_trans (Nat.mul_le_mul_right _ (by omega)) hb
  have hkb' : ¬ (281474976710656 < (k : Int) * (by1 : Int)) := by
    have h := Int.ofNat_le.2 hkb
    rw [Int.natCast_mul] at h
    omega
  have hk0 : ¬ ((k : Int) < 0) := by omega
  have hnc' : n ≤ c := by rw [e2]; exact hnc
  have hn3 : ¬ sz = 0 := by omega
  have hm : ¬ k = 0 := by omega
  have hn4 : ¬ k * sz = 0 := Nat.mul_ne_zero hm hn3
  have holds : ∀ j u, (flatA rows)[j]? = some u → w.cell? ((⟨g, 0, none⟩ : Addr).add j) = some u := fun j u hj => by
    rw [addr_add, Nat.zero_add, cellA_of hg']
    rw [← htake] at hj
    have h9 := (List.getElem?_eq_some_iff.1 hj).1
    rw [List.length_take] at h9
    rw [List.getElem?_take_of_lt (by omega)] at hj
    simpa using hj
  have hfo := run_firstCells_some (P := P) w.drew sz n ⟨g, 0, none⟩ n c (flatA rows) hfl (by simpa using holds)
  have h63' : ¬ (9223372036854775807 < (n : Int) + (k : Int)) := by simp only [maxLen] at h63; omega
  have h48' : ¬ (281474976710656 < Builtin.nextslicecap (n + k) c * by1) := by have := growslice_fits (need := n + k) (old := c) (by omega) hb; omega
  have hroom : ¬ n + k ≤ c := by omega
  have hrun : (Builtin.append_ #[t, ti] o.type #[.slice (some ⟨g, 0, none⟩) n c, .int .i64 k]).run P w = .ok (.slice (some ⟨w.heap.size, 0, none⟩) (n + k) (grownCap w (n + k) c e)) (w.drew.alloc (.cells ((flatA rows).toArray ++ Builtin.zeroCells z.cells k ++ Builtin.zeroCells z.cells (grownCap w (n + k) c e - (n + k))) e)) := by
    simp [Builtin.append_, run_underlying ht, run_underlying hti, Go.sizeOf, typeInfo, zeroValue, hi, hz0, hs0, hb0, asInt, asIntOf, hwk, hk0, hkb', hm, hn3, hn4, hroom, h63', h48', Question.forced, hfo, newRow, grownCap]
  unfold Oper.wp execOp
  simp only [hop, resolve, invoke, builtin, Sem.run_bind, Sem.run_pure, Result.andThen_ok, List.map_toArray, List.map_cons, List.map_nil, hs, hx, hK2, hrun]
  refine hK' _ _ (hK w.heap.size (grownCap w (n + k) c e) _ _ (Nat.le_refl _) (grownCap_ge w (n + k) c e) (grownCap_le_maxLen w (n + k) c e h63) ?_ ?_ (heap_alloc_new w.drew _) ((Keeps.refl w _).drew.alloc _))
  · have hge := grownCap_ge w (n + k) c e
    simp only [Array.size_append, List.size_toArray, size_zeroCells, hz, hfl]
    rw [← Nat.add_mul, ← Nat.add_mul]
    congr 1
    omega
  · simp only [Array.toList_append, List.append_assoc]
    rw [← hfl]
    exact List.take_left
end Wb
