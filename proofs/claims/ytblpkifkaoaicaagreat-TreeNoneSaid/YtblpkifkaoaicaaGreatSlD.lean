import Derived.Test.YtblpkifkaoaicaaGreatSlC
/-! append where there is room, append(s, make([]T, k)...) where there is none; the library's Insert and Delete stand on these. -/
namespace Wb
open Go Go.RowKit Go.Maps Go.MapKept Go.ChangeMaps
variable {P : Program} {w w' : World} {ops : Array Oper} {rest : List Oper} {o : Oper} {a : Act} {Q : Exit → Act → World → Prop}

/-- copy of structs into a block that is known whole; what is not copied need not be storable. -/
theorem run_copyB (dT sT ty e : TypeId) (g off dLen dCap : Nat) (sg soff sn sc : Nat) (rows : List (Array Value)) (sz : Nat) (hu : P.underlying dT = some (.slice e)) (hs : (P.info? e).map (·.size) = some sz) (hsz : 0 < sz)
    (C : Array Value) (t : TypeId) (hb : w.heap[g]? = some (.cells C t (0, 0))) (hr : ∀ r ∈ rows, r.size = sz) (hrd : ∀ (j : Nat) r, rows[j]? = some r → w.rangeAt sg (soff + j * sz) r.toList) (n : Nat) (hn : n = min sn dLen) (hrl : rows.length = n) (hfit : off + n * sz ≤ C.size) (h1 : ∀ r ∈ rows, r.all (·.oneCell') = true) :
    (Builtin.copy_ #[dT, sT] ty #[.slice (some ⟨g, off, none⟩) dLen dCap, .slice (some ⟨sg, soff, none⟩) sn sc]).run P w = .ok (goInt n) (w.setRow g (Wb.splice C off (flatA rows).toArray)) := by
  have hn' : Nat.min sn dLen = n := hn.symm
  have hlf : (flatA rows).length = n * sz := by rw [flatA_len hr, hrl]
  have hst := run_storeCells_at (P := P) g off t (flatA rows) 0 C w hb (by rw [hlf]; simpa using hfit) (flatA_one h1)
  simp only [Nat.add_zero] at hst
  have hsp : Wb.splice C off (flatA rows).toArray = (C.toList.take off ++ flatA rows ++ C.toList.drop (off + (flatA rows).length)).toArray := by
    unfold Wb.splice
    simp only [List.size_toArray, List.append_assoc]
  rw [hsp]
  have hl := run_loadCells_list (P := P) w ⟨sg, soff, none⟩ (flatA rows) (fun j u hj => by
    rw [addr_add]
    exact flat_cells hr hsz hrd j u hj)
  rw [hlf] at hl
  cases hq : P.info? e with
  | none => simp [hq] at hs
  | some i =>
    have hi : i.size = sz := by simpa [hq] using hs
    simp [Builtin.copy_, run_underlying hu, Builtin.lenOf, Builtin.firstCells, Go.sizeOf, typeInfo, hq, hi, hn', hl, hst]
theorem wl_copyB (hgd : o.guard = none) (d s : Operand) (dT sT : TypeId) (ho : o.op = .call { callee := .builtin .copy, args := #[d, s], argTypes := #[dT, sT] }) (e : TypeId) (sz : Nat) (hu : P.underlying dT = some (.slice e)) (hs : (P.info? e).map (·.size) = some sz) (hsz : 0 < sz)
    (g off dLen dCap : Nat) (hd : a.eval d = .slice (some ⟨g, off, none⟩) dLen dCap) (sg soff sn sc : Nat) (hsv : a.eval s = .slice (some ⟨sg, soff, none⟩) sn sc) (rows : List (Array Value)) (hr : ∀ r ∈ rows, r.size = sz) (hrd : ∀ (j : Nat) r, rows[j]? = some r → w.rangeAt sg (soff + j * sz) r.toList)
    (C : Array Value) (t : TypeId) (hb : w.heap[g]? = some (.cells C t (0, 0))) (n : Nat) (hn : n = min sn dLen) (hrl : rows.length = n) (hfit : off + n * sz ≤ C.size) (h1 : ∀ r ∈ rows, r.all (·.oneCell') = true)
    (hK : ∀ w', w'.heap[g]? = some (.cells (Wb.splice C off (flatA rows).toArray) t (0, 0)) → Keeps w w' (· = g) → wpList P ops Q rest (a.put o.dst (goInt n)) w') : wpList P ops Q (o :: rest) a w := by
  refine wpList_plain hgd fun K' hK' => ?_
  have hrun := run_copyB (P := P) (w := w) dT sT o.type e g off dLen dCap sg soff sn sc rows sz hu hs hsz C t hb hr hrd n hn hrl hfit h1
  unfold Oper.wp execOp
  simp only [ho, resolve, invoke, builtin, Sem.run_bind, Sem.run_pure, Result.andThen_ok, List.map_toArray, List.map_cons, List.map_nil, hd, hsv, hrun]
  exact hK' _ _ (hK _ (setRow_heap w g C _ t _ hb) ((Keeps.refl w (· = g)).setRow (fun _ => rfl) _))
/-- append(s, xs..) where there is room. -/
theorem run_appendRoom (t ty e : TypeId) (sz : Nat) (ht : P.underlying t = some (.slice e)) (hs : (P.info? e).map (·.size) = some sz) (hsz : 0 < sz) (g k c : Nat) (sg soff sn sc : Nat) (rows : List (Array Value)) (hr : ∀ r ∈ rows, r.size = sz) (hrl : rows.length = sn) (hrd : ∀ (j : Nat) r, rows[j]? = some r → w.rangeAt sg (soff + j * sz) r.toList)
    (C : Array Value) (t' : TypeId) (hb : w.heap[g]? = some (.cells C t' (0, 0))) (hroom : k + sn ≤ c) (hC : C.size = c * sz) (h1 : ∀ r ∈ rows, r.all (·.oneCell') = true) (hti : ∀ kd, P.underlying t ≠ some (.int kd)) :
    (Builtin.append_ #[t, t] ty #[.slice (some ⟨g, 0, none⟩) k c, .slice (some ⟨sg, soff, none⟩) sn sc]).run P w = .ok (.slice (some ⟨g, 0, none⟩) (k + sn) c) (w.setRow g (Wb.splice C (k * sz) (flatA rows).toArray)) := by
  have hlf : (flatA rows).length = sn * sz := by rw [flatA_len hr, hrl]
  have hst := run_storeCells_at (P := P) g (k * sz) t' (flatA rows) 0 C w hb (by rw [hlf, hC, Nat.add_zero, ← Nat.add_mul]; exact Nat.mul_le_mul_right _ hroom) (flatA_one h1)
  simp only [Nat.add_zero] at hst
  have hsp : Wb.splice C (k * sz) (flatA rows).toArray = (C.toList.take (k * sz) ++ flatA rows ++ C.toList.drop (k * sz + (flatA rows).length)).toArray := by
    unfold Wb.splice
    simp only [List.size_toArray, List.append_assoc]
  rw [hsp]
  have hl := run_loadCells_list (P := P) w ⟨sg, soff, none⟩ (flatA rows) (fun j u hj => by
    rw [addr_add]
    exact flat_cells hr hsz hrd j u hj)
  rw [hlf] at hl
  cases hq : P.info? e with
  | none => simp [hq] at hs
  | some i =>
    have hi : i.size = sz := by simpa [hq] using hs
    simp [Builtin.append_, run_underlying ht, Builtin.lenOf, Builtin.firstCells, Go.sizeOf, typeInfo, hq, hi, hroom, hl, addr_add, hst]
theorem wl_appendRoom (hgd : o.guard = none) (s x : Operand) (t : TypeId) (hop : o.op = .call { callee := .builtin .append, args := #[s, x], argTypes := #[t, t] }) (e : TypeId) (sz : Nat) (ht : P.underlying t = some (.slice e)) (hs : (P.info? e).map (·.size) = some sz) (hsz : 0 < sz)
    (g k c : Nat) (hsv : a.eval s = .slice (some ⟨g, 0, none⟩) k c) (sg soff sn sc : Nat) (hxv : a.eval x = .slice (some ⟨sg, soff, none⟩) sn sc) (rows : List (Array Value)) (hr : ∀ r ∈ rows, r.size = sz) (hrl : rows.length = sn) (hrd : ∀ (j : Nat) r, rows[j]? = some r → w.rangeAt sg (soff + j * sz) r.toList)
    (C : Array Value) (t' : TypeId) (hb : w.heap[g]? = some (.cells C t' (0, 0))) (hroom : k + sn ≤ c) (hC : C.size = c * sz) (h1 : ∀ r ∈ rows, r.all (·.oneCell') = true)
    (hK : ∀ w', w'.heap[g]? = some (.cells (Wb.splice C (k * sz) (flatA rows).toArray) t' (0, 0)) → Keeps w w' (· = g) → wpList P ops Q rest (a.put o.dst (.slice (some ⟨g, 0, none⟩) (k + sn) c)) w') : wpList P ops Q (o :: rest) a w := by
  refine wpList_plain hgd fun K' hK' => ?_
  have hrun := run_appendRoom (P := P) (w := w) t o.type e sz ht hs hsz g k c sg soff sn sc rows hr hrl hrd C t' hb hroom hC h1 (fun kd h => by rw [ht] at h; cases h)
  unfold Oper.wp execOp
  simp only [hop, resolve, invoke, builtin, Sem.run_bind, Sem.run_pure, Result.andThen_ok, List.map_toArray, List.map_cons, List.map_nil, hsv, hxv, hrun]
  exact hK' _ _ (hK _ (setRow_heap w g C _ t' _ hb) ((Keeps.refl w (· = g)).setRow (fun _ => rfl) _))
/-- append(s, make([]T, k)...) where there is no room: a block of its own. -/
theorem wl_appendZN (hg : o.guard = none) (s x : Operand) (t ti : TypeId) (hop : o.op = .call { callee := .builtin .append, args := #[s, x], argTypes := #[t, ti] })
    (e : TypeId) (z : Value) (sz by1 : Nat) (ht : P.underlying t = some (.slice e)) (hti : P.underlying ti = some (.int .i64)) (h2 : (P.info? e).map (fun i => (i.zero, i.size, i.bytes)) = some (some z, sz, by1)) (hz : z.cells.size = sz) (hsz : 0 < sz) 
    (lo : Nat) (g n c : Nat) (rows : List (Array Value)) (hs : a.eval s = .slice (some ⟨g, 0, none⟩) n c) (hown : isOwnA w lo e sz (.slice (some ⟨g, 0, none⟩) n c) rows) (k : Nat) (K : Int) (hx : a.eval x = .int .i64 K) (hK2 : K = k) (hno : c < n + k) (h63 : n + k ≤ maxLen) (hb : (n + k) * by1 ≤ 140737488355328)
    (hK : ∀ B cap C w', w.heap.size ≤ B → n + k ≤ cap → cap ≤ maxLen → C.size = cap * sz → C.toList.take (n * sz) = flatA rows → w'.heap[B]? = some (.cells C e (0, 0)) → Keeps w w' (fun _ => False) → wpList P ops Q rest (a.put o.dst (.slice (some ⟨B, 0, none⟩) (n + k) cap)) w') : wpList P ops Q (o :: rest) a w := by
  refine wpList_plain hg fun K' hK' => ?_
  obtain ⟨i, hi, hz0, hs0, hb0⟩ := info_parts' h2
  obtain ⟨hr, hown⟩ := hown
  have hfl := flatA_len hr
  rcases hown.2 with ⟨he, _⟩ | ⟨g', cap, cur, he, hbg, hg', hnc, hcm, hcs, htake⟩
  · cases he
  injection he with e1 e2 e3
  injection e1 with e1
  injection e1 with e1
  subst e1 e3
  rw [← e2] at hfl htake
  have hk63 : (k : Int) ≤ 9223372036854775807 := by simp only [maxLen] at h63; omega
  have hwk : IntKind.i64.wrap (k : Int) = k := i64_smallK _ (by omega) hk63
  have hkb : k * by1 ≤ 140737488355328 := Nat.le_trans (Nat.mul_le_mul_right _ (by omega)) hb
  have hkb' : ¬ (281474976710656 < (k : Int) * (by1 : Int)) := by
    have h := Int.ofNat_le.2 hkb
    rw [Int.natCast_mul] at h
    omega
  have hk0 : ¬ ((k : Int) < 0) := by omega
  have hnc' : n ≤ c := by rw [e2]; exact hnc
  have hn3 : ¬ sz = 0 := by omega
  have hm : ¬ k = 0 := by omega
  have hn4 : ¬ k * sz = 0 := Nat.mul_ne_zero hm hn3
  have holds : ∀ j u, (flatA rows)[j]? = some u → w.cell? ((⟨g, 0, none⟩ : Addr).add j) = some u := fun j u hj => by
    rw [addr_add, Nat.zero_add, cellA_of hg']
    rw [← htake] at hj
    have h9 := (List.getElem?_eq_some_iff.1 hj).1
    rw [List.length_take] at h9
    rw [List.getElem?_take_of_lt (by omega)] at hj
    simpa using hj
  have hfo := run_firstCells_some (P := P) w.drew sz n ⟨g, 0, none⟩ n c (flatA rows) hfl (by simpa using holds)
  have h63' : ¬ (9223372036854775807 < (n : Int) + (k : Int)) := by simp only [maxLen] at h63; omega
  have h48' : ¬ (281474976710656 < Builtin.nextslicecap (n + k) c * by1) := by have := growslice_fits (need := n + k) (old := c) (by omega) hb; omega
  have hroom : ¬ n + k ≤ c := by omega
  have hrun : (Builtin.append_ #[t, ti] o.type #[.slice (some ⟨g, 0, none⟩) n c, .int .i64 k]).run P w = .ok (.slice (some ⟨w.heap.size, 0, none⟩) (n + k) (grownCap w (n + k) c e)) (w.drew.alloc (.cells ((flatA rows).toArray ++ Builtin.zeroCells z.cells k ++ Builtin.zeroCells z.cells (grownCap w (n + k) c e - (n + k))) e)) := by
    simp [Builtin.append_, run_underlying ht, run_underlying hti, Go.sizeOf, typeInfo, zeroValue, hi, hz0, hs0, hb0, asInt, asIntOf, hwk, hk0, hkb', hm, hn3, hn4, hroom, h63', h48', Question.forced, hfo, newRow, grownCap]
  unfold Oper.wp execOp
  simp only [hop, resolve, invoke, builtin, Sem.run_bind, Sem.run_pure, Result.andThen_ok, List.map_toArray, List.map_cons, List.map_nil, hs, hx, hK2, hrun]
  refine hK' _ _ (hK w.heap.size (grownCap w (n + k) c e) _ _ (Nat.le_refl _) (grownCap_ge w (n + k) c e) (grownCap_le_maxLen w (n + k) c e h63) ?_ ?_ (heap_alloc_new w.drew _) ((Keeps.refl w _).drew.alloc _))
  · have hge := grownCap_ge w (n + k) c e
    simp only [Array.size_append, List.size_toArray, size_zeroCells, hz, hfl]
    rw [← Nat.add_mul, ← Nat.add_mul]
    congr 1
    omega
  · simp only [Array.toList_append, List.append_assoc]
    rw [← hfl]
    exact List.take_left
/-- s[i:j:k], for its bounds alone. -/
theorem wl_cut3 (hg : o.guard = none) (t e : TypeId) (x lo hi mx : Operand) (hop : o.op = .slice t x (some lo) (some hi) (some mx)) (ht : P.underlying t = some (.slice e)) (sz : Nat) (hsz : (P.info? e).map (·.size) = some sz) (ad : Option Addr) (n c : Nat) (hx : a.eval x = .slice ad n c)
    (l h m : Nat) (L H M : Int) (hlo : a.eval lo = .int .i64 L) (hhi : a.eval hi = .int .i64 H) (hmx : a.eval mx = .int .i64 M) (hL : L = l) (hH : H = h) (hM : M = m) (h1 : l ≤ h) (h2 : h ≤ m) (h3 : m ≤ c)
    (hK : wpList P ops Q rest (a.put o.dst (.slice (cutA ad m l sz) (h - l) (m - l))) w) : wpList P ops Q (o :: rest) a w := by
  refine wpList_plain hg fun K' hK' => ?_
  have hs : (Go.sizeOf e).run P w = .ok sz w := by
    cases hq : P.info? e with
    | none => simp [hq] at hsz
    | some i => have : i.size = sz := by simpa [hq] using hsz
                simp [Go.sizeOf, typeInfo, hq, this]
  have hrun : (Instr.sliceAt t (.slice ad n c) (some (.int .i64 L)) (some (.int .i64 H)) (some (.int .i64 M))).run P w = .ok (.slice (cutA ad m l sz) (h - l) (m - l)) w := by
    have a1 : (0 : Int) ≤ l := by omega
    have a2 : (l : Int) ≤ h := by omega
    have a3 : (0 : Int) ≤ h := by omega
    have a4 : (h : Int) ≤ m := by omega
    have a5 : (0 : Int) ≤ m := by omega
    have a6 : (m : Int) ≤ c := by omega
    rw [hL, hH, hM]
    simp [Instr.sliceAt, Instr.slice, run_underlying ht, Instr.sliceBounds, run_sliceBound, hs, a1, a2, a3, a4, a5, a6, cutA, h1, h2, h3]
  unfold Oper.wp execOp
  simp only [hop, hx, hlo, hhi, hmx, Option.map_some, hrun, Sem.run_bind, Sem.run_pure, Result.andThen_ok]
  exact hK' _ _ hK
theorem ws_cutH {Qs : Act → Prop} (hg : o.guard = none) (t e : TypeId) (x : Operand) (hi : Option Operand) (hop : o.op = .slice t x none hi none) (ht : P.underlying t = some (.slice e)) (sz : Nat) (hsz : (P.info? e).map (·.size) = some sz) (ad : Option Addr) (n c : Nat) (hx : a.eval x = .slice ad n c)
    (h : Nat) (H : Int) (hhi : hi.map a.eval = some (.int .i64 H)) (hH : H = h) (h2 : h ≤ c)
    (hK : wpStill P ops w Qs rest (a.put o.dst (.slice ad h c))) : wpStill P ops w Qs (o :: rest) a := by
  refine wpStill_step fun K hK' => ?_
  rw [if_pos (by simp [Region.wanted, hg])]
  have hrun := run_cutH (P := P) (w := w) t e ht sz hsz ad n c h H hH h2
  unfold Oper.still execOp
  simp only [hop, hx, hhi, Option.map_none, hrun, Sem.run_bind, Sem.run_pure, Result.andThen_ok]
  exact ⟨rfl, hK' _ hK⟩
theorem splice_take {C : Array Value} {off : Nat} {V : List Value} {n : Nat} (h1 : off + V.length ≤ C.size) (h2 : off ≤ n) : (Wb.splice C off V.toArray).toList.take n = (C.toList.take off ++ V ++ C.toList.drop (off + V.length)).take n := by
  unfold Wb.splice
  simp [List.append_assoc]
end Wb
