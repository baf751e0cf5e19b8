import Derived.Test.YtblpkifkaoaicaaGreatYRegV
import Derived.Test.YtblpkifkaoaicaaGreatYApZ
import Derived.Laws.CopyRow
/-! Slices of structs: copy, clear, append(s, make([]T, k)...), parts. -/
namespace Wb
open Go Go.RowKit Go.Maps Go.MapKept Go.ChangeMaps
variable {P : Program} {w w' : World} {ops : Array Oper} {rest : List Oper} {o : Oper} {a : Act} {Q : Exit → Act → World → Prop}

theorem addr_add (g off j : Nat) : (⟨g, off, none⟩ : Addr).add j = ⟨g, off + j, none⟩ := by
  unfold Addr.add
  split
  · rename_i h0; rw [h0]; rfl
  · rfl
theorem flat_cells {sz g off : Nat} {rows : List (Array Value)} (hn : ∀ r ∈ rows, r.size = sz) (hsz : 0 < sz) (hb : ∀ (j : Nat) r, rows[j]? = some r → w.rangeAt g (off + j * sz) r.toList) :
    ∀ j u, (flatA rows)[j]? = some u → w.cell? ⟨g, off + j, none⟩ = some u := by
  intro j u hj
  obtain ⟨r, h3, h4⟩ := flatA_at hn hsz hj
  have h5 := hb _ r h3 _ u h4
  have e2 : off + j / sz * sz + j % sz = off + j := by rw [Nat.add_assoc, show j / sz * sz + j % sz = j from by rw [Nat.mul_comm]; exact Nat.div_add_mod j sz]
  rw [e2] at h5
  exact h5
theorem flatA_one {rows : List (Array Value)} (h1 : ∀ r ∈ rows, r.all (·.oneCell') = true) : ∀ u ∈ flatA rows, u.oneCell' = true := by
  intro u hu
  unfold flatA at hu
  obtain ⟨r, hr, hu⟩ := List.mem_flatMap.1 hu
  exact (Array.all_eq_true_iff_forall_mem.1 (h1 r hr)) u (by simpa using hu)
theorem flatA_take {sz : Nat} {rows : List (Array Value)} (h : ∀ r ∈ rows, r.size = sz) (n : Nat) : flatA (rows.take n) = (flatA rows).take (n * sz) := by
  induction rows generalizing n with
  | nil => simp [flatA]
  | cons r t ih =>
    cases n with
    | zero => simp [flatA]
    | succ n =>
      have hr := h r (by simp)
      rw [List.take_succ_cons]
      show flatA (r :: t.take n) = (flatA (r :: t)).take _
      have e1 : ∀ l, flatA (r :: l) = r.toList ++ flatA l := fun l => by simp [flatA]
      have hl : r.toList.length = sz := by rw [Array.length_toList, hr]
      rw [e1, e1, ih (fun x hx => h x (by simp [hx])), List.take_append, hl, Nat.succ_mul, Nat.add_sub_cancel, List.take_of_length_le (l := r.toList) (by rw [hl]; omega)]
theorem zeroCells_flat {sz : Nat} {zc : Array Value} (h : zc.size = sz) (hsz : 0 < sz) (k : Nat) : (Builtin.zeroCells zc k).toList = flatA (List.replicate k zc) := by
  have hn : ∀ r ∈ List.replicate k zc, r.size = sz := fun r hr => by rw [List.eq_of_mem_replicate hr]; exact h
  have hl : (flatA (List.replicate k zc)).length = k * sz := by rw [flatA_len hn, List.length_replicate]
  apply List.ext_getElem?
  intro j
  by_cases hj : j < k * sz
  · have hm : j % sz < sz := Nat.mod_lt _ hsz
    have hd : j / sz < k := by rw [Nat.div_lt_iff_lt_mul hsz]; exact hj
    have h1 : (List.replicate k zc)[j / sz]? = some zc := by rw [List.getElem?_replicate, if_pos hd]
    have h2 : zc.toList[j % sz]? = some (zc[j % sz]'(by omega)) := by simp [h, hm]
    have h3 := flatA_get hn h1 h2
    rw [show j / sz * sz + j % sz = j from by rw [Nat.mul_comm]; exact Nat.div_add_mod j sz] at h3
    rw [h3]
    unfold Builtin.zeroCells
    simp only [Array.toList_map, Array.toList_range, h]
    rw [List.getElem?_map, List.getElem?_range hj]
    simp only [Option.map_some]
    rw [getElem!_pos zc _ (by omega)]
  · rw [List.getElem?_eq_none (by rw [Array.length_toList, size_zeroCells, h]; omega), List.getElem?_eq_none (by rw [hl]; omega)]
theorem run_appendZA (t ti ty e : TypeId) (z : Value) (sz by1 : Nat) (ht : P.underlying t = some (.slice e)) (hti : P.underlying ti = some (.int .i64)) (h2 : (P.info? e).map (fun i => (i.zero, i.size, i.bytes)) = some (some z, sz, by1)) (hz : z.cells.size = sz) (hsz : 0 < sz) (hz1 : ∀ u ∈ z.cells, u.oneCell' = true)
    (lo : Nat) (v : Value) (rows : List (Array Value)) (hown : isOwnA w lo e sz v rows) (k : Nat) (h63 : rows.length + k ≤ maxLen) (hb : (rows.length + k) * by1 ≤ 140737488355328) (hlo : lo ≤ w.heap.size) :
    ∃ v' w', (Builtin.append_ #[t, ti] ty #[v, .int .i64 k]).run P w = .ok v' w' ∧ AppendedA w lo e sz v (rows ++ List.replicate k z.cells) v' w' := by
  obtain ⟨i, hi, hz0, hs0, hb0⟩ := info_parts' h2
  have hk63 : (k : Int) ≤ 9223372036854775807 := by simp only [maxLen] at h63; omega
  have hwk : IntKind.i64.wrap (k : Int) = k := i64_smallK _ (by omega) hk63
  have hkb : k * by1 ≤ 140737488355328 := Nat.le_trans (Nat.mul_le_mul_right _ (by omega)) hb
  have hkb' : ¬ (281474976710656 < (k : Int) * (by1 : Int)) := by
    have h := Int.ofNat_le.2 hkb
    rw [Int.natCast_mul] at h
    omega
  have hk0 : ¬ ((k : Int) < 0) := by omega
  obtain ⟨hr, hown⟩ := hown
  have hrz : ∀ r ∈ rows ++ List.replicate k z.cells, r.size = sz := fun r h => by
    rcases List.mem_append.1 h with h | h
    · exact hr r h
    · rw [List.eq_of_mem_replicate h]; exact hz
  have hfl := flatA_len hr
  have hzl : (Builtin.zeroCells z.cells k).toList.length = k * sz := by rw [Array.length_toList, size_zeroCells, hz]
  have hfa : flatA (rows ++ List.replicate k z.cells) = flatA rows ++ (Builtin.zeroCells z.cells k).toList := by rw [flatA_app, zeroCells_flat hz hsz]
  have hnews1 : ∀ u ∈ (Builtin.zeroCells z.cells k).toList, u.oneCell' = true := by
    intro u hu
    rw [zeroCells_flat hz hsz] at hu
    unfold flatA at hu
    obtain ⟨r, hr2, hu⟩ := List.mem_flatMap.1 hu
    rw [List.eq_of_mem_replicate hr2] at hu
    exact hz1 u (by simpa using hu)
  have hlen : (rows ++ List.replicate k z.cells).length = rows.length + k := by simp
  have grown : ∀ (old : Nat), old < rows.length + k → ∀ (row : Option Nat),
      isOwnA (w.drew.alloc (.cells ((flatA rows).toArray ++ Builtin.zeroCells z.cells k ++ Builtin.zeroCells z.cells (grownCap w (rows.length + k) old e - (rows.length + k))) e)) lo e sz (.slice (some ⟨w.heap.size, 0, none⟩) (rows.length + k) (grownCap w (rows.length + k) old e)) (rows ++ List.replicate k z.cells) ∧
      w.grownBy (w.drew.alloc (.cells ((flatA rows).toArray ++ Builtin.zeroCells z.cells k ++ Builtin.zeroCells z.cells (grownCap w (rows.length + k) old e - (rows.length + k))) e)) row := by
    intro old ho row
    have hge := grownCap_ge w (rows.length + k) old e
    have hcm := grownCap_le_maxLen w (rows.length + k) old e h63
    refine ⟨⟨hrz, by rw [hlen, hfa, List.length_append, hfl, hzl, Nat.add_mul], .inr ⟨w.heap.size, _, _, by rw [hlen], hlo, heap_alloc_new w.drew _, by rw [hlen]; exact hge, hcm, ?_, ?_⟩⟩, ⟨rfl, rfl, rfl, by simp, fun j hj _ => Below.heap_alloc w.drew _ j hj⟩⟩
    · simp only [Array.size_append, List.size_toArray, size_zeroCells, hz, hfl]
      rw [← Nat.add_mul, ← Nat.add_mul]
      congr 1
      omega
    · simp only [Array.toList_append]
      have hl3 : (rows ++ List.replicate k z.cells).length * sz = (flatA rows ++ (Builtin.zeroCells z.cells k).toList).length := by rw [hlen, List.length_append, hfl, hzl, Nat.add_mul]
      rw [hfa, hl3]
      exact List.take_left
  rcases hown.2 with ⟨rfl, h0⟩ | ⟨g, cap, cur, rfl, hbg, hg, hnc, hcm, hcs, htake⟩
  · have := List.eq_nil_of_length_eq_zero h0
    subst this
    by_cases hm : k = 0
    · subst hm
      refine ⟨.slice none 0 0, w, ?_, by simpa using isOwnA_nil w lo e sz, Keeps.refl _ _, .inl rfl⟩
      simp [Builtin.append_, run_underlying ht, run_underlying hti, Go.sizeOf, typeInfo, hi, asInt, asIntOf, IntKind.wrap, IntKind.signed, IntKind.bits]
    · have hgr := grown 0 (by simp; omega) (Value.ownBlock (.slice none 0 0))
      simp only [List.length_nil, Nat.zero_add, List.nil_append] at hgr
      refine ⟨_, _, ?_, by simpa using hgr.1, (Keeps.refl w _).grown hgr.2 (fun k hk _ => hk.symm ▸ rfl), .inr rfl⟩
      have hn : ¬ k = 0 := hm
      have hn2 : ¬ (k = 0 ∨ sz = 0) := by omega
      have hn3 : ¬ sz = 0 := by omega
      have hn4 : ¬ k * sz = 0 := Nat.mul_ne_zero hn hn3
      have h63' : ¬ (9223372036854775807 < (k : Int)) := by omega
      have h48' : ¬ (281474976710656 < Builtin.nextslicecap k 0 * by1) := by rw [nextslicecap_zero (by omega)]; simp at hb; omega
      simp [Builtin.append_, run_underlying ht, run_underlying hti, Go.sizeOf, typeInfo, zeroValue, hi, hz0, hs0, hb0, asInt, asIntOf, hwk, hk0, hkb', hn, hn3, hn4, h63', h48', Question.forced, run_firstCells_none, newRow, grownCap, flatA]
  · by_cases hm : k = 0
    · subst hm
      refine ⟨.slice (some ⟨g, 0, none⟩) rows.length cap, w, ?_, by rw [show rows ++ List.replicate 0 z.cells = rows by simp]; exact ⟨hr, hown⟩, Keeps.refl _ _, .inl rfl⟩
      have hw0 : IntKind.i64.wrap 0 = 0 := by decide
      simp [Builtin.append_, run_underlying ht, run_underlying hti, Go.sizeOf, typeInfo, hi, hs0, hb0, asInt, asIntOf, hw0, hnc, Addr.add_lit, storeCells]
    · have hn3 : ¬ sz = 0 := by omega
      have hn4 : ¬ k * sz = 0 := Nat.mul_ne_zero hm hn3
      by_cases hroom : rows.length + k ≤ cap
      · have hst := run_storeCells_at P g (rows.length * sz) e (Builtin.zeroCells z.cells k).toList 0 cur w hg (by rw [hzl, hcs, Nat.add_zero, ← Nat.add_mul]; exact Nat.mul_le_mul_right _ hroom) hnews1
        simp only [Nat.add_zero] at hst
        refine ⟨.slice (some ⟨g, 0, none⟩) (rows.length + k) cap, w.setRow g (cur.toList.take (rows.length * sz) ++ (Builtin.zeroCells z.cells k).toList ++ cur.toList.drop (rows.length * sz + (Builtin.zeroCells z.cells k).toList.length)).toArray, ?_, ⟨hrz, by rw [hlen, hfa, List.length_append, hfl, hzl, Nat.add_mul], .inr ⟨g, cap, _, by simp, hbg, setRow_heap w g cur _ e _ hg, by simpa using hroom, hcm, ?_, ?_⟩⟩, (Keeps.refl w (fun b => (Value.slice (some ⟨g, 0, none⟩) rows.length cap).ownBlock = some b)).setRow (fun _ => rfl) _, .inl rfl⟩
        · simp [Builtin.append_, run_underlying ht, run_underlying hti, Go.sizeOf, typeInfo, zeroValue, hi, hz0, hs0, hb0, asInt, asIntOf, hwk, hk0, hkb', hm, hn3, hn4, hroom, Addr.add_lit, hst]
        · simp only [List.size_toArray, List.length_append, hzl, List.length_take, List.length_drop, Array.length_toList, hcs]
          have := Nat.mul_le_mul_right sz hroom
          rw [Nat.add_mul] at this
          omega
        · rw [htake, hlen, Nat.add_mul, ← hfl, ← hzl, ← List.length_append, hfa]
          exact List.take_left
      · have holds : ∀ j u, (flatA rows)[j]? = some u → w.cell? ((⟨g, 0, none⟩ : Addr).add j) = some u := fun j u hj => by
          rw [addr_add, Nat.zero_add, cellA_of hg]
          rw [← htake] at hj
          have h9 := (List.getElem?_eq_some_iff.1 hj).1
          rw [List.length_take] at h9
          rw [List.getElem?_take_of_lt (by omega)] at hj
          simpa using hj
        have hgr := grown cap (by omega) (Value.ownBlock (.slice (some ⟨g, 0, none⟩) rows.length cap))
        refine ⟨_, _, ?_, hgr.1, (Keeps.refl w _).grown hgr.2 (fun k hk _ => hk.symm ▸ rfl), .inr rfl⟩
        have hfo := run_firstCells_some (P := P) w.drew sz rows.length ⟨g, 0, none⟩ rows.length cap (flatA rows) hfl (by simpa using holds)
        have h63' : ¬ (9223372036854775807 < (rows.length : Int) + (k : Int)) := by simp only [maxLen] at h63; omega
        have h48' : ¬ (281474976710656 < Builtin.nextslicecap (rows.length + k) cap * by1) := by have := growslice_fits (need := rows.length + k) (old := cap) (by omega) hb; omega
        simp [Builtin.append_, run_underlying ht, run_underlying hti, Go.sizeOf, typeInfo, zeroValue, hi, hz0, hs0, hb0, asInt, asIntOf, hwk, hk0, hkb', hm, hn3, hn4, hroom, h63', h48', Question.forced, hfo, newRow, grownCap]
/-- .. at the operation. -/
theorem wl_appendZA (hg : o.guard = none) (s x : Operand) (t ti : TypeId) (hop : o.op = .call { callee := .builtin .append, args := #[s, x], argTypes := #[t, ti] })
    (e : TypeId) (z : Value) (sz by1 : Nat) (ht : P.underlying t = some (.slice e)) (hti : P.underlying ti = some (.int .i64)) (h2 : (P.info? e).map (fun i => (i.zero, i.size, i.bytes)) = some (some z, sz, by1)) (hz : z.cells.size = sz) (hsz : 0 < sz) (hz1 : ∀ u ∈ z.cells, u.oneCell' = true)
    (lo : Nat) (v : Value) (rows : List (Array Value)) (hs : a.eval s = v) (hown : isOwnA w lo e sz v rows) (k : Nat) (K : Int) (hx : a.eval x = .int .i64 K) (hK2 : K = k) (h63 : rows.length + k ≤ maxLen) (hb : (rows.length + k) * by1 ≤ 140737488355328) (hlo : lo ≤ w.heap.size)
    (hK : ∀ v' w', AppendedA w lo e sz v (rows ++ List.replicate k z.cells) v' w' → wpList P ops Q rest (a.put o.dst v') w') : wpList P ops Q (o :: rest) a w := by
  refine wpList_plain hg fun K' hK' => ?_
  obtain ⟨v', w', hr, hap⟩ := run_appendZA (P := P) (w := w) t ti o.type e z sz by1 ht hti h2 hz hsz hz1 lo v rows hown k h63 hb hlo
  unfold Oper.wp execOp
  simp only [hop, resolve, invoke, builtin, Sem.run_bind, Sem.run_pure, Result.andThen_ok, List.map_toArray, List.map_cons, List.map_nil, hs, hx, hK2, hr]
  exact hK' _ _ (hK v' w' hap)

/-- A part of a slice. -/
theorem isRdA.part {sz lo hi c : Nat} {ad ad' : Option Addr} {n : Nat} {rows : List (Array Value)} (h : isRdA w sz (.slice ad n c) rows) (h1 : lo ≤ hi) (h2 : hi ≤ n) (ha : ∀ g off, ad = some ⟨g, off, none⟩ → lo < c → ad' = some ⟨g, off + lo * sz, none⟩) : isRdA w sz (.slice ad' (hi - lo) (c - lo)) ((rows.take hi).drop lo) := by
  obtain ⟨ad0, cap, he, hcap, hrd⟩ := h
  injection he with e1 e2 e3
  subst e1 e2 e3
  have hl : ((rows.take hi).drop lo).length = hi - lo := by rw [List.length_drop, List.length_take]; omega
  refine ⟨ad', c - lo, by rw [hl], by rw [hl]; omega, fun j r hj => ?_⟩
  have hjl := (List.getElem?_eq_some_iff.1 hj).1
  rw [hl] at hjl
  rw [List.getElem?_drop, List.getElem?_take_of_lt (by omega)] at hj
  obtain ⟨g, off, rfl, h3, h4⟩ := hrd _ _ hj
  refine ⟨g, off + lo * sz, ha g off rfl (by omega), h3, ?_⟩
  rw [Nat.add_assoc, ← Nat.add_mul]
  exact h4
theorem isRd.part {lo hi c : Nat} {ad ad' : Option Addr} {n : Nat} {vs : List Value} (h : isRd w (.slice ad n c) vs) (h1 : lo ≤ hi) (h2 : hi ≤ n) (ha : ∀ g off, ad = some ⟨g, off, none⟩ → lo < c → ad' = some ⟨g, off + lo, none⟩) : isRd w (.slice ad' (hi - lo) (c - lo)) ((vs.take hi).drop lo) := by
  obtain ⟨ad0, cap, he, hcap, hrd⟩ := h
  injection he with e1 e2 e3
  subst e1 e2 e3
  have hl : ((vs.take hi).drop lo).length = hi - lo := by rw [List.length_drop, List.length_take]; omega
  refine ⟨ad', c - lo, by rw [hl], by rw [hl]; omega, fun j r hj => ?_⟩
  have hjl := (List.getElem?_eq_some_iff.1 hj).1
  rw [hl] at hjl
  rw [List.getElem?_drop, List.getElem?_take_of_lt (by omega)] at hj
  obtain ⟨g, off, rfl, h3, h4⟩ := hrd _ _ hj
  refine ⟨g, off + lo, ha g off rfl (by omega), h3, ?_⟩
  rw [Nat.add_assoc]
  exact h4
/-- append(s, xs...), whatever xs is. -/
theorem wl_appendRA (hg : o.guard = none) (s x : Operand) (t : TypeId) (hop : o.op = .call { callee := .builtin .append, args := #[s, x], argTypes := #[t, t] })
    (e : TypeId) (z : Value) (sz by1 : Nat) (ht : P.underlying t = some (.slice e)) (h2 : (P.info? e).map (fun i => (i.zero, i.size, i.bytes)) = some (some z, sz, by1)) (hz : z.cells.size = sz) (hsz : 0 < sz)
    (lo : Nat) (v : Value) (rows : List (Array Value)) (hs : a.eval s = v) (hown : isOwnA w lo e sz v rows) (src : Value) (news : List (Array Value)) (hx : a.eval x = src) (hsrc : isRdA w sz src news) (hsn : ∀ cap, src = .slice none 0 cap → cap = 0) (hn : ∀ r ∈ news, r.size = sz)
    (h1 : ∀ r ∈ news, r.all (·.oneCell') = true) (h63 : rows.length + news.length ≤ maxLen) (hby : (rows.length + news.length) * by1 ≤ 140737488355328) (hlo : lo ≤ w.heap.size)
    (hK : ∀ v' w', AppendedA w lo e sz v (rows ++ news) v' w' → wpList P ops Q rest (a.put o.dst v') w') : wpList P ops Q (o :: rest) a w := by
  refine wpList_plain hg fun K' hK' => ?_
  obtain ⟨i, hi, hz0, hs0, hb0⟩ := info_parts' h2
  have hrun : ∃ v' w', (Builtin.append_ #[t, t] o.type #[v, src]).run P w = .ok v' w' ∧ AppendedA w lo e sz v (rows ++ news) v' w' := by
    obtain ⟨ad, cap, rfl, hc1, hc3⟩ := hsrc
    cases ad with
    | none =>
      have hus : news = [] := by
        cases news with
        | nil => rfl
        | cons u r => obtain ⟨g, o, h, _⟩ := hc3 0 u rfl; cases h
      subst hus
      obtain rfl := hsn cap rfl
      exact ⟨v, w, run_append_owned_none (P := P) (w := w) lo t o.type e i sz ht hi v _ _ hown.2, by simpa using hown, Keeps.refl _ _, .inl rfl⟩
    | some ad =>
      obtain ⟨v', w', hr, ho, hgr, _, hat⟩ := run_append_own_at (P := P) w lo t o.type e i z sz by1 ht hi hz0 hs0 hb0 hz hsz v rows.length (flatA rows) hown.2 ad news.length cap (flatA news) (by rw [flatA_len hn]) (fun j u hj => by
        obtain ⟨r, h3, h4⟩ := flatA_at hn hsz hj
        obtain ⟨g, off, he, _, _⟩ := hc3 _ r h3
        cases he
        rw [addr_add]
        exact flat_cells hn hsz (fun j' r' hj' => by
          obtain ⟨g2, o2, he2, _, h5⟩ := hc3 j' r' hj'
          cases he2
          exact h5) j u hj) (flatA_one h1) h63 hby hlo
      refine ⟨v', w', hr, ⟨⟨fun q hq => ?_, ?_⟩, (Keeps.refl w _).grown hgr (fun k hk _ => hk.symm ▸ rfl), hat⟩⟩
      · rcases List.mem_append.1 hq with hq | hq
        · exact hown.1 q hq
        · exact hn q hq
      · rw [List.length_append, flatA_app]
        exact ho
  obtain ⟨v', w', hr, hap⟩ := hrun
  unfold Oper.wp execOp
  simp only [hop, resolve, invoke, builtin, Sem.run_bind, Sem.run_pure, Result.andThen_ok, List.map_toArray, List.map_cons, List.map_nil, hs, hx, hr]
  exact hK' _ _ (hK v' w' hap)
theorem isOwnA.cut {lo : Nat} {e : TypeId} {sz n c k : Nat} {ad : Option Addr} {rows : List (Array Value)} (h : isOwnA w lo e sz (.slice ad n c) rows) (hk : k ≤ n) : isOwnA w lo e sz (.slice ad k c) (rows.take k) := by
  obtain ⟨hr, h⟩ := h
  have hrt : ∀ r ∈ rows.take k, r.size = sz := fun r hq => hr r (List.mem_of_mem_take hq)
  rcases h.2 with ⟨he, h0⟩ | ⟨g, cap, cur, he, h1, h2, h3, h4, h5, h6⟩
  · injection he with e1 e2 e3
    subst e1 e2 e3
    obtain rfl : k = 0 := by omega
    simpa using isOwnA_nil w lo e sz
  · injection he with e1 e2 e3
    subst e1 e2 e3
    have hl : (rows.take k).length = k := by rw [List.length_take]; omega
    refine ⟨hrt, by rw [flatA_len hrt], .inr ⟨g, c, cur, by rw [hl], h1, h2, by rw [hl]; omega, h4, h5, ?_⟩⟩
    rw [hl, flatA_take hr, ← h6, List.take_take, Nat.min_eq_left (Nat.mul_le_mul_right _ hk)]
theorem isOwn.cut {lo : Nat} {e : TypeId} {n c k : Nat} {ad : Option Addr} {vs : List Value} (h : isOwn w lo e (.slice ad n c) vs) (hk : k ≤ n) : isOwn w lo e (.slice ad k c) (vs.take k) := by
  rcases h.2 with ⟨he, h0⟩ | ⟨g, cap, cur, he, h1, h2, h3, h4, h5, h6⟩
  · injection he with e1 e2 e3
    subst e1 e2 e3
    obtain rfl : k = 0 := by omega
    simpa using isOwn_nil w lo e
  · injection he with e1 e2 e3
    subst e1 e2 e3
    have hl : (vs.take k).length = k := by rw [List.length_take]; omega
    refine ⟨by simp, .inr ⟨g, c, cur, by rw [hl], h1, h2, by rw [hl]; omega, h4, h5, ?_⟩⟩
    rw [Nat.mul_one] at h6 ⊢
    rw [hl, ← h6, List.take_take, Nat.min_eq_left hk]
end Wb
