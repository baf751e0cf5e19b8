import Derived.Test.YtblpkifkaoaicaaGreatYSl
import Derived.Test.YtblpkifkaoaicaaGreatYRegB
/-! append(s, make([]T, k)...), s of the call's own, T of one cell. -/
namespace Wb
open Go Go.RowKit Go.Maps Go.MapKept Go.ChangeMaps
variable {P : Program} {w w' : World} {ops : Array Oper} {rest : List Oper} {o : Oper} {a : Act} {Q : Exit → Act → World → Prop}

theorem zeroCells_one (z : Value) (k : Nat) : Builtin.zeroCells #[z] k = (List.replicate k z).toArray := by
  apply Array.toList_inj.1
  apply List.ext_getElem?
  intro j
  unfold Builtin.zeroCells
  by_cases hj : j < k
  · simp [hj, Nat.mod_one]
  · simp [hj]
theorem run_appendZ (t ti ty e : TypeId) (z : Value) (by1 : Nat) (ht : P.underlying t = some (.slice e)) (hti : P.underlying ti = some (.int .i64)) (h2 : (P.info? e).map (fun i => (i.zero, i.size, i.bytes)) = some (some z, 1, by1)) (hz : z.cells = #[z]) (hz1 : z.oneCell' = true)
    (lo : Nat) (v : Value) (vs : List Value) (hown : isOwn w lo e v vs) (k : Nat) (h63 : vs.length + k ≤ maxLen) (hb : (vs.length + k) * by1 ≤ 140737488355328) (hlo : lo ≤ w.heap.size) :
    ∃ v' w', (Builtin.append_ #[t, ti] ty #[v, .int .i64 k]).run P w = .ok v' w' ∧ Appended w lo e v (vs ++ List.replicate k z) v' w' := by
  obtain ⟨i, hi, hz0, hs0, hb0⟩ := info_parts' h2
  have hk63 : (k : Int) ≤ 9223372036854775807 := by simp only [maxLen] at h63; omega
  have hwk : IntKind.i64.wrap (k : Int) = k := i64_smallK _ (by omega) hk63
  have hkb : k * by1 ≤ 140737488355328 := Nat.le_trans (Nat.mul_le_mul_right _ (by omega)) hb
  have hkb' : ¬ (281474976710656 < (k : Int) * (by1 : Int)) := by
    have h := Int.ofNat_le.2 hkb
    rw [Int.natCast_mul] at h
    omega
  have hk0 : ¬ ((k : Int) < 0) := by omega
  have hnews1 : ∀ u ∈ List.replicate k z, u.oneCell' = true := fun u hu => by rw [List.eq_of_mem_replicate hu]; exact hz1
  have grown : ∀ (old : Nat), old < vs.length + k → ∀ (row : Option Nat),
      isOwn (w.drew.alloc (.cells (vs.toArray ++ (List.replicate k z).toArray ++ Builtin.zeroCells z.cells (grownCap w (vs.length + k) old e - (vs.length + k))) e)) lo e (.slice (some ⟨w.heap.size, 0, none⟩) (vs.length + k) (grownCap w (vs.length + k) old e)) (vs ++ List.replicate k z) ∧
      w.grownBy (w.drew.alloc (.cells (vs.toArray ++ (List.replicate k z).toArray ++ Builtin.zeroCells z.cells (grownCap w (vs.length + k) old e - (vs.length + k))) e)) row := by
    intro old ho row
    have hge := grownCap_ge w (vs.length + k) old e
    have hcm := grownCap_le_maxLen w (vs.length + k) old e h63
    have hlen : (vs ++ List.replicate k z).length = vs.length + k := by simp
    refine ⟨⟨by simp, .inr ⟨w.heap.size, _, _, by rw [hlen], hlo, heap_alloc_new w.drew _, by rw [hlen]; exact hge, hcm, ?_, ?_⟩⟩, ⟨rfl, rfl, rfl, by simp, fun j hj _ => Below.heap_alloc w.drew _ j hj⟩⟩
    · simp only [Array.size_append, List.size_toArray, size_zeroCells, hz, List.length_replicate]
      simp; omega
    · simp only [Array.toList_append, List.append_assoc]
      rw [← List.append_assoc, hlen, Nat.mul_one, ← hlen]
      exact List.take_left
  have hlenr : ((List.replicate k z).length) = k := List.length_replicate
  rcases hown.2 with ⟨rfl, h0⟩ | ⟨g, cap, cur, rfl, hbg, hg, hnc, hcm, hcs, htake⟩
  · have := List.eq_nil_of_length_eq_zero h0
    subst this
    by_cases hm : k = 0
    · subst hm
      refine ⟨.slice none 0 0, w, ?_, by simpa using isOwn_nil w lo e, Keeps.refl _ _, .inl rfl⟩
      simp [Builtin.append_, run_underlying ht, run_underlying hti, Go.sizeOf, typeInfo, hi, asInt, asIntOf, IntKind.wrap, IntKind.signed, IntKind.bits]
    · have hgr := grown 0 (by simp; omega) (Value.ownBlock (.slice none 0 0))
      simp only [List.length_nil, Nat.zero_add, List.nil_append] at hgr
      refine ⟨_, _, ?_, by simpa using hgr.1, (Keeps.refl w _).grown hgr.2 (fun k hk _ => hk.symm ▸ rfl), .inr rfl⟩
      have hn : ¬ k = 0 := hm
      have h63' : ¬ (9223372036854775807 < (k : Int)) := by omega
      have h48' : ¬ (281474976710656 < Builtin.nextslicecap k 0 * by1) := by rw [nextslicecap_zero (by omega)]; omega
      simp [Builtin.append_, run_underlying ht, run_underlying hti, Go.sizeOf, typeInfo, zeroValue, hi, hz0, hs0, hb0, asInt, asIntOf, hwk, hk0, hkb', hn, h63', h48', Question.forced, run_firstCells_none, newRow, grownCap, hz, zeroCells_one]
  · have hcs2 : cur.size = cap := by simpa using hcs
    by_cases hm : k = 0
    · subst hm
      refine ⟨.slice (some ⟨g, 0, none⟩) vs.length cap, w, ?_, by simpa using hown, Keeps.refl _ _, .inl rfl⟩
      have hw0 : IntKind.i64.wrap 0 = 0 := by decide
      simp [Builtin.append_, run_underlying ht, run_underlying hti, Go.sizeOf, typeInfo, hi, hs0, hb0, asInt, asIntOf, hw0, hnc, Addr.add_lit, storeCells]
    · by_cases hroom : vs.length + k ≤ cap
      · have hst := run_storeCells_at P g vs.length e (List.replicate k z) 0 cur w hg (by rw [hlenr, hcs2]; exact hroom) hnews1
        simp only [Nat.add_zero] at hst
        refine ⟨.slice (some ⟨g, 0, none⟩) (vs.length + k) cap, w.setRow g (cur.toList.take vs.length ++ List.replicate k z ++ cur.toList.drop (vs.length + (List.replicate k z).length)).toArray, ?_, ⟨by simp, .inr ⟨g, cap, _, by simp, hbg, setRow_heap w g cur _ e _ hg, by simpa using hroom, hcm, ?_, ?_⟩⟩, (Keeps.refl w (fun b => (Value.slice (some ⟨g, 0, none⟩) vs.length cap).ownBlock = some b)).setRow (fun _ => rfl) _, .inl rfl⟩
        · simp [Builtin.append_, run_underlying ht, run_underlying hti, Go.sizeOf, typeInfo, zeroValue, hi, hz0, hs0, hb0, asInt, asIntOf, hwk, hk0, hkb', hm, hroom, Addr.add_lit, hz, zeroCells_one, hst]
        · simp [hcs2]; omega
        · rw [Nat.mul_one] at htake
          rw [htake]
          have hl2 : (vs ++ List.replicate k z).length * 1 = (vs ++ List.replicate k z).length := Nat.mul_one _
          rw [hl2]
          exact List.take_left
      · have holds : ∀ j u, vs[j]? = some u → w.cell? ((⟨g, 0, none⟩ : Addr).add j) = some u := hown.cells (g := g) rfl
        have hgr := grown cap (by omega) (Value.ownBlock (.slice (some ⟨g, 0, none⟩) vs.length cap))
        refine ⟨_, _, ?_, hgr.1, (Keeps.refl w _).grown hgr.2 (fun k hk _ => hk.symm ▸ rfl), .inr rfl⟩
        have hfo := run_firstCells_some (P := P) w.drew 1 vs.length ⟨g, 0, none⟩ vs.length cap vs (by simp) (by simpa using holds)
        have h63' : ¬ (9223372036854775807 < (vs.length : Int) + (k : Int)) := by simp only [maxLen] at h63; omega
        have h48' : ¬ (281474976710656 < Builtin.nextslicecap (vs.length + k) cap * by1) := by have := growslice_fits (need := vs.length + k) (old := cap) (by omega) hb; omega
        simp [Builtin.append_, run_underlying ht, run_underlying hti, Go.sizeOf, typeInfo, zeroValue, hi, hz0, hs0, hb0, asInt, asIntOf, hwk, hk0, hkb', hm, hroom, h63', h48', Question.forced, hfo, newRow, grownCap, hz, zeroCells_one]

/-- .. at the operation. -/
theorem wl_appendZ (hg : o.guard = none) (s x : Operand) (t ti : TypeId) (hop : o.op = .call { callee := .builtin .append, args := #[s, x], argTypes := #[t, ti] })
    (e : TypeId) (z : Value) (by1 : Nat) (ht : P.underlying t = some (.slice e)) (hti : P.underlying ti = some (.int .i64)) (h2 : (P.info? e).map (fun i => (i.zero, i.size, i.bytes)) = some (some z, 1, by1)) (hz : z.cells = #[z]) (hz1 : z.oneCell' = true)
    (lo : Nat) (v : Value) (vs : List Value) (hs : a.eval s = v) (hown : isOwn w lo e v vs) (k : Nat) (K : Int) (hx : a.eval x = .int .i64 K) (hK2 : K = k) (h63 : vs.length + k ≤ maxLen) (hb : (vs.length + k) * by1 ≤ 140737488355328) (hlo : lo ≤ w.heap.size)
    (hK : ∀ v' w', Appended w lo e v (vs ++ List.replicate k z) v' w' → wpList P ops Q rest (a.put o.dst v') w') : wpList P ops Q (o :: rest) a w := by
  refine wpList_plain hg fun K' hK' => ?_
  obtain ⟨v', w', hr, hap⟩ := run_appendZ (P := P) (w := w) t ti o.type e z by1 ht hti h2 hz hz1 lo v vs hown k h63 hb hlo
  unfold Oper.wp execOp
  simp only [hop, resolve, invoke, builtin, Sem.run_bind, Sem.run_pure, Result.andThen_ok, List.map_toArray, List.map_cons, List.map_nil, hs, hx, hK2, hr]
  exact hK' _ _ (hK v' w' hap)
end Wb
