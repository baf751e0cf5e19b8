import Derived.Test.YtblpkifkaoaicaaGreatYRegU
import Derived.Test.YtblpkifkaoaicaaGreatYUn
/-! Regions that draw: several operations may come up, each met by a law for lists; rows appended to rows. -/
namespace Wb
open Go Go.RowKit Go.Maps Go.MapKept Go.ChangeMaps
section
variable {P : Program} {ops : Array Oper} {Q : Exit → Act → World → Prop} {S : World → Prop} {md : Region.Mode}
theorem rl_one (i : Nat) {fuel : Nat} {listed : Array Bool} {a : Act} {w : World} {o : Oper} (hi : ops[i]? = some o) (hr : Region.ready md ops listed = [i])
    (h : wpList P ops (oneQ Q (fun a' w' => S w' ∧ wpAnyH P md ops Q S fuel (listed.setIfInBounds i true) a' w')) [o] a w) : wpAnyH P md ops Q S (fuel + 1) listed a w :=
  wpAnyH_all hr (by simp) (fun k hk => by
    have : k = i := by simpa using hk
    subst this
    exact wpOp_list hi h)
theorem rl_two (i j : Nat) {fuel : Nat} {listed : Array Bool} {a : Act} {w : World} {o p : Oper} (hi : ops[i]? = some o) (hj : ops[j]? = some p) (hr : Region.ready md ops listed = [i, j])
    (h : wpList P ops (oneQ Q (fun a' w' => S w' ∧ wpAnyH P md ops Q S fuel (listed.setIfInBounds i true) a' w')) [o] a w)
    (h' : wpList P ops (oneQ Q (fun a' w' => S w' ∧ wpAnyH P md ops Q S fuel (listed.setIfInBounds j true) a' w')) [p] a w) : wpAnyH P md ops Q S (fuel + 1) listed a w :=
  wpAnyH_all hr (by simp) (fun k hk => by
    have : k = i ∨ k = j := by simpa using hk
    rcases this with rfl | rfl
    · exact wpOp_list hi h
    · exact wpOp_list hj h')
/-- A call in such a list, by its contract. -/
theorem rl_call {K : Act → World → Prop} {a : Act} {w : World} {d : Option Tmp} {t : TypeId} {pos : String} {after : Array Edge} {g : Option (Nat × Bool)} (f : FuncId) (xs : List Operand) (ts : Array TypeId) (hw : Region.wanted (⟨d, .call ⟨.value (.func f), xs.toArray, ts⟩, t, pos, after, g⟩ : Oper) (yielded ops a.tmps) = true) (fn : Func) (hf : P.funcs[f]? = some fn)
    (hn : (fn.name == "runtime.NumGoroutine") = false) (hb : fn.body.isNone = false) (vs : List Value) (hv : xs.map a.eval = vs) {R : Ending → World → Prop} (hc : Calls P f vs.toArray w R)
    (hR : ∀ e w', R e w' → ∃ v, e = .returned v ∧ K (a.put d v) w') : wpList P ops (oneQ Q K) [⟨d, .call ⟨.value (.func f), xs.toArray, ts⟩, t, pos, after, g⟩] a w := by
  refine Go.BigFrame.wpList_want hw fun K' hK' => ?_
  refine rg_call f xs ts rfl fn hf hn hb vs hv hc fun e w' he => ?_
  obtain ⟨v, h1, h2⟩ := hR e w' he
  exact ⟨v, h1, hK' _ _ h2⟩
end
variable {P : Program} {w w' : World} {ops : Array Oper} {rest : List Oper} {o : Oper} {a : Act} {Q : Exit → Act → World → Prop}
theorem flatA_app (r s : List (Array Value)) : flatA (r ++ s) = flatA r ++ flatA s := by simp [flatA]
theorem flatA_at {sz : Nat} {rows : List (Array Value)} (h : ∀ r ∈ rows, r.size = sz) (hsz : 0 < sz) {j : Nat} {u : Value} (hj : (flatA rows)[j]? = some u) : ∃ r, rows[j / sz]? = some r ∧ r.toList[j % sz]? = some u := by
  have hl := flatA_len h
  have hlt := (List.getElem?_eq_some_iff.1 hj).1
  have hq : j / sz < rows.length := by
    rw [hl] at hlt
    exact Nat.div_lt_of_lt_mul (by rw [Nat.mul_comm]; exact hlt)
  have hr := List.getElem?_eq_getElem hq
  refine ⟨rows[j / sz], hr, ?_⟩
  have hm : j % sz < sz := Nat.mod_lt _ hsz
  have hs := h rows[j / sz] (List.getElem_mem _)
  have h1 := flatA_get h hr (i := j % sz) (List.getElem?_eq_getElem (by rw [Array.length_toList, hs]; exact hm))
  rw [show j / sz * sz + j % sz = j from by rw [Nat.mul_comm]; exact Nat.div_add_mod j sz, hj] at h1
  rw [List.getElem?_eq_getElem (by rw [Array.length_toList, hs]; exact hm)]
  exact h1.symm
/-- []T{}, sz cells an element. -/
theorem wl_sliceA0 (hg : o.guard = none) (t : TypeId) (hop : o.op = .buildSlice t 0 #[]) (e : TypeId) (z : Value) (sz by1 : Nat) (ht : P.underlying t = some (.slice e)) (h2 : (P.info? e).map (fun i => (i.zero, i.size, i.bytes)) = some (some z, sz, by1))
    (hK : ∀ b w', w.heap.size ≤ b → w'.heap[b]? = some (.cells #[] e (0, 0)) → Keeps w w' (fun _ => False) → wpList P ops Q rest (a.put o.dst (.slice (some ⟨b, 0, none⟩) 0 0)) w') : wpList P ops Q (o :: rest) a w := by
  refine wpList_plain hg fun K' hK' => ?_
  have hr : (Instr.buildSlice t 0 #[]).run P w = .ok (.slice (some ⟨w.heap.size, 0, none⟩) 0 0) (w.alloc (.cells #[] e)) := by
    obtain ⟨i, hi, hz0, hs0, hb0⟩ := info_parts' h2
    simp [Instr.buildSlice, run_underlying ht, Instr.fill, Go.sizeOf, typeInfo, hi, hs0, newRow, newObj, Sem.run, Result.andThen]
    have hA : Array.map (fun _ => (default : Value)) (Array.range 0) = #[] := by
      apply Array.toList_inj.1
      simp
    first | (rw [hA]) | simp
  unfold Oper.wp execOp
  simp only [hop, List.map_toArray, List.map_nil, hr, Sem.run_bind, Sem.run_pure, Result.andThen_ok]
  exact hK' _ _ (hK _ _ (Nat.le_refl _) (heap_alloc w _).1 ((Keeps.refl w _).alloc _))
theorem isOwnA_empty {lo b : Nat} {e : TypeId} {sz : Nat} (hb : w.heap[b]? = some (.cells #[] e (0, 0))) (hlo : lo ≤ b) : isOwnA w lo e sz (.slice (some ⟨b, 0, none⟩) 0 0) [] :=
  ⟨by simp, by simp [flatA], .inr ⟨b, 0, #[], rfl, hlo, hb, Nat.le_refl _, Nat.zero_le _, by simp, by simp [flatA]⟩⟩
end Wb
