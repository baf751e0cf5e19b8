import Derived.Test.YtblpkifkaoaicaaGreatYSl
import Derived.Laws.CopyOwn
/-! copy into a block that is known whole. -/
namespace Wb
open Go Go.RowKit Go.Maps Go.MapKept Go.ChangeMaps
variable {P : Program} {w w' : World} {ops : Array Oper} {rest : List Oper} {o : Oper} {a : Act} {Q : Exit → Act → World → Prop}
theorem wl_copy (hgd : o.guard = none) (d s : Operand) (dT sT : TypeId) (ho : o.op = .call { callee := .builtin .copy, args := #[d, s], argTypes := #[dT, sT] }) (elem : TypeId) (hu : P.underlying dT = some (.slice elem)) (hsz : (P.info? elem).map (·.size) = some 1)
    (g off dLen dCap : Nat) (hd : a.eval d = .slice (some ⟨g, off, none⟩) dLen dCap) (sv : Value) (hs : a.eval s = sv) (vs : List Value) (hrd : isRd w sv vs)
    (C : Array Value) (t : TypeId) (hb : w.heap[g]? = some (.cells C t (0, 0))) (n : Nat) (hn : n = min vs.length dLen) (hfit : off + n ≤ C.size) (h1 : ∀ v ∈ vs, v.oneCell' = true)
    (hK : ∀ w', w'.heap[g]? = some (.cells (Wb.splice C off (vs.take n).toArray) t (0, 0)) → Keeps w w' (· = g) → wpList P ops Q rest (a.put o.dst (goInt n)) w') : wpList P ops Q (o :: rest) a w := by
  obtain ⟨ap, cap, rfl, hcap, hrd⟩ := hrd
  have hlen : (vs.take n).length = n := by rw [List.length_take]; omega
  by_cases h0 : n = 0
  · refine wpList_copy_nothing hgd d s dT sT ho elem hu hsz _ ap dLen dCap vs.length cap hd hs ?_ ?_
    · show min _ _ = 0
      omega
    · have := hK w (by
        subst h0
        have : Wb.splice C off (vs.take 0).toArray = C := by apply Array.toList_inj.1; simp [Wb.splice]
        rw [this]; exact hb) (Keeps.refl _ _)
      subst h0; exact this
  · have hp : 0 < vs.length := by omega
    obtain ⟨g', o', rfl, _, _⟩ := hrd 0 vs[0] (List.getElem?_eq_getElem hp)
    have hsrc : ∀ j v, (vs.take n)[j]? = some v → w.cell? ((⟨g', o', none⟩ : Addr).add j) = some v := by
      intro j v hj
      have hjl := (List.getElem?_eq_some_iff.1 hj).1
      rw [List.getElem?_take_of_lt (by omega)] at hj
      obtain ⟨g2, o2, he, _, h2⟩ := hrd j v hj
      cases he
      unfold Addr.add
      split
      · rename_i hj0; subst hj0; simpa using h2
      · exact h2
    refine wpList_copy_own hgd d s dT sT ho elem hu hsz g off dLen dCap _ vs.length cap hd hs C t hb (vs.take n) (by rw [hlen]; exact hn) hsrc (by rw [hlen]; exact hfit) (fun v hv => h1 v (List.mem_of_mem_take hv)) ?_
    rw [hlen]
    refine hK _ ?_ ((Keeps.refl w (· = g)).setRow (fun _ => rfl) _)
    rw [setRow_heap w g _ _ t _ hb]
    unfold Wb.splice
    simp only [List.size_toArray, hlen, List.append_assoc]
end Wb
