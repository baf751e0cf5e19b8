/- Lemmas and contracts of functions, joined. -/
import Derived.Test.YtblpkifkaoaicaaGreatYS11
import Derived.Test.YtblpkifkaoaicaaGreatQP
namespace Go.Proofs.YtblpkifkaoaicaaGreat
open Go Go.RowKit Go.Maps Wb

theorem and7 : ∀ q : Nat, q < 64 → (IntKind.u64.wrap (bits BinOp.and IntKind.i64 (q : Int) 7)).toNat = q % 8 := by
  have h : ∀ q : Fin 64, (IntKind.u64.wrap (bits BinOp.and IntKind.i64 (q.val : Int) 7)).toNat = q.val % 8 := by decide +kernel
  intro q hq
  exact h ⟨q, hq⟩

theorem sec_step (n : Int) (q : Nat) (hq : q < 64) : (secA (sectorUpTo n q)).setIfInBounds q (.int .u8 (n / 2 ^ min (IntKind.u64.wrap (bits BinOp.and IntKind.i64 (q : Int) 7)).toNat 64 % 256)) = secA (sectorUpTo n (q + 1)) := by
  rw [and7 q hq, Nat.min_eq_left (by omega), ← sbyte_val]
  apply Array.toList_inj.1
  rw [Array.toList_setIfInBounds]
  simp only [secA, List.toList_toArray, sectorUpTo, List.map_map]
  apply List.ext_getElem?
  intro i
  rw [List.getElem?_set]
  by_cases e : q = i
  · subst e; simp [hq]
  · rw [if_neg e]
    simp only [List.getElem?_map]
    by_cases h : i < 64
    · simp only [List.getElem?_range h, Option.map_some, Function.comp]
      by_cases h2 : i < q
      · simp [h2, show i < q + 1 by omega]
      · simp [h2, show ¬ i < q + 1 by omega]
    · rw [List.getElem?_eq_none (by simp; omega)]; rfl

theorem sec_at (n : Int) (q : Nat) (hq : q < 64) : (secA (sectorUpTo n q))[q]? = some (.int .u8 0) := by
  simp [secA, sectorUpTo, hq]

end Go.Proofs.YtblpkifkaoaicaaGreat

namespace Go.Proofs.YtblpkifkaoaicaaGreat
open Go Go.RowKit Go.Maps Wb

theorem awake_plain : ∃ (D1 D2 D3 D4 : Dv) (s : Sec), (Dv.new 3).make [102] = (D1, 0) ∧ D1.write [102] 0 (sectorOf 5) = (D2, 0) ∧ D2.sync [102] = (D3, 0) ∧ D3.write [102] 0 (sectorOf 6) = (D4, 0) ∧
    (D4.crash [2]).read [102] 0 = (s, 7) ∧ (D4.crash [2]).len [102] = 1 ∧ used (D4.crash [2]).files = 1 ∧ (D4.crash [2]).most = 3 ∧ D4.files.length ≤ 1000000 :=
  ⟨_, _, _, _, _, rfl, rfl, rfl, rfl, rfl, rfl, rfl, rfl, by decide⟩

theorem nmOk_small {n : Nm} (h : n.length ≤ 60) : nmOk n := Nat.le_trans h (by decide)
theorem kOk_small {k : Int} (h : -1000000 ≤ k ∧ k ≤ 1000000) : kOk k := by unfold kOk; omega

theorem ints_ok {xs : List Int} (h : ∀ x ∈ xs, -1000000 ≤ x ∧ x ≤ 1000000) : ∀ x ∈ xs, kOk x := fun x hx => kOk_small (h x hx)
/-- A slice of ints that was just made. -/
theorem isInts_built {w : World} {xs : List Int} {b : Nat} {ok : Nat → Prop} {t : TypeId} (hb : w.heap[b]? = some (.cells ((xs.map (Value.int .i64)).toArray) t (0, 0))) (hok : ok b) (hx : ∀ x ∈ xs, kOk x) (hl : xs.length ≤ 140737488351232) :
    isInts w ok (.slice (some ⟨b, 0, none⟩) xs.length xs.length) xs := by
  refine ⟨_, _, rfl, Nat.le_refl _, hl, hx, .inr ⟨b, 0, rfl, hok, lt_of_blk hb, fun j x hj => ?_⟩⟩
  rw [cell_of_block hb, Nat.zero_add]
  simp [hj]

/-- What a call of New came to. -/
theorem new_any (w : World) (m : Int) {R : Ending → World → Prop} (h : ∀ (h : DH) (w' : World), isDev w' h (Dv.new m) → Keeps w w' (fun _ => False) → (∀ i, h.S i → w.heap.size ≤ i) → R (.returned (.pointer (some ⟨h.p, 0, none⟩))) w') : Calls Tryz.prog 23 #[.int .i64 m] w R :=
  (new_calls w m).mono fun _ w' ⟨hh, he, hd, hk, hS⟩ => he ▸ h hh w' hd hk hS

end Go.Proofs.YtblpkifkaoaicaaGreat
