import Derived.Test.YtblpkifkaoaicaaGreatYReg
/-! Regions that draw their order and end in stores to what they load: S holds till the store number s comes up, T throughout. -/
namespace Wb
open Go Go.RowKit
variable {P : Program} {ops : Array Oper} {Q : Exit → Act → World → Prop} {S T : World → Prop} {md : Region.Mode} {s : Nat}
/-- What must hold behind an operation. -/
def TillG (S T : World → Prop) (s : Nat) (l : Array Bool) (w : World) : Prop := T w ∧ (l.getD s true = false → S w)
def wpTill (P : Program) (md : Region.Mode) (ops : Array Oper) (Q : Exit → Act → World → Prop) (S T : World → Prop) (s : Nat) : Nat → Array Bool → Act → World → Prop
  | 0, l, a, w => Region.ready md ops l = [] ∧ Q .normal a w
  | n + 1, l, a, w => (Region.ready md ops l = [] → Q .normal a w) ∧
    ∀ i ∈ Region.ready md ops l, wpOp P ops Q i (fun a' w' => TillG S T s (l.setIfInBounds i true) w' ∧ wpTill P md ops Q S T s n (l.setIfInBounds i true) a' w') a w
theorem any_of_till : ∀ (n : Nat) (l : Array Bool) (a : Act) (w : World), wpTill P md ops Q S T s n l a w → wpAny P md ops Q n l a w
  | 0, _, _, _, h => h
  | n + 1, _, _, _, h => ⟨h.1, fun i hi => wpOp_mono (fun a' w' hh => any_of_till n _ a' w' hh.2) (h.2 i hi)⟩
/-- Taken first: J is what is known of those that have come up as long as i has not. -/
theorem till_first {U : World → Prop} {J : Array Bool → Prop} {i : Nat} {oi : Oper} {v : Value} (hi : ops[i]? = some oi) (his : i ≠ s) (hsel : Region.noSelect ops = true) (hQ : ∀ c a w, Q (.panic c) (a.put oi.dst v) w → Q (.panic c) a w)
    (hU : ∀ l w, J l → TillG S T s l w → U w) (hJ : ∀ l j, J l → l.getD i true = false → j ≠ i → j ∈ Region.ready md ops l → J (l.setIfInBounds j true)) :
    ∀ (n : Nat) (l : Array Bool) (a : Act) (w : World), J l →
      (∀ j oj, ops[j]? = some oj → j ≠ i → l.getD j true = false → (∀ e ∈ oj.after, Region.binds md e = true → e.on ≠ i) → oi.apart ops oj = true) →
      i ∈ Region.ready md ops l → YieldsIf P ops U oi v a → TillG S T s l w →
      wpTill P md ops Q S T s n (l.setIfInBounds i true) (a.put oi.dst v) w → wpTill P md ops Q S T s (n + 1) l a w := by
  have gs : ∀ (l : Array Bool) w, TillG S T s l w → TillG S T s (l.setIfInBounds i true) w := fun l w hg => ⟨hg.1, fun h => hg.2 (by rwa [getD_set_ne true his] at h)⟩
  have gs' : ∀ (l : Array Bool) w, TillG S T s (l.setIfInBounds i true) w → TillG S T s l w := fun l w hg => ⟨hg.1, fun h => hg.2 (by rwa [getD_set_ne true his])⟩
  intro n
  induction n with
  | zero =>
    intro l a w hJl _ hr hy hg H
    refine ⟨fun h => (by rw [h] at hr; cases hr), fun j hj => ?_⟩
    by_cases hji : j = i
    · subst hji
      exact hy.wpOp hi (hU l w hJl hg) ⟨gs l w hg, H⟩
    · have := ready_mono hj hji
      rw [H.1] at this
      cases this
  | succ n ih =>
    intro l a w hJl hfree hr hy hg H
    refine ⟨fun h => (by rw [h] at hr; cases hr), fun j hj => ?_⟩
    by_cases hji : j = i
    · subst hji
      exact hy.wpOp hi (hU l w hJl hg) ⟨gs l w hg, H⟩
    · have hil := (mem_ready.1 hr).1
      obtain ⟨hjl, oj, hoj, hall⟩ := mem_ready.1 hj
      have hno : ∀ e ∈ oj.after, Region.binds md e = true → e.on ≠ i := by
        intro e he hb heq
        have h1 := hall e he hb
        subst heq
        rcases Nat.lt_or_ge e.on l.size with hlt | hge
        · simp [hlt] at hil h1
          rw [hil] at h1
          cases h1
        · simp [Array.getElem?_eq_none hge] at h1
      have hstep := wpOp_putIf hoj (hfree j oj hoj hji hjl hno) (fun cs b => Region.noSelect_spec hsel i oi cs b hi) (fun cs b => Region.noSelect_spec hsel j oj cs b hoj) hQ hy (H.2 j (ready_mono hj hji))
      refine wpOp_mono (fun a' w' hh => ?_) hstep
      obtain ⟨hy', hg', ht'⟩ := hh
      rw [Array.setIfInBounds_comm _ _ (Ne.symm hji)] at hg' ht'
      have hg2 := gs' _ _ hg'
      refine ⟨hg2, ih (l.setIfInBounds j true) a' w' (hJ l j hJl hil hji hj) (fun k ok hk hki hun hnk => hfree k ok hk hki ?_ hnk) (ready_mono hr (Ne.symm hji)) hy' hg2 ht'⟩
      by_cases hjk : j = k
      · subst hjk; exact hjl
      · rwa [getD_set_ne true hjk] at hun
/-- .. that reads what S tells: the store waits for it. -/
theorem till_take {i n : Nat} {oi os : Oper} {v : Value} {l : Array Bool} {a : Act} {w : World} (hi : ops[i]? = some oi) (his : (i == s) = false) (hos : ops[s]? = some os) (hwait : (os.after.any fun e => Region.binds md e && (e.on == i)) = true) (hl : l.getD s true = false)
    (hsel : Region.noSelect ops = true) (hf : Region.free md ops l i = true) (hr : (Region.ready md ops l).contains i = true) (hQ : ∀ c a w, Q (.panic c) (a.put oi.dst v) w → Q (.panic c) a w)
    (hy : YieldsIf P ops (fun w => S w ∧ T w) oi v a) (hS : S w) (hT : T w) (h : wpTill P md ops Q S T s n (l.setIfInBounds i true) (a.put oi.dst v) w) : wpTill P md ops Q S T s (n + 1) l a w := by
  have his' : i ≠ s := fun e => by simp [e] at his
  refine till_first (U := fun w => S w ∧ T w) (J := fun l => l.getD s true = false) hi his' hsel hQ (fun l w hJ hg => ⟨hg.2 hJ, hg.1⟩) (fun l j hJ hil hji hj => ?_) n l a w hl (Region.free_spec hi hf) (by simpa using hr) hy ⟨hT, fun _ => hS⟩ h
  have hjs : j ≠ s := by
    intro e
    subst e
    obtain ⟨_, o, ho, hall⟩ := mem_ready.1 hj
    rw [hos] at ho
    cases ho
    obtain ⟨q, hq, hb⟩ := Array.any_eq_true.1 hwait
    simp only [Bool.and_eq_true, beq_iff_eq] at hb
    have h1 := hall _ (Array.getElem_mem hq) hb.1
    rw [hb.2] at h1
    rcases Nat.lt_or_ge i l.size with hlt | hge
    · simp [hlt] at hil h1
      rw [hil] at h1
      cases h1
    · simp [Array.getElem?_eq_none hge] at h1
  rw [getD_set_ne true hjs]
  exact hJ
/-- .. that reads what T tells, or nothing. -/
theorem till_takeT {i n : Nat} {oi : Oper} {v : Value} {l : Array Bool} {a : Act} {w : World} (hi : ops[i]? = some oi) (his : (i == s) = false)
    (hsel : Region.noSelect ops = true) (hf : Region.free md ops l i = true) (hr : (Region.ready md ops l).contains i = true) (hQ : ∀ c a w, Q (.panic c) (a.put oi.dst v) w → Q (.panic c) a w)
    (hy : YieldsIf P ops T oi v a) (hg : TillG S T s l w) (h : wpTill P md ops Q S T s n (l.setIfInBounds i true) (a.put oi.dst v) w) : wpTill P md ops Q S T s (n + 1) l a w :=
  till_first (U := T) (J := fun _ => True) hi (fun e => by simp [e] at his) hsel hQ (fun l w _ hg => hg.1) (fun _ _ _ _ _ _ => trivial) n l a w trivial (Region.free_spec hi hf) (by simpa using hr) hy hg h
/-! ### as rows -/
section
variable {n : Nat} {l : Array Bool} {d : Tmp} {op : Op} {t : TypeId} {pos : String} {after : Array Edge} {g : Option (Nat × Bool)} {v : Value} {tmps : Array Value} {defers : List Deferred} {w : World} {os : Oper}
theorem rt_take (i : Nat) (hi : ops[i]? = some ⟨some d, op, t, pos, after, g⟩) (his : (i == s) = false) (hos : ops[s]? = some os) (hwait : (os.after.any fun e => Region.binds md e && (e.on == i)) = true) (hl : l.getD s true = false)
    (hsel : Region.noSelect ops = true) (hf : Region.free md ops l i = true) (hr : (Region.ready md ops l).contains i = true) (hQ : ∀ c a w, Q (.panic c) (a.put (some d) v) w → Q (.panic c) a w) (hS : S w) (hT : T w)
    (hw : Region.wanted (⟨some d, op, t, pos, after, g⟩ : Oper) (yielded ops (⟨tmps, defers⟩ : Act).tmps) = true) (hv : ∀ w, S w ∧ T w → (execOp (⟨tmps, defers⟩ : Act).eval ⟨some d, op, t, pos, after, g⟩).run P w = .ok (.value v) w)
    (h : wpTill P md ops Q S T s n (l.setIfInBounds i true) ((⟨tmps, defers⟩ : Act).put (some d) v) w) : wpTill P md ops Q S T s (n + 1) l ⟨tmps, defers⟩ w :=
  till_take hi his hos hwait hl hsel hf hr hQ (.inl ⟨hw, hv⟩) hS hT h
theorem rt_takeT (i : Nat) (hi : ops[i]? = some ⟨some d, op, t, pos, after, g⟩) (his : (i == s) = false)
    (hsel : Region.noSelect ops = true) (hf : Region.free md ops l i = true) (hr : (Region.ready md ops l).contains i = true) (hQ : ∀ c a w, Q (.panic c) (a.put (some d) v) w → Q (.panic c) a w) (hg : TillG S T s l w)
    (hw : Region.wanted (⟨some d, op, t, pos, after, g⟩ : Oper) (yielded ops (⟨tmps, defers⟩ : Act).tmps) = true) (hv : ∀ w, T w → (execOp (⟨tmps, defers⟩ : Act).eval ⟨some d, op, t, pos, after, g⟩).run P w = .ok (.value v) w)
    (h : wpTill P md ops Q S T s n (l.setIfInBounds i true) ((⟨tmps, defers⟩ : Act).put (some d) v) w) : wpTill P md ops Q S T s (n + 1) l ⟨tmps, defers⟩ w :=
  till_takeT hi his hsel hf hr hQ (.inl ⟨hw, hv⟩) hg h
end
theorem till_done {l : Array Bool} {a : Act} {w : World} (hr : Region.ready md ops l = []) (h : Q .normal a w) : ∀ n, wpTill P md ops Q S T s n l a w
  | 0 => ⟨hr, h⟩
  | _ + 1 => ⟨fun _ => h, by rw [hr]; simp⟩
theorem till_begin {id : Nat} {a : Act} {w : World} (hm : P.follows .mixedOrders = true) (S T : World → Prop) (s : Nat) (hS : S w.drew) (hT : T w.drew)
    (h : S w.drew → T w.drew → wpTill P .any ops Q S T s ops.size (Array.replicate ops.size false) a w.drew) : (Code.region id ops true).wp P Q a w :=
  wp_region_any hm (any_of_till _ _ _ _ (h hS hT))
/-- Only one may come up. -/
theorem till_one {i n : Nat} {l : Array Bool} {a : Act} {w : World} (hr : Region.ready md ops l = [i])
    (h : wpOp P ops Q i (fun a' w' => TillG S T s (l.setIfInBounds i true) w' ∧ wpTill P md ops Q S T s n (l.setIfInBounds i true) a' w') a w) : wpTill P md ops Q S T s (n + 1) l a w :=
  ⟨fun h0 => (by rw [hr] at h0; cases h0), fun j hj => (by
    rw [hr] at hj
    have : j = i := by simpa using hj
    subst this; exact h)⟩
/-- What a law for lists of operations says of one operation of a region. -/
def oneQ (Q : Exit → Act → World → Prop) (K : Act → World → Prop) : Exit → Act → World → Prop := fun e a w =>
  match e with
  | .normal => K a w
  | e => Q e a w
theorem wpOp_list {i : Nat} {o : Oper} {K : Act → World → Prop} {a : Act} {w : World} (hi : ops[i]? = some o) (h : wpList P ops (oneQ Q K) [o] a w) : wpOp P ops Q i K a w := by
  unfold wpOp
  simp only [hi]
  unfold wpList at h
  split
  · rename_i hw
    rw [if_pos hw] at h
    rcases h with h | ⟨h1, h2⟩
    · left
      unfold Oper.wp at h ⊢
      generalize (execOp a.eval o).run P w = r at h ⊢
      cases r with
      | ok nx w' =>
        cases nx
        case value v => exact h
        case skip => exact h
        case defer d => exact h
        case enter f args =>
          refine Calls.mono h fun e w'' he => ?_
          cases e with
          | returned u => exact he
          | panicked c => exact he
          | outgrown => exact he
        case row row args => exact Rows.mono h fun u w'' he => he
        all_goals exact h.elim
      | halt x w' =>
        cases x <;> first | exact h | exact h.elim
    · exact .inr ⟨h1, h2⟩
  · rename_i hw
    rw [if_neg hw] at h
    exact h
theorem till_op {n : Nat} (i : Nat) {l : Array Bool} {a : Act} {w : World} {d : Option Tmp} {op : Op} {t : TypeId} {pos : String} {after : Array Edge} {g : Option (Nat × Bool)} (hi : ops[i]? = some ⟨d, op, t, pos, after, g⟩) (hr : Region.ready md ops l = [i])
    (hw : Region.wanted (⟨d, op, t, pos, after, g⟩ : Oper) (yielded ops a.tmps) = true)
    (h : Oper.wp P ⟨d, op, t, pos, after, g⟩ a w (fun a' w' => TillG S T s (l.setIfInBounds i true) w' ∧ wpTill P md ops Q S T s n (l.setIfInBounds i true) a' w') Q) : wpTill P md ops Q S T s (n + 1) l a w :=
  till_one hr (by
    unfold wpOp
    simp only [hi, hw, if_true]
    exact .inl h)
theorem till_list {n : Nat} (i : Nat) {l : Array Bool} {a : Act} {w : World} {d : Option Tmp} {op : Op} {t : TypeId} {pos : String} {after : Array Edge} {g : Option (Nat × Bool)} (hi : ops[i]? = some ⟨d, op, t, pos, after, g⟩) (hr : Region.ready md ops l = [i])
    (h : wpList P ops (oneQ Q (fun a' w' => TillG S T s (l.setIfInBounds i true) w' ∧ wpTill P md ops Q S T s n (l.setIfInBounds i true) a' w')) [⟨d, op, t, pos, after, g⟩] a w) : wpTill P md ops Q S T s (n + 1) l a w :=
  till_one hr (wpOp_list hi h)
theorem till_nil {K : Act → World → Prop} {a : Act} {w : World} (h : K a w) : wpList P ops (oneQ Q K) [] a w := h
theorem till_next {n : Nat} {l : Array Bool} {a : Act} {w : World} (hS : S w) (hT : T w) (h : wpTill P md ops Q S T s n l a w) : TillG S T s l w ∧ wpTill P md ops Q S T s n l a w := ⟨⟨hT, fun _ => hS⟩, h⟩
/-- .. behind the store. -/
theorem till_late {n : Nat} {l : Array Bool} {a : Act} {w : World} (hl : l.getD s true = true) (hT : T w) (h : wpTill P md ops Q S T s n l a w) : TillG S T s l w ∧ wpTill P md ops Q S T s n l a w := ⟨⟨hT, fun e => by rw [hl] at e; cases e⟩, h⟩
open Go.Maps Go.MapKept Go.ChangeMaps in
/-- A value is written into a block. -/
theorem wp_store_val {a : Act} {w : World} {o : Oper} {K : Act → World → Prop} (ty : TypeId) (x y : Operand) (hop : o.op = .store ty x y) (g off : Nat) (hx : a.eval x = .pointer (some ⟨g, off, none⟩)) (C : Array Value) (t : TypeId) (hb : w.heap[g]? = some (.cells C t (0, 0)))
    (v : Value) (V : Array Value) (hy : a.eval y = v) (hvc : v.cells = V) (C' : Array Value) (hC : splice C off V = C') (hle : off + V.size ≤ C.size) (hi : (P.info? ty).map (·.size) = some V.size) (h1 : V.all (·.oneCell') = true)
    (hK : ∀ w', w'.heap[g]? = some (.cells C' t (0, 0)) → Keeps w w' (· = g) → K (a.put o.dst undef) w') : o.wp P a w K Q := by
  have hs := run_storeCells_at (P := P) g off t V.toList 0 C w hb (by simpa using hle) (fun v hv => (Array.all_eq_true_iff_forall_mem.1 h1) v (by simpa using hv))
  have hw : (storeVar ty ⟨g, off, none⟩ v).run P w = .ok () (w.setRow g C') := by
    cases hq : P.info? ty with
    | none => simp [hq] at hi
    | some i =>
      have hsz : V.size = i.size := by simp [hq] at hi; omega
      simp only [Nat.add_zero, Array.length_toList] at hs
      rw [← hC]
      have hso : (Go.sizeOf ty).run P w = .ok i.size w := by simp [Go.sizeOf, typeInfo, hq]
      rw [← hsz] at hso
      simp only [storeVar, Sem.run_bind, hso, Result.andThen_ok, hvc, ne_eq, not_true_eq_false, if_false]
      exact hs
  unfold Oper.wp execOp
  simp only [hop, hx, hy, Instr.storeAt, Instr.sureAddr, Sem.run_bind, Sem.run_pure, Result.andThen_ok, hw]
  exact hK _ (setRow_heap w g C C' t (0, 0) hb) ((Keeps.refl w (· = g)).setRow (fun _ => rfl) C')
end Wb
