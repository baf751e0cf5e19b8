import Derived.Test.YtblpkifkaoaicaaGreatYKit
import Derived.Deep.RegionHeld3
/-! Regions that draw their order, walked operation by operation (the rows are printed by tpl.py). -/
namespace Wb
open Go Go.RowKit
variable {P : Program} {ops : Array Oper} {Q : Exit → Act → World → Prop} {S : World → Prop}
/-- A wanted operation that only reads is taken first. -/
theorem rg_take {md : Region.Mode} (i : Nat) {fuel : Nat} {listed : Array Bool} {d : Tmp} {op : Op} {t : TypeId} {pos : String} {after : Array Edge} {g : Option (Nat × Bool)} (hi : ops[i]? = some ⟨some d, op, t, pos, after, g⟩)
    (hs : Region.noSelect ops = true) (hf : Region.free md ops listed i = true) (hr : (Region.ready md ops listed).contains i = true) {v : Value}
    {tmps : Array Value} {defers : List Deferred} {w : World} (hQ : ∀ c a w, Q (.panic c) (a.put (some d) v) w → Q (.panic c) a w) (hS : S w)
    (hw : Region.wanted (⟨some d, op, t, pos, after, g⟩ : Oper) (yielded ops (⟨tmps, defers⟩ : Act).tmps) = true)
    (hv : ∀ w, S w → (execOp (⟨tmps, defers⟩ : Act).eval ⟨some d, op, t, pos, after, g⟩).run P w = .ok (.value v) w)
    (h : wpAnyH P md ops Q S fuel (listed.setIfInBounds i true) ((⟨tmps, defers⟩ : Act).put (some d) v) w) : wpAnyH P md ops Q S (fuel + 1) listed ⟨tmps, defers⟩ w :=
  wpAnyH_take hi hs hf hr hQ (.inl ⟨hw, hv⟩) hS h
/-- What isn't wanted is passed by. -/
theorem rg_skip {md : Region.Mode} (i : Nat) {fuel : Nat} {listed : Array Bool} {d : Tmp} {op : Op} {t : TypeId} {pos : String} {after : Array Edge} {g : Option (Nat × Bool)} (hi : ops[i]? = some ⟨some d, op, t, pos, after, g⟩)
    (hs : Region.noSelect ops = true) (hf : Region.free md ops listed i = true) (hr : (Region.ready md ops listed).contains i = true)
    {tmps : Array Value} {defers : List Deferred} {w : World} (hQ : ∀ c a w, Q (.panic c) (a.put (some d) undef) w → Q (.panic c) a w) (hS : S w)
    (hw : Region.wanted (⟨some d, op, t, pos, after, g⟩ : Oper) (yielded ops (⟨tmps, defers⟩ : Act).tmps) = false)
    (h : wpAnyH P md ops Q S fuel (listed.setIfInBounds i true) ((⟨tmps, defers⟩ : Act).put (some d) undef) w) : wpAnyH P md ops Q S (fuel + 1) listed ⟨tmps, defers⟩ w :=
  wpAnyH_take hi hs hf hr hQ (.inr ⟨hw, rfl⟩) hS h
/-- The same, in short. -/
theorem rg_t {md : Region.Mode} (i : Nat) {fuel : Nat} {listed : Array Bool} {d : Tmp} {op : Op} {t : TypeId} {pos : String} {after : Array Edge} {g : Option (Nat × Bool)} (hi : ops[i]? = some ⟨some d, op, t, pos, after, g⟩)
    (hb : (Region.noSelect ops && (Region.free md ops listed i && (Region.ready md ops listed).contains i)) = true) {v : Value}
    {tmps : Array Value} {defers : List Deferred} {w : World} (hQ : ∀ c a w, Q (.panic c) (a.put (some d) v) w → Q (.panic c) a w) (hS : S w)
    (hw : Region.wanted (⟨some d, op, t, pos, after, g⟩ : Oper) (yielded ops (⟨tmps, defers⟩ : Act).tmps) = true)
    (hv : ∀ w, S w → (execOp (⟨tmps, defers⟩ : Act).eval ⟨some d, op, t, pos, after, g⟩).run P w = .ok (.value v) w)
    (h : wpAnyH P md ops Q S fuel (listed.setIfInBounds i true) ((⟨tmps, defers⟩ : Act).put (some d) v) w) : wpAnyH P md ops Q S (fuel + 1) listed ⟨tmps, defers⟩ w := by
  rw [Bool.and_eq_true, Bool.and_eq_true] at hb
  exact rg_take i hi hb.1 hb.2.1 hb.2.2 hQ hS hw hv h
theorem rg_s {md : Region.Mode} (i : Nat) {fuel : Nat} {listed : Array Bool} {d : Tmp} {op : Op} {t : TypeId} {pos : String} {after : Array Edge} {g : Option (Nat × Bool)} (hi : ops[i]? = some ⟨some d, op, t, pos, after, g⟩)
    (hb : (Region.noSelect ops && (Region.free md ops listed i && (Region.ready md ops listed).contains i)) = true)
    {tmps : Array Value} {defers : List Deferred} {w : World} (hQ : ∀ c a w, Q (.panic c) (a.put (some d) undef) w → Q (.panic c) a w) (hS : S w)
    (hw : Region.wanted (⟨some d, op, t, pos, after, g⟩ : Oper) (yielded ops (⟨tmps, defers⟩ : Act).tmps) = false)
    (h : wpAnyH P md ops Q S fuel (listed.setIfInBounds i true) ((⟨tmps, defers⟩ : Act).put (some d) undef) w) : wpAnyH P md ops Q S (fuel + 1) listed ⟨tmps, defers⟩ w := by
  rw [Bool.and_eq_true, Bool.and_eq_true] at hb
  exact rg_skip i hi hb.1 hb.2.1 hb.2.2 hQ hS hw h
/-- .. a struct or an array out of a block. -/
theorem rg_load {md : Region.Mode} (i : Nat) {fuel : Nat} {listed : Array Bool} {d : Tmp} {ty : TypeId} {x : Operand} {t : TypeId} {pos : String} {after : Array Edge} {g : Option (Nat × Bool)} (hi : ops[i]? = some ⟨some d, .load ty x, t, pos, after, g⟩)
    (hs : Region.noSelect ops = true) (hf : Region.free md ops listed i = true) (hr : (Region.ready md ops listed).contains i = true)
    {tmps : Array Value} {defers : List Deferred} {w : World} (V : Array Value) (hQ : ∀ c a w, Q (.panic c) (a.put (some d) (.agg V)) w → Q (.panic c) a w) (hS : S w)
    (hw : Region.wanted (⟨some d, .load ty x, t, pos, after, g⟩ : Oper) (yielded ops (⟨tmps, defers⟩ : Act).tmps) = true)
    (b o : Nat) (hx : (⟨tmps, defers⟩ : Act).eval x = .pointer (some ⟨b, o, none⟩)) (hb : ∀ w, S w → w.rangeAt b o V.toList) (ds : TypeDesc) (hu : P.underlying ty = some ds) (hd : ds.isRow = true) (hz : (P.info? ty).map (·.size) = some V.size)
    (h : wpAnyH P md ops Q S fuel (listed.setIfInBounds i true) ((⟨tmps, defers⟩ : Act).put (some d) (.agg V)) w) : wpAnyH P md ops Q S (fuel + 1) listed ⟨tmps, defers⟩ w := by
  refine wpAnyH_take (v := .agg V) hi hs hf hr hQ ?_ hS h
  have := yieldsIf_load_mid (P := P) (ops := ops) (S := S) (op := ⟨some d, .load ty x, t, pos, after, g⟩) (a := ⟨tmps, defers⟩) hw ty x rfl b o hx V.toList ds hb hu hd (by simpa using hz)
  simpa using this
/-- The one that may come up now. -/
theorem rg_one {md : Region.Mode} (i : Nat) {fuel : Nat} {listed : Array Bool} {a : Act} {w : World} {d : Option Tmp} {op : Op} {t : TypeId} {pos : String} {after : Array Edge} {g : Option (Nat × Bool)} (hi : ops[i]? = some ⟨d, op, t, pos, after, g⟩) (hr : Region.ready md ops listed = [i])
    (hw : Region.wanted (⟨d, op, t, pos, after, g⟩ : Oper) (yielded ops a.tmps) = true)
    (h : Oper.wp P ⟨d, op, t, pos, after, g⟩ a w (fun a' w' => S w' ∧ wpAnyH P md ops Q S fuel (listed.setIfInBounds i true) a' w') Q) : wpAnyH P md ops Q S (fuel + 1) listed a w :=
  wpAnyH_all hr (by simp) (fun j hj => by
    have : j = i := by simpa using hj
    subst this
    unfold wpOp
    simp only [hi, hw, if_true]
    exact .inl h)
/-- A call, by its contract, whatever guards it. -/
theorem rg_call {a : Act} {w : World} {o : Oper} {K : Act → World → Prop} (f : FuncId) (xs : List Operand) (ts : Array TypeId) (hop : o.op = .call ⟨.value (.func f), xs.toArray, ts⟩) (fn : Func) (hf : P.funcs[f]? = some fn)
    (hn : (fn.name == "runtime.NumGoroutine") = false) (hb : fn.body.isNone = false) (vs : List Value) (hv : xs.map a.eval = vs) {R : Ending → World → Prop} (hc : Calls P f vs.toArray w R)
    (hR : ∀ e w', R e w' → ∃ v, e = .returned v ∧ K (a.put o.dst v) w') : o.wp P a w K Q := wp_call f xs ts hop fn hf hn hb vs hv hc hR
end Wb
