import Derived.Test.YtadjcdfmppcpnaaYG1
import Derived.Test.YtadjcdfmppcpnaaSecEq
import Derived.BigFrame
/-! Two metas, compared. -/
namespace Go.Proofs.Ytadjcdfmppcpnaa
open Go Go.RowKit Go.Maps Wb

theorem keyTypeMt : Try.prog.keyType 66 = true := by kernel_rfl
theorem cellsMt : Try.prog.cellsOf 66 = 4 := by kernel_rfl
theorem cellsU64 : Try.prog.cellsOf 58 = 1 := by kernel_rfl
def mtV (m : Mt) : Value := .agg (metaA m)
theorem formedMt (m : Mt) : (mtV m).formed Try.prog 66 = true := by
  simp [Value.formed, mtV, Try.underlying66, cellsMt, metaA]
theorem keyOkMt {m : Mt} (hm : m.ok) : KeyOk Try.prog 66 (mtV m) := by
  obtain ⟨n, hn⟩ := typesS
  have h1 : (Lit.int .u64 m.gen).wf = true := by have := hm.gen; simp [Lit.wf, IntKind.min, IntKind.max, IntKind.signed, IntKind.bits]; omega
  have h2 : (Lit.int .i64 m.root).wf = true := by have := hm.root; simp [Lit.wf, IntKind.min, IntKind.max, IntKind.signed, IntKind.bits]; omega
  have h3 : (Lit.int .i64 m.count).wf = true := by have := hm.count; simp [Lit.wf, IntKind.min, IntKind.max, IntKind.signed, IntKind.bits]; omega
  have h4 : (Lit.int .u64 m.mark).wf = true := by have := hm.mark; simp [Lit.wf, IntKind.min, IntKind.max, IntKind.signed, IntKind.bits]; omega
  refine ⟨.string (keyBytes [.int .u64 m.gen, .int .i64 m.root, .int .i64 m.count, .int .u64 m.mark]), ?_⟩
  unfold keyOf
  simp only [Try.underlying66, keyTypeMt, formedMt, hn, Bool.and_self, if_true]
  simp [Program.keyLits, Try.underlying66, Try.underlying58, Try.underlying3, cellsMt, cellsU64, cellsI, h1, h2, h3, h4, mtV, metaA, Value.cells, List.mapM_cons]
theorem keyedMt : Keyed Try.prog 66 :=
  Keyed.of_law (deep_law_gate Try.laidOut (of_decide_eq_true (by kernel_rfl)) (of_decide_eq_true (by kernel_rfl)) keyTypeMt (by rw [Try.underlying66]))
theorem mtV_inj {a b : Mt} (h : mtV a = mtV b) : a = b := by
  obtain ⟨a1, a2, a3, a4⟩ := a
  obtain ⟨b1, b2, b3, b4⟩ := b
  simp only [mtV, metaA, Value.agg.injEq, Array.mk.injEq, List.cons.injEq, Value.int.injEq, true_and, and_true] at h
  simp only [Mt.mk.injEq]
  omega
instance (a b : Mt) : Decidable (a = b) := decidable_of_iff (a.gen = b.gen ∧ a.root = b.root ∧ a.count = b.count ∧ a.mark = b.mark) (by
  obtain ⟨a1, a2, a3, a4⟩ := a
  obtain ⟨b1, b2, b3, b4⟩ := b
  simp)
theorem run_equal_mt (w : World) {a b : Mt} (ha : a.ok) (hb : b.ok) : (Op.equal 66 (mtV a) (mtV b)).run Try.prog w = .ok (decide (a = b)) w := by
  obtain ⟨ls, hs⟩ := keyOkMt ha
  obtain ⟨lt, ht⟩ := keyOkMt hb
  obtain ⟨r, hr, hi⟩ := Go.run_equal_deep (m := 3) w (by decide) (k := 66) (by kernel_rfl) (by rw [Try.underlying66]) hs ht
  rw [hr]
  by_cases h : a = b
  · subst h
    rw [hs] at ht
    cases ht
    rw [hi.2 rfl]; simp
  · have : r = false := by
      cases r with
      | false => rfl
      | true => exact absurd (mtV_inj (keyedMt.inj hs (by rw [hi.1 rfl]; exact ht))) h
    rw [this]; simp [h]
theorem run_neq_mt (w : World) {a b : Mt} (ha : a.ok) (hb : b.ok) : (binOp BinOp.neq 66 (.agg (metaA a)) (.agg (metaA b))).run Try.prog w = .ok (.bool (!decide (a = b))) w := by
  unfold binOp
  simp only
  have := run_equal_mt w ha hb
  unfold mtV at this
  rw [Sem.run_bind, this]; rfl
theorem run_eql_mt (w : World) {a b : Mt} (ha : a.ok) (hb : b.ok) : (binOp BinOp.eql 66 (.agg (metaA a)) (.agg (metaA b))).run Try.prog w = .ok (.bool (decide (a = b))) w := by
  unfold binOp
  simp only
  have := run_equal_mt w ha hb
  unfold mtV at this
  rw [Sem.run_bind, this]; rfl
theorem run_guard_mt (w : World) (op : BinOp) (x y : Operand) (a b : Mt) : (eqGuard op 66 x y (.agg (metaA a)) (.agg (metaA b))).run Try.prog w = .ok () w := by
  unfold eqGuard
  cases op <;> simp [Sem.run_bind]

section
variable {P : Program} {w : World} {ops : Array Oper} {rest : List Oper} {o : Oper} {a : Act} {Q : Exit → Act → World → Prop}
/-- A comparison of two structs or arrays, whatever guards it. -/
theorem wl_bin (hw : Region.wanted o (yielded ops a.tmps) = true) (bop : BinOp) (ty ty2 : TypeId) (x y : Operand) (hop : o.op = .binOp bop ty x y ty2) (u v : Value) (hx : a.eval x = u) (hy : a.eval y = v) (r : Value)
    (hg : ∀ w, (eqGuard bop ty x y u v).run P w = .ok () w) (hr : ∀ w, (binOp bop ty u v).run P w = .ok r w) (hK : wpList P ops Q rest (a.put o.dst r) w) : wpList P ops Q (o :: rest) a w := by
  refine Go.BigFrame.wpList_want hw fun K' hK' => ?_
  unfold Oper.wp execOp
  simp only [hop, hx, hy, hg, hr, Sem.run_bind, Sem.run_pure, Result.andThen_ok]
  exact hK' _ _ hK
theorem gd_bin (ty : TypeId) {bop : BinOp} {dst : Option Tmp} {x y : Operand} {t t2 : TypeId} {pos : String} {after : Array Edge} {g : Option (Nat × Bool)} (h : wpList P ops Q (⟨dst, .binOp bop ty x y t2, t, pos, after, g⟩ :: rest) a w) :
    wpList P ops Q (⟨dst, .binOp bop ty x y t2, t, pos, after, g⟩ :: rest) a w := h
end
theorem neq_mt {a b : Mt} (ha : a.ok) (hb : b.ok) (r : Bool) (hr : r = !decide (a = b)) (w : World) : (binOp BinOp.neq 66 (.agg (metaA a)) (.agg (metaA b))).run Try.prog w = .ok (.bool r) w := by rw [hr]; exact run_neq_mt w ha hb
theorem eql_mt {a b : Mt} (ha : a.ok) (hb : b.ok) (r : Bool) (hr : r = decide (a = b)) (w : World) : (binOp BinOp.eql 66 (.agg (metaA a)) (.agg (metaA b))).run Try.prog w = .ok (.bool r) w := by rw [hr]; exact run_eql_mt w ha hb
end Go.Proofs.Ytadjcdfmppcpnaa
