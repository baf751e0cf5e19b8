import Derived.Test.YtadjcdfmppcpnaaS5
/-! Two sectors, compared. -/
namespace Go.Proofs.Ytadjcdfmppcpnaa
open Go Go.RowKit Go.Maps Wb

theorem mapM_of {α β : Type} {l : List α} {f : α → Option β} {g : α → β} (h : ∀ x ∈ l, f x = some (g x)) : l.mapM f = some (l.map g) := by
  induction l with
  | nil => rfl
  | cons a r ih =>
    rw [List.mapM_cons, h a (by simp), ih (fun x hx => h x (by simp [hx]))]
    rfl
theorem keyTypeSec : Try.prog.keyType 28 = true := by kernel_rfl
theorem cellsSec : Try.prog.cellsOf 28 = 64 := by kernel_rfl
theorem cellsU8 : Try.prog.cellsOf 5 = 1 := by kernel_rfl
theorem formedSec (s : Sec) : (secV s).formed Try.prog 28 = true := by
  simp [Value.formed, secV, Try.underlying28, cellsSec, secA_size]
theorem keyOkSec (s : Sec) : KeyOk Try.prog 28 (secV s) := by
  obtain ⟨m, hm⟩ := typesS
  refine ⟨.string (keyBytes ((List.range 64).map fun i => [Lit.int .u8 ((s.1.getD i 0).toNat : Int)]).flatten), ?_⟩
  unfold keyOf
  simp only [Try.underlying28, keyTypeSec, formedSec, Bool.and_self, if_true, hm]
  unfold Program.keyLits
  simp only [Try.underlying28]
  rw [if_pos (by rw [cellsSec]; simp [secV, Value.cells, secA, s.2])]
  rw [mapM_of (g := fun i => [Lit.int .u8 ((s.1.getD i 0).toNat : Int)])]
  · rfl
  · intro i hi
    have hi : i < 64 := by simpa using hi
    have hl : i < s.1.length := by rw [s.2]; exact hi
    have hc : ((secV s).cells.toList.drop (i * Try.prog.cellsOf 5)).take (Try.prog.cellsOf 5) = [.int .u8 ((s.1.getD i 0).toNat : Int)] := by
      rw [cellsU8, Nat.mul_one]
      simp only [secV, Value.cells, secA, List.toList_toArray]
      rw [List.drop_eq_getElem_cons (by simpa using hl)]
      simp [List.getD, hl]
    rw [hc]
    unfold Program.keyLits
    have hw : (Lit.int .u8 ((s.1.getD i 0).toNat : Int)).wf = true := by
      have := (s.1.getD i 0).toNat_lt
      generalize (s.1.getD i 0).toNat = c at *
      simp [Lit.wf, IntKind.min, IntKind.max, IntKind.signed, IntKind.bits]; omega
    simp only [Try.underlying5]
    simp only [hw, and_self, if_true]
theorem keyedSec : Keyed Try.prog 28 :=
  Keyed.of_law (deep_law_gate Try.laidOut (of_decide_eq_true (by kernel_rfl)) (of_decide_eq_true (by kernel_rfl)) keyTypeSec (by rw [Try.underlying28]))
theorem secV_inj {s t : Sec} (h : secV s = secV t) : s = t := by
  apply Subtype.ext
  have h1 : (secA s).toList = (secA t).toList := by
    simp only [secV, Value.agg.injEq] at h
    rw [h]
  simp only [secA, List.toList_toArray] at h1
  exact (List.map_inj_right (fun a b hab => by
    simp only [Value.int.injEq, true_and] at hab
    exact UInt8.toNat_inj.1 (by omega))).1 h1
theorem run_equal_sec (w : World) (s t : Sec) : (Op.equal 28 (secV s) (secV t)).run Try.prog w = .ok (decide (s = t)) w := by
  obtain ⟨ls, hs⟩ := keyOkSec s
  obtain ⟨lt, ht⟩ := keyOkSec t
  obtain ⟨r, hr, hi⟩ := Go.run_equal_deep (m := 3) w (by decide) (k := 28) (by kernel_rfl) (by rw [Try.underlying28]) hs ht
  rw [hr]
  by_cases h : s = t
  · subst h
    rw [hs] at ht
    cases ht
    rw [hi.2 rfl]; simp
  · have : r = false := by
      cases r with
      | false => rfl
      | true => exact absurd (secV_inj (keyedSec.inj hs (by rw [hi.1 rfl]; exact ht))) h
    rw [this]; simp [h]
theorem run_neq_sec (w : World) (s t : Sec) : (binOp BinOp.neq 28 (secV s) (secV t)).run Try.prog w = .ok (.bool (!decide (s = t))) w := by
  show (binOp BinOp.neq 28 (.agg (secA s)) (.agg (secA t))).run Try.prog w = _
  unfold binOp
  simp only
  have := run_equal_sec w s t
  unfold secV at this
  rw [Sem.run_bind, this]; rfl
theorem run_eql_sec (w : World) (s t : Sec) : (binOp BinOp.eql 28 (secV s) (secV t)).run Try.prog w = .ok (.bool (decide (s = t))) w := by
  show (binOp BinOp.eql 28 (.agg (secA s)) (.agg (secA t))).run Try.prog w = _
  unfold binOp
  simp only
  have := run_equal_sec w s t
  unfold secV at this
  rw [Sem.run_bind, this]; rfl
theorem guardSec : Try.prog.eqGuardType Try.prog.depth 28 = false := by kernel_rfl
theorem run_guard_sec (w : World) (op : BinOp) (x y : Operand) (s t : Sec) : (eqGuard op 28 x y (secV s) (secV t)).run Try.prog w = .ok () w := by
  unfold eqGuard secV
  cases op <;> simp [Sem.run_bind]
end Go.Proofs.Ytadjcdfmppcpnaa
