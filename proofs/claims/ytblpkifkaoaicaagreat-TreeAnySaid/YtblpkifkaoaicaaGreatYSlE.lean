import Derived.Test.YtblpkifkaoaicaaGreatYSlD
import Derived.Test.YtblpkifkaoaicaaGreatYK5
import Derived.Test.YtblpkifkaoaicaaGreatQU
/-! max and min of strings; a key of a row is written. -/
namespace Wb
open Go Go.RowKit Go.Maps Go.MapKept Go.ChangeMaps
variable {P : Program} {w w' : World} {ops : Array Oper} {rest : List Oper} {o : Oper} {a : Act} {Q : Exit → Act → World → Prop}
theorem run_min_str (ts : Array TypeId) (ty : TypeId) (p q : Nm) : (Builtin.min_ ts ty #[.string (bs p), .string (bs q)]).run P w = .ok (.string (bs (minK p q))) w := by
  have hl := Go.Proofs.YtblpkifkaoaicaaGreat.less_str p q
  unfold minK
  by_cases h : q < p
  · have h1 : ¬ p < q := fun e => nm_irrefl p (nm_trans e h)
    have h2 : ¬ p = q := fun e => nm_irrefl p (by rw [← e] at h; exact h)
    rw [decide_eq_false h1, bs_toList, bs_toList] at hl
    simp [Builtin.min_, Builtin.min2, Op.stringOp, asBool, hl, h, bs_toList, h2]
  · by_cases h2 : p = q
    · subst h2
      simp [Builtin.min_, Builtin.min2, Op.stringOp, asBool, h]
    · have h1 : p < q := nm_total (fun e => h2 e.symm) h
      rw [decide_eq_true h1] at hl
      simp [Builtin.min_, Builtin.min2, Op.stringOp, asBool, hl, h]
theorem wl_min (hg : o.guard = none) (x y : Operand) (ats : Array TypeId) (hop : o.op = .call { callee := .builtin .min, args := #[x, y], argTypes := ats }) (p q : Nm) (hx : a.eval x = .string (bs p)) (hy : a.eval y = .string (bs q))
    (hK : wpList P ops Q rest (a.put o.dst (.string (bs (minK p q)))) w) : wpList P ops Q (o :: rest) a w := by
  refine wpList_plain hg fun K' hK' => ?_
  have hrun := run_min_str (P := P) (w := w) ats o.type p q
  unfold Oper.wp execOp
  simp only [hop, resolve, invoke, builtin, Sem.run_bind, Sem.run_pure, Result.andThen_ok, List.map_toArray, List.map_cons, List.map_nil, hx, hy, hrun]
  exact hK' _ _ hK
end Wb
namespace Go.Proofs.YtblpkifkaoaicaaGreat
open Go Go.RowKit Go.Maps Wb
end Go.Proofs.YtblpkifkaoaicaaGreat
