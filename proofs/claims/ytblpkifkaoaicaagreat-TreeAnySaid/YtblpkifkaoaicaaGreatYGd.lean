import Derived.Test.YtblpkifkaoaicaaGreatYKit
import Derived.BigFrame
import Derived.Lib.BufferWrite
/-! Loads of arrays and structs, whatever guards them; copy of a string. -/
namespace Wb
open Go Go.RowKit Go.Maps Go.MapKept Go.ChangeMaps
variable {P : Program} {w w' : World} {ops : Array Oper} {rest : List Oper} {o : Oper} {a : Act} {Q : Exit → Act → World → Prop}
theorem wl_load_aggW (hw : Region.wanted o (yielded ops a.tmps) = true) (ty : TypeId) (x : Operand) (hop : o.op = .load ty x) (g off : Nat) (hx : a.eval x = .pointer (some ⟨g, off, none⟩)) (C : Array Value) (t : TypeId) (fr : Nat × Nat) (hb : w.heap[g]? = some (.cells C t fr))
    (V : Array Value) (hV : C.extract off (off + V.size) = V) (d : TypeDesc) (hu : P.underlying ty = some d) (hd : d.isRow = true) (hi : (P.info? ty).map (·.size) = some V.size)
    (hK : wpList P ops Q rest (a.put o.dst (.agg V)) w) : wpList P ops Q (o :: rest) a w := by
  refine Go.BigFrame.wpList_want hw fun K' hK' => ?_
  unfold Oper.wp execOp
  simp only [hop, hx, run_load_agg ty g off C t fr hb V hV d hu hd hi, Sem.run_bind, Sem.run_pure, Result.andThen_ok]
  exact hK' _ _ hK
theorem gd_loadW (ty : TypeId) {dst : Option Tmp} {x : Operand} {t : TypeId} {pos : String} {after : Array Edge} {g : Option (Nat × Bool)} (h : wpList P ops Q (⟨dst, .load ty x, t, pos, after, g⟩ :: rest) a w) :
    wpList P ops Q (⟨dst, .load ty x, t, pos, after, g⟩ :: rest) a w := h
end Wb
