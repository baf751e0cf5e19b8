import Derived.Test.YtblpkifkaoaicaaGreatKit
import Derived.BigFrame
import Derived.Lib.BufferWrite
/-! Loads of arrays and structs, whatever guards them; copy of a string. -/
namespace Wb
open Go Go.RowKit Go.Maps Go.MapKept Go.ChangeMaps
variable {P : Program} {w w' : World} {ops : Array Oper} {rest : List Oper} {o : Oper} {a : Act} {Q : Exit → Act → World → Prop}
theorem wl_load_aggW (hw : Region.wanted o (yielded ops a.tmps) = true) (ty : TypeId) (x : Operand) (hop : o.op = .load ty x) (g off : Nat) (hx : a.eval x = .pointer (some ⟨g, off, none⟩)) (C : Array Value) (t : TypeId) (fr : Nat × Nat) (hb : w.heap[g]? = some (.cells C t fr))
    (V : Array Value) (hV : C.extract off (off + V.size) = V) (d : TypeDesc) (hu : P.underlying ty = some d) (hd : d.isRow = true) (hi : (P.info? ty).map (·.size) = some V.size)
    (hK : wpList P ops Q rest (a.put o.dst (.agg V)) w) : wpList P ops Q (o :: rest) a w := by
  refine Go.BigFrame.wpList_want hw fun K' hK' => ?_
  unfold Oper.wp execOp
  simp only [hop, hx, run_load_agg ty g off C t fr hb V hV d hu hd hi, Sem.run_bind, Sem.run_pure, Result.andThen_ok]
  exact hK' _ _ hK
theorem gd_loadW (ty : TypeId) {dst : Option Tmp} {x : Operand} {t : TypeId} {pos : String} {after : Array Edge} {g : Option (Nat × Bool)} (h : wpList P ops Q (⟨dst, .load ty x, t, pos, after, g⟩ :: rest) a w) :
    wpList P ops Q (⟨dst, .load ty x, t, pos, after, g⟩ :: rest) a w := h
/-- copy(dst, s), s a string that fits, dst in a block that is known whole. -/
theorem wl_copyS (hgd : o.guard = none) (d s : Operand) (dT sT : TypeId) (ho : o.op = .call { callee := .builtin .copy, args := #[d, s], argTypes := #[dT, sT] }) (elem : TypeId) (hu : P.underlying dT = some (.slice elem)) (hsz : (P.info? elem).map (·.size) = some 1)
    (g off dLen dCap : Nat) (hd : a.eval d = .slice (some ⟨g, off, none⟩) dLen dCap) (sv : ByteArray) (hs : a.eval s = .string sv) (C : Array Value) (t : TypeId) (hb : w.heap[g]? = some (.cells C t (0, 0))) (hle : sv.size ≤ dLen) (hfit : off + sv.size ≤ C.size)
    (C' : Array Value) (hC : (C.toList.take off ++ (sv.data.toList.map fun b => Value.int .u8 b.toNat) ++ C.toList.drop (off + sv.size)).toArray = C')
    (hK : ∀ w', w'.heap[g]? = some (.cells C' t (0, 0)) → Keeps w w' (· = g) → wpList P ops Q rest (a.put o.dst (goInt sv.size)) w') : wpList P ops Q (o :: rest) a w := by
  refine wpList_plain hgd fun K' hK' => ?_
  have hr := Go.Lib.run_copy_row_string (P := P) w dT sT o.type elem g off dLen dCap sv C t hu hsz hb hle hfit
  have hr2 : (Builtin.copy_ #[dT, sT] o.type #[.slice (some ⟨g, off, none⟩) dLen dCap, .string sv]).run P w = .ok (goInt sv.size) (w.setRow g C') := by rw [hr, ← hC]; rfl
  unfold Oper.wp execOp
  simp only [ho, resolve, invoke, builtin, Sem.run_bind, Sem.run_pure, Result.andThen_ok, List.map_toArray, List.map_cons, List.map_nil, hd, hs, hr2]
  exact hK' _ _ (hK _ (setRow_heap w g C C' t (0, 0) hb) ((Keeps.refl w (· = g)).setRow (fun _ => rfl) C'))
end Wb
