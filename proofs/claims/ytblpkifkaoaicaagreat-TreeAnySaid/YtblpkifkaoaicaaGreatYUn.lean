import Derived.Test.YtblpkifkaoaicaaGreatYSlA
import Derived.BigFrame
/-! A wanted operation without its guard. -/
namespace Wb
open Go Go.RowKit Go.Maps Go.MapKept Go.ChangeMaps
variable {P : Program} {w w' : World} {ops : Array Oper} {rest : List Oper} {a : Act} {Q : Exit → Act → World → Prop}
theorem wl_unguard {dst : Option Tmp} {op : Op} {t : TypeId} {pos : String} {after : Array Edge} {g : Option (Nat × Bool)} (hw : Region.wanted (⟨dst, op, t, pos, after, g⟩ : Oper) (yielded ops a.tmps) = true)
    (h : wpList P ops Q (⟨dst, op, t, pos, after, none⟩ :: rest) a w) : wpList P ops Q (⟨dst, op, t, pos, after, g⟩ :: rest) a w := by
  unfold wpList at h ⊢
  rw [if_pos hw]
  rw [if_pos (by simp [Region.wanted])] at h
  exact h
end Wb
