import Derived.Test.YtblpkifkaoaicaaGreatYReg
import Derived.IntWalk
/-! Small laws for regions that draw. -/
namespace Wb
open Go Go.RowKit
theorem cell_ltK {w : World} {a : Addr} {v : Value} (h : w.cell? a = some v) : a.block < w.heap.size := World.block_lt_of_cell? _ _ h
theorem Keeps.cellK {w w' : World} {p : Addr} {v : Value} (hk : Keeps w w' (fun _ => False)) (h : w.cell? p = some v) : w'.cell? p = some v := (hk.cell (p := p) (cell_ltK h) id).trans h
theorem Keeps.rangeK {w w' : World} {b o : Nat} {cs : List Value} (hk : Keeps w w' (fun _ => False)) (h : w.rangeAt b o cs) : w'.rangeAt b o cs := fun j v hv => Keeps.cellK hk (h j v hv)
theorem range_far {w w' : World} {g b o : Nat} {cs : List Value} (hk : Keeps w w' (· = g)) (hne : ¬ b = g) (h : w.rangeAt b o cs) : w'.rangeAt b o cs := fun j v hv => (hk.cell (p := ⟨b, o + j, none⟩) (cell_ltK (h j v hv)) hne).trans (h j v hv)
theorem i64_smallK (n : Int) (h1 : -9223372036854775808 ≤ n) (h2 : n ≤ 9223372036854775807) : IntKind.i64.wrap n = n := by
  unfold IntKind.wrap; simp [IntKind.signed, IntKind.bits]; omega
end Wb
