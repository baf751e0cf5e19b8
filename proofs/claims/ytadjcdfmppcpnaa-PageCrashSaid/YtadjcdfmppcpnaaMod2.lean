import Derived.Test.YtadjcdfmppcpnaaMod
/-! The statements' own helpers, plain. -/
namespace Wb
open Go

/-- The octet of a number at a place: waybilllaw7.Sector. -/
def sbyte (n : Int) (i : Nat) : UInt8 := UInt8.ofNat (n / 2 ^ (i % 8) % 256).toNat
theorem sbyte_val (n : Int) (i : Nat) : ((sbyte n i).toNat : Int) = n / 2 ^ (i % 8) % 256 := by
  unfold sbyte
  have h1 : 0 ≤ n / 2 ^ (i % 8) % 256 := Int.emod_nonneg _ (by omega)
  have h2 : n / 2 ^ (i % 8) % 256 < 256 := Int.emod_lt_of_pos _ (by omega)
  generalize n / 2 ^ (i % 8) % 256 = x at *
  simp only [UInt8.toNat_ofNat']
  omega
def sectorUpTo (n : Int) (q : Nat) : Sec := ⟨(List.range 64).map fun i => if i < q then sbyte n i else 0, by simp⟩
def sectorOf (n : Int) : Sec := ⟨(List.range 64).map (sbyte n), by simp⟩
theorem sectorUpTo_zero (n : Int) : sectorUpTo n 0 = Sec.zero := by
  apply Subtype.ext
  simp only [sectorUpTo, Nat.not_lt_zero, if_false]
  rfl
theorem sectorUpTo_all (n : Int) : sectorUpTo n 64 = sectorOf n := by
  apply Subtype.ext
  simp only [sectorUpTo, sectorOf]
  apply List.map_congr_left
  intro i hi
  simp at hi
  simp [hi]
end Wb
