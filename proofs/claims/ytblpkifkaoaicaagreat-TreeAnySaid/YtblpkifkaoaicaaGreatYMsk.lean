import Derived.WalkKit
import Derived.IntWalk
/-! Masks. -/
namespace Wb
open Go Go.RowKit
/-- 'x & (2^m - 1)' is the rest. -/
theorem and_mask (x : Int) (m : Nat) (hm : m ≤ 32) : bits BinOp.and IntKind.i64 x (2 ^ m - 1) = x % 2 ^ m := by
  have hp : (2 : Nat) ^ m ≤ 2 ^ 32 := Nat.pow_le_pow_right (by omega) hm
  have hp0 : 0 < (2 : Nat) ^ m := Nat.pow_pos (by omega)
  have hb : (BitVec.ofInt 64 ((2 : Int) ^ m - 1)).toNat = 2 ^ m - 1 := by
    rw [BitVec.toNat_ofInt]
    have : ((2 : Int) ^ m - 1) = ((2 ^ m - 1 : Nat) : Int) := by
      rw [Int.natCast_sub hp0]; simp
    rw [this]
    have h2 : ((2 ^ m - 1 : Nat) : Int) % ((2 ^ 64 : Nat) : Int) = ((2 ^ m - 1 : Nat) : Int) := Int.emod_eq_of_lt (by omega) (by
      have : (2 : Nat) ^ 32 < 2 ^ 64 := by decide
      omega)
    rw [h2]; simp
  have ha : (BitVec.ofInt 64 x &&& BitVec.ofInt 64 ((2 : Int) ^ m - 1)).toNat = (x % 2 ^ m).toNat := by
    rw [BitVec.toNat_and, hb, BitVec.toNat_ofInt, Nat.and_two_pow_sub_one_eq_mod]
    have h3 : 0 ≤ x % ((2 ^ 64 : Nat) : Int) := Int.emod_nonneg _ (by decide)
    have h4 : (x % ((2 ^ 64 : Nat) : Int)) % ((2 ^ m : Nat) : Int) = x % ((2 ^ m : Nat) : Int) := by
      rw [Int.emod_emod_of_dvd]
      exact Int.natCast_dvd_natCast.2 (Nat.pow_dvd_pow 2 (by omega))
    have h5 : (((x % ((2 ^ 64 : Nat) : Int)).toNat % 2 ^ m : Nat) : Int) = (x % ((2 ^ 64 : Nat) : Int)) % ((2 ^ m : Nat) : Int) := by
      rw [Int.natCast_emod, Int.toNat_of_nonneg h3]
    have h6 : ((2 ^ m : Nat) : Int) = (2 : Int) ^ m := by simp
    rw [h4, h6] at h5
    rw [← h5, Int.toNat_natCast]
  have hr : 0 ≤ x % (2 : Int) ^ m := Int.emod_nonneg _ (by
    have : (0 : Int) < 2 ^ m := Int.pow_pos (by omega)
    omega)
  have hl : x % (2 : Int) ^ m < 2 ^ m := Int.emod_lt_of_pos _ (Int.pow_pos (by omega))
  have hq : (2 : Int) ^ m ≤ 4294967296 := by
    have h6 : ((2 ^ m : Nat) : Int) = (2 : Int) ^ m := by simp
    rw [← h6]
    have : (2 : Nat) ^ 32 = 4294967296 := by decide
    omega
  unfold bits
  show IntKind.i64.wrap ((BitVec.ofInt 64 x &&& BitVec.ofInt 64 ((2 : Int) ^ m - 1)).toNat : Int) = _
  rw [ha, Int.toNat_of_nonneg hr]
  exact IntWalk.i64_in _ (by omega)

theorem mask255 (x : Int) : bits BinOp.and IntKind.i64 x 255 = x % 256 := and_mask x 8 (by omega)
theorem mask127 (x : Int) : bits BinOp.and IntKind.i64 x 127 = x % 128 := and_mask x 7 (by omega)
theorem mask1023 (x : Int) : bits BinOp.and IntKind.i64 x 1023 = x % 1024 := and_mask x 10 (by omega)
theorem wrap_u64 (n : Int) : IntKind.u64.wrap n = n % 18446744073709551616 := by
  unfold IntKind.wrap; simp [IntKind.signed, IntKind.bits]
/-- 'v<<8 | c', at uint64. -/
theorem or_u64 (x : Nat) (c : Nat) (hc : c < 256) : bits BinOp.or IntKind.u64 (IntKind.u64.wrap ((x : Int) * 256)) (IntKind.u64.wrap (c : Int)) = (((x * 256 + c) % 2 ^ 64 : Nat) : Int) := by
  obtain ⟨y, hy⟩ : ∃ y, y = x % 2 ^ 56 := ⟨_, rfl⟩
  have h1 : IntKind.u64.wrap ((x : Int) * 256) = ((y <<< 8 : Nat) : Int) := by
    rw [wrap_u64, Nat.shiftLeft_eq, hy]; omega
  have h2 : IntKind.u64.wrap (c : Int) = (c : Int) := by rw [wrap_u64]; omega
  have h3 : y <<< 8 < 2 ^ 64 := by rw [Nat.shiftLeft_eq, hy]; omega
  rw [h1, h2]
  unfold bits
  show IntKind.u64.wrap ((BitVec.ofInt 64 ((y <<< 8 : Nat) : Int) ||| BitVec.ofInt 64 (c : Int)).toNat : Int) = _
  rw [BitVec.toNat_or, BitVec.toNat_ofInt, BitVec.toNat_ofInt]
  have h4 : (((y <<< 8 : Nat) : Int) % ((2 ^ 64 : Nat) : Int)).toNat = y <<< 8 := by omega
  have h5 : ((c : Int) % ((2 ^ 64 : Nat) : Int)).toNat = c := by omega
  rw [h4, h5, ← Nat.shiftLeft_add_eq_or_of_lt (i := 8) (by omega), Nat.shiftLeft_eq, wrap_u64, hy]
  omega
end Wb
