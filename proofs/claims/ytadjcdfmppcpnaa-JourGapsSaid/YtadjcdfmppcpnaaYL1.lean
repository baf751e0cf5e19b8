import Derived.Test.YtadjcdfmppcpnaaYS12
import Derived.Test.YtadjcdfmppcpnaaQP
/-! The statements' own helpers: Sector. -/
namespace Go.Proofs.Ytadjcdfmppcpnaa
open Go Go.RowKit Go.Maps Wb

theorem and7 : ∀ q : Nat, q < 64 → (IntKind.u64.wrap (bits BinOp.and IntKind.i64 (q : Int) 7)).toNat = q % 8 := by
  have h : ∀ q : Fin 64, (IntKind.u64.wrap (bits BinOp.and IntKind.i64 (q.val : Int) 7)).toNat = q.val % 8 := by decide +kernel
  intro q hq
  exact h ⟨q, hq⟩

theorem sec_step (n : Int) (q : Nat) (hq : q < 64) : (secA (sectorUpTo n q)).setIfInBounds q (.int .u8 (n / 2 ^ min (IntKind.u64.wrap (bits BinOp.and IntKind.i64 (q : Int) 7)).toNat 64 % 256)) = secA (sectorUpTo n (q + 1)) := by
  rw [and7 q hq, Nat.min_eq_left (by omega), ← sbyte_val]
  apply Array.toList_inj.1
  rw [Array.toList_setIfInBounds]
  simp only [secA, List.toList_toArray, sectorUpTo, List.map_map]
  apply List.ext_getElem?
  intro i
  rw [List.getElem?_set]
  by_cases e : q = i
  · subst e; simp [hq]
  · rw [if_neg e]
    simp only [List.getElem?_map]
    by_cases h : i < 64
    · simp only [List.getElem?_range h, Option.map_some, Function.comp]
      by_cases h2 : i < q
      · simp [h2, show i < q + 1 by omega]
      · simp [h2, show ¬ i < q + 1 by omega]
    · rw [List.getElem?_eq_none (by simp; omega)]; rfl

theorem sec_at (n : Int) (q : Nat) (hq : q < 64) : (secA (sectorUpTo n q))[q]? = some (.int .u8 0) := by
  simp [secA, sectorUpTo, hq]

set_option maxRecDepth 100000 in
set_option maxHeartbeats 1000000 in
theorem sector_calls (w : World) (n : Int) (hn : kOk n) : Calls Try.prog 24 #[.int .i64 n] w (Quiet w (secV (sectorOf n))) := by
  have hn1 : -9223372036854775808 ≤ n := hn.1
  have hn2 : n ≤ 9223372036854775807 := hn.2
  go_enter Try.func24, Try.ntmps24
  go_wp2_with (first
    | ((with_reducible refine gd_alloc (dst := some 2) 28 ?_); refine wl_alloc_agg rfl _ rfl _ zero28 ?_; intro b0 w0 hb0 HB0 HK0)
    | ((with_reducible refine gd_alloc (dst := some 3) 28 ?_); refine wl_alloc_agg rfl _ rfl _ zero28 ?_; intro b1 w1 hb1 HB1 HK1)
    | ((with_reducible refine gd_build 28 ?_); refine wl_build0 rfl _ rfl _ zeroBuild ?_)
    | ((with_reducible refine gd_store 28 ?_); refine wl_store_agg rfl _ _ _ rfl b1 _ rfl _ _ HB1 (secA Sec.zero) rfl (secA Sec.zero) (store_secs _ _) (le_secs _ _) (info28s _) (secA_one _) ?_; intro w2 HB2 HK2)
    | fail)
  have hne : b0 ≠ b1 := ne_new HB0 hb1
  have hb1w : w.heap.size ≤ b1 := Nat.le_trans HK0.size hb1
  have HB3 := HK2.blk (HK1.blk HB0 id) hne
  have HK3 : Keeps w w2 (fun _ => False) := ((HK0.trans HK1).then HK2 (fun i hi e => absurd hb1w (by rw [← e]; exact Nat.not_le.2 hi)))
  go_loopw [4] (fun i wr => ∃ q : Nat, q ≤ 64 ∧ i = .int .i64 q ∧ wr.heap[b1]? = some (.cells (secA (sectorUpTo n q)) 28 (0, 0)) ∧ wr.heap[b0]? = some (.cells (secA Sec.zero) 28 (0, 0)) ∧ Keeps w wr (fun _ => False)) (fun i _ => 64 - (intOf i).toNat)
  case atStart => exact ⟨0, by omega, rfl, by rw [sectorUpTo_zero]; exact HB2, HB3, HK3⟩
  case round =>
    obtain ⟨q, hq, rfl, hb, hb2, hk⟩ := hrel
    by_cases hlt : q < 64
    · have hq9 : (q : Int) < 64 := by omega
      have hq0 : (0 : Int) ≤ q := by omega
      have hlt' : decide (q < 64) = true := by simpa using hlt
      have hc : wr.cell? ⟨b1, q, none⟩ = some (.int .u8 0) := by rw [cell_of_block hb, sec_at n q hlt]
      have hf : wr.frozen? ⟨b1, q, none⟩ = false := free_of_block hb q
      have HB := Lib.hid hb
      have HB' := Lib.hid hb2
      clear hb hb2
      go_wp2
      go_roundw
      case rel =>
        have hk2 := keeps_cell wr b1 q (.int .u8 (n / 2 ^ min (IntKind.u64.wrap (bits BinOp.and IntKind.i64 (q : Int) 7)).toNat 64 % 256))
        exact ⟨q + 1, by omega, by go_num, by rw [blk_setCell HB.out, sec_step n q hlt], hk2.blk HB'.out hne, hk.then hk2 (fun i hi e => absurd hb1w (by rw [← e]; exact Nat.not_le.2 hi))⟩
      case measure => simp [intOf]; omega
    · have hge : decide (q < 64) = false := by simpa using hlt
      obtain rfl : q = 64 := by omega
      rw [sectorUpTo_all] at hb
      clear hlt
      go_wp2_with (first
        | ((with_reducible refine gd_load 28 ?_); refine wl_load_agg rfl _ _ rfl b1 _ rfl _ _ _ hb (secA (sectorOf n)) (extract_all _) _ Try.underlying28 rfl (info28s _) ?_)
        | ((with_reducible refine gd_store 28 ?_); refine wl_store_agg rfl _ _ _ rfl b0 _ rfl _ _ hb2 (secA (sectorOf n)) rfl (secA (sectorOf n)) (store_secs _ _) (le_secs _ _) (info28s _) (secA_one _) ?_; intro w5 HB5 HK5)
        | fail)
      refine bodyPost_ret (v := secV (sectorOf n)) ?_ rfl ⟨rfl, ?_⟩
      · exact results_cell_row rfl _ _ b0 _ _ _ _ rfl HB5 Try.underlying28 rfl (info28s _)
      · exact hk.then HK5 (fun i hi e => absurd hb0 (by rw [← e]; exact Nat.not_le.2 hi))
end Go.Proofs.Ytadjcdfmppcpnaa
