import Derived.Test.YtadjcdfmppcpnaaQG
import Derived.Test.YtadjcdfmppcpnaaMk
import Derived.Test.YtadjcdfmppcpnaaMsk
/-! Layer 9: the statements' own helpers: fill, whole, sameInts. -/
namespace Go.Proofs.Ytadjcdfmppcpnaa
open Go Go.RowKit Go.Maps Wb

def fillB (v : Int) (i : Nat) : UInt8 := UInt8.ofNat ((v / 16 + i) % 256).toNat
theorem fillB_val (v : Int) (i : Nat) : ((fillB v i).toNat : Int) = (v / 16 + i) % 256 := by
  unfold fillB
  have h1 : 0 ≤ (v / 16 + i) % 256 := Int.emod_nonneg _ (by omega)
  have h2 : (v / 16 + i) % 256 < 256 := Int.emod_lt_of_pos _ (by omega)
  generalize (v / 16 + i) % 256 = x at *
  simp only [UInt8.toNat_ofNat']
  omega
def fillL (v : Int) : List UInt8 := (List.range (1 + (v % 512).toNat)).map (fillB v)
def fillTo (v : Int) (n q : Nat) : List UInt8 := (List.range n).map fun i => if i < q then fillB v i else 0
theorem fillL_len (v : Int) : (fillL v).length = 1 + (v % 512).toNat := by simp [fillL]
theorem fillL_le (v : Int) : (fillL v).length ≤ 512 := by rw [fillL_len]; have := Int.emod_lt_of_pos v (show (0 : Int) < 512 by decide); have := Int.emod_nonneg v (show (512 : Int) ≠ 0 by decide); omega
theorem fillTo_zero (v : Int) (n : Nat) : (octs (fillTo v n 0)).toArray = Array.replicate n (.int .u8 0) := by
  apply Array.toList_inj.1
  simp [fillTo, octs, octV, Function.comp_def, List.map_const']
theorem fillTo_all (v : Int) : fillTo v (1 + (v % 512).toNat) (1 + (v % 512).toNat) = fillL v := by
  unfold fillTo fillL
  apply List.map_congr_left
  intro i hi
  simp at hi
  simp; omega
theorem fillTo_step (v : Int) (n q : Nat) (hq : q < n) : (octs (fillTo v n q)).toArray.setIfInBounds q (octV (fillB v q)) = (octs (fillTo v n (q + 1))).toArray := by
  apply Array.toList_inj.1
  simp only [Array.toList_setIfInBounds]
  apply List.ext_getElem?
  intro j
  rw [List.getElem?_set]
  simp only [octs, fillTo, List.getElem?_map, List.length_map, List.length_range]
  by_cases hj : q = j
  · subst hj
    simp [hq]
  · simp only [hj, if_false]
    by_cases hjn : j < n
    · simp [hjn]
      have : (j < q) ↔ (j < q + 1) := by omega
      simp [this]
    · simp [hjn]
def FillRel (w : World) (v : Int) (n bb q : Nat) (wr : World) : Prop := wr.heap[bb]? = some (.cells (octs (fillTo v n q)).toArray 5 (0, 0)) ∧ Keeps w wr (fun _ => False)

set_option maxRecDepth 100000 in
set_option maxHeartbeats 1000000 in
theorem fill_calls (w : World) (v : Int) (hv : kOk v) : Calls Try.prog 49 #[.int .i64 v] w (OctsPost w (fillL v)) := by
  obtain ⟨n, hn⟩ : ∃ n : Nat, n = 1 + (v % 512).toNat := ⟨_, rfl⟩
  have hm0 := Int.emod_nonneg v (show (512 : Int) ≠ 0 by decide)
  have hm9 := Int.emod_lt_of_pos v (show (0 : Int) < 512 by decide)
  have hni : (1 : Int) + v % 512 = n := by omega
  have hm : bits BinOp.and IntKind.i64 v 511 = v % 512 := mask511 v
  have hn9 : (n : Int) ≤ 512 := by omega
  have hn1 : n ≤ 512 := by omega
  have hd0 : -1152921504606846976 ≤ v / 16 := by unfold kOk at hv; omega
  have hd1 : v / 16 ≤ 1152921504606846976 := by unfold kOk at hv; omega
  have HN := Lib.hid hn
  have HNI := Lib.hid hni
  clear hn hni hv
  go_enter Try.func49, Try.ntmps49
  go_wp2_with (first
    | (refine wl_make1 rfl _ _ _ rfl 5 _ 1 Try.underlying63 info_u8 rfl _ _ _ n rfl rfl HNI.out (by omega) (by unfold maxLen; omega) ?_; intro bb w1 hbb HB1 HK1)
    | fail)
  rw [← fillTo_zero v n] at HB1
  have HREL0 : Hid (FillRel w v n bb 0 w1) := Lib.hid ⟨HB1, HK1⟩
  have HBB := Lib.hid hbb
  clear HB1 HK1 hbb hm
  go_loopw [11] (fun i wr => ∃ q : Nat, q ≤ n ∧ i = .int .i64 q ∧ Hid (FillRel w v n bb q wr)) (fun i _ => n - (intOf i).toNat)
  case atStart => exact ⟨0, Nat.zero_le _, rfl, HREL0⟩
  case round =>
    clear HREL0
    obtain ⟨q, hq, rfl, hrel⟩ := hrel
    have hq0 : (0 : Int) ≤ q := by omega
    by_cases hlt : q < n
    · have hlb : decide (q < n) = true := by simpa using hlt
      have hq9 : (q : Int) < n := by omega
      obtain ⟨hb, hk⟩ := hrel.out
      have hc : wr.cell? ⟨bb, q, none⟩ = some (octV 0) := by
        rw [cell_of_block hb]; simp [octs, fillTo, hlt]
      have hfr : wr.frozen? ⟨bb, q, none⟩ = false := free_of_block hb q
      have hb2 := blk_setCell hb q (octV (fillB v q))
      rw [fillTo_step v n q hlt] at hb2
      have hk2 := hk.then (keeps_cell wr bb q (octV (fillB v q))) (fun i hi e => absurd HBB.out (by rw [← show i = bb from e]; exact Nat.not_le.2 hi))
      have hval : octV (fillB v q) = .int .u8 ((v / 16 + q) % 256) := by unfold octV; rw [fillB_val]
      rw [hval] at hb2 hk2
      have HREL := Lib.hid (show FillRel w v n bb (q + 1) _ from ⟨hb2, hk2⟩)
      have HLT := Lib.hid hlt
      clear hb hk hb2 hk2 hval hrel hlt
      go_wp2
      go_roundw
      case rel => exact ⟨q + 1, HLT.out, by go_num, HREL⟩
      case measure => have := HLT.out; simp [intOf]; omega
    · have hlb : decide (q < n) = false := by simpa using hlt
      obtain rfl : q = n := by omega
      have hle := fillL_len v
      rw [← HN.out] at hle
      have HLE := Lib.hid hle
      have hfa := fillTo_all v
      rw [← HN.out] at hfa
      have HFA := Lib.hid hfa
      clear hlt hle hfa
      go_wp2
      go_ret
      obtain ⟨hb, hk⟩ := hrel.out
      rw [HFA.out] at hb
      have hlen : (octs (fillL v)).length = q := by rw [octs_len, HLE.out]
      have := isOwn_made hb HBB.out (by rw [hlen]; unfold maxLen; omega)
      rw [hlen] at this
      refine ⟨_, rfl, ?_, hk⟩
      show isOwn _ _ _ _ _
      exact this
end Go.Proofs.Ytadjcdfmppcpnaa
