import Derived.Test.YtadjcdfmppcpnaaYH3
/-! Layer 9: the walk of PageRoom. -/
namespace Go.Proofs.Ytadjcdfmppcpnaa
open Go Go.RowKit Go.Maps Wb

def RoomRel (w : World) (m : Nat) (f : Nat) (h : DH) (i : Nat) (wr : World) : Prop := ∃ F L, RoomOk m L i F ∧ L ≤ m ∧ Law9 w wr f h F (fun _ => False)
theorem fresh_len {m L i : Nat} {F : Pg} (h : RoomOk m L i F) : F.fresh.length = i := by rw [h.fresh]; simp
theorem own_new {w w' : World} {e : TypeId} {v : Value} {vs : List Value} (h : isOwn w' w.heap.size e v vs) : ∀ g, v.ownBlock = some g → w.heap.size ≤ g ∧ g < w'.heap.size := fun g hg => h.blk g hg

set_option maxRecDepth 100000 in
set_option maxHeartbeats 8000000 in
theorem pageRoom_walk (w : World) (mm : Int) : Calls Try.prog 11 #[.int .i64 mm] w (Quiet w (.bool true)) := by
  obtain ⟨k, hk, hk9⟩ : ∃ a : Nat, mm % 256 = a ∧ a < 256 := ⟨(mm % 256).toNat, by omega, by omega⟩
  obtain ⟨m, hm⟩ : ∃ m : Nat, m = 16 + k := ⟨_, rfl⟩
  obtain ⟨n, hn⟩ : ∃ n : Nat, n = m / 8 - 2 := ⟨_, rfl⟩
  have hmm : bits BinOp.and IntKind.i64 mm 255 = (k : Int) := by rw [mask255, hk]
  have hmi : (16 : Int) + k = m := by omega
  have hm9 : (m : Int) < 272 := by omega
  have hm0 : (16 : Int) ≤ m := by omega
  have hni : (m : Int) / 8 - 2 = n := by omega
  have hn9 : (n : Int) < 32 := by omega
  have hn0 : (0 : Int) ≤ n := by omega
  have hn1 : 16 + 8 * n ≤ m := by omega
  have hn2 : m < 16 + 8 * n + 8 := by omega
  have hn3 : m / 8 = 2 + n := by omega
  obtain ⟨D1, E1, E2, E3⟩ := room_start (m := m) (by omega) (by omega)
  have H1 := Lib.hid E1
  have H2 := Lib.hid E2
  have H3 := Lib.hid E3
  have HMI := Lib.hid hmi
  have HNI := Lib.hid hni
  have HN1 := Lib.hid hn1
  have HN2 := Lib.hid hn2
  have HN3 := Lib.hid hn3
  clear hk hm hn hmi hni hn1 hn2 hn3 E1 E2 E3
  go_enter Try.func11, Try.ntmps11
  go_upto_region 2 with fail
  rw [HMI.out]
  go_wp2_with fail
  refine new_any _ _ fun h w1 hd1 hk1 hS => ?_
  go_wp2_with fail
  refine l_open (w0 := w) (X := fun _ => False) hd1 (openE_files _) H1.out H2.out (fun _ h => h.elim) hS hk1 fun f w2 hL2 _ => ?_
  clear hd1 hk1 hS
  go_upto_region 9 with fail
  rw [HNI.out]
  have HREL0 : Hid (RoomRel w m f h 0 w2) := Lib.hid ⟨_, _, H3.out, by omega, hL2⟩
  clear hL2 hmm
  go_wp2_with fail
  go_loopw [7] (fun i wr => ∃ q : Nat, q ≤ 2 ∧ i = .int .i64 q ∧ Hid (RoomRel w m f h 0 wr)) (fun i _ => 2 - (intOf i).toNat)
  case atStart => exact ⟨0, Nat.zero_le _, rfl, HREL0⟩
  case round =>
    clear HREL0
    obtain ⟨q, hq, rfl, hrel⟩ := hrel
    have hq0 : (0 : Int) ≤ q := by omega
    by_cases hlt : q < 2
    · have hlb : decide (q < 2) = true := by simpa using hlt
      have hq9 : (q : Int) < 2 := by omega
      have HQ := Lib.hid hlt
      clear hlt
      obtain ⟨wo, rfl⟩ : ∃ wo : World, wo = wr := ⟨_, rfl⟩
      have hrelO := hrel
      clear hrel
      go_wp2_with fail
      go_loopw [8] (fun i wr => ∃ j : Nat, j ≤ n ∧ i = .int .i64 j ∧ Hid (RoomRel w m f h j wr)) (fun i _ => n - (intOf i).toNat)
      case atStart => exact ⟨0, Nat.zero_le _, rfl, hrelO⟩
      case round =>
        clear hrelO
        obtain ⟨j, hj, rfl, hrel⟩ := hrel
        have hj0 : (0 : Int) ≤ j := by omega
        by_cases hlt : j < n
        · have hlb2 : decide (j < n) = true := by simpa using hlt
          have hj9 : (j : Int) < 32 := by omega
          obtain ⟨F, L, hok, hLm, hL⟩ := hrel.out
          obtain ⟨F2, hput, hok2⟩ := room_put hok (fillL j) (by have := HN1.out; omega)
          have HPUT := Lib.hid hput
          have HLST : Hid (∀ r, isLeast F r → r = 2 + j) := Lib.hid fun r hr => room_least hok hr
          have HOK := Lib.hid hok
          have HREL2 : Hid (∀ wx, Law9 w wx f h F2 (fun _ => False) → RoomRel w m f h (j + 1) wx) := Lib.hid fun wx hx => ⟨F2, _, hok2, by have := HN1.out; omega, hx⟩
          have HLT := Lib.hid hlt
          clear hput hok hok2 hrel hlt
          go_wp2_with fail
          refine (fill_calls _ j (kOk_small (by omega))).mono ?_
          rintro e w3 ⟨bv, rfl, ho3, hk3⟩
          go_wp2_with fail
          refine (l_put (b := fillL j) hL HOK.out.dead hk3 (isOwn.rd ho3) (own_new ho3) (fillL_le _) (by rw [fresh_len HOK.out]; omega)).mono ?_
          rintro e w4 ⟨p, hp, he, hL4, _⟩
          obtain rfl := HLST.out p hp
          rw [HPUT.out] at he hL4
          dsimp only at he hL4
          have hcast : (((2 + j : Nat)) : Int) = 2 + (j : Int) := by omega
          rw [if_pos rfl, hcast] at he
          subst he
          have HREL3 := Lib.hid (HREL2.out w4 hL4)
          clear hcast hp hL4 ho3 hk3 hL
          go_wp2
          go_roundw
          case rel => exact ⟨j + 1, HLT.out, by go_num, HREL3⟩
          case measure => have := HLT.out; simp [intOf]; omega
        · have hlb2 : decide (j < n) = false := by simpa using hlt
          obtain rfl : j = n := by omega
          obtain ⟨F, L, hok, hLm, hL⟩ := hrel.out
          obtain ⟨F2, hput, hok2⟩ := room_full hok (fillL 1) hLm HN2.out
          have HPUT := Lib.hid hput
          have HLST : Hid (∀ r, isLeast F r → r = 2 + j) := Lib.hid fun r hr => room_least hok hr
          have HOK := Lib.hid hok
          have HPG : Hid (pagesOf F2.d = 2 + j) := Lib.hid (by rw [hok2.pages, HN3.out])
          have HFR : Hid (freeOf F2 = []) := Lib.hid (free_none hok2 HN3.out)
          obtain ⟨hok3, hfl3⟩ := room_drop hok2 HN3.out
          have HFL3 := Lib.hid hfl3
          have HMT : Hid ((dropP F2).mt = mt1) := Lib.hid hok3.mt
          have HREL2 : Hid (∀ wx, Law9 w wx f h (dropP F2) (fun _ => False) → RoomRel w m f h 0 wx) := Lib.hid fun wx hx => ⟨_, _, hok3, by omega, hx⟩
          have HFRL : Hid (F2.fresh.length ≤ 140737488351232) := Lib.hid (by rw [fresh_len hok2]; omega)
          clear hput hok hok2 hrel hlt hok3 hfl3
          go_wp2_with fail
          refine (fill_calls _ 1 (kOk_small (by omega))).mono ?_
          rintro e w3 ⟨bv, rfl, ho3, hk3⟩
          go_wp2_with fail
          refine (l_put (b := fillL 1) hL HOK.out.dead hk3 (isOwn.rd ho3) (own_new ho3) (fillL_le _) (by rw [fresh_len HOK.out]; omega)).mono ?_
          rintro e w4 ⟨p, hp, he, hL4, _⟩
          obtain rfl := HLST.out p hp
          rw [HPUT.out] at he hL4
          dsimp only at he hL4
          rw [if_neg (by decide)] at he
          subst he
          clear hp ho3 hk3 hL
          go_wp2_with fail
          refine (l_len hL4).mono ?_
          rintro e w' ⟨he, rfl⟩
          have hcast : (((2 + j : Nat)) : Int) = 2 + (j : Int) := by omega
          rw [HPG.out, hcast] at he
          subst he
          clear hcast
          go_wp2_with fail
          refine (l_free hL4).mono ?_
          rintro e w5 ⟨v5, rfl, ho5, hL5, _⟩
          rw [HFR.out] at ho5
          have hr5 : isRd w5 v5 [] := isOwn.rd ho5
          obtain ⟨va, vc, rfl, _⟩ := hr5
          clear ho5
          go_wp2_with fail
          refine (l_drop hL5 HFRL.out).mono ?_
          rintro e w6 ⟨rfl, hL6, _⟩
          go_wp2_with fail
          refine (l_free hL6).mono ?_
          rintro e w7 ⟨v7, rfl, ho7, hL7, _⟩
          have hr7 := isOwn.rd ho7
          obtain ⟨vb, vd, rfl, _⟩ := hr7
          have hl7 : (intsV (freeOf (dropP F2))).length = j := by rw [intsV_len, HFL3.out]
          rw [hl7]
          clear ho7 hl7
          go_wp2_with (first
            | (go_at_call 46; refine (l_meta hL7).mono ?_; rintro e w8 ⟨he, hL8, _⟩; rw [HMT.out] at he; subst he)
            | ((with_reducible refine gd_bin 66 ?_); refine wl_bin (by rfl) _ _ _ _ _ rfl (.agg (metaA mt1)) (.agg (metaA mt1)) rfl rfl (.bool false) (fun W => run_guard_mt W _ _ _ _ _) (neq_mt mt1_good mt1_good _ (by simp)) ?_)
            | fail)
          have HREL3 := Lib.hid (HREL2.out w8 hL8)
          clear hL8 hL7 hL6 hL5 hL4
          go_roundw
          case rel => exact ⟨q + 1, HQ.out, by go_num, HREL3⟩
          case measure => have := HQ.out; simp [intOf]; omega
    · have hlb : decide (q < 2) = false := by simpa using hlt
      obtain rfl : q = 2 := by omega
      obtain ⟨F, L, hok, hLm, hL⟩ := hrel.out
      clear hlt hrel
      go_wp2_with fail
      refine (awake9_calls _).mono ?_
      rintro e w3 ⟨rfl, hk3⟩
      go_wp2
      go_ret
      exact ⟨rfl, hL.keeps.trans hk3⟩
end Go.Proofs.Ytadjcdfmppcpnaa
