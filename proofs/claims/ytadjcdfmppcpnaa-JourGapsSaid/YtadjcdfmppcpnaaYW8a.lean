import Derived.Test.YtadjcdfmppcpnaaQL
import Derived.Test.YtadjcdfmppcpnaaQP
import Derived.Test.YtadjcdfmppcpnaaYArg
/-! Layer 8: the walk of JourRoom. -/
namespace Go.Proofs.Ytadjcdfmppcpnaa
open Go Go.RowKit Go.Maps Wb

theorem mask2047 (x : Int) : bits BinOp.and IntKind.i64 x 2047 = x % 2048 := and_mask x 11 (by omega)
/-- What a call lays anew is apart. -/
theorem Law8.off {w0 w : World} {h : DH} {jb : Nat} {D : Dv} {J : Jr} (hL : Law8 w0 w h jb D J) {g : Nat} (hg : w.heap.size ≤ g) : ¬ h.S g ∧ g ≠ jb :=
  ⟨fun hs => absurd (hL.law.lt hs) (Nat.not_lt.2 hg), fun e => absurd hL.jlt (by rw [← e]; exact Nat.not_lt.2 hg)⟩
theorem arg_zeros {w : World} {bb N : Nat} (hb : w.heap[bb]? = some (.cells (Array.replicate N (.int .u8 0)) 5 (0, 0))) : isArgB w (.slice (some ⟨bb, 0, none⟩) N N) (List.replicate N 0) := by
  have e : octs (List.replicate N 0) = List.replicate N (.int .u8 0) := by unfold octs; rw [List.map_replicate]; rfl
  refine ⟨⟨_, N, by rw [e, List.length_replicate], by rw [e, List.length_replicate]; exact Nat.le_refl _, fun j x hj => ⟨bb, 0, rfl, lt_of_blk hb, ?_⟩⟩, fun cap h => by cases h⟩
  rw [cell_of_block hb, Nat.zero_add]
  rw [e] at hj
  rw [← hj]
  simp [Array.getElem?_replicate, List.getElem?_replicate]
def RoomJ (w : World) (m : Nat) (h : DH) (jb i u n : Nat) (wr : World) : Prop := ∃ L J B, FewJ L J n B i ∧ used (fsJ L) = u ∧ u ≤ m ∧ n ≤ i ∧ Law8 w wr h jb (devJ m (-1) L) J

set_option maxRecDepth 100000 in
set_option maxHeartbeats 8000000 in
theorem jourRoom_walk (w : World) (mm : Int) (v : Value) (xs : List Int) (hv : isInts w (fun g => g < w.heap.size) v xs) : Calls Try.prog 17 #[.int .i64 mm, v] w (Quiet w (.bool true)) := by
  obtain ⟨m, hm, hm9⟩ : ∃ a : Nat, mm % 128 = a ∧ a < 128 := ⟨(mm % 128).toNat, by omega, by omega⟩
  have hmm : bits BinOp.and IntKind.i64 mm 127 = (m : Int) := by rw [mask127, hm]
  have hmi : (m : Int) < 128 := by omega
  have hm0 : (0 : Int) ≤ m := by omega
  obtain ⟨a, cap, rfl, hl1, hl2, hl3, hx4⟩ := hv
  have hli : (xs.length : Int) ≤ 140737488351232 := by omega
  have HC : Hid (∀ (q : Nat), q < xs.length → ∃ g o x, kOk x ∧ a = some ⟨g, o, none⟩ ∧ g < w.heap.size ∧ w.cell? ⟨g, o + q, none⟩ = some (.int .i64 x)) := by
    intro q hq
    rcases hx4 with rfl | ⟨g, o, rfl, _, hg, hc⟩
    · simp at hq
    · exact ⟨g, o, xs[q]'hq, hl3 _ (List.getElem_mem _), rfl, hg, hc q _ (List.getElem?_eq_getElem _)⟩
  clear hx4 hl3 hm
  go_enter Try.func17, Try.ntmps17
  go_wp2_with fail
  refine new_any _ _ fun h w1 hd1 hk1 hS => ?_
  have hL1 : LawD w w1 h (devJ m (-1) []) := LawD.start (by rw [← new_dev (by omega)]; exact hd1) hk1 hS
  clear hd1 hk1 hS
  go_wp2_with fail
  refine (l8_open hL1 okJ_nil .nil (by decide)).mono ?_
  rintro e w2 ⟨L', J', jb, lv, hv, hse, hus, hlj, hf0, hnx, rfl, hL2, hbt, hjb, hk2⟩
  obtain rfl := hse settled_nil
  obtain rfl := lj_new hlj hf0 hnx
  have HREL0 : Hid (RoomJ w m h jb 0 0 0 w2) := Lib.hid ⟨[], _, [], few_new, rfl, Nat.zero_le _, Nat.le_refl _, hL2⟩
  clear hv hse hus hlj hf0 hnx hL2 hbt hjb hk2 hL1 hmm
  go_upto_block 0 with fail
  go_cut [8, 9] (fun v8 v9 wx => ∃ q u n : Nat, q ≤ 20 ∧ u ≤ m ∧ n ≤ 20 ∧ v8 = .int .i64 u ∧ v9 = .int .u64 n ∧ Hid (RoomJ w m h jb q u n wx))
  case first =>
    as_aux_lemma =>
    go_wp2_with fail
    go_loopw [8, 9, 10] (fun v8 v9 i wr => ∃ q u n : Nat, q ≤ 20 ∧ i = .int .i64 q ∧ v8 = .int .i64 u ∧ v9 = .int .u64 n ∧ Hid (RoomJ w m h jb q u n wr)) (fun _ _ i _ => 20 - (intOf i).toNat)
    case atStart => exact ⟨0, 0, 0, Nat.zero_le _, rfl, rfl, rfl, HREL0⟩
    case round =>
      clear HREL0
      obtain ⟨q, u, n, hq, rfl, rfl, rfl, hrel⟩ := hrel
      have hq0 : (0 : Int) ≤ q := by omega
      have hqi : (q : Int) ≤ 20 := by omega
      obtain ⟨L, J, B, hfew, hus, hum, hnq, hL⟩ := hrel.out
      have hui : (u : Int) ≤ m := by omega
      have hu0 : (0 : Int) ≤ u := by omega
      have hni : (n : Int) ≤ 20 := by omega
      have hn0 : (0 : Int) ≤ n := by omega
      by_cases hlt : q < xs.length ∧ q < 20
      · have hlt1 : decide (q < xs.length) = true := by simpa using hlt.1
        have hql : (q : Int) < xs.length := by omega
        have hq2 : (q : Int) < 20 := by omega
        have hlt2 : decide ((q : Int) < 20) = true := by simp; omega
        obtain ⟨g, o, x, hx, rfl, hg, hcw⟩ := HC.out q hlt.1
        obtain ⟨nn, hn, hn9⟩ : ∃ e : Nat, x % 2048 = e ∧ e < 2048 := ⟨(x % 2048).toNat, by omega, by omega⟩
        have hmk : bits BinOp.and IntKind.i64 x 2047 = nn := by rw [mask2047, hn]
        have hcx : wr.cell? ⟨g, o + q, none⟩ = some (.int .i64 x) := (hL.law.keeps.cell (p := ⟨g, o + q, none⟩) hg id).trans hcw
        have HQ := Lib.hid hlt.2
        have HF := Lib.hid hfew
        have HU := Lib.hid hus
        have HUM := Lib.hid hum
        have HNQ := Lib.hid hnq
        have HL := Lib.hid hL
        have hni9 : (nn : Int) < 2048 := by omega
        have hni0 : (0 : Int) ≤ nn := by omega
        clear hlt hfew hus hum hnq hL hrel hcw hn
        go_wp2_with fail
        refine (octets_calls _ nn q (by omega) (kOk_small (by omega))).mono ?_
        rintro e w3 ⟨bv, rfl, ho3, hk3⟩
        have hL3 := HL.out.more hk3
        have hoff : ∀ g, bv.ownBlock = some g → ¬ h.S g ∧ g ≠ jb := fun g hg => HL.out.off (ho3.blk g hg).1
        have hlen : (octP nn q).length = nn := octP_len _ _
        have hkn := needN_small (n := nn) (by omega)
        obtain ⟨k, hk⟩ : ∃ k, k = needN nn := ⟨_, rfl⟩
        have HK := Lib.hid hk
        rw [← hk] at hkn
        have hki : (k : Int) ≤ 128 := by omega
        have hk1 := needN_pos nn
        have hk0 : (1 : Int) ≤ k := by omega
        by_cases hroom : u + k ≤ m
        · as_aux_lemma =>
          have hrb : decide ((m : Int) - (u : Int) < (k : Int)) = false := by simp; omega
          go_wp2_with fail
          refine (l8_append (kind := 1) (n := n) hL3 HF.out.live (by have := HF.out.next; omega) (by have := HF.out.file; omega) ⟨by decide, by decide, by rw [hlen, ← hk]; omega, by omega⟩ (by rw [hlen, ← hk, HU.out]; exact hroom) (by omega) (isOwn.arg ho3) hoff).mono ?_
          rintro e w4 ⟨L0, f, l, nx, L', bv4, hsp, hdn, rfl, hL4, hbo, hk4⟩
          have o1 := own_one1 hbo
          have HF4 := Lib.hid (HF.out.append hsp hdn)
          have HU4 : Hid (used (fsJ L') = u + k) := Lib.hid (by rw [hdn.used, HU.out, hlen, ← hk])
          obtain ⟨ba, bc, rfl, _⟩ := isOwn.rd hbo
          clear hsp hdn hbo hk4 ho3 hk3 hL3 hoff hlen hk HL
          go_wp2_with (first
            | ((with_reducible refine gd_alloc 94 ?_); refine wl_alloc_agg rfl _ rfl _ zeroBt ?_; intro b12 w5 hb5 HB5 HK5)
            | ((with_reducible refine gd_store 94 ?_); refine wl_store_agg rfl _ _ _ rfl b12 _ rfl _ _ HB5 (btA (n + 1) 1 (.slice ba _ bc) f l.length) rfl (btA (n + 1) 1 (.slice ba _ bc) f l.length) (store_bt _ _ _ _ _ _ _ _ _ _) (le_bt _ _ _ _ _ _ _ _ _ _) (infoBt _ _ _ _ _) (btA_one o1) ?_; intro w6 HB6 HK6; have c0 : w6.cell? ⟨b12, 0, none⟩ = some (.int .u64 ((n : Int) + 1)) := (by rw [cell_of_block HB6]; rfl))
            | fail)
          have hL6 := hL4.more (HK5.then HK6 (fun i hi e => absurd hb5 (by rw [← show i = b12 from e]; exact Nat.not_le.2 hi)))
          have HREL := Lib.hid (show RoomJ w m h jb (q + 1) (u + k) (n + 1) w6 from ⟨L', _, _, HF4.out, HU4.out, hroom, Nat.succ_le_succ HNQ.out, hL6⟩)
          clear hb5 HB5 HK5 HB6 HK6 hL4
          refine (need_calls _ nn (by omega)).mono ?_
          rintro e w' ⟨rfl, rfl⟩
          rw [← HK.out]
          have huk : ((u + k : Nat) : Int) = (u : Int) + k := by omega
          go_wp2_with (first
            | (go_at_call 32; refine (used_calls _ h _ hL6.law.dev).mono ?_; rintro e w' ⟨he, rfl⟩; rw [show used (devJ m (-1) L').files = u + k from HU4.out, huk] at he; subst he)
            | fail)
          clear huk
          go_roundw
          case rel => exact ⟨q + 1, u + k, n + 1, HQ.out, by go_num, by go_num, by go_num, HREL⟩
          case measure => have := HQ.out; simp [intOf]; omega
        · as_aux_lemma =>
          have hrb : decide ((m : Int) - (u : Int) < (k : Int)) = true := by simp; omega
          go_wp2_with fail
          refine (l8_refuse (kind := 1) (r := 6) hL3 (pre_full (kind := 1) HF.out.live ⟨by decide, by decide⟩ (by omega) (by rw [hlen, ← hk]; omega) (by rw [hlen, ← hk, HU.out]; omega) (by rw [HU.out]; exact HUM.out)) (by decide) (by rw [HF.out.live.seq]; omega) (by omega) (isOwn.arg ho3)).mono ?_
          rintro e w4 ⟨rfl, hL4, hk4⟩
          clear hk4 ho3 hk3 hL3 hoff hlen hk HL
          go_wp2_with (first
            | ((with_reducible refine gd_alloc 94 ?_); refine wl_alloc_agg rfl _ rfl _ zeroBt ?_; intro b12 w5 hb5 HB5 HK5)
            | ((with_reducible refine gd_store 94 ?_); refine wl_store_agg rfl _ _ _ rfl b12 _ rfl _ _ HB5 btZ rfl btZ (store_bt _ _ _ _ _ _ _ _ _ _) (le_bt _ _ _ _ _ _ _ _ _ _) (infoBt _ _ _ _ _) (btA_one rfl) ?_; intro w6 HB6 HK6; have c0 : w6.cell? ⟨b12, 0, none⟩ = some (.int .u64 0) := (by rw [cell_of_block HB6]; rfl))
            | fail)
          have hL6 := hL4.more (HK5.then HK6 (fun i hi e => absurd hb5 (by rw [← show i = b12 from e]; exact Nat.not_le.2 hi)))
          have HREL := Lib.hid (show RoomJ w m h jb (q + 1) u n w6 from ⟨L, _, _, HF.out.more, HU.out, HUM.out, Nat.le_succ_of_le HNQ.out, hL6⟩)
          have HSEQ : Hid (J.seq = n) := Lib.hid HF.out.live.seq
          clear hb5 HB5 HK5 HB6 HK6 hL4
          refine (need_calls _ nn (by omega)).mono ?_
          rintro e w' ⟨rfl, rfl⟩
          rw [← HK.out]
          go_wp2_with (first
            | (go_at_call 32; refine (used_calls _ h _ hL6.law.dev).mono ?_; rintro e w' ⟨he, rfl⟩; rw [show used (devJ m (-1) L).files = u from HU.out] at he; subst he)
            | (go_at_call 67; refine (jseq_calls _ h jb _ hL6.jr).mono ?_; rintro e w' ⟨he, rfl⟩; rw [HSEQ.out] at he; subst he)
            | fail)
          go_roundw
          case rel => exact ⟨q + 1, u, n, HQ.out, by go_num, rfl, rfl, HREL⟩
          case measure => have := HQ.out; simp [intOf]; omega
      · have hout : (decide (q < xs.length) = false) ∨ (decide (q < xs.length) = true ∧ decide ((q : Int) < 20) = false) := by
          simp only [decide_eq_false_iff_not, decide_eq_true_eq]
          omega
        have HOUT : Hid (RoomJ w m h jb q u n wr ∧ u ≤ m ∧ n ≤ 20) := Lib.hid ⟨hrel.out, hum, by omega⟩
        have HQ := Lib.hid hq
        clear hlt hfew hus hum hnq hL hrel
        rcases hout with h1 | ⟨h1, h2⟩
        all_goals
          go_wp2_with fail
          go_meet
          exact ⟨q, u, n, HQ.out, HOUT.out.2.1, HOUT.out.2.2, rfl, rfl, Lib.hid HOUT.out.1⟩
  case rest =>
    as_aux_lemma =>
    clear HREL0
    obtain ⟨wx, hwx⟩ : ∃ x, x = wc := ⟨wc, rfl⟩
    rw [← hwx] at hcut ⊢
    clear hwx
    obtain ⟨q, u, n, hq, hum, hnq, rfl, rfl, hrel⟩ := hcut
    obtain ⟨L, J, B, hfew, hus, _, _, hL⟩ := hrel.out
    have hn0 : (0 : Int) ≤ n := by omega
    have hni : (n : Int) ≤ 20 := by omega
    have HF := Lib.hid hfew
    have HL := Lib.hid hL
    clear hfew hus hL hrel
    go_wp2_with (first
      | (refine wl_make1 rfl _ _ _ rfl 5 _ 1 Try.underlying63 info_u8 rfl _ _ _ 196609 rfl rfl rfl (by omega) (by unfold maxLen; omega) ?_; intro bb w1 hbb HB1 HK1)
      | fail)
    have hL1 := HL.out.more HK1
    refine (l8_refuse (kind := 1) (r := 11) (b := List.replicate 196609 0) hL1 (pre_bound (kind := 1) HF.out.live.dead ⟨by decide, by decide⟩ (by rw [List.length_replicate]; decide)) (by decide) (by rw [HF.out.live.seq]; omega) (by rw [List.length_replicate]; decide) (arg_zeros HB1)).mono ?_
    rintro e w4 ⟨rfl, hL4, hk4⟩
    have HL4 := Lib.hid hL4
    clear hk4 hL4 hL1 HB1 HK1 hbb HL
    go_wp2_with (first
      | ((with_reducible refine gd_alloc 94 ?_); refine wl_alloc_agg rfl _ rfl _ zeroBt ?_; intro b12 w5 hb5 HB5 HK5)
      | ((with_reducible refine gd_store 94 ?_); refine wl_store_agg rfl _ _ _ rfl b12 _ rfl _ _ HB5 btZ rfl btZ (store_bt _ _ _ _ _ _ _ _ _ _) (le_bt _ _ _ _ _ _ _ _ _ _) (infoBt _ _ _ _ _) (btA_one rfl) ?_; intro w6 HB6 HK6)
      | fail)
    have hL6 := HL4.out.more (HK5.then HK6 (fun i hi e => absurd hb5 (by rw [← show i = b12 from e]; exact Nat.not_le.2 hi)))
    refine (l8_scan hL6.law HF.out.live.ok HF.out.live.run.tells HF.out.live.ok.len).mono ?_
    rintro e w7 ⟨lv7, rfl, hbt, hk7⟩
    obtain ⟨ad7, cap7, rfl⟩ := hbt.shape
    rw [HF.out.live.run.tells.len]
    have HK7 := Lib.hid (hL6.law.keeps.trans hk7)
    clear hbt hk7 hL6 hb5 HB5 HK5 HB6 HK6 HL4 HF
    go_wp2_with (first
      | (go_at_call 61; refine (awake8_calls _).mono ?_; rintro e w8 ⟨rfl, hk8⟩)
      | fail)
    go_ret
    exact ⟨rfl, HK7.out.trans hk8⟩
end Go.Proofs.Ytadjcdfmppcpnaa
