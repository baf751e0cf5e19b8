import Derived.Test.YtadjcdfmppcpnaaYW8a
import Derived.Test.YtadjcdfmppcpnaaUn
import Derived.Test.YtadjcdfmppcpnaaGd
import Derived.Test.YtadjcdfmppcpnaaYJ17b
/-! Layer 8: the walk of JourNeeds. -/
namespace Go.Proofs.Ytadjcdfmppcpnaa
open Go Go.RowKit Go.Maps Wb

theorem mask65535 (x : Int) : bits BinOp.and IntKind.i64 x 65535 = x % 65536 := and_mask x 16 (by omega)
theorem needs_max (n : Nat) : max (((n : Int) + 47) / 48) 1 = (needN n : Int) := by unfold needN; split <;> omega
theorem isRdB.new {w w' : World} {v : Value} {l : List Bt} (h : isRdB w v l) (hk : Keeps w w' (fun _ => False)) : isRdB w' v l := by
  obtain ⟨bvs, h1, h2, h3⟩ := h
  exact ⟨bvs, h1, h2.new hk, fun j t bv ht hb => (h3 j t bv ht hb).new hk⟩
theorem rdB_one {w : World} {b : Nat} {x : Bt} {bv : Value} {t : TypeId} {fr : Nat × Nat} (hb : w.heap[b]? = some (.cells (btA x.seq x.kind bv x.file x.pos) t fr)) (hv : isRd w bv (octs x.b)) : isRdB w (.slice (some ⟨b, 0, none⟩) 1 1) [x] := by
  refine ⟨[bv], rfl, ⟨_, 1, rfl, Nat.le_refl _, fun j r hj => ?_⟩, fun j y u hy hu => ?_⟩
  · cases j with
    | succ j => simp [btRows] at hj
    | zero =>
      simp only [btRows, List.zipWith_cons_cons, List.zipWith_nil_left, List.getElem?_cons_zero, Option.some.injEq] at hj
      subst hj
      refine ⟨b, 0, rfl, lt_of_blk hb, fun i v hi => ?_⟩
      show w.cell? ⟨b, 0 + 0 * 5 + i, none⟩ = some v
      rw [cell_of_block hb, Nat.zero_mul, Nat.zero_add]
      simpa using hi
  · cases j with
    | succ j => simp at hy
    | zero =>
      simp only [List.getElem?_cons_zero, Option.some.injEq] at hy hu
      subst hy hu
      exact hv

set_option maxRecDepth 100000 in
set_option maxHeartbeats 8000000 in
theorem jourNeeds_walk (w : World) (nn kk pp : Int) : Calls Try.prog 16 #[.int .i64 nn, .int .i64 kk, .int .i64 pp] w (Quiet w (.bool true)) := by
  obtain ⟨n, hn, hn9⟩ : ∃ a : Nat, nn % 1024 = a ∧ a < 1024 := ⟨(nn % 1024).toNat, by omega, by omega⟩
  obtain ⟨k, hk, hk9⟩ : ∃ a : Nat, kk % 256 = a ∧ a < 256 := ⟨(kk % 256).toNat, by omega, by omega⟩
  have hmn : bits BinOp.and IntKind.i64 nn 1023 = (n : Int) := by rw [mask1023, hn]
  have hmk : bits BinOp.and IntKind.i64 kk 255 = (k : Int) := by rw [mask255, hk]
  have hni : (n : Int) < 1024 := by omega
  have hn0 : (0 : Int) ≤ n := by omega
  have hki : (k : Int) < 256 := by omega
  have hk0 : (0 : Int) ≤ k := by omega
  clear hn hk
  go_enter Try.func16, Try.ntmps16
  go_wp2_with fail
  refine new_any _ _ fun h w1 hd1 hk1 hS => ?_
  have hL1 : LawD w w1 h (devJ 100 (-1) []) := LawD.start (by rw [← new_dev (by decide)]; exact hd1) hk1 hS
  clear hd1 hk1 hS
  go_wp2_with fail
  refine (l8_open hL1 okJ_nil .nil (by decide)).mono ?_
  rintro e w2 ⟨L', J', jb, lv, hv, hse, hus, hlj, hf0, hnx, rfl, hL2, hbt, hjb, hk2⟩
  obtain rfl := hse settled_nil
  obtain rfl := lj_new hlj hf0 hnx
  have HL2 := Lib.hid hL2
  clear hv hse hus hlj hf0 hnx hL2 hbt hjb hk2 hL1 hmn
  go_wp2_with fail
  refine (octets_calls _ n k (by omega) (kOk_small (by omega))).mono ?_
  rintro e w3 ⟨bv, rfl, ho3, hk3⟩
  have hL3 := HL2.out.more hk3
  have hoff : ∀ g, bv.ownBlock = some g → ¬ h.S g ∧ g ≠ jb := fun g hg => HL2.out.off (ho3.blk g hg).1
  have hlen : (octP n k).length = n := octP_len _ _
  have hkn := needN_small (n := n) (by omega)
  clear HL2 hmk
  by_cases hz : k = 0
  · as_aux_lemma =>
    subst hz
    go_wp2_with fail
    refine (l8_refuse (kind := 0) (r := 1) hL3 (pre_arg rfl) (by decide) (by decide) (by omega) (isOwn.arg ho3)).mono ?_
    rintro e w4 ⟨rfl, hL4, hk4⟩
    have HL4 := Lib.hid hL4
    clear hk4 hL4 hL3 ho3 hk3 hoff hlen hkn
    go_wp2_with (first
      | ((with_reducible refine gd_alloc 94 ?_); refine wl_alloc_agg rfl _ rfl _ zeroBt ?_; intro b12 w5 hb5 HB5 HK5)
      | ((with_reducible refine gd_store 94 ?_); refine wl_store_agg rfl _ _ _ rfl b12 _ rfl _ _ HB5 btZ rfl btZ (store_bt _ _ _ _ _ _ _ _ _ _) (le_bt _ _ _ _ _ _ _ _ _ _) (infoBt _ _ _ _ _) (btA_one rfl) ?_; intro w6 HB6 HK6)
      | fail)
    have hL6 := HL4.out.more (HK5.then HK6 (fun i hi e => absurd hb5 (by rw [← show i = b12 from e]; exact Nat.not_le.2 hi)))
    clear hb5 HB5 HK5 HB6 HK6 HL4
    refine (used_calls _ h _ hL6.law.dev).mono ?_
    rintro e w' ⟨he, rfl⟩
    rw [show used (devJ 100 (-1) []).files = 0 from rfl] at he
    subst he
    go_wp2_with fail
    refine (awake8_calls _).mono ?_
    rintro e w8 ⟨rfl, hk8⟩
    go_wp2_with fail
    go_ret
    exact ⟨rfl, hL6.law.keeps.trans hk8⟩
  · have hzb : ((k : Int) == 0) = false := by rw [beq_eq_false_iff_ne]; omega
    have hk1 : 1 ≤ k := by omega
    go_wp2_with fail
    have hneed : needN (octP n k).length ≤ 100 := by rw [hlen]; unfold needN; split <;> omega
    refine (l8_append (kind := k) (n := 0) hL3 new_live (by decide) (by decide) ⟨hk1, hk9, by omega, by decide⟩ (by rw [show used (fsJ []) = 0 from rfl, Nat.zero_add]; exact hneed) (by omega) (isOwn.arg ho3) hoff).mono ?_
    rintro e w4 ⟨L0, f, l, nx, L', bv4, hsp, hdn, rfl, hL4, hbo, hk4⟩
    obtain ⟨rfl, rfl, rfl, rfl⟩ := first_spot hsp
    have o1 := own_one1 hbo
    have HOCT := Lib.hid (ho3.kept hk4 (fun g hg hs => hs.elim (hoff g hg).1 (hoff g hg).2))
    obtain ⟨q, hq⟩ : ∃ q, q = needN n := ⟨_, rfl⟩
    have HU := Lib.hid (show used (fsJ L') = q by rw [hdn.used, hlen, ← hq]; exact Nat.zero_add _)
    have hmax := needs_max n
    rw [← hq] at hmax hkn
    have HT := Lib.hid hdn.told
    have HOK := Lib.hid hdn.live.ok
    have HL4 := Lib.hid hL4
    have HBO := Lib.hid hbo.rd
    obtain ⟨ba, bc, rfl, hbc⟩ := isOwn.rd hbo
    have hol : (octs (octP n k)).length = n := by rw [octs_len, hlen]
    rw [hol] at HBO o1 hbc ⊢
    clear hsp hdn hbo hk4 ho3 hk3 hL3 hoff hz hL4
    go_wp2_with (first
      | ((with_reducible refine gd_alloc 94 ?_); refine wl_alloc_agg rfl _ rfl _ zeroBt ?_; intro b12 w5 hb5 HB5 HK5)
      | ((with_reducible refine gd_store 94 ?_); refine wl_store_agg rfl _ _ _ rfl b12 _ rfl _ _ HB5 (btA (0 + 1) k (.slice ba n bc) 1 0) rfl (btA (0 + 1) k (.slice ba n bc) 1 0) (store_bt _ _ _ _ _ _ _ _ _ _) (le_bt _ _ _ _ _ _ _ _ _ _) (infoBt _ _ _ _ _) (btA_one o1) ?_; intro w6 HB6 HK6)
      | fail)
    have hk46 : Keeps w4 w6 (fun _ => False) := HK5.then HK6 (fun i hi e => absurd hb5 (by rw [← show i = b12 from e]; exact Nat.not_le.2 hi))
    have hL6 := HL4.out.more hk46
    have HOCT6 := Lib.hid (HOCT.out.new hk46)
    have HBO6 := Lib.hid (HBO.out.new hk46)
    clear HB5 HK5 HK6 hb5 HL4 HOCT HBO hk46
    refine (l8_scan hL6.law HOK.out HT.out HOK.out.len).mono ?_
    rintro e w7 ⟨lv, rfl, hbt, hk7⟩
    have HL7 := Lib.hid (hL6.more hk7)
    have HB7 := Lib.hid (hk7.blk HB6 id)
    have HOCT7 := Lib.hid (HOCT6.out.new hk7)
    have HBO7 := Lib.hid (HBO6.out.new hk7)
    rw [List.nil_append] at hbt
    have HBT := Lib.hid hbt.rd
    obtain ⟨ad7, cap7, rfl⟩ := hbt.shape
    rw [List.length_singleton] at HBT ⊢
    clear hbt hk7 hL6 HB6 HOCT6 HBO6
    go_wp2_with fail
    refine (need_calls _ n (by omega)).mono ?_
    rintro e w' ⟨rfl, rfl⟩
    rw [← hq]
    go_wp2_with (first
      | (go_at_call 32; refine (used_calls _ h _ HL7.out.law.dev).mono ?_; rintro e w' ⟨he, rfl⟩; rw [show used (devJ 100 (-1) L').files = q from HU.out] at he; subst he)
      | ((with_reducible refine gd_loadW 94 ?_); refine wl_load_aggW (by rfl) _ _ rfl b12 0 rfl _ _ _ HB7.out (btA (0 + 1) k (.slice ba n bc) 1 0) rfl _ Try.underlying94 rfl (infoBt _ _ _ _ _) ?_)
      | ((with_reducible refine gd_buildSliceW 90 ?_); refine wl_unguard (by rfl) ?_; refine wl_sliceA1 rfl _ _ rfl 94 _ 5 56 Try.underlying90 info_bt (by decide) (by decide) (btA (0 + 1) k (.slice ba n bc) 1 0) rfl rfl ?_; intro b14 w8 hb8 HB8 HK8)
      | fail)
    have hone := rdB_one (x := ⟨0 + 1, k, octP n k, 1, ([] : List Cell).length⟩) HB8 (HBO7.out.new HK8)
    have hsame := sameB_calls w8 _ _ _ _ (HBT.out.new HK8) hone (by simp) (by simp)
    rw [decide_eq_true rfl] at hsame
    have HSAME := Lib.hid hsame
    clear HBT hone HB8 hsame
    refine HSAME.out.mono ?_
    rintro e w9 ⟨rfl, hk9⟩
    have hk79 := HK8.trans hk9
    have HL9 := Lib.hid (HL7.out.more hk79)
    have HB9 := Lib.hid (hk79.blk HB7.out id)
    have HO9 := Lib.hid (HOCT7.out.new hk79)
    have s1 := run_str (HBO7.out.new hk79)
    have s2 := run_str HO9.out.rd
    have c1 : w9.cell? ⟨b12, 1, none⟩ = some (.int .i64 k) := by rw [cell_of_block HB9.out]; rfl
    have c2 : w9.cell? ⟨b12, 2, none⟩ = some (.slice ba n bc) := by rw [cell_of_block HB9.out]; rfl
    have c3 : w9.cell? ⟨b12, 3, none⟩ = some (.int .i64 1) := by rw [cell_of_block HB9.out]; rfl
    have c4 : w9.cell? ⟨b12, 4, none⟩ = some (.int .i64 0) := by rw [cell_of_block HB9.out]; rfl
    obtain ⟨p, hp, hp9⟩ : ∃ a : Nat, pp % 65536 = a ∧ a < 65536 := ⟨(pp % 65536).toNat, by omega, by omega⟩
    have hmp : bits BinOp.and IntKind.i64 pp 65535 = (p : Int) := by rw [mask65535, hp]
    have hpi : (p : Int) < 65536 := by omega
    have hp0 : (0 : Int) ≤ p := by omega
    clear HK8 hk9 hb8 hk79 HL7 HB7 HOCT7 HBO7 HSAME hp
    have hbv := HO9.out.rd
    obtain ⟨va, vc, rfl, hvc⟩ := isOwn.rd HO9.out
    rw [hol] at hvc s2 hbv ⊢
    go_wp2_with fail
    obtain ⟨r, hr, hr9⟩ : ∃ r : Nat, (p : Int) % ((n : Int) + 1) = (r : Int) ∧ r ≤ n := ⟨p % (n + 1), by rw [show ((n : Int) + 1) = ((n + 1 : Nat) : Int) by omega]; rfl, by have := Nat.mod_lt p (show 0 < n + 1 by omega); omega⟩
    rw [hr]
    have hbt := devJ_batch (m := 100) (fu := -1) HOK.out HT.out (x := ⟨0 + 1, k, octP n k, 1, ([] : List Cell).length⟩) (by simp)
    have hrd1 := readB_of (k := r) hbt (by rw [hlen]; exact hr9)
    have HRD2 : Hid (readB (devJ 100 (-1) L') 1 0 ((n : Int) + 1) = ([], 1)) := Lib.hid (by
      unfold readB
      rw [show batchR (readJ (devJ 100 (-1) L') 1) 0 = _ from hbt]
      simp only
      rw [if_neg (by omega), if_neg (by simp), if_pos (by rw [hlen]; omega)])
    refine (jread_calls w9 h _ 1 0 r HL9.out.law.dev (by decide)).mono ?_
    rintro e w10 ⟨v10, he, ho10, hk10⟩
    rw [show readB (devJ 100 (-1) L') 1 0 (r : Int) = _ from hrd1] at he ho10
    dsimp only at he ho10
    subst he
    have HL10 := Lib.hid (HL9.out.more hk10)
    have HV10 := Lib.hid ho10.rd
    have HBV10 := Lib.hid (hbv.new hk10)
    have c3' : w10.cell? ⟨b12, 3, none⟩ = some (.int .i64 1) := by rw [cell_of_block (hk10.blk HB9.out id)]; rfl
    have c4' : w10.cell? ⟨b12, 4, none⟩ = some (.int .i64 0) := by rw [cell_of_block (hk10.blk HB9.out id)]; rfl
    have HB10 := Lib.hid (hk10.blk HB9.out id)
    clear ho10 hk10 hrd1 hbt c1 c2 c3 c4 s1 s2 HO9 HL9 HB9 hbv
    go_wp2_with fail
    refine (jread_calls w10 h _ 1 0 ((n : Int) + 1) HL10.out.law.dev (by decide)).mono ?_
    rintro e w11 ⟨v11, he, _, hk11⟩
    rw [HRD2.out] at he
    dsimp only at he
    subst he
    have HL11 := Lib.hid (HL10.out.more hk11)
    have HV11 := Lib.hid (HV10.out.new hk11)
    have HBV11 := Lib.hid (HBV10.out.new hk11)
    have d3 : w11.cell? ⟨b12, 3, none⟩ = some (.int .i64 1) := by rw [cell_of_block (hk11.blk HB10.out id)]; rfl
    have d4 : w11.cell? ⟨b12, 4, none⟩ = some (.int .i64 0) := by rw [cell_of_block (hk11.blk HB10.out id)]; rfl
    clear hk11 HL10 HV10 HBV10 c3' c4' HB10
    go_wp2_with fail
    refine (jread_calls w11 h _ 1 0 (-1) HL11.out.law.dev (by decide)).mono ?_
    rintro e w12 ⟨v12, he, _, hk12⟩
    rw [show readB (devJ 100 (-1) L') 1 0 (-1) = ([], 1) from rfl] at he
    dsimp only at he
    subst he
    have HK12 := Lib.hid (HL11.out.law.keeps.trans hk12)
    have htk := isRd_take (k := r) (HBV11.out.new hk12) (by rw [hol]; exact hr9)
    rw [← octs_take] at htk
    have hv12 := HV11.out.new hk12
    have HSF : Hid (∀ w' : World, Keeps w12 w' (fun _ => False) → (convert 63 9 v10).run Try.prog w' = .ok (.string (bs ((octP n k).take r))) w' ∧ (convert 63 9 (.slice va r vc)).run Try.prog w' = .ok (.string (bs ((octP n k).take r))) w') := Lib.hid fun w' hk => ⟨run_str (hv12.new hk), run_str (htk.new hk)⟩
    have hrc : r ≤ vc := by omega
    have hri : (r : Int) ≤ n := by omega
    have hrci : (r : Int) ≤ vc := by omega
    have hr0 : (0 : Int) ≤ r := by omega
    have HS : (fun (w' : World) => (convert 63 9 v10).run Try.prog w' = .ok (.string (bs ((octP n k).take r))) w' ∧ (convert 63 9 (.slice va r vc)).run Try.prog w' = .ok (.string (bs ((octP n k).take r))) w') w12.drew := HSF.out _ (Keeps.refl _ _).drew
    clear hv12 htk HV11 HBV11 HL11 hk12 d3 d4
    go_upto_region 20 with fail
    refine wp_region_held_drew (S := (fun (w' : World) => (convert 63 9 v10).run Try.prog w' = .ok (.string (bs ((octP n k).take r))) w' ∧ (convert 63 9 (.slice va r vc)).run Try.prog w' = .ok (.string (bs ((octP n k).take r))) w')) (by kernel_rfl) HS (fun _ => ?_)
    first
      | (refine rg_skip 0 rfl (by kernel_rfl) (by kernel_rfl) (by kernel_rfl) (fun _ _ _ h => h) HS ?_ ?_; rfl)
      | (refine rg_take 0 (v := ?_) rfl (by kernel_rfl) (by kernel_rfl) (by kernel_rfl) (fun _ _ _ h => h) HS ?_ ?_ ?_; rotate_left; rfl; focus (intro w hSw; (try dsimp only at hSw); go_simp; all_goals (with_reducible rfl)))
    simp only [Act.put, List.setIfInBounds_toArray, List.set_cons_succ, List.set_cons_zero]
    first
      | (refine rg_skip 1 rfl (by kernel_rfl) (by kernel_rfl) (by kernel_rfl) (fun _ _ _ h => h) HS ?_ ?_; rfl)
      | (refine rg_take 1 (v := ?_) rfl (by kernel_rfl) (by kernel_rfl) (by kernel_rfl) (fun _ _ _ h => h) HS ?_ ?_ ?_; rotate_left; rfl; focus (intro w hSw; (try dsimp only at hSw); go_simp; all_goals (with_reducible rfl)))
    simp only [Act.put, List.setIfInBounds_toArray, List.set_cons_succ, List.set_cons_zero]
    first
      | (refine rg_skip 2 rfl (by kernel_rfl) (by kernel_rfl) (by kernel_rfl) (fun _ _ _ h => h) HS ?_ ?_; rfl)
      | (refine rg_take 2 (v := ?_) rfl (by kernel_rfl) (by kernel_rfl) (by kernel_rfl) (fun _ _ _ h => h) HS ?_ ?_ ?_; rotate_left; rfl; focus (intro w hSw; (try dsimp only at hSw); go_simp; all_goals (with_reducible rfl)))
    simp only [Act.put, List.setIfInBounds_toArray, List.set_cons_succ, List.set_cons_zero]
    first
      | (refine rg_skip 3 rfl (by kernel_rfl) (by kernel_rfl) (by kernel_rfl) (fun _ _ _ h => h) HS ?_ ?_; rfl)
      | (refine rg_take 3 (v := ?_) rfl (by kernel_rfl) (by kernel_rfl) (by kernel_rfl) (fun _ _ _ h => h) HS ?_ ?_ ?_; rotate_left; rfl; focus (intro w hSw; (try dsimp only at hSw); go_simp; all_goals (with_reducible rfl)))
    simp only [Act.put, List.setIfInBounds_toArray, List.set_cons_succ, List.set_cons_zero]
    first
      | (refine rg_skip 4 rfl (by kernel_rfl) (by kernel_rfl) (by kernel_rfl) (fun _ _ _ h => h) HS ?_ ?_; rfl)
      | (refine rg_take 4 (v := ?_) rfl (by kernel_rfl) (by kernel_rfl) (by kernel_rfl) (fun _ _ _ h => h) HS ?_ ?_ ?_; rotate_left; rfl; focus (intro w hSw; (try dsimp only at hSw); go_simp; all_goals (with_reducible rfl)))
    simp only [Act.put, List.setIfInBounds_toArray, List.set_cons_succ, List.set_cons_zero]
    first
      | (refine rg_skip 5 rfl (by kernel_rfl) (by kernel_rfl) (by kernel_rfl) (fun _ _ _ h => h) HS ?_ ?_; rfl)
      | (refine rg_take 5 (v := ?_) rfl (by kernel_rfl) (by kernel_rfl) (by kernel_rfl) (fun _ _ _ h => h) HS ?_ ?_ ?_; rotate_left; rfl; focus (intro w hSw; (try dsimp only at hSw); go_simp; all_goals (with_reducible rfl)))
    simp only [Act.put, List.setIfInBounds_toArray, List.set_cons_succ, List.set_cons_zero]
    first
      | (refine rg_skip 6 rfl (by kernel_rfl) (by kernel_rfl) (by kernel_rfl) (fun _ _ _ h => h) HS ?_ ?_; rfl)
      | (refine rg_take 6 (v := ?_) rfl (by kernel_rfl) (by kernel_rfl) (by kernel_rfl) (fun _ _ _ h => h) HS ?_ ?_ ?_; rotate_left; rfl; focus (intro w hSw; (try dsimp only at hSw); go_simp; all_goals (with_reducible rfl)))
    simp only [Act.put, List.setIfInBounds_toArray, List.set_cons_succ, List.set_cons_zero]
    first
      | (refine rg_skip 7 rfl (by kernel_rfl) (by kernel_rfl) (by kernel_rfl) (fun _ _ _ h => h) HS ?_ ?_; rfl)
      | (refine rg_take 7 (v := ?_) rfl (by kernel_rfl) (by kernel_rfl) (by kernel_rfl) (fun _ _ _ h => h) HS ?_ ?_ ?_; rotate_left; rfl; focus (intro w hSw; (try dsimp only at hSw); go_simp; all_goals (with_reducible rfl)))
    simp only [Act.put, List.setIfInBounds_toArray, List.set_cons_succ, List.set_cons_zero]
    first
      | (refine rg_skip 8 rfl (by kernel_rfl) (by kernel_rfl) (by kernel_rfl) (fun _ _ _ h => h) HS ?_ ?_; rfl)
      | (refine rg_take 8 (v := ?_) rfl (by kernel_rfl) (by kernel_rfl) (by kernel_rfl) (fun _ _ _ h => h) HS ?_ ?_ ?_; rotate_left; rfl; focus (intro w hSw; (try dsimp only at hSw); go_simp; all_goals (with_reducible rfl)))
    simp only [Act.put, List.setIfInBounds_toArray, List.set_cons_succ, List.set_cons_zero]
    first
      | (refine rg_skip 9 rfl (by kernel_rfl) (by kernel_rfl) (by kernel_rfl) (fun _ _ _ h => h) HS ?_ ?_; rfl)
      | (refine rg_take 9 (v := ?_) rfl (by kernel_rfl) (by kernel_rfl) (by kernel_rfl) (fun _ _ _ h => h) HS ?_ ?_ ?_; rotate_left; rfl; focus (intro w hSw; (try dsimp only at hSw); go_simp; all_goals (with_reducible rfl)))
    simp only [Act.put, List.setIfInBounds_toArray, List.set_cons_succ, List.set_cons_zero]
    first
      | (refine rg_skip 10 rfl (by kernel_rfl) (by kernel_rfl) (by kernel_rfl) (fun _ _ _ h => h) HS ?_ ?_; rfl)
      | (refine rg_take 10 (v := ?_) rfl (by kernel_rfl) (by kernel_rfl) (by kernel_rfl) (fun _ _ _ h => h) HS ?_ ?_ ?_; rotate_left; rfl; focus (intro w hSw; (try dsimp only at hSw); go_simp; all_goals (with_reducible rfl)))
    simp only [Act.put, List.setIfInBounds_toArray, List.set_cons_succ, List.set_cons_zero]
    first
      | (refine rg_skip 11 rfl (by kernel_rfl) (by kernel_rfl) (by kernel_rfl) (fun _ _ _ h => h) HS ?_ ?_; rfl)
      | (refine rg_take 11 (v := ?_) rfl (by kernel_rfl) (by kernel_rfl) (by kernel_rfl) (fun _ _ _ h => h) HS ?_ ?_ ?_; rotate_left; rfl; focus (intro w hSw; (try dsimp only at hSw); go_simp; all_goals (with_reducible rfl)))
    simp only [Act.put, List.setIfInBounds_toArray, List.set_cons_succ, List.set_cons_zero]
    first
      | (refine rg_skip 12 rfl (by kernel_rfl) (by kernel_rfl) (by kernel_rfl) (fun _ _ _ h => h) HS ?_ ?_; rfl)
      | (refine rg_take 12 (v := ?_) rfl (by kernel_rfl) (by kernel_rfl) (by kernel_rfl) (fun _ _ _ h => h) HS ?_ ?_ ?_; rotate_left; rfl; focus (intro w hSw; (try dsimp only at hSw); go_simp; all_goals (with_reducible rfl)))
    simp only [Act.put, List.setIfInBounds_toArray, List.set_cons_succ, List.set_cons_zero]
    first
      | (refine rg_skip 13 rfl (by kernel_rfl) (by kernel_rfl) (by kernel_rfl) (fun _ _ _ h => h) HS ?_ ?_; rfl)
      | (refine rg_take 13 (v := ?_) rfl (by kernel_rfl) (by kernel_rfl) (by kernel_rfl) (fun _ _ _ h => h) HS ?_ ?_ ?_; rotate_left; rfl; focus (intro w hSw; (try dsimp only at hSw); go_simp; all_goals (with_reducible rfl)))
    simp only [Act.put, List.setIfInBounds_toArray, List.set_cons_succ, List.set_cons_zero]
    first
      | (refine rg_skip 14 rfl (by kernel_rfl) (by kernel_rfl) (by kernel_rfl) (fun _ _ _ h => h) HS ?_ ?_; rfl)
      | (refine rg_take 14 (v := ?_) rfl (by kernel_rfl) (by kernel_rfl) (by kernel_rfl) (fun _ _ _ h => h) HS ?_ ?_ ?_; rotate_left; rfl; focus (intro w hSw; (try dsimp only at hSw); go_simp; all_goals (with_reducible rfl)))
    simp only [Act.put, List.setIfInBounds_toArray, List.set_cons_succ, List.set_cons_zero]
    first
      | (refine rg_skip 15 rfl (by kernel_rfl) (by kernel_rfl) (by kernel_rfl) (fun _ _ _ h => h) HS ?_ ?_; rfl)
      | (refine rg_take 15 (v := ?_) rfl (by kernel_rfl) (by kernel_rfl) (by kernel_rfl) (fun _ _ _ h => h) HS ?_ ?_ ?_; rotate_left; rfl; focus (intro w hSw; (try dsimp only at hSw); go_simp; all_goals (with_reducible rfl)))
    simp only [Act.put, List.setIfInBounds_toArray, List.set_cons_succ, List.set_cons_zero]
    first
      | (refine rg_skip 16 rfl (by kernel_rfl) (by kernel_rfl) (by kernel_rfl) (fun _ _ _ h => h) HS ?_ ?_; rfl)
      | (refine rg_take 16 (v := ?_) rfl (by kernel_rfl) (by kernel_rfl) (by kernel_rfl) (fun _ _ _ h => h) HS ?_ ?_ ?_; rotate_left; rfl; focus (intro w hSw; (try dsimp only at hSw); go_simp; all_goals (with_reducible rfl)))
    simp only [Act.put, List.setIfInBounds_toArray, List.set_cons_succ, List.set_cons_zero]
    first
      | (refine rg_skip 17 rfl (by kernel_rfl) (by kernel_rfl) (by kernel_rfl) (fun _ _ _ h => h) HS ?_ ?_; rfl)
      | (refine rg_take 17 (v := ?_) rfl (by kernel_rfl) (by kernel_rfl) (by kernel_rfl) (fun _ _ _ h => h) HS ?_ ?_ ?_; rotate_left; rfl; focus (intro w hSw; (try dsimp only at hSw); go_simp; all_goals (with_reducible rfl)))
    simp only [Act.put, List.setIfInBounds_toArray, List.set_cons_succ, List.set_cons_zero]
    first
      | (refine rg_skip 18 rfl (by kernel_rfl) (by kernel_rfl) (by kernel_rfl) (fun _ _ _ h => h) HS ?_ ?_; rfl)
      | (refine rg_take 18 (v := ?_) rfl (by kernel_rfl) (by kernel_rfl) (by kernel_rfl) (fun _ _ _ h => h) HS ?_ ?_ ?_; rotate_left; rfl; focus (intro w hSw; (try dsimp only at hSw); go_simp; all_goals (with_reducible rfl)))
    simp only [Act.put, List.setIfInBounds_toArray, List.set_cons_succ, List.set_cons_zero]
    first
      | (refine rg_skip 19 rfl (by kernel_rfl) (by kernel_rfl) (by kernel_rfl) (fun _ _ _ h => h) HS ?_ ?_; rfl)
      | (refine rg_take 19 (v := ?_) rfl (by kernel_rfl) (by kernel_rfl) (by kernel_rfl) (fun _ _ _ h => h) HS ?_ ?_ ?_; rotate_left; rfl; focus (intro w hSw; (try dsimp only at hSw); go_simp; all_goals (with_reducible rfl)))
    simp only [Act.put, List.setIfInBounds_toArray, List.set_cons_succ, List.set_cons_zero]
    refine rg_one 20 rfl (by kernel_rfl) (by rfl) ?_
    refine rg_call 61 _ _ rfl _ Try.func61 (by kernel_rfl) (by kernel_rfl) [] rfl (awake8_calls _) ?_
    rintro e w13 ⟨rfl, hk13⟩
    have HK13 := ((Keeps.refl w12 (fun _ => False)).drew).trans hk13
    have hS13 := HSF.out _ HK13
    refine ⟨_, rfl, hS13, ?_⟩
    simp only [Act.put, List.setIfInBounds_toArray, List.set_cons_succ, List.set_cons_zero]
    first
      | (refine rg_skip 21 rfl (by kernel_rfl) (by kernel_rfl) (by kernel_rfl) (fun _ _ _ h => h) hS13 ?_ ?_; rfl)
      | (refine rg_take 21 (v := ?_) rfl (by kernel_rfl) (by kernel_rfl) (by kernel_rfl) (fun _ _ _ h => h) hS13 ?_ ?_ ?_; rotate_left; rfl; focus (intro w hSw; (try dsimp only at hSw); go_simp; all_goals (with_reducible rfl)))
    simp only [Act.put, List.setIfInBounds_toArray, List.set_cons_succ, List.set_cons_zero]
    first
      | (refine rg_skip 22 rfl (by kernel_rfl) (by kernel_rfl) (by kernel_rfl) (fun _ _ _ h => h) hS13 ?_ ?_; rfl)
      | (refine rg_take 22 (v := ?_) rfl (by kernel_rfl) (by kernel_rfl) (by kernel_rfl) (fun _ _ _ h => h) hS13 ?_ ?_ ?_; rotate_left; rfl; focus (intro w hSw; (try dsimp only at hSw); go_simp; all_goals (with_reducible rfl)))
    simp only [Act.put, List.setIfInBounds_toArray, List.set_cons_succ, List.set_cons_zero]
    refine wpAnyH_done (by kernel_rfl) ?_ _
    go_wp2_with fail
    go_ret
    exact ⟨rfl, HK12.out.trans HK13⟩
end Go.Proofs.Ytadjcdfmppcpnaa
