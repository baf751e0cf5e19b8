import Derived.Test.YtadjcdfmppcpnaaArg
import Derived.Test.YtadjcdfmppcpnaaP7c
import Derived.Test.YtadjcdfmppcpnaaMsk
import Derived.Test.YtadjcdfmppcpnaaSecEq
import Derived.Deep.RegionHeld3
/-! Layer 7: the walk of SectEnds. -/
namespace Go.Proofs.Ytadjcdfmppcpnaa
open Go Go.RowKit Go.Maps Wb

def EndsRel1 (w : World) (h : DH) (q : Nat) (wr : World) : Prop := isDev wr h (oneF 50 [102] (freshCells q)) ∧ Keeps w wr (fun _ => False)
def EndsRel2 (w : World) (h : DH) (xs : List Int) (last q : Nat) (wr : World) : Prop := ∃ D, EndsRel D xs last q ∧ isDev wr h D ∧ Keeps w wr (fun _ => False)

theorem i64_small (n : Int) (h1 : -9223372036854775808 ≤ n) (h2 : n ≤ 9223372036854775807) : IntKind.i64.wrap n = n := by
  unfold IntKind.wrap; simp [IntKind.signed, IntKind.bits]; omega
theorem w64_small (n : Int) (h1 : -9223372036854775808 ≤ n) (h2 : n ≤ 9223372036854775807) : wrap64 n = n := by
  unfold wrap64; omega
theorem isInts.take {w : World} {ok : Nat → Prop} {a : Option Addr} {n cap q : Nat} {xs : List Int} (h : isInts w ok (.slice a n cap) xs) (hq : q ≤ xs.length) : isInts w ok (.slice a q cap) (xs.take q) := by
  obtain ⟨a', cap', hv, h0, h00, h01, h⟩ := h
  cases hv
  have hl : (xs.take q).length = q := by rw [List.length_take]; omega
  refine ⟨_, _, by rw [hl], by omega, h00, fun x hx => h01 x (List.mem_of_mem_take hx), ?_⟩
  rcases h with rfl | ⟨g, o, rfl, h1, h2, h3⟩
  · exact .inl (by simp)
  · refine .inr ⟨g, o, rfl, h1, h2, fun j x hj => h3 j x ?_⟩
    have hjl := (List.getElem?_eq_some_iff.1 hj).1
    rwa [List.getElem?_take_of_lt (by omega)] at hj

set_option maxRecDepth 100000 in
set_option maxHeartbeats 8000000 in
theorem sectEnds_walk (w : World) (v : Value) (xs : List Int) (hx : isInts w (fun g => g < w.heap.size) v xs) : Calls Try.prog 3 #[v] w (Quiet w (.bool true)) := by
  obtain ⟨n, hn, hn20, hnx⟩ : ∃ n : Nat, n = min xs.length 20 ∧ n ≤ 20 ∧ n ≤ xs.length := ⟨_, rfl, by omega, by omega⟩
  obtain ⟨ys, hys⟩ : ∃ ys, ys = xs.take n := ⟨_, rfl⟩
  have hyl : ys.length = n := by rw [hys, List.length_take]; omega
  have hX := Lib.hid hx
  have HYS := Lib.hid hys
  have HYL := Lib.hid hyl
  obtain ⟨a, cap, rfl, hl1, hl2, hl3, hx4⟩ := hx
  have hn102 : nmOk [102] := nmOk_small (by decide)
  have H1 : Hid ((Dv.new 50).make [102] = (oneF 50 [102] [], 0)) := Lib.hid (one_start 50 [102] (by decide) ⟨by decide, by decide⟩)
  have hmin : min (xs.length : Int) 20 = n := by omega
  have hn9 : (n : Int) ≤ 20 := by omega
  have hn0 : (0 : Int) ≤ n := by omega
  have hxl : (xs.length : Int) ≤ 140737488351232 := by omega
  have HC : Hid (∀ (q : Nat), q < n → ∃ g o x, ys[q]? = some x ∧ kOk x ∧ a = some ⟨g, o, none⟩ ∧ g < w.heap.size ∧ w.cell? ⟨g, o + q, none⟩ = some (.int .i64 x)) := by
    intro q hq
    have hyq : ys[q]? = xs[q]? := by rw [hys, List.getElem?_take_of_lt hq]
    rcases hx4 with rfl | ⟨g, o, rfl, _, hg, hc⟩
    · simp at hnx; omega
    · refine ⟨g, o, xs[q]'(by omega), hyq.trans (List.getElem?_eq_getElem _), hl3 _ (List.getElem_mem _), rfl, hg, hc q _ (List.getElem?_eq_getElem _)⟩
  clear hx4 hl3 hn hys hyl
  go_enter Try.func3, Try.ntmps3
  go_wp2_with fail
  refine new_any _ _ fun h w1 hd0 hk0 hS => ?_
  go_wp2_with fail
  refine (make_calls _ h _ [102] hd0 hn102).mono ?_
  rintro e w2 ⟨he, hd1, hk1⟩
  rw [H1.out] at he hd1
  dsimp only at he hd1
  subst he
  have hN : ∀ i, i < w.heap.size → h.S i → False := fun i hi hs => absurd (hS i hs) (Nat.not_le.2 hi)
  have hK0 : Keeps w w2 (fun _ => False) := hk0.then hk1 hN
  have hNH := Lib.hid hN
  clear hN hd0 hk0 hk1
  go_wp2_with fail
  go_loopw [6, 5] (fun i v5 wr => ∃ q : Nat, q ≤ n ∧ i = .int .i64 q ∧ v5 = .int .i64 (lastOf ys q : Nat) ∧ EndsRel1 w h q wr) (fun i _ _ => n - (intOf i).toNat)
  case atStart => exact ⟨0, Nat.zero_le _, rfl, rfl, hd1, hK0⟩
  case round =>
    obtain ⟨q, hq, rfl, rfl, hdr, hkr⟩ := hrel
    by_cases hlt : q < n
    · have hlt' : decide (q < n) = true := by simpa using hlt
      have hq9 : (q : Int) < 20 := by omega
      have hq0 : (0 : Int) ≤ q := by omega
      obtain ⟨g, o, x, hxq, hxk, rfl, hg, hcw⟩ := HC.out q hlt
      have hx1 : -9223372036854775808 ≤ x := hxk.1
      have hx2 : x ≤ 9223372036854775807 := hxk.2
      have hql : (q : Int) < xs.length := by omega
      have hwr := Lib.hid (way_wrap x)
      have HLS := Lib.hid (lastOf_succ ys q x hxq)
      have HW : Hid ((oneF 50 [102] (freshCells q)).write [102] q (sectorOf q) = (oneF 50 [102] (freshCells (q + 1)), 0)) := by
        unfold Hid
        have := one_append 50 [102] (freshCells q) (sectorOf q) (by rw [freshCells_len]; omega)
        rwa [freshCells_len, ← freshCells_succ] at this
      have HWAY := Lib.hid (way_eq x)
      clear hlt hxq
      go_wp2_with fail
      refine (sector_calls _ q (kOk_small (by omega))).mono ?_
      rintro e w4 ⟨rfl, hk4⟩
      have hd4 := hdr.new hk4
      go_wp2_with fail
      refine (write_calls _ h _ [102] q (sectorOf q) hd4 hn102).mono ?_
      rintro e w5 ⟨he, hd5, hk5⟩
      rw [HW.out] at he hd5
      dsimp only at he hd5
      subst he
      have hK5 := (hkr.trans hk4).then hk5 hNH.out
      have hc5 : w5.cell? ⟨g, o + q, none⟩ = some (.int .i64 x) := (hK5.cell (p := ⟨g, o + q, none⟩) hg (fun h => h)).trans hcw
      have hr1 : IntKind.i64.wrap (x.tmod 3) = x.tmod 3 := hwr.out
      by_cases hway : pickWay x = 0
      · have ht : ((wrap64 (x.tmod 3 + 3)).tmod 3 == 0) = true := by rw [HWAY.out, hway]; rfl
        have HL2 : Hid (lastOf ys (q + 1) = lastOf ys q) := by unfold Hid; rw [HLS.out, if_neg (by simpa using hway)]
        go_wp2
        go_roundw
        case rel => exact ⟨q + 1, by omega, by go_num, by rw [HL2.out], hd5, hK5⟩
        case measure => simp [intOf]; omega
      · have ht : ((wrap64 (x.tmod 3 + 3)).tmod 3 == 0) = false := by rw [HWAY.out]; simpa using hway
        have HL2 : Hid (lastOf ys (q + 1) = q + 1) := by unfold Hid; rw [HLS.out, if_pos (by simpa using hway)]
        go_wp2
        go_roundw
        case rel => exact ⟨q + 1, by omega, by go_num, by rw [HL2.out]; go_num, hd5, hK5⟩
        case measure => simp [intOf]; omega
    · have hge : decide (q < n) = false := by simpa using hlt
      obtain rfl : q = n := by omega
      clear hlt
      have hcapq : (q : Int) ≤ cap := by omega
      go_wp2_with fail
      refine (crash_calls _ h _ ys _ hdr (by show 1 ≤ 1000000; omega) (by rw [HYS.out]; exact ((hX.out.take hnx).new hkr).weaken fun i hi => ⟨fun hs => hNH.out i hi hs, Nat.lt_of_lt_of_le hi hkr.size⟩)).mono ?_
      rintro e w9 ⟨he, hd9, hk9⟩
      subst he
      have hE := ends_start ys q (Nat.le_of_eq HYL.out.symm)
      have hK9 := hkr.then hk9 hNH.out
      have hEl := Lib.hid (ends_len hE)
      obtain ⟨z, hz⟩ : ∃ z : Nat, z = lastOf ys q := ⟨_, rfl⟩
      have hz20 : z ≤ q := by rw [hz]; exact lastOf_le _ _
      rw [← hz] at hE hEl ⊢
      clear hz hdr hkr hk9 hmin
      generalize (oneF 50 [102] (freshCells q)).crash ys = D9 at *
      go_wp2_with fail
      refine (len_calls _ h _ [102] hd9 hn102).mono ?_
      rintro e w' ⟨he, rfl⟩
      rw [hEl.out] at he
      subst he
      have hz9 : (z : Int) ≤ 20 := by omega
      have hz0 : (0 : Int) ≤ z := by omega
      go_wp2_with fail
      go_loopw [7] (fun i wr => ∃ q : Nat, q ≤ z ∧ i = .int .i64 q ∧ EndsRel2 w h ys z q wr) (fun i _ => z - (intOf i).toNat)
      case atStart => exact ⟨0, Nat.zero_le _, rfl, _, hE, hd9, hK9⟩
      case round =>
        rename_i q' _
        obtain ⟨p, hp, rfl, D, hEr, hdr, hkr⟩ := hrel
        by_cases hlt : p < z
        · have hlt' : decide (p < z) = true := by simpa using hlt
          have hp9 : (p : Int) < 20 := by omega
          have hp0 : (0 : Int) ≤ p := by omega
          obtain ⟨g, o, x, hxq, hxk, rfl, hg, hcw⟩ := HC.out p (by omega)
          have hx1 : -9223372036854775808 ≤ x := hxk.1
          have hx2 : x ≤ 9223372036854775807 := hxk.2
          have hql : (p : Int) < xs.length := by omega
          have hpz : (p : Int) < z := by omega
          have hr1 : IntKind.i64.wrap (x.tmod 3) = x.tmod 3 := way_wrap x
          have HWAY := Lib.hid (way_eq x)
          by_cases hway : pickWay x = 1
          · have ht : ((wrap64 (x.tmod 3 + 3)).tmod 3 == 1) = true := by rw [HWAY.out, hway]; rfl
            obtain ⟨hrd, hEr2⟩ := ends_good hEr hlt hxq hway
            have HR := Lib.hid hrd
            clear hrd hlt hxq
            go_wp2_with fail
            refine (read_calls _ h _ [102] p hdr hn102).mono ?_
            rintro e w4 ⟨he, hk4⟩
            rw [HR.out] at he
            dsimp only at he
            subst he
            have hd4 := hdr.new hk4
            have hK4 := hkr.trans hk4
            go_wp2_with (first
              | ((with_reducible refine gd_alloc 28 ?_); refine wl_alloc_agg rfl _ rfl _ zero28 ?_; intro b1 w5 hb1 HB1 HK1; have hd5 := hd4.new HK1)
              | ((with_reducible refine gd_store 28 ?_); refine wl_store_agg rfl _ _ _ rfl b1 _ rfl _ _ HB1 (secA (sectorOf p)) rfl (secA (sectorOf p)) (store_secs _ _) (le_secs _ _) (info28s _) (secA_one _) ?_; intro w6 HB2 HK2; have hd6 := hd5.keptNew hd4 hb1 HK2; have hc6 : w6.cell? ⟨g, o + p, none⟩ = some (.int .i64 x) := ((((hK4.trans HK1).then HK2 (fun i hi e => absurd (Nat.le_trans hK4.size hb1) (by rw [← e]; exact Nat.not_le.2 hi))).cell (p := ⟨g, o + p, none⟩) hg (fun h => h)).trans hcw))
              | fail)
            have hS6 := range_of_block HB2
            have hu := Try.underlying28
            have hi := info28
            have hsl : (secA (sectorOf p)).toList.length = 64 := by rw [Array.length_toList, secA_size]
            have hone : ∀ v ∈ (secA (sectorOf p)).toList, v.oneCell' = true := fun v hv => (Array.all_eq_true_iff_forall_mem.1 (secA_one _)) v (Array.mem_toList_iff.1 hv)
            have hg1 : ∀ (x y : Operand) (W : World), (eqGuard BinOp.neq 28 x y (.agg (secA (sectorOf p))) (secV (sectorOf p))).run Try.prog W = .ok () W := fun x y W => run_guard_sec W _ x y _ _
            have hg2 : ∀ (W : World), (binOp BinOp.neq 28 (.agg (secA (sectorOf p))) (secV (sectorOf p))).run Try.prog W = .ok (.bool false) W := fun W => by rw [← secV, run_neq_sec]; simp
            go_region_held3 (fun w' => w'.rangeAt b1 0 (secA (sectorOf p)).toList) (assumption)
              (first | (go_at_call 24; refine (sector_calls _ p (kOk_small (by omega))).mono ?_; rintro e w7 ⟨rfl, hk7⟩; have hS7 := range_of_block (hk7.blk HB2 (fun h => h))))
            have hK6 := (hK4.trans HK1).then HK2 (fun i hi e => absurd (Nat.le_trans hK4.size hb1) (by rw [← e]; exact Nat.not_le.2 hi))
            have hd7 := (hd6.drew).new hk7
            have hK7 := hK6.drew.trans hk7
            clear hg1 hg2 hS6 hS7 hu hi hsl hone
            go_wp2
            go_roundw
            case rel => exact ⟨p + 1, by omega, by go_num, _, hEr2, hd7, hK7⟩
            case measure => simp [intOf]; omega
          · have ht : ((wrap64 (x.tmod 3 + 3)).tmod 3 == 1) = false := by rw [HWAY.out]; simpa using hway
            obtain ⟨D', hrd, hwr, hrd2, hEr2⟩ := ends_bad hEr hlt hxq hway
            have HR := Lib.hid hrd
            have HW := Lib.hid hwr
            have HR2 := Lib.hid hrd2
            clear hrd hwr hrd2 hlt hxq hEr
            go_wp2_with fail
            refine (read_calls _ h _ [102] p hdr hn102).mono ?_
            rintro e w4 ⟨he, hk4⟩
            rw [HR.out] at he
            dsimp only at he
            subst he
            have hd4 := hdr.new hk4
            have hK4 := hkr.trans hk4
            go_wp2_with (first
              | ((with_reducible refine gd_alloc 28 ?_); refine wl_alloc_agg rfl _ rfl _ zero28 ?_; intro b1 w5 hb1 HB1 HK1; have hd5 := hd4.new HK1)
              | ((with_reducible refine gd_store 28 ?_); refine wl_store_agg rfl _ _ _ rfl b1 _ rfl _ _ HB1 (secA Sec.zero) rfl (secA Sec.zero) (store_secs _ _) (le_secs _ _) (info28s _) (secA_one _) ?_; intro w6 HB2 HK2; have hd6 := hd5.keptNew hd4 hb1 HK2; have hc6 : w6.cell? ⟨g, o + p, none⟩ = some (.int .i64 x) := ((((hK4.trans HK1).then HK2 (fun i hi e => absurd (Nat.le_trans hK4.size hb1) (by rw [← e]; exact Nat.not_le.2 hi))).cell (p := ⟨g, o + p, none⟩) hg (fun h => h)).trans hcw))
              | (go_at_call 24; refine (sector_calls _ (p + 9) (kOk_small (by omega))).mono ?_; rintro e w7 ⟨rfl, hk7⟩)
              | fail)
            have hK6 := (hK4.trans HK1).then HK2 (fun i hi e => absurd (Nat.le_trans hK4.size hb1) (by rw [← e]; exact Nat.not_le.2 hi))
            have hd7 := hd6.new hk7
            have hK7 := hK6.trans hk7
            have HB7 := hk7.blk HB2 id
            go_wp2_with fail
            refine (write_calls _ h _ [102] p (sectorOf (p + 9)) hd7 hn102).mono ?_
            rintro e w8 ⟨he, hd8, hk8⟩
            rw [HW.out] at he hd8
            dsimp only at he hd8
            subst he
            have HB8 := hk8.blk HB7 (fun hs => absurd (hd4.lt hs) (Nat.not_lt.2 hb1))
            go_wp2_with fail
            refine (read_calls _ h _ [102] p hd8 hn102).mono ?_
            rintro e w9 ⟨he, hk9⟩
            rw [HR2.out] at he
            dsimp only at he
            subst he
            have hK9' := (hK7.then hk8 hNH.out).trans hk9
            have hd9 := hd8.new hk9
            have HB9 := hk9.blk HB8 id
            have hlo : w.heap.size ≤ b1 := Nat.le_trans hK4.size hb1
            go_wp2_with (first
              | ((with_reducible refine gd_store 28 ?_); refine wl_store_agg rfl _ _ _ rfl b1 _ rfl _ _ HB9 (secA (sectorOf (p + 9))) rfl (secA (sectorOf (p + 9))) (store_secs _ _) (le_secs _ _) (info28s _) (secA_one _) ?_; intro w10 HB10 HK10; have hd10 := hd9.keptNew hd4 hb1 HK10)
              | fail)
            have hK10 := hK9'.then HK10 (fun i hi e => absurd hlo (by rw [← e]; exact Nat.not_le.2 hi))
            have hS10 := range_of_block HB10
            have hsec : ∀ (W : World) (m : Int), m = p + 9 → Calls Try.prog 24 #[.int .i64 m] W (Quiet W (secV (sectorOf (p + 9)))) := fun W m hm => by rw [hm]; exact sector_calls W (p + 9) (kOk_small (by omega))
            have HSEC := Lib.hid hsec
            clear hsec HB1 HB2 HB7 HB8 HB9 HK1 HK2 HK10 hK4 hK6 hK7 hK9' hd4 hd5 hd6 hd7 hd8 hd9 hk4 hk7 hk8 hk9 hb1 hcw hc6 ht hr1 hX
            generalize sectorOf ((p : Int) + 9) = s9 at *
            have hu := Try.underlying28
            have hi := info28
            have hsl : (secA s9).toList.length = 64 := by rw [Array.length_toList, secA_size]
            have hone : ∀ v ∈ (secA s9).toList, v.oneCell' = true := fun v hv => (Array.all_eq_true_iff_forall_mem.1 (secA_one _)) v (Array.mem_toList_iff.1 hv)
            have hg1 : ∀ (x y : Operand) (W : World), (eqGuard BinOp.neq 28 x y (.agg (secA s9)) (secV s9)).run Try.prog W = .ok () W := fun x y W => run_guard_sec W _ x y _ _
            have hg2 : ∀ (W : World), (binOp BinOp.neq 28 (.agg (secA s9)) (secV s9)).run Try.prog W = .ok (.bool false) W := fun W => by rw [← secV, run_neq_sec]; simp
            go_region_held3 (fun w' => w'.rangeAt b1 0 (secA s9).toList) (assumption)
              (first | (go_at_call 24; refine (HSEC.out _ _ ?_).mono ?_; (first | go_num | exact i64_small _ (by omega) (by omega) | exact w64_small _ (by omega) (by omega)); rintro e w11 ⟨rfl, hk11⟩; have hS11 := range_of_block (hk11.blk HB10 (fun h => h))))
            have hd11 := (hd10.drew).new hk11
            have hK11 := hK10.drew.trans hk11
            clear hg1 hg2 hS10 hS11 hu hi hsl hone
            go_wp2
            go_roundw
            case rel => exact ⟨p + 1, by omega, by go_num, _, hEr2, hd11, hK11⟩
            case measure => simp [intOf]; omega
        · have hge : decide (p < z) = false := by simpa using hlt
          obtain rfl : p = z := by omega
          clear hlt
          go_wp2_with fail
          refine (awake7_calls _).mono ?_
          rintro e w11 ⟨rfl, hk11⟩
          go_wp2
          go_ret
          exact ⟨rfl, hkr.trans hk11⟩
end Go.Proofs.Ytadjcdfmppcpnaa
