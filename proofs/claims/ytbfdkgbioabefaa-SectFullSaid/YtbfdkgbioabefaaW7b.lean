import Derived.Test.YtbfdkgbioabefaaL2
import Derived.Test.YtbfdkgbioabefaaP7b
import Derived.Test.YtbfdkgbioabefaaMsk
/-! Layer 7: the walk of SectFull. -/
namespace Go.Proofs.Ytbfdkgbioabefaa
open Go Go.RowKit Go.Maps Wb

def FullRel (w : World) (h : DH) (a m i : Nat) (wr : World) : Prop := isDev wr h (fullD a m i) ∧ Keeps w wr (fun _ => False)

set_option maxRecDepth 100000 in
set_option maxHeartbeats 8000000 in
theorem sectFull_walk (w : World) (mm aa bb : Int) : Calls Try.prog 6 #[.int .i64 mm, .int .i64 aa, .int .i64 bb] w (Quiet w (.bool true)) := by
  obtain ⟨m, hm, hm32⟩ : ∃ a : Nat, mm % 32 = a ∧ a < 32 := ⟨(mm % 32).toNat, by omega, by omega⟩
  obtain ⟨a, ha, ha32⟩ : ∃ a : Nat, aa % 32 = a ∧ a < 32 := ⟨(aa % 32).toNat, by omega, by omega⟩
  obtain ⟨b, hb, hb32⟩ : ∃ a : Nat, bb % 32 = a ∧ a < 32 := ⟨(bb % 32).toNat, by omega, by omega⟩
  have hm1 : bits BinOp.and IntKind.i64 mm 31 = m := by rw [mask31, hm]
  have hm2 : bits BinOp.and IntKind.i64 aa 31 = a := by rw [mask31, ha]
  have hm3 : bits BinOp.and IntKind.i64 bb 31 = b := by rw [mask31, hb]
  clear hm ha hb
  have hn97 : nmOk [97] := nmOk_small (by decide)
  have hn98 : nmOk [98] := nmOk_small (by decide)
  obtain ⟨D1, E1, E2⟩ := two_start m hm32
  have H1 := Lib.hid E1
  have H2 := Lib.hid E2
  clear E1 E2
  have ha9 : (a : Int) < 32 := by omega
  have hb9 : (b : Int) < 32 := by omega
  have hm9 : (m : Int) < 32 := by omega
  have ha0 : (0 : Int) ≤ a := by omega
  have hb0 : (0 : Int) ≤ b := by omega
  have hm0 : (0 : Int) ≤ m := by omega
  go_enter Try.func6, Try.ntmps6
  go_wp2_with fail
  refine new_any _ _ fun h w1 hd0 hk0 hS => ?_
  go_wp2_with fail
  refine (make_calls _ h _ [97] hd0 hn97).mono ?_
  rintro e w2 ⟨he, hd1, hk1⟩
  rw [H1.out] at he hd1
  dsimp only at he hd1
  subst he
  go_wp2_with fail
  refine (make_calls _ h _ [98] hd1 hn98).mono ?_
  rintro e w3 ⟨he, hd2, hk2⟩
  rw [H2.out] at he hd2
  dsimp only at he hd2
  subst he
  have hN : ∀ i, i < w.heap.size → h.S i → False := fun i hi hs => absurd (hS i hs) (Nat.not_le.2 hi)
  have hK0 : Keeps w w3 (fun _ => False) := (hk0.then hk1 hN).then hk2 hN
  have hNH := Lib.hid hN
  have hd3 : isDev w3 h (fullD a m 0) := by
    have : fullD a m 0 = ⟨m, -1, twoF [] []⟩ := by simp [fullD, freshCells, bCells]
    rw [this]; exact hd2
  clear hN hd0 hd1 hd2 hk0 hk1 hk2
  go_wp2_with fail
  go_loopw [9, 8] (fun i v8 wr => ∃ q : Nat, q ≤ a + b ∧ i = .int .i64 q ∧ v8 = .int .i64 (min q m : Nat) ∧ FullRel w h a m q wr) (fun i _ _ => a + b - (intOf i).toNat)
  case atStart => exact ⟨0, Nat.zero_le _, rfl, by simp, hd3, hK0⟩
  case round =>
    obtain ⟨q, hq, rfl, rfl, hdr, hkr⟩ := hrel
    by_cases hlt : q < a + b
    · have hlt' : decide (q < a + b) = true := by simpa using hlt
      have hlt'' : (q : Int) < (a : Int) + b := by omega
      have hq9 : (q : Int) < 64 := by omega
      have hq0 : (0 : Int) ≤ q := by omega
      by_cases hqa : q < a
      · have hqa' : decide (a ≤ q) = false := by simp; omega
        by_cases hqm : q < m
        · have hmn : min q m = q := by omega
          have hmn2 : min (q + 1) m = q + 1 := by omega
          have HMN2 := Lib.hid hmn2
          rw [hmn]
          clear hmn hmn2
          have hqm' : decide (q < m) = true := by simpa using hqm
          have HW := Lib.hid (full_a_ok a m q hqa hqm)
          clear hqm hqa
          go_wp2_with fail
          refine (sector_calls _ q (kOk_small (by omega))).mono ?_
          rintro e w4 ⟨rfl, hk4⟩
          have hd4 := hdr.new hk4
          go_wp2_with fail
          refine (write_calls _ h _ [97] q (sectorOf q) hd4 hn97).mono ?_
          rintro e w5 ⟨he, hd5, hk5⟩
          rw [HW.out] at he hd5
          dsimp only at he hd5
          subst he
          go_wp2
          go_roundw
          case rel => exact ⟨q + 1, by omega, by go_num, by rw [HMN2.out]; go_num, hd5, (hkr.trans hk4).then hk5 hNH.out⟩
          case measure => simp [intOf]; omega
        · have hmn : min q m = m := by omega
          have hmn2 : min (q + 1) m = m := by omega
          have HMN2 := Lib.hid hmn2
          rw [hmn]
          clear hmn hmn2
          have hmm : decide (m < m) = false := by simp
          have hl := Lib.hid (full_lens a m (q + 1)).1
          have hlm : min (min (q + 1) a) m = m := by omega
          by_cases hqm2 : m < q
          · have hqm' : decide (m < q) = true := by simpa using hqm2
            have HW : Hid ((fullD a m q).write [97] q (sectorOf q) = (fullD a m (q + 1), 1)) := by unfold Hid; rw [full_a_no a m q hqa (by omega), if_pos hqm2]
            have HL : Hid ((fullD a m (q + 1)).len [97] = m) := by unfold Hid; rw [hl.out, hlm]
            clear hqm hqa hqm2 hlm
            go_wp2_with fail
            refine (sector_calls _ q (kOk_small (by omega))).mono ?_
            rintro e w4 ⟨rfl, hk4⟩
            have hd4 := hdr.new hk4
            go_wp2_with fail
            refine (write_calls _ h _ [97] q (sectorOf q) hd4 hn97).mono ?_
            rintro e w5 ⟨he, hd5, hk5⟩
            rw [HW.out] at he hd5
            dsimp only at he hd5
            subst he
            go_wp2_with fail
            refine (len_calls _ h _ [97] hd5 hn97).mono ?_
            rintro e w' ⟨he, rfl⟩
            rw [HL.out] at he
            subst he
            go_wp2
            go_roundw
            case rel => exact ⟨q + 1, by omega, by go_num, by rw [HMN2.out], hd5, (hkr.trans hk4).then hk5 hNH.out⟩
            case measure => simp [intOf]; omega
          · have hqm' : decide (m < q) = false := by simpa using hqm2
            have HW : Hid ((fullD a m q).write [97] q (sectorOf q) = (fullD a m (q + 1), 6)) := by unfold Hid; rw [full_a_no a m q hqa (by omega), if_neg hqm2]
            have HL : Hid ((fullD a m (q + 1)).len [97] = m) := by unfold Hid; rw [hl.out, hlm]
            clear hqm hqa hqm2 hlm
            go_wp2_with fail
            refine (sector_calls _ q (kOk_small (by omega))).mono ?_
            rintro e w4 ⟨rfl, hk4⟩
            have hd4 := hdr.new hk4
            go_wp2_with fail
            refine (write_calls _ h _ [97] q (sectorOf q) hd4 hn97).mono ?_
            rintro e w5 ⟨he, hd5, hk5⟩
            rw [HW.out] at he hd5
            dsimp only at he hd5
            subst he
            go_wp2_with fail
            refine (len_calls _ h _ [97] hd5 hn97).mono ?_
            rintro e w' ⟨he, rfl⟩
            rw [HL.out] at he
            subst he
            go_wp2
            go_roundw
            case rel => exact ⟨q + 1, by omega, by go_num, by rw [HMN2.out], hd5, (hkr.trans hk4).then hk5 hNH.out⟩
            case measure => simp [intOf]; omega
      · have hqa' : decide (a ≤ q) = true := by simp; omega
        have hj9 : (q : Int) - a < 32 := by omega
        have hj0 : (0 : Int) ≤ (q : Int) - a := by omega
        have hsub : ((q - a : Nat) : Int) = (q : Int) - a := by omega
        have HL1 := Lib.hid (full_lens a m (q + 1)).2.1
        by_cases hqm : q < m
        · have hmn : min q m = q := by omega
          have hmn2 : min (q + 1) m = q + 1 := by omega
          have HMN2 := Lib.hid hmn2
          rw [hmn]
          clear hmn hmn2
          have hqm' : decide (q < m) = true := by simpa using hqm
          have HW : Hid ((fullD a m q).write [98] ((q : Int) - a) (sectorOf q) = (fullD a m (q + 1), 0)) := by unfold Hid; have := full_b_ok a m q (by omega) hqm; rwa [hsub] at this
          clear hqm hqa hsub
          go_wp2_with fail
          refine (sector_calls _ q (kOk_small (by omega))).mono ?_
          rintro e w4 ⟨rfl, hk4⟩
          have hd4 := hdr.new hk4
          go_wp2_with fail
          refine (write_calls _ h _ [98] ((q : Int) - a) (sectorOf q) hd4 hn98).mono ?_
          rintro e w5 ⟨he, hd5, hk5⟩
          rw [HW.out] at he hd5
          dsimp only at he hd5
          subst he
          go_wp2
          go_roundw
          case rel => exact ⟨q + 1, by omega, by go_num, by rw [HMN2.out]; go_num, hd5, (hkr.trans hk4).then hk5 hNH.out⟩
          case measure => simp [intOf]; omega
        · have hmn : min q m = m := by omega
          have hmn2 : min (q + 1) m = m := by omega
          have HMN2 := Lib.hid hmn2
          rw [hmn]
          clear hmn hmn2
          have hmm : decide (m < m) = false := by simp
          obtain ⟨p, hp⟩ : ∃ p : Nat, p = min (q + 1 - a) (m - a) := ⟨_, rfl⟩
          have hp9 : (p : Int) < 32 := by omega
          have HL : Hid ((fullD a m (q + 1)).len [98] = p) := by unfold Hid; rw [HL1.out, hp]
          have hw := full_b_no a m q (by omega) (by omega)
          rw [HL.out, hsub] at hw
          by_cases hqm2 : p < q - a
          · have hqm' : decide ((p : Int) < (q : Int) - a) = true := by simp; omega
            rw [if_pos hqm2] at hw
            have HW := Lib.hid hw
            clear hqm hqa hqm2 hw hsub hp
            go_wp2_with fail
            refine (sector_calls _ q (kOk_small (by omega))).mono ?_
            rintro e w4 ⟨rfl, hk4⟩
            have hd4 := hdr.new hk4
            go_wp2_with fail
            refine (write_calls _ h _ [98] ((q : Int) - a) (sectorOf q) hd4 hn98).mono ?_
            rintro e w5 ⟨he, hd5, hk5⟩
            rw [HW.out] at he hd5
            dsimp only at he hd5
            subst he
            go_wp2_with fail
            refine (len_calls _ h _ [98] hd5 hn98).mono ?_
            rintro e w' ⟨he, rfl⟩
            rw [HL.out] at he
            subst he
            go_wp2
            go_roundw
            case rel => exact ⟨q + 1, by omega, by go_num, by rw [HMN2.out], hd5, (hkr.trans hk4).then hk5 hNH.out⟩
            case measure => simp [intOf]; omega
          · have hqm' : decide ((p : Int) < (q : Int) - a) = false := by simp; omega
            rw [if_neg hqm2] at hw
            have HW := Lib.hid hw
            clear hqm hqa hqm2 hw hsub hp
            go_wp2_with fail
            refine (sector_calls _ q (kOk_small (by omega))).mono ?_
            rintro e w4 ⟨rfl, hk4⟩
            have hd4 := hdr.new hk4
            go_wp2_with fail
            refine (write_calls _ h _ [98] ((q : Int) - a) (sectorOf q) hd4 hn98).mono ?_
            rintro e w5 ⟨he, hd5, hk5⟩
            rw [HW.out] at he hd5
            dsimp only at he hd5
            subst he
            go_wp2_with fail
            refine (len_calls _ h _ [98] hd5 hn98).mono ?_
            rintro e w' ⟨he, rfl⟩
            rw [HL.out] at he
            subst he
            go_wp2
            go_roundw
            case rel => exact ⟨q + 1, by omega, by go_num, by rw [HMN2.out], hd5, (hkr.trans hk4).then hk5 hNH.out⟩
            case measure => simp [intOf]; omega
    · have hge : decide (q < a + b) = false := by simpa using hlt
      have hge' : ¬ ((q : Int) < (a : Int) + b) := by omega
      obtain ⟨x, hx⟩ : ∃ x : Nat, x = min (min q a) m := ⟨_, rfl⟩
      obtain ⟨y, hy⟩ : ∃ y : Nat, y = min (q - a) (m - a) := ⟨_, rfl⟩
      obtain ⟨l1, l2, l3⟩ := full_lens a m q
      rw [← hx] at l1 l3
      rw [← hy] at l2 l3
      have hu : min q m = x + y := by omega
      rw [hu]
      have hx9 : (x : Int) < 32 := by omega
      have hy9 : (y : Int) < 32 := by omega
      have hx0 : (0 : Int) ≤ x := by omega
      have hy0 : (0 : Int) ≤ y := by omega
      have L1 := Lib.hid l1
      have L2 := Lib.hid l2
      have L3 := Lib.hid l3
      have hxy : ((x + y : Nat) : Int) = (x : Int) + y := by omega
      rw [hxy]
      have hag := full_again a m q
      rw [← hx, ← hy] at hag
      have HAG := Lib.hid hag
      clear l1 l2 l3 hu hxy hag hlt
      have hdrop : ∀ X Y, ∃ D' : Dv, (⟨m, -1, twoF X Y⟩ : Dv).drop [97] = (D', 0) ∧ used D'.files = Y.length ∧ D'.len [98] = Y.length := fun X Y => drop_a m X Y
      have HFD : Hid (fullD a m q = ⟨m, -1, twoF (freshCells (min (min q a) m)) (bCells a (min (q - a) (m - a)))⟩) := Lib.hid rfl
      have HBL : Hid ((bCells a (min (q - a) (m - a))).length = y) := by unfold Hid; rw [bCells_len, ← hy]
      have HNX : Hid ((y : Int) = y) := Lib.hid rfl
      clear hy hx
      go_wp2_with fail
      refine (used_calls _ h _ hdr).mono ?_
      rintro e w' ⟨he, rfl⟩
      rw [L3.out] at he
      subst he
      go_wp2_with fail
      refine (used_calls _ h _ hdr).mono ?_
      rintro e w' ⟨he, rfl⟩
      rw [L3.out] at he
      subst he
      go_wp2_with fail
      refine (len_calls _ h _ [97] hdr hn97).mono ?_
      rintro e w' ⟨he, rfl⟩
      rw [L1.out] at he
      subst he
      go_wp2_with fail
      refine (len_calls _ h _ [98] hdr hn98).mono ?_
      rintro e w' ⟨he, rfl⟩
      rw [L2.out] at he
      subst he
      go_wp2_with fail
      refine (len_calls _ h _ [97] hdr hn97).mono ?_
      rintro e w' ⟨he, rfl⟩
      rw [L1.out] at he
      subst he
      by_cases hx1 : 0 < x
      · have hx2 : decide (0 < x) = true := by simpa using hx1
        have hx3 : (0 : Int) < x := by omega
        obtain ⟨z, hz, hw⟩ := HAG.out hx1 (sectorOf 77)
        have HW := Lib.hid hw
        obtain ⟨D', d1, d2, d3⟩ := hdrop z (bCells a y)
        rw [bCells_len] at d2 d3
        have HD1 := Lib.hid d1
        have HD2 := Lib.hid d2
        have HD3 := Lib.hid d3
        clear hw hz d1 d2 d3 hdrop hx1
        go_wp2_with fail
        refine (sector_calls _ 77 (kOk_small (by omega))).mono ?_
        rintro e w4 ⟨rfl, hk4⟩
        have hd4 := hdr.new hk4
        go_wp2_with fail
        refine (write_calls _ h _ [97] 0 (sectorOf 77) hd4 hn97).mono ?_
        rintro e w5 ⟨he, hd5, hk5⟩
        rw [HW.out] at he hd5
        dsimp only at he hd5
        subst he
        go_wp2_with fail
        refine (drop_calls _ h _ [97] hd5 hn97).mono ?_
        rintro e w6 ⟨he, hd6, hk6⟩
        rw [HD1.out] at he hd6
        dsimp only at he hd6
        subst he
        go_wp2_with fail
        refine (used_calls _ h _ hd6).mono ?_
        rintro e w' ⟨he, rfl⟩
        rw [HD2.out] at he
        subst he
        go_wp2_with fail
        refine (len_calls _ h _ [98] hd6 hn98).mono ?_
        rintro e w' ⟨he, rfl⟩
        rw [HD3.out] at he
        subst he
        go_wp2_with fail
        refine (awake7_calls _).mono ?_
        rintro e w7 ⟨rfl, hk7⟩
        go_wp2
        go_ret
        exact ⟨rfl, (((hkr.trans hk4).then hk5 hNH.out).then hk6 hNH.out).trans hk7⟩
      · obtain rfl : x = 0 := by omega
        obtain ⟨D', d1, d2, d3⟩ := hdrop (freshCells (min (min q a) m)) (bCells a (min (q - a) (m - a)))
        rw [HBL.out] at d2 d3
        rw [← HFD.out] at d1
        have HD1 := Lib.hid d1
        have HD2 := Lib.hid d2
        have HD3 := Lib.hid d3
        clear d1 d2 d3 hdrop hx1
        go_wp2_with fail
        refine (drop_calls _ h _ [97] hdr hn97).mono ?_
        rintro e w6 ⟨he, hd6, hk6⟩
        rw [HD1.out] at he hd6
        dsimp only at he hd6
        subst he
        go_wp2_with fail
        refine (used_calls _ h _ hd6).mono ?_
        rintro e w' ⟨he, rfl⟩
        rw [HD2.out] at he
        subst he
        go_wp2_with fail
        refine (len_calls _ h _ [98] hd6 hn98).mono ?_
        rintro e w' ⟨he, rfl⟩
        rw [HD3.out] at he
        subst he
        go_wp2_with fail
        refine (awake7_calls _).mono ?_
        rintro e w7 ⟨rfl, hk7⟩
        go_wp2
        go_ret
        exact ⟨rfl, (hkr.then hk6 hNH.out).trans hk7⟩
end Go.Proofs.Ytbfdkgbioabefaa
