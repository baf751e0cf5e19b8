import Derived.Test.YtadjcdfmppcpnaaYLaw9
import Derived.Test.YtadjcdfmppcpnaaYMtEq
import Derived.Test.YtadjcdfmppcpnaaQP
/-! Layer 9: the statements' own helper awake. -/
namespace Go.Proofs.Ytadjcdfmppcpnaa
open Go Go.RowKit Go.Maps Wb

set_option maxRecDepth 100000 in
set_option maxHeartbeats 8000000 in
theorem awake9_calls (w : World) : Calls Try.prog 47 #[] w (Quiet w (.bool true)) := by
  obtain ⟨D1, F2, D3, E1, E2, E3, E4, E5, E6, E7, E8, E9, E10, E11, E12, E13, E14, E15, E16⟩ := awake9_plain
  obtain ⟨FC, hFC⟩ : ∃ FC, FC = keepP { F2 with d := D3, mt := nextMt F2 2 3 7 } [2] := ⟨_, rfl⟩
  have HFCM : Hid (FC.mt = ⟨2, 2, 3, 7⟩) := Lib.hid (by rw [hFC, ← E14]; rfl)
  rw [← hFC] at E15 E16
  have HFC := Lib.hid hFC
  have H1 := Lib.hid E1
  have H2 := Lib.hid E2
  have H3 := Lib.hid E3
  have H4 := Lib.hid E4
  have H5 := Lib.hid E5
  have H6 := Lib.hid E6
  have H7 := Lib.hid E7
  have H8 := Lib.hid E8
  have H9 := Lib.hid E9
  have H10 := Lib.hid E10
  have H11 := Lib.hid E11
  have H12 := Lib.hid E12
  have H13 := Lib.hid E13
  have H15 := Lib.hid E15
  have H16 := Lib.hid E16
  clear hFC E1 E2 E3 E4 E5 E6 E7 E8 E9 E10 E11 E12 E13 E14 E15 E16
  go_enter Try.func47, Try.ntmps47
  go_wp2_with fail
  refine new_any _ _ fun h w1 hd1 hk1 hS => ?_
  go_wp2_with fail
  have hS1 := hS
  refine l_open (w0 := w) (X := fun _ => False) hd1 (openE_files _) H1.out H2.out (fun _ h => h.elim) hS1 hk1 fun f w2 hL2 _ => ?_
  have kc := fun (w : World) (C : Array Value) (n c : Nat) => Go.Lib.run_convert_bytes_const (P := Try.prog) w 63 5 C n c Try.underlying63 Try.underlying5
  clear hd1 hk1 hS hS1
  go_wp2_with (first
    | (go_at_call 46; refine (l_meta hL2).mono ?_; rintro e w3 ⟨he, hL3, _⟩; rw [H3.out] at he; subst he)
    | ((with_reducible refine gd_build 66 ?_); refine wl_buildL rfl _ _ rfl [(0, .int .u64 1)] rfl (.agg (metaA mt1)) buildM1 ?_)
    | ((with_reducible refine gd_bin 66 ?_); refine wl_bin (by rfl) _ _ _ _ _ rfl (.agg (metaA mt1)) (.agg (metaA mt1)) rfl rfl (.bool false) (fun W => run_guard_mt W _ _ _ _ _) (neq_mt mt1_good mt1_good _ (by simp)) ?_)
    | (go_at_call 50; refine (l_len hL3).mono ?_; rintro e w' ⟨he, rfl⟩; rw [show pagesOf (openP D1).d = 2 from H4.out] at he; subst he)
    | (go_at_call 51; refine (l_free hL3).mono ?_; rintro e w4 ⟨v4, rfl, ho4, hL4, _⟩; rw [H5.out] at ho4; have hr4 : isRd w4 v4 [] := isOwn.rd ho4; obtain ⟨va, vc, rfl, _⟩ := hr4)
    | fail)
  obtain ⟨w5, hw5⟩ : ∃ w5, w5 = w4.alloc (.cells #[.int .u8 120] 5 (1, 2)) := ⟨_, rfl⟩
  rw [← hw5]
  have HB5 : w5.heap[w4.heap.size]? = some (.cells #[.int .u8 120] 5 (1, 2)) := by rw [hw5]; exact (Go.MapKept.heap_alloc w4 _).1
  have hk5 : Keeps w4 w5 (fun _ => False) := by rw [hw5]; exact (Keeps.refl w4 _).alloc _
  have hbb : ∀ g, (Value.slice (some ⟨w4.heap.size, 0, none⟩) 1 1).ownBlock = some g → w4.heap.size ≤ g ∧ g < w5.heap.size := fun g hg => by
    simp only [Value.ownBlock, Option.some.injEq] at hg
    subst hg
    exact ⟨Nat.le_refl _, lt_of_blk HB5⟩
  generalize hbg : w4.heap.size = bb at HB5 ⊢
  rw [hbg] at hbb
  have hrd : isRd w5 (.slice (some ⟨bb, 0, none⟩) 1 1) (octs [120]) := ⟨_, 1, rfl, Nat.le_refl _, fun j x hj => ⟨bb, 0, rfl, lt_of_blk HB5, by
    rw [cell_of_block HB5, Nat.zero_add]
    cases j with
    | zero => simpa [octs, octV] using hj
    | succ j => cases hj⟩⟩
  clear hw5 kc ho4
  refine (l_put (bv := .slice (some ⟨bb, 0, none⟩) 1 1) (b := [120]) hL4 rfl hk5 hrd (by rw [hbg]; exact hbb) (by decide) (Nat.zero_le _)).mono ?_
  rintro e w6 ⟨p, hp, he, hL6, hk6⟩
  obtain rfl := H6.out p hp
  rw [H7.out] at he hL6
  dsimp only at he hL6
  subst he
  clear hp hk6 hrd hbb hbg HB5 hk5 hL4
  go_wp2_with (first
    | (refine wl_slice1 rfl _ _ rfl 3 _ 8 Try.underlying22 info_int rfl (.int .i64 2) rfl rfl ?_; intro bi w7 hbi HB7 hk7)
    | fail)
  have hL7 : Law9 w w7 f h F2 (fun i => i = bi) := hL6.more hk7 (fun i hi => .inr (by rw [show i = bi from hi]; exact hbi)) (fun i hi => by rw [show i = bi from hi]; exact lt_of_blk HB7)
  have hv7 : isRd w7 (.slice (some ⟨bi, 0, none⟩) 1 1) (intV [2]) := (isVals_one (ok := fun _ => True) HB7 trivial).rd
  refine (l_commit (root := 2) (count := 3) (mark := 7) hL7 H8.out hv7 (fun g hg => by
    simp only [Value.ownBlock, Option.some.injEq] at hg
    subst hg
    exact .inr ⟨.inl rfl, lt_of_blk HB7⟩) (by decide) H11.out (by rw [H9.out]; decide) (by decide) H12.out H13.out).mono ?_
  rintro e w8 ⟨rfl, hL8, _⟩
  rw [← HFC.out] at hL8
  clear hv7 hL7 HB7 hbi hk7
  go_wp2_with fail
  refine (l_read hL8 2).mono ?_
  rintro e w9 ⟨v9, he, ho9, hL9, _⟩
  rw [H15.out] at he ho9
  dsimp only at he ho9
  subst he
  go_wp2_with fail
  refine (l_read hL9 0).mono ?_
  rintro e w10 ⟨v10, he, ho10, hL10, hk10⟩
  rw [H16.out] at he ho10
  dsimp only at he ho10
  subst he
  have hrd9 := isOwn.rd (isOwn.new ho9 hk10)
  obtain ⟨a9, c9, rfl, hc9, hx9⟩ := hrd9
  have hl9 : (octs (wholeP [120])).length = 512 := by rw [octs_len, wholeP_len (by decide)]
  rw [hl9] at hc9 ⊢
  obtain ⟨g9, o9, rfl, _, k0⟩ := hx9 0 (.int .u8 120) rfl
  obtain ⟨g9', o9', e9, _, k1⟩ := hx9 1 (.int .u8 0) rfl
  cases e9
  rw [Nat.add_zero] at k0
  clear ho9 ho10 hx9
  go_wp2_with (first
    | (go_at_call 46; refine (l_meta hL10).mono ?_; rintro e w11 ⟨he, hL11, hk11⟩; rw [HFCM.out] at he; subst he; have k2 := Keeps.cellK hk11 k0; have k3 := Keeps.cellK hk11 k1)
    | ((with_reducible refine gd_build 66 ?_); refine wl_buildL rfl _ _ rfl [(0, .int .u64 2), (1, .int .i64 2), (2, .int .i64 3), (3, .int .u64 7)] rfl (.agg (metaA ⟨2, 2, 3, 7⟩)) (fun _ => by kernel_rfl) ?_)
    | ((with_reducible refine gd_bin 66 ?_); refine wl_bin (by rfl) _ _ _ _ _ rfl (.agg (metaA ⟨2, 2, 3, 7⟩)) (.agg (metaA ⟨2, 2, 3, 7⟩)) rfl rfl (.bool true) (fun W => run_guard_mt W _ _ _ _ _) (eql_mt ⟨by decide, by decide, by decide, by decide⟩ ⟨by decide, by decide, by decide, by decide⟩ _ (by simp)) ?_)
    | fail)
  go_ret
  exact ⟨rfl, hL11.keeps⟩
end Go.Proofs.Ytadjcdfmppcpnaa
