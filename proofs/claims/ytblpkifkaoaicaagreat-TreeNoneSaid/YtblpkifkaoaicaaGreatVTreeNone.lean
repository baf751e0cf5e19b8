import Derived.Test.YtblpkifkaoaicaaGreatQR
import Derived.Test.YtblpkifkaoaicaaGreatQP
/-! The walk of TreeNone. -/
namespace Go.Proofs.YtblpkifkaoaicaaGreat
open Go Go.RowKit Go.Maps Wb

theorem none_open {D : Dv} (h : ND 100 [] D) : openE D = 12 := by
  obtain ⟨D', h1, h2⟩ := nd_open h
  have hp : pagesOf D' = 0 := by unfold pagesOf; rw [nd_len h2]; rfl
  unfold openE
  rw [h1]
  simp only
  rw [if_neg (by simp), if_pos]
  right
  omega
set_option maxRecDepth 100000 in
set_option maxHeartbeats 4000000 in
theorem treeNone_walk (w : World) : Calls Tryz.prog 4 #[] w (Quiet w (.bool true)) := by
  obtain ⟨D0, E0, E1⟩ := bad_start
  have HM0 := Lib.hid E0
  have HE := Lib.hid (none_open E1)
  have hfl : D0.files.length ≤ 1000000 := by
    obtain ⟨l, hl, _⟩ := E1
    rw [hl]
    exact (by decide : (1 : Nat) ≤ 1000000)
  have HFL := Lib.hid hfl
  have HF := Lib.hid (fresh_calls w w 100 12 (by decide) (by decide) (by decide) (Keeps.refl _ _))
  have hn112 : nmOk [112] := nmOk_small (by decide)
  clear E0 E1 hfl
  go_enter Tryz.func4, Tryz.ntmps4
  go_wp2_with fail
  refine HF.out.mono ?_
  rintro e w1 ⟨h, t, f, S0, F0, rfl, htr, hts, hk0, hS0⟩
  have HTR := Lib.hid htr
  have HTS := Lib.hid hts
  have HK0 := Lib.hid hk0
  have HS0 := Lib.hid hS0
  have HCN := Lib.hid (tr_count htr)
  have HHG := Lib.hid (tr_high htr trivial (Nat.zero_le _))
  have HPG := Lib.hid (tr_pages htr trivial (Nat.zero_le _))
  clear HF htr hts hk0 hS0
  go_wp2_with (first
    | (go_at_call 18; refine HCN.out.mono ?_; rintro e w' ⟨rfl, rfl⟩)
    | (go_at_call 19; refine HHG.out.mono ?_; rintro e w' ⟨rfl, rfl⟩)
    | fail)
  refine HPG.out.mono ?_
  rintro e w2 ⟨v2, rfl, ho2, hk2⟩
  have he2 : sortN (nI (idsR none)) = [] := by simp [sortN, nI, idsR]
  rw [he2] at ho2
  obtain ⟨a2, c2, e2⟩ := isOwn.shapeN ho2
  simp only [List.map_nil, List.length_nil] at e2
  subst e2
  have HTR2 := Lib.hid (HTR.out.new hk2)
  have HK2 := Lib.hid (HK0.out.trans hk2)
  have HRW := Lib.hid (tr_rows HTR2.out trivial [] 10 10 rfl (Nat.zero_le _))
  clear ho2 he2 hk2 HCN HHG HPG
  go_wp2_with fail
  refine HRW.out.mono ?_
  rintro e w3 ⟨v3, rfl, ho3, hk3⟩
  obtain ⟨a3, c3, e3⟩ := isOwnA.shape ho3
  have hr3 : (rowsA (rowsKV (rowsOut (flatT none) [] 10))).length = 0 := rfl
  rw [hr3] at e3
  subst e3
  have HTR3 := Lib.hid (HTR2.out.new hk3)
  have HK3 := Lib.hid (HK2.out.trans hk3)
  have hgt := tr_get HTR3.out trivial [97]
  have hge : getV (flatT none) [97] = .tuple #[.string (bs []), .bool false, .int .i64 0] := rfl
  rw [hge] at hgt
  have HGT := Lib.hid hgt
  clear ho3 hr3 hk3 hgt hge HRW
  go_wp2_with fail
  refine HGT.out.mono ?_
  rintro e w4 ⟨rfl, hk4⟩
  have HTR4 := Lib.hid (HTR3.out.new hk4)
  have HK4 := Lib.hid (HK3.out.trans hk4)
  clear hk4 HGT
  go_wp2_with fail
  refine new_any _ _ fun h2 w5 hd5 hk5 hS5 => ?_
  have HTR5 := Lib.hid (HTR4.out.new hk5)
  have HK5 := Lib.hid (HK4.out.trans hk5)
  have HS5 : Hid ((∀ i, S0 i → i < w4.heap.size) ∧ ∀ i, h2.S i → w4.heap.size ≤ i) := Lib.hid ⟨fun i hi => (HTR4.out.low i hi).2, hS5⟩
  clear hk5 hS5
  go_wp2_with (first
    | (go_at_call 24; refine (make_calls _ h2 _ [112] hd5 hn112).mono ?_; rintro e w6 ⟨he, hd6, hk6⟩; rw [HM0.out] at he hd6; dsimp only at he hd6; subst he)
    | fail)
  have hz6 : ∀ i, h2.S i → ¬ S0 i ∧ w.heap.size ≤ i := fun i hi => ⟨fun hs => absurd (HS5.out.1 i hs) (Nat.not_lt.2 (HS5.out.2 i hi)), Nat.le_trans HK4.out.size (HS5.out.2 i hi)⟩
  have HTR6 := Lib.hid (HTR5.out.kept' hk6 hz6)
  have HK6 : Hid (Keeps w w6 (fun _ => False)) := Lib.hid (HK5.out.then hk6 (fun i hi hs => absurd (hz6 i hs).2 (Nat.not_le.2 hi)))
  have HOP := Lib.hid (open_calls w6 h2 D0 hd6 HFL.out)
  have HZ6 := Lib.hid hz6
  clear hk6 hd6 hz6 hd5
  refine HOP.out.mono ?_
  rintro e w7 (⟨h0, _⟩ | ⟨_, rfl, hd7, hk7⟩)
  · exact absurd h0 (by rw [HE.out]; decide)
  rw [HE.out]
  have HTR7 := Lib.hid (HTR6.out.kept' hk7 HZ6.out)
  have HK7 : Hid (Keeps w w7 (fun _ => False)) := Lib.hid (HK6.out.then hk7 (fun i hi hs => absurd (HZ6.out i hs).2 (Nat.not_le.2 hi)))
  have HCO := Lib.hid (tr_commit (mark := 0) HTR7.out HTS.out (by decide) (by decide) (by decide) (by decide) (by decide) (by decide))
  clear hd7 hk7 HOP
  go_wp2_with (first
    | (go_at_call 16; refine HCO.out.mono ?_; rintro e w8 ⟨rfl, F8, R8, ⟨S8, htr8, hs8, hg8, hk8⟩, _⟩; have HK8 : Hid (Keeps w w8 (fun _ => False)) := Lib.hid (HK7.out.then hk8 (fun i hi hs => absurd (HS0.out i hs) (Nat.not_le.2 hi))); clear htr8 hs8 hg8 hk8)
    | (go_at_call 12; refine (awake11_calls _).mono ?_; rintro e w9 ⟨rfl, hk9⟩; have HK9 : Hid (Keeps w w9 (fun _ => False)) := Lib.hid (HK8.out.trans hk9))
    | fail)
  first | exact ⟨rfl, HK9.out⟩ | (go_ret; exact ⟨rfl, HK9.out⟩)
end Go.Proofs.YtblpkifkaoaicaaGreat
