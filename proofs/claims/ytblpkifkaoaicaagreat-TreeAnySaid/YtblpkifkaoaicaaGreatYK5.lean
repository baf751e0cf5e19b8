import Derived.Test.YtblpkifkaoaicaaGreatQZ
import Derived.Test.YtblpkifkaoaicaaGreatYRegB
import Derived.Test.YtblpkifkaoaicaaGreatYReg
/-! Package node: Ok. -/
namespace Go.Proofs.YtblpkifkaoaicaaGreat
open Go Go.RowKit Go.Maps Wb

theorem less_eq : ∀ (x y : List UInt8), Op.bytesLess x y = decide (x < y)
  | [], [] => by simp [Op.bytesLess]
  | _ :: _, [] => by simp [Op.bytesLess]
  | [], _ :: _ => by simp [Op.bytesLess]
  | a :: x, b :: y => by
    have ih := less_eq x y
    have h := List.cons_lt_cons_iff (a := a) (b := b) (l₁ := x) (l₂ := y)
    rw [Op.bytesLess, ih, Bool.eq_iff_iff, decide_eq_true_iff, h]
    simp
theorem less_str (a b : Nm) : Op.bytesLess (bs a).toList (bs b).toList = decide (a < b) := by rw [bs_toList, bs_toList, less_eq]
theorem range_blk {w : World} {b : Nat} {C : Array Value} {t : TypeId} {fr : Nat × Nat} (h : w.heap[b]? = some (.cells C t fr)) : w.rangeAt b 0 C.toList := fun j v hj => by
  rw [cellA_of h, Nat.zero_add]
  simpa using hj
theorem okTo_zero (n : Ndv) : okTo n 0 := fun _ _ h => absurd h (Nat.not_lt_zero _)
theorem okTo_succ {n : Ndv} {q : Nat} {r : Rw} (hr : n.rows[q]? = some r) (h : okTo n q) (hg : goodN n.leaf r = true) (hp : ∀ p, 0 < q → n.rows[q - 1]? = some p → p.key < r.key) : okTo n (q + 1) := by
  intro j s hj hs
  by_cases e : j = q
  · subst e
    rw [hr] at hs
    cases hs
    exact ⟨hg, hp⟩
  · exact h j s (by omega) hs
theorem okTo_bad {n : Ndv} {q : Nat} {r : Rw} (hr : n.rows[q]? = some r) (h : ¬ (goodN n.leaf r = true ∧ ∀ p, 0 < q → n.rows[q - 1]? = some p → p.key < r.key)) : ¬ OkN n := by
  intro hk
  have hq := (List.getElem?_eq_some_iff.1 hr).1
  exact h (hk.1 q r hq hr)
open Classical in
theorem okN_false {n : Ndv} (h : ¬ OkN n) : okN n = false := by
  unfold okN
  exact decide_eq_false h
open Classical in
theorem okN_end {n : Ndv} (h : okTo n n.rows.length) : okN n = ((n.leaf || decide (n.rows ≠ [])) && decide (sizeN n ≤ 512)) := by
  unfold okN
  rw [Bool.eq_iff_iff, decide_eq_true_iff, Bool.and_eq_true, Bool.or_eq_true, decide_eq_true_iff, decide_eq_true_iff]
  exact ⟨fun h => h.2, fun h' => ⟨h, h'⟩⟩
set_option maxRecDepth 100000 in
set_option maxHeartbeats 2000000 in
theorem ok_calls (w : World) (leaf : Bool) (sv : Value) (l : List Rw) (hs : isRdA w 3 sv (rowsA l)) (hl : Shorts l) :
    Calls Tryz.prog 126 #[.agg (nodeA leaf sv)] w (Quiet w (.bool (okN ⟨leaf, l⟩))) := by
  have HSV := Lib.hid hs
  obtain ⟨ad, cap, rfl, hcap, hrd⟩ := hs
  rw [rowsA_len] at hcap
  have hsvl : (.slice ad (rowsA l).length cap : Value) = .slice ad l.length cap := by rw [rowsA_len]
  rw [hsvl] at HSV ⊢
  have HRD := Lib.hid hrd
  have HL := Lib.hid hl
  have hli : (l.length : Int) ≤ 1000000 := by have := hl.1; omega
  obtain ⟨n, hn⟩ : ∃ n, n = l.length := ⟨_, rfl⟩
  have HN := Lib.hid hn
  rw [← hn] at hli hcap HSV ⊢
  clear hrd hl hn hsvl
  go_enter Tryz.func126, Tryz.ntmps126
  go_wp2_with (first
    | ((with_reducible refine gd_box 108 ?_); refine wl_box_agg rfl _ _ rfl (nodeA leaf (.slice ad n cap)) rfl ?_; intro bn w1 hbn HBN HKN; have c0 : w1.cell? ⟨bn, 0, none⟩ = some (.bool leaf) := (by rw [cell_of_block HBN]; rfl); have c1 : w1.cell? ⟨bn, 1, none⟩ = some (.slice ad n cap) := (by rw [cell_of_block HBN]; rfl))
    | fail)
  go_loopw [8] (fun i wr => ∃ q : Nat, q ≤ n ∧ i = .int .i64 q ∧ Hid (okTo ⟨leaf, l⟩ q ∧ Keeps w1 wr (fun _ => False))) (fun i _ => n - (intOf i).toNat)
  case atStart => exact ⟨0, Nat.zero_le _, rfl, Lib.hid ⟨okTo_zero _, Keeps.refl _ _⟩⟩
  case round =>
    obtain ⟨q, hq, rfl, hrel⟩ := hrel
    have hq0 : (0 : Int) ≤ q := by omega
    have hqi : (q : Int) ≤ 1000000 := by omega
    have hkr := hrel.out.2
    by_cases hlt : q < n
    · as_aux_lemma =>
      have hlb : decide ((q : Int) < (n : Int)) = true := by simp; omega
      have hqn : (q : Int) < n := by omega
      obtain ⟨r, hr⟩ : ∃ r, l[q]? = some r := ⟨_, List.getElem?_eq_getElem (by have := HN.out; omega)⟩
      obtain ⟨g, o, rfl, _, hrg⟩ := HRD.out q _ (rowsA_at hr)
      have HR := Lib.hid hr
      have HRG := Lib.hid (Keeps.rangeK (HKN.trans hkr) hrg)
      have hsr := HL.out.2 r (List.mem_of_getElem? hr)
      have HLT := Lib.hid (Nat.succ_le_of_lt hlt)
      clear hr hlt hrg
      go_wp2_with (first
        | ((with_reducible refine gd_load 70 ?_); refine wl_load_rd rfl _ _ rfl g (o + q * 3) rfl (rowA r) HRG.out _ Tryz.underlying70 rfl (infoRw _) ?_)
        | ((with_reducible refine gd_alloc 70 ?_); refine wl_alloc_agg rfl _ rfl _ zeroRw ?_; intro b5 w5 hb5 HB5 HK5)
        | ((with_reducible refine gd_store 70 ?_); refine wl_store_agg rfl _ _ _ rfl b5 _ rfl _ _ HB5 (rowA r) rfl (rowA r) (store_rw _ _) (le_rw _ _) (infoRw _) (rowA_one _) ?_; intro w6 HB6 HK6; have HK56 := keeps_new HK5 HK6 hb5; have HBN6 := Keeps.blk HK56 (Keeps.blk hkr HBN id) id)
        | fail)
      have e0 : w6.cell? ⟨b5, 0, none⟩ = some (.string (bs r.key)) := by rw [cell_of_block HB6]; rfl
      have e1 : w6.cell? ⟨bn, 1, none⟩ = some (.slice (some ⟨g, o, none⟩) n cap) := by rw [cell_of_block HBN6]; rfl
      have HG := fun W => good_calls W leaf (.slice (some ⟨g, o, none⟩) n cap) r (by omega) (by omega)
      have HKW := HKN.trans (hkr.trans HK56)
      have hrun7 : w6.rangeAt bn 0 (nodeA leaf (.slice (some ⟨g, o, none⟩) n cap)).toList := range_blk HBN6
      have hrun5 : w6.rangeAt b5 0 (rowA r).toList := range_blk HB6
      by_cases hgood : goodN leaf r = true
      · by_cases hz : q = 0
        · as_aux_lemma =>
          subst hz
          have HOKN : Hid (okTo ⟨leaf, l⟩ (0 + 1)) := Lib.hid (okTo_succ HR.out hrel.out.1 hgood (fun _ h => absurd h (Nat.lt_irrefl _)))
          have HS : (fun (w' : World) => w'.rangeAt bn 0 (nodeA leaf (.slice (some ⟨g, o, none⟩) n cap)).toList ∧ w'.rangeAt b5 0 (rowA r).toList ∧ w'.cell? ⟨b5, 0, none⟩ = some (.string (bs r.key)) ∧ w'.cell? ⟨bn, 1, none⟩ = some (.slice (some ⟨g, o, none⟩) n cap)) w6.drew := ⟨hrun7, hrun5, e0, e1⟩
          refine wp_region_held_drew (S := (fun (w' : World) => w'.rangeAt bn 0 (nodeA leaf (.slice (some ⟨g, o, none⟩) n cap)).toList ∧ w'.rangeAt b5 0 (rowA r).toList ∧ w'.cell? ⟨b5, 0, none⟩ = some (.string (bs r.key)) ∧ w'.cell? ⟨bn, 1, none⟩ = some (.slice (some ⟨g, o, none⟩) n cap))) (by kernel_rfl) HS (fun _ => ?_)
          refine rg_load 0 rfl (by kernel_rfl) (by kernel_rfl) (by kernel_rfl) (nodeA leaf (.slice (some ⟨g, o, none⟩) n cap)) (fun _ _ _ h => h) HS (by rfl) bn 0 rfl (fun _ h => h.1) _ Tryz.underlying108 rfl (infoNd _ _) ?_
          refine rg_load 1 rfl (by kernel_rfl) (by kernel_rfl) (by kernel_rfl) (rowA r) (fun _ _ _ h => h) HS (by rfl) b5 0 rfl (fun _ h => h.2.1) _ Tryz.underlying70 rfl (infoRw _) ?_
          simp only [Act.put, l_a, l_s, l_z]
          refine rg_one 2 rfl (by kernel_rfl) (by rfl) ?_
          refine rg_call 147 _ _ rfl _ Tryz.func147 (by kernel_rfl) (by kernel_rfl) [.agg (nodeA leaf (.slice (some ⟨g, o, none⟩) n cap)), .agg (rowA r)] rfl (HG _) ?_
          rintro e w7 ⟨rfl, hk7⟩
          rw [hgood]
          have hS7 : (fun (w' : World) => w'.rangeAt bn 0 (nodeA leaf (.slice (some ⟨g, o, none⟩) n cap)).toList ∧ w'.rangeAt b5 0 (rowA r).toList ∧ w'.cell? ⟨b5, 0, none⟩ = some (.string (bs r.key)) ∧ w'.cell? ⟨bn, 1, none⟩ = some (.slice (some ⟨g, o, none⟩) n cap)) w7 := ⟨Keeps.rangeK hk7 hrun7, Keeps.rangeK hk7 hrun5, Keeps.cellK hk7 e0, Keeps.cellK hk7 e1⟩
          refine ⟨_, rfl, hS7, ?_⟩
          simp only [Act.put, l_a, l_s, l_z]
          first | (refine rg_s 3 rfl (by kernel_rfl) (fun _ _ _ h => h) hS7 ?_ ?_; rfl) | (refine rg_t 3 (v := ?_) rfl (by kernel_rfl) (fun _ _ _ h => h) hS7 ?_ ?_ ?_; rotate_left; rfl; focus (intro w hSw; (try dsimp only at hSw); go_simp; all_goals (with_reducible rfl)))
          simp only [Act.put, l_a, l_s, l_z]
          first | (refine rg_s 4 rfl (by kernel_rfl) (fun _ _ _ h => h) hS7 ?_ ?_; rfl) | (refine rg_t 4 (v := ?_) rfl (by kernel_rfl) (fun _ _ _ h => h) hS7 ?_ ?_ ?_; rotate_left; rfl; focus (intro w hSw; (try dsimp only at hSw); go_simp; all_goals (with_reducible rfl)))
          simp only [Act.put, l_a, l_s, l_z]
          first | (refine rg_s 5 rfl (by kernel_rfl) (fun _ _ _ h => h) hS7 ?_ ?_; rfl) | (refine rg_t 5 (v := ?_) rfl (by kernel_rfl) (fun _ _ _ h => h) hS7 ?_ ?_ ?_; rotate_left; rfl; focus (intro w hSw; (try dsimp only at hSw); go_simp; all_goals (with_reducible rfl)))
          simp only [Act.put, l_a, l_s, l_z]
          first | (refine rg_s 6 rfl (by kernel_rfl) (fun _ _ _ h => h) hS7 ?_ ?_; rfl) | (refine rg_t 6 (v := ?_) rfl (by kernel_rfl) (fun _ _ _ h => h) hS7 ?_ ?_ ?_; rotate_left; rfl; focus (intro w hSw; (try dsimp only at hSw); go_simp; all_goals (with_reducible rfl)))
          simp only [Act.put, l_a, l_s, l_z]
          first | (refine rg_s 7 rfl (by kernel_rfl) (fun _ _ _ h => h) hS7 ?_ ?_; rfl) | (refine rg_t 7 (v := ?_) rfl (by kernel_rfl) (fun _ _ _ h => h) hS7 ?_ ?_ ?_; rotate_left; rfl; focus (intro w hSw; (try dsimp only at hSw); go_simp; all_goals (with_reducible rfl)))
          simp only [Act.put, l_a, l_s, l_z]
          first | (refine rg_s 8 rfl (by kernel_rfl) (fun _ _ _ h => h) hS7 ?_ ?_; rfl) | (refine rg_t 8 (v := ?_) rfl (by kernel_rfl) (fun _ _ _ h => h) hS7 ?_ ?_ ?_; rotate_left; rfl; focus (intro w hSw; (try dsimp only at hSw); go_simp; all_goals (with_reducible rfl)))
          simp only [Act.put, l_a, l_s, l_z]
          first | (refine rg_s 9 rfl (by kernel_rfl) (fun _ _ _ h => h) hS7 ?_ ?_; rfl) | (refine rg_t 9 (v := ?_) rfl (by kernel_rfl) (fun _ _ _ h => h) hS7 ?_ ?_ ?_; rotate_left; rfl; focus (intro w hSw; (try dsimp only at hSw); go_simp; all_goals (with_reducible rfl)))
          simp only [Act.put, l_a, l_s, l_z]
          first | (refine rg_s 10 rfl (by kernel_rfl) (fun _ _ _ h => h) hS7 ?_ ?_; rfl) | (refine rg_t 10 (v := ?_) rfl (by kernel_rfl) (fun _ _ _ h => h) hS7 ?_ ?_ ?_; rotate_left; rfl; focus (intro w hSw; (try dsimp only at hSw); go_simp; all_goals (with_reducible rfl)))
          simp only [Act.put, l_a, l_s, l_z]
          first | (refine rg_s 11 rfl (by kernel_rfl) (fun _ _ _ h => h) hS7 ?_ ?_; rfl) | (refine rg_t 11 (v := ?_) rfl (by kernel_rfl) (fun _ _ _ h => h) hS7 ?_ ?_ ?_; rotate_left; rfl; focus (intro w hSw; (try dsimp only at hSw); go_simp; all_goals (with_reducible rfl)))
          simp only [Act.put, l_a, l_s, l_z]
          first | (refine rg_s 12 rfl (by kernel_rfl) (fun _ _ _ h => h) hS7 ?_ ?_; rfl) | (refine rg_t 12 (v := ?_) rfl (by kernel_rfl) (fun _ _ _ h => h) hS7 ?_ ?_ ?_; rotate_left; rfl; focus (intro w hSw; (try dsimp only at hSw); go_simp; all_goals (with_reducible rfl)))
          simp only [Act.put, l_a, l_s, l_z]
          first | (refine rg_s 13 rfl (by kernel_rfl) (fun _ _ _ h => h) hS7 ?_ ?_; rfl) | (refine rg_t 13 (v := ?_) rfl (by kernel_rfl) (fun _ _ _ h => h) hS7 ?_ ?_ ?_; rotate_left; rfl; focus (intro w hSw; (try dsimp only at hSw); go_simp; all_goals (with_reducible rfl)))
          simp only [Act.put, l_a, l_s, l_z]
          first | (refine rg_s 14 rfl (by kernel_rfl) (fun _ _ _ h => h) hS7 ?_ ?_; rfl) | (refine rg_t 14 (v := ?_) rfl (by kernel_rfl) (fun _ _ _ h => h) hS7 ?_ ?_ ?_; rotate_left; rfl; focus (intro w hSw; (try dsimp only at hSw); go_simp; all_goals (with_reducible rfl)))
          simp only [Act.put, l_a, l_s, l_z]
          first | (refine rg_s 15 rfl (by kernel_rfl) (fun _ _ _ h => h) hS7 ?_ ?_; rfl) | (refine rg_t 15 (v := ?_) rfl (by kernel_rfl) (fun _ _ _ h => h) hS7 ?_ ?_ ?_; rotate_left; rfl; focus (intro w hSw; (try dsimp only at hSw); go_simp; all_goals (with_reducible rfl)))
          simp only [Act.put, l_a, l_s, l_z]
          first | (refine rg_s 16 rfl (by kernel_rfl) (fun _ _ _ h => h) hS7 ?_ ?_; rfl) | (refine rg_t 16 (v := ?_) rfl (by kernel_rfl) (fun _ _ _ h => h) hS7 ?_ ?_ ?_; rotate_left; rfl; focus (intro w hSw; (try dsimp only at hSw); go_simp; all_goals (with_reducible rfl)))
          simp only [Act.put, l_a, l_s, l_z]
          first | (refine rg_s 17 rfl (by kernel_rfl) (fun _ _ _ h => h) hS7 ?_ ?_; rfl) | (refine rg_t 17 (v := ?_) rfl (by kernel_rfl) (fun _ _ _ h => h) hS7 ?_ ?_ ?_; rotate_left; rfl; focus (intro w hSw; (try dsimp only at hSw); go_simp; all_goals (with_reducible rfl)))
          simp only [Act.put, l_a, l_s, l_z]
          first | (refine rg_s 18 rfl (by kernel_rfl) (fun _ _ _ h => h) hS7 ?_ ?_; rfl) | (refine rg_t 18 (v := ?_) rfl (by kernel_rfl) (fun _ _ _ h => h) hS7 ?_ ?_ ?_; rotate_left; rfl; focus (intro w hSw; (try dsimp only at hSw); go_simp; all_goals (with_reducible rfl)))
          simp only [Act.put, l_a, l_s, l_z]
          first | (refine rg_s 19 rfl (by kernel_rfl) (fun _ _ _ h => h) hS7 ?_ ?_; rfl) | (refine rg_t 19 (v := ?_) rfl (by kernel_rfl) (fun _ _ _ h => h) hS7 ?_ ?_ ?_; rotate_left; rfl; focus (intro w hSw; (try dsimp only at hSw); go_simp; all_goals (with_reducible rfl)))
          simp only [Act.put, l_a, l_s, l_z]
          refine wpAnyH_done (by kernel_rfl) ?_ _
          have HKK : Hid (Keeps w1 w7 (fun _ => False)) := Lib.hid (hkr.trans (HK56.drew.trans hk7))
          clear hS7 HS hrun7 hrun5 e0 e1 HG hrel hkr
          go_wp2_with fail
          go_roundw
          case rel => exact ⟨1, HLT.out, by go_num, Lib.hid ⟨HOKN.out, HKK.out⟩⟩
          case measure => have := HLT.out; simp [intOf]; omega
        · obtain ⟨p, hp⟩ : ∃ p, l[q - 1]? = some p := ⟨_, List.getElem?_eq_getElem (by have := HLT.out; have := HN.out; omega)⟩
          obtain ⟨g', o', heg, _, hrp⟩ := HRD.out (q - 1) _ (rowsA_at hp)
          cases heg
          have ep : w6.cell? ⟨g, o + (q - 1) * 3, none⟩ = some (.string (bs p.key)) := (Keeps.rangeK HKW hrp) 0 _ rfl
          have HP := Lib.hid hp
          have hq1 : (1 : Int) ≤ q := by omega
          have hqsub : IntKind.i64.wrap ((q : Int) - 1) = (q : Int) - 1 := i64_smallK _ (by omega) (by omega)
          have hpos : decide ((0 : Int) < (q : Int)) = true := by simp; omega
          have hposn : decide (0 < q) = true := by simp; omega
          have hqlt : (q : Int) - 1 < n := by omega
          have hq10 : (0 : Int) ≤ (q : Int) - 1 := by omega
          have hto : ((q : Int) - 1).toNat = q - 1 := by omega
          have hless := less_str p.key r.key
          clear hp hrp
          by_cases hpr : p.key < r.key
          · as_aux_lemma =>
            rw [decide_eq_true hpr] at hless
            have HOKN : Hid (okTo ⟨leaf, l⟩ (q + 1)) := Lib.hid (okTo_succ HR.out hrel.out.1 hgood (fun p' _ hp' => by
              have h9 := HP.out
              have h8 : l[q - 1]? = some p' := hp'
              rw [h9] at h8
              cases h8
              exact hpr))
            have HS : (fun (w' : World) => w'.rangeAt bn 0 (nodeA leaf (.slice (some ⟨g, o, none⟩) n cap)).toList ∧ w'.rangeAt b5 0 (rowA r).toList ∧ w'.cell? ⟨b5, 0, none⟩ = some (.string (bs r.key)) ∧ w'.cell? ⟨bn, 1, none⟩ = some (.slice (some ⟨g, o, none⟩) n cap) ∧ w'.cell? ⟨g, o + (q - 1) * 3, none⟩ = some (.string (bs p.key))) w6.drew := ⟨hrun7, hrun5, e0, e1, ep⟩
            refine wp_region_held_drew (S := (fun (w' : World) => w'.rangeAt bn 0 (nodeA leaf (.slice (some ⟨g, o, none⟩) n cap)).toList ∧ w'.rangeAt b5 0 (rowA r).toList ∧ w'.cell? ⟨b5, 0, none⟩ = some (.string (bs r.key)) ∧ w'.cell? ⟨bn, 1, none⟩ = some (.slice (some ⟨g, o, none⟩) n cap) ∧ w'.cell? ⟨g, o + (q - 1) * 3, none⟩ = some (.string (bs p.key)))) (by kernel_rfl) HS (fun _ => ?_)
            refine rg_load 0 rfl (by kernel_rfl) (by kernel_rfl) (by kernel_rfl) (nodeA leaf (.slice (some ⟨g, o, none⟩) n cap)) (fun _ _ _ h => h) HS (by rfl) bn 0 rfl (fun _ h => h.1) _ Tryz.underlying108 rfl (infoNd _ _) ?_
            refine rg_load 1 rfl (by kernel_rfl) (by kernel_rfl) (by kernel_rfl) (rowA r) (fun _ _ _ h => h) HS (by rfl) b5 0 rfl (fun _ h => h.2.1) _ Tryz.underlying70 rfl (infoRw _) ?_
            simp only [Act.put, l_a, l_s, l_z]
            refine rg_one 2 rfl (by kernel_rfl) (by rfl) ?_
            refine rg_call 147 _ _ rfl _ Tryz.func147 (by kernel_rfl) (by kernel_rfl) [.agg (nodeA leaf (.slice (some ⟨g, o, none⟩) n cap)), .agg (rowA r)] rfl (HG _) ?_
            rintro e w7 ⟨rfl, hk7⟩
            rw [hgood]
            have hS7 : (fun (w' : World) => w'.rangeAt bn 0 (nodeA leaf (.slice (some ⟨g, o, none⟩) n cap)).toList ∧ w'.rangeAt b5 0 (rowA r).toList ∧ w'.cell? ⟨b5, 0, none⟩ = some (.string (bs r.key)) ∧ w'.cell? ⟨bn, 1, none⟩ = some (.slice (some ⟨g, o, none⟩) n cap) ∧ w'.cell? ⟨g, o + (q - 1) * 3, none⟩ = some (.string (bs p.key))) w7 := ⟨Keeps.rangeK hk7 hrun7, Keeps.rangeK hk7 hrun5, Keeps.cellK hk7 e0, Keeps.cellK hk7 e1, Keeps.cellK hk7 ep⟩
            refine ⟨_, rfl, hS7, ?_⟩
            simp only [Act.put, l_a, l_s, l_z]
            first | (refine rg_s 3 rfl (by kernel_rfl) (fun _ _ _ h => h) hS7 ?_ ?_; rfl) | (refine rg_t 3 (v := ?_) rfl (by kernel_rfl) (fun _ _ _ h => h) hS7 ?_ ?_ ?_; rotate_left; rfl; focus (intro w hSw; (try dsimp only at hSw); go_simp; all_goals (with_reducible rfl)))
            simp only [Act.put, l_a, l_s, l_z]
            first | (refine rg_s 4 rfl (by kernel_rfl) (fun _ _ _ h => h) hS7 ?_ ?_; rfl) | (refine rg_t 4 (v := ?_) rfl (by kernel_rfl) (fun _ _ _ h => h) hS7 ?_ ?_ ?_; rotate_left; rfl; focus (intro w hSw; (try dsimp only at hSw); go_simp; all_goals (with_reducible rfl)))
            simp only [Act.put, l_a, l_s, l_z]
            first | (refine rg_s 5 rfl (by kernel_rfl) (fun _ _ _ h => h) hS7 ?_ ?_; rfl) | (refine rg_t 5 (v := ?_) rfl (by kernel_rfl) (fun _ _ _ h => h) hS7 ?_ ?_ ?_; rotate_left; rfl; focus (intro w hSw; (try dsimp only at hSw); go_simp; all_goals (with_reducible rfl)))
            simp only [Act.put, l_a, l_s, l_z]
            first | (refine rg_s 6 rfl (by kernel_rfl) (fun _ _ _ h => h) hS7 ?_ ?_; rfl) | (refine rg_t 6 (v := ?_) rfl (by kernel_rfl) (fun _ _ _ h => h) hS7 ?_ ?_ ?_; rotate_left; rfl; focus (intro w hSw; (try dsimp only at hSw); go_simp; all_goals (with_reducible rfl)))
            simp only [Act.put, l_a, l_s, l_z]
            first | (refine rg_s 7 rfl (by kernel_rfl) (fun _ _ _ h => h) hS7 ?_ ?_; rfl) | (refine rg_t 7 (v := ?_) rfl (by kernel_rfl) (fun _ _ _ h => h) hS7 ?_ ?_ ?_; rotate_left; rfl; focus (intro w hSw; (try dsimp only at hSw); go_simp; all_goals (with_reducible rfl)))
            simp only [Act.put, l_a, l_s, l_z]
            first | (refine rg_s 8 rfl (by kernel_rfl) (fun _ _ _ h => h) hS7 ?_ ?_; rfl) | (refine rg_t 8 (v := ?_) rfl (by kernel_rfl) (fun _ _ _ h => h) hS7 ?_ ?_ ?_; rotate_left; rfl; focus (intro w hSw; (try dsimp only at hSw); go_simp; all_goals (with_reducible rfl)))
            simp only [Act.put, l_a, l_s, l_z]
            first | (refine rg_s 9 rfl (by kernel_rfl) (fun _ _ _ h => h) hS7 ?_ ?_; rfl) | (refine rg_t 9 (v := ?_) rfl (by kernel_rfl) (fun _ _ _ h => h) hS7 ?_ ?_ ?_; rotate_left; rfl; focus (intro w hSw; (try dsimp only at hSw); go_simp; all_goals (with_reducible rfl)))
            simp only [Act.put, l_a, l_s, l_z]
            first | (refine rg_s 10 rfl (by kernel_rfl) (fun _ _ _ h => h) hS7 ?_ ?_; rfl) | (refine rg_t 10 (v := ?_) rfl (by kernel_rfl) (fun _ _ _ h => h) hS7 ?_ ?_ ?_; rotate_left; rfl; focus (intro w hSw; (try dsimp only at hSw); go_simp; all_goals (with_reducible rfl)))
            simp only [Act.put, l_a, l_s, l_z]
            first | (refine rg_s 11 rfl (by kernel_rfl) (fun _ _ _ h => h) hS7 ?_ ?_; rfl) | (refine rg_t 11 (v := ?_) rfl (by kernel_rfl) (fun _ _ _ h => h) hS7 ?_ ?_ ?_; rotate_left; rfl; focus (intro w hSw; (try dsimp only at hSw); go_simp; all_goals (with_reducible rfl)))
            simp only [Act.put, l_a, l_s, l_z]
            first | (refine rg_s 12 rfl (by kernel_rfl) (fun _ _ _ h => h) hS7 ?_ ?_; rfl) | (refine rg_t 12 (v := ?_) rfl (by kernel_rfl) (fun _ _ _ h => h) hS7 ?_ ?_ ?_; rotate_left; rfl; focus (intro w hSw; (try dsimp only at hSw); go_simp; all_goals (with_reducible rfl)))
            simp only [Act.put, l_a, l_s, l_z]
            first | (refine rg_s 13 rfl (by kernel_rfl) (fun _ _ _ h => h) hS7 ?_ ?_; rfl) | (refine rg_t 13 (v := ?_) rfl (by kernel_rfl) (fun _ _ _ h => h) hS7 ?_ ?_ ?_; rotate_left; rfl; focus (intro w hSw; (try dsimp only at hSw); go_simp; all_goals (with_reducible rfl)))
            simp only [Act.put, l_a, l_s, l_z]
            first | (refine rg_s 14 rfl (by kernel_rfl) (fun _ _ _ h => h) hS7 ?_ ?_; rfl) | (refine rg_t 14 (v := ?_) rfl (by kernel_rfl) (fun _ _ _ h => h) hS7 ?_ ?_ ?_; rotate_left; rfl; focus (intro w hSw; (try dsimp only at hSw); go_simp; all_goals (with_reducible rfl)))
            simp only [Act.put, l_a, l_s, l_z]
            first | (refine rg_s 15 rfl (by kernel_rfl) (fun _ _ _ h => h) hS7 ?_ ?_; rfl) | (refine rg_t 15 (v := ?_) rfl (by kernel_rfl) (fun _ _ _ h => h) hS7 ?_ ?_ ?_; rotate_left; rfl; focus (intro w hSw; (try dsimp only at hSw); go_simp; all_goals (with_reducible rfl)))
            simp only [Act.put, l_a, l_s, l_z]
            first | (refine rg_s 16 rfl (by kernel_rfl) (fun _ _ _ h => h) hS7 ?_ ?_; rfl) | (refine rg_t 16 (v := ?_) rfl (by kernel_rfl) (fun _ _ _ h => h) hS7 ?_ ?_ ?_; rotate_left; rfl; focus (intro w hSw; (try dsimp only at hSw); go_simp; all_goals (with_reducible rfl)))
            simp only [Act.put, l_a, l_s, l_z]
            first | (refine rg_s 17 rfl (by kernel_rfl) (fun _ _ _ h => h) hS7 ?_ ?_; rfl) | (refine rg_t 17 (v := ?_) rfl (by kernel_rfl) (fun _ _ _ h => h) hS7 ?_ ?_ ?_; rotate_left; rfl; focus (intro w hSw; (try dsimp only at hSw); go_simp; all_goals (with_reducible rfl)))
            simp only [Act.put, l_a, l_s, l_z]
            first | (refine rg_s 18 rfl (by kernel_rfl) (fun _ _ _ h => h) hS7 ?_ ?_; rfl) | (refine rg_t 18 (v := ?_) rfl (by kernel_rfl) (fun _ _ _ h => h) hS7 ?_ ?_ ?_; rotate_left; rfl; focus (intro w hSw; (try dsimp only at hSw); go_simp; all_goals (with_reducible rfl)))
            simp only [Act.put, l_a, l_s, l_z]
            first | (refine rg_s 19 rfl (by kernel_rfl) (fun _ _ _ h => h) hS7 ?_ ?_; rfl) | (refine rg_t 19 (v := ?_) rfl (by kernel_rfl) (fun _ _ _ h => h) hS7 ?_ ?_ ?_; rotate_left; rfl; focus (intro w hSw; (try dsimp only at hSw); go_simp; all_goals (with_reducible rfl)))
            simp only [Act.put, l_a, l_s, l_z]
            refine wpAnyH_done (by kernel_rfl) ?_ _
            have HKK : Hid (Keeps w1 w7 (fun _ => False)) := Lib.hid (hkr.trans (HK56.drew.trans hk7))
            clear hS7 HS hrun7 hrun5 e0 e1 ep HG hrel hkr
            go_wp2_with fail
            go_roundw
            case rel => exact ⟨q + 1, HLT.out, by go_num, Lib.hid ⟨HOKN.out, HKK.out⟩⟩
            case measure => have := HLT.out; simp [intOf]; omega
          · as_aux_lemma =>
            rw [decide_eq_false hpr] at hless
            have hbad : okN ⟨leaf, l⟩ = false := okN_false (okTo_bad HR.out (fun h => hpr (h.2 p (by omega) HP.out)))
            have HS : (fun (w' : World) => w'.rangeAt bn 0 (nodeA leaf (.slice (some ⟨g, o, none⟩) n cap)).toList ∧ w'.rangeAt b5 0 (rowA r).toList ∧ w'.cell? ⟨b5, 0, none⟩ = some (.string (bs r.key)) ∧ w'.cell? ⟨bn, 1, none⟩ = some (.slice (some ⟨g, o, none⟩) n cap) ∧ w'.cell? ⟨g, o + (q - 1) * 3, none⟩ = some (.string (bs p.key))) w6.drew := ⟨hrun7, hrun5, e0, e1, ep⟩
            refine wp_region_held_drew (S := (fun (w' : World) => w'.rangeAt bn 0 (nodeA leaf (.slice (some ⟨g, o, none⟩) n cap)).toList ∧ w'.rangeAt b5 0 (rowA r).toList ∧ w'.cell? ⟨b5, 0, none⟩ = some (.string (bs r.key)) ∧ w'.cell? ⟨bn, 1, none⟩ = some (.slice (some ⟨g, o, none⟩) n cap) ∧ w'.cell? ⟨g, o + (q - 1) * 3, none⟩ = some (.string (bs p.key)))) (by kernel_rfl) HS (fun _ => ?_)
            refine rg_load 0 rfl (by kernel_rfl) (by kernel_rfl) (by kernel_rfl) (nodeA leaf (.slice (some ⟨g, o, none⟩) n cap)) (fun _ _ _ h => h) HS (by rfl) bn 0 rfl (fun _ h => h.1) _ Tryz.underlying108 rfl (infoNd _ _) ?_
            refine rg_load 1 rfl (by kernel_rfl) (by kernel_rfl) (by kernel_rfl) (rowA r) (fun _ _ _ h => h) HS (by rfl) b5 0 rfl (fun _ h => h.2.1) _ Tryz.underlying70 rfl (infoRw _) ?_
            simp only [Act.put, l_a, l_s, l_z]
            refine rg_one 2 rfl (by kernel_rfl) (by rfl) ?_
            refine rg_call 147 _ _ rfl _ Tryz.func147 (by kernel_rfl) (by kernel_rfl) [.agg (nodeA leaf (.slice (some ⟨g, o, none⟩) n cap)), .agg (rowA r)] rfl (HG _) ?_
            rintro e w7 ⟨rfl, hk7⟩
            rw [hgood]
            have hS7 : (fun (w' : World) => w'.rangeAt bn 0 (nodeA leaf (.slice (some ⟨g, o, none⟩) n cap)).toList ∧ w'.rangeAt b5 0 (rowA r).toList ∧ w'.cell? ⟨b5, 0, none⟩ = some (.string (bs r.key)) ∧ w'.cell? ⟨bn, 1, none⟩ = some (.slice (some ⟨g, o, none⟩) n cap) ∧ w'.cell? ⟨g, o + (q - 1) * 3, none⟩ = some (.string (bs p.key))) w7 := ⟨Keeps.rangeK hk7 hrun7, Keeps.rangeK hk7 hrun5, Keeps.cellK hk7 e0, Keeps.cellK hk7 e1, Keeps.cellK hk7 ep⟩
            refine ⟨_, rfl, hS7, ?_⟩
            simp only [Act.put, l_a, l_s, l_z]
            first | (refine rg_s 3 rfl (by kernel_rfl) (fun _ _ _ h => h) hS7 ?_ ?_; rfl) | (refine rg_t 3 (v := ?_) rfl (by kernel_rfl) (fun _ _ _ h => h) hS7 ?_ ?_ ?_; rotate_left; rfl; focus (intro w hSw; (try dsimp only at hSw); go_simp; all_goals (with_reducible rfl)))
            simp only [Act.put, l_a, l_s, l_z]
            first | (refine rg_s 4 rfl (by kernel_rfl) (fun _ _ _ h => h) hS7 ?_ ?_; rfl) | (refine rg_t 4 (v := ?_) rfl (by kernel_rfl) (fun _ _ _ h => h) hS7 ?_ ?_ ?_; rotate_left; rfl; focus (intro w hSw; (try dsimp only at hSw); go_simp; all_goals (with_reducible rfl)))
            simp only [Act.put, l_a, l_s, l_z]
            first | (refine rg_s 5 rfl (by kernel_rfl) (fun _ _ _ h => h) hS7 ?_ ?_; rfl) | (refine rg_t 5 (v := ?_) rfl (by kernel_rfl) (fun _ _ _ h => h) hS7 ?_ ?_ ?_; rotate_left; rfl; focus (intro w hSw; (try dsimp only at hSw); go_simp; all_goals (with_reducible rfl)))
            simp only [Act.put, l_a, l_s, l_z]
            first | (refine rg_s 6 rfl (by kernel_rfl) (fun _ _ _ h => h) hS7 ?_ ?_; rfl) | (refine rg_t 6 (v := ?_) rfl (by kernel_rfl) (fun _ _ _ h => h) hS7 ?_ ?_ ?_; rotate_left; rfl; focus (intro w hSw; (try dsimp only at hSw); go_simp; all_goals (with_reducible rfl)))
            simp only [Act.put, l_a, l_s, l_z]
            first | (refine rg_s 7 rfl (by kernel_rfl) (fun _ _ _ h => h) hS7 ?_ ?_; rfl) | (refine rg_t 7 (v := ?_) rfl (by kernel_rfl) (fun _ _ _ h => h) hS7 ?_ ?_ ?_; rotate_left; rfl; focus (intro w hSw; (try dsimp only at hSw); go_simp; all_goals (with_reducible rfl)))
            simp only [Act.put, l_a, l_s, l_z]
            first | (refine rg_s 8 rfl (by kernel_rfl) (fun _ _ _ h => h) hS7 ?_ ?_; rfl) | (refine rg_t 8 (v := ?_) rfl (by kernel_rfl) (fun _ _ _ h => h) hS7 ?_ ?_ ?_; rotate_left; rfl; focus (intro w hSw; (try dsimp only at hSw); go_simp; all_goals (with_reducible rfl)))
            simp only [Act.put, l_a, l_s, l_z]
            first | (refine rg_s 9 rfl (by kernel_rfl) (fun _ _ _ h => h) hS7 ?_ ?_; rfl) | (refine rg_t 9 (v := ?_) rfl (by kernel_rfl) (fun _ _ _ h => h) hS7 ?_ ?_ ?_; rotate_left; rfl; focus (intro w hSw; (try dsimp only at hSw); go_simp; all_goals (with_reducible rfl)))
            simp only [Act.put, l_a, l_s, l_z]
            first | (refine rg_s 10 rfl (by kernel_rfl) (fun _ _ _ h => h) hS7 ?_ ?_; rfl) | (refine rg_t 10 (v := ?_) rfl (by kernel_rfl) (fun _ _ _ h => h) hS7 ?_ ?_ ?_; rotate_left; rfl; focus (intro w hSw; (try dsimp only at hSw); go_simp; all_goals (with_reducible rfl)))
            simp only [Act.put, l_a, l_s, l_z]
            first | (refine rg_s 11 rfl (by kernel_rfl) (fun _ _ _ h => h) hS7 ?_ ?_; rfl) | (refine rg_t 11 (v := ?_) rfl (by kernel_rfl) (fun _ _ _ h => h) hS7 ?_ ?_ ?_; rotate_left; rfl; focus (intro w hSw; (try dsimp only at hSw); go_simp; all_goals (with_reducible rfl)))
            simp only [Act.put, l_a, l_s, l_z]
            first | (refine rg_s 12 rfl (by kernel_rfl) (fun _ _ _ h => h) hS7 ?_ ?_; rfl) | (refine rg_t 12 (v := ?_) rfl (by kernel_rfl) (fun _ _ _ h => h) hS7 ?_ ?_ ?_; rotate_left; rfl; focus (intro w hSw; (try dsimp only at hSw); go_simp; all_goals (with_reducible rfl)))
            simp only [Act.put, l_a, l_s, l_z]
            first | (refine rg_s 13 rfl (by kernel_rfl) (fun _ _ _ h => h) hS7 ?_ ?_; rfl) | (refine rg_t 13 (v := ?_) rfl (by kernel_rfl) (fun _ _ _ h => h) hS7 ?_ ?_ ?_; rotate_left; rfl; focus (intro w hSw; (try dsimp only at hSw); go_simp; all_goals (with_reducible rfl)))
            simp only [Act.put, l_a, l_s, l_z]
            first | (refine rg_s 14 rfl (by kernel_rfl) (fun _ _ _ h => h) hS7 ?_ ?_; rfl) | (refine rg_t 14 (v := ?_) rfl (by kernel_rfl) (fun _ _ _ h => h) hS7 ?_ ?_ ?_; rotate_left; rfl; focus (intro w hSw; (try dsimp only at hSw); go_simp; all_goals (with_reducible rfl)))
            simp only [Act.put, l_a, l_s, l_z]
            first | (refine rg_s 15 rfl (by kernel_rfl) (fun _ _ _ h => h) hS7 ?_ ?_; rfl) | (refine rg_t 15 (v := ?_) rfl (by kernel_rfl) (fun _ _ _ h => h) hS7 ?_ ?_ ?_; rotate_left; rfl; focus (intro w hSw; (try dsimp only at hSw); go_simp; all_goals (with_reducible rfl)))
            simp only [Act.put, l_a, l_s, l_z]
            first | (refine rg_s 16 rfl (by kernel_rfl) (fun _ _ _ h => h) hS7 ?_ ?_; rfl) | (refine rg_t 16 (v := ?_) rfl (by kernel_rfl) (fun _ _ _ h => h) hS7 ?_ ?_ ?_; rotate_left; rfl; focus (intro w hSw; (try dsimp only at hSw); go_simp; all_goals (with_reducible rfl)))
            simp only [Act.put, l_a, l_s, l_z]
            first | (refine rg_s 17 rfl (by kernel_rfl) (fun _ _ _ h => h) hS7 ?_ ?_; rfl) | (refine rg_t 17 (v := ?_) rfl (by kernel_rfl) (fun _ _ _ h => h) hS7 ?_ ?_ ?_; rotate_left; rfl; focus (intro w hSw; (try dsimp only at hSw); go_simp; all_goals (with_reducible rfl)))
            simp only [Act.put, l_a, l_s, l_z]
            first | (refine rg_s 18 rfl (by kernel_rfl) (fun _ _ _ h => h) hS7 ?_ ?_; rfl) | (refine rg_t 18 (v := ?_) rfl (by kernel_rfl) (fun _ _ _ h => h) hS7 ?_ ?_ ?_; rotate_left; rfl; focus (intro w hSw; (try dsimp only at hSw); go_simp; all_goals (with_reducible rfl)))
            simp only [Act.put, l_a, l_s, l_z]
            first | (refine rg_s 19 rfl (by kernel_rfl) (fun _ _ _ h => h) hS7 ?_ ?_; rfl) | (refine rg_t 19 (v := ?_) rfl (by kernel_rfl) (fun _ _ _ h => h) hS7 ?_ ?_ ?_; rotate_left; rfl; focus (intro w hSw; (try dsimp only at hSw); go_simp; all_goals (with_reducible rfl)))
            simp only [Act.put, l_a, l_s, l_z]
            refine wpAnyH_done (by kernel_rfl) ?_ _
            have HKK : Hid (Keeps w1 w7 (fun _ => False)) := Lib.hid (hkr.trans (HK56.drew.trans hk7))
            clear hS7 HS hrun7 hrun5 e0 e1 ep HG hrel hkr
            go_wp2_with fail
            go_ret
            exact ⟨by rw [hbad]; rfl, HKN.trans HKK.out⟩
      · as_aux_lemma =>
        have hgf : goodN leaf r = false := by simpa using hgood
        have hbad : okN ⟨leaf, l⟩ = false := okN_false (okTo_bad HR.out (fun h => hgood h.1))
        have HS : (fun (w' : World) => w'.rangeAt bn 0 (nodeA leaf (.slice (some ⟨g, o, none⟩) n cap)).toList ∧ w'.rangeAt b5 0 (rowA r).toList ∧ w'.cell? ⟨b5, 0, none⟩ = some (.string (bs r.key)) ∧ w'.cell? ⟨bn, 1, none⟩ = some (.slice (some ⟨g, o, none⟩) n cap)) w6.drew := ⟨hrun7, hrun5, e0, e1⟩
        refine wp_region_held_drew (S := (fun (w' : World) => w'.rangeAt bn 0 (nodeA leaf (.slice (some ⟨g, o, none⟩) n cap)).toList ∧ w'.rangeAt b5 0 (rowA r).toList ∧ w'.cell? ⟨b5, 0, none⟩ = some (.string (bs r.key)) ∧ w'.cell? ⟨bn, 1, none⟩ = some (.slice (some ⟨g, o, none⟩) n cap))) (by kernel_rfl) HS (fun _ => ?_)
        refine rg_load 0 rfl (by kernel_rfl) (by kernel_rfl) (by kernel_rfl) (nodeA leaf (.slice (some ⟨g, o, none⟩) n cap)) (fun _ _ _ h => h) HS (by rfl) bn 0 rfl (fun _ h => h.1) _ Tryz.underlying108 rfl (infoNd _ _) ?_
        refine rg_load 1 rfl (by kernel_rfl) (by kernel_rfl) (by kernel_rfl) (rowA r) (fun _ _ _ h => h) HS (by rfl) b5 0 rfl (fun _ h => h.2.1) _ Tryz.underlying70 rfl (infoRw _) ?_
        simp only [Act.put, l_a, l_s, l_z]
        refine rg_one 2 rfl (by kernel_rfl) (by rfl) ?_
        refine rg_call 147 _ _ rfl _ Tryz.func147 (by kernel_rfl) (by kernel_rfl) [.agg (nodeA leaf (.slice (some ⟨g, o, none⟩) n cap)), .agg (rowA r)] rfl (HG _) ?_
        rintro e w7 ⟨rfl, hk7⟩
        rw [hgf]
        have hS7 : (fun (w' : World) => w'.rangeAt bn 0 (nodeA leaf (.slice (some ⟨g, o, none⟩) n cap)).toList ∧ w'.rangeAt b5 0 (rowA r).toList ∧ w'.cell? ⟨b5, 0, none⟩ = some (.string (bs r.key)) ∧ w'.cell? ⟨bn, 1, none⟩ = some (.slice (some ⟨g, o, none⟩) n cap)) w7 := ⟨Keeps.rangeK hk7 hrun7, Keeps.rangeK hk7 hrun5, Keeps.cellK hk7 e0, Keeps.cellK hk7 e1⟩
        refine ⟨_, rfl, hS7, ?_⟩
        simp only [Act.put, l_a, l_s, l_z]
        first | (refine rg_s 3 rfl (by kernel_rfl) (fun _ _ _ h => h) hS7 ?_ ?_; rfl) | (refine rg_t 3 (v := ?_) rfl (by kernel_rfl) (fun _ _ _ h => h) hS7 ?_ ?_ ?_; rotate_left; rfl; focus (intro w hSw; (try dsimp only at hSw); go_simp; all_goals (with_reducible rfl)))
        simp only [Act.put, l_a, l_s, l_z]
        first | (refine rg_s 4 rfl (by kernel_rfl) (fun _ _ _ h => h) hS7 ?_ ?_; rfl) | (refine rg_t 4 (v := ?_) rfl (by kernel_rfl) (fun _ _ _ h => h) hS7 ?_ ?_ ?_; rotate_left; rfl; focus (intro w hSw; (try dsimp only at hSw); go_simp; all_goals (with_reducible rfl)))
        simp only [Act.put, l_a, l_s, l_z]
        first | (refine rg_s 5 rfl (by kernel_rfl) (fun _ _ _ h => h) hS7 ?_ ?_; rfl) | (refine rg_t 5 (v := ?_) rfl (by kernel_rfl) (fun _ _ _ h => h) hS7 ?_ ?_ ?_; rotate_left; rfl; focus (intro w hSw; (try dsimp only at hSw); go_simp; all_goals (with_reducible rfl)))
        simp only [Act.put, l_a, l_s, l_z]
        first | (refine rg_s 6 rfl (by kernel_rfl) (fun _ _ _ h => h) hS7 ?_ ?_; rfl) | (refine rg_t 6 (v := ?_) rfl (by kernel_rfl) (fun _ _ _ h => h) hS7 ?_ ?_ ?_; rotate_left; rfl; focus (intro w hSw; (try dsimp only at hSw); go_simp; all_goals (with_reducible rfl)))
        simp only [Act.put, l_a, l_s, l_z]
        first | (refine rg_s 7 rfl (by kernel_rfl) (fun _ _ _ h => h) hS7 ?_ ?_; rfl) | (refine rg_t 7 (v := ?_) rfl (by kernel_rfl) (fun _ _ _ h => h) hS7 ?_ ?_ ?_; rotate_left; rfl; focus (intro w hSw; (try dsimp only at hSw); go_simp; all_goals (with_reducible rfl)))
        simp only [Act.put, l_a, l_s, l_z]
        first | (refine rg_s 8 rfl (by kernel_rfl) (fun _ _ _ h => h) hS7 ?_ ?_; rfl) | (refine rg_t 8 (v := ?_) rfl (by kernel_rfl) (fun _ _ _ h => h) hS7 ?_ ?_ ?_; rotate_left; rfl; focus (intro w hSw; (try dsimp only at hSw); go_simp; all_goals (with_reducible rfl)))
        simp only [Act.put, l_a, l_s, l_z]
        first | (refine rg_s 9 rfl (by kernel_rfl) (fun _ _ _ h => h) hS7 ?_ ?_; rfl) | (refine rg_t 9 (v := ?_) rfl (by kernel_rfl) (fun _ _ _ h => h) hS7 ?_ ?_ ?_; rotate_left; rfl; focus (intro w hSw; (try dsimp only at hSw); go_simp; all_goals (with_reducible rfl)))
        simp only [Act.put, l_a, l_s, l_z]
        first | (refine rg_s 10 rfl (by kernel_rfl) (fun _ _ _ h => h) hS7 ?_ ?_; rfl) | (refine rg_t 10 (v := ?_) rfl (by kernel_rfl) (fun _ _ _ h => h) hS7 ?_ ?_ ?_; rotate_left; rfl; focus (intro w hSw; (try dsimp only at hSw); go_simp; all_goals (with_reducible rfl)))
        simp only [Act.put, l_a, l_s, l_z]
        first | (refine rg_s 11 rfl (by kernel_rfl) (fun _ _ _ h => h) hS7 ?_ ?_; rfl) | (refine rg_t 11 (v := ?_) rfl (by kernel_rfl) (fun _ _ _ h => h) hS7 ?_ ?_ ?_; rotate_left; rfl; focus (intro w hSw; (try dsimp only at hSw); go_simp; all_goals (with_reducible rfl)))
        simp only [Act.put, l_a, l_s, l_z]
        first | (refine rg_s 12 rfl (by kernel_rfl) (fun _ _ _ h => h) hS7 ?_ ?_; rfl) | (refine rg_t 12 (v := ?_) rfl (by kernel_rfl) (fun _ _ _ h => h) hS7 ?_ ?_ ?_; rotate_left; rfl; focus (intro w hSw; (try dsimp only at hSw); go_simp; all_goals (with_reducible rfl)))
        simp only [Act.put, l_a, l_s, l_z]
        first | (refine rg_s 13 rfl (by kernel_rfl) (fun _ _ _ h => h) hS7 ?_ ?_; rfl) | (refine rg_t 13 (v := ?_) rfl (by kernel_rfl) (fun _ _ _ h => h) hS7 ?_ ?_ ?_; rotate_left; rfl; focus (intro w hSw; (try dsimp only at hSw); go_simp; all_goals (with_reducible rfl)))
        simp only [Act.put, l_a, l_s, l_z]
        first | (refine rg_s 14 rfl (by kernel_rfl) (fun _ _ _ h => h) hS7 ?_ ?_; rfl) | (refine rg_t 14 (v := ?_) rfl (by kernel_rfl) (fun _ _ _ h => h) hS7 ?_ ?_ ?_; rotate_left; rfl; focus (intro w hSw; (try dsimp only at hSw); go_simp; all_goals (with_reducible rfl)))
        simp only [Act.put, l_a, l_s, l_z]
        first | (refine rg_s 15 rfl (by kernel_rfl) (fun _ _ _ h => h) hS7 ?_ ?_; rfl) | (refine rg_t 15 (v := ?_) rfl (by kernel_rfl) (fun _ _ _ h => h) hS7 ?_ ?_ ?_; rotate_left; rfl; focus (intro w hSw; (try dsimp only at hSw); go_simp; all_goals (with_reducible rfl)))
        simp only [Act.put, l_a, l_s, l_z]
        first | (refine rg_s 16 rfl (by kernel_rfl) (fun _ _ _ h => h) hS7 ?_ ?_; rfl) | (refine rg_t 16 (v := ?_) rfl (by kernel_rfl) (fun _ _ _ h => h) hS7 ?_ ?_ ?_; rotate_left; rfl; focus (intro w hSw; (try dsimp only at hSw); go_simp; all_goals (with_reducible rfl)))
        simp only [Act.put, l_a, l_s, l_z]
        first | (refine rg_s 17 rfl (by kernel_rfl) (fun _ _ _ h => h) hS7 ?_ ?_; rfl) | (refine rg_t 17 (v := ?_) rfl (by kernel_rfl) (fun _ _ _ h => h) hS7 ?_ ?_ ?_; rotate_left; rfl; focus (intro w hSw; (try dsimp only at hSw); go_simp; all_goals (with_reducible rfl)))
        simp only [Act.put, l_a, l_s, l_z]
        first | (refine rg_s 18 rfl (by kernel_rfl) (fun _ _ _ h => h) hS7 ?_ ?_; rfl) | (refine rg_t 18 (v := ?_) rfl (by kernel_rfl) (fun _ _ _ h => h) hS7 ?_ ?_ ?_; rotate_left; rfl; focus (intro w hSw; (try dsimp only at hSw); go_simp; all_goals (with_reducible rfl)))
        simp only [Act.put, l_a, l_s, l_z]
        first | (refine rg_s 19 rfl (by kernel_rfl) (fun _ _ _ h => h) hS7 ?_ ?_; rfl) | (refine rg_t 19 (v := ?_) rfl (by kernel_rfl) (fun _ _ _ h => h) hS7 ?_ ?_ ?_; rotate_left; rfl; focus (intro w hSw; (try dsimp only at hSw); go_simp; all_goals (with_reducible rfl)))
        simp only [Act.put, l_a, l_s, l_z]
        refine wpAnyH_done (by kernel_rfl) ?_ _
        have HKK : Hid (Keeps w1 w7 (fun _ => False)) := Lib.hid (hkr.trans (HK56.drew.trans hk7))
        clear hS7 HS hrun7 hrun5 e0 e1 HG hrel hkr
        go_wp2_with fail
        go_ret
        exact ⟨by rw [hbad]; rfl, HKN.trans HKK.out⟩
    · have hqq : q = n := by omega
      subst hqq
      have HOK := Lib.hid hrel.out.1
      have HKK := Lib.hid hkr
      have HBNr := Lib.hid (Keeps.blk hkr HBN id)
      have d0 := Keeps.cellK hkr c0
      have d1 := Keeps.cellK hkr c1
      have HSZ := fun W (h : Keeps w1 W (fun _ => False)) => size_calls W leaf (.slice ad q cap) l (HSV.out.new (HKN.trans h)) HL.out
      have HEND : Hid (okN ⟨leaf, l⟩ = ((leaf || decide (0 < q)) && decide (sizeN ⟨leaf, l⟩ ≤ 512))) := Lib.hid (by
        have h1 := hrel.out.1
        rw [HN.out] at h1
        rw [okN_end h1, HN.out]
        congr 2
        rw [Bool.eq_iff_iff, decide_eq_true_iff, decide_eq_true_iff]
        exact (List.length_pos_iff).symm)
      have hlb : decide ((q : Int) < (q : Int)) = false := by simp
      clear hrel hkr
      have HCS : Hid (decide ((sizeN ⟨leaf, l⟩ : Int) ≤ 512) = decide (sizeN ⟨leaf, l⟩ ≤ 512)) := Lib.hid (by rw [Bool.eq_iff_iff, decide_eq_true_iff, decide_eq_true_iff]; omega)
      by_cases hlf : leaf = true
      · as_aux_lemma =>
        subst hlf
        go_wp2_with (first
          | ((with_reducible refine gd_loadW 108 ?_); refine wl_load_aggW (by rfl) _ _ rfl bn 0 rfl _ _ _ HBNr.out (nodeA true (.slice ad q cap)) (extract_all _) _ Tryz.underlying108 rfl (infoNd _ _) ?_)
          | fail)
        refine (HSZ _ HKK.out).mono ?_
        rintro e w7 ⟨rfl, hk7⟩
        go_wp2
        go_ret
        refine ⟨?_, HKN.trans (HKK.out.trans hk7)⟩
        rw [HEND.out]
        show Ending.returned (.bool (decide ((sizeN ⟨true, l⟩ : Int) ≤ 512))) = _
        rw [HCS.out]
        simp
      · have hlf' : leaf = false := by simpa using hlf
        by_cases hz : 0 < q
        · as_aux_lemma =>
          subst hlf'
          have hzb : decide ((0 : Int) < (q : Int)) = true := by simp; omega
          have hzn : decide (0 < q) = true := by simp; omega
          have HZN := Lib.hid hzn
          clear hz
          go_wp2_with (first
            | ((with_reducible refine gd_loadW 108 ?_); refine wl_load_aggW (by rfl) _ _ rfl bn 0 rfl _ _ _ HBNr.out (nodeA false (.slice ad q cap)) (extract_all _) _ Tryz.underlying108 rfl (infoNd _ _) ?_)
            | fail)
          refine (HSZ _ HKK.out).mono ?_
          rintro e w7 ⟨rfl, hk7⟩
          go_wp2
          go_ret
          refine ⟨?_, HKN.trans (HKK.out.trans hk7)⟩
          rw [HEND.out]
          show Ending.returned (.bool (decide ((sizeN ⟨false, l⟩ : Int) ≤ 512))) = _
          rw [HCS.out]
          rw [HZN.out]
          simp
        · as_aux_lemma =>
          subst hlf'
          have hzb : decide ((0 : Int) < (q : Int)) = false := by simp; omega
          have hzn : decide (0 < q) = false := by simp; omega
          have HZN := Lib.hid hzn
          clear hz
          go_wp2
          go_ret
          refine ⟨?_, HKN.trans HKK.out⟩
          rw [HEND.out, HZN.out]
          simp
end Go.Proofs.YtblpkifkaoaicaaGreat
