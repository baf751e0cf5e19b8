import Derived.Test.YtblpkifkaoaicaaGreatYK6
import Derived.Test.YtblpkifkaoaicaaGreatQG
/-! Package node: Append. -/
namespace Go.Proofs.YtblpkifkaoaicaaGreat
open Go Go.RowKit Go.Maps Wb

def headN (n : Ndv) : List UInt8 := be 1 (kindN n.leaf) ++ be 2 n.rows.length
def bytesTo (n : Ndv) (q : Nat) : List UInt8 := headN n ++ (n.rows.take q).flatMap (rowB n.leaf)
theorem bytesTo_zero (n : Ndv) : bytesTo n 0 = headN n := by simp [bytesTo]
theorem bytesTo_all (n : Ndv) : bytesTo n n.rows.length = bytesN n := by simp [bytesTo, headN, bytesN]
theorem bytesTo_succ {n : Ndv} {q : Nat} {r : Rw} (h : n.rows[q]? = some r) : bytesTo n (q + 1) = bytesTo n q ++ rowB n.leaf r := by
  unfold bytesTo
  rw [List.take_add_one, h]
  simp [List.flatMap_append]
theorem bytesTo_len {n : Ndv} (h : sizeN n ≤ 512) (q : Nat) : (bytesTo n q).length ≤ 512 := by
  have h1 : (bytesN n).length ≤ 512 := by rw [bytesN_len]; exact h
  have h3 : n.rows.flatMap (rowB n.leaf) = (n.rows.take q).flatMap (rowB n.leaf) ++ (n.rows.drop q).flatMap (rowB n.leaf) := by rw [← List.flatMap_append, List.take_append_drop]
  have h2 : bytesN n = bytesTo n q ++ (n.rows.drop q).flatMap (rowB n.leaf) := by
    unfold bytesN bytesTo headN
    rw [h3]
    simp only [List.append_assoc]
  rw [h2, List.length_append] at h1
  omega
theorem ok_rows {n : Ndv} (h : sizeN n ≤ 512) : n.rows.length ≤ 512 := by
  have h1 : ∀ l : List Rw, l.length ≤ (l.map (rowSz n.leaf)).sum := by
    intro l
    induction l with
    | nil => simp
    | cons r t ih =>
      have : 1 ≤ rowSz n.leaf r := by unfold rowSz; split <;> omega
      simp only [List.length_cons, List.map_cons, List.sum_cons]
      omega
  have := h1 n.rows
  unfold sizeN at h
  omega
open Classical in
theorem okN_true {n : Ndv} (h : okN n = true) : OkN n := by
  unfold okN at h
  exact of_decide_eq_true h
def AppPost (w : World) (n : Ndv) (e : Ending) (w' : World) : Prop := ∃ v, e = .returned (.tuple #[v, .bool (okN n)]) ∧ isOwn w' w.heap.size 5 v (octs (if okN n = true then bytesN n else [])) ∧ Keeps w w' (fun _ => False)
def ApRel (w : World) (n : Ndv) (q : Nat) (v : Value) (wr : World) : Prop := isOwn wr w.heap.size 5 v (octs (bytesTo n q)) ∧ Keeps w wr (fun _ => False)
set_option maxRecDepth 100000 in
set_option maxHeartbeats 2000000 in
theorem appendL_calls (w : World) (sv : Value) (l : List Rw) (hs : isRdA w 3 sv (rowsA l)) (hl : Shorts l) :
    Calls Tryz.prog 102 #[.agg (nodeA true sv)] w (AppPost w ⟨true, l⟩) := by
  have HSV := Lib.hid hs
  obtain ⟨ad, cap, rfl, hcap, hrd⟩ := hs
  rw [rowsA_len] at hcap
  have hsvl : (.slice ad (rowsA l).length cap : Value) = .slice ad l.length cap := by rw [rowsA_len]
  rw [hsvl] at HSV ⊢
  have HRD := Lib.hid hrd
  have HL := Lib.hid hl
  obtain ⟨n, hn⟩ : ∃ n, n = l.length := ⟨_, rfl⟩
  have HN := Lib.hid hn
  have hli : (l.length : Int) ≤ 1000000 := by have := hl.1; omega
  rw [← hn] at hli hcap HSV ⊢
  have HOKC := fun W (h : Keeps w W (fun _ => False)) => ok_calls W true (.slice ad n cap) l (HSV.out.new h) HL.out
  clear hrd hl hn hsvl
  go_enter Tryz.func102, Tryz.ntmps102
  go_wp2_with (first
    | ((with_reducible refine gd_box 108 ?_); refine wl_box_agg rfl _ _ rfl (nodeA true (.slice ad n cap)) rfl ?_; intro bn w1 hbn HBN HKN; have c0 : w1.cell? ⟨bn, 0, none⟩ = some (.bool true) := (by rw [cell_of_block HBN]; rfl); have c1 : w1.cell? ⟨bn, 1, none⟩ = some (.slice ad n cap) := (by rw [cell_of_block HBN]; rfl))
    | ((with_reducible refine gd_load 108 ?_); refine wl_load_agg rfl _ _ rfl bn 0 rfl _ _ _ HBN (nodeA true (.slice ad n cap)) (extract_all _) _ Tryz.underlying108 rfl (infoNd _ _) ?_)
    | fail)
  refine (HOKC _ HKN).mono ?_
  rintro e w2 ⟨rfl, hk2⟩
  have d0 := Keeps.cellK hk2 c0
  have d1 := Keeps.cellK hk2 c1
  have HBN2 := Lib.hid (Keeps.blk hk2 HBN id)
  have HK2 := Lib.hid (HKN.trans hk2)
  clear HOKC HBN HKN hk2 c0 c1
  by_cases hok : okN ⟨true, l⟩ = true
  · as_aux_lemma =>
    rw [hok]
    have hOK := okN_true hok
    have HOK := Lib.hid hOK
    have HOKT := Lib.hid hok
    have hn9 : n ≤ 512 := by rw [HN.out]; exact ok_rows hOK.2.2
    have hni : (n : Int) ≤ 512 := by omega
    have hn0 : (0 : Int) ≤ n := by omega
    have hwn : IntKind.u64.wrap (n : Int) = n := by rw [wrap_u64]; omega
    have HI1 : Hid (∀ W, Calls Tryz.prog 119 #[.slice none 0 0, .int .i64 1, .int .u64 1] W (OctsPost W (be 1 1))) := Lib.hid (fun W => (int_calls W _ [] 1 1 (isOwn_nil W 0 5).rd (by intro cap h; cases h; rfl) (by decide) (by decide) (by decide) (by simp)).mono (fun e w' h => h))
    have HI2 : Hid (∀ W v lo, isOwn W lo 5 v (octs (be 1 1)) → Calls Tryz.prog 119 #[v, .int .i64 2, .int .u64 n] W (OctsPost W (headN ⟨true, l⟩))) := Lib.hid (fun W v lo h => by
      have h9 := int_calls W v (be 1 1) 2 n h.rd h.nilcap (by decide) (by decide) (by omega) (by rw [be_len]; decide)
      have e9 : headN ⟨true, l⟩ = be 1 1 ++ be 2 n := by rw [HN.out]; rfl
      rw [e9]
      exact h9)
    clear hok hOK
    go_wp2_with fail
    have HS : (fun (w' : World) => w'.cell? ⟨bn, 1, none⟩ = some (.slice ad n cap)) w2.drew := d1
    refine wp_region_held_drew (S := (fun (w' : World) => w'.cell? ⟨bn, 1, none⟩ = some (.slice ad n cap))) (by kernel_rfl) HS (fun _ => ?_)
    first | (refine rg_s 0 rfl (by kernel_rfl) (fun _ _ _ h => h) HS ?_ ?_; rfl) | (refine rg_t 0 (v := ?_) rfl (by kernel_rfl) (fun _ _ _ h => h) HS ?_ ?_ ?_; rotate_left; rfl; focus (intro w hSw; (try dsimp only at hSw); go_simp; all_goals (with_reducible rfl)))
    simp only [Act.put, l_a, l_s, l_z]
    first | (refine rg_s 2 rfl (by kernel_rfl) (fun _ _ _ h => h) HS ?_ ?_; rfl) | (refine rg_t 2 (v := ?_) rfl (by kernel_rfl) (fun _ _ _ h => h) HS ?_ ?_ ?_; rotate_left; rfl; focus (intro w hSw; (try dsimp only at hSw); go_simp; all_goals (with_reducible rfl)))
    simp only [Act.put, l_a, l_s, l_z]
    first | (refine rg_s 3 rfl (by kernel_rfl) (fun _ _ _ h => h) HS ?_ ?_; rfl) | (refine rg_t 3 (v := ?_) rfl (by kernel_rfl) (fun _ _ _ h => h) HS ?_ ?_ ?_; rotate_left; rfl; focus (intro w hSw; (try dsimp only at hSw); go_simp; all_goals (with_reducible rfl)))
    simp only [Act.put, l_a, l_s, l_z]
    first | (refine rg_s 4 rfl (by kernel_rfl) (fun _ _ _ h => h) HS ?_ ?_; rfl) | (refine rg_t 4 (v := ?_) rfl (by kernel_rfl) (fun _ _ _ h => h) HS ?_ ?_ ?_; rotate_left; rfl; focus (intro w hSw; (try dsimp only at hSw); go_simp; all_goals (with_reducible rfl)))
    simp only [Act.put, l_a, l_s, l_z]
    first | (refine rg_s 5 rfl (by kernel_rfl) (fun _ _ _ h => h) HS ?_ ?_; rfl) | (refine rg_t 5 (v := ?_) rfl (by kernel_rfl) (fun _ _ _ h => h) HS ?_ ?_ ?_; rotate_left; rfl; focus (intro w hSw; (try dsimp only at hSw); go_simp; all_goals (with_reducible rfl)))
    simp only [Act.put, l_a, l_s, l_z]
    refine rg_one 1 rfl (by kernel_rfl) (by rfl) ?_
    refine rg_call 119 _ _ rfl _ Tryz.func119 (by kernel_rfl) (by kernel_rfl) [.slice none 0 0, .int .i64 1, .int .u64 1] rfl (HI1.out _) ?_
    rintro e w3 ⟨v3, rfl, ho3, hk3⟩
    refine ⟨_, rfl, Keeps.cellK hk3 d1, ?_⟩
    simp only [Act.put, l_a, l_s, l_z]
    refine rg_one 6 rfl (by kernel_rfl) (by rfl) ?_
    refine rg_call 119 _ _ rfl _ Tryz.func119 (by kernel_rfl) (by kernel_rfl) [v3, .int .i64 2, .int .u64 n] rfl (HI2.out _ _ _ ho3) ?_
    rintro e w4 ⟨v4, rfl, ho4, hk4⟩
    have hS4 : (fun (w' : World) => w'.cell? ⟨bn, 1, none⟩ = some (.slice ad n cap)) w4 := Keeps.cellK hk4 (Keeps.cellK hk3 d1)
    refine ⟨_, rfl, hS4, ?_⟩
    simp only [Act.put, l_a, l_s, l_z]
    first | (refine rg_s 7 rfl (by kernel_rfl) (fun _ _ _ h => h) hS4 ?_ ?_; rfl) | (refine rg_t 7 (v := ?_) rfl (by kernel_rfl) (fun _ _ _ h => h) hS4 ?_ ?_ ?_; rotate_left; rfl; focus (intro w hSw; (try dsimp only at hSw); go_simp; all_goals (with_reducible rfl)))
    simp only [Act.put, l_a, l_s, l_z]
    refine wpAnyH_done (by kernel_rfl) ?_ _
    obtain ⟨a4, n4, c4, rfl⟩ := isOwn.shape ho4
    obtain ⟨a3, n3, c3, rfl⟩ := isOwn.shape ho3
    have hk24 : Keeps w2 w4 (fun _ => False) := Keeps.trans (a := w2) (b := w2.drew) ((Keeps.refl _ _).drew) (hk3.trans hk4)
    have x1 : w4.cell? ⟨bn, 1, none⟩ = some (.slice ad n cap) := hS4
    have HBN4 := Lib.hid (Keeps.blk hk24 HBN2.out id)
    have HK4 := Lib.hid (HK2.out.trans hk24)
    have HREL0 : Hid (ApRel w ⟨true, l⟩ 0 (.slice a4 n4 c4) w4) := Lib.hid ⟨by rw [bytesTo_zero]; exact ho4.low (HK2.out.trans (((Keeps.refl w2 (fun _ => False)).drew).trans hk3)).size, HK4.out⟩
    clear HS hS4 ho3 ho4 hk3 hk4 hk24 d0 d1 HK2 HBN2 HI1 HI2
    go_wp2_with fail
    go_loopw [5, 23] (fun v5 i wr => ∃ q : Nat, q ≤ n ∧ i = .int .i64 q ∧ (∃ a b c, v5 = .slice a b c) ∧ Hid (Keeps w4 wr (fun _ => False) ∧ ApRel w ⟨true, l⟩ q v5 wr)) (fun _ i _ => n - (intOf i).toNat)
    case atStart => exact ⟨0, Nat.zero_le _, rfl, ⟨_, _, _, rfl⟩, Lib.hid ⟨Keeps.refl _ _, HREL0.out⟩⟩
    case round =>
      clear HREL0
      obtain ⟨q, hq, rfl, ⟨va, vb, vc, rfl⟩, hrel⟩ := hrel
      have hq0 : (0 : Int) ≤ q := by omega
      have hqi : (q : Int) ≤ 1000000 := by omega
      by_cases hlt : q < n
      · as_aux_lemma =>
        have hlb : decide ((q : Int) < (n : Int)) = true := by simp; omega
        have hqn : (q : Int) < n := by omega
        obtain ⟨r, hr⟩ : ∃ r, l[q]? = some r := ⟨_, List.getElem?_eq_getElem (by have := HN.out; omega)⟩
        obtain ⟨g, o, rfl, _, hrg⟩ := HRD.out q _ (rowsA_at hr)
        have HR := Lib.hid hr
        have HKR := Lib.hid hrel.out.1
        have HBR := Lib.hid (Keeps.blk hrel.out.1 HBN4.out id)
        have HO5 := Lib.hid hrel.out.2.1
        have HRG := Lib.hid (Keeps.rangeK (HK4.out.trans hrel.out.1) hrg)
        have HLT := Lib.hid (Nat.succ_le_of_lt hlt)
        have HGD : Hid (goodN true r = true) := Lib.hid (HOK.out.1 q r (List.getElem?_eq_some_iff.1 hr).1 hr).1
        have hbl := bytesTo_len HOK.out.2.2 q
        have HSUCC : Hid (bytesTo ⟨true, l⟩ (q + 1) = bytesTo ⟨true, l⟩ q ++ rowB true r) := Lib.hid (bytesTo_succ hr)
        clear hr hlt hrg hrel
        have hkl : r.key.length ≤ 255 := by have := goodN_key HGD.out; omega
        go_wp2_with (first
          | ((with_reducible refine gd_load 70 ?_); refine wl_load_rd rfl _ _ rfl g (o + q * 3) rfl (rowA r) HRG.out _ Tryz.underlying70 rfl (infoRw _) ?_)
          | ((with_reducible refine gd_alloc 70 ?_); refine wl_alloc_agg rfl _ rfl _ zeroRw ?_; intro b5 w5 hb5 HB5 HK5)
          | ((with_reducible refine gd_store 70 ?_); refine wl_store_agg rfl _ _ _ rfl b5 _ rfl _ _ HB5 (rowA r) rfl (rowA r) (store_rw _ _) (le_rw _ _) (infoRw _) (rowA_one _) ?_; intro w6 HB6 HK6; have HK56 := keeps_new HK5 HK6 hb5; have HBN6 := Keeps.blk HK56 HBR.out id; have e0 : w6.cell? ⟨b5, 0, none⟩ = some (.string (bs r.key)) := (by rw [cell_of_block HB6]; rfl))
          | fail)
        have HO6 := HO5.out.new HK56
        refine (short_calls _ _ _ r.key HO6.rd HO6.nilcap (by omega) hkl).mono ?_
        rintro e w7 ⟨v7, rfl, ho7, hk7⟩
        obtain ⟨a7, n7, c7, rfl⟩ := isOwn.shape ho7
        have f0 : w7.cell? ⟨bn, 0, none⟩ = some (.bool true) := by rw [cell_of_block (Keeps.blk hk7 HBN6 id)]; rfl
        have hk67 := HK56.trans hk7
        have hl7 : (bytesTo ⟨true, l⟩ q ++ (be 1 r.key.length ++ r.key)).length ≤ 1000000 := by rw [List.length_append, List.length_append, be_len]; omega
        have hvl : r.val.length ≤ 255 := by have := goodN_leaf HGD.out; omega
        have e1 : w7.cell? ⟨b5, 1, none⟩ = some (.string (bs r.val)) := by rw [cell_of_block (Keeps.blk hk7 HB6 id)]; rfl
        clear e0 HO6
        go_wp2_with fail
        refine (short_calls _ _ _ r.val ho7.rd ho7.nilcap hl7 hvl).mono ?_
        rintro e w8 ⟨v8, rfl, ho8, hk8⟩
        obtain ⟨a8, n8, c8, rfl⟩ := isOwn.shape ho8
        have HREL : Hid (Keeps w4 w8 (fun _ => False) ∧ ApRel w ⟨true, l⟩ (q + 1) (.slice a8 n8 c8) w8) := Lib.hid ⟨HKR.out.trans (hk67.trans hk8), by
          refine ⟨?_, HK4.out.trans (HKR.out.trans (hk67.trans hk8))⟩
          rw [HSUCC.out, rowB, if_pos rfl, ← List.append_assoc]
          exact ho8.low (HK4.out.trans (HKR.out.trans hk67)).size⟩
        clear ho7 ho8 hk7 hk8 hk67 HO5 HKR
        go_wp2_with fail
        go_roundw
        case rel => exact ⟨q + 1, HLT.out, by go_num, ⟨_, _, _, rfl⟩, HREL⟩
        case measure => have := HLT.out; simp [intOf]; omega
      · as_aux_lemma =>
        have hqq : q = n := by omega
        subst hqq
        have hlb : decide ((q : Int) < (q : Int)) = false := by simp
        have HO := Lib.hid hrel.out.2
        clear hrel
        go_wp2_with fail
        go_ret2
        refine ⟨_, by rw [HOKT.out]; rfl, ?_, HO.out.2⟩
        have h9 := HO.out.1
        rw [HN.out, show l.length = (⟨true, l⟩ : Ndv).rows.length from rfl, bytesTo_all] at h9
        rw [if_pos HOKT.out]
        exact h9
  · as_aux_lemma =>
    have hok' : okN ⟨true, l⟩ = false := by simpa using hok
    rw [hok']
    have HOKT := Lib.hid hok'
    clear hok hok'
    go_wp2_with fail
    go_ret2
    refine ⟨_, by rw [HOKT.out]; rfl, ?_, HK2.out⟩
    rw [if_neg (by rw [HOKT.out]; simp)]
    exact isOwn_nil _ _ _
set_option maxRecDepth 100000 in
set_option maxHeartbeats 2000000 in
theorem appendI_calls (w : World) (sv : Value) (l : List Rw) (hs : isRdA w 3 sv (rowsA l)) (hl : Shorts l) :
    Calls Tryz.prog 102 #[.agg (nodeA false sv)] w (AppPost w ⟨false, l⟩) := by
  have HSV := Lib.hid hs
  obtain ⟨ad, cap, rfl, hcap, hrd⟩ := hs
  rw [rowsA_len] at hcap
  have hsvl : (.slice ad (rowsA l).length cap : Value) = .slice ad l.length cap := by rw [rowsA_len]
  rw [hsvl] at HSV ⊢
  have HRD := Lib.hid hrd
  have HL := Lib.hid hl
  obtain ⟨n, hn⟩ : ∃ n, n = l.length := ⟨_, rfl⟩
  have HN := Lib.hid hn
  have hli : (l.length : Int) ≤ 1000000 := by have := hl.1; omega
  rw [← hn] at hli hcap HSV ⊢
  have HOKC := fun W (h : Keeps w W (fun _ => False)) => ok_calls W false (.slice ad n cap) l (HSV.out.new h) HL.out
  clear hrd hl hn hsvl
  go_enter Tryz.func102, Tryz.ntmps102
  go_wp2_with (first
    | ((with_reducible refine gd_box 108 ?_); refine wl_box_agg rfl _ _ rfl (nodeA false (.slice ad n cap)) rfl ?_; intro bn w1 hbn HBN HKN; have c0 : w1.cell? ⟨bn, 0, none⟩ = some (.bool false) := (by rw [cell_of_block HBN]; rfl); have c1 : w1.cell? ⟨bn, 1, none⟩ = some (.slice ad n cap) := (by rw [cell_of_block HBN]; rfl))
    | ((with_reducible refine gd_load 108 ?_); refine wl_load_agg rfl _ _ rfl bn 0 rfl _ _ _ HBN (nodeA false (.slice ad n cap)) (extract_all _) _ Tryz.underlying108 rfl (infoNd _ _) ?_)
    | fail)
  refine (HOKC _ HKN).mono ?_
  rintro e w2 ⟨rfl, hk2⟩
  have d0 := Keeps.cellK hk2 c0
  have d1 := Keeps.cellK hk2 c1
  have HBN2 := Lib.hid (Keeps.blk hk2 HBN id)
  have HK2 := Lib.hid (HKN.trans hk2)
  clear HOKC HBN HKN hk2 c0 c1
  by_cases hok : okN ⟨false, l⟩ = true
  · as_aux_lemma =>
    rw [hok]
    have hOK := okN_true hok
    have HOK := Lib.hid hOK
    have HOKT := Lib.hid hok
    have hn9 : n ≤ 512 := by rw [HN.out]; exact ok_rows hOK.2.2
    have hni : (n : Int) ≤ 512 := by omega
    have hn0 : (0 : Int) ≤ n := by omega
    have hwn : IntKind.u64.wrap (n : Int) = n := by rw [wrap_u64]; omega
    have HI1 : Hid (∀ W, Calls Tryz.prog 119 #[.slice none 0 0, .int .i64 1, .int .u64 2] W (OctsPost W (be 1 2))) := Lib.hid (fun W => (int_calls W _ [] 1 2 (isOwn_nil W 0 5).rd (by intro cap h; cases h; rfl) (by decide) (by decide) (by decide) (by simp)).mono (fun e w' h => h))
    have HI2 : Hid (∀ W v lo, isOwn W lo 5 v (octs (be 1 2)) → Calls Tryz.prog 119 #[v, .int .i64 2, .int .u64 n] W (OctsPost W (headN ⟨false, l⟩))) := Lib.hid (fun W v lo h => by
      have h9 := int_calls W v (be 1 2) 2 n h.rd h.nilcap (by decide) (by decide) (by omega) (by rw [be_len]; decide)
      have e9 : headN ⟨false, l⟩ = be 1 2 ++ be 2 n := by rw [HN.out]; rfl
      rw [e9]
      exact h9)
    clear hok hOK
    go_wp2_with fail
    have HS : (fun (w' : World) => w'.cell? ⟨bn, 1, none⟩ = some (.slice ad n cap)) w2.drew := d1
    refine wp_region_held_drew (S := (fun (w' : World) => w'.cell? ⟨bn, 1, none⟩ = some (.slice ad n cap))) (by kernel_rfl) HS (fun _ => ?_)
    first | (refine rg_s 0 rfl (by kernel_rfl) (fun _ _ _ h => h) HS ?_ ?_; rfl) | (refine rg_t 0 (v := ?_) rfl (by kernel_rfl) (fun _ _ _ h => h) HS ?_ ?_ ?_; rotate_left; rfl; focus (intro w hSw; (try dsimp only at hSw); go_simp; all_goals (with_reducible rfl)))
    simp only [Act.put, l_a, l_s, l_z]
    first | (refine rg_s 2 rfl (by kernel_rfl) (fun _ _ _ h => h) HS ?_ ?_; rfl) | (refine rg_t 2 (v := ?_) rfl (by kernel_rfl) (fun _ _ _ h => h) HS ?_ ?_ ?_; rotate_left; rfl; focus (intro w hSw; (try dsimp only at hSw); go_simp; all_goals (with_reducible rfl)))
    simp only [Act.put, l_a, l_s, l_z]
    first | (refine rg_s 3 rfl (by kernel_rfl) (fun _ _ _ h => h) HS ?_ ?_; rfl) | (refine rg_t 3 (v := ?_) rfl (by kernel_rfl) (fun _ _ _ h => h) HS ?_ ?_ ?_; rotate_left; rfl; focus (intro w hSw; (try dsimp only at hSw); go_simp; all_goals (with_reducible rfl)))
    simp only [Act.put, l_a, l_s, l_z]
    first | (refine rg_s 4 rfl (by kernel_rfl) (fun _ _ _ h => h) HS ?_ ?_; rfl) | (refine rg_t 4 (v := ?_) rfl (by kernel_rfl) (fun _ _ _ h => h) HS ?_ ?_ ?_; rotate_left; rfl; focus (intro w hSw; (try dsimp only at hSw); go_simp; all_goals (with_reducible rfl)))
    simp only [Act.put, l_a, l_s, l_z]
    first | (refine rg_s 5 rfl (by kernel_rfl) (fun _ _ _ h => h) HS ?_ ?_; rfl) | (refine rg_t 5 (v := ?_) rfl (by kernel_rfl) (fun _ _ _ h => h) HS ?_ ?_ ?_; rotate_left; rfl; focus (intro w hSw; (try dsimp only at hSw); go_simp; all_goals (with_reducible rfl)))
    simp only [Act.put, l_a, l_s, l_z]
    refine rg_one 1 rfl (by kernel_rfl) (by rfl) ?_
    refine rg_call 119 _ _ rfl _ Tryz.func119 (by kernel_rfl) (by kernel_rfl) [.slice none 0 0, .int .i64 1, .int .u64 2] rfl (HI1.out _) ?_
    rintro e w3 ⟨v3, rfl, ho3, hk3⟩
    refine ⟨_, rfl, Keeps.cellK hk3 d1, ?_⟩
    simp only [Act.put, l_a, l_s, l_z]
    refine rg_one 6 rfl (by kernel_rfl) (by rfl) ?_
    refine rg_call 119 _ _ rfl _ Tryz.func119 (by kernel_rfl) (by kernel_rfl) [v3, .int .i64 2, .int .u64 n] rfl (HI2.out _ _ _ ho3) ?_
    rintro e w4 ⟨v4, rfl, ho4, hk4⟩
    have hS4 : (fun (w' : World) => w'.cell? ⟨bn, 1, none⟩ = some (.slice ad n cap)) w4 := Keeps.cellK hk4 (Keeps.cellK hk3 d1)
    refine ⟨_, rfl, hS4, ?_⟩
    simp only [Act.put, l_a, l_s, l_z]
    first | (refine rg_s 7 rfl (by kernel_rfl) (fun _ _ _ h => h) hS4 ?_ ?_; rfl) | (refine rg_t 7 (v := ?_) rfl (by kernel_rfl) (fun _ _ _ h => h) hS4 ?_ ?_ ?_; rotate_left; rfl; focus (intro w hSw; (try dsimp only at hSw); go_simp; all_goals (with_reducible rfl)))
    simp only [Act.put, l_a, l_s, l_z]
    refine wpAnyH_done (by kernel_rfl) ?_ _
    obtain ⟨a4, n4, c4, rfl⟩ := isOwn.shape ho4
    obtain ⟨a3, n3, c3, rfl⟩ := isOwn.shape ho3
    have hk24 : Keeps w2 w4 (fun _ => False) := Keeps.trans (a := w2) (b := w2.drew) ((Keeps.refl _ _).drew) (hk3.trans hk4)
    have x1 : w4.cell? ⟨bn, 1, none⟩ = some (.slice ad n cap) := hS4
    have HBN4 := Lib.hid (Keeps.blk hk24 HBN2.out id)
    have HK4 := Lib.hid (HK2.out.trans hk24)
    have HREL0 : Hid (ApRel w ⟨false, l⟩ 0 (.slice a4 n4 c4) w4) := Lib.hid ⟨by rw [bytesTo_zero]; exact ho4.low (HK2.out.trans (((Keeps.refl w2 (fun _ => False)).drew).trans hk3)).size, HK4.out⟩
    clear HS hS4 ho3 ho4 hk3 hk4 hk24 d0 d1 HK2 HBN2 HI1 HI2
    go_wp2_with fail
    go_loopw [5, 23] (fun v5 i wr => ∃ q : Nat, q ≤ n ∧ i = .int .i64 q ∧ (∃ a b c, v5 = .slice a b c) ∧ Hid (Keeps w4 wr (fun _ => False) ∧ ApRel w ⟨false, l⟩ q v5 wr)) (fun _ i _ => n - (intOf i).toNat)
    case atStart => exact ⟨0, Nat.zero_le _, rfl, ⟨_, _, _, rfl⟩, Lib.hid ⟨Keeps.refl _ _, HREL0.out⟩⟩
    case round =>
      clear HREL0
      obtain ⟨q, hq, rfl, ⟨va, vb, vc, rfl⟩, hrel⟩ := hrel
      have hq0 : (0 : Int) ≤ q := by omega
      have hqi : (q : Int) ≤ 1000000 := by omega
      by_cases hlt : q < n
      · as_aux_lemma =>
        have hlb : decide ((q : Int) < (n : Int)) = true := by simp; omega
        have hqn : (q : Int) < n := by omega
        obtain ⟨r, hr⟩ : ∃ r, l[q]? = some r := ⟨_, List.getElem?_eq_getElem (by have := HN.out; omega)⟩
        obtain ⟨g, o, rfl, _, hrg⟩ := HRD.out q _ (rowsA_at hr)
        have HR := Lib.hid hr
        have HKR := Lib.hid hrel.out.1
        have HBR := Lib.hid (Keeps.blk hrel.out.1 HBN4.out id)
        have HO5 := Lib.hid hrel.out.2.1
        have HRG := Lib.hid (Keeps.rangeK (HK4.out.trans hrel.out.1) hrg)
        have HLT := Lib.hid (Nat.succ_le_of_lt hlt)
        have HGD : Hid (goodN false r = true) := Lib.hid (HOK.out.1 q r (List.getElem?_eq_some_iff.1 hr).1 hr).1
        have hbl := bytesTo_len HOK.out.2.2 q
        have HSUCC : Hid (bytesTo ⟨false, l⟩ (q + 1) = bytesTo ⟨false, l⟩ q ++ rowB false r) := Lib.hid (bytesTo_succ hr)
        clear hr hlt hrg hrel
        have hkl : r.key.length ≤ 255 := by have := goodN_key HGD.out; omega
        go_wp2_with (first
          | ((with_reducible refine gd_load 70 ?_); refine wl_load_rd rfl _ _ rfl g (o + q * 3) rfl (rowA r) HRG.out _ Tryz.underlying70 rfl (infoRw _) ?_)
          | ((with_reducible refine gd_alloc 70 ?_); refine wl_alloc_agg rfl _ rfl _ zeroRw ?_; intro b5 w5 hb5 HB5 HK5)
          | ((with_reducible refine gd_store 70 ?_); refine wl_store_agg rfl _ _ _ rfl b5 _ rfl _ _ HB5 (rowA r) rfl (rowA r) (store_rw _ _) (le_rw _ _) (infoRw _) (rowA_one _) ?_; intro w6 HB6 HK6; have HK56 := keeps_new HK5 HK6 hb5; have HBN6 := Keeps.blk HK56 HBR.out id; have e0 : w6.cell? ⟨b5, 0, none⟩ = some (.string (bs r.key)) := (by rw [cell_of_block HB6]; rfl))
          | fail)
        have HO6 := HO5.out.new HK56
        refine (short_calls _ _ _ r.key HO6.rd HO6.nilcap (by omega) hkl).mono ?_
        rintro e w7 ⟨v7, rfl, ho7, hk7⟩
        obtain ⟨a7, n7, c7, rfl⟩ := isOwn.shape ho7
        have f0 : w7.cell? ⟨bn, 0, none⟩ = some (.bool false) := by rw [cell_of_block (Keeps.blk hk7 HBN6 id)]; rfl
        have hk67 := HK56.trans hk7
        have hl7 : (bytesTo ⟨false, l⟩ q ++ (be 1 r.key.length ++ r.key)).length ≤ 1000000 := by rw [List.length_append, List.length_append, be_len]; omega
        obtain ⟨pg, hpg⟩ : ∃ pg : Nat, r.page = pg := ⟨r.page.toNat, by have := goodN_inner HGD.out; omega⟩
        have hpg9 : (pg : Int) ≤ 4294967295 := by have := goodN_inner HGD.out; omega
        have hpg0 : (0 : Int) ≤ pg := by omega
        have hwpg : IntKind.u64.wrap (pg : Int) = pg := by rw [wrap_u64]; omega
        have HPG : Hid (r.page.toNat = pg) := Lib.hid (by omega)
        have e2 : w7.cell? ⟨b5, 2, none⟩ = some (.int .i64 pg) := by rw [cell_of_block (Keeps.blk hk7 HB6 id), ← hpg]; rfl
        clear e0 HO6
        go_wp2_with fail
        refine (int_calls _ _ _ 4 pg ho7.rd ho7.nilcap (by decide) (by decide) (by omega) hl7).mono ?_
        rintro e w8 ⟨v8, rfl, ho8, hk8⟩
        obtain ⟨a8, n8, c8, rfl⟩ := isOwn.shape ho8
        have HREL : Hid (Keeps w4 w8 (fun _ => False) ∧ ApRel w ⟨false, l⟩ (q + 1) (.slice a8 n8 c8) w8) := Lib.hid ⟨HKR.out.trans (hk67.trans hk8), by
          refine ⟨?_, HK4.out.trans (HKR.out.trans (hk67.trans hk8))⟩
          rw [HSUCC.out, rowB, if_neg (by simp), HPG.out, ← List.append_assoc]
          exact ho8.low (HK4.out.trans (HKR.out.trans hk67)).size⟩
        clear ho7 ho8 hk7 hk8 hk67 HO5 HKR
        go_wp2_with fail
        go_roundw
        case rel => exact ⟨q + 1, HLT.out, by go_num, ⟨_, _, _, rfl⟩, HREL⟩
        case measure => have := HLT.out; simp [intOf]; omega
      · as_aux_lemma =>
        have hqq : q = n := by omega
        subst hqq
        have hlb : decide ((q : Int) < (q : Int)) = false := by simp
        have HO := Lib.hid hrel.out.2
        clear hrel
        go_wp2_with fail
        go_ret2
        refine ⟨_, by rw [HOKT.out]; rfl, ?_, HO.out.2⟩
        have h9 := HO.out.1
        rw [HN.out, show l.length = (⟨false, l⟩ : Ndv).rows.length from rfl, bytesTo_all] at h9
        rw [if_pos HOKT.out]
        exact h9
  · as_aux_lemma =>
    have hok' : okN ⟨false, l⟩ = false := by simpa using hok
    rw [hok']
    have HOKT := Lib.hid hok'
    clear hok hok'
    go_wp2_with fail
    go_ret2
    refine ⟨_, by rw [HOKT.out]; rfl, ?_, HK2.out⟩
    rw [if_neg (by rw [HOKT.out]; simp)]
    exact isOwn_nil _ _ _
theorem append_calls (w : World) (leaf : Bool) (sv : Value) (l : List Rw) (hs : isRdA w 3 sv (rowsA l)) (hl : Shorts l) :
    Calls Tryz.prog 102 #[.agg (nodeA leaf sv)] w (AppPost w ⟨leaf, l⟩) := by
  cases leaf
  · exact appendI_calls w sv l hs hl
  · exact appendL_calls w sv l hs hl
end Go.Proofs.YtblpkifkaoaicaaGreat
