/- Lemmas and contracts of functions, joined. -/
import Derived.Test.YtblpkifkaoaicaaGreatYG1
import Derived.Test.YtblpkifkaoaicaaGreatQT
import Derived.Test.YtblpkifkaoaicaaGreatQX
import Derived.Test.YtblpkifkaoaicaaGreatYReg
import Derived.Test.YtblpkifkaoaicaaGreatYRegB
import Derived.Laws.BytesArg
import Derived.Test.YtblpkifkaoaicaaGreatQP
namespace Go.Proofs.YtblpkifkaoaicaaGreat
open Go Go.RowKit Go.Maps Wb

theorem slot_calls (w : World) (g : Nat) : Calls Tryz.prog 83 #[.int .u64 g] w fun e w' => e = .returned (.int .i64 (g % 2 : Nat)) ∧ w = w' := by
  have h0 : (0 : Int) ≤ g := by omega
  go_enter Tryz.func83, Tryz.ntmps83
  go_wp2
  go_ret
  exact ⟨rfl, rfl⟩

theorem strOfNums_bs (l : List UInt8) : strOfNums (l.map fun c => (c.toNat : Int)) = bs l := by
  have h : (strOfNums (l.map fun c => (c.toNat : Int))).data.toList = (bs l).data.toList := by
    rw [strOfNums_data, bs_list, List.map_map]
    conv => rhs; rw [← List.map_id l]
    exact List.map_congr_left fun c _ => by simp
  have h2 := Array.toList_inj.1 h
  cases hs : strOfNums (l.map fun c => (c.toNat : Int)) with
  | mk d =>
    rw [hs] at h2
    unfold bs at h2 ⊢
    simpa using h2

/-- string(b) -/
theorem run_string {w : World} {v : Value} {l : List UInt8} (h : isRd w v (octs l)) (h0 : l ≠ []) : (convert 36 9 v).run Tryz.prog w = .ok (.string (bs l)) w := by
  obtain ⟨a, cap, rfl, hc, hr⟩ := h
  have hp : 0 < l.length := by cases l with
    | nil => exact absurd rfl h0
    | cons => simp
  obtain ⟨g, o, rfl, _, _⟩ := hr 0 (octV l[0]) (octs_at (List.getElem?_eq_getElem hp))
  rw [← strOfNums_bs]
  refine run_convert_bytes_arg (P := Tryz.prog) w 36 5 Tryz.underlying36 Tryz.underlying5 g o (octs l).length cap (l.map fun c => (c.toNat : Int)) (by rw [List.length_map, octs_len]) (fun i hi => ?_) 9 Tryz.underlying9
  rw [octs_len] at hi
  obtain ⟨g', o', he, _, h2⟩ := hr i (octV l[i]) (octs_at (List.getElem?_eq_getElem hi))
  cases he
  rw [h2]
  simp [octV, List.getD, hi]

theorem arr_vals {w : World} {b : Nat} {s : Sec} {t : TypeId} (h : w.heap[b]? = some (.cells (secA s) t (0, 0))) (k n : Nat) (hk : k + n ≤ 64) (cap : Nat) (hcap : cap = 64 - k) : isVals w (fun i => i = b) (.slice (some ⟨b, k, none⟩) n cap) (octs ((s.1.drop k).take n)) := by
  have hl : (octs ((s.1.drop k).take n)).length = n := by rw [octs_len, List.length_take, List.length_drop, s.2]; omega
  refine ⟨_, cap, by rw [hl], by omega, by omega, .inr ⟨b, k, rfl, rfl, lt_of_blk h, fun j x hj => ?_⟩⟩
  rw [cell_of_block h]
  have hjl := (List.getElem?_eq_some_iff.1 hj).1
  rw [hl] at hjl
  have h1 : (secA s)[k + j]? = (octs s.1)[k + j]? := by rw [← octs_secA]; simp
  rw [h1, ← hj]
  unfold octs
  rw [List.getElem?_map, List.getElem?_map, List.getElem?_take_of_lt hjl, List.getElem?_drop]

def MetaPost (w : World) (r : Sec × Int) (pg long : Nat) : Ending → World → Prop := Quiet w (.tuple #[.agg (metaA (metaAt r pg long).1), .bool (metaAt r pg long).2])
theorem zeroM (w : World) : (zeroValue 119).run Tryz.prog w = .ok (.agg (metaA ⟨0, 0, 0, 0⟩)) w := by kernel_rfl
theorem infoM : (Tryz.prog.info? 119).map (·.size) = some 4 := by kernel_rfl
theorem infoMs (m : Mt) : (Tryz.prog.info? 119).map (·.size) = some (metaA m).size := infoM
theorem buildM0 (w : World) : (Instr.build 119 #[]).run Tryz.prog w = .ok (.agg (metaA ⟨0, 0, 0, 0⟩)) w := by kernel_rfl
theorem metaA_one (m : Mt) : (metaA m).all (·.oneCell') = true := by simp [metaA, Value.oneCell']
theorem store_meta (a b : Mt) : Wb.splice (metaA a) 0 (metaA b) = metaA b := store_whole _ _ rfl

set_option maxRecDepth 100000 in
set_option maxHeartbeats 4000000 in
theorem metaAt_bad (w : World) (h : DH) (D : Dv) (pg long : Nat) (hd : isDev w h D) (hid : pg < 2) (he : (D.read [112] ((pg : Int) * 8)).2 ≠ 0) :
    Calls Tryz.prog 55 #[.pointer (some ⟨h.p, 0, none⟩), .int .i64 pg, .int .i64 long] w (MetaPost w (D.read [112] ((pg : Int) * 8)) pg long) := by
  have hn : nmOk [112] := nmOk_small (by decide)
  have HP : Hid (metaAt (D.read [112] ((pg : Int) * 8)) pg long = (⟨0, 0, 0, 0⟩, false)) := by
    unfold Hid metaAt
    rw [if_neg (fun h => he h.1)]
  have hi0 : (0 : Int) ≤ pg := by omega
  have hi2 : (pg : Int) < 2 := by omega
  obtain ⟨s, e0, hr⟩ : ∃ s e0, D.read [112] ((pg : Int) * 8) = (s, e0) := ⟨_, _, rfl⟩
  rw [hr] at he HP ⊢
  have he' : (e0 == 0) = false := by simpa using he
  have he2 : (e0 != 0) = true := by simpa using he
  have HR := Lib.hid hr
  clear hr he
  go_enter Tryz.func55, Tryz.ntmps55
  go_wp2_with (first
    | ((with_reducible refine gd_alloc 119 ?_); refine wl_alloc_agg rfl _ rfl _ zeroM ?_; intro br w1 hbr HBR HKR)
    | fail)
  go_wp2_with fail
  refine (read_calls _ h _ [112] _ (hd.new HKR) hn).mono ?_
  rintro e w2 ⟨he, hk2⟩
  rw [HR.out] at he
  dsimp only at he
  subst he
  have HBR2 := hk2.blk HBR id
  go_wp2_with (first
    | ((with_reducible refine gd_alloc 62 ?_); refine wl_alloc_agg rfl _ rfl _ zero28 ?_; intro b8 w3 hb8 HB8 HK8)
    | ((with_reducible refine gd_store 62 ?_); refine wl_store_agg rfl _ _ _ rfl b8 _ rfl _ _ HB8 (secA s) rfl (secA s) (store_secs _ _) (le_secs _ _) (info28s _) (secA_one _) ?_; intro w4 HB4 HK4; have HBR4 := HK4.blk (HK8.blk HBR2 id) (ne_new HBR2 hb8))
    | ((with_reducible refine gd_build 119 ?_); refine wl_build0 rfl _ rfl _ buildM0 ?_)
    | ((with_reducible refine gd_store 119 ?_); refine wl_store_agg rfl _ _ _ rfl br _ rfl _ _ HBR4 (metaA ⟨0, 0, 0, 0⟩) rfl (metaA ⟨0, 0, 0, 0⟩) (store_meta _ _) (Nat.le_refl 4) (infoMs _) (metaA_one _) ?_; intro w5 HB5 HK5)
    | fail)
  refine bodyPost_ret (v := .tuple #[.agg (metaA ⟨0, 0, 0, 0⟩), .bool false]) ?_ rfl ⟨by rw [HP.out], ?_⟩
  · exact results_two rfl _ _ br _ _ _ _ rfl rfl HB5 _ Tryz.underlying119 rfl (infoMs _)
  · exact (((HKR.trans hk2).trans HK8).then HK4 (fun i hi e => absurd (Nat.le_trans (HKR.trans hk2).size hb8) (by rw [← e]; exact Nat.not_le.2 hi))).then HK5 (fun i hi e => absurd hbr (by rw [← e]; exact Nat.not_le.2 hi))

theorem mark_eq (l : List UInt8) : ((bs l).toList == [119, 97, 121, 98, 105, 108, 108, 49]) = decide (l = markL) := by
  rw [bs_toList, Bool.eq_iff_iff, beq_iff_eq, decide_eq_true_eq]
  rfl

set_option maxRecDepth 100000 in
set_option maxHeartbeats 4000000 in
theorem metaAt_nomark (w : World) (h : DH) (D : Dv) (pg long : Nat) (s : Sec) (hd : isDev w h D) (hid : pg < 2) (hr : D.read [112] ((pg : Int) * 8) = (s, 0)) (hm : s.1.take 8 ≠ markL) :
    Calls Tryz.prog 55 #[.pointer (some ⟨h.p, 0, none⟩), .int .i64 pg, .int .i64 long] w (MetaPost w (s, 0) pg long) := by
  have hn : nmOk [112] := nmOk_small (by decide)
  have HP : Hid (metaAt (s, 0) pg long = (⟨0, 0, 0, 0⟩, false)) := by
    unfold Hid metaAt
    rw [if_neg (fun h => hm h.2.1)]
  have hi0 : (0 : Int) ≤ pg := by omega
  have hi2 : (pg : Int) < 2 := by omega
  have HR := Lib.hid hr
  have HM : Hid (((bs (s.1.take 8)).toList == [119, 97, 121, 98, 105, 108, 108, 49]) = false) := by unfold Hid; rw [mark_eq]; simpa using hm
  clear hr hm
  go_enter Tryz.func55, Tryz.ntmps55
  go_wp2_with (first
    | ((with_reducible refine gd_alloc 119 ?_); refine wl_alloc_agg rfl _ rfl _ zeroM ?_; intro br w1 hbr HBR HKR)
    | fail)
  go_wp2_with fail
  refine (read_calls _ h _ [112] _ (hd.new HKR) hn).mono ?_
  rintro e w2 ⟨he, hk2⟩
  rw [HR.out] at he
  dsimp only at he
  subst he
  have HBR2 := hk2.blk HBR id
  go_wp2_with (first
    | ((with_reducible refine gd_alloc 62 ?_); refine wl_alloc_agg rfl _ rfl _ zero28 ?_; intro b8 w3 hb8 HB8 HK8)
    | ((with_reducible refine gd_store 62 ?_); refine wl_store_agg rfl _ _ _ rfl b8 _ rfl _ _ HB8 (secA s) rfl (secA s) (store_secs _ _) (le_secs _ _) (info28s _) (secA_one _) ?_; intro w4 HB4 HK4; have HBR4 := HK4.blk (HK8.blk HBR2 id) (ne_new HBR2 hb8); have hcv := run_string (arr_vals HB4 0 8 (by decide) 64 rfl).rd (by rw [List.drop_zero]; intro h; have := congrArg List.length h; simp [s.2] at this); have hst := HM.out; rw [List.drop_zero] at hcv)
    | ((with_reducible refine gd_build 119 ?_); refine wl_build0 rfl _ rfl _ buildM0 ?_)
    | ((with_reducible refine gd_store 119 ?_); refine wl_store_agg rfl _ _ _ rfl br _ rfl _ _ HBR4 (metaA ⟨0, 0, 0, 0⟩) rfl (metaA ⟨0, 0, 0, 0⟩) (store_meta _ _) (Nat.le_refl 4) (infoMs _) (metaA_one _) ?_; intro w5 HB5 HK5)
    | fail)
  refine bodyPost_ret (v := .tuple #[.agg (metaA ⟨0, 0, 0, 0⟩), .bool false]) ?_ rfl ⟨by rw [HP.out], ?_⟩
  · exact results_two rfl _ _ br _ _ _ _ rfl rfl HB5 _ Tryz.underlying119 rfl (infoMs _)
  · exact (((HKR.trans hk2).trans HK8).then HK4 (fun i hi e => absurd (Nat.le_trans (HKR.trans hk2).size hb8) (by rw [← e]; exact Nat.not_le.2 hi))).then HK5 (fun i hi e => absurd hbr (by rw [← e]; exact Nat.not_le.2 hi))

/-- One of the numbers is read. -/
def RdPost (w : World) (s : Sec) (b8 bi k : Nat) (e : Ending) (w' : World) : Prop :=
  ∃ sv', e = .returned (.int .u64 (rdN s k)) ∧ isIn w' bi sv' false ∧ isVals w' (fun i => i = b8) sv' (octs (s.1.drop (8 * (k + 1)))) ∧ Keeps w w' (· = bi)
theorem rd_calls (w : World) (s : Sec) (b8 bi k : Nat) (sv : Value) (hne : b8 ≠ bi) (hk : k ≤ 7) (hi : isIn w bi sv false) (hv : isVals w (fun i => i = b8) sv (octs (s.1.drop (8 * k)))) :
    Calls Tryz.prog 86 #[.pointer (some ⟨bi, 0, none⟩), .int .i64 8] w (RdPost w s b8 bi k) := by
  have hl : (s.1.drop (8 * k)).length = 64 - 8 * k := by rw [List.length_drop, s.2]
  refine (inint_calls w bi _ sv (s.1.drop (8 * k)) 8 hi hv (fun i e => by rw [e]; exact hne) (by rw [hl]; omega) (by rw [hl]; omega) (by decide) (by decide)).mono ?_
  rintro e w' ⟨sv', he, h1, h2, h3⟩
  refine ⟨sv', he, h1, ?_, h3⟩
  rw [List.drop_drop] at h2
  exact h2

set_option maxRecDepth 100000 in
set_option maxHeartbeats 8000000 in
theorem metaAt_more (w : World) (h : DH) (D : Dv) (pg long : Nat) (s : Sec) (hd : isDev w h D) (hid : pg < 2) (hr : D.read [112] ((pg : Int) * 8) = (s, 0)) (hm : s.1.take 8 = markL) :
    Calls Tryz.prog 55 #[.pointer (some ⟨h.p, 0, none⟩), .int .i64 pg, .int .i64 long] w (MetaPost w (s, 0) pg long) := by
  have hn : nmOk [112] := nmOk_small (by decide)
  have hi0 : (0 : Int) ≤ pg := by omega
  have hi2 : (pg : Int) < 2 := by omega
  have HR := Lib.hid hr
  have HM : Hid (((bs (s.1.take 8)).toList == [119, 97, 121, 98, 105, 108, 108, 49]) = true) := by unfold Hid; rw [mark_eq]; simpa using hm
  have HMM := Lib.hid hm
  clear hr hm
  go_enter Tryz.func55, Tryz.ntmps55
  go_wp2_with (first
    | ((with_reducible refine gd_alloc 119 ?_); refine wl_alloc_agg rfl _ rfl _ zeroM ?_; intro br w1 hbr HBR HKR)
    | fail)
  go_wp2_with fail
  refine (read_calls _ h _ [112] _ (hd.new HKR) hn).mono ?_
  rintro e w2 ⟨he, hk2⟩
  rw [HR.out] at he
  dsimp only at he
  subst he
  have HBR2 := hk2.blk HBR id
  go_wp2_with (first
    | ((with_reducible refine gd_alloc 62 ?_); refine wl_alloc_agg rfl _ rfl _ zero28 ?_; intro b8 w3 hb8 HB8 HK8)
    | ((with_reducible refine gd_store 62 ?_); refine wl_store_agg rfl _ _ _ rfl b8 _ rfl _ _ HB8 (secA s) rfl (secA s) (store_secs _ _) (le_secs _ _) (info28s _) (secA_one _) ?_; intro w4 HB4 HK4; have HBR4 := HK4.blk (HK8.blk HBR2 id) (ne_new HBR2 hb8); have hcv := run_string (arr_vals HB4 0 8 (by decide) 64 rfl).rd (by rw [List.drop_zero]; intro h; have := congrArg List.length h; simp [s.2] at this); have hst := HM.out; rw [List.drop_zero] at hcv)
    | fail)
  clear hcv hst
  refine (from_calls _ _ ⟨_, _, _, rfl⟩).mono ?_
  rintro e w5 ⟨bi, rfl, hbi, hi5, hk5⟩
  have hne8 : b8 ≠ bi := ne_new HB4 hbi
  have hner : br ≠ bi := ne_new HBR4 hbi
  have hb8r : ¬ b8 = br := fun e => ne_new HBR2 hb8 e.symm
  have hv5 : isVals w5 (fun i => i = b8) (.slice (some ⟨b8, 8, none⟩) 56 56) (octs (s.1.drop (8 * 1))) := by
    have := arr_vals (hk5.blk HB4 (by simp)) 8 56 (by decide) 56 rfl
    rwa [List.take_of_length_le (by rw [List.length_drop, s.2]; decide)] at this
  have HBR5 := hk5.blk HBR4 (by simp)
  have HB5 := hk5.blk HB4 (by simp)
  have HK5 : Keeps w w5 (fun _ => False) := ((((HKR.trans hk2).trans HK8).then HK4 (fun i hi e => absurd (Nat.le_trans (HKR.trans hk2).size hb8) (by rw [← e]; exact Nat.not_le.2 hi)))).trans hk5
  have hbw : w.heap.size ≤ bi := Nat.le_trans (((HKR.trans hk2).trans HK8).size) (Nat.le_trans HK4.size hbi)
  clear HBR2 HB8 HBR HB4 HBR4 HK4 HK8 hk2 hk5 HKR hb8 hbi
  go_wp2_with fail
  refine (rd_calls _ s b8 bi 1 _ hne8 (by decide) hi5 hv5).mono ?_
  rintro e w6 ⟨sv6, rfl, hi6, hv6, hk6⟩
  go_wp2_with fail
  refine (rd_calls _ s b8 bi 2 _ hne8 (by decide) hi6 hv6).mono ?_
  rintro e w7 ⟨sv7, rfl, hi7, hv7, hk7⟩
  go_wp2_with fail
  refine (rd_calls _ s b8 bi 3 _ hne8 (by decide) hi7 hv7).mono ?_
  rintro e w8 ⟨sv8, rfl, hi8, hv8, hk8⟩
  go_wp2_with fail
  refine (rd_calls _ s b8 bi 4 _ hne8 (by decide) hi8 hv8).mono ?_
  rintro e w9 ⟨sv9, rfl, hi9, hv9, hk9⟩
  have HBR9 := hk9.blk (hk8.blk (hk7.blk (hk6.blk HBR5 hner) hner) hner) hner
  have HB9 := hk9.blk (hk8.blk (hk7.blk (hk6.blk HB5 hne8) hne8) hne8) hne8
  have HK9 : Keeps w w9 (fun _ => False) := HK5.then (((hk6.trans hk7).trans hk8).trans hk9) (fun i hi e => absurd hbw (by rw [← e]; exact Nat.not_le.2 hi))
  clear hi5 hv5 hi6 hv6 hi7 hv7 hi8 hv8 hi9 hv9 hk6 hk7 hk8 hk9 HB5 HBR5 HK5
  have hP : metaP s = ⟨rdN s 1, rdN s 2, rdN s 3, rdN s 4⟩ := rfl
  have hlt1 : rdN s 1 < 2 ^ 64 := num_lt _
  generalize rdN s 1 = g1 at *
  generalize rdN s 2 = g2 at *
  generalize rdN s 3 = g3 at *
  generalize rdN s 4 = g4 at *
  have HPS := Lib.hid hP
  have HLT := Lib.hid hlt1
  clear hP hlt1
  by_cases hf : metaFits ⟨g1, g2, g3, g4⟩ pg
  · have h1 : ((g1 : Int) == 0) = false := by have := hf.1; rw [beq_eq_false_iff_ne]; simp only at this; omega
    have h2 : (((g1 : Int) % 2) != (pg : Int)) = false := by have := hf.2.1; rw [bne_eq_false_iff_eq]; simp only at this; omega
    have h3 : (g2 : Int) ≤ 4611686018427387904 := by have := hf.2.2.1; simp only at this; omega
    have h4 : (g3 : Int) ≤ 4611686018427387904 := by have := hf.2.2.2; simp only at this; omega
    have h30 : (0 : Int) ≤ g2 := by omega
    have h40 : (0 : Int) ≤ g3 := by omega
    have HFT := Lib.hid hf
    have HMO : Hid (Mt.ok ⟨g1, g2, g3, g4⟩) := Lib.hid (by have := metaP_ok (s := s) (id := pg) (by rw [HPS.out]; exact hf); rwa [HPS.out] at this)
    clear hf
    have r2 : IntKind.i64.wrap (g2 : Int) = g2 := i64_smallK _ (by omega) (by omega)
    have r3 : IntKind.i64.wrap (g3 : Int) = g3 := i64_smallK _ (by omega) (by omega)
    go_wp2_with (first
      | (go_at_call 83; refine (slot_calls _ g1).mono ?_; rintro e wx ⟨rfl, rfl⟩)
      | ((with_reducible refine gd_build 119 ?_); refine wl_buildL rfl _ _ rfl [(0, .int .u64 g1), (1, .int .i64 g2), (2, .int .i64 g3), (3, .int .u64 g4)] rfl (.agg (metaA ⟨g1, g2, g3, g4⟩)) (fun _ => by kernel_rfl) ?_)
      | ((with_reducible refine gd_alloc 119 ?_); refine wl_alloc_agg rfl _ rfl _ zeroM ?_; intro bm w10 hbm HBM0 HKM0)
      | ((with_reducible refine gd_store 119 ?_); refine wl_store_agg rfl _ _ _ rfl bm _ rfl _ _ HBM0 (metaA ⟨g1, g2, g3, g4⟩) rfl (metaA ⟨g1, g2, g3, g4⟩) (store_meta _ _) (Nat.le_refl 4) (infoMs _) (metaA_one _) ?_; intro w11 HBM HKM)
      | fail)
    have HBR10 := (HKM.blk (HKM0.blk HBR9 (by simp)) (ne_new HBR9 hbm))
    have HB10 := (HKM.blk (HKM0.blk HB9 (by simp)) (ne_new HB9 hbm))
    have hmr : ¬ bm = br := fun e => ne_new HBR9 hbm e.symm
    have h8r : ¬ b8 = br := hb8r
    have HK10 : Keeps w w11 (fun _ => False) := (HK9.trans HKM0).then HKM (fun i hi e => absurd (Nat.le_trans HK9.size hbm) (by rw [← e]; exact Nat.not_le.2 hi))
    clear HBR9 HB9 HK9 HKM0 HBM0 HKM
    generalize hmm : (⟨g1, g2, g3, g4⟩ : Mt) = m at *
    have HS : (fun w' => w'.rangeAt bm 0 (metaA m).toList ∧ w'.rangeAt b8 0 (secA s).toList ∧ w'.cell? ⟨bm, 1, none⟩ = some (.int .i64 g2) ∧ (∃ m0, w'.heap[br]? = some (.cells (metaA m0) 119 (0, 0)))) w11.drew := ⟨range_of_block HBM, range_of_block HB10, by show w11.cell? _ = _; rw [cell_of_block HBM, ← hmm]; rfl, _, HBR10⟩
    have hroot : m.root = g2 := by rw [← hmm]
    have HROOT := Lib.hid hroot
    clear hroot hmm HBM HB10 h1 h2 h4 r2 r3
    by_cases hes : metaS m = s
    · have HE := Lib.hid hes
      have hg1 : ∀ (x y : Operand) (W : World), (eqGuard BinOp.eql 62 x y (secV (metaS m)) (.agg (secA s))).run Tryz.prog W = .ok () W := fun x y W => run_guard_sec W _ x y _ _
      have hg2 : ∀ (W : World), (binOp BinOp.eql 62 (secV (metaS m)) (.agg (secA s))).run Tryz.prog W = .ok (.bool true) W := fun W => by
        have := run_eql_sec W (metaS m) s
        rw [show secV s = .agg (secA s) from rfl] at this
        rw [this]; simp [HE.out]
      clear hes
      by_cases hz : g2 = 0
      · have hz1 : ((g2 : Int) == 0) = true := by rw [beq_iff_eq]; omega
        have HC : Hid (m.root = 0 ∨ (2 ≤ m.root ∧ m.root < long)) := Lib.hid (by rw [HROOT.out]; omega)
        clear hz
        have HP : Hid (metaAt (s, 0) pg long = (m, true)) := by
          unfold Hid metaAt
          rw [if_pos ⟨rfl, HMM.out, by rw [HPS.out]; exact HFT.out⟩, HPS.out]
          simp only [Prod.mk.injEq, true_and]
          first
            | (rw [decide_eq_true_eq]; exact ⟨HE.out, HC.out⟩)
            | (rw [decide_eq_false_iff_not]; exact fun h => HE.out h.1)
            | (rw [decide_eq_false_iff_not]; exact fun h => HC.out h.2)
        refine wp_region_held_drew (S := (fun w' => w'.rangeAt bm 0 (metaA m).toList ∧ w'.rangeAt b8 0 (secA s).toList ∧ w'.cell? ⟨bm, 1, none⟩ = some (.int .i64 g2) ∧ (∃ m0, w'.heap[br]? = some (.cells (metaA m0) 119 (0, 0))))) (by kernel_rfl) HS (fun _ => ?_)
        refine rg_load 0 rfl (by kernel_rfl) (by kernel_rfl) (by kernel_rfl) (metaA m) (fun _ _ _ h => h) HS (by rfl) bm 0 rfl (fun _ h => h.1) _ Tryz.underlying119 rfl (infoMs _) ?_
        simp only [Act.put, l_a, l_s, l_z]
        refine rg_load 1 rfl (by kernel_rfl) (by kernel_rfl) (by kernel_rfl) (metaA m) (fun _ _ _ h => h) HS (by rfl) bm 0 rfl (fun _ h => h.1) _ Tryz.underlying119 rfl (infoMs _) ?_
        simp only [Act.put, l_a, l_s, l_z]
        refine rg_load 3 rfl (by kernel_rfl) (by kernel_rfl) (by kernel_rfl) (secA s) (fun _ _ _ h => h) HS (by rfl) b8 0 rfl (fun _ h => h.2.1) _ Tryz.underlying62 rfl (info28s _) ?_
        simp only [Act.put, l_a, l_s, l_z]
        refine rg_one 2 rfl (by kernel_rfl) (by rfl) ?_
        refine rg_call 84 _ _ rfl _ Tryz.func84 (by kernel_rfl) (by kernel_rfl) [.agg (metaA m)] rfl (sector9_calls _ m HMO.out) ?_
        rintro e wa ⟨rfl, hka⟩
        have HBA := hka.blk HBR10 (by simp)
        have HS2 : (fun w' => w'.rangeAt bm 0 (metaA m).toList ∧ w'.rangeAt b8 0 (secA s).toList ∧ w'.cell? ⟨bm, 1, none⟩ = some (.int .i64 g2) ∧ (∃ m0, w'.heap[br]? = some (.cells (metaA m0) 119 (0, 0)))) wa := ⟨Keeps.rangeK hka HS.1, Keeps.rangeK hka HS.2.1, Keeps.cellK hka HS.2.2.1, _, HBA⟩
        refine ⟨_, rfl, HS2, ?_⟩
        simp only [Act.put, l_a, l_s, l_z]
        first | (refine rg_s 4 rfl (by kernel_rfl) (fun _ _ _ h => h) HS2 ?_ ?_; rfl) | (refine rg_t 4 (v := ?_) rfl (by kernel_rfl) (fun _ _ _ h => h) HS2 ?_ ?_ ?_; rotate_left; rfl; focus (intro w hSw; (try dsimp only at hSw); go_simp; all_goals (with_reducible rfl)))
        simp only [Act.put, l_a, l_s, l_z]
        first | (refine rg_s 5 rfl (by kernel_rfl) (fun _ _ _ h => h) HS2 ?_ ?_; rfl) | (refine rg_t 5 (v := ?_) rfl (by kernel_rfl) (fun _ _ _ h => h) HS2 ?_ ?_ ?_; rotate_left; rfl; focus (intro w hSw; (try dsimp only at hSw); go_simp; all_goals (with_reducible rfl)))
        simp only [Act.put, l_a, l_s, l_z]
        first | (refine rg_s 6 rfl (by kernel_rfl) (fun _ _ _ h => h) HS2 ?_ ?_; rfl) | (refine rg_t 6 (v := ?_) rfl (by kernel_rfl) (fun _ _ _ h => h) HS2 ?_ ?_ ?_; rotate_left; rfl; focus (intro w hSw; (try dsimp only at hSw); go_simp; all_goals (with_reducible rfl)))
        simp only [Act.put, l_a, l_s, l_z]
        first | (refine rg_s 7 rfl (by kernel_rfl) (fun _ _ _ h => h) HS2 ?_ ?_; rfl) | (refine rg_t 7 (v := ?_) rfl (by kernel_rfl) (fun _ _ _ h => h) HS2 ?_ ?_ ?_; rotate_left; rfl; focus (intro w hSw; (try dsimp only at hSw); go_simp; all_goals (with_reducible rfl)))
        simp only [Act.put, l_a, l_s, l_z]
        first | (refine rg_s 8 rfl (by kernel_rfl) (fun _ _ _ h => h) HS2 ?_ ?_; rfl) | (refine rg_t 8 (v := ?_) rfl (by kernel_rfl) (fun _ _ _ h => h) HS2 ?_ ?_ ?_; rotate_left; rfl; focus (intro w hSw; (try dsimp only at hSw); go_simp; all_goals (with_reducible rfl)))
        simp only [Act.put, l_a, l_s, l_z]
        first | (refine rg_s 9 rfl (by kernel_rfl) (fun _ _ _ h => h) HS2 ?_ ?_; rfl) | (refine rg_t 9 (v := ?_) rfl (by kernel_rfl) (fun _ _ _ h => h) HS2 ?_ ?_ ?_; rotate_left; rfl; focus (intro w hSw; (try dsimp only at hSw); go_simp; all_goals (with_reducible rfl)))
        simp only [Act.put, l_a, l_s, l_z]
        first | (refine rg_s 10 rfl (by kernel_rfl) (fun _ _ _ h => h) HS2 ?_ ?_; rfl) | (refine rg_t 10 (v := ?_) rfl (by kernel_rfl) (fun _ _ _ h => h) HS2 ?_ ?_ ?_; rotate_left; rfl; focus (intro w hSw; (try dsimp only at hSw); go_simp; all_goals (with_reducible rfl)))
        simp only [Act.put, l_a, l_s, l_z]
        first | (refine rg_s 11 rfl (by kernel_rfl) (fun _ _ _ h => h) HS2 ?_ ?_; rfl) | (refine rg_t 11 (v := ?_) rfl (by kernel_rfl) (fun _ _ _ h => h) HS2 ?_ ?_ ?_; rotate_left; rfl; focus (intro w hSw; (try dsimp only at hSw); go_simp; all_goals (with_reducible rfl)))
        simp only [Act.put, l_a, l_s, l_z]
        first | (refine rg_s 12 rfl (by kernel_rfl) (fun _ _ _ h => h) HS2 ?_ ?_; rfl) | (refine rg_t 12 (v := ?_) rfl (by kernel_rfl) (fun _ _ _ h => h) HS2 ?_ ?_ ?_; rotate_left; rfl; focus (intro w hSw; (try dsimp only at hSw); go_simp; all_goals (with_reducible rfl)))
        simp only [Act.put, l_a, l_s, l_z]
        first | (refine rg_s 13 rfl (by kernel_rfl) (fun _ _ _ h => h) HS2 ?_ ?_; rfl) | (refine rg_t 13 (v := ?_) rfl (by kernel_rfl) (fun _ _ _ h => h) HS2 ?_ ?_ ?_; rotate_left; rfl; focus (intro w hSw; (try dsimp only at hSw); go_simp; all_goals (with_reducible rfl)))
        simp only [Act.put, l_a, l_s, l_z]
        first | (refine rg_s 14 rfl (by kernel_rfl) (fun _ _ _ h => h) HS2 ?_ ?_; rfl) | (refine rg_t 14 (v := ?_) rfl (by kernel_rfl) (fun _ _ _ h => h) HS2 ?_ ?_ ?_; rotate_left; rfl; focus (intro w hSw; (try dsimp only at hSw); go_simp; all_goals (with_reducible rfl)))
        simp only [Act.put, l_a, l_s, l_z]
        first | (refine rg_s 15 rfl (by kernel_rfl) (fun _ _ _ h => h) HS2 ?_ ?_; rfl) | (refine rg_t 15 (v := ?_) rfl (by kernel_rfl) (fun _ _ _ h => h) HS2 ?_ ?_ ?_; rotate_left; rfl; focus (intro w hSw; (try dsimp only at hSw); go_simp; all_goals (with_reducible rfl)))
        simp only [Act.put, l_a, l_s, l_z]
        first | (refine rg_s 16 rfl (by kernel_rfl) (fun _ _ _ h => h) HS2 ?_ ?_; rfl) | (refine rg_t 16 (v := ?_) rfl (by kernel_rfl) (fun _ _ _ h => h) HS2 ?_ ?_ ?_; rotate_left; rfl; focus (intro w hSw; (try dsimp only at hSw); go_simp; all_goals (with_reducible rfl)))
        simp only [Act.put, l_a, l_s, l_z]
        first | (refine rg_s 17 rfl (by kernel_rfl) (fun _ _ _ h => h) HS2 ?_ ?_; rfl) | (refine rg_t 17 (v := ?_) rfl (by kernel_rfl) (fun _ _ _ h => h) HS2 ?_ ?_ ?_; rotate_left; rfl; focus (intro w hSw; (try dsimp only at hSw); go_simp; all_goals (with_reducible rfl)))
        simp only [Act.put, l_a, l_s, l_z]
        first | (refine rg_s 18 rfl (by kernel_rfl) (fun _ _ _ h => h) HS2 ?_ ?_; rfl) | (refine rg_t 18 (v := ?_) rfl (by kernel_rfl) (fun _ _ _ h => h) HS2 ?_ ?_ ?_; rotate_left; rfl; focus (intro w hSw; (try dsimp only at hSw); go_simp; all_goals (with_reducible rfl)))
        simp only [Act.put, l_a, l_s, l_z]
        first | (refine rg_s 19 rfl (by kernel_rfl) (fun _ _ _ h => h) HS2 ?_ ?_; rfl) | (refine rg_t 19 (v := ?_) rfl (by kernel_rfl) (fun _ _ _ h => h) HS2 ?_ ?_ ?_; rotate_left; rfl; focus (intro w hSw; (try dsimp only at hSw); go_simp; all_goals (with_reducible rfl)))
        simp only [Act.put, l_a, l_s, l_z]
        first | (refine rg_s 20 rfl (by kernel_rfl) (fun _ _ _ h => h) HS2 ?_ ?_; rfl) | (refine rg_t 20 (v := ?_) rfl (by kernel_rfl) (fun _ _ _ h => h) HS2 ?_ ?_ ?_; rotate_left; rfl; focus (intro w hSw; (try dsimp only at hSw); go_simp; all_goals (with_reducible rfl)))
        simp only [Act.put, l_a, l_s, l_z]
        refine rg_one 21 rfl (by kernel_rfl) (by rfl) ?_
        refine wp_store_agg 119 _ _ rfl br 0 rfl _ _ HBA (metaA m) rfl (metaA m) (store_meta _ _) (Nat.le_refl 4) (infoMs _) (metaA_one _) ?_
        intro wb hbb hkb
        have HS3 : (fun w' => w'.rangeAt bm 0 (metaA m).toList ∧ w'.rangeAt b8 0 (secA s).toList ∧ w'.cell? ⟨bm, 1, none⟩ = some (.int .i64 g2) ∧ (∃ m0, w'.heap[br]? = some (.cells (metaA m0) 119 (0, 0)))) wb := ⟨range_far hkb hmr HS2.1, range_far hkb h8r HS2.2.1, (hkb.cell (p := ⟨bm, 1, none⟩) (cell_ltK HS2.2.2.1) hmr).trans HS2.2.2.1, _, hbb⟩
        refine ⟨HS3, ?_⟩
        simp only [Act.put, l_a, l_s, l_z]
        first | (refine rg_s 22 rfl (by kernel_rfl) (fun _ _ _ h => h) HS3 ?_ ?_; rfl) | (refine rg_t 22 (v := ?_) rfl (by kernel_rfl) (fun _ _ _ h => h) HS3 ?_ ?_ ?_; rotate_left; rfl; focus (intro w hSw; (try dsimp only at hSw); go_simp; all_goals (with_reducible rfl)))
        simp only [Act.put, l_a, l_s, l_z]
        refine wpAnyH_done (by kernel_rfl) ?_ _
        go_wp2_with fail
        refine bodyPost_ret (v := .tuple #[.agg (metaA m), .bool true]) ?_ rfl ⟨by rw [HP.out], ?_⟩
        · exact results_two rfl _ _ br _ _ _ _ rfl rfl hbb _ Tryz.underlying119 rfl (infoMs _)
        · exact (HK10.drew.trans hka).then hkb (fun i hi e => absurd hbr (by rw [← e]; exact Nat.not_le.2 hi))
      · have hz1 : ((g2 : Int) == 0) = false := by rw [beq_eq_false_iff_ne]; omega
        by_cases h2g : 2 ≤ g2
        · have h2i : (2 : Int) ≤ g2 := by omega
          by_cases hll : g2 < long
          · have hlb : decide (g2 < long) = true := by simpa using hll
            have HC : Hid (m.root = 0 ∨ (2 ≤ m.root ∧ m.root < long)) := Lib.hid (by rw [HROOT.out]; omega)
            clear hll h2g hz
            have HP : Hid (metaAt (s, 0) pg long = (m, true)) := by
              unfold Hid metaAt
              rw [if_pos ⟨rfl, HMM.out, by rw [HPS.out]; exact HFT.out⟩, HPS.out]
              simp only [Prod.mk.injEq, true_and]
              first
                | (rw [decide_eq_true_eq]; exact ⟨HE.out, HC.out⟩)
                | (rw [decide_eq_false_iff_not]; exact fun h => HE.out h.1)
                | (rw [decide_eq_false_iff_not]; exact fun h => HC.out h.2)
            refine wp_region_held_drew (S := (fun w' => w'.rangeAt bm 0 (metaA m).toList ∧ w'.rangeAt b8 0 (secA s).toList ∧ w'.cell? ⟨bm, 1, none⟩ = some (.int .i64 g2) ∧ (∃ m0, w'.heap[br]? = some (.cells (metaA m0) 119 (0, 0))))) (by kernel_rfl) HS (fun _ => ?_)
            refine rg_load 0 rfl (by kernel_rfl) (by kernel_rfl) (by kernel_rfl) (metaA m) (fun _ _ _ h => h) HS (by rfl) bm 0 rfl (fun _ h => h.1) _ Tryz.underlying119 rfl (infoMs _) ?_
            simp only [Act.put, l_a, l_s, l_z]
            refine rg_load 1 rfl (by kernel_rfl) (by kernel_rfl) (by kernel_rfl) (metaA m) (fun _ _ _ h => h) HS (by rfl) bm 0 rfl (fun _ h => h.1) _ Tryz.underlying119 rfl (infoMs _) ?_
            simp only [Act.put, l_a, l_s, l_z]
            refine rg_load 3 rfl (by kernel_rfl) (by kernel_rfl) (by kernel_rfl) (secA s) (fun _ _ _ h => h) HS (by rfl) b8 0 rfl (fun _ h => h.2.1) _ Tryz.underlying62 rfl (info28s _) ?_
            simp only [Act.put, l_a, l_s, l_z]
            refine rg_one 2 rfl (by kernel_rfl) (by rfl) ?_
            refine rg_call 84 _ _ rfl _ Tryz.func84 (by kernel_rfl) (by kernel_rfl) [.agg (metaA m)] rfl (sector9_calls _ m HMO.out) ?_
            rintro e wa ⟨rfl, hka⟩
            have HBA := hka.blk HBR10 (by simp)
            have HS2 : (fun w' => w'.rangeAt bm 0 (metaA m).toList ∧ w'.rangeAt b8 0 (secA s).toList ∧ w'.cell? ⟨bm, 1, none⟩ = some (.int .i64 g2) ∧ (∃ m0, w'.heap[br]? = some (.cells (metaA m0) 119 (0, 0)))) wa := ⟨Keeps.rangeK hka HS.1, Keeps.rangeK hka HS.2.1, Keeps.cellK hka HS.2.2.1, _, HBA⟩
            refine ⟨_, rfl, HS2, ?_⟩
            simp only [Act.put, l_a, l_s, l_z]
            first | (refine rg_s 4 rfl (by kernel_rfl) (fun _ _ _ h => h) HS2 ?_ ?_; rfl) | (refine rg_t 4 (v := ?_) rfl (by kernel_rfl) (fun _ _ _ h => h) HS2 ?_ ?_ ?_; rotate_left; rfl; focus (intro w hSw; (try dsimp only at hSw); go_simp; all_goals (with_reducible rfl)))
            simp only [Act.put, l_a, l_s, l_z]
            first | (refine rg_s 5 rfl (by kernel_rfl) (fun _ _ _ h => h) HS2 ?_ ?_; rfl) | (refine rg_t 5 (v := ?_) rfl (by kernel_rfl) (fun _ _ _ h => h) HS2 ?_ ?_ ?_; rotate_left; rfl; focus (intro w hSw; (try dsimp only at hSw); go_simp; all_goals (with_reducible rfl)))
            simp only [Act.put, l_a, l_s, l_z]
            first | (refine rg_s 6 rfl (by kernel_rfl) (fun _ _ _ h => h) HS2 ?_ ?_; rfl) | (refine rg_t 6 (v := ?_) rfl (by kernel_rfl) (fun _ _ _ h => h) HS2 ?_ ?_ ?_; rotate_left; rfl; focus (intro w hSw; (try dsimp only at hSw); go_simp; all_goals (with_reducible rfl)))
            simp only [Act.put, l_a, l_s, l_z]
            first | (refine rg_s 7 rfl (by kernel_rfl) (fun _ _ _ h => h) HS2 ?_ ?_; rfl) | (refine rg_t 7 (v := ?_) rfl (by kernel_rfl) (fun _ _ _ h => h) HS2 ?_ ?_ ?_; rotate_left; rfl; focus (intro w hSw; (try dsimp only at hSw); go_simp; all_goals (with_reducible rfl)))
            simp only [Act.put, l_a, l_s, l_z]
            first | (refine rg_s 8 rfl (by kernel_rfl) (fun _ _ _ h => h) HS2 ?_ ?_; rfl) | (refine rg_t 8 (v := ?_) rfl (by kernel_rfl) (fun _ _ _ h => h) HS2 ?_ ?_ ?_; rotate_left; rfl; focus (intro w hSw; (try dsimp only at hSw); go_simp; all_goals (with_reducible rfl)))
            simp only [Act.put, l_a, l_s, l_z]
            first | (refine rg_s 9 rfl (by kernel_rfl) (fun _ _ _ h => h) HS2 ?_ ?_; rfl) | (refine rg_t 9 (v := ?_) rfl (by kernel_rfl) (fun _ _ _ h => h) HS2 ?_ ?_ ?_; rotate_left; rfl; focus (intro w hSw; (try dsimp only at hSw); go_simp; all_goals (with_reducible rfl)))
            simp only [Act.put, l_a, l_s, l_z]
            first | (refine rg_s 10 rfl (by kernel_rfl) (fun _ _ _ h => h) HS2 ?_ ?_; rfl) | (refine rg_t 10 (v := ?_) rfl (by kernel_rfl) (fun _ _ _ h => h) HS2 ?_ ?_ ?_; rotate_left; rfl; focus (intro w hSw; (try dsimp only at hSw); go_simp; all_goals (with_reducible rfl)))
            simp only [Act.put, l_a, l_s, l_z]
            first | (refine rg_s 11 rfl (by kernel_rfl) (fun _ _ _ h => h) HS2 ?_ ?_; rfl) | (refine rg_t 11 (v := ?_) rfl (by kernel_rfl) (fun _ _ _ h => h) HS2 ?_ ?_ ?_; rotate_left; rfl; focus (intro w hSw; (try dsimp only at hSw); go_simp; all_goals (with_reducible rfl)))
            simp only [Act.put, l_a, l_s, l_z]
            first | (refine rg_s 12 rfl (by kernel_rfl) (fun _ _ _ h => h) HS2 ?_ ?_; rfl) | (refine rg_t 12 (v := ?_) rfl (by kernel_rfl) (fun _ _ _ h => h) HS2 ?_ ?_ ?_; rotate_left; rfl; focus (intro w hSw; (try dsimp only at hSw); go_simp; all_goals (with_reducible rfl)))
            simp only [Act.put, l_a, l_s, l_z]
            first | (refine rg_s 13 rfl (by kernel_rfl) (fun _ _ _ h => h) HS2 ?_ ?_; rfl) | (refine rg_t 13 (v := ?_) rfl (by kernel_rfl) (fun _ _ _ h => h) HS2 ?_ ?_ ?_; rotate_left; rfl; focus (intro w hSw; (try dsimp only at hSw); go_simp; all_goals (with_reducible rfl)))
            simp only [Act.put, l_a, l_s, l_z]
            first | (refine rg_s 14 rfl (by kernel_rfl) (fun _ _ _ h => h) HS2 ?_ ?_; rfl) | (refine rg_t 14 (v := ?_) rfl (by kernel_rfl) (fun _ _ _ h => h) HS2 ?_ ?_ ?_; rotate_left; rfl; focus (intro w hSw; (try dsimp only at hSw); go_simp; all_goals (with_reducible rfl)))
            simp only [Act.put, l_a, l_s, l_z]
            first | (refine rg_s 15 rfl (by kernel_rfl) (fun _ _ _ h => h) HS2 ?_ ?_; rfl) | (refine rg_t 15 (v := ?_) rfl (by kernel_rfl) (fun _ _ _ h => h) HS2 ?_ ?_ ?_; rotate_left; rfl; focus (intro w hSw; (try dsimp only at hSw); go_simp; all_goals (with_reducible rfl)))
            simp only [Act.put, l_a, l_s, l_z]
            first | (refine rg_s 16 rfl (by kernel_rfl) (fun _ _ _ h => h) HS2 ?_ ?_; rfl) | (refine rg_t 16 (v := ?_) rfl (by kernel_rfl) (fun _ _ _ h => h) HS2 ?_ ?_ ?_; rotate_left; rfl; focus (intro w hSw; (try dsimp only at hSw); go_simp; all_goals (with_reducible rfl)))
            simp only [Act.put, l_a, l_s, l_z]
            first | (refine rg_s 17 rfl (by kernel_rfl) (fun _ _ _ h => h) HS2 ?_ ?_; rfl) | (refine rg_t 17 (v := ?_) rfl (by kernel_rfl) (fun _ _ _ h => h) HS2 ?_ ?_ ?_; rotate_left; rfl; focus (intro w hSw; (try dsimp only at hSw); go_simp; all_goals (with_reducible rfl)))
            simp only [Act.put, l_a, l_s, l_z]
            first | (refine rg_s 18 rfl (by kernel_rfl) (fun _ _ _ h => h) HS2 ?_ ?_; rfl) | (refine rg_t 18 (v := ?_) rfl (by kernel_rfl) (fun _ _ _ h => h) HS2 ?_ ?_ ?_; rotate_left; rfl; focus (intro w hSw; (try dsimp only at hSw); go_simp; all_goals (with_reducible rfl)))
            simp only [Act.put, l_a, l_s, l_z]
            first | (refine rg_s 19 rfl (by kernel_rfl) (fun _ _ _ h => h) HS2 ?_ ?_; rfl) | (refine rg_t 19 (v := ?_) rfl (by kernel_rfl) (fun _ _ _ h => h) HS2 ?_ ?_ ?_; rotate_left; rfl; focus (intro w hSw; (try dsimp only at hSw); go_simp; all_goals (with_reducible rfl)))
            simp only [Act.put, l_a, l_s, l_z]
            first | (refine rg_s 20 rfl (by kernel_rfl) (fun _ _ _ h => h) HS2 ?_ ?_; rfl) | (refine rg_t 20 (v := ?_) rfl (by kernel_rfl) (fun _ _ _ h => h) HS2 ?_ ?_ ?_; rotate_left; rfl; focus (intro w hSw; (try dsimp only at hSw); go_simp; all_goals (with_reducible rfl)))
            simp only [Act.put, l_a, l_s, l_z]
            refine rg_one 21 rfl (by kernel_rfl) (by rfl) ?_
            refine wp_store_agg 119 _ _ rfl br 0 rfl _ _ HBA (metaA m) rfl (metaA m) (store_meta _ _) (Nat.le_refl 4) (infoMs _) (metaA_one _) ?_
            intro wb hbb hkb
            have HS3 : (fun w' => w'.rangeAt bm 0 (metaA m).toList ∧ w'.rangeAt b8 0 (secA s).toList ∧ w'.cell? ⟨bm, 1, none⟩ = some (.int .i64 g2) ∧ (∃ m0, w'.heap[br]? = some (.cells (metaA m0) 119 (0, 0)))) wb := ⟨range_far hkb hmr HS2.1, range_far hkb h8r HS2.2.1, (hkb.cell (p := ⟨bm, 1, none⟩) (cell_ltK HS2.2.2.1) hmr).trans HS2.2.2.1, _, hbb⟩
            refine ⟨HS3, ?_⟩
            simp only [Act.put, l_a, l_s, l_z]
            first | (refine rg_s 22 rfl (by kernel_rfl) (fun _ _ _ h => h) HS3 ?_ ?_; rfl) | (refine rg_t 22 (v := ?_) rfl (by kernel_rfl) (fun _ _ _ h => h) HS3 ?_ ?_ ?_; rotate_left; rfl; focus (intro w hSw; (try dsimp only at hSw); go_simp; all_goals (with_reducible rfl)))
            simp only [Act.put, l_a, l_s, l_z]
            refine wpAnyH_done (by kernel_rfl) ?_ _
            go_wp2_with fail
            refine bodyPost_ret (v := .tuple #[.agg (metaA m), .bool true]) ?_ rfl ⟨by rw [HP.out], ?_⟩
            · exact results_two rfl _ _ br _ _ _ _ rfl rfl hbb _ Tryz.underlying119 rfl (infoMs _)
            · exact (HK10.drew.trans hka).then hkb (fun i hi e => absurd hbr (by rw [← e]; exact Nat.not_le.2 hi))
          · have hlb : decide (g2 < long) = false := by simpa using hll
            have HC : Hid (¬ (m.root = 0 ∨ (2 ≤ m.root ∧ m.root < long))) := Lib.hid (by rw [HROOT.out]; omega)
            clear hll h2g hz
            have HP : Hid (metaAt (s, 0) pg long = (m, false)) := by
              unfold Hid metaAt
              rw [if_pos ⟨rfl, HMM.out, by rw [HPS.out]; exact HFT.out⟩, HPS.out]
              simp only [Prod.mk.injEq, true_and]
              first
                | (rw [decide_eq_true_eq]; exact ⟨HE.out, HC.out⟩)
                | (rw [decide_eq_false_iff_not]; exact fun h => HE.out h.1)
                | (rw [decide_eq_false_iff_not]; exact fun h => HC.out h.2)
            refine wp_region_held_drew (S := (fun w' => w'.rangeAt bm 0 (metaA m).toList ∧ w'.rangeAt b8 0 (secA s).toList ∧ w'.cell? ⟨bm, 1, none⟩ = some (.int .i64 g2) ∧ (∃ m0, w'.heap[br]? = some (.cells (metaA m0) 119 (0, 0))))) (by kernel_rfl) HS (fun _ => ?_)
            refine rg_load 0 rfl (by kernel_rfl) (by kernel_rfl) (by kernel_rfl) (metaA m) (fun _ _ _ h => h) HS (by rfl) bm 0 rfl (fun _ h => h.1) _ Tryz.underlying119 rfl (infoMs _) ?_
            simp only [Act.put, l_a, l_s, l_z]
            refine rg_load 1 rfl (by kernel_rfl) (by kernel_rfl) (by kernel_rfl) (metaA m) (fun _ _ _ h => h) HS (by rfl) bm 0 rfl (fun _ h => h.1) _ Tryz.underlying119 rfl (infoMs _) ?_
            simp only [Act.put, l_a, l_s, l_z]
            refine rg_load 3 rfl (by kernel_rfl) (by kernel_rfl) (by kernel_rfl) (secA s) (fun _ _ _ h => h) HS (by rfl) b8 0 rfl (fun _ h => h.2.1) _ Tryz.underlying62 rfl (info28s _) ?_
            simp only [Act.put, l_a, l_s, l_z]
            refine rg_one 2 rfl (by kernel_rfl) (by rfl) ?_
            refine rg_call 84 _ _ rfl _ Tryz.func84 (by kernel_rfl) (by kernel_rfl) [.agg (metaA m)] rfl (sector9_calls _ m HMO.out) ?_
            rintro e wa ⟨rfl, hka⟩
            have HBA := hka.blk HBR10 (by simp)
            have HS2 : (fun w' => w'.rangeAt bm 0 (metaA m).toList ∧ w'.rangeAt b8 0 (secA s).toList ∧ w'.cell? ⟨bm, 1, none⟩ = some (.int .i64 g2) ∧ (∃ m0, w'.heap[br]? = some (.cells (metaA m0) 119 (0, 0)))) wa := ⟨Keeps.rangeK hka HS.1, Keeps.rangeK hka HS.2.1, Keeps.cellK hka HS.2.2.1, _, HBA⟩
            refine ⟨_, rfl, HS2, ?_⟩
            simp only [Act.put, l_a, l_s, l_z]
            first | (refine rg_s 4 rfl (by kernel_rfl) (fun _ _ _ h => h) HS2 ?_ ?_; rfl) | (refine rg_t 4 (v := ?_) rfl (by kernel_rfl) (fun _ _ _ h => h) HS2 ?_ ?_ ?_; rotate_left; rfl; focus (intro w hSw; (try dsimp only at hSw); go_simp; all_goals (with_reducible rfl)))
            simp only [Act.put, l_a, l_s, l_z]
            first | (refine rg_s 5 rfl (by kernel_rfl) (fun _ _ _ h => h) HS2 ?_ ?_; rfl) | (refine rg_t 5 (v := ?_) rfl (by kernel_rfl) (fun _ _ _ h => h) HS2 ?_ ?_ ?_; rotate_left; rfl; focus (intro w hSw; (try dsimp only at hSw); go_simp; all_goals (with_reducible rfl)))
            simp only [Act.put, l_a, l_s, l_z]
            first | (refine rg_s 6 rfl (by kernel_rfl) (fun _ _ _ h => h) HS2 ?_ ?_; rfl) | (refine rg_t 6 (v := ?_) rfl (by kernel_rfl) (fun _ _ _ h => h) HS2 ?_ ?_ ?_; rotate_left; rfl; focus (intro w hSw; (try dsimp only at hSw); go_simp; all_goals (with_reducible rfl)))
            simp only [Act.put, l_a, l_s, l_z]
            first | (refine rg_s 7 rfl (by kernel_rfl) (fun _ _ _ h => h) HS2 ?_ ?_; rfl) | (refine rg_t 7 (v := ?_) rfl (by kernel_rfl) (fun _ _ _ h => h) HS2 ?_ ?_ ?_; rotate_left; rfl; focus (intro w hSw; (try dsimp only at hSw); go_simp; all_goals (with_reducible rfl)))
            simp only [Act.put, l_a, l_s, l_z]
            first | (refine rg_s 8 rfl (by kernel_rfl) (fun _ _ _ h => h) HS2 ?_ ?_; rfl) | (refine rg_t 8 (v := ?_) rfl (by kernel_rfl) (fun _ _ _ h => h) HS2 ?_ ?_ ?_; rotate_left; rfl; focus (intro w hSw; (try dsimp only at hSw); go_simp; all_goals (with_reducible rfl)))
            simp only [Act.put, l_a, l_s, l_z]
            first | (refine rg_s 9 rfl (by kernel_rfl) (fun _ _ _ h => h) HS2 ?_ ?_; rfl) | (refine rg_t 9 (v := ?_) rfl (by kernel_rfl) (fun _ _ _ h => h) HS2 ?_ ?_ ?_; rotate_left; rfl; focus (intro w hSw; (try dsimp only at hSw); go_simp; all_goals (with_reducible rfl)))
            simp only [Act.put, l_a, l_s, l_z]
            first | (refine rg_s 10 rfl (by kernel_rfl) (fun _ _ _ h => h) HS2 ?_ ?_; rfl) | (refine rg_t 10 (v := ?_) rfl (by kernel_rfl) (fun _ _ _ h => h) HS2 ?_ ?_ ?_; rotate_left; rfl; focus (intro w hSw; (try dsimp only at hSw); go_simp; all_goals (with_reducible rfl)))
            simp only [Act.put, l_a, l_s, l_z]
            first | (refine rg_s 11 rfl (by kernel_rfl) (fun _ _ _ h => h) HS2 ?_ ?_; rfl) | (refine rg_t 11 (v := ?_) rfl (by kernel_rfl) (fun _ _ _ h => h) HS2 ?_ ?_ ?_; rotate_left; rfl; focus (intro w hSw; (try dsimp only at hSw); go_simp; all_goals (with_reducible rfl)))
            simp only [Act.put, l_a, l_s, l_z]
            first | (refine rg_s 12 rfl (by kernel_rfl) (fun _ _ _ h => h) HS2 ?_ ?_; rfl) | (refine rg_t 12 (v := ?_) rfl (by kernel_rfl) (fun _ _ _ h => h) HS2 ?_ ?_ ?_; rotate_left; rfl; focus (intro w hSw; (try dsimp only at hSw); go_simp; all_goals (with_reducible rfl)))
            simp only [Act.put, l_a, l_s, l_z]
            first | (refine rg_s 13 rfl (by kernel_rfl) (fun _ _ _ h => h) HS2 ?_ ?_; rfl) | (refine rg_t 13 (v := ?_) rfl (by kernel_rfl) (fun _ _ _ h => h) HS2 ?_ ?_ ?_; rotate_left; rfl; focus (intro w hSw; (try dsimp only at hSw); go_simp; all_goals (with_reducible rfl)))
            simp only [Act.put, l_a, l_s, l_z]
            first | (refine rg_s 14 rfl (by kernel_rfl) (fun _ _ _ h => h) HS2 ?_ ?_; rfl) | (refine rg_t 14 (v := ?_) rfl (by kernel_rfl) (fun _ _ _ h => h) HS2 ?_ ?_ ?_; rotate_left; rfl; focus (intro w hSw; (try dsimp only at hSw); go_simp; all_goals (with_reducible rfl)))
            simp only [Act.put, l_a, l_s, l_z]
            first | (refine rg_s 15 rfl (by kernel_rfl) (fun _ _ _ h => h) HS2 ?_ ?_; rfl) | (refine rg_t 15 (v := ?_) rfl (by kernel_rfl) (fun _ _ _ h => h) HS2 ?_ ?_ ?_; rotate_left; rfl; focus (intro w hSw; (try dsimp only at hSw); go_simp; all_goals (with_reducible rfl)))
            simp only [Act.put, l_a, l_s, l_z]
            first | (refine rg_s 16 rfl (by kernel_rfl) (fun _ _ _ h => h) HS2 ?_ ?_; rfl) | (refine rg_t 16 (v := ?_) rfl (by kernel_rfl) (fun _ _ _ h => h) HS2 ?_ ?_ ?_; rotate_left; rfl; focus (intro w hSw; (try dsimp only at hSw); go_simp; all_goals (with_reducible rfl)))
            simp only [Act.put, l_a, l_s, l_z]
            first | (refine rg_s 17 rfl (by kernel_rfl) (fun _ _ _ h => h) HS2 ?_ ?_; rfl) | (refine rg_t 17 (v := ?_) rfl (by kernel_rfl) (fun _ _ _ h => h) HS2 ?_ ?_ ?_; rotate_left; rfl; focus (intro w hSw; (try dsimp only at hSw); go_simp; all_goals (with_reducible rfl)))
            simp only [Act.put, l_a, l_s, l_z]
            first | (refine rg_s 18 rfl (by kernel_rfl) (fun _ _ _ h => h) HS2 ?_ ?_; rfl) | (refine rg_t 18 (v := ?_) rfl (by kernel_rfl) (fun _ _ _ h => h) HS2 ?_ ?_ ?_; rotate_left; rfl; focus (intro w hSw; (try dsimp only at hSw); go_simp; all_goals (with_reducible rfl)))
            simp only [Act.put, l_a, l_s, l_z]
            first | (refine rg_s 19 rfl (by kernel_rfl) (fun _ _ _ h => h) HS2 ?_ ?_; rfl) | (refine rg_t 19 (v := ?_) rfl (by kernel_rfl) (fun _ _ _ h => h) HS2 ?_ ?_ ?_; rotate_left; rfl; focus (intro w hSw; (try dsimp only at hSw); go_simp; all_goals (with_reducible rfl)))
            simp only [Act.put, l_a, l_s, l_z]
            first | (refine rg_s 20 rfl (by kernel_rfl) (fun _ _ _ h => h) HS2 ?_ ?_; rfl) | (refine rg_t 20 (v := ?_) rfl (by kernel_rfl) (fun _ _ _ h => h) HS2 ?_ ?_ ?_; rotate_left; rfl; focus (intro w hSw; (try dsimp only at hSw); go_simp; all_goals (with_reducible rfl)))
            simp only [Act.put, l_a, l_s, l_z]
            refine rg_one 21 rfl (by kernel_rfl) (by rfl) ?_
            refine wp_store_agg 119 _ _ rfl br 0 rfl _ _ HBA (metaA m) rfl (metaA m) (store_meta _ _) (Nat.le_refl 4) (infoMs _) (metaA_one _) ?_
            intro wb hbb hkb
            have HS3 : (fun w' => w'.rangeAt bm 0 (metaA m).toList ∧ w'.rangeAt b8 0 (secA s).toList ∧ w'.cell? ⟨bm, 1, none⟩ = some (.int .i64 g2) ∧ (∃ m0, w'.heap[br]? = some (.cells (metaA m0) 119 (0, 0)))) wb := ⟨range_far hkb hmr HS2.1, range_far hkb h8r HS2.2.1, (hkb.cell (p := ⟨bm, 1, none⟩) (cell_ltK HS2.2.2.1) hmr).trans HS2.2.2.1, _, hbb⟩
            refine ⟨HS3, ?_⟩
            simp only [Act.put, l_a, l_s, l_z]
            first | (refine rg_s 22 rfl (by kernel_rfl) (fun _ _ _ h => h) HS3 ?_ ?_; rfl) | (refine rg_t 22 (v := ?_) rfl (by kernel_rfl) (fun _ _ _ h => h) HS3 ?_ ?_ ?_; rotate_left; rfl; focus (intro w hSw; (try dsimp only at hSw); go_simp; all_goals (with_reducible rfl)))
            simp only [Act.put, l_a, l_s, l_z]
            refine wpAnyH_done (by kernel_rfl) ?_ _
            go_wp2_with fail
            refine bodyPost_ret (v := .tuple #[.agg (metaA m), .bool false]) ?_ rfl ⟨by rw [HP.out], ?_⟩
            · exact results_two rfl _ _ br _ _ _ _ rfl rfl hbb _ Tryz.underlying119 rfl (infoMs _)
            · exact (HK10.drew.trans hka).then hkb (fun i hi e => absurd hbr (by rw [← e]; exact Nat.not_le.2 hi))
        · have h2i : (g2 : Int) < 2 := by omega
          have h2j : decide ((2 : Int) ≤ g2) = false := decide_eq_false (by omega)
          have h2k : decide (2 ≤ g2) = false := decide_eq_false (by omega)
          have h2l : ¬ (2 : Int) ≤ g2 := by omega
          have HC : Hid (¬ (m.root = 0 ∨ (2 ≤ m.root ∧ m.root < long))) := Lib.hid (by rw [HROOT.out]; omega)
          clear h2g hz
          have HP : Hid (metaAt (s, 0) pg long = (m, false)) := by
            unfold Hid metaAt
            rw [if_pos ⟨rfl, HMM.out, by rw [HPS.out]; exact HFT.out⟩, HPS.out]
            simp only [Prod.mk.injEq, true_and]
            first
              | (rw [decide_eq_true_eq]; exact ⟨HE.out, HC.out⟩)
              | (rw [decide_eq_false_iff_not]; exact fun h => HE.out h.1)
              | (rw [decide_eq_false_iff_not]; exact fun h => HC.out h.2)
          refine wp_region_held_drew (S := (fun w' => w'.rangeAt bm 0 (metaA m).toList ∧ w'.rangeAt b8 0 (secA s).toList ∧ w'.cell? ⟨bm, 1, none⟩ = some (.int .i64 g2) ∧ (∃ m0, w'.heap[br]? = some (.cells (metaA m0) 119 (0, 0))))) (by kernel_rfl) HS (fun _ => ?_)
          refine rg_load 0 rfl (by kernel_rfl) (by kernel_rfl) (by kernel_rfl) (metaA m) (fun _ _ _ h => h) HS (by rfl) bm 0 rfl (fun _ h => h.1) _ Tryz.underlying119 rfl (infoMs _) ?_
          simp only [Act.put, l_a, l_s, l_z]
          refine rg_load 1 rfl (by kernel_rfl) (by kernel_rfl) (by kernel_rfl) (metaA m) (fun _ _ _ h => h) HS (by rfl) bm 0 rfl (fun _ h => h.1) _ Tryz.underlying119 rfl (infoMs _) ?_
          simp only [Act.put, l_a, l_s, l_z]
          refine rg_load 3 rfl (by kernel_rfl) (by kernel_rfl) (by kernel_rfl) (secA s) (fun _ _ _ h => h) HS (by rfl) b8 0 rfl (fun _ h => h.2.1) _ Tryz.underlying62 rfl (info28s _) ?_
          simp only [Act.put, l_a, l_s, l_z]
          refine rg_one 2 rfl (by kernel_rfl) (by rfl) ?_
          refine rg_call 84 _ _ rfl _ Tryz.func84 (by kernel_rfl) (by kernel_rfl) [.agg (metaA m)] rfl (sector9_calls _ m HMO.out) ?_
          rintro e wa ⟨rfl, hka⟩
          have HBA := hka.blk HBR10 (by simp)
          have HS2 : (fun w' => w'.rangeAt bm 0 (metaA m).toList ∧ w'.rangeAt b8 0 (secA s).toList ∧ w'.cell? ⟨bm, 1, none⟩ = some (.int .i64 g2) ∧ (∃ m0, w'.heap[br]? = some (.cells (metaA m0) 119 (0, 0)))) wa := ⟨Keeps.rangeK hka HS.1, Keeps.rangeK hka HS.2.1, Keeps.cellK hka HS.2.2.1, _, HBA⟩
          refine ⟨_, rfl, HS2, ?_⟩
          simp only [Act.put, l_a, l_s, l_z]
          first | (refine rg_s 4 rfl (by kernel_rfl) (fun _ _ _ h => h) HS2 ?_ ?_; rfl) | (refine rg_t 4 (v := ?_) rfl (by kernel_rfl) (fun _ _ _ h => h) HS2 ?_ ?_ ?_; rotate_left; rfl; focus (intro w hSw; (try dsimp only at hSw); go_simp; all_goals (with_reducible rfl)))
          simp only [Act.put, l_a, l_s, l_z]
          first | (refine rg_s 5 rfl (by kernel_rfl) (fun _ _ _ h => h) HS2 ?_ ?_; rfl) | (refine rg_t 5 (v := ?_) rfl (by kernel_rfl) (fun _ _ _ h => h) HS2 ?_ ?_ ?_; rotate_left; rfl; focus (intro w hSw; (try dsimp only at hSw); go_simp; all_goals (with_reducible rfl)))
          simp only [Act.put, l_a, l_s, l_z]
          first | (refine rg_s 6 rfl (by kernel_rfl) (fun _ _ _ h => h) HS2 ?_ ?_; rfl) | (refine rg_t 6 (v := ?_) rfl (by kernel_rfl) (fun _ _ _ h => h) HS2 ?_ ?_ ?_; rotate_left; rfl; focus (intro w hSw; (try dsimp only at hSw); go_simp; all_goals (with_reducible rfl)))
          simp only [Act.put, l_a, l_s, l_z]
          first | (refine rg_s 7 rfl (by kernel_rfl) (fun _ _ _ h => h) HS2 ?_ ?_; rfl) | (refine rg_t 7 (v := ?_) rfl (by kernel_rfl) (fun _ _ _ h => h) HS2 ?_ ?_ ?_; rotate_left; rfl; focus (intro w hSw; (try dsimp only at hSw); go_simp; all_goals (with_reducible rfl)))
          simp only [Act.put, l_a, l_s, l_z]
          first | (refine rg_s 8 rfl (by kernel_rfl) (fun _ _ _ h => h) HS2 ?_ ?_; rfl) | (refine rg_t 8 (v := ?_) rfl (by kernel_rfl) (fun _ _ _ h => h) HS2 ?_ ?_ ?_; rotate_left; rfl; focus (intro w hSw; (try dsimp only at hSw); go_simp; all_goals (with_reducible rfl)))
          simp only [Act.put, l_a, l_s, l_z]
          first | (refine rg_s 9 rfl (by kernel_rfl) (fun _ _ _ h => h) HS2 ?_ ?_; rfl) | (refine rg_t 9 (v := ?_) rfl (by kernel_rfl) (fun _ _ _ h => h) HS2 ?_ ?_ ?_; rotate_left; rfl; focus (intro w hSw; (try dsimp only at hSw); go_simp; all_goals (with_reducible rfl)))
          simp only [Act.put, l_a, l_s, l_z]
          first | (refine rg_s 10 rfl (by kernel_rfl) (fun _ _ _ h => h) HS2 ?_ ?_; rfl) | (refine rg_t 10 (v := ?_) rfl (by kernel_rfl) (fun _ _ _ h => h) HS2 ?_ ?_ ?_; rotate_left; rfl; focus (intro w hSw; (try dsimp only at hSw); go_simp; all_goals (with_reducible rfl)))
          simp only [Act.put, l_a, l_s, l_z]
          first | (refine rg_s 11 rfl (by kernel_rfl) (fun _ _ _ h => h) HS2 ?_ ?_; rfl) | (refine rg_t 11 (v := ?_) rfl (by kernel_rfl) (fun _ _ _ h => h) HS2 ?_ ?_ ?_; rotate_left; rfl; focus (intro w hSw; (try dsimp only at hSw); go_simp; all_goals (with_reducible rfl)))
          simp only [Act.put, l_a, l_s, l_z]
          first | (refine rg_s 12 rfl (by kernel_rfl) (fun _ _ _ h => h) HS2 ?_ ?_; rfl) | (refine rg_t 12 (v := ?_) rfl (by kernel_rfl) (fun _ _ _ h => h) HS2 ?_ ?_ ?_; rotate_left; rfl; focus (intro w hSw; (try dsimp only at hSw); go_simp; all_goals (with_reducible rfl)))
          simp only [Act.put, l_a, l_s, l_z]
          first | (refine rg_s 13 rfl (by kernel_rfl) (fun _ _ _ h => h) HS2 ?_ ?_; rfl) | (refine rg_t 13 (v := ?_) rfl (by kernel_rfl) (fun _ _ _ h => h) HS2 ?_ ?_ ?_; rotate_left; rfl; focus (intro w hSw; (try dsimp only at hSw); go_simp; all_goals (with_reducible rfl)))
          simp only [Act.put, l_a, l_s, l_z]
          first | (refine rg_s 14 rfl (by kernel_rfl) (fun _ _ _ h => h) HS2 ?_ ?_; rfl) | (refine rg_t 14 (v := ?_) rfl (by kernel_rfl) (fun _ _ _ h => h) HS2 ?_ ?_ ?_; rotate_left; rfl; focus (intro w hSw; (try dsimp only at hSw); go_simp; all_goals (with_reducible rfl)))
          simp only [Act.put, l_a, l_s, l_z]
          first | (refine rg_s 15 rfl (by kernel_rfl) (fun _ _ _ h => h) HS2 ?_ ?_; rfl) | (refine rg_t 15 (v := ?_) rfl (by kernel_rfl) (fun _ _ _ h => h) HS2 ?_ ?_ ?_; rotate_left; rfl; focus (intro w hSw; (try dsimp only at hSw); go_simp; all_goals (with_reducible rfl)))
          simp only [Act.put, l_a, l_s, l_z]
          first | (refine rg_s 16 rfl (by kernel_rfl) (fun _ _ _ h => h) HS2 ?_ ?_; rfl) | (refine rg_t 16 (v := ?_) rfl (by kernel_rfl) (fun _ _ _ h => h) HS2 ?_ ?_ ?_; rotate_left; rfl; focus (intro w hSw; (try dsimp only at hSw); go_simp; all_goals (with_reducible rfl)))
          simp only [Act.put, l_a, l_s, l_z]
          first | (refine rg_s 17 rfl (by kernel_rfl) (fun _ _ _ h => h) HS2 ?_ ?_; rfl) | (refine rg_t 17 (v := ?_) rfl (by kernel_rfl) (fun _ _ _ h => h) HS2 ?_ ?_ ?_; rotate_left; rfl; focus (intro w hSw; (try dsimp only at hSw); go_simp; all_goals (with_reducible rfl)))
          simp only [Act.put, l_a, l_s, l_z]
          first | (refine rg_s 18 rfl (by kernel_rfl) (fun _ _ _ h => h) HS2 ?_ ?_; rfl) | (refine rg_t 18 (v := ?_) rfl (by kernel_rfl) (fun _ _ _ h => h) HS2 ?_ ?_ ?_; rotate_left; rfl; focus (intro w hSw; (try dsimp only at hSw); go_simp; all_goals (with_reducible rfl)))
          simp only [Act.put, l_a, l_s, l_z]
          first | (refine rg_s 19 rfl (by kernel_rfl) (fun _ _ _ h => h) HS2 ?_ ?_; rfl) | (refine rg_t 19 (v := ?_) rfl (by kernel_rfl) (fun _ _ _ h => h) HS2 ?_ ?_ ?_; rotate_left; rfl; focus (intro w hSw; (try dsimp only at hSw); go_simp; all_goals (with_reducible rfl)))
          simp only [Act.put, l_a, l_s, l_z]
          first | (refine rg_s 20 rfl (by kernel_rfl) (fun _ _ _ h => h) HS2 ?_ ?_; rfl) | (refine rg_t 20 (v := ?_) rfl (by kernel_rfl) (fun _ _ _ h => h) HS2 ?_ ?_ ?_; rotate_left; rfl; focus (intro w hSw; (try dsimp only at hSw); go_simp; all_goals (with_reducible rfl)))
          simp only [Act.put, l_a, l_s, l_z]
          refine rg_one 21 rfl (by kernel_rfl) (by rfl) ?_
          refine wp_store_agg 119 _ _ rfl br 0 rfl _ _ HBA (metaA m) rfl (metaA m) (store_meta _ _) (Nat.le_refl 4) (infoMs _) (metaA_one _) ?_
          intro wb hbb hkb
          have HS3 : (fun w' => w'.rangeAt bm 0 (metaA m).toList ∧ w'.rangeAt b8 0 (secA s).toList ∧ w'.cell? ⟨bm, 1, none⟩ = some (.int .i64 g2) ∧ (∃ m0, w'.heap[br]? = some (.cells (metaA m0) 119 (0, 0)))) wb := ⟨range_far hkb hmr HS2.1, range_far hkb h8r HS2.2.1, (hkb.cell (p := ⟨bm, 1, none⟩) (cell_ltK HS2.2.2.1) hmr).trans HS2.2.2.1, _, hbb⟩
          refine ⟨HS3, ?_⟩
          simp only [Act.put, l_a, l_s, l_z]
          first | (refine rg_s 22 rfl (by kernel_rfl) (fun _ _ _ h => h) HS3 ?_ ?_; rfl) | (refine rg_t 22 (v := ?_) rfl (by kernel_rfl) (fun _ _ _ h => h) HS3 ?_ ?_ ?_; rotate_left; rfl; focus (intro w hSw; (try dsimp only at hSw); go_simp; all_goals (with_reducible rfl)))
          simp only [Act.put, l_a, l_s, l_z]
          refine wpAnyH_done (by kernel_rfl) ?_ _
          go_wp2_with fail
          refine bodyPost_ret (v := .tuple #[.agg (metaA m), .bool false]) ?_ rfl ⟨by rw [HP.out], ?_⟩
          · exact results_two rfl _ _ br _ _ _ _ rfl rfl hbb _ Tryz.underlying119 rfl (infoMs _)
          · exact (HK10.drew.trans hka).then hkb (fun i hi e => absurd hbr (by rw [← e]; exact Nat.not_le.2 hi))
    · have HE := Lib.hid hes
      have hg1 : ∀ (x y : Operand) (W : World), (eqGuard BinOp.eql 62 x y (secV (metaS m)) (.agg (secA s))).run Tryz.prog W = .ok () W := fun x y W => run_guard_sec W _ x y _ _
      have hg2 : ∀ (W : World), (binOp BinOp.eql 62 (secV (metaS m)) (.agg (secA s))).run Tryz.prog W = .ok (.bool false) W := fun W => by
        have := run_eql_sec W (metaS m) s
        rw [show secV s = .agg (secA s) from rfl] at this
        rw [this]; simp [HE.out]
      clear hes
      have HC := trivial
      have HP : Hid (metaAt (s, 0) pg long = (m, false)) := by
        unfold Hid metaAt
        rw [if_pos ⟨rfl, HMM.out, by rw [HPS.out]; exact HFT.out⟩, HPS.out]
        simp only [Prod.mk.injEq, true_and]
        first
          | (rw [decide_eq_true_eq]; exact ⟨HE.out, HC.out⟩)
          | (rw [decide_eq_false_iff_not]; exact fun h => HE.out h.1)
          | (rw [decide_eq_false_iff_not]; exact fun h => HC.out h.2)
      refine wp_region_held_drew (S := (fun w' => w'.rangeAt bm 0 (metaA m).toList ∧ w'.rangeAt b8 0 (secA s).toList ∧ w'.cell? ⟨bm, 1, none⟩ = some (.int .i64 g2) ∧ (∃ m0, w'.heap[br]? = some (.cells (metaA m0) 119 (0, 0))))) (by kernel_rfl) HS (fun _ => ?_)
      refine rg_load 0 rfl (by kernel_rfl) (by kernel_rfl) (by kernel_rfl) (metaA m) (fun _ _ _ h => h) HS (by rfl) bm 0 rfl (fun _ h => h.1) _ Tryz.underlying119 rfl (infoMs _) ?_
      simp only [Act.put, l_a, l_s, l_z]
      refine rg_load 1 rfl (by kernel_rfl) (by kernel_rfl) (by kernel_rfl) (metaA m) (fun _ _ _ h => h) HS (by rfl) bm 0 rfl (fun _ h => h.1) _ Tryz.underlying119 rfl (infoMs _) ?_
      simp only [Act.put, l_a, l_s, l_z]
      refine rg_load 3 rfl (by kernel_rfl) (by kernel_rfl) (by kernel_rfl) (secA s) (fun _ _ _ h => h) HS (by rfl) b8 0 rfl (fun _ h => h.2.1) _ Tryz.underlying62 rfl (info28s _) ?_
      simp only [Act.put, l_a, l_s, l_z]
      refine rg_one 2 rfl (by kernel_rfl) (by rfl) ?_
      refine rg_call 84 _ _ rfl _ Tryz.func84 (by kernel_rfl) (by kernel_rfl) [.agg (metaA m)] rfl (sector9_calls _ m HMO.out) ?_
      rintro e wa ⟨rfl, hka⟩
      have HBA := hka.blk HBR10 (by simp)
      have HS2 : (fun w' => w'.rangeAt bm 0 (metaA m).toList ∧ w'.rangeAt b8 0 (secA s).toList ∧ w'.cell? ⟨bm, 1, none⟩ = some (.int .i64 g2) ∧ (∃ m0, w'.heap[br]? = some (.cells (metaA m0) 119 (0, 0)))) wa := ⟨Keeps.rangeK hka HS.1, Keeps.rangeK hka HS.2.1, Keeps.cellK hka HS.2.2.1, _, HBA⟩
      refine ⟨_, rfl, HS2, ?_⟩
      simp only [Act.put, l_a, l_s, l_z]
      first | (refine rg_s 4 rfl (by kernel_rfl) (fun _ _ _ h => h) HS2 ?_ ?_; rfl) | (refine rg_t 4 (v := ?_) rfl (by kernel_rfl) (fun _ _ _ h => h) HS2 ?_ ?_ ?_; rotate_left; rfl; focus (intro w hSw; (try dsimp only at hSw); go_simp; all_goals (with_reducible rfl)))
      simp only [Act.put, l_a, l_s, l_z]
      first | (refine rg_s 5 rfl (by kernel_rfl) (fun _ _ _ h => h) HS2 ?_ ?_; rfl) | (refine rg_t 5 (v := ?_) rfl (by kernel_rfl) (fun _ _ _ h => h) HS2 ?_ ?_ ?_; rotate_left; rfl; focus (intro w hSw; (try dsimp only at hSw); go_simp; all_goals (with_reducible rfl)))
      simp only [Act.put, l_a, l_s, l_z]
      first | (refine rg_s 6 rfl (by kernel_rfl) (fun _ _ _ h => h) HS2 ?_ ?_; rfl) | (refine rg_t 6 (v := ?_) rfl (by kernel_rfl) (fun _ _ _ h => h) HS2 ?_ ?_ ?_; rotate_left; rfl; focus (intro w hSw; (try dsimp only at hSw); go_simp; all_goals (with_reducible rfl)))
      simp only [Act.put, l_a, l_s, l_z]
      first | (refine rg_s 7 rfl (by kernel_rfl) (fun _ _ _ h => h) HS2 ?_ ?_; rfl) | (refine rg_t 7 (v := ?_) rfl (by kernel_rfl) (fun _ _ _ h => h) HS2 ?_ ?_ ?_; rotate_left; rfl; focus (intro w hSw; (try dsimp only at hSw); go_simp; all_goals (with_reducible rfl)))
      simp only [Act.put, l_a, l_s, l_z]
      first | (refine rg_s 8 rfl (by kernel_rfl) (fun _ _ _ h => h) HS2 ?_ ?_; rfl) | (refine rg_t 8 (v := ?_) rfl (by kernel_rfl) (fun _ _ _ h => h) HS2 ?_ ?_ ?_; rotate_left; rfl; focus (intro w hSw; (try dsimp only at hSw); go_simp; all_goals (with_reducible rfl)))
      simp only [Act.put, l_a, l_s, l_z]
      first | (refine rg_s 9 rfl (by kernel_rfl) (fun _ _ _ h => h) HS2 ?_ ?_; rfl) | (refine rg_t 9 (v := ?_) rfl (by kernel_rfl) (fun _ _ _ h => h) HS2 ?_ ?_ ?_; rotate_left; rfl; focus (intro w hSw; (try dsimp only at hSw); go_simp; all_goals (with_reducible rfl)))
      simp only [Act.put, l_a, l_s, l_z]
      first | (refine rg_s 10 rfl (by kernel_rfl) (fun _ _ _ h => h) HS2 ?_ ?_; rfl) | (refine rg_t 10 (v := ?_) rfl (by kernel_rfl) (fun _ _ _ h => h) HS2 ?_ ?_ ?_; rotate_left; rfl; focus (intro w hSw; (try dsimp only at hSw); go_simp; all_goals (with_reducible rfl)))
      simp only [Act.put, l_a, l_s, l_z]
      first | (refine rg_s 11 rfl (by kernel_rfl) (fun _ _ _ h => h) HS2 ?_ ?_; rfl) | (refine rg_t 11 (v := ?_) rfl (by kernel_rfl) (fun _ _ _ h => h) HS2 ?_ ?_ ?_; rotate_left; rfl; focus (intro w hSw; (try dsimp only at hSw); go_simp; all_goals (with_reducible rfl)))
      simp only [Act.put, l_a, l_s, l_z]
      first | (refine rg_s 12 rfl (by kernel_rfl) (fun _ _ _ h => h) HS2 ?_ ?_; rfl) | (refine rg_t 12 (v := ?_) rfl (by kernel_rfl) (fun _ _ _ h => h) HS2 ?_ ?_ ?_; rotate_left; rfl; focus (intro w hSw; (try dsimp only at hSw); go_simp; all_goals (with_reducible rfl)))
      simp only [Act.put, l_a, l_s, l_z]
      first | (refine rg_s 13 rfl (by kernel_rfl) (fun _ _ _ h => h) HS2 ?_ ?_; rfl) | (refine rg_t 13 (v := ?_) rfl (by kernel_rfl) (fun _ _ _ h => h) HS2 ?_ ?_ ?_; rotate_left; rfl; focus (intro w hSw; (try dsimp only at hSw); go_simp; all_goals (with_reducible rfl)))
      simp only [Act.put, l_a, l_s, l_z]
      first | (refine rg_s 14 rfl (by kernel_rfl) (fun _ _ _ h => h) HS2 ?_ ?_; rfl) | (refine rg_t 14 (v := ?_) rfl (by kernel_rfl) (fun _ _ _ h => h) HS2 ?_ ?_ ?_; rotate_left; rfl; focus (intro w hSw; (try dsimp only at hSw); go_simp; all_goals (with_reducible rfl)))
      simp only [Act.put, l_a, l_s, l_z]
      first | (refine rg_s 15 rfl (by kernel_rfl) (fun _ _ _ h => h) HS2 ?_ ?_; rfl) | (refine rg_t 15 (v := ?_) rfl (by kernel_rfl) (fun _ _ _ h => h) HS2 ?_ ?_ ?_; rotate_left; rfl; focus (intro w hSw; (try dsimp only at hSw); go_simp; all_goals (with_reducible rfl)))
      simp only [Act.put, l_a, l_s, l_z]
      first | (refine rg_s 16 rfl (by kernel_rfl) (fun _ _ _ h => h) HS2 ?_ ?_; rfl) | (refine rg_t 16 (v := ?_) rfl (by kernel_rfl) (fun _ _ _ h => h) HS2 ?_ ?_ ?_; rotate_left; rfl; focus (intro w hSw; (try dsimp only at hSw); go_simp; all_goals (with_reducible rfl)))
      simp only [Act.put, l_a, l_s, l_z]
      first | (refine rg_s 17 rfl (by kernel_rfl) (fun _ _ _ h => h) HS2 ?_ ?_; rfl) | (refine rg_t 17 (v := ?_) rfl (by kernel_rfl) (fun _ _ _ h => h) HS2 ?_ ?_ ?_; rotate_left; rfl; focus (intro w hSw; (try dsimp only at hSw); go_simp; all_goals (with_reducible rfl)))
      simp only [Act.put, l_a, l_s, l_z]
      first | (refine rg_s 18 rfl (by kernel_rfl) (fun _ _ _ h => h) HS2 ?_ ?_; rfl) | (refine rg_t 18 (v := ?_) rfl (by kernel_rfl) (fun _ _ _ h => h) HS2 ?_ ?_ ?_; rotate_left; rfl; focus (intro w hSw; (try dsimp only at hSw); go_simp; all_goals (with_reducible rfl)))
      simp only [Act.put, l_a, l_s, l_z]
      first | (refine rg_s 19 rfl (by kernel_rfl) (fun _ _ _ h => h) HS2 ?_ ?_; rfl) | (refine rg_t 19 (v := ?_) rfl (by kernel_rfl) (fun _ _ _ h => h) HS2 ?_ ?_ ?_; rotate_left; rfl; focus (intro w hSw; (try dsimp only at hSw); go_simp; all_goals (with_reducible rfl)))
      simp only [Act.put, l_a, l_s, l_z]
      first | (refine rg_s 20 rfl (by kernel_rfl) (fun _ _ _ h => h) HS2 ?_ ?_; rfl) | (refine rg_t 20 (v := ?_) rfl (by kernel_rfl) (fun _ _ _ h => h) HS2 ?_ ?_ ?_; rotate_left; rfl; focus (intro w hSw; (try dsimp only at hSw); go_simp; all_goals (with_reducible rfl)))
      simp only [Act.put, l_a, l_s, l_z]
      refine rg_one 21 rfl (by kernel_rfl) (by rfl) ?_
      refine wp_store_agg 119 _ _ rfl br 0 rfl _ _ HBA (metaA m) rfl (metaA m) (store_meta _ _) (Nat.le_refl 4) (infoMs _) (metaA_one _) ?_
      intro wb hbb hkb
      have HS3 : (fun w' => w'.rangeAt bm 0 (metaA m).toList ∧ w'.rangeAt b8 0 (secA s).toList ∧ w'.cell? ⟨bm, 1, none⟩ = some (.int .i64 g2) ∧ (∃ m0, w'.heap[br]? = some (.cells (metaA m0) 119 (0, 0)))) wb := ⟨range_far hkb hmr HS2.1, range_far hkb h8r HS2.2.1, (hkb.cell (p := ⟨bm, 1, none⟩) (cell_ltK HS2.2.2.1) hmr).trans HS2.2.2.1, _, hbb⟩
      refine ⟨HS3, ?_⟩
      simp only [Act.put, l_a, l_s, l_z]
      first | (refine rg_s 22 rfl (by kernel_rfl) (fun _ _ _ h => h) HS3 ?_ ?_; rfl) | (refine rg_t 22 (v := ?_) rfl (by kernel_rfl) (fun _ _ _ h => h) HS3 ?_ ?_ ?_; rotate_left; rfl; focus (intro w hSw; (try dsimp only at hSw); go_simp; all_goals (with_reducible rfl)))
      simp only [Act.put, l_a, l_s, l_z]
      refine wpAnyH_done (by kernel_rfl) ?_ _
      go_wp2_with fail
      refine bodyPost_ret (v := .tuple #[.agg (metaA m), .bool false]) ?_ rfl ⟨by rw [HP.out], ?_⟩
      · exact results_two rfl _ _ br _ _ _ _ rfl rfl hbb _ Tryz.underlying119 rfl (infoMs _)
      · exact (HK10.drew.trans hka).then hkb (fun i hi e => absurd hbr (by rw [← e]; exact Nat.not_le.2 hi))
  · have HP : Hid (metaAt (s, 0) pg long = (⟨0, 0, 0, 0⟩, false)) := by
      unfold Hid metaAt
      rw [if_neg (fun h => hf (by have := h.2.2; rwa [HPS.out] at this))]
    have hcase : ((g1 : Int) == 0) = true ∨ (((g1 : Int) == 0) = false ∧ (((g1 : Int) % 2) != (pg : Int)) = true) ∨
        (((g1 : Int) == 0) = false ∧ (((g1 : Int) % 2) != (pg : Int)) = false ∧ (4611686018427387904 : Int) < g2) ∨
        (((g1 : Int) == 0) = false ∧ (((g1 : Int) % 2) != (pg : Int)) = false ∧ (g2 : Int) ≤ 4611686018427387904 ∧ (4611686018427387904 : Int) < g3) := by
      unfold metaFits at hf
      simp only [beq_iff_eq, beq_eq_false_iff_ne, bne_iff_ne, bne_eq_false_iff_eq] at hf ⊢
      omega
    clear hf
    rcases hcase with h1 | ⟨h1, h2⟩ | ⟨h1, h2, h3⟩ | ⟨h1, h2, h3, h4⟩
    all_goals
      go_wp2_with (first
        | (go_at_call 83; refine (slot_calls _ g1).mono ?_; rintro e wx ⟨rfl, rfl⟩)
        | ((with_reducible refine gd_build 119 ?_); refine wl_build0 rfl _ rfl _ buildM0 ?_)
        | ((with_reducible refine gd_store 119 ?_); refine wl_store_agg rfl _ _ _ rfl br _ rfl _ _ HBR9 (metaA ⟨0, 0, 0, 0⟩) rfl (metaA ⟨0, 0, 0, 0⟩) (store_meta _ _) (Nat.le_refl 4) (infoMs _) (metaA_one _) ?_; intro w10 HB10 HK10)
        | fail)
      refine bodyPost_ret (v := .tuple #[.agg (metaA ⟨0, 0, 0, 0⟩), .bool false]) ?_ rfl ⟨by rw [HP.out], ?_⟩
      · exact results_two rfl _ _ br _ _ _ _ rfl rfl HB10 _ Tryz.underlying119 rfl (infoMs _)
      · exact HK9.then HK10 (fun i hi e => absurd hbr (by rw [← e]; exact Nat.not_le.2 hi))

theorem metaAt_calls (w : World) (h : DH) (D : Dv) (pg long : Nat) (hd : isDev w h D) (hid : pg < 2) :
    Calls Tryz.prog 55 #[.pointer (some ⟨h.p, 0, none⟩), .int .i64 pg, .int .i64 long] w (MetaPost w (D.read [112] ((pg : Int) * 8)) pg long) := by
  by_cases he : (D.read [112] ((pg : Int) * 8)).2 = 0
  · obtain ⟨s, e0, hr⟩ : ∃ s e0, D.read [112] ((pg : Int) * 8) = (s, e0) := ⟨_, _, rfl⟩
    rw [hr] at he ⊢
    simp only at he
    subst he
    by_cases hm : s.1.take 8 = markL
    · exact metaAt_more w h D pg long s hd hid hr hm
    · exact metaAt_nomark w h D pg long s hd hid hr hm
  · exact metaAt_bad w h D pg long hd hid he
end Go.Proofs.YtblpkifkaoaicaaGreat

namespace Go.Proofs.YtblpkifkaoaicaaGreat
open Go Go.RowKit Go.Maps Wb

theorem pages_calls (w : World) (h : DH) (D : Dv) (hd : isDev w h D) : Calls Tryz.prog 56 #[.pointer (some ⟨h.p, 0, none⟩)] w fun e w' => e = .returned (.int .i64 (pagesOf D)) ∧ w = w' := by
  have hn : nmOk [112] := nmOk_small (by decide)
  have hl : (D.len [112] : Int) ≤ 100000 := by have := len_small hd.wf [112]; omega
  have hl0 : (0 : Int) ≤ D.len [112] := by omega
  go_enter Tryz.func56, Tryz.ntmps56
  go_wp2_with fail
  refine (len_calls _ h D [112] hd hn).mono ?_
  rintro e w' ⟨rfl, rfl⟩
  go_wp2
  go_ret
  exact ⟨rfl, rfl⟩

/-- Where it lies. -/
structure FH where
  f : Nat
  dev : DH
  bu : Nat
  fv : Value
  lo : Nat
def FH.S (H : FH) : Nat → Prop := fun i => i = H.f ∨ H.dev.S i ∨ i = H.bu ∨ H.fv.ownBlock = some i
def usedF (u : Nat → Bool) (v : Value) : Option Value :=
  match v with
  | .int .i64 k => if 0 ≤ k ∧ u k.toNat = true then some (.int .i64 1) else none
  | _ => none
def intsV (l : List Nat) : List Value := l.map fun (k : Nat) => Value.int .i64 k
def fileA (F : Pg) (H : FH) : Array Value := #[.pointer (some ⟨H.dev.p, 0, none⟩), .int .u64 F.mt.gen, .int .i64 F.mt.root, .int .i64 F.mt.count, .int .u64 F.mt.mark, .map (some H.bu), H.fv, .bool F.dead]
structure isFile (w : World) (H : FH) (F : Pg) : Prop where
  blk : w.heap[H.f]? = some (.cells (fileA F H) 121 (0, 0))
  dev : isDev w H.dev F.d
  used : isMap Tryz.prog 3 w H.bu (usedF F.used)
  fresh : isOwn w H.lo 3 H.fv (intsV F.fresh)
  mok : F.mt.ok
  nfd : ¬ H.dev.S H.f
  nfu : H.f ≠ H.bu
  nud : ¬ H.dev.S H.bu
  nvf : H.fv.ownBlock ≠ some H.f
  nvu : H.fv.ownBlock ≠ some H.bu
  nvd : ∀ i, H.fv.ownBlock = some i → ¬ H.dev.S i
  frs : ∀ k ∈ F.fresh, k ≤ 1000000

section
variable {w w' : World} {H : FH} {F : Pg} (hf : isFile w H F)
include hf
theorem isFile.kept {S : Nat → Prop} (hk : Keeps w w' S) (hS : ∀ i, S i → ¬ H.S i) : isFile w' H F :=
  ⟨hk.blk hf.blk (fun h => hS _ h (.inl rfl)), hf.dev.apart hk (fun i h h2 => hS i h (.inr (.inl h2))), hf.used.kept hk (fun h => hS _ h (.inr (.inr (.inl rfl)))),
    hf.fresh.kept hk (fun g hg h => hS g h (.inr (.inr (.inr hg)))), hf.mok, hf.nfd, hf.nfu, hf.nud, hf.nvf, hf.nvu, hf.nvd, hf.frs⟩
theorem isFile.new (hk : Keeps w w' (fun _ => False)) : isFile w' H F := hf.kept hk (fun _ h => h.elim)
theorem isFile.drew : isFile w.drew H F := hf.new (Keeps.refl w _).drew
theorem isFile.drewN (n : Nat) : isFile (w.drewN n) H F := hf.new ((Keeps.refl w _).drewN n)
theorem isFile.c0 : w.cell? ⟨H.f, 0, none⟩ = some (.pointer (some ⟨H.dev.p, 0, none⟩)) := by rw [cell_of_block hf.blk]; rfl
theorem isFile.c1 : w.cell? ⟨H.f, 1, none⟩ = some (.int .u64 F.mt.gen) := by rw [cell_of_block hf.blk]; rfl
theorem isFile.c5 : w.cell? ⟨H.f, 5, none⟩ = some (.map (some H.bu)) := by rw [cell_of_block hf.blk]; rfl
theorem isFile.c6 : w.cell? ⟨H.f, 6, none⟩ = some H.fv := by rw [cell_of_block hf.blk]; rfl
theorem isFile.c7 : w.cell? ⟨H.f, 7, none⟩ = some (.bool F.dead) := by rw [cell_of_block hf.blk]; rfl
theorem isFile.fr (i : Nat) : w.frozen? ⟨H.f, i, none⟩ = false := free_of_block hf.blk i
end

theorem keyedI : Keyed Tryz.prog 3 := int_keyed Tryz.underlying3
theorem keyOkI {k : Int} (h : kOk k) : KeyOk Tryz.prog 3 (.int .i64 k) :=
  ⟨_, keyOf_int_mk Tryz.underlying3 (by unfold kOk at h; simp [Lit.wf, IntKind.min, IntKind.max, IntKind.signed, IntKind.bits]; omega)⟩
theorem used_look {w : World} {b : Nat} {u : Nat → Bool} (hm : isMap Tryz.prog 3 w b (usedF u)) (k : Nat) (hk : k ≤ 1000000) (n : Int) (hn : n = if u k = true then 1 else 0) :
    (Instr.lookup 117 (.map (some b)) (.int .i64 k) false).run Tryz.prog w = .ok (.int .i64 n) w := by
  rw [hm.look keyedI Tryz.underlying117 (zeroI _) (keyOkI (by unfold kOk; omega)) false]
  subst hn
  have h0 : (0 : Int) ≤ k := by omega
  simp only [usedF, h0, true_and, Int.toNat_natCast, Bool.false_eq_true, if_false]
  cases u k <;> simp

theorem flen_calls (w : World) (H : FH) (F : Pg) (hf : isFile w H F) : Calls Tryz.prog 57 #[.pointer (some ⟨H.f, 0, none⟩)] w fun e w' => e = .returned (.int .i64 (pagesOf F.d)) ∧ w = w' := by
  have c0 := hf.c0
  go_enter Tryz.func57, Tryz.ntmps57
  go_wp2_with fail
  refine (pages_calls _ H.dev F.d hf.dev).mono ?_
  rintro e w' ⟨rfl, rfl⟩
  go_wp2
  go_ret
  exact ⟨rfl, rfl⟩

theorem is_calls (w : World) (H : FH) (F : Pg) (hf : isFile w H F) (k : Int) : Calls Tryz.prog 64 #[.pointer (some ⟨H.f, 0, none⟩), .int .i64 k] w fun e w' => e = .returned (.bool (isPg F k)) ∧ w = w' := by
  by_cases h2 : 2 ≤ k
  · by_cases hl : k < pagesOf F.d
    · have HP : Hid (isPg F k = true) := by unfold Hid isPg; simp [h2, hl]
      have hlb : decide (k < (pagesOf F.d : Int)) = true := decide_eq_true hl
      go_enter Tryz.func64, Tryz.ntmps64
      go_wp2_with (go_at_call 57; refine (flen_calls _ H F hf).mono ?_; rintro e w' ⟨rfl, rfl⟩)
      go_ret
      exact ⟨by rw [HP.out]; rfl, rfl⟩
    · have HP : Hid (isPg F k = false) := by unfold Hid isPg; simp [hl]
      have hlb : decide (k < (pagesOf F.d : Int)) = false := decide_eq_false hl
      go_enter Tryz.func64, Tryz.ntmps64
      go_wp2_with (go_at_call 57; refine (flen_calls _ H F hf).mono ?_; rintro e w' ⟨rfl, rfl⟩)
      go_ret
      exact ⟨by rw [HP.out]; rfl, rfl⟩
  · have HP : Hid (isPg F k = false) := by unfold Hid isPg; simp [h2]
    go_enter Tryz.func64, Tryz.ntmps64
    go_wp2
    go_ret
    exact ⟨by rw [HP.out]; rfl, rfl⟩
end Go.Proofs.YtblpkifkaoaicaaGreat
