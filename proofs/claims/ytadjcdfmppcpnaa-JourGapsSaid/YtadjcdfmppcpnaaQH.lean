/- Lemmas and contracts of functions, joined. -/
import Derived.Test.YtadjcdfmppcpnaaYG1
import Derived.Test.YtadjcdfmppcpnaaQT
import Derived.Test.YtadjcdfmppcpnaaYL2
import Derived.Test.YtadjcdfmppcpnaaReg
import Derived.Test.YtadjcdfmppcpnaaRegB
import Derived.Laws.BytesArg
import Derived.Test.YtadjcdfmppcpnaaQP
import Derived.WalkLawsBesides
namespace Go.Proofs.Ytadjcdfmppcpnaa
open Go Go.RowKit Go.Maps Wb

theorem slot_calls (w : World) (g : Nat) : Calls Try.prog 106 #[.int .u64 g] w fun e w' => e = .returned (.int .i64 (g % 2 : Nat)) ∧ w = w' := by
  have h0 : (0 : Int) ≤ g := by omega
  go_enter Try.func106, Try.ntmps106
  go_wp2
  go_ret
  exact ⟨rfl, rfl⟩

theorem strOfNums_bs (l : List UInt8) : strOfNums (l.map fun c => (c.toNat : Int)) = bs l := by
  have h : (strOfNums (l.map fun c => (c.toNat : Int))).data.toList = (bs l).data.toList := by
    rw [strOfNums_data, bs_list, List.map_map]
    conv => rhs; rw [← List.map_id l]
    exact List.map_congr_left fun c _ => by simp
  have h2 := Array.toList_inj.1 h
  cases hs : strOfNums (l.map fun c => (c.toNat : Int)) with
  | mk d =>
    rw [hs] at h2
    unfold bs at h2 ⊢
    simpa using h2

/-- string(b) -/
theorem run_string {w : World} {v : Value} {l : List UInt8} (h : isRd w v (octs l)) (h0 : l ≠ []) : (convert 63 9 v).run Try.prog w = .ok (.string (bs l)) w := by
  obtain ⟨a, cap, rfl, hc, hr⟩ := h
  have hp : 0 < l.length := by cases l with
    | nil => exact absurd rfl h0
    | cons => simp
  obtain ⟨g, o, rfl, _, _⟩ := hr 0 (octV l[0]) (octs_at (List.getElem?_eq_getElem hp))
  rw [← strOfNums_bs]
  refine run_convert_bytes_arg (P := Try.prog) w 63 5 Try.underlying63 Try.underlying5 g o (octs l).length cap (l.map fun c => (c.toNat : Int)) (by rw [List.length_map, octs_len]) (fun i hi => ?_) 9 Try.underlying9
  rw [octs_len] at hi
  obtain ⟨g', o', he, _, h2⟩ := hr i (octV l[i]) (octs_at (List.getElem?_eq_getElem hi))
  cases he
  rw [h2]
  simp [octV, List.getD, hi]

theorem arr_vals {w : World} {b : Nat} {s : Sec} {t : TypeId} (h : w.heap[b]? = some (.cells (secA s) t (0, 0))) (k n : Nat) (hk : k + n ≤ 64) (cap : Nat) (hcap : cap = 64 - k) : isVals w (fun i => i = b) (.slice (some ⟨b, k, none⟩) n cap) (octs ((s.1.drop k).take n)) := by
  have hl : (octs ((s.1.drop k).take n)).length = n := by rw [octs_len, List.length_take, List.length_drop, s.2]; omega
  refine ⟨_, cap, by rw [hl], by omega, by omega, .inr ⟨b, k, rfl, rfl, lt_of_blk h, fun j x hj => ?_⟩⟩
  rw [cell_of_block h]
  have hjl := (List.getElem?_eq_some_iff.1 hj).1
  rw [hl] at hjl
  have h1 : (secA s)[k + j]? = (octs s.1)[k + j]? := by rw [← octs_secA]; simp
  rw [h1, ← hj]
  unfold octs
  rw [List.getElem?_map, List.getElem?_map, List.getElem?_take_of_lt hjl, List.getElem?_drop]

def MetaPost (w : World) (r : Sec × Int) (pg long : Nat) : Ending → World → Prop := Quiet w (.tuple #[.agg (metaA (metaAt r pg long).1), .bool (metaAt r pg long).2])
theorem zeroM (w : World) : (zeroValue 66).run Try.prog w = .ok (.agg (metaA ⟨0, 0, 0, 0⟩)) w := by kernel_rfl
theorem infoM : (Try.prog.info? 66).map (·.size) = some 4 := by kernel_rfl
theorem infoMs (m : Mt) : (Try.prog.info? 66).map (·.size) = some (metaA m).size := infoM
theorem buildM0 (w : World) : (Instr.build 66 #[]).run Try.prog w = .ok (.agg (metaA ⟨0, 0, 0, 0⟩)) w := by kernel_rfl
theorem metaA_one (m : Mt) : (metaA m).all (·.oneCell') = true := by simp [metaA, Value.oneCell']
theorem store_meta (a b : Mt) : Wb.splice (metaA a) 0 (metaA b) = metaA b := store_whole _ _ rfl

set_option maxRecDepth 100000 in
set_option maxHeartbeats 4000000 in
theorem metaAt_bad (w : World) (h : DH) (D : Dv) (pg long : Nat) (hd : isDev w h D) (hid : pg < 2) (he : (D.read [112] ((pg : Int) * 8)).2 ≠ 0) :
    Calls Try.prog 88 #[.pointer (some ⟨h.p, 0, none⟩), .int .i64 pg, .int .i64 long] w (MetaPost w (D.read [112] ((pg : Int) * 8)) pg long) := by
  have hn : nmOk [112] := nmOk_small (by decide)
  have HP : Hid (metaAt (D.read [112] ((pg : Int) * 8)) pg long = (⟨0, 0, 0, 0⟩, false)) := by
    unfold Hid metaAt
    rw [if_neg (fun h => he h.1)]
  have hi0 : (0 : Int) ≤ pg := by omega
  have hi2 : (pg : Int) < 2 := by omega
  obtain ⟨s, e0, hr⟩ : ∃ s e0, D.read [112] ((pg : Int) * 8) = (s, e0) := ⟨_, _, rfl⟩
  rw [hr] at he HP ⊢
  have he' : (e0 == 0) = false := by simpa using he
  have he2 : (e0 != 0) = true := by simpa using he
  have HR := Lib.hid hr
  clear hr he
  go_enter Try.func88, Try.ntmps88
  go_wp2_with (first
    | ((with_reducible refine gd_alloc 66 ?_); refine wl_alloc_agg rfl _ rfl _ zeroM ?_; intro br w1 hbr HBR HKR)
    | fail)
  go_wp2_with fail
  refine (read_calls _ h _ [112] _ (hd.new HKR) hn).mono ?_
  rintro e w2 ⟨he, hk2⟩
  rw [HR.out] at he
  dsimp only at he
  subst he
  have HBR2 := hk2.blk HBR id
  go_wp2_with (first
    | ((with_reducible refine gd_alloc 28 ?_); refine wl_alloc_agg rfl _ rfl _ zero28 ?_; intro b8 w3 hb8 HB8 HK8)
    | ((with_reducible refine gd_store 28 ?_); refine wl_store_agg rfl _ _ _ rfl b8 _ rfl _ _ HB8 (secA s) rfl (secA s) (store_secs _ _) (le_secs _ _) (info28s _) (secA_one _) ?_; intro w4 HB4 HK4; have HBR4 := HK4.blk (HK8.blk HBR2 id) (ne_new HBR2 hb8))
    | ((with_reducible refine gd_build 66 ?_); refine wl_build0 rfl _ rfl _ buildM0 ?_)
    | ((with_reducible refine gd_store 66 ?_); refine wl_store_agg rfl _ _ _ rfl br _ rfl _ _ HBR4 (metaA ⟨0, 0, 0, 0⟩) rfl (metaA ⟨0, 0, 0, 0⟩) (store_meta _ _) (Nat.le_refl 4) (infoMs _) (metaA_one _) ?_; intro w5 HB5 HK5)
    | fail)
  refine bodyPost_ret (v := .tuple #[.agg (metaA ⟨0, 0, 0, 0⟩), .bool false]) ?_ rfl ⟨by rw [HP.out], ?_⟩
  · exact results_two rfl _ _ br _ _ _ _ rfl rfl HB5 _ Try.underlying66 rfl (infoMs _)
  · exact (((HKR.trans hk2).trans HK8).then HK4 (fun i hi e => absurd (Nat.le_trans (HKR.trans hk2).size hb8) (by rw [← e]; exact Nat.not_le.2 hi))).then HK5 (fun i hi e => absurd hbr (by rw [← e]; exact Nat.not_le.2 hi))

theorem mark_eq (l : List UInt8) : ((bs l).toList == [119, 97, 121, 98, 105, 108, 108, 49]) = decide (l = markL) := by
  rw [bs_toList, Bool.eq_iff_iff, beq_iff_eq, decide_eq_true_eq]
  rfl

set_option maxRecDepth 100000 in
set_option maxHeartbeats 4000000 in
theorem metaAt_nomark (w : World) (h : DH) (D : Dv) (pg long : Nat) (s : Sec) (hd : isDev w h D) (hid : pg < 2) (hr : D.read [112] ((pg : Int) * 8) = (s, 0)) (hm : s.1.take 8 ≠ markL) :
    Calls Try.prog 88 #[.pointer (some ⟨h.p, 0, none⟩), .int .i64 pg, .int .i64 long] w (MetaPost w (s, 0) pg long) := by
  have hn : nmOk [112] := nmOk_small (by decide)
  have HP : Hid (metaAt (s, 0) pg long = (⟨0, 0, 0, 0⟩, false)) := by
    unfold Hid metaAt
    rw [if_neg (fun h => hm h.2.1)]
  have hi0 : (0 : Int) ≤ pg := by omega
  have hi2 : (pg : Int) < 2 := by omega
  have HR := Lib.hid hr
  have HM : Hid (((bs (s.1.take 8)).toList == [119, 97, 121, 98, 105, 108, 108, 49]) = false) := by unfold Hid; rw [mark_eq]; simpa using hm
  clear hr hm
  go_enter Try.func88, Try.ntmps88
  go_wp2_with (first
    | ((with_reducible refine gd_alloc 66 ?_); refine wl_alloc_agg rfl _ rfl _ zeroM ?_; intro br w1 hbr HBR HKR)
    | fail)
  go_wp2_with fail
  refine (read_calls _ h _ [112] _ (hd.new HKR) hn).mono ?_
  rintro e w2 ⟨he, hk2⟩
  rw [HR.out] at he
  dsimp only at he
  subst he
  have HBR2 := hk2.blk HBR id
  go_wp2_with (first
    | ((with_reducible refine gd_alloc 28 ?_); refine wl_alloc_agg rfl _ rfl _ zero28 ?_; intro b8 w3 hb8 HB8 HK8)
    | ((with_reducible refine gd_store 28 ?_); refine wl_store_agg rfl _ _ _ rfl b8 _ rfl _ _ HB8 (secA s) rfl (secA s) (store_secs _ _) (le_secs _ _) (info28s _) (secA_one _) ?_; intro w4 HB4 HK4; have HBR4 := HK4.blk (HK8.blk HBR2 id) (ne_new HBR2 hb8); have hcv := run_string (arr_vals HB4 0 8 (by decide) 64 rfl).rd (by rw [List.drop_zero]; intro h; have := congrArg List.length h; simp [s.2] at this); have hst := HM.out; rw [List.drop_zero] at hcv)
    | ((with_reducible refine gd_build 66 ?_); refine wl_build0 rfl _ rfl _ buildM0 ?_)
    | ((with_reducible refine gd_store 66 ?_); refine wl_store_agg rfl _ _ _ rfl br _ rfl _ _ HBR4 (metaA ⟨0, 0, 0, 0⟩) rfl (metaA ⟨0, 0, 0, 0⟩) (store_meta _ _) (Nat.le_refl 4) (infoMs _) (metaA_one _) ?_; intro w5 HB5 HK5)
    | fail)
  refine bodyPost_ret (v := .tuple #[.agg (metaA ⟨0, 0, 0, 0⟩), .bool false]) ?_ rfl ⟨by rw [HP.out], ?_⟩
  · exact results_two rfl _ _ br _ _ _ _ rfl rfl HB5 _ Try.underlying66 rfl (infoMs _)
  · exact (((HKR.trans hk2).trans HK8).then HK4 (fun i hi e => absurd (Nat.le_trans (HKR.trans hk2).size hb8) (by rw [← e]; exact Nat.not_le.2 hi))).then HK5 (fun i hi e => absurd hbr (by rw [← e]; exact Nat.not_le.2 hi))

/-- One of the numbers is read. -/
def RdPost (w : World) (s : Sec) (b8 bi k : Nat) (e : Ending) (w' : World) : Prop :=
  ∃ sv', e = .returned (.int .u64 (rdN s k)) ∧ isIn w' bi sv' false ∧ isVals w' (fun i => i = b8) sv' (octs (s.1.drop (8 * (k + 1)))) ∧ Keeps w w' (· = bi)
theorem rd_calls (w : World) (s : Sec) (b8 bi k : Nat) (sv : Value) (hne : b8 ≠ bi) (hk : k ≤ 7) (hi : isIn w bi sv false) (hv : isVals w (fun i => i = b8) sv (octs (s.1.drop (8 * k)))) :
    Calls Try.prog 109 #[.pointer (some ⟨bi, 0, none⟩), .int .i64 8] w (RdPost w s b8 bi k) := by
  have hl : (s.1.drop (8 * k)).length = 64 - 8 * k := by rw [List.length_drop, s.2]
  refine (inint_calls w bi _ sv (s.1.drop (8 * k)) 8 hi hv (fun i e => by rw [e]; exact hne) (by rw [hl]; omega) (by rw [hl]; omega) (by decide) (by decide)).mono ?_
  rintro e w' ⟨sv', he, h1, h2, h3⟩
  refine ⟨sv', he, h1, ?_, h3⟩
  rw [List.drop_drop] at h2
  exact h2

set_option maxRecDepth 100000 in
set_option maxHeartbeats 8000000 in
theorem metaAt_more (w : World) (h : DH) (D : Dv) (pg long : Nat) (s : Sec) (hd : isDev w h D) (hid : pg < 2) (hr : D.read [112] ((pg : Int) * 8) = (s, 0)) (hm : s.1.take 8 = markL) :
    Calls Try.prog 88 #[.pointer (some ⟨h.p, 0, none⟩), .int .i64 pg, .int .i64 long] w (MetaPost w (s, 0) pg long) := by
  have hn : nmOk [112] := nmOk_small (by decide)
  have hi0 : (0 : Int) ≤ pg := by omega
  have hi2 : (pg : Int) < 2 := by omega
  have HR := Lib.hid hr
  have HM : Hid (((bs (s.1.take 8)).toList == [119, 97, 121, 98, 105, 108, 108, 49]) = true) := by unfold Hid; rw [mark_eq]; simpa using hm
  have HMM := Lib.hid hm
  clear hr hm
  go_enter Try.func88, Try.ntmps88
  go_wp2_with (first
    | ((with_reducible refine gd_alloc 66 ?_); refine wl_alloc_agg rfl _ rfl _ zeroM ?_; intro br w1 hbr HBR HKR)
    | fail)
  go_wp2_with fail
  refine (read_calls _ h _ [112] _ (hd.new HKR) hn).mono ?_
  rintro e w2 ⟨he, hk2⟩
  rw [HR.out] at he
  dsimp only at he
  subst he
  have HBR2 := hk2.blk HBR id
  go_wp2_with (first
    | ((with_reducible refine gd_alloc 28 ?_); refine wl_alloc_agg rfl _ rfl _ zero28 ?_; intro b8 w3 hb8 HB8 HK8)
    | ((with_reducible refine gd_store 28 ?_); refine wl_store_agg rfl _ _ _ rfl b8 _ rfl _ _ HB8 (secA s) rfl (secA s) (store_secs _ _) (le_secs _ _) (info28s _) (secA_one _) ?_; intro w4 HB4 HK4; have HBR4 := HK4.blk (HK8.blk HBR2 id) (ne_new HBR2 hb8); have hcv := run_string (arr_vals HB4 0 8 (by decide) 64 rfl).rd (by rw [List.drop_zero]; intro h; have := congrArg List.length h; simp [s.2] at this); have hst := HM.out; rw [List.drop_zero] at hcv)
    | fail)
  clear hcv hst
  refine (from_calls _ _ ⟨_, _, _, rfl⟩).mono ?_
  rintro e w5 ⟨bi, rfl, hbi, hi5, hk5⟩
  have hne8 : b8 ≠ bi := ne_new HB4 hbi
  have hner : br ≠ bi := ne_new HBR4 hbi
  have hb8r : ¬ b8 = br := fun e => ne_new HBR2 hb8 e.symm
  have hv5 : isVals w5 (fun i => i = b8) (.slice (some ⟨b8, 8, none⟩) 56 56) (octs (s.1.drop (8 * 1))) := by
    have := arr_vals (hk5.blk HB4 (by simp)) 8 56 (by decide) 56 rfl
    rwa [List.take_of_length_le (by rw [List.length_drop, s.2]; decide)] at this
  have HBR5 := hk5.blk HBR4 (by simp)
  have HB5 := hk5.blk HB4 (by simp)
  have HK5 : Keeps w w5 (fun _ => False) := ((((HKR.trans hk2).trans HK8).then HK4 (fun i hi e => absurd (Nat.le_trans (HKR.trans hk2).size hb8) (by rw [← e]; exact Nat.not_le.2 hi)))).trans hk5
  have hbw : w.heap.size ≤ bi := Nat.le_trans (((HKR.trans hk2).trans HK8).size) (Nat.le_trans HK4.size hbi)
  clear HBR2 HB8 HBR HB4 HBR4 HK4 HK8 hk2 hk5 HKR hb8 hbi
  go_wp2_with fail
  refine (rd_calls _ s b8 bi 1 _ hne8 (by decide) hi5 hv5).mono ?_
  rintro e w6 ⟨sv6, rfl, hi6, hv6, hk6⟩
  go_wp2_with fail
  refine (rd_calls _ s b8 bi 2 _ hne8 (by decide) hi6 hv6).mono ?_
  rintro e w7 ⟨sv7, rfl, hi7, hv7, hk7⟩
  go_wp2_with fail
  refine (rd_calls _ s b8 bi 3 _ hne8 (by decide) hi7 hv7).mono ?_
  rintro e w8 ⟨sv8, rfl, hi8, hv8, hk8⟩
  go_wp2_with fail
  refine (rd_calls _ s b8 bi 4 _ hne8 (by decide) hi8 hv8).mono ?_
  rintro e w9 ⟨sv9, rfl, hi9, hv9, hk9⟩
  have HBR9 := hk9.blk (hk8.blk (hk7.blk (hk6.blk HBR5 hner) hner) hner) hner
  have HB9 := hk9.blk (hk8.blk (hk7.blk (hk6.blk HB5 hne8) hne8) hne8) hne8
  have HK9 : Keeps w w9 (fun _ => False) := HK5.then (((hk6.trans hk7).trans hk8).trans hk9) (fun i hi e => absurd hbw (by rw [← e]; exact Nat.not_le.2 hi))
  clear hi5 hv5 hi6 hv6 hi7 hv7 hi8 hv8 hi9 hv9 hk6 hk7 hk8 hk9 HB5 HBR5 HK5
  have hP : metaP s = ⟨rdN s 1, rdN s 2, rdN s 3, rdN s 4⟩ := rfl
  have hlt1 : rdN s 1 < 2 ^ 64 := num_lt _
  generalize rdN s 1 = g1 at *
  generalize rdN s 2 = g2 at *
  generalize rdN s 3 = g3 at *
  generalize rdN s 4 = g4 at *
  have HPS := Lib.hid hP
  have HLT := Lib.hid hlt1
  clear hP hlt1
  by_cases hf : metaFits ⟨g1, g2, g3, g4⟩ pg
  · have h1 : ((g1 : Int) == 0) = false := by have := hf.1; rw [beq_eq_false_iff_ne]; simp only at this; omega
    have h2 : (((g1 : Int) % 2) != (pg : Int)) = false := by have := hf.2.1; rw [bne_eq_false_iff_eq]; simp only at this; omega
    have h3 : (g2 : Int) ≤ 4611686018427387904 := by have := hf.2.2.1; simp only at this; omega
    have h4 : (g3 : Int) ≤ 4611686018427387904 := by have := hf.2.2.2; simp only at this; omega
    have h30 : (0 : Int) ≤ g2 := by omega
    have h40 : (0 : Int) ≤ g3 := by omega
    have HFT := Lib.hid hf
    have HMO : Hid (Mt.ok ⟨g1, g2, g3, g4⟩) := Lib.hid (by have := metaP_ok (s := s) (id := pg) (by rw [HPS.out]; exact hf); rwa [HPS.out] at this)
    clear hf
    have r2 : IntKind.i64.wrap (g2 : Int) = g2 := i64_smallK _ (by omega) (by omega)
    have r3 : IntKind.i64.wrap (g3 : Int) = g3 := i64_smallK _ (by omega) (by omega)
    go_wp2_with (first
      | (go_at_call 106; refine (slot_calls _ g1).mono ?_; rintro e wx ⟨rfl, rfl⟩)
      | ((with_reducible refine gd_build 66 ?_); refine wl_buildL rfl _ _ rfl [(0, .int .u64 g1), (1, .int .i64 g2), (2, .int .i64 g3), (3, .int .u64 g4)] rfl (.agg (metaA ⟨g1, g2, g3, g4⟩)) (fun _ => by kernel_rfl) ?_)
      | ((with_reducible refine gd_alloc 66 ?_); refine wl_alloc_agg rfl _ rfl _ zeroM ?_; intro bm w10 hbm HBM0 HKM0)
      | ((with_reducible refine gd_store 66 ?_); refine wl_store_agg rfl _ _ _ rfl bm _ rfl _ _ HBM0 (metaA ⟨g1, g2, g3, g4⟩) rfl (metaA ⟨g1, g2, g3, g4⟩) (store_meta _ _) (Nat.le_refl 4) (infoMs _) (metaA_one _) ?_; intro w11 HBM HKM)
      | fail)
    have HBR10 := (HKM.blk (HKM0.blk HBR9 (by simp)) (ne_new HBR9 hbm))
    have HB10 := (HKM.blk (HKM0.blk HB9 (by simp)) (ne_new HB9 hbm))
    have hmr : ¬ bm = br := fun e => ne_new HBR9 hbm e.symm
    have h8r : ¬ b8 = br := hb8r
    have HK10 : Keeps w w11 (fun _ => False) := (HK9.trans HKM0).then HKM (fun i hi e => absurd (Nat.le_trans HK9.size hbm) (by rw [← e]; exact Nat.not_le.2 hi))
    clear HBR9 HB9 HK9 HKM0 HBM0 HKM
    generalize hmm : (⟨g1, g2, g3, g4⟩ : Mt) = m at *
    have HS : (fun w' => w'.rangeAt bm 0 (metaA m).toList ∧ w'.rangeAt b8 0 (secA s).toList ∧ w'.cell? ⟨bm, 1, none⟩ = some (.int .i64 g2) ∧ (∃ m0, w'.heap[br]? = some (.cells (metaA m0) 66 (0, 0)))) w11.drew := ⟨range_of_block HBM, range_of_block HB10, by show w11.cell? _ = _; rw [cell_of_block HBM, ← hmm]; rfl, _, HBR10⟩
    have hroot : m.root = g2 := by rw [← hmm]
    have HROOT := Lib.hid hroot
    clear hroot hmm HBM HB10 h1 h2 h4 r2 r3
    by_cases hes : metaS m = s
    · have HE := Lib.hid hes
      have hg1 : ∀ (x y : Operand) (W : World), (eqGuard BinOp.eql 28 x y (secV (metaS m)) (.agg (secA s))).run Try.prog W = .ok () W := fun x y W => run_guard_sec W _ x y _ _
      have hg2 : ∀ (W : World), (binOp BinOp.eql 28 (secV (metaS m)) (.agg (secA s))).run Try.prog W = .ok (.bool true) W := fun W => by
        have := run_eql_sec W (metaS m) s
        rw [show secV s = .agg (secA s) from rfl] at this
        rw [this]; simp [HE.out]
      clear hes
      by_cases hz : g2 = 0
      · have hz1 : ((g2 : Int) == 0) = true := by rw [beq_iff_eq]; omega
        have HC : Hid (m.root = 0 ∨ (2 ≤ m.root ∧ m.root < long)) := Lib.hid (by rw [HROOT.out]; omega)
        clear hz
        have HP : Hid (metaAt (s, 0) pg long = (m, true)) := by
          unfold Hid metaAt
          rw [if_pos ⟨rfl, HMM.out, by rw [HPS.out]; exact HFT.out⟩, HPS.out]
          simp only [Prod.mk.injEq, true_and]
          first
            | (rw [decide_eq_true_eq]; exact ⟨HE.out, HC.out⟩)
            | (rw [decide_eq_false_iff_not]; exact fun h => HE.out h.1)
            | (rw [decide_eq_false_iff_not]; exact fun h => HC.out h.2)
        refine wp_region_held_drew (S := (fun w' => w'.rangeAt bm 0 (metaA m).toList ∧ w'.rangeAt b8 0 (secA s).toList ∧ w'.cell? ⟨bm, 1, none⟩ = some (.int .i64 g2) ∧ (∃ m0, w'.heap[br]? = some (.cells (metaA m0) 66 (0, 0))))) (by kernel_rfl) HS (fun _ => ?_)
        refine rg_load 0 rfl (by kernel_rfl) (by kernel_rfl) (by kernel_rfl) (metaA m) (fun _ _ _ h => h) HS (by rfl) bm 0 rfl (fun _ h => h.1) _ Try.underlying66 rfl (infoMs _) ?_
        simp only [Act.put, List.setIfInBounds_toArray, List.set_cons_succ, List.set_cons_zero]
        refine rg_load 1 rfl (by kernel_rfl) (by kernel_rfl) (by kernel_rfl) (metaA m) (fun _ _ _ h => h) HS (by rfl) bm 0 rfl (fun _ h => h.1) _ Try.underlying66 rfl (infoMs _) ?_
        simp only [Act.put, List.setIfInBounds_toArray, List.set_cons_succ, List.set_cons_zero]
        refine rg_load 3 rfl (by kernel_rfl) (by kernel_rfl) (by kernel_rfl) (secA s) (fun _ _ _ h => h) HS (by rfl) b8 0 rfl (fun _ h => h.2.1) _ Try.underlying28 rfl (info28s _) ?_
        simp only [Act.put, List.setIfInBounds_toArray, List.set_cons_succ, List.set_cons_zero]
        refine rg_one 2 rfl (by kernel_rfl) (by rfl) ?_
        refine rg_call 107 _ _ rfl _ Try.func107 (by kernel_rfl) (by kernel_rfl) [.agg (metaA m)] rfl (sector9_calls _ m HMO.out) ?_
        rintro e wa ⟨rfl, hka⟩
        have HBA := hka.blk HBR10 (by simp)
        have HS2 : (fun w' => w'.rangeAt bm 0 (metaA m).toList ∧ w'.rangeAt b8 0 (secA s).toList ∧ w'.cell? ⟨bm, 1, none⟩ = some (.int .i64 g2) ∧ (∃ m0, w'.heap[br]? = some (.cells (metaA m0) 66 (0, 0)))) wa := ⟨Keeps.rangeK hka HS.1, Keeps.rangeK hka HS.2.1, Keeps.cellK hka HS.2.2.1, _, HBA⟩
        refine ⟨_, rfl, HS2, ?_⟩
        simp only [Act.put, List.setIfInBounds_toArray, List.set_cons_succ, List.set_cons_zero]
        first
          | (refine rg_skip 4 rfl (by kernel_rfl) (by kernel_rfl) (by kernel_rfl) (fun _ _ _ h => h) HS2 ?_ ?_; rfl)
          | (refine rg_take 4 (v := ?_) rfl (by kernel_rfl) (by kernel_rfl) (by kernel_rfl) (fun _ _ _ h => h) HS2 ?_ ?_ ?_; rotate_left; rfl; focus (intro w hSw; (try dsimp only at hSw); go_simp; all_goals (with_reducible rfl)))
        simp only [Act.put, List.setIfInBounds_toArray, List.set_cons_succ, List.set_cons_zero]
        first
          | (refine rg_skip 5 rfl (by kernel_rfl) (by kernel_rfl) (by kernel_rfl) (fun _ _ _ h => h) HS2 ?_ ?_; rfl)
          | (refine rg_take 5 (v := ?_) rfl (by kernel_rfl) (by kernel_rfl) (by kernel_rfl) (fun _ _ _ h => h) HS2 ?_ ?_ ?_; rotate_left; rfl; focus (intro w hSw; (try dsimp only at hSw); go_simp; all_goals (with_reducible rfl)))
        simp only [Act.put, List.setIfInBounds_toArray, List.set_cons_succ, List.set_cons_zero]
        first
          | (refine rg_skip 6 rfl (by kernel_rfl) (by kernel_rfl) (by kernel_rfl) (fun _ _ _ h => h) HS2 ?_ ?_; rfl)
          | (refine rg_take 6 (v := ?_) rfl (by kernel_rfl) (by kernel_rfl) (by kernel_rfl) (fun _ _ _ h => h) HS2 ?_ ?_ ?_; rotate_left; rfl; focus (intro w hSw; (try dsimp only at hSw); go_simp; all_goals (with_reducible rfl)))
        simp only [Act.put, List.setIfInBounds_toArray, List.set_cons_succ, List.set_cons_zero]
        first
          | (refine rg_skip 7 rfl (by kernel_rfl) (by kernel_rfl) (by kernel_rfl) (fun _ _ _ h => h) HS2 ?_ ?_; rfl)
          | (refine rg_take 7 (v := ?_) rfl (by kernel_rfl) (by kernel_rfl) (by kernel_rfl) (fun _ _ _ h => h) HS2 ?_ ?_ ?_; rotate_left; rfl; focus (intro w hSw; (try dsimp only at hSw); go_simp; all_goals (with_reducible rfl)))
        simp only [Act.put, List.setIfInBounds_toArray, List.set_cons_succ, List.set_cons_zero]
        first
          | (refine rg_skip 8 rfl (by kernel_rfl) (by kernel_rfl) (by kernel_rfl) (fun _ _ _ h => h) HS2 ?_ ?_; rfl)
          | (refine rg_take 8 (v := ?_) rfl (by kernel_rfl) (by kernel_rfl) (by kernel_rfl) (fun _ _ _ h => h) HS2 ?_ ?_ ?_; rotate_left; rfl; focus (intro w hSw; (try dsimp only at hSw); go_simp; all_goals (with_reducible rfl)))
        simp only [Act.put, List.setIfInBounds_toArray, List.set_cons_succ, List.set_cons_zero]
        first
          | (refine rg_skip 9 rfl (by kernel_rfl) (by kernel_rfl) (by kernel_rfl) (fun _ _ _ h => h) HS2 ?_ ?_; rfl)
          | (refine rg_take 9 (v := ?_) rfl (by kernel_rfl) (by kernel_rfl) (by kernel_rfl) (fun _ _ _ h => h) HS2 ?_ ?_ ?_; rotate_left; rfl; focus (intro w hSw; (try dsimp only at hSw); go_simp; all_goals (with_reducible rfl)))
        simp only [Act.put, List.setIfInBounds_toArray, List.set_cons_succ, List.set_cons_zero]
        first
          | (refine rg_skip 10 rfl (by kernel_rfl) (by kernel_rfl) (by kernel_rfl) (fun _ _ _ h => h) HS2 ?_ ?_; rfl)
          | (refine rg_take 10 (v := ?_) rfl (by kernel_rfl) (by kernel_rfl) (by kernel_rfl) (fun _ _ _ h => h) HS2 ?_ ?_ ?_; rotate_left; rfl; focus (intro w hSw; (try dsimp only at hSw); go_simp; all_goals (with_reducible rfl)))
        simp only [Act.put, List.setIfInBounds_toArray, List.set_cons_succ, List.set_cons_zero]
        first
          | (refine rg_skip 11 rfl (by kernel_rfl) (by kernel_rfl) (by kernel_rfl) (fun _ _ _ h => h) HS2 ?_ ?_; rfl)
          | (refine rg_take 11 (v := ?_) rfl (by kernel_rfl) (by kernel_rfl) (by kernel_rfl) (fun _ _ _ h => h) HS2 ?_ ?_ ?_; rotate_left; rfl; focus (intro w hSw; (try dsimp only at hSw); go_simp; all_goals (with_reducible rfl)))
        simp only [Act.put, List.setIfInBounds_toArray, List.set_cons_succ, List.set_cons_zero]
        first
          | (refine rg_skip 12 rfl (by kernel_rfl) (by kernel_rfl) (by kernel_rfl) (fun _ _ _ h => h) HS2 ?_ ?_; rfl)
          | (refine rg_take 12 (v := ?_) rfl (by kernel_rfl) (by kernel_rfl) (by kernel_rfl) (fun _ _ _ h => h) HS2 ?_ ?_ ?_; rotate_left; rfl; focus (intro w hSw; (try dsimp only at hSw); go_simp; all_goals (with_reducible rfl)))
        simp only [Act.put, List.setIfInBounds_toArray, List.set_cons_succ, List.set_cons_zero]
        first
          | (refine rg_skip 13 rfl (by kernel_rfl) (by kernel_rfl) (by kernel_rfl) (fun _ _ _ h => h) HS2 ?_ ?_; rfl)
          | (refine rg_take 13 (v := ?_) rfl (by kernel_rfl) (by kernel_rfl) (by kernel_rfl) (fun _ _ _ h => h) HS2 ?_ ?_ ?_; rotate_left; rfl; focus (intro w hSw; (try dsimp only at hSw); go_simp; all_goals (with_reducible rfl)))
        simp only [Act.put, List.setIfInBounds_toArray, List.set_cons_succ, List.set_cons_zero]
        first
          | (refine rg_skip 14 rfl (by kernel_rfl) (by kernel_rfl) (by kernel_rfl) (fun _ _ _ h => h) HS2 ?_ ?_; rfl)
          | (refine rg_take 14 (v := ?_) rfl (by kernel_rfl) (by kernel_rfl) (by kernel_rfl) (fun _ _ _ h => h) HS2 ?_ ?_ ?_; rotate_left; rfl; focus (intro w hSw; (try dsimp only at hSw); go_simp; all_goals (with_reducible rfl)))
        simp only [Act.put, List.setIfInBounds_toArray, List.set_cons_succ, List.set_cons_zero]
        first
          | (refine rg_skip 15 rfl (by kernel_rfl) (by kernel_rfl) (by kernel_rfl) (fun _ _ _ h => h) HS2 ?_ ?_; rfl)
          | (refine rg_take 15 (v := ?_) rfl (by kernel_rfl) (by kernel_rfl) (by kernel_rfl) (fun _ _ _ h => h) HS2 ?_ ?_ ?_; rotate_left; rfl; focus (intro w hSw; (try dsimp only at hSw); go_simp; all_goals (with_reducible rfl)))
        simp only [Act.put, List.setIfInBounds_toArray, List.set_cons_succ, List.set_cons_zero]
        first
          | (refine rg_skip 16 rfl (by kernel_rfl) (by kernel_rfl) (by kernel_rfl) (fun _ _ _ h => h) HS2 ?_ ?_; rfl)
          | (refine rg_take 16 (v := ?_) rfl (by kernel_rfl) (by kernel_rfl) (by kernel_rfl) (fun _ _ _ h => h) HS2 ?_ ?_ ?_; rotate_left; rfl; focus (intro w hSw; (try dsimp only at hSw); go_simp; all_goals (with_reducible rfl)))
        simp only [Act.put, List.setIfInBounds_toArray, List.set_cons_succ, List.set_cons_zero]
        first
          | (refine rg_skip 17 rfl (by kernel_rfl) (by kernel_rfl) (by kernel_rfl) (fun _ _ _ h => h) HS2 ?_ ?_; rfl)
          | (refine rg_take 17 (v := ?_) rfl (by kernel_rfl) (by kernel_rfl) (by kernel_rfl) (fun _ _ _ h => h) HS2 ?_ ?_ ?_; rotate_left; rfl; focus (intro w hSw; (try dsimp only at hSw); go_simp; all_goals (with_reducible rfl)))
        simp only [Act.put, List.setIfInBounds_toArray, List.set_cons_succ, List.set_cons_zero]
        first
          | (refine rg_skip 18 rfl (by kernel_rfl) (by kernel_rfl) (by kernel_rfl) (fun _ _ _ h => h) HS2 ?_ ?_; rfl)
          | (refine rg_take 18 (v := ?_) rfl (by kernel_rfl) (by kernel_rfl) (by kernel_rfl) (fun _ _ _ h => h) HS2 ?_ ?_ ?_; rotate_left; rfl; focus (intro w hSw; (try dsimp only at hSw); go_simp; all_goals (with_reducible rfl)))
        simp only [Act.put, List.setIfInBounds_toArray, List.set_cons_succ, List.set_cons_zero]
        first
          | (refine rg_skip 19 rfl (by kernel_rfl) (by kernel_rfl) (by kernel_rfl) (fun _ _ _ h => h) HS2 ?_ ?_; rfl)
          | (refine rg_take 19 (v := ?_) rfl (by kernel_rfl) (by kernel_rfl) (by kernel_rfl) (fun _ _ _ h => h) HS2 ?_ ?_ ?_; rotate_left; rfl; focus (intro w hSw; (try dsimp only at hSw); go_simp; all_goals (with_reducible rfl)))
        simp only [Act.put, List.setIfInBounds_toArray, List.set_cons_succ, List.set_cons_zero]
        first
          | (refine rg_skip 20 rfl (by kernel_rfl) (by kernel_rfl) (by kernel_rfl) (fun _ _ _ h => h) HS2 ?_ ?_; rfl)
          | (refine rg_take 20 (v := ?_) rfl (by kernel_rfl) (by kernel_rfl) (by kernel_rfl) (fun _ _ _ h => h) HS2 ?_ ?_ ?_; rotate_left; rfl; focus (intro w hSw; (try dsimp only at hSw); go_simp; all_goals (with_reducible rfl)))
        simp only [Act.put, List.setIfInBounds_toArray, List.set_cons_succ, List.set_cons_zero]
        refine rg_one 21 rfl (by kernel_rfl) (by rfl) ?_
        refine wp_store_agg 66 _ _ rfl br 0 rfl _ _ HBA (metaA m) rfl (metaA m) (store_meta _ _) (Nat.le_refl 4) (infoMs _) (metaA_one _) ?_
        intro wb hbb hkb
        have HS3 : (fun w' => w'.rangeAt bm 0 (metaA m).toList ∧ w'.rangeAt b8 0 (secA s).toList ∧ w'.cell? ⟨bm, 1, none⟩ = some (.int .i64 g2) ∧ (∃ m0, w'.heap[br]? = some (.cells (metaA m0) 66 (0, 0)))) wb := ⟨range_far hkb hmr HS2.1, range_far hkb h8r HS2.2.1, (hkb.cell (p := ⟨bm, 1, none⟩) (cell_ltK HS2.2.2.1) hmr).trans HS2.2.2.1, _, hbb⟩
        refine ⟨HS3, ?_⟩
        simp only [Act.put, List.setIfInBounds_toArray, List.set_cons_succ, List.set_cons_zero]
        first
          | (refine rg_skip 22 rfl (by kernel_rfl) (by kernel_rfl) (by kernel_rfl) (fun _ _ _ h => h) HS3 ?_ ?_; rfl)
          | (refine rg_take 22 (v := ?_) rfl (by kernel_rfl) (by kernel_rfl) (by kernel_rfl) (fun _ _ _ h => h) HS3 ?_ ?_ ?_; rotate_left; rfl; focus (intro w hSw; (try dsimp only at hSw); go_simp; all_goals (with_reducible rfl)))
        simp only [Act.put, List.setIfInBounds_toArray, List.set_cons_succ, List.set_cons_zero]
        refine wpAnyH_done (by kernel_rfl) ?_ _
        go_wp2_with fail
        refine bodyPost_ret (v := .tuple #[.agg (metaA m), .bool true]) ?_ rfl ⟨by rw [HP.out], ?_⟩
        · exact results_two rfl _ _ br _ _ _ _ rfl rfl hbb _ Try.underlying66 rfl (infoMs _)
        · exact (HK10.drew.trans hka).then hkb (fun i hi e => absurd hbr (by rw [← e]; exact Nat.not_le.2 hi))
      · have hz1 : ((g2 : Int) == 0) = false := by rw [beq_eq_false_iff_ne]; omega
        by_cases h2g : 2 ≤ g2
        · have h2i : (2 : Int) ≤ g2 := by omega
          by_cases hll : g2 < long
          · have hlb : decide (g2 < long) = true := by simpa using hll
            have HC : Hid (m.root = 0 ∨ (2 ≤ m.root ∧ m.root < long)) := Lib.hid (by rw [HROOT.out]; omega)
            clear hll h2g hz
            have HP : Hid (metaAt (s, 0) pg long = (m, true)) := by
              unfold Hid metaAt
              rw [if_pos ⟨rfl, HMM.out, by rw [HPS.out]; exact HFT.out⟩, HPS.out]
              simp only [Prod.mk.injEq, true_and]
              first
                | (rw [decide_eq_true_eq]; exact ⟨HE.out, HC.out⟩)
                | (rw [decide_eq_false_iff_not]; exact fun h => HE.out h.1)
                | (rw [decide_eq_false_iff_not]; exact fun h => HC.out h.2)
            refine wp_region_held_drew (S := (fun w' => w'.rangeAt bm 0 (metaA m).toList ∧ w'.rangeAt b8 0 (secA s).toList ∧ w'.cell? ⟨bm, 1, none⟩ = some (.int .i64 g2) ∧ (∃ m0, w'.heap[br]? = some (.cells (metaA m0) 66 (0, 0))))) (by kernel_rfl) HS (fun _ => ?_)
            refine rg_load 0 rfl (by kernel_rfl) (by kernel_rfl) (by kernel_rfl) (metaA m) (fun _ _ _ h => h) HS (by rfl) bm 0 rfl (fun _ h => h.1) _ Try.underlying66 rfl (infoMs _) ?_
            simp only [Act.put, List.setIfInBounds_toArray, List.set_cons_succ, List.set_cons_zero]
            refine rg_load 1 rfl (by kernel_rfl) (by kernel_rfl) (by kernel_rfl) (metaA m) (fun _ _ _ h => h) HS (by rfl) bm 0 rfl (fun _ h => h.1) _ Try.underlying66 rfl (infoMs _) ?_
            simp only [Act.put, List.setIfInBounds_toArray, List.set_cons_succ, List.set_cons_zero]
            refine rg_load 3 rfl (by kernel_rfl) (by kernel_rfl) (by kernel_rfl) (secA s) (fun _ _ _ h => h) HS (by rfl) b8 0 rfl (fun _ h => h.2.1) _ Try.underlying28 rfl (info28s _) ?_
            simp only [Act.put, List.setIfInBounds_toArray, List.set_cons_succ, List.set_cons_zero]
            refine rg_one 2 rfl (by kernel_rfl) (by rfl) ?_
            refine rg_call 107 _ _ rfl _ Try.func107 (by kernel_rfl) (by kernel_rfl) [.agg (metaA m)] rfl (sector9_calls _ m HMO.out) ?_
            rintro e wa ⟨rfl, hka⟩
            have HBA := hka.blk HBR10 (by simp)
            have HS2 : (fun w' => w'.rangeAt bm 0 (metaA m).toList ∧ w'.rangeAt b8 0 (secA s).toList ∧ w'.cell? ⟨bm, 1, none⟩ = some (.int .i64 g2) ∧ (∃ m0, w'.heap[br]? = some (.cells (metaA m0) 66 (0, 0)))) wa := ⟨Keeps.rangeK hka HS.1, Keeps.rangeK hka HS.2.1, Keeps.cellK hka HS.2.2.1, _, HBA⟩
            refine ⟨_, rfl, HS2, ?_⟩
            simp only [Act.put, List.setIfInBounds_toArray, List.set_cons_succ, List.set_cons_zero]
            first
              | (refine rg_skip 4 rfl (by kernel_rfl) (by kernel_rfl) (by kernel_rfl) (fun _ _ _ h => h) HS2 ?_ ?_; rfl)
              | (refine rg_take 4 (v := ?_) rfl (by kernel_rfl) (by kernel_rfl) (by kernel_rfl) (fun _ _ _ h => h) HS2 ?_ ?_ ?_; rotate_left; rfl; focus (intro w hSw; (try dsimp only at hSw); go_simp; all_goals (with_reducible rfl)))
            simp only [Act.put, List.setIfInBounds_toArray, List.set_cons_succ, List.set_cons_zero]
            first
              | (refine rg_skip 5 rfl (by kernel_rfl) (by kernel_rfl) (by kernel_rfl) (fun _ _ _ h => h) HS2 ?_ ?_; rfl)
              | (refine rg_take 5 (v := ?_) rfl (by kernel_rfl) (by kernel_rfl) (by kernel_rfl) (fun _ _ _ h => h) HS2 ?_ ?_ ?_; rotate_left; rfl; focus (intro w hSw; (try dsimp only at hSw); go_simp; all_goals (with_reducible rfl)))
            simp only [Act.put, List.setIfInBounds_toArray, List.set_cons_succ, List.set_cons_zero]
            first
              | (refine rg_skip 6 rfl (by kernel_rfl) (by kernel_rfl) (by kernel_rfl) (fun _ _ _ h => h) HS2 ?_ ?_; rfl)
              | (refine rg_take 6 (v := ?_) rfl (by kernel_rfl) (by kernel_rfl) (by kernel_rfl) (fun _ _ _ h => h) HS2 ?_ ?_ ?_; rotate_left; rfl; focus (intro w hSw; (try dsimp only at hSw); go_simp; all_goals (with_reducible rfl)))
            simp only [Act.put, List.setIfInBounds_toArray, List.set_cons_succ, List.set_cons_zero]
            first
              | (refine rg_skip 7 rfl (by kernel_rfl) (by kernel_rfl) (by kernel_rfl) (fun _ _ _ h => h) HS2 ?_ ?_; rfl)
              | (refine rg_take 7 (v := ?_) rfl (by kernel_rfl) (by kernel_rfl) (by kernel_rfl) (fun _ _ _ h => h) HS2 ?_ ?_ ?_; rotate_left; rfl; focus (intro w hSw; (try dsimp only at hSw); go_simp; all_goals (with_reducible rfl)))
            simp only [Act.put, List.setIfInBounds_toArray, List.set_cons_succ, List.set_cons_zero]
            first
              | (refine rg_skip 8 rfl (by kernel_rfl) (by kernel_rfl) (by kernel_rfl) (fun _ _ _ h => h) HS2 ?_ ?_; rfl)
              | (refine rg_take 8 (v := ?_) rfl (by kernel_rfl) (by kernel_rfl) (by kernel_rfl) (fun _ _ _ h => h) HS2 ?_ ?_ ?_; rotate_left; rfl; focus (intro w hSw; (try dsimp only at hSw); go_simp; all_goals (with_reducible rfl)))
            simp only [Act.put, List.setIfInBounds_toArray, List.set_cons_succ, List.set_cons_zero]
            first
              | (refine rg_skip 9 rfl (by kernel_rfl) (by kernel_rfl) (by kernel_rfl) (fun _ _ _ h => h) HS2 ?_ ?_; rfl)
              | (refine rg_take 9 (v := ?_) rfl (by kernel_rfl) (by kernel_rfl) (by kernel_rfl) (fun _ _ _ h => h) HS2 ?_ ?_ ?_; rotate_left; rfl; focus (intro w hSw; (try dsimp only at hSw); go_simp; all_goals (with_reducible rfl)))
            simp only [Act.put, List.setIfInBounds_toArray, List.set_cons_succ, List.set_cons_zero]
            first
              | (refine rg_skip 10 rfl (by kernel_rfl) (by kernel_rfl) (by kernel_rfl) (fun _ _ _ h => h) HS2 ?_ ?_; rfl)
              | (refine rg_take 10 (v := ?_) rfl (by kernel_rfl) (by kernel_rfl) (by kernel_rfl) (fun _ _ _ h => h) HS2 ?_ ?_ ?_; rotate_left; rfl; focus (intro w hSw; (try dsimp only at hSw); go_simp; all_goals (with_reducible rfl)))
            simp only [Act.put, List.setIfInBounds_toArray, List.set_cons_succ, List.set_cons_zero]
            first
              | (refine rg_skip 11 rfl (by kernel_rfl) (by kernel_rfl) (by kernel_rfl) (fun _ _ _ h => h) HS2 ?_ ?_; rfl)
              | (refine rg_take 11 (v := ?_) rfl (by kernel_rfl) (by kernel_rfl) (by kernel_rfl) (fun _ _ _ h => h) HS2 ?_ ?_ ?_; rotate_left; rfl; focus (intro w hSw; (try dsimp only at hSw); go_simp; all_goals (with_reducible rfl)))
            simp only [Act.put, List.setIfInBounds_toArray, List.set_cons_succ, List.set_cons_zero]
            first
              | (refine rg_skip 12 rfl (by kernel_rfl) (by kernel_rfl) (by kernel_rfl) (fun _ _ _ h => h) HS2 ?_ ?_; rfl)
              | (refine rg_take 12 (v := ?_) rfl (by kernel_rfl) (by kernel_rfl) (by kernel_rfl) (fun _ _ _ h => h) HS2 ?_ ?_ ?_; rotate_left; rfl; focus (intro w hSw; (try dsimp only at hSw); go_simp; all_goals (with_reducible rfl)))
            simp only [Act.put, List.setIfInBounds_toArray, List.set_cons_succ, List.set_cons_zero]
            first
              | (refine rg_skip 13 rfl (by kernel_rfl) (by kernel_rfl) (by kernel_rfl) (fun _ _ _ h => h) HS2 ?_ ?_; rfl)
              | (refine rg_take 13 (v := ?_) rfl (by kernel_rfl) (by kernel_rfl) (by kernel_rfl) (fun _ _ _ h => h) HS2 ?_ ?_ ?_; rotate_left; rfl; focus (intro w hSw; (try dsimp only at hSw); go_simp; all_goals (with_reducible rfl)))
            simp only [Act.put, List.setIfInBounds_toArray, List.set_cons_succ, List.set_cons_zero]
            first
              | (refine rg_skip 14 rfl (by kernel_rfl) (by kernel_rfl) (by kernel_rfl) (fun _ _ _ h => h) HS2 ?_ ?_; rfl)
              | (refine rg_take 14 (v := ?_) rfl (by kernel_rfl) (by kernel_rfl) (by kernel_rfl) (fun _ _ _ h => h) HS2 ?_ ?_ ?_; rotate_left; rfl; focus (intro w hSw; (try dsimp only at hSw); go_simp; all_goals (with_reducible rfl)))
            simp only [Act.put, List.setIfInBounds_toArray, List.set_cons_succ, List.set_cons_zero]
            first
              | (refine rg_skip 15 rfl (by kernel_rfl) (by kernel_rfl) (by kernel_rfl) (fun _ _ _ h => h) HS2 ?_ ?_; rfl)
              | (refine rg_take 15 (v := ?_) rfl (by kernel_rfl) (by kernel_rfl) (by kernel_rfl) (fun _ _ _ h => h) HS2 ?_ ?_ ?_; rotate_left; rfl; focus (intro w hSw; (try dsimp only at hSw); go_simp; all_goals (with_reducible rfl)))
            simp only [Act.put, List.setIfInBounds_toArray, List.set_cons_succ, List.set_cons_zero]
            first
              | (refine rg_skip 16 rfl (by kernel_rfl) (by kernel_rfl) (by kernel_rfl) (fun _ _ _ h => h) HS2 ?_ ?_; rfl)
              | (refine rg_take 16 (v := ?_) rfl (by kernel_rfl) (by kernel_rfl) (by kernel_rfl) (fun _ _ _ h => h) HS2 ?_ ?_ ?_; rotate_left; rfl; focus (intro w hSw; (try dsimp only at hSw); go_simp; all_goals (with_reducible rfl)))
            simp only [Act.put, List.setIfInBounds_toArray, List.set_cons_succ, List.set_cons_zero]
            first
              | (refine rg_skip 17 rfl (by kernel_rfl) (by kernel_rfl) (by kernel_rfl) (fun _ _ _ h => h) HS2 ?_ ?_; rfl)
              | (refine rg_take 17 (v := ?_) rfl (by kernel_rfl) (by kernel_rfl) (by kernel_rfl) (fun _ _ _ h => h) HS2 ?_ ?_ ?_; rotate_left; rfl; focus (intro w hSw; (try dsimp only at hSw); go_simp; all_goals (with_reducible rfl)))
            simp only [Act.put, List.setIfInBounds_toArray, List.set_cons_succ, List.set_cons_zero]
            first
              | (refine rg_skip 18 rfl (by kernel_rfl) (by kernel_rfl) (by kernel_rfl) (fun _ _ _ h => h) HS2 ?_ ?_; rfl)
              | (refine rg_take 18 (v := ?_) rfl (by kernel_rfl) (by kernel_rfl) (by kernel_rfl) (fun _ _ _ h => h) HS2 ?_ ?_ ?_; rotate_left; rfl; focus (intro w hSw; (try dsimp only at hSw); go_simp; all_goals (with_reducible rfl)))
            simp only [Act.put, List.setIfInBounds_toArray, List.set_cons_succ, List.set_cons_zero]
            first
              | (refine rg_skip 19 rfl (by kernel_rfl) (by kernel_rfl) (by kernel_rfl) (fun _ _ _ h => h) HS2 ?_ ?_; rfl)
              | (refine rg_take 19 (v := ?_) rfl (by kernel_rfl) (by kernel_rfl) (by kernel_rfl) (fun _ _ _ h => h) HS2 ?_ ?_ ?_; rotate_left; rfl; focus (intro w hSw; (try dsimp only at hSw); go_simp; all_goals (with_reducible rfl)))
            simp only [Act.put, List.setIfInBounds_toArray, List.set_cons_succ, List.set_cons_zero]
            first
              | (refine rg_skip 20 rfl (by kernel_rfl) (by kernel_rfl) (by kernel_rfl) (fun _ _ _ h => h) HS2 ?_ ?_; rfl)
              | (refine rg_take 20 (v := ?_) rfl (by kernel_rfl) (by kernel_rfl) (by kernel_rfl) (fun _ _ _ h => h) HS2 ?_ ?_ ?_; rotate_left; rfl; focus (intro w hSw; (try dsimp only at hSw); go_simp; all_goals (with_reducible rfl)))
            simp only [Act.put, List.setIfInBounds_toArray, List.set_cons_succ, List.set_cons_zero]
            refine rg_one 21 rfl (by kernel_rfl) (by rfl) ?_
            refine wp_store_agg 66 _ _ rfl br 0 rfl _ _ HBA (metaA m) rfl (metaA m) (store_meta _ _) (Nat.le_refl 4) (infoMs _) (metaA_one _) ?_
            intro wb hbb hkb
            have HS3 : (fun w' => w'.rangeAt bm 0 (metaA m).toList ∧ w'.rangeAt b8 0 (secA s).toList ∧ w'.cell? ⟨bm, 1, none⟩ = some (.int .i64 g2) ∧ (∃ m0, w'.heap[br]? = some (.cells (metaA m0) 66 (0, 0)))) wb := ⟨range_far hkb hmr HS2.1, range_far hkb h8r HS2.2.1, (hkb.cell (p := ⟨bm, 1, none⟩) (cell_ltK HS2.2.2.1) hmr).trans HS2.2.2.1, _, hbb⟩
            refine ⟨HS3, ?_⟩
            simp only [Act.put, List.setIfInBounds_toArray, List.set_cons_succ, List.set_cons_zero]
            first
              | (refine rg_skip 22 rfl (by kernel_rfl) (by kernel_rfl) (by kernel_rfl) (fun _ _ _ h => h) HS3 ?_ ?_; rfl)
              | (refine rg_take 22 (v := ?_) rfl (by kernel_rfl) (by kernel_rfl) (by kernel_rfl) (fun _ _ _ h => h) HS3 ?_ ?_ ?_; rotate_left; rfl; focus (intro w hSw; (try dsimp only at hSw); go_simp; all_goals (with_reducible rfl)))
            simp only [Act.put, List.setIfInBounds_toArray, List.set_cons_succ, List.set_cons_zero]
            refine wpAnyH_done (by kernel_rfl) ?_ _
            go_wp2_with fail
            refine bodyPost_ret (v := .tuple #[.agg (metaA m), .bool true]) ?_ rfl ⟨by rw [HP.out], ?_⟩
            · exact results_two rfl _ _ br _ _ _ _ rfl rfl hbb _ Try.underlying66 rfl (infoMs _)
            · exact (HK10.drew.trans hka).then hkb (fun i hi e => absurd hbr (by rw [← e]; exact Nat.not_le.2 hi))
          · have hlb : decide (g2 < long) = false := by simpa using hll
            have HC : Hid (¬ (m.root = 0 ∨ (2 ≤ m.root ∧ m.root < long))) := Lib.hid (by rw [HROOT.out]; omega)
            clear hll h2g hz
            have HP : Hid (metaAt (s, 0) pg long = (m, false)) := by
              unfold Hid metaAt
              rw [if_pos ⟨rfl, HMM.out, by rw [HPS.out]; exact HFT.out⟩, HPS.out]
              simp only [Prod.mk.injEq, true_and]
              first
                | (rw [decide_eq_true_eq]; exact ⟨HE.out, HC.out⟩)
                | (rw [decide_eq_false_iff_not]; exact fun h => HE.out h.1)
                | (rw [decide_eq_false_iff_not]; exact fun h => HC.out h.2)
            refine wp_region_held_drew (S := (fun w' => w'.rangeAt bm 0 (metaA m).toList ∧ w'.rangeAt b8 0 (secA s).toList ∧ w'.cell? ⟨bm, 1, none⟩ = some (.int .i64 g2) ∧ (∃ m0, w'.heap[br]? = some (.cells (metaA m0) 66 (0, 0))))) (by kernel_rfl) HS (fun _ => ?_)
            refine rg_load 0 rfl (by kernel_rfl) (by kernel_rfl) (by kernel_rfl) (metaA m) (fun _ _ _ h => h) HS (by rfl) bm 0 rfl (fun _ h => h.1) _ Try.underlying66 rfl (infoMs _) ?_
            simp only [Act.put, List.setIfInBounds_toArray, List.set_cons_succ, List.set_cons_zero]
            refine rg_load 1 rfl (by kernel_rfl) (by kernel_rfl) (by kernel_rfl) (metaA m) (fun _ _ _ h => h) HS (by rfl) bm 0 rfl (fun _ h => h.1) _ Try.underlying66 rfl (infoMs _) ?_
            simp only [Act.put, List.setIfInBounds_toArray, List.set_cons_succ, List.set_cons_zero]
            refine rg_load 3 rfl (by kernel_rfl) (by kernel_rfl) (by kernel_rfl) (secA s) (fun _ _ _ h => h) HS (by rfl) b8 0 rfl (fun _ h => h.2.1) _ Try.underlying28 rfl (info28s _) ?_
            simp only [Act.put, List.setIfInBounds_toArray, List.set_cons_succ, List.set_cons_zero]
            refine rg_one 2 rfl (by kernel_rfl) (by rfl) ?_
            refine rg_call 107 _ _ rfl _ Try.func107 (by kernel_rfl) (by kernel_rfl) [.agg (metaA m)] rfl (sector9_calls _ m HMO.out) ?_
            rintro e wa ⟨rfl, hka⟩
            have HBA := hka.blk HBR10 (by simp)
            have HS2 : (fun w' => w'.rangeAt bm 0 (metaA m).toList ∧ w'.rangeAt b8 0 (secA s).toList ∧ w'.cell? ⟨bm, 1, none⟩ = some (.int .i64 g2) ∧ (∃ m0, w'.heap[br]? = some (.cells (metaA m0) 66 (0, 0)))) wa := ⟨Keeps.rangeK hka HS.1, Keeps.rangeK hka HS.2.1, Keeps.cellK hka HS.2.2.1, _, HBA⟩
            refine ⟨_, rfl, HS2, ?_⟩
            simp only [Act.put, List.setIfInBounds_toArray, List.set_cons_succ, List.set_cons_zero]
            first
              | (refine rg_skip 4 rfl (by kernel_rfl) (by kernel_rfl) (by kernel_rfl) (fun _ _ _ h => h) HS2 ?_ ?_; rfl)
              | (refine rg_take 4 (v := ?_) rfl (by kernel_rfl) (by kernel_rfl) (by kernel_rfl) (fun _ _ _ h => h) HS2 ?_ ?_ ?_; rotate_left; rfl; focus (intro w hSw; (try dsimp only at hSw); go_simp; all_goals (with_reducible rfl)))
            simp only [Act.put, List.setIfInBounds_toArray, List.set_cons_succ, List.set_cons_zero]
            first
              | (refine rg_skip 5 rfl (by kernel_rfl) (by kernel_rfl) (by kernel_rfl) (fun _ _ _ h => h) HS2 ?_ ?_; rfl)
              | (refine rg_take 5 (v := ?_) rfl (by kernel_rfl) (by kernel_rfl) (by kernel_rfl) (fun _ _ _ h => h) HS2 ?_ ?_ ?_; rotate_left; rfl; focus (intro w hSw; (try dsimp only at hSw); go_simp; all_goals (with_reducible rfl)))
            simp only [Act.put, List.setIfInBounds_toArray, List.set_cons_succ, List.set_cons_zero]
            first
              | (refine rg_skip 6 rfl (by kernel_rfl) (by kernel_rfl) (by kernel_rfl) (fun _ _ _ h => h) HS2 ?_ ?_; rfl)
              | (refine rg_take 6 (v := ?_) rfl (by kernel_rfl) (by kernel_rfl) (by kernel_rfl) (fun _ _ _ h => h) HS2 ?_ ?_ ?_; rotate_left; rfl; focus (intro w hSw; (try dsimp only at hSw); go_simp; all_goals (with_reducible rfl)))
            simp only [Act.put, List.setIfInBounds_toArray, List.set_cons_succ, List.set_cons_zero]
            first
              | (refine rg_skip 7 rfl (by kernel_rfl) (by kernel_rfl) (by kernel_rfl) (fun _ _ _ h => h) HS2 ?_ ?_; rfl)
              | (refine rg_take 7 (v := ?_) rfl (by kernel_rfl) (by kernel_rfl) (by kernel_rfl) (fun _ _ _ h => h) HS2 ?_ ?_ ?_; rotate_left; rfl; focus (intro w hSw; (try dsimp only at hSw); go_simp; all_goals (with_reducible rfl)))
            simp only [Act.put, List.setIfInBounds_toArray, List.set_cons_succ, List.set_cons_zero]
            first
              | (refine rg_skip 8 rfl (by kernel_rfl) (by kernel_rfl) (by kernel_rfl) (fun _ _ _ h => h) HS2 ?_ ?_; rfl)
              | (refine rg_take 8 (v := ?_) rfl (by kernel_rfl) (by kernel_rfl) (by kernel_rfl) (fun _ _ _ h => h) HS2 ?_ ?_ ?_; rotate_left; rfl; focus (intro w hSw; (try dsimp only at hSw); go_simp; all_goals (with_reducible rfl)))
            simp only [Act.put, List.setIfInBounds_toArray, List.set_cons_succ, List.set_cons_zero]
            first
              | (refine rg_skip 9 rfl (by kernel_rfl) (by kernel_rfl) (by kernel_rfl) (fun _ _ _ h => h) HS2 ?_ ?_; rfl)
              | (refine rg_take 9 (v := ?_) rfl (by kernel_rfl) (by kernel_rfl) (by kernel_rfl) (fun _ _ _ h => h) HS2 ?_ ?_ ?_; rotate_left; rfl; focus (intro w hSw; (try dsimp only at hSw); go_simp; all_goals (with_reducible rfl)))
            simp only [Act.put, List.setIfInBounds_toArray, List.set_cons_succ, List.set_cons_zero]
            first
              | (refine rg_skip 10 rfl (by kernel_rfl) (by kernel_rfl) (by kernel_rfl) (fun _ _ _ h => h) HS2 ?_ ?_; rfl)
              | (refine rg_take 10 (v := ?_) rfl (by kernel_rfl) (by kernel_rfl) (by kernel_rfl) (fun _ _ _ h => h) HS2 ?_ ?_ ?_; rotate_left; rfl; focus (intro w hSw; (try dsimp only at hSw); go_simp; all_goals (with_reducible rfl)))
            simp only [Act.put, List.setIfInBounds_toArray, List.set_cons_succ, List.set_cons_zero]
            first
              | (refine rg_skip 11 rfl (by kernel_rfl) (by kernel_rfl) (by kernel_rfl) (fun _ _ _ h => h) HS2 ?_ ?_; rfl)
              | (refine rg_take 11 (v := ?_) rfl (by kernel_rfl) (by kernel_rfl) (by kernel_rfl) (fun _ _ _ h => h) HS2 ?_ ?_ ?_; rotate_left; rfl; focus (intro w hSw; (try dsimp only at hSw); go_simp; all_goals (with_reducible rfl)))
            simp only [Act.put, List.setIfInBounds_toArray, List.set_cons_succ, List.set_cons_zero]
            first
              | (refine rg_skip 12 rfl (by kernel_rfl) (by kernel_rfl) (by kernel_rfl) (fun _ _ _ h => h) HS2 ?_ ?_; rfl)
              | (refine rg_take 12 (v := ?_) rfl (by kernel_rfl) (by kernel_rfl) (by kernel_rfl) (fun _ _ _ h => h) HS2 ?_ ?_ ?_; rotate_left; rfl; focus (intro w hSw; (try dsimp only at hSw); go_simp; all_goals (with_reducible rfl)))
            simp only [Act.put, List.setIfInBounds_toArray, List.set_cons_succ, List.set_cons_zero]
            first
              | (refine rg_skip 13 rfl (by kernel_rfl) (by kernel_rfl) (by kernel_rfl) (fun _ _ _ h => h) HS2 ?_ ?_; rfl)
              | (refine rg_take 13 (v := ?_) rfl (by kernel_rfl) (by kernel_rfl) (by kernel_rfl) (fun _ _ _ h => h) HS2 ?_ ?_ ?_; rotate_left; rfl; focus (intro w hSw; (try dsimp only at hSw); go_simp; all_goals (with_reducible rfl)))
            simp only [Act.put, List.setIfInBounds_toArray, List.set_cons_succ, List.set_cons_zero]
            first
              | (refine rg_skip 14 rfl (by kernel_rfl) (by kernel_rfl) (by kernel_rfl) (fun _ _ _ h => h) HS2 ?_ ?_; rfl)
              | (refine rg_take 14 (v := ?_) rfl (by kernel_rfl) (by kernel_rfl) (by kernel_rfl) (fun _ _ _ h => h) HS2 ?_ ?_ ?_; rotate_left; rfl; focus (intro w hSw; (try dsimp only at hSw); go_simp; all_goals (with_reducible rfl)))
            simp only [Act.put, List.setIfInBounds_toArray, List.set_cons_succ, List.set_cons_zero]
            first
              | (refine rg_skip 15 rfl (by kernel_rfl) (by kernel_rfl) (by kernel_rfl) (fun _ _ _ h => h) HS2 ?_ ?_; rfl)
              | (refine rg_take 15 (v := ?_) rfl (by kernel_rfl) (by kernel_rfl) (by kernel_rfl) (fun _ _ _ h => h) HS2 ?_ ?_ ?_; rotate_left; rfl; focus (intro w hSw; (try dsimp only at hSw); go_simp; all_goals (with_reducible rfl)))
            simp only [Act.put, List.setIfInBounds_toArray, List.set_cons_succ, List.set_cons_zero]
            first
              | (refine rg_skip 16 rfl (by kernel_rfl) (by kernel_rfl) (by kernel_rfl) (fun _ _ _ h => h) HS2 ?_ ?_; rfl)
              | (refine rg_take 16 (v := ?_) rfl (by kernel_rfl) (by kernel_rfl) (by kernel_rfl) (fun _ _ _ h => h) HS2 ?_ ?_ ?_; rotate_left; rfl; focus (intro w hSw; (try dsimp only at hSw); go_simp; all_goals (with_reducible rfl)))
            simp only [Act.put, List.setIfInBounds_toArray, List.set_cons_succ, List.set_cons_zero]
            first
              | (refine rg_skip 17 rfl (by kernel_rfl) (by kernel_rfl) (by kernel_rfl) (fun _ _ _ h => h) HS2 ?_ ?_; rfl)
              | (refine rg_take 17 (v := ?_) rfl (by kernel_rfl) (by kernel_rfl) (by kernel_rfl) (fun _ _ _ h => h) HS2 ?_ ?_ ?_; rotate_left; rfl; focus (intro w hSw; (try dsimp only at hSw); go_simp; all_goals (with_reducible rfl)))
            simp only [Act.put, List.setIfInBounds_toArray, List.set_cons_succ, List.set_cons_zero]
            first
              | (refine rg_skip 18 rfl (by kernel_rfl) (by kernel_rfl) (by kernel_rfl) (fun _ _ _ h => h) HS2 ?_ ?_; rfl)
              | (refine rg_take 18 (v := ?_) rfl (by kernel_rfl) (by kernel_rfl) (by kernel_rfl) (fun _ _ _ h => h) HS2 ?_ ?_ ?_; rotate_left; rfl; focus (intro w hSw; (try dsimp only at hSw); go_simp; all_goals (with_reducible rfl)))
            simp only [Act.put, List.setIfInBounds_toArray, List.set_cons_succ, List.set_cons_zero]
            first
              | (refine rg_skip 19 rfl (by kernel_rfl) (by kernel_rfl) (by kernel_rfl) (fun _ _ _ h => h) HS2 ?_ ?_; rfl)
              | (refine rg_take 19 (v := ?_) rfl (by kernel_rfl) (by kernel_rfl) (by kernel_rfl) (fun _ _ _ h => h) HS2 ?_ ?_ ?_; rotate_left; rfl; focus (intro w hSw; (try dsimp only at hSw); go_simp; all_goals (with_reducible rfl)))
            simp only [Act.put, List.setIfInBounds_toArray, List.set_cons_succ, List.set_cons_zero]
            first
              | (refine rg_skip 20 rfl (by kernel_rfl) (by kernel_rfl) (by kernel_rfl) (fun _ _ _ h => h) HS2 ?_ ?_; rfl)
              | (refine rg_take 20 (v := ?_) rfl (by kernel_rfl) (by kernel_rfl) (by kernel_rfl) (fun _ _ _ h => h) HS2 ?_ ?_ ?_; rotate_left; rfl; focus (intro w hSw; (try dsimp only at hSw); go_simp; all_goals (with_reducible rfl)))
            simp only [Act.put, List.setIfInBounds_toArray, List.set_cons_succ, List.set_cons_zero]
            refine rg_one 21 rfl (by kernel_rfl) (by rfl) ?_
            refine wp_store_agg 66 _ _ rfl br 0 rfl _ _ HBA (metaA m) rfl (metaA m) (store_meta _ _) (Nat.le_refl 4) (infoMs _) (metaA_one _) ?_
            intro wb hbb hkb
            have HS3 : (fun w' => w'.rangeAt bm 0 (metaA m).toList ∧ w'.rangeAt b8 0 (secA s).toList ∧ w'.cell? ⟨bm, 1, none⟩ = some (.int .i64 g2) ∧ (∃ m0, w'.heap[br]? = some (.cells (metaA m0) 66 (0, 0)))) wb := ⟨range_far hkb hmr HS2.1, range_far hkb h8r HS2.2.1, (hkb.cell (p := ⟨bm, 1, none⟩) (cell_ltK HS2.2.2.1) hmr).trans HS2.2.2.1, _, hbb⟩
            refine ⟨HS3, ?_⟩
            simp only [Act.put, List.setIfInBounds_toArray, List.set_cons_succ, List.set_cons_zero]
            first
              | (refine rg_skip 22 rfl (by kernel_rfl) (by kernel_rfl) (by kernel_rfl) (fun _ _ _ h => h) HS3 ?_ ?_; rfl)
              | (refine rg_take 22 (v := ?_) rfl (by kernel_rfl) (by kernel_rfl) (by kernel_rfl) (fun _ _ _ h => h) HS3 ?_ ?_ ?_; rotate_left; rfl; focus (intro w hSw; (try dsimp only at hSw); go_simp; all_goals (with_reducible rfl)))
            simp only [Act.put, List.setIfInBounds_toArray, List.set_cons_succ, List.set_cons_zero]
            refine wpAnyH_done (by kernel_rfl) ?_ _
            go_wp2_with fail
            refine bodyPost_ret (v := .tuple #[.agg (metaA m), .bool false]) ?_ rfl ⟨by rw [HP.out], ?_⟩
            · exact results_two rfl _ _ br _ _ _ _ rfl rfl hbb _ Try.underlying66 rfl (infoMs _)
            · exact (HK10.drew.trans hka).then hkb (fun i hi e => absurd hbr (by rw [← e]; exact Nat.not_le.2 hi))
        · have h2i : (g2 : Int) < 2 := by omega
          have h2j : decide ((2 : Int) ≤ g2) = false := decide_eq_false (by omega)
          have h2k : decide (2 ≤ g2) = false := decide_eq_false (by omega)
          have h2l : ¬ (2 : Int) ≤ g2 := by omega
          have HC : Hid (¬ (m.root = 0 ∨ (2 ≤ m.root ∧ m.root < long))) := Lib.hid (by rw [HROOT.out]; omega)
          clear h2g hz
          have HP : Hid (metaAt (s, 0) pg long = (m, false)) := by
            unfold Hid metaAt
            rw [if_pos ⟨rfl, HMM.out, by rw [HPS.out]; exact HFT.out⟩, HPS.out]
            simp only [Prod.mk.injEq, true_and]
            first
              | (rw [decide_eq_true_eq]; exact ⟨HE.out, HC.out⟩)
              | (rw [decide_eq_false_iff_not]; exact fun h => HE.out h.1)
              | (rw [decide_eq_false_iff_not]; exact fun h => HC.out h.2)
          refine wp_region_held_drew (S := (fun w' => w'.rangeAt bm 0 (metaA m).toList ∧ w'.rangeAt b8 0 (secA s).toList ∧ w'.cell? ⟨bm, 1, none⟩ = some (.int .i64 g2) ∧ (∃ m0, w'.heap[br]? = some (.cells (metaA m0) 66 (0, 0))))) (by kernel_rfl) HS (fun _ => ?_)
          refine rg_load 0 rfl (by kernel_rfl) (by kernel_rfl) (by kernel_rfl) (metaA m) (fun _ _ _ h => h) HS (by rfl) bm 0 rfl (fun _ h => h.1) _ Try.underlying66 rfl (infoMs _) ?_
          simp only [Act.put, List.setIfInBounds_toArray, List.set_cons_succ, List.set_cons_zero]
          refine rg_load 1 rfl (by kernel_rfl) (by kernel_rfl) (by kernel_rfl) (metaA m) (fun _ _ _ h => h) HS (by rfl) bm 0 rfl (fun _ h => h.1) _ Try.underlying66 rfl (infoMs _) ?_
          simp only [Act.put, List.setIfInBounds_toArray, List.set_cons_succ, List.set_cons_zero]
          refine rg_load 3 rfl (by kernel_rfl) (by kernel_rfl) (by kernel_rfl) (secA s) (fun _ _ _ h => h) HS (by rfl) b8 0 rfl (fun _ h => h.2.1) _ Try.underlying28 rfl (info28s _) ?_
          simp only [Act.put, List.setIfInBounds_toArray, List.set_cons_succ, List.set_cons_zero]
          refine rg_one 2 rfl (by kernel_rfl) (by rfl) ?_
          refine rg_call 107 _ _ rfl _ Try.func107 (by kernel_rfl) (by kernel_rfl) [.agg (metaA m)] rfl (sector9_calls _ m HMO.out) ?_
          rintro e wa ⟨rfl, hka⟩
          have HBA := hka.blk HBR10 (by simp)
          have HS2 : (fun w' => w'.rangeAt bm 0 (metaA m).toList ∧ w'.rangeAt b8 0 (secA s).toList ∧ w'.cell? ⟨bm, 1, none⟩ = some (.int .i64 g2) ∧ (∃ m0, w'.heap[br]? = some (.cells (metaA m0) 66 (0, 0)))) wa := ⟨Keeps.rangeK hka HS.1, Keeps.rangeK hka HS.2.1, Keeps.cellK hka HS.2.2.1, _, HBA⟩
          refine ⟨_, rfl, HS2, ?_⟩
          simp only [Act.put, List.setIfInBounds_toArray, List.set_cons_succ, List.set_cons_zero]
          first
            | (refine rg_skip 4 rfl (by kernel_rfl) (by kernel_rfl) (by kernel_rfl) (fun _ _ _ h => h) HS2 ?_ ?_; rfl)
            | (refine rg_take 4 (v := ?_) rfl (by kernel_rfl) (by kernel_rfl) (by kernel_rfl) (fun _ _ _ h => h) HS2 ?_ ?_ ?_; rotate_left; rfl; focus (intro w hSw; (try dsimp only at hSw); go_simp; all_goals (with_reducible rfl)))
          simp only [Act.put, List.setIfInBounds_toArray, List.set_cons_succ, List.set_cons_zero]
          first
            | (refine rg_skip 5 rfl (by kernel_rfl) (by kernel_rfl) (by kernel_rfl) (fun _ _ _ h => h) HS2 ?_ ?_; rfl)
            | (refine rg_take 5 (v := ?_) rfl (by kernel_rfl) (by kernel_rfl) (by kernel_rfl) (fun _ _ _ h => h) HS2 ?_ ?_ ?_; rotate_left; rfl; focus (intro w hSw; (try dsimp only at hSw); go_simp; all_goals (with_reducible rfl)))
          simp only [Act.put, List.setIfInBounds_toArray, List.set_cons_succ, List.set_cons_zero]
          first
            | (refine rg_skip 6 rfl (by kernel_rfl) (by kernel_rfl) (by kernel_rfl) (fun _ _ _ h => h) HS2 ?_ ?_; rfl)
            | (refine rg_take 6 (v := ?_) rfl (by kernel_rfl) (by kernel_rfl) (by kernel_rfl) (fun _ _ _ h => h) HS2 ?_ ?_ ?_; rotate_left; rfl; focus (intro w hSw; (try dsimp only at hSw); go_simp; all_goals (with_reducible rfl)))
          simp only [Act.put, List.setIfInBounds_toArray, List.set_cons_succ, List.set_cons_zero]
          first
            | (refine rg_skip 7 rfl (by kernel_rfl) (by kernel_rfl) (by kernel_rfl) (fun _ _ _ h => h) HS2 ?_ ?_; rfl)
            | (refine rg_take 7 (v := ?_) rfl (by kernel_rfl) (by kernel_rfl) (by kernel_rfl) (fun _ _ _ h => h) HS2 ?_ ?_ ?_; rotate_left; rfl; focus (intro w hSw; (try dsimp only at hSw); go_simp; all_goals (with_reducible rfl)))
          simp only [Act.put, List.setIfInBounds_toArray, List.set_cons_succ, List.set_cons_zero]
          first
            | (refine rg_skip 8 rfl (by kernel_rfl) (by kernel_rfl) (by kernel_rfl) (fun _ _ _ h => h) HS2 ?_ ?_; rfl)
            | (refine rg_take 8 (v := ?_) rfl (by kernel_rfl) (by kernel_rfl) (by kernel_rfl) (fun _ _ _ h => h) HS2 ?_ ?_ ?_; rotate_left; rfl; focus (intro w hSw; (try dsimp only at hSw); go_simp; all_goals (with_reducible rfl)))
          simp only [Act.put, List.setIfInBounds_toArray, List.set_cons_succ, List.set_cons_zero]
          first
            | (refine rg_skip 9 rfl (by kernel_rfl) (by kernel_rfl) (by kernel_rfl) (fun _ _ _ h => h) HS2 ?_ ?_; rfl)
            | (refine rg_take 9 (v := ?_) rfl (by kernel_rfl) (by kernel_rfl) (by kernel_rfl) (fun _ _ _ h => h) HS2 ?_ ?_ ?_; rotate_left; rfl; focus (intro w hSw; (try dsimp only at hSw); go_simp; all_goals (with_reducible rfl)))
          simp only [Act.put, List.setIfInBounds_toArray, List.set_cons_succ, List.set_cons_zero]
          first
            | (refine rg_skip 10 rfl (by kernel_rfl) (by kernel_rfl) (by kernel_rfl) (fun _ _ _ h => h) HS2 ?_ ?_; rfl)
            | (refine rg_take 10 (v := ?_) rfl (by kernel_rfl) (by kernel_rfl) (by kernel_rfl) (fun _ _ _ h => h) HS2 ?_ ?_ ?_; rotate_left; rfl; focus (intro w hSw; (try dsimp only at hSw); go_simp; all_goals (with_reducible rfl)))
          simp only [Act.put, List.setIfInBounds_toArray, List.set_cons_succ, List.set_cons_zero]
          first
            | (refine rg_skip 11 rfl (by kernel_rfl) (by kernel_rfl) (by kernel_rfl) (fun _ _ _ h => h) HS2 ?_ ?_; rfl)
            | (refine rg_take 11 (v := ?_) rfl (by kernel_rfl) (by kernel_rfl) (by kernel_rfl) (fun _ _ _ h => h) HS2 ?_ ?_ ?_; rotate_left; rfl; focus (intro w hSw; (try dsimp only at hSw); go_simp; all_goals (with_reducible rfl)))
          simp only [Act.put, List.setIfInBounds_toArray, List.set_cons_succ, List.set_cons_zero]
          first
            | (refine rg_skip 12 rfl (by kernel_rfl) (by kernel_rfl) (by kernel_rfl) (fun _ _ _ h => h) HS2 ?_ ?_; rfl)
            | (refine rg_take 12 (v := ?_) rfl (by kernel_rfl) (by kernel_rfl) (by kernel_rfl) (fun _ _ _ h => h) HS2 ?_ ?_ ?_; rotate_left; rfl; focus (intro w hSw; (try dsimp only at hSw); go_simp; all_goals (with_reducible rfl)))
          simp only [Act.put, List.setIfInBounds_toArray, List.set_cons_succ, List.set_cons_zero]
          first
            | (refine rg_skip 13 rfl (by kernel_rfl) (by kernel_rfl) (by kernel_rfl) (fun _ _ _ h => h) HS2 ?_ ?_; rfl)
            | (refine rg_take 13 (v := ?_) rfl (by kernel_rfl) (by kernel_rfl) (by kernel_rfl) (fun _ _ _ h => h) HS2 ?_ ?_ ?_; rotate_left; rfl; focus (intro w hSw; (try dsimp only at hSw); go_simp; all_goals (with_reducible rfl)))
          simp only [Act.put, List.setIfInBounds_toArray, List.set_cons_succ, List.set_cons_zero]
          first
            | (refine rg_skip 14 rfl (by kernel_rfl) (by kernel_rfl) (by kernel_rfl) (fun _ _ _ h => h) HS2 ?_ ?_; rfl)
            | (refine rg_take 14 (v := ?_) rfl (by kernel_rfl) (by kernel_rfl) (by kernel_rfl) (fun _ _ _ h => h) HS2 ?_ ?_ ?_; rotate_left; rfl; focus (intro w hSw; (try dsimp only at hSw); go_simp; all_goals (with_reducible rfl)))
          simp only [Act.put, List.setIfInBounds_toArray, List.set_cons_succ, List.set_cons_zero]
          first
            | (refine rg_skip 15 rfl (by kernel_rfl) (by kernel_rfl) (by kernel_rfl) (fun _ _ _ h => h) HS2 ?_ ?_; rfl)
            | (refine rg_take 15 (v := ?_) rfl (by kernel_rfl) (by kernel_rfl) (by kernel_rfl) (fun _ _ _ h => h) HS2 ?_ ?_ ?_; rotate_left; rfl; focus (intro w hSw; (try dsimp only at hSw); go_simp; all_goals (with_reducible rfl)))
          simp only [Act.put, List.setIfInBounds_toArray, List.set_cons_succ, List.set_cons_zero]
          first
            | (refine rg_skip 16 rfl (by kernel_rfl) (by kernel_rfl) (by kernel_rfl) (fun _ _ _ h => h) HS2 ?_ ?_; rfl)
            | (refine rg_take 16 (v := ?_) rfl (by kernel_rfl) (by kernel_rfl) (by kernel_rfl) (fun _ _ _ h => h) HS2 ?_ ?_ ?_; rotate_left; rfl; focus (intro w hSw; (try dsimp only at hSw); go_simp; all_goals (with_reducible rfl)))
          simp only [Act.put, List.setIfInBounds_toArray, List.set_cons_succ, List.set_cons_zero]
          first
            | (refine rg_skip 17 rfl (by kernel_rfl) (by kernel_rfl) (by kernel_rfl) (fun _ _ _ h => h) HS2 ?_ ?_; rfl)
            | (refine rg_take 17 (v := ?_) rfl (by kernel_rfl) (by kernel_rfl) (by kernel_rfl) (fun _ _ _ h => h) HS2 ?_ ?_ ?_; rotate_left; rfl; focus (intro w hSw; (try dsimp only at hSw); go_simp; all_goals (with_reducible rfl)))
          simp only [Act.put, List.setIfInBounds_toArray, List.set_cons_succ, List.set_cons_zero]
          first
            | (refine rg_skip 18 rfl (by kernel_rfl) (by kernel_rfl) (by kernel_rfl) (fun _ _ _ h => h) HS2 ?_ ?_; rfl)
            | (refine rg_take 18 (v := ?_) rfl (by kernel_rfl) (by kernel_rfl) (by kernel_rfl) (fun _ _ _ h => h) HS2 ?_ ?_ ?_; rotate_left; rfl; focus (intro w hSw; (try dsimp only at hSw); go_simp; all_goals (with_reducible rfl)))
          simp only [Act.put, List.setIfInBounds_toArray, List.set_cons_succ, List.set_cons_zero]
          first
            | (refine rg_skip 19 rfl (by kernel_rfl) (by kernel_rfl) (by kernel_rfl) (fun _ _ _ h => h) HS2 ?_ ?_; rfl)
            | (refine rg_take 19 (v := ?_) rfl (by kernel_rfl) (by kernel_rfl) (by kernel_rfl) (fun _ _ _ h => h) HS2 ?_ ?_ ?_; rotate_left; rfl; focus (intro w hSw; (try dsimp only at hSw); go_simp; all_goals (with_reducible rfl)))
          simp only [Act.put, List.setIfInBounds_toArray, List.set_cons_succ, List.set_cons_zero]
          first
            | (refine rg_skip 20 rfl (by kernel_rfl) (by kernel_rfl) (by kernel_rfl) (fun _ _ _ h => h) HS2 ?_ ?_; rfl)
            | (refine rg_take 20 (v := ?_) rfl (by kernel_rfl) (by kernel_rfl) (by kernel_rfl) (fun _ _ _ h => h) HS2 ?_ ?_ ?_; rotate_left; rfl; focus (intro w hSw; (try dsimp only at hSw); go_simp; all_goals (with_reducible rfl)))
          simp only [Act.put, List.setIfInBounds_toArray, List.set_cons_succ, List.set_cons_zero]
          refine rg_one 21 rfl (by kernel_rfl) (by rfl) ?_
          refine wp_store_agg 66 _ _ rfl br 0 rfl _ _ HBA (metaA m) rfl (metaA m) (store_meta _ _) (Nat.le_refl 4) (infoMs _) (metaA_one _) ?_
          intro wb hbb hkb
          have HS3 : (fun w' => w'.rangeAt bm 0 (metaA m).toList ∧ w'.rangeAt b8 0 (secA s).toList ∧ w'.cell? ⟨bm, 1, none⟩ = some (.int .i64 g2) ∧ (∃ m0, w'.heap[br]? = some (.cells (metaA m0) 66 (0, 0)))) wb := ⟨range_far hkb hmr HS2.1, range_far hkb h8r HS2.2.1, (hkb.cell (p := ⟨bm, 1, none⟩) (cell_ltK HS2.2.2.1) hmr).trans HS2.2.2.1, _, hbb⟩
          refine ⟨HS3, ?_⟩
          simp only [Act.put, List.setIfInBounds_toArray, List.set_cons_succ, List.set_cons_zero]
          first
            | (refine rg_skip 22 rfl (by kernel_rfl) (by kernel_rfl) (by kernel_rfl) (fun _ _ _ h => h) HS3 ?_ ?_; rfl)
            | (refine rg_take 22 (v := ?_) rfl (by kernel_rfl) (by kernel_rfl) (by kernel_rfl) (fun _ _ _ h => h) HS3 ?_ ?_ ?_; rotate_left; rfl; focus (intro w hSw; (try dsimp only at hSw); go_simp; all_goals (with_reducible rfl)))
          simp only [Act.put, List.setIfInBounds_toArray, List.set_cons_succ, List.set_cons_zero]
          refine wpAnyH_done (by kernel_rfl) ?_ _
          go_wp2_with fail
          refine bodyPost_ret (v := .tuple #[.agg (metaA m), .bool false]) ?_ rfl ⟨by rw [HP.out], ?_⟩
          · exact results_two rfl _ _ br _ _ _ _ rfl rfl hbb _ Try.underlying66 rfl (infoMs _)
          · exact (HK10.drew.trans hka).then hkb (fun i hi e => absurd hbr (by rw [← e]; exact Nat.not_le.2 hi))
    · have HE := Lib.hid hes
      have hg1 : ∀ (x y : Operand) (W : World), (eqGuard BinOp.eql 28 x y (secV (metaS m)) (.agg (secA s))).run Try.prog W = .ok () W := fun x y W => run_guard_sec W _ x y _ _
      have hg2 : ∀ (W : World), (binOp BinOp.eql 28 (secV (metaS m)) (.agg (secA s))).run Try.prog W = .ok (.bool false) W := fun W => by
        have := run_eql_sec W (metaS m) s
        rw [show secV s = .agg (secA s) from rfl] at this
        rw [this]; simp [HE.out]
      clear hes
      have HC := trivial
      have HP : Hid (metaAt (s, 0) pg long = (m, false)) := by
        unfold Hid metaAt
        rw [if_pos ⟨rfl, HMM.out, by rw [HPS.out]; exact HFT.out⟩, HPS.out]
        simp only [Prod.mk.injEq, true_and]
        first
          | (rw [decide_eq_true_eq]; exact ⟨HE.out, HC.out⟩)
          | (rw [decide_eq_false_iff_not]; exact fun h => HE.out h.1)
          | (rw [decide_eq_false_iff_not]; exact fun h => HC.out h.2)
      refine wp_region_held_drew (S := (fun w' => w'.rangeAt bm 0 (metaA m).toList ∧ w'.rangeAt b8 0 (secA s).toList ∧ w'.cell? ⟨bm, 1, none⟩ = some (.int .i64 g2) ∧ (∃ m0, w'.heap[br]? = some (.cells (metaA m0) 66 (0, 0))))) (by kernel_rfl) HS (fun _ => ?_)
      refine rg_load 0 rfl (by kernel_rfl) (by kernel_rfl) (by kernel_rfl) (metaA m) (fun _ _ _ h => h) HS (by rfl) bm 0 rfl (fun _ h => h.1) _ Try.underlying66 rfl (infoMs _) ?_
      simp only [Act.put, List.setIfInBounds_toArray, List.set_cons_succ, List.set_cons_zero]
      refine rg_load 1 rfl (by kernel_rfl) (by kernel_rfl) (by kernel_rfl) (metaA m) (fun _ _ _ h => h) HS (by rfl) bm 0 rfl (fun _ h => h.1) _ Try.underlying66 rfl (infoMs _) ?_
      simp only [Act.put, List.setIfInBounds_toArray, List.set_cons_succ, List.set_cons_zero]
      refine rg_load 3 rfl (by kernel_rfl) (by kernel_rfl) (by kernel_rfl) (secA s) (fun _ _ _ h => h) HS (by rfl) b8 0 rfl (fun _ h => h.2.1) _ Try.underlying28 rfl (info28s _) ?_
      simp only [Act.put, List.setIfInBounds_toArray, List.set_cons_succ, List.set_cons_zero]
      refine rg_one 2 rfl (by kernel_rfl) (by rfl) ?_
      refine rg_call 107 _ _ rfl _ Try.func107 (by kernel_rfl) (by kernel_rfl) [.agg (metaA m)] rfl (sector9_calls _ m HMO.out) ?_
      rintro e wa ⟨rfl, hka⟩
      have HBA := hka.blk HBR10 (by simp)
      have HS2 : (fun w' => w'.rangeAt bm 0 (metaA m).toList ∧ w'.rangeAt b8 0 (secA s).toList ∧ w'.cell? ⟨bm, 1, none⟩ = some (.int .i64 g2) ∧ (∃ m0, w'.heap[br]? = some (.cells (metaA m0) 66 (0, 0)))) wa := ⟨Keeps.rangeK hka HS.1, Keeps.rangeK hka HS.2.1, Keeps.cellK hka HS.2.2.1, _, HBA⟩
      refine ⟨_, rfl, HS2, ?_⟩
      simp only [Act.put, List.setIfInBounds_toArray, List.set_cons_succ, List.set_cons_zero]
      first
        | (refine rg_skip 4 rfl (by kernel_rfl) (by kernel_rfl) (by kernel_rfl) (fun _ _ _ h => h) HS2 ?_ ?_; rfl)
        | (refine rg_take 4 (v := ?_) rfl (by kernel_rfl) (by kernel_rfl) (by kernel_rfl) (fun _ _ _ h => h) HS2 ?_ ?_ ?_; rotate_left; rfl; focus (intro w hSw; (try dsimp only at hSw); go_simp; all_goals (with_reducible rfl)))
      simp only [Act.put, List.setIfInBounds_toArray, List.set_cons_succ, List.set_cons_zero]
      first
        | (refine rg_skip 5 rfl (by kernel_rfl) (by kernel_rfl) (by kernel_rfl) (fun _ _ _ h => h) HS2 ?_ ?_; rfl)
        | (refine rg_take 5 (v := ?_) rfl (by kernel_rfl) (by kernel_rfl) (by kernel_rfl) (fun _ _ _ h => h) HS2 ?_ ?_ ?_; rotate_left; rfl; focus (intro w hSw; (try dsimp only at hSw); go_simp; all_goals (with_reducible rfl)))
      simp only [Act.put, List.setIfInBounds_toArray, List.set_cons_succ, List.set_cons_zero]
      first
        | (refine rg_skip 6 rfl (by kernel_rfl) (by kernel_rfl) (by kernel_rfl) (fun _ _ _ h => h) HS2 ?_ ?_; rfl)
        | (refine rg_take 6 (v := ?_) rfl (by kernel_rfl) (by kernel_rfl) (by kernel_rfl) (fun _ _ _ h => h) HS2 ?_ ?_ ?_; rotate_left; rfl; focus (intro w hSw; (try dsimp only at hSw); go_simp; all_goals (with_reducible rfl)))
      simp only [Act.put, List.setIfInBounds_toArray, List.set_cons_succ, List.set_cons_zero]
      first
        | (refine rg_skip 7 rfl (by kernel_rfl) (by kernel_rfl) (by kernel_rfl) (fun _ _ _ h => h) HS2 ?_ ?_; rfl)
        | (refine rg_take 7 (v := ?_) rfl (by kernel_rfl) (by kernel_rfl) (by kernel_rfl) (fun _ _ _ h => h) HS2 ?_ ?_ ?_; rotate_left; rfl; focus (intro w hSw; (try dsimp only at hSw); go_simp; all_goals (with_reducible rfl)))
      simp only [Act.put, List.setIfInBounds_toArray, List.set_cons_succ, List.set_cons_zero]
      first
        | (refine rg_skip 8 rfl (by kernel_rfl) (by kernel_rfl) (by kernel_rfl) (fun _ _ _ h => h) HS2 ?_ ?_; rfl)
        | (refine rg_take 8 (v := ?_) rfl (by kernel_rfl) (by kernel_rfl) (by kernel_rfl) (fun _ _ _ h => h) HS2 ?_ ?_ ?_; rotate_left; rfl; focus (intro w hSw; (try dsimp only at hSw); go_simp; all_goals (with_reducible rfl)))
      simp only [Act.put, List.setIfInBounds_toArray, List.set_cons_succ, List.set_cons_zero]
      first
        | (refine rg_skip 9 rfl (by kernel_rfl) (by kernel_rfl) (by kernel_rfl) (fun _ _ _ h => h) HS2 ?_ ?_; rfl)
        | (refine rg_take 9 (v := ?_) rfl (by kernel_rfl) (by kernel_rfl) (by kernel_rfl) (fun _ _ _ h => h) HS2 ?_ ?_ ?_; rotate_left; rfl; focus (intro w hSw; (try dsimp only at hSw); go_simp; all_goals (with_reducible rfl)))
      simp only [Act.put, List.setIfInBounds_toArray, List.set_cons_succ, List.set_cons_zero]
      first
        | (refine rg_skip 10 rfl (by kernel_rfl) (by kernel_rfl) (by kernel_rfl) (fun _ _ _ h => h) HS2 ?_ ?_; rfl)
        | (refine rg_take 10 (v := ?_) rfl (by kernel_rfl) (by kernel_rfl) (by kernel_rfl) (fun _ _ _ h => h) HS2 ?_ ?_ ?_; rotate_left; rfl; focus (intro w hSw; (try dsimp only at hSw); go_simp; all_goals (with_reducible rfl)))
      simp only [Act.put, List.setIfInBounds_toArray, List.set_cons_succ, List.set_cons_zero]
      first
        | (refine rg_skip 11 rfl (by kernel_rfl) (by kernel_rfl) (by kernel_rfl) (fun _ _ _ h => h) HS2 ?_ ?_; rfl)
        | (refine rg_take 11 (v := ?_) rfl (by kernel_rfl) (by kernel_rfl) (by kernel_rfl) (fun _ _ _ h => h) HS2 ?_ ?_ ?_; rotate_left; rfl; focus (intro w hSw; (try dsimp only at hSw); go_simp; all_goals (with_reducible rfl)))
      simp only [Act.put, List.setIfInBounds_toArray, List.set_cons_succ, List.set_cons_zero]
      first
        | (refine rg_skip 12 rfl (by kernel_rfl) (by kernel_rfl) (by kernel_rfl) (fun _ _ _ h => h) HS2 ?_ ?_; rfl)
        | (refine rg_take 12 (v := ?_) rfl (by kernel_rfl) (by kernel_rfl) (by kernel_rfl) (fun _ _ _ h => h) HS2 ?_ ?_ ?_; rotate_left; rfl; focus (intro w hSw; (try dsimp only at hSw); go_simp; all_goals (with_reducible rfl)))
      simp only [Act.put, List.setIfInBounds_toArray, List.set_cons_succ, List.set_cons_zero]
      first
        | (refine rg_skip 13 rfl (by kernel_rfl) (by kernel_rfl) (by kernel_rfl) (fun _ _ _ h => h) HS2 ?_ ?_; rfl)
        | (refine rg_take 13 (v := ?_) rfl (by kernel_rfl) (by kernel_rfl) (by kernel_rfl) (fun _ _ _ h => h) HS2 ?_ ?_ ?_; rotate_left; rfl; focus (intro w hSw; (try dsimp only at hSw); go_simp; all_goals (with_reducible rfl)))
      simp only [Act.put, List.setIfInBounds_toArray, List.set_cons_succ, List.set_cons_zero]
      first
        | (refine rg_skip 14 rfl (by kernel_rfl) (by kernel_rfl) (by kernel_rfl) (fun _ _ _ h => h) HS2 ?_ ?_; rfl)
        | (refine rg_take 14 (v := ?_) rfl (by kernel_rfl) (by kernel_rfl) (by kernel_rfl) (fun _ _ _ h => h) HS2 ?_ ?_ ?_; rotate_left; rfl; focus (intro w hSw; (try dsimp only at hSw); go_simp; all_goals (with_reducible rfl)))
      simp only [Act.put, List.setIfInBounds_toArray, List.set_cons_succ, List.set_cons_zero]
      first
        | (refine rg_skip 15 rfl (by kernel_rfl) (by kernel_rfl) (by kernel_rfl) (fun _ _ _ h => h) HS2 ?_ ?_; rfl)
        | (refine rg_take 15 (v := ?_) rfl (by kernel_rfl) (by kernel_rfl) (by kernel_rfl) (fun _ _ _ h => h) HS2 ?_ ?_ ?_; rotate_left; rfl; focus (intro w hSw; (try dsimp only at hSw); go_simp; all_goals (with_reducible rfl)))
      simp only [Act.put, List.setIfInBounds_toArray, List.set_cons_succ, List.set_cons_zero]
      first
        | (refine rg_skip 16 rfl (by kernel_rfl) (by kernel_rfl) (by kernel_rfl) (fun _ _ _ h => h) HS2 ?_ ?_; rfl)
        | (refine rg_take 16 (v := ?_) rfl (by kernel_rfl) (by kernel_rfl) (by kernel_rfl) (fun _ _ _ h => h) HS2 ?_ ?_ ?_; rotate_left; rfl; focus (intro w hSw; (try dsimp only at hSw); go_simp; all_goals (with_reducible rfl)))
      simp only [Act.put, List.setIfInBounds_toArray, List.set_cons_succ, List.set_cons_zero]
      first
        | (refine rg_skip 17 rfl (by kernel_rfl) (by kernel_rfl) (by kernel_rfl) (fun _ _ _ h => h) HS2 ?_ ?_; rfl)
        | (refine rg_take 17 (v := ?_) rfl (by kernel_rfl) (by kernel_rfl) (by kernel_rfl) (fun _ _ _ h => h) HS2 ?_ ?_ ?_; rotate_left; rfl; focus (intro w hSw; (try dsimp only at hSw); go_simp; all_goals (with_reducible rfl)))
      simp only [Act.put, List.setIfInBounds_toArray, List.set_cons_succ, List.set_cons_zero]
      first
        | (refine rg_skip 18 rfl (by kernel_rfl) (by kernel_rfl) (by kernel_rfl) (fun _ _ _ h => h) HS2 ?_ ?_; rfl)
        | (refine rg_take 18 (v := ?_) rfl (by kernel_rfl) (by kernel_rfl) (by kernel_rfl) (fun _ _ _ h => h) HS2 ?_ ?_ ?_; rotate_left; rfl; focus (intro w hSw; (try dsimp only at hSw); go_simp; all_goals (with_reducible rfl)))
      simp only [Act.put, List.setIfInBounds_toArray, List.set_cons_succ, List.set_cons_zero]
      first
        | (refine rg_skip 19 rfl (by kernel_rfl) (by kernel_rfl) (by kernel_rfl) (fun _ _ _ h => h) HS2 ?_ ?_; rfl)
        | (refine rg_take 19 (v := ?_) rfl (by kernel_rfl) (by kernel_rfl) (by kernel_rfl) (fun _ _ _ h => h) HS2 ?_ ?_ ?_; rotate_left; rfl; focus (intro w hSw; (try dsimp only at hSw); go_simp; all_goals (with_reducible rfl)))
      simp only [Act.put, List.setIfInBounds_toArray, List.set_cons_succ, List.set_cons_zero]
      first
        | (refine rg_skip 20 rfl (by kernel_rfl) (by kernel_rfl) (by kernel_rfl) (fun _ _ _ h => h) HS2 ?_ ?_; rfl)
        | (refine rg_take 20 (v := ?_) rfl (by kernel_rfl) (by kernel_rfl) (by kernel_rfl) (fun _ _ _ h => h) HS2 ?_ ?_ ?_; rotate_left; rfl; focus (intro w hSw; (try dsimp only at hSw); go_simp; all_goals (with_reducible rfl)))
      simp only [Act.put, List.setIfInBounds_toArray, List.set_cons_succ, List.set_cons_zero]
      refine rg_one 21 rfl (by kernel_rfl) (by rfl) ?_
      refine wp_store_agg 66 _ _ rfl br 0 rfl _ _ HBA (metaA m) rfl (metaA m) (store_meta _ _) (Nat.le_refl 4) (infoMs _) (metaA_one _) ?_
      intro wb hbb hkb
      have HS3 : (fun w' => w'.rangeAt bm 0 (metaA m).toList ∧ w'.rangeAt b8 0 (secA s).toList ∧ w'.cell? ⟨bm, 1, none⟩ = some (.int .i64 g2) ∧ (∃ m0, w'.heap[br]? = some (.cells (metaA m0) 66 (0, 0)))) wb := ⟨range_far hkb hmr HS2.1, range_far hkb h8r HS2.2.1, (hkb.cell (p := ⟨bm, 1, none⟩) (cell_ltK HS2.2.2.1) hmr).trans HS2.2.2.1, _, hbb⟩
      refine ⟨HS3, ?_⟩
      simp only [Act.put, List.setIfInBounds_toArray, List.set_cons_succ, List.set_cons_zero]
      first
        | (refine rg_skip 22 rfl (by kernel_rfl) (by kernel_rfl) (by kernel_rfl) (fun _ _ _ h => h) HS3 ?_ ?_; rfl)
        | (refine rg_take 22 (v := ?_) rfl (by kernel_rfl) (by kernel_rfl) (by kernel_rfl) (fun _ _ _ h => h) HS3 ?_ ?_ ?_; rotate_left; rfl; focus (intro w hSw; (try dsimp only at hSw); go_simp; all_goals (with_reducible rfl)))
      simp only [Act.put, List.setIfInBounds_toArray, List.set_cons_succ, List.set_cons_zero]
      refine wpAnyH_done (by kernel_rfl) ?_ _
      go_wp2_with fail
      refine bodyPost_ret (v := .tuple #[.agg (metaA m), .bool false]) ?_ rfl ⟨by rw [HP.out], ?_⟩
      · exact results_two rfl _ _ br _ _ _ _ rfl rfl hbb _ Try.underlying66 rfl (infoMs _)
      · exact (HK10.drew.trans hka).then hkb (fun i hi e => absurd hbr (by rw [← e]; exact Nat.not_le.2 hi))
  · have HP : Hid (metaAt (s, 0) pg long = (⟨0, 0, 0, 0⟩, false)) := by
      unfold Hid metaAt
      rw [if_neg (fun h => hf (by have := h.2.2; rwa [HPS.out] at this))]
    have hcase : ((g1 : Int) == 0) = true ∨ (((g1 : Int) == 0) = false ∧ (((g1 : Int) % 2) != (pg : Int)) = true) ∨
        (((g1 : Int) == 0) = false ∧ (((g1 : Int) % 2) != (pg : Int)) = false ∧ (4611686018427387904 : Int) < g2) ∨
        (((g1 : Int) == 0) = false ∧ (((g1 : Int) % 2) != (pg : Int)) = false ∧ (g2 : Int) ≤ 4611686018427387904 ∧ (4611686018427387904 : Int) < g3) := by
      unfold metaFits at hf
      simp only [beq_iff_eq, beq_eq_false_iff_ne, bne_iff_ne, bne_eq_false_iff_eq] at hf ⊢
      omega
    clear hf
    rcases hcase with h1 | ⟨h1, h2⟩ | ⟨h1, h2, h3⟩ | ⟨h1, h2, h3, h4⟩
    all_goals
      go_wp2_with (first
        | (go_at_call 106; refine (slot_calls _ g1).mono ?_; rintro e wx ⟨rfl, rfl⟩)
        | ((with_reducible refine gd_build 66 ?_); refine wl_build0 rfl _ rfl _ buildM0 ?_)
        | ((with_reducible refine gd_store 66 ?_); refine wl_store_agg rfl _ _ _ rfl br _ rfl _ _ HBR9 (metaA ⟨0, 0, 0, 0⟩) rfl (metaA ⟨0, 0, 0, 0⟩) (store_meta _ _) (Nat.le_refl 4) (infoMs _) (metaA_one _) ?_; intro w10 HB10 HK10)
        | fail)
      refine bodyPost_ret (v := .tuple #[.agg (metaA ⟨0, 0, 0, 0⟩), .bool false]) ?_ rfl ⟨by rw [HP.out], ?_⟩
      · exact results_two rfl _ _ br _ _ _ _ rfl rfl HB10 _ Try.underlying66 rfl (infoMs _)
      · exact HK9.then HK10 (fun i hi e => absurd hbr (by rw [← e]; exact Nat.not_le.2 hi))

theorem metaAt_calls (w : World) (h : DH) (D : Dv) (pg long : Nat) (hd : isDev w h D) (hid : pg < 2) :
    Calls Try.prog 88 #[.pointer (some ⟨h.p, 0, none⟩), .int .i64 pg, .int .i64 long] w (MetaPost w (D.read [112] ((pg : Int) * 8)) pg long) := by
  by_cases he : (D.read [112] ((pg : Int) * 8)).2 = 0
  · obtain ⟨s, e0, hr⟩ : ∃ s e0, D.read [112] ((pg : Int) * 8) = (s, e0) := ⟨_, _, rfl⟩
    rw [hr] at he ⊢
    simp only at he
    subst he
    by_cases hm : s.1.take 8 = markL
    · exact metaAt_more w h D pg long s hd hid hr hm
    · exact metaAt_nomark w h D pg long s hd hid hr hm
  · exact metaAt_bad w h D pg long hd hid he
end Go.Proofs.Ytadjcdfmppcpnaa

namespace Go.Proofs.Ytadjcdfmppcpnaa
open Go Go.RowKit Go.Maps Wb

theorem pages_calls (w : World) (h : DH) (D : Dv) (hd : isDev w h D) : Calls Try.prog 89 #[.pointer (some ⟨h.p, 0, none⟩)] w fun e w' => e = .returned (.int .i64 (pagesOf D)) ∧ w = w' := by
  have hn : nmOk [112] := nmOk_small (by decide)
  have hl : (D.len [112] : Int) ≤ 100000 := by have := len_small hd.wf [112]; omega
  have hl0 : (0 : Int) ≤ D.len [112] := by omega
  go_enter Try.func89, Try.ntmps89
  go_wp2_with fail
  refine (len_calls _ h D [112] hd hn).mono ?_
  rintro e w' ⟨rfl, rfl⟩
  go_wp2
  go_ret
  exact ⟨rfl, rfl⟩

/-- Where it lies. -/
structure FH where
  f : Nat
  dev : DH
  bu : Nat
  fv : Value
  lo : Nat
def FH.S (H : FH) : Nat → Prop := fun i => i = H.f ∨ H.dev.S i ∨ i = H.bu ∨ H.fv.ownBlock = some i
def usedF (u : Nat → Bool) (v : Value) : Option Value :=
  match v with
  | .int .i64 k => if 0 ≤ k ∧ u k.toNat = true then some (.int .i64 1) else none
  | _ => none
def intsV (l : List Nat) : List Value := l.map fun (k : Nat) => Value.int .i64 k
def fileA (F : Pg) (H : FH) : Array Value := #[.pointer (some ⟨H.dev.p, 0, none⟩), .int .u64 F.mt.gen, .int .i64 F.mt.root, .int .i64 F.mt.count, .int .u64 F.mt.mark, .map (some H.bu), H.fv, .bool F.dead]
structure isFile (w : World) (H : FH) (F : Pg) : Prop where
  blk : w.heap[H.f]? = some (.cells (fileA F H) 145 (0, 0))
  dev : isDev w H.dev F.d
  used : isMap Try.prog 3 w H.bu (usedF F.used)
  fresh : isOwn w H.lo 3 H.fv (intsV F.fresh)
  mok : F.mt.ok
  nfd : ¬ H.dev.S H.f
  nfu : H.f ≠ H.bu
  nud : ¬ H.dev.S H.bu
  nvf : H.fv.ownBlock ≠ some H.f
  nvu : H.fv.ownBlock ≠ some H.bu
  nvd : ∀ i, H.fv.ownBlock = some i → ¬ H.dev.S i
  frs : ∀ k ∈ F.fresh, k ≤ 1000000

section
variable {w w' : World} {H : FH} {F : Pg} (hf : isFile w H F)
include hf
theorem isFile.kept {S : Nat → Prop} (hk : Keeps w w' S) (hS : ∀ i, S i → ¬ H.S i) : isFile w' H F :=
  ⟨hk.blk hf.blk (fun h => hS _ h (.inl rfl)), hf.dev.apart hk (fun i h h2 => hS i h (.inr (.inl h2))), hf.used.kept hk (fun h => hS _ h (.inr (.inr (.inl rfl)))),
    hf.fresh.kept hk (fun g hg h => hS g h (.inr (.inr (.inr hg)))), hf.mok, hf.nfd, hf.nfu, hf.nud, hf.nvf, hf.nvu, hf.nvd, hf.frs⟩
theorem isFile.new (hk : Keeps w w' (fun _ => False)) : isFile w' H F := hf.kept hk (fun _ h => h.elim)
theorem isFile.drew : isFile w.drew H F := hf.new (Keeps.refl w _).drew
theorem isFile.drewN (n : Nat) : isFile (w.drewN n) H F := hf.new ((Keeps.refl w _).drewN n)
theorem isFile.c0 : w.cell? ⟨H.f, 0, none⟩ = some (.pointer (some ⟨H.dev.p, 0, none⟩)) := by rw [cell_of_block hf.blk]; rfl
theorem isFile.c1 : w.cell? ⟨H.f, 1, none⟩ = some (.int .u64 F.mt.gen) := by rw [cell_of_block hf.blk]; rfl
theorem isFile.c5 : w.cell? ⟨H.f, 5, none⟩ = some (.map (some H.bu)) := by rw [cell_of_block hf.blk]; rfl
theorem isFile.c6 : w.cell? ⟨H.f, 6, none⟩ = some H.fv := by rw [cell_of_block hf.blk]; rfl
theorem isFile.c7 : w.cell? ⟨H.f, 7, none⟩ = some (.bool F.dead) := by rw [cell_of_block hf.blk]; rfl
theorem isFile.fr (i : Nat) : w.frozen? ⟨H.f, i, none⟩ = false := free_of_block hf.blk i
end

theorem keyedI : Keyed Try.prog 3 := int_keyed Try.underlying3
theorem keyOkI {k : Int} (h : kOk k) : KeyOk Try.prog 3 (.int .i64 k) :=
  ⟨_, keyOf_int_mk Try.underlying3 (by unfold kOk at h; simp [Lit.wf, IntKind.min, IntKind.max, IntKind.signed, IntKind.bits]; omega)⟩
theorem used_look {w : World} {b : Nat} {u : Nat → Bool} (hm : isMap Try.prog 3 w b (usedF u)) (k : Nat) (hk : k ≤ 1000000) (n : Int) (hn : n = if u k = true then 1 else 0) :
    (Instr.lookup 143 (.map (some b)) (.int .i64 k) false).run Try.prog w = .ok (.int .i64 n) w := by
  rw [hm.look keyedI Try.underlying143 (zeroI _) (keyOkI (by unfold kOk; omega)) false]
  subst hn
  have h0 : (0 : Int) ≤ k := by omega
  simp only [usedF, h0, true_and, Int.toNat_natCast, Bool.false_eq_true, if_false]
  cases u k <;> simp

theorem flen_calls (w : World) (H : FH) (F : Pg) (hf : isFile w H F) : Calls Try.prog 50 #[.pointer (some ⟨H.f, 0, none⟩)] w fun e w' => e = .returned (.int .i64 (pagesOf F.d)) ∧ w = w' := by
  have c0 := hf.c0
  go_enter Try.func50, Try.ntmps50
  go_wp2_with fail
  refine (pages_calls _ H.dev F.d hf.dev).mono ?_
  rintro e w' ⟨rfl, rfl⟩
  go_wp2
  go_ret
  exact ⟨rfl, rfl⟩

theorem is_calls (w : World) (H : FH) (F : Pg) (hf : isFile w H F) (k : Int) : Calls Try.prog 94 #[.pointer (some ⟨H.f, 0, none⟩), .int .i64 k] w fun e w' => e = .returned (.bool (isPg F k)) ∧ w = w' := by
  by_cases h2 : 2 ≤ k
  · by_cases hl : k < pagesOf F.d
    · have HP : Hid (isPg F k = true) := by unfold Hid isPg; simp [h2, hl]
      have hlb : decide (k < (pagesOf F.d : Int)) = true := decide_eq_true hl
      go_enter Try.func94, Try.ntmps94
      go_wp2_with (go_at_call 50; refine (flen_calls _ H F hf).mono ?_; rintro e w' ⟨rfl, rfl⟩)
      go_ret
      exact ⟨by rw [HP.out]; rfl, rfl⟩
    · have HP : Hid (isPg F k = false) := by unfold Hid isPg; simp [hl]
      have hlb : decide (k < (pagesOf F.d : Int)) = false := decide_eq_false hl
      go_enter Try.func94, Try.ntmps94
      go_wp2_with (go_at_call 50; refine (flen_calls _ H F hf).mono ?_; rintro e w' ⟨rfl, rfl⟩)
      go_ret
      exact ⟨by rw [HP.out]; rfl, rfl⟩
  · have HP : Hid (isPg F k = false) := by unfold Hid isPg; simp [h2]
    go_enter Try.func94, Try.ntmps94
    go_wp2
    go_ret
    exact ⟨by rw [HP.out]; rfl, rfl⟩
end Go.Proofs.Ytadjcdfmppcpnaa

namespace Go.Proofs.Ytadjcdfmppcpnaa
open Go Go.RowKit Go.Maps Wb

theorem need_calls (w : World) (n : Nat) (hn : n ≤ 100000000) : Calls Try.prog 63 #[.int .i64 n] w fun e w' => e = .returned (.int .i64 (needN n)) ∧ w = w' := by
  have h0 : (0 : Int) ≤ n := by omega
  have h9 : (n : Int) ≤ 100000000 := by omega
  by_cases hs : n ≤ 48
  · have hb : decide (n ≤ 48) = true := decide_eq_true hs
    have hi : (n : Int) ≤ 48 := by omega
    have HN : Hid (needN n = 1) := Lib.hid (by unfold needN; rw [if_pos hs])
    clear hs
    go_enter Try.func63, Try.ntmps63
    go_wp2
    go_ret
    exact ⟨by rw [HN.out]; rfl, rfl⟩
  · have hb : decide (n ≤ 48) = false := decide_eq_false hs
    have hi : (48 : Int) < n := by omega
    have hi1 : (1 : Int) ≤ n := by omega
    have HN : Hid ((needN n : Int) = ((n : Int) - 1) / 48 + 1) := Lib.hid (by unfold needN; rw [if_neg hs]; omega)
    clear hs
    go_enter Try.func63, Try.ntmps63
    go_wp2
    go_ret
    exact ⟨by rw [HN.out]; rfl, rfl⟩

def nameI (n : Int) : Nm := if n < 1 ∨ 999999 < n then [] else jname n.toNat
/-- The name with its last k digits. -/
def nameTo (n k : Nat) : List UInt8 := 106 :: (List.range 6).map fun i => if 6 - k ≤ i then digit n i else 48
theorem nameTo_zero (n : Nat) : octs (nameTo n 0) = [.int .u8 106, .int .u8 48, .int .u8 48, .int .u8 48, .int .u8 48, .int .u8 48, .int .u8 48] := rfl
theorem nameTo_all (n : Nat) : nameTo n 6 = jname n := by
  unfold nameTo jname
  congr 1
theorem nameTo_get (n k j : Nat) (hj : j < 7) : (octs (nameTo n k))[j]? = some (octV (if j = 0 then 106 else if 6 - k ≤ j - 1 then digit n (j - 1) else 48)) := by
  unfold octs nameTo
  cases j with
  | zero => rfl
  | succ j =>
    have : j < 6 := by omega
    simp [this]
theorem nameTo_step (n k : Nat) (hk : k < 6) : (octs (nameTo n k)).toArray.setIfInBounds (6 - k) (octV (digit n (5 - k))) = (octs (nameTo n (k + 1))).toArray := by
  apply Array.ext_getElem?
  intro j
  by_cases hj : j < 7
  · rw [Array.getElem?_setIfInBounds]
    have h1 := nameTo_get n k j hj
    have h2 := nameTo_get n (k + 1) j hj
    have hs : (octs (nameTo n k)).toArray.size = 7 := by simp [octs, nameTo]
    by_cases e : 6 - k = j
    · subst e
      rw [if_pos rfl, if_pos (by rw [hs]; exact hj)]
      simp only [List.getElem?_toArray]
      rw [h2, if_neg (by omega), if_pos (by omega)]
      congr 2
      congr 1; omega
    · rw [if_neg e]
      simp only [List.getElem?_toArray]
      rw [h1, h2]
      by_cases h0 : j = 0
      · simp [h0]
      · rw [if_neg h0, if_neg h0]
        have : (6 - k ≤ j - 1) ↔ (6 - (k + 1) ≤ j - 1) := by omega
        simp only [this]
  · rw [Array.getElem?_eq_none (by simp [octs, nameTo]; omega), Array.getElem?_eq_none (by simp [octs, nameTo]; omega)]
theorem free_const {w : World} {b n : Nat} {a : Array Value} {t : TypeId} (h : w.heap[b]? = some (.cells a t (n, n + 1))) (i : Nat) (hi : i < n) : w.frozen? ⟨b, i, none⟩ = false := by
  simp [World.frozen?, h]; omega
def NameRel (w : World) (n bb k : Nat) (wr : World) : Prop := wr.heap[bb]? = some (.cells (octs (nameTo n k)).toArray 5 (7, 8)) ∧ Keeps w wr (fun _ => False)

set_option maxRecDepth 100000 in
set_option maxHeartbeats 2000000 in
theorem name_yes (w : World) (n : Nat) (h1 : 1 ≤ n) (h9 : n ≤ 999999) : Calls Try.prog 62 #[.int .i64 n] w (Quiet w (.string (bs (jname n)))) := by
  have hi1 : (1 : Int) ≤ n := by omega
  have hi9 : (n : Int) ≤ 999999 := by omega
  have kc := fun (w : World) (C : Array Value) (n c : Nat) => Go.Lib.run_convert_bytes_const (P := Try.prog) w 63 5 C n c Try.underlying63 Try.underlying5
  go_enter Try.func62, Try.ntmps62
  go_upto_region 4 with fail
  obtain ⟨w1, hw1⟩ : ∃ w1, w1 = w.alloc (.cells #[.int .u8 106, .int .u8 48, .int .u8 48, .int .u8 48, .int .u8 48, .int .u8 48, .int .u8 48] 5 (7, 8)) := ⟨_, rfl⟩
  rw [← hw1]
  have HB1 : w1.heap[w.heap.size]? = some (.cells #[.int .u8 106, .int .u8 48, .int .u8 48, .int .u8 48, .int .u8 48, .int .u8 48, .int .u8 48] 5 (7, 8)) := by rw [hw1]; exact (Go.MapKept.heap_alloc w _).1
  have hk1 : Keeps w w1 (fun _ => False) := by rw [hw1]; exact (Keeps.refl w _).alloc _
  obtain ⟨bb, hbb⟩ : ∃ bb, bb = w.heap.size := ⟨_, rfl⟩
  rw [← hbb] at HB1 ⊢
  have HREL0 : Hid (NameRel w n bb 0 w1) := Lib.hid ⟨HB1, hk1⟩
  have HBB : Hid (w.heap.size ≤ bb) := Lib.hid (by omega)
  clear hw1 HB1 hk1 hbb kc
  go_wp2_with fail
  go_loopw [0, 4] (fun v i wr => ∃ k : Nat, k ≤ 6 ∧ v = .int .i64 (n / 10 ^ k : Nat) ∧ i = .int .i64 ((6 : Int) - k) ∧ Hid (NameRel w n bb k wr)) (fun _ i _ => (intOf i).toNat)
  case atStart => exact ⟨0, Nat.zero_le _, by simp, rfl, HREL0⟩
  case round =>
    clear HREL0
    obtain ⟨k, hk, rfl, rfl, hrel⟩ := hrel
    have hk0 : (0 : Int) ≤ k := by omega
    obtain ⟨m, hm⟩ : ∃ m : Nat, m = n / 10 ^ k := ⟨_, rfl⟩
    rw [← hm]
    have hm9 : m ≤ 999999 := by rw [hm]; exact Nat.le_trans (Nat.div_le_self _ _) h9
    have hmi : (m : Int) ≤ 999999 := by omega
    have hm0 : (0 : Int) ≤ m := by omega
    have HM := Lib.hid hm
    clear hm
    by_cases hlt : k < 6
    · have hk9 : (k : Int) < 6 := by omega
      have hlb : decide ((0 : Int) < 6 - (k : Int)) = true := by simp; omega
      obtain ⟨hb, hkk⟩ := hrel.out
      have hc : wr.cell? ⟨bb, 6 - k, none⟩ = some (octV (if 6 - k = 0 then 106 else if 6 - k ≤ 6 - k - 1 then digit n (6 - k - 1) else 48)) := by
        rw [cell_of_block hb]; simp only [List.getElem?_toArray]; exact nameTo_get n k (6 - k) (by omega)
      have hfr : wr.frozen? ⟨bb, 6 - k, none⟩ = false := free_const hb _ (by omega)
      have hidx : ((6 : Int) - k).toNat = 6 - k := by omega
      have hi0 : (0 : Int) ≤ 6 - (k : Int) := by omega
      have hi7 : (6 : Int) - (k : Int) < 7 := by omega
      have hb2 := blk_setCell hb (6 - k) (octV (digit n (5 - k)))
      rw [nameTo_step n k hlt] at hb2
      have hk2 := hkk.then (keeps_cell wr bb (6 - k) (octV (digit n (5 - k)))) (fun i hi e => absurd HBB.out (by rw [← show i = bb from e]; exact Nat.not_le.2 hi))
      have hval : octV (digit n (5 - k)) = .int .u8 (48 + (m : Int) % 10) := by
        unfold octV
        rw [digit_val, HM.out, show 5 - (5 - k) = k by omega]
        congr 1
      rw [hval] at hb2 hk2
      have HREL := Lib.hid (show NameRel w n bb (k + 1) _ from ⟨hb2, hk2⟩)
      have HLT := Lib.hid hlt
      have hmd : ((m : Int) / 10) = ((n / 10 ^ (k + 1) : Nat) : Int) := by
        rw [Nat.pow_succ, ← Nat.div_div_eq_div_mul, ← HM.out]; omega
      have HMD := Lib.hid hmd
      clear hb hkk hb2 hk2 hval hrel hlt hmd
      go_wp2
      refine ⟨⟨k + 1, by omega, by rw [HMD.out], by congr 1; omega, HREL⟩, by simp [intOf]; omega⟩
    · obtain rfl : k = 6 := by omega
      obtain ⟨hb, hkk⟩ := hrel.out
      rw [nameTo_all] at hb
      have h7 : (octs (jname n)).length = 7 := by rw [octs_len, jname_len]
      have hrd : isRd wr (.slice (some ⟨bb, 0, none⟩) 7 7) (octs (jname n)) := ⟨_, 7, by rw [h7], by rw [h7]; exact Nat.le_refl _, fun j x hj => ⟨bb, 0, rfl, lt_of_blk hb, by rw [cell_of_block hb, Nat.zero_add]; simpa using hj⟩⟩
      have hcv := run_string hrd (by simp [jname])
      have hlb : decide ((0 : Int) < 6 - ((6 : Nat) : Int)) = false := by decide
      have hz : (6 : Int) - ((6 : Nat) : Int) = 0 := by decide
      clear HM hrel
      go_wp2_with fail
      go_ret
      exact ⟨rfl, hkk⟩
theorem name_calls (w : World) (n : Int) : Calls Try.prog 62 #[.int .i64 n] w (Quiet w (.string (bs (nameI n)))) := by
  by_cases h1 : n < 1
  · have hb : decide (n < 1) = true := decide_eq_true h1
    have HN : Hid (nameI n = []) := Lib.hid (by unfold nameI; rw [if_pos (.inl h1)])
    clear h1
    go_enter Try.func62, Try.ntmps62
    go_wp2
    go_ret
    exact ⟨by rw [HN.out]; rfl, Keeps.refl _ _⟩
  · have hb : decide (n < 1) = false := decide_eq_false h1
    by_cases h9 : 999999 < n
    · have hb9 : decide (999999 < n) = true := decide_eq_true h9
      have HN : Hid (nameI n = []) := Lib.hid (by unfold nameI; rw [if_pos (.inr h9)])
      clear h1 h9
      go_enter Try.func62, Try.ntmps62
      go_wp2
      go_ret
      exact ⟨by rw [HN.out]; rfl, Keeps.refl _ _⟩
    · obtain ⟨k, rfl⟩ : ∃ k : Nat, n = k := ⟨n.toNat, by omega⟩
      have e : nameI (k : Int) = jname k := by
        unfold nameI
        rw [if_neg (by omega), Int.toNat_natCast]
      rw [e]
      exact name_yes w k (by omega) (by omega)
end Go.Proofs.Ytadjcdfmppcpnaa

namespace Go.Proofs.Ytadjcdfmppcpnaa
open Go Go.RowKit Go.Maps Wb

theorem bs_extract (m : Nm) (i j : Nat) : (bs m).extract i j = bs ((m.take j).drop i) := by
  apply ByteArray.ext
  unfold bs
  simp [ByteArray.data_extract]
  rw [List.drop_take]
theorem eq_bytes (a b : Nm) : ((bs a).toList == (bs b).toList) = decide (a = b) := by
  rw [bs_toList, bs_toList]
  by_cases h : a = b
  · subst h; simp
  · simp [h]
theorem prefix_calls (w : World) (m : Nm) (hm : m.length ≤ 1000000) : Calls Try.prog 142 #[.string (bs m), .string (bs [106])] w fun e w' => e = .returned (.bool (decide (m.take 1 = [106]))) ∧ w = w' := by
  have h1 : (bs [106]).size = 1 := rfl
  have h1i : ((bs [106]).size : Int) = 1 := rfl
  cases m with
  | nil =>
    have h0 : (bs []).size = 0 := rfl
    have hle : decide ((bs [106]).size ≤ (bs []).size) = false := by decide
    go_enter Try.func142, Try.ntmps142
    go_wp2_with fail
    go_ret
    exact ⟨by simp, rfl⟩
  | cons c r =>
    have hs : (bs (c :: r)).size = r.length + 1 := by rw [bs_size]; rfl
    have hi : (r.length : Int) ≤ 1000000 := by simp at hm; omega
    have hle : decide ((bs [106]).size ≤ r.length + 1) = true := by rw [h1]; simp
    have hE : (((bs (c :: r)).extract 0 1).toList == (bs [106]).toList) = decide ((c :: r).take 1 = [106]) := by
      rw [bs_extract, eq_bytes]; rfl
    go_enter Try.func142, Try.ntmps142
    go_wp2_with fail
    go_ret
    exact ⟨by simp, rfl⟩
theorem scut_calls (w : World) (m : Nm) (hm : m.length ≤ 1000000) : Calls Try.prog 135 #[.string (bs m), .string (bs [106])] w fun e w' => e = .returned (.tuple #[.string (bs (if m.take 1 = [106] then m.drop 1 else m)), .bool (decide (m.take 1 = [106]))]) ∧ w = w' := by
  have h1 : (bs [106]).size = 1 := rfl
  by_cases h : m.take 1 = [106]
  · have hb : decide (m.take 1 = [106]) = true := decide_eq_true h
    have hl : 1 ≤ m.length := by cases m with
      | nil => simp at h
      | cons c r => simp
    have hs : (bs [106]).size ≤ (bs m).size := by rw [h1, bs_size]; exact hl
    have hz : (bs m).extract 1 (bs m).size = bs (m.drop 1) := by rw [bs_extract, bs_size, List.take_length]
    rw [if_pos h, hb]
    clear h
    go_enter Try.func135, Try.ntmps135
    go_wp2_with fail
    refine (prefix_calls _ m hm).mono ?_
    rintro e w1 ⟨rfl, rfl⟩
    rw [hb]
    go_wp2_with fail
    go_ret2
    exact ⟨by simp, rfl⟩
  · have hb : decide (m.take 1 = [106]) = false := decide_eq_false h
    rw [if_neg h, hb]
    clear h
    go_enter Try.func135, Try.ntmps135
    go_wp2_with fail
    refine (prefix_calls _ m hm).mono ?_
    rintro e w1 ⟨rfl, rfl⟩
    rw [hb]
    go_wp2_with fail
    go_ret2
    exact ⟨rfl, rfl⟩
theorem cut_calls (w : World) (m : Nm) (hm : m.length ≤ 1000000) : Calls Try.prog 122 #[.string (bs m), .string (bs [106])] w fun e w' => e = .returned (.tuple #[.string (bs (if m.take 1 = [106] then m.drop 1 else m)), .bool (decide (m.take 1 = [106]))]) ∧ w = w' := by
  have hc := scut_calls w m hm
  generalize (if m.take 1 = [106] then m.drop 1 else m) = z at *
  generalize decide (m.take 1 = [106]) = b at *
  go_enter Try.func122, Try.ntmps122
  go_wp2_with fail
  refine hc.mono ?_
  rintro e w1 ⟨rfl, rfl⟩
  go_wp2_with fail
  go_ret2
  exact ⟨rfl, rfl⟩
/-- The number that the first q octets tell. -/
theorem jnum_calls (w : World) (m : Nm) (hm : m.length ≤ 1000000) : Calls Try.prog 111 #[.string (bs m)] w fun e w' => e = .returned (.int .i64 (numOf m)) ∧ w = w' := by
  have K : (bs [106]) = { data := #[106] } := rfl
  by_cases h : m.take 1 = [106]
  · obtain ⟨r, rfl⟩ : ∃ r, m = 106 :: r := by
      cases m with
      | nil => simp at h
      | cons c r => simp at h; exact ⟨r, by rw [h]⟩
    by_cases h6 : r.length = 6
    · have hs : (bs r).size = 6 := by rw [bs_size, h6]
      go_enter Try.func111, Try.ntmps111
      go_wp2_with fail
      rw [← K]
      refine (cut_calls _ _ hm).mono ?_
      rintro e w1 ⟨he, rfl⟩
      rw [if_pos h] at he
      simp only [List.drop_succ_cons, List.drop_zero, List.take_succ_cons, List.take_zero, decide_true] at he
      subst he
      go_wp2_with fail
      go_loopw [5, 19] (fun v i wx => ∃ q : Nat, q ≤ 6 ∧ i = .int .i64 q ∧ v = .int .i64 (decVal (r.take q)) ∧ wx = w ∧ (r.take q).all isDig = true) (fun _ i _ => 6 - (intOf i).toNat)
      case atStart => exact ⟨0, Nat.zero_le _, rfl, rfl, rfl, by simp⟩
      case round =>
        obtain ⟨q, hq, rfl, rfl, rfl, hall⟩ := hrel
        have hq0 : (0 : Int) ≤ q := by omega
        by_cases hlt : q < 6
        · have hlb : decide ((q : Int) < 6) = true := by simp; omega
          have hqi : (q : Int) < 6 := by omega
          obtain ⟨c, hc⟩ : ∃ c, r[q]? = some c := ⟨_, List.getElem?_eq_getElem (by omega)⟩
          have hgi : ∀ (h : q < (bs r).size), (bs r)[q]'h = c := fun h => by
            have := (List.getElem?_eq_some_iff.1 hc).2
            rw [← this]; rfl
          have hc0 : (0 : Int) ≤ c.toNat := by omega
          have hc9 : (c.toNat : Int) < 256 := by have := c.toNat_lt; omega
          have htk : r.take (q + 1) = r.take q ++ [c] := by rw [List.take_add_one, hc]; rfl
          by_cases hd : isDig c = true
          · have hd2 := hd
            unfold isDig at hd2
            simp only [Bool.and_eq_true, decide_eq_true_eq] at hd2
            have hb1 : decide ((c.toNat : Int) < 48) = false := by simp; omega
            have hb2 : decide (57 < (c.toNat : Int)) = false := by simp; omega
            have hi1 : (48 : Int) ≤ c.toNat := by omega
            have hi2 : (c.toNat : Int) ≤ 57 := by omega
            have hv : decVal (r.take (q + 1)) = decVal (r.take q) * 10 + (c.toNat - 48) := by
              rw [htk]; unfold decVal; rw [List.foldl_append]; rfl
            have hvl : decVal (r.take q) < 10 ^ q := by
              have := decVal_lt hall
              rw [List.length_take] at this
              rw [show min q r.length = q by omega] at this; exact this
            have hp : 10 ^ q ≤ 10 ^ 6 := Nat.pow_le_pow_right (by decide) (by omega)
            have hvi : (decVal (r.take q) : Int) < 1000000 := by omega
            have hv0 : (0 : Int) ≤ decVal (r.take q) := by omega
            have hall2 : (r.take (q + 1)).all isDig = true := by rw [htk, List.all_append, hall]; simp [hd]
            have HV := Lib.hid hv
            have HA := Lib.hid hall2
            clear hd hd2 hall hv hvl hp htk hall2 hc
            go_wp2_with fail
            refine ⟨⟨q + 1, by omega, by congr 1, ?_, trivial, HA.out⟩, by simp [intOf]; omega⟩
            rw [HV.out]
            congr 1
            first | omega | (unfold wrap64; omega)
          · have hz : numOf (106 :: r) = 0 := by
              unfold numOf
              simp only
              rw [if_neg]
              rintro ⟨_, _, ha⟩
              rw [List.all_eq_true] at ha
              exact hd (ha c (List.mem_of_getElem? hc))
            have HZ := Lib.hid hz
            have hd2 : (c.toNat : Int) < 48 ∨ (48 ≤ (c.toNat : Int) ∧ 57 < (c.toNat : Int)) := by
              unfold isDig at hd
              simp only [Bool.and_eq_true, decide_eq_true_eq] at hd
              omega
            clear hd hz htk hall hc
            rcases hd2 with hx | ⟨hx, hy⟩
            · have hb1 : decide ((c.toNat : Int) < 48) = true := by simpa using hx
              go_wp2_with fail
              go_ret
              exact ⟨by rw [HZ.out]; rfl, rfl⟩
            · have hb1 : decide ((c.toNat : Int) < 48) = false := by simp; omega
              have hb2 : decide (57 < (c.toNat : Int)) = true := by simpa using hy
              go_wp2_with fail
              go_ret
              exact ⟨by rw [HZ.out]; rfl, rfl⟩
        · obtain rfl : q = 6 := by omega
          have hlb : decide (((6 : Nat) : Int) < 6) = false := by decide
          have hz : numOf (106 :: r) = decVal (r.take 6) := by
            unfold numOf
            simp only
            rw [List.take_of_length_le (by omega)] at hall ⊢
            rw [if_pos ⟨by trivial, h6, hall⟩]
          have HZ := Lib.hid hz
          clear hall hz
          go_wp2_with fail
          go_ret
          exact ⟨by rw [HZ.out]; rfl, rfl⟩
    · have hz : numOf (106 :: r) = 0 := by
        unfold numOf
        simp only
        rw [if_neg (fun h => h6 h.2.1)]
      have hs : (bs r).size = r.length := bs_size r
      have hsb : ((r.length : Int) == 6) = false := by simp; omega
      have hri : (r.length : Int) ≤ 1000000 := by simp at hm; omega
      rw [hz]
      go_enter Try.func111, Try.ntmps111
      go_wp2_with fail
      rw [← K]
      refine (cut_calls _ _ hm).mono ?_
      rintro e w1 ⟨he, rfl⟩
      rw [if_pos h] at he
      simp only [List.drop_succ_cons, List.drop_zero, List.take_succ_cons, List.take_zero, decide_true] at he
      subst he
      clear h hm hz h6
      go_wp2_with fail
      go_ret
      exact ⟨rfl, rfl⟩
  · have hz : numOf m = 0 := by
      unfold numOf
      cases m with
      | nil => rfl
      | cons c r => simp only; rw [if_neg (fun hh => h (by simp [hh.1]))]
    have hb : decide (m.take 1 = [106]) = false := decide_eq_false h
    rw [hz]
    go_enter Try.func111, Try.ntmps111
    go_wp2_with fail
    rw [← K]
    refine (cut_calls _ _ hm).mono ?_
    rintro e w1 ⟨he, rfl⟩
    rw [if_neg h, hb] at he
    subst he
    clear h hm hz hb
    go_wp2_with fail
    go_ret
    exact ⟨rfl, rfl⟩
end Go.Proofs.Ytadjcdfmppcpnaa

namespace Wb
structure Hd.ok (h : Hd) : Prop where
  seq : h.seq < 2 ^ 64
  place : h.place < 65536
  many : h.many < 65536
  kind : h.kind < 256
end Wb
namespace Go.Proofs.Ytadjcdfmppcpnaa
open Go Go.RowKit Go.Maps Wb

def hdA (h : Hd) (long : Nat) : Array Value := #[.int .u64 h.seq, .int .i64 h.place, .int .i64 h.many, .int .i64 long, .int .i64 h.kind]
theorem zeroHd (w : World) : (zeroValue 172).run Try.prog w = .ok (.agg (hdA ⟨0, 0, 0, 0⟩ 0)) w := by kernel_rfl
theorem infoHd (h : Hd) (long : Nat) : (Try.prog.info? 172).map (·.size) = some (hdA h long).size := by
  have : (Try.prog.info? 172).map (·.size) = some 5 := by kernel_rfl
  exact this
theorem hdA_one (h : Hd) (long : Nat) : (hdA h long).all (·.oneCell') = true := by simp [hdA, Value.oneCell']
theorem store_hd (a b : Hd) (m n : Nat) : Wb.splice (hdA a m) 0 (hdA b n) = hdA b n := store_whole _ _ rfl
theorem le_hd (a b : Hd) (m n : Nat) : 0 + (hdA b n).size ≤ (hdA a m).size := by simp [hdA]
theorem sec_head (h : Hd) (n : Nat) : ∃ s : Sec, s.1 = headL h n ++ List.replicate 48 0 ∧ Wb.splice (secA Sec.zero) 0 ((octs (headL h n)).take 16).toArray = secA s := by
  refine ⟨⟨headL h n ++ List.replicate 48 0, by simp [headL_len]⟩, rfl, ?_⟩
  apply Array.toList_inj.1
  have h1 : (octs (headL h n)).length = 16 := by rw [octs_len, headL_len]
  rw [List.take_of_length_le (by omega)]
  unfold Wb.splice
  simp only [List.size_toArray, h1, List.take_zero, List.nil_append, octs_secA, octs_app]
  congr 1
theorem sec_body (h : Hd) (b : List UInt8) (hb : b.length ≤ 48) (s : Sec) (hs : s.1 = headL h b.length ++ List.replicate 48 0) : Wb.splice (secA s) 16 ((octs b).take b.length).toArray = secA (jsec h b) := by
  apply Array.toList_inj.1
  have h1 : (octs b).length = b.length := octs_len b
  rw [List.take_of_length_le (by omega)]
  unfold Wb.splice
  simp only [List.size_toArray, h1, octs_secA, hs, jsec, octs_app]
  have h16 : (octs (headL h b.length)).length = 16 := by rw [octs_len, headL_len]
  have e1 : ((octs (headL h b.length)) ++ octs (List.replicate 48 0)).take 16 = octs (headL h b.length) := by
    rw [List.take_append_of_le_length (by omega), List.take_of_length_le (by omega)]
  have e2 : ((octs (headL h b.length)) ++ octs (List.replicate 48 0)).drop (16 + b.length) = octs (List.replicate (48 - b.length) 0) := by
    rw [List.drop_append, List.drop_eq_nil_of_le (by omega), List.nil_append, h16]
    unfold octs
    rw [← List.map_drop, List.drop_replicate]
    congr 2; omega
  rw [e1, e2, List.take_of_length_le hb]
  simp

set_option maxRecDepth 100000 in
set_option maxHeartbeats 4000000 in
theorem jsector_calls (w : World) (h : Hd) (long : Nat) (hh : h.ok) (bv : Value) (b : List UInt8) (hb : isRd w bv (octs b)) (hg : ∀ g, bv.ownBlock = some g → g < w.heap.size) (hbl : b.length ≤ 48) :
    Calls Try.prog 123 #[.agg (hdA h long), bv] w (Quiet w (secV (jsec h b))) := by
  have HH := Lib.hid hh
  have HB := Lib.hid hb
  have HGB := Lib.hid hg
  clear hg
  obtain ⟨a, cap, rfl, hc1, _⟩ := hb
  rw [octs_len] at HB HGB hc1 ⊢
  have hbi : (b.length : Int) ≤ 48 := by omega
  have r1 : IntKind.u64.wrap (h.place : Int) = h.place := by have := hh.place; rw [wrap_u64]; omega
  have r2 : IntKind.u64.wrap (h.many : Int) = h.many := by have := hh.many; rw [wrap_u64]; omega
  have r3 : IntKind.u64.wrap (h.kind : Int) = h.kind := by have := hh.kind; rw [wrap_u64]; omega
  have r4 : IntKind.u64.wrap (b.length : Int) = b.length := by rw [wrap_u64]; omega
  have g0 : (0 : Int) ≤ h.seq := by omega
  have g1 : (0 : Int) ≤ h.place := by omega
  have g2 : (0 : Int) ≤ h.many := by omega
  have g3 : (0 : Int) ≤ h.kind := by omega
  have hnil : isRd w (.slice none 0 0) (octs []) := ⟨none, 0, rfl, Nat.le_refl _, fun j x hj => by cases hj⟩
  clear hh
  go_enter Try.func123, Try.ntmps123
  go_upto_region 2 with (first
    | ((with_reducible refine gd_box 172 ?_); refine wl_box_agg rfl _ _ rfl (hdA h long) rfl ?_; intro bm w1 hbm HBM HKM)
    | ((with_reducible refine gd_alloc (dst := some 4) 28 ?_); refine wl_alloc_agg rfl _ rfl _ zero28 ?_; intro br w2 hbr HBR HKR)
    | ((with_reducible refine gd_alloc (dst := some 5) 28 ?_); refine wl_alloc_agg rfl _ rfl _ zero28 ?_; intro bs w3 hbs HBS HKS)
    | fail)
  have hk3 : Keeps w w3 (fun _ => False) := (HKM.trans HKR).trans HKS
  have HBM3 := HKS.blk (HKR.blk HBM id) id
  have HBR3 := HKS.blk HBR id
  have hD : ∀ wx, Keeps w3 wx (fun _ => False) → wx.cell? ⟨bm, 0, none⟩ = some (.int .u64 h.seq) ∧ wx.cell? ⟨bm, 1, none⟩ = some (.int .i64 h.place) ∧ wx.cell? ⟨bm, 2, none⟩ = some (.int .i64 h.many) ∧ wx.cell? ⟨bm, 4, none⟩ = some (.int .i64 h.kind) := fun wx hx => by
    have := hx.blk HBM3 id
    exact ⟨by rw [cell_of_block this]; rfl, by rw [cell_of_block this]; rfl, by rw [cell_of_block this]; rfl, by rw [cell_of_block this]; rfl⟩
  have HD := Lib.hid hD
  obtain ⟨d0, _, _, _⟩ := hD w3 (Keeps.refl _ _)
  have hne : br ≠ bs := ne_new HBR hbs
  have HLO : Hid (w.heap.size ≤ bs ∧ w.heap.size ≤ br) := Lib.hid ⟨Nat.le_trans (Nat.le_trans HKM.size HKR.size) hbs, Nat.le_trans HKM.size hbr⟩
  clear hD HBM HBR HKM HKR HKS hbm hbr hbs HBM3
  go_wp2_with fail
  refine (int_calls _ _ [] 8 h.seq (isRd.new hnil hk3) (fun _ hq => by cases hq; rfl) (by decide) (by decide) HH.out.seq (by decide)).mono ?_
  rintro e w4 ⟨v4, rfl, ho4, hk4⟩
  have hK4 := hk4
  obtain ⟨_, d1, _, _⟩ := HD.out w4 hK4
  go_wp2_with fail
  refine (int_calls _ _ _ 2 h.place ho4.rd (isOwn.nilcap ho4) (by decide) (by decide) (by have := HH.out.place; omega) (by simp [be_len])).mono ?_
  rintro e w5 ⟨v5, rfl, ho5, hk5⟩
  have hK5 := hK4.trans hk5
  obtain ⟨_, _, d2, _⟩ := HD.out w5 hK5
  clear d0 d1 ho4 hk4 hk5
  go_wp2_with fail
  refine (int_calls _ _ _ 2 h.many ho5.rd (isOwn.nilcap ho5) (by decide) (by decide) (by have := HH.out.many; omega) (by simp [be_len])).mono ?_
  rintro e w6 ⟨v6, rfl, ho6, hk6⟩
  have hK6 := hK5.trans hk6
  obtain ⟨_, _, _, d3⟩ := HD.out w6 hK6
  clear d2 ho5 hk6
  go_wp2_with fail
  refine (int_calls _ _ _ 1 h.kind ho6.rd (isOwn.nilcap ho6) (by decide) (by decide) (by have := HH.out.kind; omega) (by simp [be_len])).mono ?_
  rintro e w7 ⟨v7, rfl, ho7, hk7⟩
  have hK7 := hK6.trans hk7
  clear d3 ho6 hk7
  go_wp2_with fail
  refine (int_calls _ _ _ 1 0 ho7.rd (isOwn.nilcap ho7) (by decide) (by decide) (by decide) (by simp [be_len])).mono ?_
  rintro e w8 ⟨v8, rfl, ho8, hk8⟩
  have hK8 := hK7.trans hk8
  clear ho7 hk8
  go_wp2_with fail
  refine (int_calls _ _ _ 2 b.length ho8.rd (isOwn.nilcap ho8) (by decide) (by decide) (by omega) (by simp [be_len])).mono ?_
  rintro e w9 ⟨v9, rfl, ho9, hk9⟩
  have hK9 := hK8.trans hk9
  clear ho8 hk9
  have hrd9 : isRd w9 v9 (octs (headL h b.length)) := by
    have := ho9.rd
    simp only [List.nil_append] at this
    exact this
  have HBS9 := hK9.blk HBS id
  have HBR9 := hK9.blk HBR3 id
  have hb9 := (HB.out.new hk3).new hK9
  have HK9 := hk3.trans hK9
  obtain ⟨s, hs1, hs2⟩ := sec_head h b.length
  have hs3 := sec_body h b hbl s hs1
  have HS2 := Lib.hid hs2
  have HS3 := Lib.hid hs3
  have HL16 : Hid ((octs (headL h b.length)).length = 16) := Lib.hid (by rw [octs_len, headL_len])
  have HLB : Hid ((octs b).length = b.length) := Lib.hid (octs_len b)
  obtain ⟨a9, c9, rfl, _, _⟩ := id hrd9
  rw [HL16.out] at hrd9 ⊢
  have HR9 := Lib.hid hrd9
  have HB9 := Lib.hid hb9
  obtain ⟨hlo1, hlo2⟩ := HLO.out
  clear hrd9 hb9 hs1 hs2 hs3 ho9 hK4 hK5 hK6 hK7 hK8 hK9 hk3 HBS HBR3 hnil
  go_wp2_with (first
    | (refine wl_copy rfl _ _ _ _ rfl 5 Try.underlying63 (by kernel_rfl) bs 0 64 64 rfl _ rfl (octs (headL h b.length)) HR9.out _ _ HBS9 16 (by rw [HL16.out]; rfl) (by rw [secA_size]; decide) (octs_one _) ?_; intro w10 hb10 hk10; rw [HS2.out] at hb10; have hrb := HB9.out.kept hk10 (fun g hg e => absurd (HGB.out g hg) (by rw [show g = bs from e]; exact Nat.not_lt.2 hlo1)))
    | (refine wl_copy rfl _ _ _ _ rfl 5 Try.underlying63 (by kernel_rfl) bs 16 48 48 rfl _ rfl (octs b) hrb _ _ hb10 b.length (by rw [HLB.out]; omega) (by rw [secA_size]; omega) (octs_one _) ?_; intro w11 hb11 hk11; rw [HS3.out] at hb11; have hbr11 := hk11.blk (hk10.blk HBR9 hne) hne)
    | ((with_reducible refine gd_load 28 ?_); refine wl_load_agg rfl _ _ rfl bs _ rfl _ _ _ hb11 (secA (jsec h b)) (extract_all _) _ Try.underlying28 rfl (info28s _) ?_)
    | ((with_reducible refine gd_store 28 ?_); refine wl_store_agg rfl _ _ _ rfl br _ rfl _ _ hbr11 (secA (jsec h b)) rfl (secA (jsec h b)) (store_secs _ _) (le_secs _ _) (info28s _) (secA_one _) ?_; intro w12 hb12 hk12)
    | fail)
  refine bodyPost_ret (v := secV (jsec h b)) ?_ rfl ⟨rfl, ?_⟩
  · exact results_cell_row rfl _ _ br _ _ _ _ rfl hb12 Try.underlying28 rfl (info28s _)
  · exact ((HK9.then hk10 (fun i hi e => absurd hlo1 (by rw [← e]; exact Nat.not_le.2 hi))).then hk11 (fun i hi e => absurd hlo1 (by rw [← e]; exact Nat.not_le.2 hi))).then hk12 (fun i hi e => absurd hlo2 (by rw [← e]; exact Nat.not_le.2 hi))
end Go.Proofs.Ytadjcdfmppcpnaa

namespace Go.Proofs.Ytadjcdfmppcpnaa
open Go Go.RowKit Go.Maps Wb

/-- One of the numbers of a head is read. -/
def RdJ (w : World) (s : Sec) (b8 bi o n : Nat) (e : Ending) (w' : World) : Prop :=
  ∃ sv', e = .returned (.int .u64 (rdAt s o n)) ∧ isIn w' bi sv' false ∧ isVals w' (fun i => i = b8) sv' (octs ((s.1.take 16).drop (o + n))) ∧ Keeps w w' (· = bi)
theorem rdj_calls (w : World) (s : Sec) (b8 bi o n : Nat) (sv : Value) (hne : b8 ≠ bi) (hn1 : 1 ≤ n) (hn8 : n ≤ 8) (ho : o + n ≤ 16) (hi : isIn w bi sv false) (hv : isVals w (fun i => i = b8) sv (octs ((s.1.take 16).drop o))) :
    Calls Try.prog 109 #[.pointer (some ⟨bi, 0, none⟩), .int .i64 n] w (RdJ w s b8 bi o n) := by
  have hl : ((s.1.take 16).drop o).length = 16 - o := by rw [List.length_drop, List.length_take, s.2]; rfl
  refine (inint_calls w bi _ sv ((s.1.take 16).drop o) n hi hv (fun i e => by rw [e]; exact hne) (by rw [hl]; omega) (by rw [hl]; omega) hn1 hn8).mono ?_
  rintro e w' ⟨sv', he, h1, h2, h3⟩
  refine ⟨sv', ?_, h1, ?_, h3⟩
  · rw [he]
    unfold rdAt
    have : ((s.1.take 16).drop o).take n = (s.1.drop o).take n := by
      rw [List.drop_take, List.take_take]
      congr 1; omega
    rw [this]
  · rw [List.drop_drop] at h2
    exact h2
theorem rdAt_lt (s : Sec) (o n : Nat) : rdAt s o n < 2 ^ 64 := num_lt _
theorem num_small (l : List UInt8) (h : l.length ≤ 2) : num l < 65536 := by
  match l, h with
  | [], _ => simp [num]
  | [a], _ => have := a.toNat_lt; simp [num]; omega
  | [a, b], _ => have := a.toNat_lt; have := b.toNat_lt; simp [num]; omega
theorem num_one (l : List UInt8) (h : l.length ≤ 1) : num l < 256 := by
  match l, h with
  | [], _ => simp [num]
  | [a], _ => have := a.toNat_lt; simp [num]; omega
theorem rdAt_two (s : Sec) (o : Nat) : rdAt s o 2 < 65536 := num_small _ (by rw [List.length_take]; omega)
theorem rdAt_one (s : Sec) (o : Nat) : rdAt s o 1 < 256 := num_one _ (by rw [List.length_take]; omega)
theorem headP_ok (s : Sec) : (headP s).ok := ⟨rdAt_lt _ _ _, rdAt_two _ _, rdAt_two _ _, rdAt_one _ _⟩

set_option maxRecDepth 100000 in
set_option maxHeartbeats 4000000 in
theorem headOf_calls (w : World) (s : Sec) : Calls Try.prog 113 #[secV s] w (Quiet w (.agg (hdA (headP s) (longP s)))) := by
  have l1 := rdAt_lt s 0 8
  have l2 := rdAt_two s 8
  have l3 := rdAt_two s 10
  have l4 := rdAt_one s 12
  have l5 := rdAt_two s 14
  have hP : (hdA (headP s) (longP s)) = hdA ⟨rdAt s 0 8, rdAt s 8 2, rdAt s 10 2, rdAt s 12 1⟩ (rdAt s 14 2) := rfl
  rw [hP]
  go_enter Try.func113, Try.ntmps113
  go_upto_region 1 with (first
    | ((with_reducible refine gd_box 28 ?_); refine wl_box_agg rfl _ _ rfl (secA s) rfl ?_; intro b8 w1 hb8 HB8 HK8)
    | ((with_reducible refine gd_alloc (dst := some 2) 172 ?_); refine wl_alloc_agg rfl _ rfl _ zeroHd ?_; intro br w2 hbr HBR HKR)
    | fail)
  have HB82 := HKR.blk HB8 id
  have hK2 := HK8.trans HKR
  clear HB8
  go_wp2_with fail
  refine (from_calls _ _ ⟨_, _, _, rfl⟩).mono ?_
  rintro e w3 ⟨bi, rfl, hbi, hi3, hk3⟩
  have hbr2 : w.heap.size ≤ br := Nat.le_trans HK8.size hbr
  have hne8 : b8 ≠ bi := ne_new HB82 hbi
  have hner : br ≠ bi := ne_new HBR hbi
  have hv3 : isVals w3 (fun i => i = b8) (.slice (some ⟨b8, 0, none⟩) 16 64) (octs ((s.1.take 16).drop 0)) := by
    have := arr_vals (hk3.blk HB82 id) 0 16 (by decide) 64 rfl
    simpa using this
  have HBR3 := hk3.blk HBR id
  have HK3 := hK2.trans hk3
  have hbw : w.heap.size ≤ bi := Nat.le_trans hK2.size hbi
  clear HB82 HBR hk3 hK2 HK8 HKR hb8 hbi
  go_wp2_with fail
  refine (rdj_calls _ s b8 bi 0 8 _ hne8 (by decide) (by decide) (by decide) hi3 hv3).mono ?_
  rintro e w4 ⟨sv4, rfl, hi4, hv4, hk4⟩
  go_wp2_with fail
  refine (rdj_calls _ s b8 bi 8 2 _ hne8 (by decide) (by decide) (by decide) hi4 hv4).mono ?_
  rintro e w5 ⟨sv5, rfl, hi5, hv5, hk5⟩
  go_wp2_with fail
  refine (rdj_calls _ s b8 bi 10 2 _ hne8 (by decide) (by decide) (by decide) hi5 hv5).mono ?_
  rintro e w6 ⟨sv6, rfl, hi6, hv6, hk6⟩
  go_wp2_with fail
  refine (rdj_calls _ s b8 bi 12 1 _ hne8 (by decide) (by decide) (by decide) hi6 hv6).mono ?_
  rintro e w7 ⟨sv7, rfl, hi7, hv7, hk7⟩
  have hk47 := ((hk4.trans hk5).trans hk6).trans hk7
  have HBR7 := hk47.blk HBR3 hner
  have HK7 : Keeps w w7 (fun _ => False) := HK3.then hk47 (fun i hi e => absurd hbw (by rw [← e]; exact Nat.not_le.2 hi))
  clear hk4 hk5 hk6 hk7 hk47 HBR3 HK3 hi3 hv3 hi4 hv4 hi5 hv5 hi6 hv6
  generalize rdAt s 0 8 = g1 at *
  generalize rdAt s 8 2 = g2 at *
  generalize rdAt s 10 2 = g3 at *
  generalize rdAt s 12 1 = g4 at *
  have r2 : IntKind.i64.wrap (g2 : Int) = g2 := i64_smallK _ (by omega) (by omega)
  have r3 : IntKind.i64.wrap (g3 : Int) = g3 := i64_smallK _ (by omega) (by omega)
  have r4 : IntKind.i64.wrap (g4 : Int) = g4 := i64_smallK _ (by omega) (by omega)
  go_wp2_with (first
    | ((with_reducible refine gd_build 172 ?_); refine wl_buildL rfl _ _ rfl [(0, .int .u64 g1), (1, .int .i64 g2), (2, .int .i64 g3), (4, .int .i64 g4)] rfl (.agg (hdA ⟨g1, g2, g3, g4⟩ 0)) (fun _ => by kernel_rfl) ?_)
    | ((with_reducible refine gd_alloc 172 ?_); refine wl_alloc_agg rfl _ rfl _ zeroHd ?_; intro bh w8 hbh HBH HKH)
    | ((with_reducible refine gd_store 172 ?_); refine wl_store_agg rfl _ _ _ rfl bh _ rfl _ _ HBH (hdA ⟨g1, g2, g3, g4⟩ 0) rfl (hdA ⟨g1, g2, g3, g4⟩ 0) (store_hd _ _ _ _) (le_hd _ _ _ _) (infoHd _ _) (hdA_one _ _) ?_; intro w9 HBH9 HKH9)
    | fail)
  have hneh : bh ≠ bi := fun e => by have := lt_of_blk hi7; omega
  have hnbh : ¬ b8 = bh := fun e => by
    have := hv7
    obtain ⟨a, c, he, _, _, hh⟩ := this
    rcases hh with hh | ⟨g, o, rfl, h1, h2, _⟩
    · have := congrArg List.length hh
      rw [octs_len, List.length_drop, List.length_take, s.2] at this
      simp at this
    · omega
  have hrbh : br ≠ bh := fun e => by have := lt_of_blk HBR7; omega
  have hi9 : isIn w9 bi sv7 false := HKH9.blk (HKH.blk hi7 id) (fun e => hneh e.symm)
  have hv9 := (hv7.new HKH).kept HKH9 (fun i hi _ e => hnbh (by rw [← show i = b8 from hi]; exact e))
  have HBR9 := HKH9.blk (HKH.blk HBR7 id) hrbh
  have hbh0 : w.heap.size ≤ bh := Nat.le_trans HK7.size hbh
  have HK9 : Keeps w w9 (fun _ => False) := (HK7.trans HKH).then HKH9 (fun i hi e => absurd hbh0 (by rw [← e]; exact Nat.not_le.2 hi))
  clear HBH HKH HKH9 HBR7 HK7 hi7 hv7
  refine (rdj_calls _ s b8 bi 13 1 _ hne8 (by decide) (by decide) (by decide) hi9 hv9).mono ?_
  rintro e w10 ⟨sv10, rfl, hi10, hv10, hk10⟩
  go_wp2_with fail
  refine (rdj_calls _ s b8 bi 14 2 _ hne8 (by decide) (by decide) (by decide) hi10 hv10).mono ?_
  rintro e w11 ⟨sv11, rfl, hi11, hv11, hk11⟩
  have hk2 := hk10.trans hk11
  have HBH11 := hk2.blk HBH9 hneh
  have HBR11 := hk2.blk HBR9 hner
  have HK11 : Keeps w w11 (fun _ => False) := HK9.then hk2 (fun i hi e => absurd hbw (by rw [← e]; exact Nat.not_le.2 hi))
  generalize rdAt s 14 2 = g5 at *
  have r5 : IntKind.i64.wrap (g5 : Int) = g5 := i64_smallK _ (by omega) (by omega)
  have hc3 : w11.cell? ⟨bh, 3, none⟩ = some (.int .i64 0) := by rw [cell_of_block HBH11]; rfl
  have hf3 : w11.frozen? ⟨bh, 3, none⟩ = false := free_of_block HBH11 3
  have hb12 := blk_setCell HBH11 3 (.int .i64 g5)
  have e12 : (hdA ⟨g1, g2, g3, g4⟩ 0).setIfInBounds 3 (.int .i64 g5) = hdA ⟨g1, g2, g3, g4⟩ g5 := rfl
  rw [e12] at hb12
  have hk12 := keeps_cell w11 bh 3 (.int .i64 g5)
  have HBR12 := hk12.blk HBR11 hrbh
  have HK12 : Keeps w _ (fun _ => False) := HK11.then hk12 (fun i hi e => absurd hbh0 (by rw [← show i = bh from e]; exact Nat.not_le.2 hi))
  clear hi9 hv9 hi10 hv10 hi11 hv11 hk10 hk11 hk2 HBH9 HBR9 HK9 HBH11 HBR11 HK11 hk12 e12
  go_wp2_with (first
    | ((with_reducible refine gd_load 172 ?_); refine wl_load_agg rfl _ _ rfl bh _ rfl _ _ _ hb12 (hdA ⟨g1, g2, g3, g4⟩ g5) (extract_all _) _ Try.underlying172 rfl (infoHd _ _) ?_)
    | ((with_reducible refine gd_store 172 ?_); refine wl_store_agg rfl _ _ _ rfl br _ rfl _ _ HBR12 (hdA ⟨g1, g2, g3, g4⟩ g5) rfl (hdA ⟨g1, g2, g3, g4⟩ g5) (store_hd _ _ _ _) (le_hd _ _ _ _) (infoHd _ _) (hdA_one _ _) ?_; intro w13 HB13 HK13)
    | fail)
  refine bodyPost_ret (v := .agg (hdA ⟨g1, g2, g3, g4⟩ g5)) ?_ rfl ⟨rfl, ?_⟩
  · exact results_cell_row rfl _ _ br _ _ _ _ rfl HB13 Try.underlying172 rfl (infoHd _ _)
  · exact HK12.then HK13 (fun i hi e => absurd hbr2 (by rw [← e]; exact Nat.not_le.2 hi))
end Go.Proofs.Ytadjcdfmppcpnaa
