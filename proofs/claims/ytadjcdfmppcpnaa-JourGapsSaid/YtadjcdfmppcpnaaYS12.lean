import Derived.Test.YtadjcdfmppcpnaaYS11
import Derived.IntWalk
/-! Package sect: Crash. -/
namespace Go.Proofs.Ytadjcdfmppcpnaa
open Go Go.RowKit Go.Maps Wb

theorem load_int (p : Addr) (b : Int) (w : World) (h : w.cell? p = some (.int .i64 b)) : (Instr.loadAt 3 (.pointer (some p))).run Try.prog w = .ok (.int .i64 b) w := by
  go_simp
theorem load_mapL (p : Addr) (b : Nat) (w : World) (h : w.cell? p = some (.map (some b))) : (Instr.loadAt 110 (.pointer (some p))).run Try.prog w = .ok (.map (some b)) w := by
  go_simp
theorem buildLost (w : World) : (Instr.build 117 #[(2, .bool true)]).run Try.prog w = .ok (.agg (cellA lost)) w := by kernel_rfl

theorem isInts.across {w w1 w2 : World} {ok : Nat → Prop} {v : Value} {xs : List Int} {S : Nat → Prop} (h : isInts w1 ok v xs) (hk1 : Keeps w w1 S) (hk2 : Keeps w w2 S) (hok : ∀ i, ok i → i < w.heap.size ∧ ¬ S i) : isInts w2 ok v xs := by
  obtain ⟨a, cap, rfl, h0, h00, h01, h⟩ := h
  refine ⟨a, cap, rfl, h0, h00, h01, ?_⟩
  rcases h with h | ⟨g, o, rfl, h1, h2, h3⟩
  · exact .inl h
  · obtain ⟨h4, h5⟩ := hok g h1
    exact .inr ⟨g, o, rfl, h1, Nat.lt_of_lt_of_le h4 hk2.size, fun j n hj => by
      rw [hk2.cell (p := ⟨g, o + j, none⟩) h4 h5, ← hk1.cell (p := ⟨g, o + j, none⟩) h4 h5]; exact h3 j n hj⟩

/-- How it stands when i files are through. -/
def OutRel (w : World) (h : DH) (D : Dv) (pick : List Int) (ok : Nat → Prop) (nv : Value) (i : Nat) (v1 : Value) (wr : World) : Prop :=
  ∃ A B, D.files = A ++ B ∧ A.length = i ∧ isDev wr h { D with files := (crashFiles A pick).1 ++ B } ∧ isInts wr ok v1 (crashFiles A pick).2 ∧ Keeps w wr h.S ∧ isStrs wr w.heap.size nv D.names

/-- How it stands when q cells of a file are through. -/
def InRel (w : World) (h : DH) (D : Dv) (n : Nm) (l : List Wb.Cell) (p : List Int) (ok : Nat → Prop) (q : Nat) (v6 v1 : Value) (wr : World) : Prop :=
  Parts wr h (fldA D h) (longF D.files) (cellF (fset D.files n (fallL l p q))) ∧ Keeps w wr h.S ∧ isInts wr ok v1 (crashCells (l.take q) p).2 ∧ v6 = .int .i64 (endOf (crashCells (l.take q) p).1)

def GapRel (w : World) (h : DH) (D : Dv) (n : Nm) (t : List Wb.Cell) (e k : Nat) (wr : World) : Prop :=
  Parts wr h (fldA D h) (longF D.files) (gapF (cellF (fset D.files n t)) n e k) ∧ Keeps w wr h.S

theorem tmod3 (x : Int) : -3 < x.tmod 3 ∧ x.tmod 3 < 3 := by
  rw [Int.tmod_eq_emod]; split <;> omega
theorem way_wrap (x : Int) : IntKind.i64.wrap (x.tmod 3) = x.tmod 3 := by
  have := tmod3 x
  exact IntWalk.i64_in _ (by omega)
theorem way_eq (x : Int) : (wrap64 (x.tmod 3 + 3)).tmod 3 = pickWay x := by
  have h1 := tmod3 x
  have h3 : wrap64 (x.tmod 3 + 3) = x.tmod 3 + 3 := by unfold wrap64; omega
  rw [h3, Int.tmod_eq_emod_of_nonneg (by omega)]
  unfold pickWay
  rw [Int.tmod_eq_emod]
  split <;> omega

set_option maxRecDepth 100000 in
set_option maxHeartbeats 20000000 in
theorem crash_calls (w : World) (h : DH) (D0 : Dv) (pick : List Int) (pv : Value) (hd : isDev w h D0) (hfl : D0.files.length ≤ 1000000) (hpv : isInts w (fun g => ¬ h.S g ∧ g < w.heap.size) pv pick) :
    Calls Try.prog 25 #[.pointer (some ⟨h.p, 0, none⟩), pv] w (DevPost h w (.tuple #[]) (D0.crash pick)) := by
  go_enter Try.func25, Try.ntmps25
  go_wp2_with (first
    | (go_at_call 31; refine (names_calls _ h D0 hd hfl).mono ?_; rintro e w1 ⟨nv, rfl, hnv, HK1⟩; obtain ⟨na, ncap, rfl, hstr⟩ := hnv)
    | fail)
  have hd1 := hd.new HK1
  go_loopw [15, 1] (fun i v1 wr => ∃ q : Nat, q ≤ D0.names.length ∧ i = .int .i64 q ∧ OutRel w h D0 pick (fun g => ¬ h.S g ∧ g < w.heap.size) (.slice na D0.names.length ncap) q v1 wr) (fun i _ _ => D0.names.length - (intOf i).toNat)
  case atStart => exact ⟨0, Nat.zero_le _, rfl, [], D0.files, rfl, rfl, hd1, hpv.new HK1, HK1.mono (fun _ _ => False.elim), na, ncap, rfl, hstr⟩
  case round =>
    obtain ⟨i, hi, rfl, A, B, hAB, hA, hdr, hints, hko, hst⟩ := hrel
    by_cases hlt : i < D0.names.length
    · have hlen0 : D0.names.length = A.length + B.length := by simp [Dv.names, hAB]
      obtain ⟨n, l, B', rfl⟩ : ∃ n l B', B = (n, l) :: B' := by
        cases B with
        | nil => simp at hlen0; omega
        | cons x r => exact ⟨x.1, x.2, r, rfl⟩
      have hni : D0.names[i]? = some n := by simp [Dv.names, hAB, ← hA]
      have hAn : ∀ a ∈ (crashFiles A pick).1, a.1 < n := by
        have hs := hdr.wf.sorted
        have := List.pairwise_append.1 hs
        exact fun a ha => this.2.2 a ha (n, l) (by simp)
      obtain ⟨g, hg1, hg2, hgc⟩ : ∃ g, na = some ⟨g, 0, none⟩ ∧ g < wr.heap.size ∧ wr.cell? ⟨g, i, none⟩ = some (.string (bs n)) := by
        obtain ⟨na', ncap', hv, hst⟩ := hst
        injection hv with hv1 hv2 hv3
        subst hv1
        rcases hst with hst | ⟨g, rfl, _, h2, h3⟩
        · rw [hst] at hlt; simp at hlt
        · exact ⟨g, rfl, h2, h3 i n hni⟩
      subst hg1
      have hl : fget ((crashFiles A pick).1 ++ (n, l) :: B') n = some l := fget_mid hAn
      have HN : Hid (nmOk n) := by
        have := hdr.wf.nm (n, l) (by simp)
        exact Nat.le_trans this (by decide)
      have HNI := Lib.hid hni
      have HAN := Lib.hid hAn
      have HAB := Lib.hid hAB
      have HAL := Lib.hid hA
      have hlo := Nat.le_trans (used_le hl) (Nat.le_trans hdr.wf.used hdr.wf.most)
      have HL0 := Lib.hid hl
      have HD : Hid (∀ t, fset ((crashFiles A pick).1 ++ (n, l) :: B') n t = (crashFiles A pick).1 ++ (n, t) :: B') := fun t => fset_mid hAn
      clear hni hAn hAB hA hl hlen0
      generalize hF0 : (crashFiles A pick).1 ++ (n, l) :: B' = F0 at *
      generalize hD0 : ({ D0 with files := F0 } : Dv) = D at *
      have hDf : D.files = F0 := by rw [← hD0]
      rw [← hDf] at HL0 HD
      have HDF := Lib.hid hDf
      have HF : Hid (longF D.files (.string (bs n)) = some (.int .i64 l.length)) := by unfold Hid; rw [longF_at, HL0.out]; rfl
      have hks : KeyOk Try.prog 9 (.string (bs n)) := keyOkS HN.out
      have hne := hdr.ne
      have c3 := hdr.c3
      have hlt' : decide (i < D0.names.length) = true := by simpa using hlt
      have HLT := Lib.hid hlt
      have hnl : D0.names.length = D0.files.length := by simp [Dv.names]
      have hi1m : (i : Int) ≤ 1000000 := by omega
      clear hnl
      have HST := Lib.hid hst
      have hi0 : (i : Int) < D0.names.length := by omega
      have hi00 : (0 : Int) ≤ i := by omega
      generalize hp0 : (crashFiles A pick).2 = p0 at hints
      have HP0 := Lib.hid hp0
      have HF00 := Lib.hid hF0
      have HD00 := Lib.hid hD0
      clear hF0 hD0 hp0 hDf
      go_wp2_with (first
        | (at_lookup; refine wl_look_at rfl _ _ _ rfl _ keyedS Try.underlying110 _ zeroI hdr.long rfl _ rfl hks _ HF.out ?_)
        | fail)
      obtain ⟨wo, rfl⟩ : ∃ wo : World, wo = wr := ⟨_, rfl⟩
      go_loopw [25, 6, 1] (fun i v6 v1 wr => ∃ q : Nat, q ≤ l.length ∧ i = .int .i64 q ∧ InRel wo h D n l p0 (fun g => ¬ h.S g ∧ g < w.heap.size) q v6 v1 wr) (fun i _ _ _ => l.length - (intOf i).toNat)
      case atStart => exact ⟨0, Nat.zero_le _, rfl, by rw [fallL_zero, cellF_same HL0.out]; exact hdr.parts, Keeps.refl _ _, hints, rfl⟩
      case round =>
        obtain ⟨q, hq, rfl, hp, hk, hints, rfl⟩ := hrel
        by_cases hlt : q < l.length
        · have hkw : KeyOk Try.prog 119 (whereV n q) := keyOkW HN.out (by unfold kOk; omega)
          have c4 : wr.cell? ⟨h.p, 4, none⟩ = some (.map (some h.bc)) := hp.c 4 _ rfl
          have hlt' : decide (q < l.length) = true := by simpa using hlt
          have hq9 : (q : Int) ≤ 100000 := by omega
          obtain ⟨c, hc⟩ : ∃ c, l[q]? = some c := ⟨_, List.getElem?_eq_getElem hlt⟩
          have HCQ := Lib.hid hc
          have HC : Hid (cellF (fset D.files n (fallL l p0 q)) (whereV n q) = some (.agg (cellA c))) := by
            unfold Hid; rw [cellF_at, fget_fset_same, Option.bind_some, fallL_at hc]; rfl
          have HLQ : Hid (q < (fallL l p0 q).length) := by unfold Hid; rw [fallL_len l p0 hq]; exact hlt
          clear hc
          cases hfr : c.fresh with
          | false =>
            have HX0 : Hid (crashC c (crashCells (l.take q) p0).2 = ((c, true), (crashCells (l.take q) p0).2)) := by unfold Hid crashC; rw [hfr]; rfl
            go_wp2_with (first
              | (at_lookup; refine wl_look_at rfl _ _ _ rfl _ keyedW Try.underlying111 _ zero65 hp.cells rfl _ rfl hkw _ HC.out ?_)
              | ((with_reducible refine gd_alloc 117 ?_); refine wl_alloc_agg rfl _ rfl _ zero65 ?_; intro b1 w3 hb1 HB3 HK3; have hp3 := hp.new HK3)
              | ((with_reducible refine gd_store 117 ?_); refine wl_store_agg rfl _ _ _ rfl b1 _ rfl _ _ HB3 _ rfl (cellA c) (store_cells _ _) (le_cells _ _) (info65c c) (cellA_one c) ?_; intro w4 HB5 HK4; have hp4 := hp3.keptNew hp hb1 HK4; have c131 := ((cell_of_block HB5 131).trans (get131 _)).trans (by rw [hfr]))
              | fail)
            have HX : Hid (outC (crashC c (crashCells (l.take q) p0).2).1 = c.lasts) := by unfold Hid; rw [HX0.out]; rfl
            have HP : Hid ((crashC c (crashCells (l.take q) p0).2).2 = (crashCells (l.take q) p0).2) := by unfold Hid; rw [HX0.out]
            have HE : Hid (endOf (crashCells (l.take (q + 1)) p0).1 = q + 1) := by unfold Hid; rw [endOf_succ HCQ.out, HX0.out]; rfl
            have hbo : wo.heap.size ≤ b1 := Nat.le_trans hk.size hb1
            have hbw : w.heap.size ≤ b1 := Nat.le_trans hko.size hbo
            have hbc : b1 ≠ h.bc := fun e => absurd hp.cells.lt (by rw [← e]; exact Nat.not_lt.2 hb1)
            have hpT := hp4
            have HBT := HB5
            have HKT : Keeps wo w4 h.S := ((hk.then HK3 (fun _ _ => False.elim)).then HK4 (fun i hi e => absurd hbo (by rw [← e]; exact Nat.not_le.2 hi)))
            have hiT := ((hints.new HK3).kept HK4 (fun i hi _ e => absurd hi.2 (by rw [e]; exact Nat.not_lt.2 hbw)))
            clear hp3 hp4 HB3 HB5 c131 HC hp
            obtain ⟨y, rfl⟩ : ∃ y, y = c := ⟨_, rfl⟩
            obtain ⟨wt, rfl⟩ : ∃ wt : World, wt = w4 := ⟨_, rfl⟩
            have HS0 : (∃ g, Parts wt.drew h (fldA D h) (longF D.files) g) ∧ wt.drew.heap[b1]? = some (.cells (cellA y) 117 (0, 0)) := ⟨⟨_, hpT.drew⟩, HBT⟩
            refine wp_region_held (S := fun w' => (∃ g, Parts w' h (fldA D h) (longF D.files) g) ∧ w'.heap[b1]? = some (.cells (cellA y) 117 (0, 0))) (by kernel_rfl) ?_
            refine ya_take 0 rfl (by kernel_rfl) (by kernel_rfl) (by kernel_rfl) (fun _ _ _ h => h) HS0 (yi_pure rfl (.pointer (some ⟨h.p, 0, none⟩)) (fun _ => rfl)) ?_
            simp only [List.setIfInBounds_toArray, List.set_cons_succ, List.set_cons_zero]
            refine ya_take 1 rfl (by kernel_rfl) (by kernel_rfl) (by kernel_rfl) (fun _ _ _ h => h) HS0 (yi_pure rfl (.pointer (some ⟨h.p, 0, none⟩)) (fun _ => rfl)) ?_
            simp only [List.setIfInBounds_toArray, List.set_cons_succ, List.set_cons_zero]
            refine ya_take 2 rfl (by kernel_rfl) (by kernel_rfl) (by kernel_rfl) (fun _ _ _ h => h) HS0 (yi_pure rfl (.pointer (some ⟨h.p, 4, none⟩)) (fun _ => rfl)) ?_
            simp only [List.setIfInBounds_toArray, List.set_cons_succ, List.set_cons_zero]
            refine ya_take 3 rfl (by kernel_rfl) (by kernel_rfl) (by kernel_rfl) (fun _ _ _ h => h) HS0 (yi_load rfl _ _ rfl _ rfl (.map (some h.bc)) (fun _ h => h.1.elim fun _ h => h.c 4 _ rfl) (load_map _ _)) ?_
            simp only [List.setIfInBounds_toArray, List.set_cons_succ, List.set_cons_zero]
            refine ya_take 4 rfl (by kernel_rfl) (by kernel_rfl) (by kernel_rfl) (fun _ _ _ h => h) HS0 (yi_pure rfl (.string (bs n)) (fun _ => rfl)) ?_
            simp only [List.setIfInBounds_toArray, List.set_cons_succ, List.set_cons_zero]
            refine ya_take 5 rfl (by kernel_rfl) (by kernel_rfl) (by kernel_rfl) (fun _ _ _ h => h) HS0 (yi_pure rfl (.int .i64 q) (fun _ => rfl)) ?_
            simp only [List.setIfInBounds_toArray, List.set_cons_succ, List.set_cons_zero]
            refine ya_take 6 rfl (by kernel_rfl) (by kernel_rfl) (by kernel_rfl) (fun _ _ _ h => h) HS0 (yi_build rfl _ _ rfl [(0, .string (bs n)), (1, .int .i64 q)] rfl (whereV n q) (buildW n q)) ?_
            simp only [List.setIfInBounds_toArray, List.set_cons_succ, List.set_cons_zero]
            refine ya_take 7 rfl (by kernel_rfl) (by kernel_rfl) (by kernel_rfl) (fun _ _ _ h => h) HS0 (yi_load_agg rfl _ _ rfl b1 0 rfl _ _ _ (fun _ h => h.2) (cellA y) (extract_all _) _ Try.underlying117 rfl (info65c _)) ?_
            simp only [List.setIfInBounds_toArray, List.set_cons_succ, List.set_cons_zero]
            refine ya_one 8 rfl (by kernel_rfl) ((wp_call 73 _ _ rfl _ Try.func73 (by kernel_rfl) (by kernel_rfl) [.agg (cellA y)] rfl (lasts_calls _ _) ?_))
            rintro e wa ⟨rfl, HKa⟩
            have hpa := hpT.drew.new HKa
            refine ⟨_, rfl, ⟨⟨_, hpa⟩, HKa.blk HBT id⟩, ?_⟩
            simp only [Act.put, List.setIfInBounds_toArray, List.set_cons_succ, List.set_cons_zero]
            refine ya_one 9 rfl (by kernel_rfl) ((wp_mapset _ _ _ _ rfl _ keyedW Try.underlying111 hpa.cells rfl (whereV n q) (cellV y.lasts) rfl rfl hkw ?_))
            intro wb hmb HKb
            have hpb := hpa.setCells HKb hmb hne
            refine ⟨⟨⟨_, hpb⟩, HKb.blk (HKa.blk HBT id) hbc⟩, wpAnyH_done (by kernel_rfl) ?_ _⟩
            have hib := (isInts.new (w := wt.drew) hiT HKa).kept HKb (fun i hi _ e => hi.1 (.inr (.inr e)))
            have HKb' := (HKT.drew.then HKa (fun _ _ => False.elim)).then HKb (fun i _ e => .inr (.inr e))
            go_wp2
            go_roundw
            case rel => exact ⟨q + 1, by omega, by go_num, by rw [fallL_succ HCQ.out, HX.out, ← cellF_set HLQ.out]; exact hpb, HKb', by rw [crash_succ HCQ.out, HP.out]; exact hib, by first | (rw [HE.out]; done) | (rw [HE.out]; rfl)⟩
            case measure => simp [intOf]; omega
          | true =>
            cases hpk : (crashCells (l.take q) p0).2 with
            | nil =>
              have HPK := Lib.hid hpk
              rcases hz : fallC c 0 with ⟨z, b⟩
              have HW0 := Lib.hid hz
              rw [hpk] at hints
              clear hz hpk
              cases b with
              | true =>
                have HX0 : Hid (crashC c (crashCells (l.take q) p0).2 = ((z, true), [])) := by unfold Hid crashC; rw [hfr, HPK.out, if_pos rfl]; show (fallC c 0, _) = _; rw [HW0.out]; rfl
                have HW : Hid (fallC c 0 = (z, true)) := HW0
                obtain ⟨a1, cap1, rfl, hcap, -⟩ := id hints
                go_wp2_with (first
                  | (at_lookup; refine wl_look_at rfl _ _ _ rfl _ keyedW Try.underlying111 _ zero65 hp.cells rfl _ rfl hkw _ HC.out ?_)
                  | ((with_reducible refine gd_alloc 117 ?_); refine wl_alloc_agg rfl _ rfl _ zero65 ?_; intro b1 w3 hb1 HB3 HK3; have hp3 := hp.new HK3)
                  | ((with_reducible refine gd_store 117 ?_); refine wl_store_agg rfl _ _ _ rfl b1 _ rfl _ _ HB3 _ rfl (cellA c) (store_cells _ _) (le_cells _ _) (info65c c) (cellA_one c) ?_; intro w4 HB5 HK4; have hp4 := hp3.keptNew hp hb1 HK4; have c131 := ((cell_of_block HB5 131).trans (get131 _)).trans (by rw [hfr]); have HB6 := HB5; have hp5 := hp4)
                  | ((with_reducible refine gd_load 117 ?_); refine wl_load_agg rfl _ _ rfl b1 _ rfl _ _ _ HB6 (cellA c) (extract_all _) _ Try.underlying117 rfl (info65c _) ?_)
                  | (go_at_call 72; refine (fallen_calls _ c 0).mono ?_; rintro e w6 ⟨he, HK6⟩; rw [HW.out] at he; dsimp only at he; subst he; have HB7 := HK6.blk HB6 id; have hp6 := hp5.new HK6)
                  | ((with_reducible refine gd_store 117 ?_); refine wl_store_agg rfl _ _ _ rfl b1 _ rfl _ _ HB7 _ rfl (cellA z) (store_cells _ _) (le_cells _ _) (info65c _) (cellA_one _) ?_; intro w7 HB8 HK7; have hp7 := hp6.keptNew hp hb1 HK7)
                  | fail)
                have HX : Hid (outC (crashC c (crashCells (l.take q) p0).2).1 = z.lasts) := by unfold Hid; rw [HX0.out]; rfl
                have HP : Hid ((crashC c (crashCells (l.take q) p0).2).2 = []) := by unfold Hid; rw [HX0.out]
                have HE : Hid (endOf (crashCells (l.take (q + 1)) p0).1 = q + 1) := by unfold Hid; rw [endOf_succ HCQ.out, HX0.out]; rfl
                have hbo : wo.heap.size ≤ b1 := Nat.le_trans hk.size hb1
                have hbw : w.heap.size ≤ b1 := Nat.le_trans hko.size hbo
                have hbc : b1 ≠ h.bc := fun e => absurd hp.cells.lt (by rw [← e]; exact Nat.not_lt.2 hb1)
                have hpT := hp7
                have HBT := HB8
                have HKT : Keeps wo w7 h.S := ((((hk.then HK3 (fun _ _ => False.elim)).then HK4 (fun i hi e => absurd hbo (by rw [← e]; exact Nat.not_le.2 hi))).then HK6 (fun _ _ => False.elim)).then HK7 (fun i hi e => absurd hbo (by rw [← e]; exact Nat.not_le.2 hi)))
                have hiT := ((((hints.new HK3).kept HK4 (fun i hi _ e => absurd hi.2 (by rw [e]; exact Nat.not_lt.2 hbw))).new HK6).kept HK7 (fun i hi _ e => absurd hi.2 (by rw [e]; exact Nat.not_lt.2 hbw)))
                clear hp7 hp6 hp5 HB6 HB7 HB8 HC hp
                generalize z = y at HX HBT ⊢
                obtain ⟨wt, rfl⟩ : ∃ wt : World, wt = w7 := ⟨_, rfl⟩
                have HS0 : (∃ g, Parts wt.drew h (fldA D h) (longF D.files) g) ∧ wt.drew.heap[b1]? = some (.cells (cellA y) 117 (0, 0)) := ⟨⟨_, hpT.drew⟩, HBT⟩
                refine wp_region_held (S := fun w' => (∃ g, Parts w' h (fldA D h) (longF D.files) g) ∧ w'.heap[b1]? = some (.cells (cellA y) 117 (0, 0))) (by kernel_rfl) ?_
                refine ya_take 0 rfl (by kernel_rfl) (by kernel_rfl) (by kernel_rfl) (fun _ _ _ h => h) HS0 (yi_pure rfl (.pointer (some ⟨h.p, 0, none⟩)) (fun _ => rfl)) ?_
                simp only [List.setIfInBounds_toArray, List.set_cons_succ, List.set_cons_zero]
                refine ya_take 1 rfl (by kernel_rfl) (by kernel_rfl) (by kernel_rfl) (fun _ _ _ h => h) HS0 (yi_pure rfl (.pointer (some ⟨h.p, 0, none⟩)) (fun _ => rfl)) ?_
                simp only [List.setIfInBounds_toArray, List.set_cons_succ, List.set_cons_zero]
                refine ya_take 2 rfl (by kernel_rfl) (by kernel_rfl) (by kernel_rfl) (fun _ _ _ h => h) HS0 (yi_pure rfl (.pointer (some ⟨h.p, 4, none⟩)) (fun _ => rfl)) ?_
                simp only [List.setIfInBounds_toArray, List.set_cons_succ, List.set_cons_zero]
                refine ya_take 3 rfl (by kernel_rfl) (by kernel_rfl) (by kernel_rfl) (fun _ _ _ h => h) HS0 (yi_load rfl _ _ rfl _ rfl (.map (some h.bc)) (fun _ h => h.1.elim fun _ h => h.c 4 _ rfl) (load_map _ _)) ?_
                simp only [List.setIfInBounds_toArray, List.set_cons_succ, List.set_cons_zero]
                refine ya_take 4 rfl (by kernel_rfl) (by kernel_rfl) (by kernel_rfl) (fun _ _ _ h => h) HS0 (yi_pure rfl (.string (bs n)) (fun _ => rfl)) ?_
                simp only [List.setIfInBounds_toArray, List.set_cons_succ, List.set_cons_zero]
                refine ya_take 5 rfl (by kernel_rfl) (by kernel_rfl) (by kernel_rfl) (fun _ _ _ h => h) HS0 (yi_pure rfl (.int .i64 q) (fun _ => rfl)) ?_
                simp only [List.setIfInBounds_toArray, List.set_cons_succ, List.set_cons_zero]
                refine ya_take 6 rfl (by kernel_rfl) (by kernel_rfl) (by kernel_rfl) (fun _ _ _ h => h) HS0 (yi_build rfl _ _ rfl [(0, .string (bs n)), (1, .int .i64 q)] rfl (whereV n q) (buildW n q)) ?_
                simp only [List.setIfInBounds_toArray, List.set_cons_succ, List.set_cons_zero]
                refine ya_take 7 rfl (by kernel_rfl) (by kernel_rfl) (by kernel_rfl) (fun _ _ _ h => h) HS0 (yi_load_agg rfl _ _ rfl b1 0 rfl _ _ _ (fun _ h => h.2) (cellA y) (extract_all _) _ Try.underlying117 rfl (info65c _)) ?_
                simp only [List.setIfInBounds_toArray, List.set_cons_succ, List.set_cons_zero]
                refine ya_one 8 rfl (by kernel_rfl) ((wp_call 73 _ _ rfl _ Try.func73 (by kernel_rfl) (by kernel_rfl) [.agg (cellA y)] rfl (lasts_calls _ _) ?_))
                rintro e wa ⟨rfl, HKa⟩
                have hpa := hpT.drew.new HKa
                refine ⟨_, rfl, ⟨⟨_, hpa⟩, HKa.blk HBT id⟩, ?_⟩
                simp only [Act.put, List.setIfInBounds_toArray, List.set_cons_succ, List.set_cons_zero]
                refine ya_one 9 rfl (by kernel_rfl) ((wp_mapset _ _ _ _ rfl _ keyedW Try.underlying111 hpa.cells rfl (whereV n q) (cellV y.lasts) rfl rfl hkw ?_))
                intro wb hmb HKb
                have hpb := hpa.setCells HKb hmb hne
                refine ⟨⟨⟨_, hpb⟩, HKb.blk (HKa.blk HBT id) hbc⟩, wpAnyH_done (by kernel_rfl) ?_ _⟩
                have hib := (isInts.new (w := wt.drew) hiT HKa).kept HKb (fun i hi _ e => hi.1 (.inr (.inr e)))
                have HKb' := (HKT.drew.then HKa (fun _ _ => False.elim)).then HKb (fun i _ e => .inr (.inr e))
                go_wp2
                go_roundw
                case rel => exact ⟨q + 1, by omega, by go_num, by rw [fallL_succ HCQ.out, HX.out, ← cellF_set HLQ.out]; exact hpb, HKb', by rw [crash_succ HCQ.out, HP.out]; exact hib, by first | (rw [HE.out]; done) | (rw [HE.out]; rfl)⟩
                case measure => simp [intOf]; omega
              | false =>
                have HX0 : Hid (crashC c (crashCells (l.take q) p0).2 = ((z, false), [])) := by unfold Hid crashC; rw [hfr, HPK.out, if_pos rfl]; show (fallC c 0, _) = _; rw [HW0.out]; rfl
                have HW : Hid (fallC c 0 = (z, false)) := HW0
                obtain ⟨a1, cap1, rfl, hcap, -⟩ := id hints
                go_wp2_with (first
                  | (at_lookup; refine wl_look_at rfl _ _ _ rfl _ keyedW Try.underlying111 _ zero65 hp.cells rfl _ rfl hkw _ HC.out ?_)
                  | ((with_reducible refine gd_alloc 117 ?_); refine wl_alloc_agg rfl _ rfl _ zero65 ?_; intro b1 w3 hb1 HB3 HK3; have hp3 := hp.new HK3)
                  | ((with_reducible refine gd_store 117 ?_); refine wl_store_agg rfl _ _ _ rfl b1 _ rfl _ _ HB3 _ rfl (cellA c) (store_cells _ _) (le_cells _ _) (info65c c) (cellA_one c) ?_; intro w4 HB5 HK4; have hp4 := hp3.keptNew hp hb1 HK4; have c131 := ((cell_of_block HB5 131).trans (get131 _)).trans (by rw [hfr]); have HB6 := HB5; have hp5 := hp4)
                  | ((with_reducible refine gd_load 117 ?_); refine wl_load_agg rfl _ _ rfl b1 _ rfl _ _ _ HB6 (cellA c) (extract_all _) _ Try.underlying117 rfl (info65c _) ?_)
                  | (go_at_call 72; refine (fallen_calls _ c 0).mono ?_; rintro e w6 ⟨he, HK6⟩; rw [HW.out] at he; dsimp only at he; subst he; have HB7 := HK6.blk HB6 id; have hp6 := hp5.new HK6)
                  | ((with_reducible refine gd_store 117 ?_); refine wl_store_agg rfl _ _ _ rfl b1 _ rfl _ _ HB7 _ rfl (cellA z) (store_cells _ _) (le_cells _ _) (info65c _) (cellA_one _) ?_; intro w7 HB8 HK7; have hp7 := hp6.keptNew hp hb1 HK7)
                  | ((with_reducible refine gd_build 117 ?_); refine wl_buildL rfl _ _ rfl [(2, .bool true)] rfl _ buildLost ?_)
                  | ((with_reducible refine gd_store 117 ?_); refine wl_store_agg rfl _ _ _ rfl b1 _ rfl _ _ HB8 _ rfl (cellA lost) (store_cells _ _) (le_cells _ _) (info65c _) (cellA_one _) ?_; intro w8 HB9 HK8; have hp8 := hp7.keptNew hp hb1 HK8)
                  | fail)
                have HX : Hid (outC (crashC c (crashCells (l.take q) p0).2).1 = lost.lasts) := by unfold Hid; rw [HX0.out]; rfl
                have HP : Hid ((crashC c (crashCells (l.take q) p0).2).2 = []) := by unfold Hid; rw [HX0.out]
                have HE : Hid (endOf (crashCells (l.take (q + 1)) p0).1 = endOf (crashCells (l.take q) p0).1) := by unfold Hid; rw [endOf_succ HCQ.out, HX0.out]; rfl
                have hbo : wo.heap.size ≤ b1 := Nat.le_trans hk.size hb1
                have hbw : w.heap.size ≤ b1 := Nat.le_trans hko.size hbo
                have hbc : b1 ≠ h.bc := fun e => absurd hp.cells.lt (by rw [← e]; exact Nat.not_lt.2 hb1)
                have hpT := hp8
                have HBT := HB9
                have HKT : Keeps wo w8 h.S := (((((hk.then HK3 (fun _ _ => False.elim)).then HK4 (fun i hi e => absurd hbo (by rw [← e]; exact Nat.not_le.2 hi))).then HK6 (fun _ _ => False.elim)).then HK7 (fun i hi e => absurd hbo (by rw [← e]; exact Nat.not_le.2 hi))).then HK8 (fun i hi e => absurd hbo (by rw [← e]; exact Nat.not_le.2 hi)))
                have hiT := (((((hints.new HK3).kept HK4 (fun i hi _ e => absurd hi.2 (by rw [e]; exact Nat.not_lt.2 hbw))).new HK6).kept HK7 (fun i hi _ e => absurd hi.2 (by rw [e]; exact Nat.not_lt.2 hbw))).kept HK8 (fun i hi _ e => absurd hi.2 (by rw [e]; exact Nat.not_lt.2 hbw)))
                clear hp7 hp6 hp5 HB6 HB7 HB8 HC hp
                clear hp8 HB9
                generalize lost = y at HX HBT ⊢
                obtain ⟨wt, rfl⟩ : ∃ wt : World, wt = w8 := ⟨_, rfl⟩
                have HS0 : (∃ g, Parts wt.drew h (fldA D h) (longF D.files) g) ∧ wt.drew.heap[b1]? = some (.cells (cellA y) 117 (0, 0)) := ⟨⟨_, hpT.drew⟩, HBT⟩
                refine wp_region_held (S := fun w' => (∃ g, Parts w' h (fldA D h) (longF D.files) g) ∧ w'.heap[b1]? = some (.cells (cellA y) 117 (0, 0))) (by kernel_rfl) ?_
                refine ya_take 0 rfl (by kernel_rfl) (by kernel_rfl) (by kernel_rfl) (fun _ _ _ h => h) HS0 (yi_pure rfl (.pointer (some ⟨h.p, 0, none⟩)) (fun _ => rfl)) ?_
                simp only [List.setIfInBounds_toArray, List.set_cons_succ, List.set_cons_zero]
                refine ya_take 1 rfl (by kernel_rfl) (by kernel_rfl) (by kernel_rfl) (fun _ _ _ h => h) HS0 (yi_pure rfl (.pointer (some ⟨h.p, 0, none⟩)) (fun _ => rfl)) ?_
                simp only [List.setIfInBounds_toArray, List.set_cons_succ, List.set_cons_zero]
                refine ya_take 2 rfl (by kernel_rfl) (by kernel_rfl) (by kernel_rfl) (fun _ _ _ h => h) HS0 (yi_pure rfl (.pointer (some ⟨h.p, 4, none⟩)) (fun _ => rfl)) ?_
                simp only [List.setIfInBounds_toArray, List.set_cons_succ, List.set_cons_zero]
                refine ya_take 3 rfl (by kernel_rfl) (by kernel_rfl) (by kernel_rfl) (fun _ _ _ h => h) HS0 (yi_load rfl _ _ rfl _ rfl (.map (some h.bc)) (fun _ h => h.1.elim fun _ h => h.c 4 _ rfl) (load_map _ _)) ?_
                simp only [List.setIfInBounds_toArray, List.set_cons_succ, List.set_cons_zero]
                refine ya_take 4 rfl (by kernel_rfl) (by kernel_rfl) (by kernel_rfl) (fun _ _ _ h => h) HS0 (yi_pure rfl (.string (bs n)) (fun _ => rfl)) ?_
                simp only [List.setIfInBounds_toArray, List.set_cons_succ, List.set_cons_zero]
                refine ya_take 5 rfl (by kernel_rfl) (by kernel_rfl) (by kernel_rfl) (fun _ _ _ h => h) HS0 (yi_pure rfl (.int .i64 q) (fun _ => rfl)) ?_
                simp only [List.setIfInBounds_toArray, List.set_cons_succ, List.set_cons_zero]
                refine ya_take 6 rfl (by kernel_rfl) (by kernel_rfl) (by kernel_rfl) (fun _ _ _ h => h) HS0 (yi_build rfl _ _ rfl [(0, .string (bs n)), (1, .int .i64 q)] rfl (whereV n q) (buildW n q)) ?_
                simp only [List.setIfInBounds_toArray, List.set_cons_succ, List.set_cons_zero]
                refine ya_take 7 rfl (by kernel_rfl) (by kernel_rfl) (by kernel_rfl) (fun _ _ _ h => h) HS0 (yi_load_agg rfl _ _ rfl b1 0 rfl _ _ _ (fun _ h => h.2) (cellA y) (extract_all _) _ Try.underlying117 rfl (info65c _)) ?_
                simp only [List.setIfInBounds_toArray, List.set_cons_succ, List.set_cons_zero]
                refine ya_one 8 rfl (by kernel_rfl) ((wp_call 73 _ _ rfl _ Try.func73 (by kernel_rfl) (by kernel_rfl) [.agg (cellA y)] rfl (lasts_calls _ _) ?_))
                rintro e wa ⟨rfl, HKa⟩
                have hpa := hpT.drew.new HKa
                refine ⟨_, rfl, ⟨⟨_, hpa⟩, HKa.blk HBT id⟩, ?_⟩
                simp only [Act.put, List.setIfInBounds_toArray, List.set_cons_succ, List.set_cons_zero]
                refine ya_one 9 rfl (by kernel_rfl) ((wp_mapset _ _ _ _ rfl _ keyedW Try.underlying111 hpa.cells rfl (whereV n q) (cellV y.lasts) rfl rfl hkw ?_))
                intro wb hmb HKb
                have hpb := hpa.setCells HKb hmb hne
                refine ⟨⟨⟨_, hpb⟩, HKb.blk (HKa.blk HBT id) hbc⟩, wpAnyH_done (by kernel_rfl) ?_ _⟩
                have hib := (isInts.new (w := wt.drew) hiT HKa).kept HKb (fun i hi _ e => hi.1 (.inr (.inr e)))
                have HKb' := (HKT.drew.then HKa (fun _ _ => False.elim)).then HKb (fun i _ e => .inr (.inr e))
                go_wp2
                go_roundw
                case rel => exact ⟨q + 1, by omega, by go_num, by rw [fallL_succ HCQ.out, HX.out, ← cellF_set HLQ.out]; exact hpb, HKb', by rw [crash_succ HCQ.out, HP.out]; exact hib, by first | (rw [HE.out]; done) | (rw [HE.out]; rfl)⟩
                case measure => simp [intOf]; omega
            | cons x r =>
              have HPK := Lib.hid hpk
              rw [hpk] at hints
              clear hpk
              obtain ⟨g1, o1, cap1, rfl, hx, hcap, hcap2, hxk, hok, hints'⟩ := hints.cons
              have hg1lt : g1 < wr.heap.size := Nat.lt_of_lt_of_le hok.2 (Nat.le_trans hko.size hk.size)
              have hx1 : -9223372036854775808 ≤ x := hxk.1
              have hx2 : x ≤ 9223372036854775807 := hxk.2
              have HR1 := Lib.hid (way_wrap x)
              have HWAY := Lib.hid (way_eq x)
              rcases hz : fallC c (pickWay x) with ⟨z, b⟩
              have HW0 := Lib.hid hz
              clear hz
              cases b with
              | true =>
                have HX0 : Hid (crashC c (crashCells (l.take q) p0).2 = ((z, true), r)) := by unfold Hid crashC; rw [hfr, HPK.out, if_pos rfl]; show (fallC c (pickWay x), _) = _; rw [HW0.out]; rfl
                go_wp2_with (first
                  | (at_lookup; refine wl_look_at rfl _ _ _ rfl _ keyedW Try.underlying111 _ zero65 hp.cells rfl _ rfl hkw _ HC.out ?_)
                  | ((with_reducible refine gd_alloc 117 ?_); refine wl_alloc_agg rfl _ rfl _ zero65 ?_; intro b1 w3 hb1 HB3 HK3; have hp3 := hp.new HK3)
                  | ((with_reducible refine gd_store 117 ?_); refine wl_store_agg rfl _ _ _ rfl b1 _ rfl _ _ HB3 _ rfl (cellA c) (store_cells _ _) (le_cells _ _) (info65c c) (cellA_one c) ?_; intro w4 HB5 HK4; have hp4 := hp3.keptNew hp hb1 HK4; have c131 := ((cell_of_block HB5 131).trans (get131 _)).trans (by rw [hfr]))
                  | fail)
                have hbo : wo.heap.size ≤ b1 := Nat.le_trans hk.size hb1
                have hbw : w.heap.size ≤ b1 := Nat.le_trans hko.size hbo
                have hx4 : w4.cell? ⟨g1, o1, none⟩ = some (.int .i64 x) := ((((HK3.mono (T := fun i => i = b1) (fun _ _ => False.elim)).then HK4 (fun _ _ e => e)).cell (p := ⟨g1, o1, none⟩) hg1lt (fun e => absurd hok.2 (by rw [show g1 = b1 from e]; exact Nat.not_lt.2 hbw)))).trans hx
                have hr1 : IntKind.i64.wrap (x.tmod 3) = x.tmod 3 := HR1.out
                go_quiet (fail)
                rw [HWAY.out]
                generalize hv1 : Value.slice (if cap1 = 1 then some (⟨g1, o1, none⟩ : Addr) else some ⟨g1, o1 + 1, none⟩) r.length (cap1 - 1) = v1' at *
                have hp5 := hp4.drewN nq
                have HB6 : (w4.drewN nq).heap[b1]? = some (.cells (cellA c) 117 (0, 0)) := HB5
                have HK5 : Keeps wo (w4.drewN nq) h.S := ((hk.then HK3 (fun _ _ => False.elim)).then HK4 (fun i hi e => absurd hbo (by rw [← e]; exact Nat.not_le.2 hi))).drewN nq
                have hi5 : isInts (w4.drewN nq) (fun g => ¬ h.S g ∧ g < w.heap.size) v1' r := ((hints'.new HK3).kept (HK4.drewN nq) (fun i hi _ e => absurd hi.2 (by rw [e]; exact Nat.not_lt.2 hbw)))
                have HW : Hid (fallC c (pickWay x) = (z, true)) := HW0
                clear hr1 hx4 hv1 hcap hcap2 hxk hx1 hx2 hx c131 hp4 hp3 HB5 HB3 hints hints' HK3 HK4
                generalize pickWay x = way at *
                generalize w4.drewN nq = w5 at *
                go_wp2_with (first
                  | ((with_reducible refine gd_load 117 ?_); refine wl_load_agg rfl _ _ rfl b1 _ rfl _ _ _ HB6 (cellA c) (extract_all _) _ Try.underlying117 rfl (info65c _) ?_)
                  | (go_at_call 72; refine (fallen_calls _ c way).mono ?_; rintro e w6 ⟨he, HK6⟩; rw [HW.out] at he; dsimp only at he; subst he; have HB7 := HK6.blk HB6 id; have hp6 := hp5.new HK6)
                  | ((with_reducible refine gd_store 117 ?_); refine wl_store_agg rfl _ _ _ rfl b1 _ rfl _ _ HB7 _ rfl (cellA z) (store_cells _ _) (le_cells _ _) (info65c _) (cellA_one _) ?_; intro w7 HB8 HK7; have hp7 := hp6.keptNew hp hb1 HK7)
                  | fail)
                have HX : Hid (outC (crashC c (crashCells (l.take q) p0).2).1 = z.lasts) := by unfold Hid; rw [HX0.out]; rfl
                have HP : Hid ((crashC c (crashCells (l.take q) p0).2).2 = r) := by unfold Hid; rw [HX0.out]
                have HE : Hid (endOf (crashCells (l.take (q + 1)) p0).1 = q + 1) := by unfold Hid; rw [endOf_succ HCQ.out, HX0.out]; rfl
                have hbc : b1 ≠ h.bc := fun e => absurd hp.cells.lt (by rw [← e]; exact Nat.not_lt.2 hb1)
                have hpT := hp7
                have HBT := HB8
                have HKT : Keeps wo w7 h.S := ((HK5.then HK6 (fun _ _ => False.elim)).then HK7 (fun i hi e => absurd hbo (by rw [← e]; exact Nat.not_le.2 hi)))
                have hiT := ((hi5.new HK6).kept HK7 (fun i hi _ e => absurd hi.2 (by rw [e]; exact Nat.not_lt.2 hbw)))
                clear hp7 hp6 hp5 HB6 HB7 HB8 HC hp
                generalize z = y at HX HBT ⊢
                obtain ⟨wt, rfl⟩ : ∃ wt : World, wt = w7 := ⟨_, rfl⟩
                have HS0 : (∃ g, Parts wt.drew h (fldA D h) (longF D.files) g) ∧ wt.drew.heap[b1]? = some (.cells (cellA y) 117 (0, 0)) := ⟨⟨_, hpT.drew⟩, HBT⟩
                refine wp_region_held (S := fun w' => (∃ g, Parts w' h (fldA D h) (longF D.files) g) ∧ w'.heap[b1]? = some (.cells (cellA y) 117 (0, 0))) (by kernel_rfl) ?_
                refine ya_take 0 rfl (by kernel_rfl) (by kernel_rfl) (by kernel_rfl) (fun _ _ _ h => h) HS0 (yi_pure rfl (.pointer (some ⟨h.p, 0, none⟩)) (fun _ => rfl)) ?_
                simp only [List.setIfInBounds_toArray, List.set_cons_succ, List.set_cons_zero]
                refine ya_take 1 rfl (by kernel_rfl) (by kernel_rfl) (by kernel_rfl) (fun _ _ _ h => h) HS0 (yi_pure rfl (.pointer (some ⟨h.p, 0, none⟩)) (fun _ => rfl)) ?_
                simp only [List.setIfInBounds_toArray, List.set_cons_succ, List.set_cons_zero]
                refine ya_take 2 rfl (by kernel_rfl) (by kernel_rfl) (by kernel_rfl) (fun _ _ _ h => h) HS0 (yi_pure rfl (.pointer (some ⟨h.p, 4, none⟩)) (fun _ => rfl)) ?_
                simp only [List.setIfInBounds_toArray, List.set_cons_succ, List.set_cons_zero]
                refine ya_take 3 rfl (by kernel_rfl) (by kernel_rfl) (by kernel_rfl) (fun _ _ _ h => h) HS0 (yi_load rfl _ _ rfl _ rfl (.map (some h.bc)) (fun _ h => h.1.elim fun _ h => h.c 4 _ rfl) (load_map _ _)) ?_
                simp only [List.setIfInBounds_toArray, List.set_cons_succ, List.set_cons_zero]
                refine ya_take 4 rfl (by kernel_rfl) (by kernel_rfl) (by kernel_rfl) (fun _ _ _ h => h) HS0 (yi_pure rfl (.string (bs n)) (fun _ => rfl)) ?_
                simp only [List.setIfInBounds_toArray, List.set_cons_succ, List.set_cons_zero]
                refine ya_take 5 rfl (by kernel_rfl) (by kernel_rfl) (by kernel_rfl) (fun _ _ _ h => h) HS0 (yi_pure rfl (.int .i64 q) (fun _ => rfl)) ?_
                simp only [List.setIfInBounds_toArray, List.set_cons_succ, List.set_cons_zero]
                refine ya_take 6 rfl (by kernel_rfl) (by kernel_rfl) (by kernel_rfl) (fun _ _ _ h => h) HS0 (yi_build rfl _ _ rfl [(0, .string (bs n)), (1, .int .i64 q)] rfl (whereV n q) (buildW n q)) ?_
                simp only [List.setIfInBounds_toArray, List.set_cons_succ, List.set_cons_zero]
                refine ya_take 7 rfl (by kernel_rfl) (by kernel_rfl) (by kernel_rfl) (fun _ _ _ h => h) HS0 (yi_load_agg rfl _ _ rfl b1 0 rfl _ _ _ (fun _ h => h.2) (cellA y) (extract_all _) _ Try.underlying117 rfl (info65c _)) ?_
                simp only [List.setIfInBounds_toArray, List.set_cons_succ, List.set_cons_zero]
                refine ya_one 8 rfl (by kernel_rfl) ((wp_call 73 _ _ rfl _ Try.func73 (by kernel_rfl) (by kernel_rfl) [.agg (cellA y)] rfl (lasts_calls _ _) ?_))
                rintro e wa ⟨rfl, HKa⟩
                have hpa := hpT.drew.new HKa
                refine ⟨_, rfl, ⟨⟨_, hpa⟩, HKa.blk HBT id⟩, ?_⟩
                simp only [Act.put, List.setIfInBounds_toArray, List.set_cons_succ, List.set_cons_zero]
                refine ya_one 9 rfl (by kernel_rfl) ((wp_mapset _ _ _ _ rfl _ keyedW Try.underlying111 hpa.cells rfl (whereV n q) (cellV y.lasts) rfl rfl hkw ?_))
                intro wb hmb HKb
                have hpb := hpa.setCells HKb hmb hne
                refine ⟨⟨⟨_, hpb⟩, HKb.blk (HKa.blk HBT id) hbc⟩, wpAnyH_done (by kernel_rfl) ?_ _⟩
                have hib := (isInts.new (w := wt.drew) hiT HKa).kept HKb (fun i hi _ e => hi.1 (.inr (.inr e)))
                have HKb' := (HKT.drew.then HKa (fun _ _ => False.elim)).then HKb (fun i _ e => .inr (.inr e))
                go_wp2
                go_roundw
                case rel => exact ⟨q + 1, by omega, by go_num, by rw [fallL_succ HCQ.out, HX.out, ← cellF_set HLQ.out]; exact hpb, HKb', by rw [crash_succ HCQ.out, HP.out]; exact hib, by first | (rw [HE.out]; done) | (rw [HE.out]; rfl)⟩
                case measure => simp [intOf]; omega
              | false =>
                have HX0 : Hid (crashC c (crashCells (l.take q) p0).2 = ((z, false), r)) := by unfold Hid crashC; rw [hfr, HPK.out, if_pos rfl]; show (fallC c (pickWay x), _) = _; rw [HW0.out]; rfl
                go_wp2_with (first
                  | (at_lookup; refine wl_look_at rfl _ _ _ rfl _ keyedW Try.underlying111 _ zero65 hp.cells rfl _ rfl hkw _ HC.out ?_)
                  | ((with_reducible refine gd_alloc 117 ?_); refine wl_alloc_agg rfl _ rfl _ zero65 ?_; intro b1 w3 hb1 HB3 HK3; have hp3 := hp.new HK3)
                  | ((with_reducible refine gd_store 117 ?_); refine wl_store_agg rfl _ _ _ rfl b1 _ rfl _ _ HB3 _ rfl (cellA c) (store_cells _ _) (le_cells _ _) (info65c c) (cellA_one c) ?_; intro w4 HB5 HK4; have hp4 := hp3.keptNew hp hb1 HK4; have c131 := ((cell_of_block HB5 131).trans (get131 _)).trans (by rw [hfr]))
                  | fail)
                have hbo : wo.heap.size ≤ b1 := Nat.le_trans hk.size hb1
                have hbw : w.heap.size ≤ b1 := Nat.le_trans hko.size hbo
                have hx4 : w4.cell? ⟨g1, o1, none⟩ = some (.int .i64 x) := ((((HK3.mono (T := fun i => i = b1) (fun _ _ => False.elim)).then HK4 (fun _ _ e => e)).cell (p := ⟨g1, o1, none⟩) hg1lt (fun e => absurd hok.2 (by rw [show g1 = b1 from e]; exact Nat.not_lt.2 hbw)))).trans hx
                have hr1 : IntKind.i64.wrap (x.tmod 3) = x.tmod 3 := HR1.out
                go_quiet (fail)
                rw [HWAY.out]
                generalize hv1 : Value.slice (if cap1 = 1 then some (⟨g1, o1, none⟩ : Addr) else some ⟨g1, o1 + 1, none⟩) r.length (cap1 - 1) = v1' at *
                have hp5 := hp4.drewN nq
                have HB6 : (w4.drewN nq).heap[b1]? = some (.cells (cellA c) 117 (0, 0)) := HB5
                have HK5 : Keeps wo (w4.drewN nq) h.S := ((hk.then HK3 (fun _ _ => False.elim)).then HK4 (fun i hi e => absurd hbo (by rw [← e]; exact Nat.not_le.2 hi))).drewN nq
                have hi5 : isInts (w4.drewN nq) (fun g => ¬ h.S g ∧ g < w.heap.size) v1' r := ((hints'.new HK3).kept (HK4.drewN nq) (fun i hi _ e => absurd hi.2 (by rw [e]; exact Nat.not_lt.2 hbw)))
                have HW : Hid (fallC c (pickWay x) = (z, false)) := HW0
                clear hr1 hx4 hv1 hcap hcap2 hxk hx1 hx2 hx c131 hp4 hp3 HB5 HB3 hints hints' HK3 HK4
                generalize pickWay x = way at *
                generalize w4.drewN nq = w5 at *
                go_wp2_with (first
                  | ((with_reducible refine gd_load 117 ?_); refine wl_load_agg rfl _ _ rfl b1 _ rfl _ _ _ HB6 (cellA c) (extract_all _) _ Try.underlying117 rfl (info65c _) ?_)
                  | (go_at_call 72; refine (fallen_calls _ c way).mono ?_; rintro e w6 ⟨he, HK6⟩; rw [HW.out] at he; dsimp only at he; subst he; have HB7 := HK6.blk HB6 id; have hp6 := hp5.new HK6)
                  | ((with_reducible refine gd_store 117 ?_); refine wl_store_agg rfl _ _ _ rfl b1 _ rfl _ _ HB7 _ rfl (cellA z) (store_cells _ _) (le_cells _ _) (info65c _) (cellA_one _) ?_; intro w7 HB8 HK7; have hp7 := hp6.keptNew hp hb1 HK7)
                  | ((with_reducible refine gd_build 117 ?_); refine wl_buildL rfl _ _ rfl [(2, .bool true)] rfl _ buildLost ?_)
                  | ((with_reducible refine gd_store 117 ?_); refine wl_store_agg rfl _ _ _ rfl b1 _ rfl _ _ HB8 _ rfl (cellA lost) (store_cells _ _) (le_cells _ _) (info65c _) (cellA_one _) ?_; intro w8 HB9 HK8; have hp8 := hp7.keptNew hp hb1 HK8)
                  | fail)
                have HX : Hid (outC (crashC c (crashCells (l.take q) p0).2).1 = lost.lasts) := by unfold Hid; rw [HX0.out]; rfl
                have HP : Hid ((crashC c (crashCells (l.take q) p0).2).2 = r) := by unfold Hid; rw [HX0.out]
                have HE : Hid (endOf (crashCells (l.take (q + 1)) p0).1 = endOf (crashCells (l.take q) p0).1) := by unfold Hid; rw [endOf_succ HCQ.out, HX0.out]; rfl
                have hbc : b1 ≠ h.bc := fun e => absurd hp.cells.lt (by rw [← e]; exact Nat.not_lt.2 hb1)
                have hpT := hp8
                have HBT := HB9
                have HKT : Keeps wo w8 h.S := (((HK5.then HK6 (fun _ _ => False.elim)).then HK7 (fun i hi e => absurd hbo (by rw [← e]; exact Nat.not_le.2 hi))).then HK8 (fun i hi e => absurd hbo (by rw [← e]; exact Nat.not_le.2 hi)))
                have hiT := (((hi5.new HK6).kept HK7 (fun i hi _ e => absurd hi.2 (by rw [e]; exact Nat.not_lt.2 hbw))).kept HK8 (fun i hi _ e => absurd hi.2 (by rw [e]; exact Nat.not_lt.2 hbw)))
                clear hp7 hp6 hp5 HB6 HB7 HB8 HC hp
                clear hp8 HB9
                generalize lost = y at HX HBT ⊢
                obtain ⟨wt, rfl⟩ : ∃ wt : World, wt = w8 := ⟨_, rfl⟩
                have HS0 : (∃ g, Parts wt.drew h (fldA D h) (longF D.files) g) ∧ wt.drew.heap[b1]? = some (.cells (cellA y) 117 (0, 0)) := ⟨⟨_, hpT.drew⟩, HBT⟩
                refine wp_region_held (S := fun w' => (∃ g, Parts w' h (fldA D h) (longF D.files) g) ∧ w'.heap[b1]? = some (.cells (cellA y) 117 (0, 0))) (by kernel_rfl) ?_
                refine ya_take 0 rfl (by kernel_rfl) (by kernel_rfl) (by kernel_rfl) (fun _ _ _ h => h) HS0 (yi_pure rfl (.pointer (some ⟨h.p, 0, none⟩)) (fun _ => rfl)) ?_
                simp only [List.setIfInBounds_toArray, List.set_cons_succ, List.set_cons_zero]
                refine ya_take 1 rfl (by kernel_rfl) (by kernel_rfl) (by kernel_rfl) (fun _ _ _ h => h) HS0 (yi_pure rfl (.pointer (some ⟨h.p, 0, none⟩)) (fun _ => rfl)) ?_
                simp only [List.setIfInBounds_toArray, List.set_cons_succ, List.set_cons_zero]
                refine ya_take 2 rfl (by kernel_rfl) (by kernel_rfl) (by kernel_rfl) (fun _ _ _ h => h) HS0 (yi_pure rfl (.pointer (some ⟨h.p, 4, none⟩)) (fun _ => rfl)) ?_
                simp only [List.setIfInBounds_toArray, List.set_cons_succ, List.set_cons_zero]
                refine ya_take 3 rfl (by kernel_rfl) (by kernel_rfl) (by kernel_rfl) (fun _ _ _ h => h) HS0 (yi_load rfl _ _ rfl _ rfl (.map (some h.bc)) (fun _ h => h.1.elim fun _ h => h.c 4 _ rfl) (load_map _ _)) ?_
                simp only [List.setIfInBounds_toArray, List.set_cons_succ, List.set_cons_zero]
                refine ya_take 4 rfl (by kernel_rfl) (by kernel_rfl) (by kernel_rfl) (fun _ _ _ h => h) HS0 (yi_pure rfl (.string (bs n)) (fun _ => rfl)) ?_
                simp only [List.setIfInBounds_toArray, List.set_cons_succ, List.set_cons_zero]
                refine ya_take 5 rfl (by kernel_rfl) (by kernel_rfl) (by kernel_rfl) (fun _ _ _ h => h) HS0 (yi_pure rfl (.int .i64 q) (fun _ => rfl)) ?_
                simp only [List.setIfInBounds_toArray, List.set_cons_succ, List.set_cons_zero]
                refine ya_take 6 rfl (by kernel_rfl) (by kernel_rfl) (by kernel_rfl) (fun _ _ _ h => h) HS0 (yi_build rfl _ _ rfl [(0, .string (bs n)), (1, .int .i64 q)] rfl (whereV n q) (buildW n q)) ?_
                simp only [List.setIfInBounds_toArray, List.set_cons_succ, List.set_cons_zero]
                refine ya_take 7 rfl (by kernel_rfl) (by kernel_rfl) (by kernel_rfl) (fun _ _ _ h => h) HS0 (yi_load_agg rfl _ _ rfl b1 0 rfl _ _ _ (fun _ h => h.2) (cellA y) (extract_all _) _ Try.underlying117 rfl (info65c _)) ?_
                simp only [List.setIfInBounds_toArray, List.set_cons_succ, List.set_cons_zero]
                refine ya_one 8 rfl (by kernel_rfl) ((wp_call 73 _ _ rfl _ Try.func73 (by kernel_rfl) (by kernel_rfl) [.agg (cellA y)] rfl (lasts_calls _ _) ?_))
                rintro e wa ⟨rfl, HKa⟩
                have hpa := hpT.drew.new HKa
                refine ⟨_, rfl, ⟨⟨_, hpa⟩, HKa.blk HBT id⟩, ?_⟩
                simp only [Act.put, List.setIfInBounds_toArray, List.set_cons_succ, List.set_cons_zero]
                refine ya_one 9 rfl (by kernel_rfl) ((wp_mapset _ _ _ _ rfl _ keyedW Try.underlying111 hpa.cells rfl (whereV n q) (cellV y.lasts) rfl rfl hkw ?_))
                intro wb hmb HKb
                have hpb := hpa.setCells HKb hmb hne
                refine ⟨⟨⟨_, hpb⟩, HKb.blk (HKa.blk HBT id) hbc⟩, wpAnyH_done (by kernel_rfl) ?_ _⟩
                have hib := (isInts.new (w := wt.drew) hiT HKa).kept HKb (fun i hi _ e => hi.1 (.inr (.inr e)))
                have HKb' := (HKT.drew.then HKa (fun _ _ => False.elim)).then HKb (fun i _ e => .inr (.inr e))
                go_wp2
                go_roundw
                case rel => exact ⟨q + 1, by omega, by go_num, by rw [fallL_succ HCQ.out, HX.out, ← cellF_set HLQ.out]; exact hpb, HKb', by rw [crash_succ HCQ.out, HP.out]; exact hib, by first | (rw [HE.out]; done) | (rw [HE.out]; rfl)⟩
                case measure => simp [intOf]; omega
        · have hge : decide (q < l.length) = false := by simpa using hlt
          obtain rfl : q = l.length := by omega
          clear hlt
          rw [fallL_all] at hp
          rw [List.take_length] at hints ⊢
          have hxl : (crashCells l p0).1.length = l.length := crashCells_len l p0
          have hel := endOf_le (crashCells l p0).1
          generalize hxs : (crashCells l p0).1 = xs at hp hel hxl ⊢
          rw [hxl] at hel
          generalize hee : endOf xs = e at hel ⊢
          have HXS := Lib.hid hxs
          have HEE := Lib.hid hee
          have HXL := Lib.hid hxl
          clear hxs hee hxl
          have hel' : (e : Int) ≤ l.length := by omega
          have hlo' : (l.length : Int) ≤ 100000 := by omega
          obtain ⟨wo2, rfl⟩ : ∃ wo2 : World, wo2 = wr := ⟨_, rfl⟩
          go_wp2_with fail
          go_loopw [11] (fun v11 wr => ∃ k : Nat, e ≤ k ∧ k ≤ l.length ∧ v11 = .int .i64 k ∧ GapRel wo h D n (xs.map outC) e k wr) (fun v11 _ => l.length - (intOf v11).toNat)
          case atStart => exact ⟨e, Nat.le_refl _, hel, rfl, by unfold GapRel; rw [gapF_zero]; exact ⟨hp, hk⟩⟩
          case round =>
            obtain ⟨k, hek, hkl, rfl, hp2, hk2⟩ := hrel
            have c3 : wr.cell? ⟨h.p, 3, none⟩ = some (.map (some h.bl)) := hp2.c 3 _ rfl
            have c4 : wr.cell? ⟨h.p, 4, none⟩ = some (.map (some h.bc)) := hp2.c 4 _ rfl
            by_cases hlt : k < l.length
            · have hlt' : decide (k < l.length) = true := by simpa using hlt
              have hkw : KeyOk Try.prog 119 (whereV n k) := keyOkW HN.out (by unfold kOk; omega)
              have hk9 : (k : Int) ≤ 100000 := by omega
              go_wp2_with (first
                | (at_lookup; refine wl_look_at rfl _ _ _ rfl _ keyedS Try.underlying110 _ zeroI hp2.long rfl _ rfl hks _ HF.out ?_)
                | (at_delete; refine wl_delete rfl _ _ _ rfl _ keyedW Try.underlying111 hp2.cells rfl (whereV n k) rfl hkw ?_; intro w2 hm2 HK2)
                | fail)
              go_roundw
              case rel => exact ⟨k + 1, by omega, by omega, by go_num, by have := hp2.setCells HK2 hm2 hne; rwa [gapF_succ _ _ hek] at this, hk2.then HK2 (fun i _ e => .inr (.inr e))⟩
              case measure => simp [intOf]; omega
            · have hge : decide (k < l.length) = false := by simpa using hlt
              obtain rfl : k = l.length := by omega
              have hp3 : Parts wr h (fldA D h) (longF D.files) (cellF (fset D.files n (trim xs))) := by
                have := hp2
                rw [show l.length = (xs.map outC).length by rw [List.length_map, HXL.out], gapF_all] at this
                unfold trim; rw [HEE.out]; exact this
              have hu1 : used D.files ≤ 100000 := Nat.le_trans hdr.wf.used hdr.wf.most
              have hu2 := used_le HL0.out
              have hu3 : (used D.files : Int) ≤ 100000 := by omega
              have hu4 : (0 : Int) ≤ (l.length : Int) - e := by omega
              have hu5 : (0 : Int) ≤ (used D.files : Int) - ((l.length : Int) - e) := by omega
              clear hlt hp2
              go_wp2_with (first
                | (at_lookup; refine wl_look_at rfl _ _ _ rfl _ keyedS Try.underlying110 _ zeroI hp3.long rfl _ rfl hks _ HF.out ?_)
                | fail)
              have c1 : wr.cell? ⟨h.p, 1, none⟩ = some (.int .i64 (used D.files)) := hp3.c 1 _ rfl
              have f1 := hp3.fr 1
              refine wp_region_still_tail 15 (by kernel_rfl) (by kernel_rfl) ?_
              simp only [List.take_succ_cons, List.take_zero, List.drop_succ_cons, List.drop_zero]
              iterate 9 still_step
              refine ws_look rfl _ _ _ rfl _ keyedS Try.underlying110 _ zeroI hp3.drew.long rfl _ rfl hks _ HF.out ?_
              iterate 5 still_step
              refine wpStill_nil ?_
              have hp4 : Parts { wr with drawn := wr.drawn + 1 } h _ _ _ := hp3.drew
              have hk4 : Keeps wo { wr with drawn := wr.drawn + 1 } h.S := hk2.drew
              generalize { wr with drawn := wr.drawn + 1 } = w5 at *
              have c1 : w5.cell? ⟨h.p, 1, none⟩ = some (.int .i64 (used D.files)) := hp4.c 1 _ rfl
              have c3 : w5.cell? ⟨h.p, 3, none⟩ = some (.map (some h.bl)) := hp4.c 3 _ rfl
              have f1 := hp4.fr 1
              go_wp2_with (first
                | (at_mapUpdate; refine wl_store rfl _ _ _ _ rfl _ keyedS Try.underlying110 (hp4.setFld 1 _).long rfl (.string (bs n)) (.int .i64 e) rfl rfl hks ?_; intro w6 hm6 HK6)
                | fail)
              go_roundw
              case rel =>
                have hp6 := (hp4.setFld 1 _).setLong HK6 hm6 hne
                have htl : (trim xs).length = e := by rw [trim_len, HEE.out]
                have hdn := hdr.felled (t := trim xs) HL0.out (by rw [htl]; exact hel) (by rw [htl]; exact hp6)
                have HK7 := (hk4.then (keeps_cell w5 h.p 1 _) (fun i _ e => .inl e)).then HK6 (fun i _ e => .inr (.inl e))
                have HKA := hko.trans HK7
                refine ⟨i + 1, HLT.out, by go_num, A ++ [(n, l)], B', by rw [HAB.out]; simp, by simp [HAL.out], ?_, ?_, HKA, ?_⟩
                · have e1 : ({ D0 with files := (crashFiles (A ++ [(n, l)]) pick).1 ++ B' } : Dv) = { D with files := fset D.files n (trim xs) } := by
                    rw [crashFiles_snoc, HD.out, HP0.out, HXS.out, ← HD00.out]
                    simp
                  rw [e1]; exact hdn
                · rw [crashFiles_snoc, HP0.out]
                  exact hints.across (hko.trans hk) HKA (fun i hi => ⟨hi.2, hi.1⟩)
                · exact HST.out.kept HK7 (fun i hi _ hs => absurd (hd.lt hs) (Nat.not_lt.2 hi))
              case measure => have := HLT.out; simp [intOf]; omega
    · have hge : decide (i < D0.names.length) = false := by simpa using hlt
      have hB : B = [] := by
        have h1 : D0.names.length = A.length + B.length := by simp [Dv.names, hAB]
        exact List.eq_nil_of_length_eq_zero (by omega)
      subst hB
      rw [List.append_nil] at hAB
      have HD : Hid (isDev (wr.setCell ⟨h.p, 2, none⟩ (.int .i64 (-1))) h (D0.crash pick)) := by
        have := hdr.setFuse (-1) (by omega) (by omega)
        simpa [Hid, Dv.crash, hAB] using this
      have f2 := hdr.fr 2
      have c2 := hdr.c2
      clear hdr hAB hA hlt hints hst
      go_wp2
      go_end0
      exact ⟨rfl, HD.out, hko.then (keeps_cell wr h.p 2 _) (fun i _ e => .inl e)⟩
end Go.Proofs.Ytadjcdfmppcpnaa
