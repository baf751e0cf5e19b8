import Derived.Test.YtadjcdfmppcpnaaYW8a
import Derived.Test.YtadjcdfmppcpnaaQQ
import Derived.Test.YtadjcdfmppcpnaaRegV
import Derived.Test.YtadjcdfmppcpnaaYJ17b
import Derived.Deep.CutBlock
import Derived.Deep.DeepCutAuto
/-! Layer 8: the walk of JourGaps (printed by gen_gaps.py). -/
namespace Go.Proofs.Ytadjcdfmppcpnaa
open Go Go.RowKit Go.Maps Wb

theorem law8_lo {w w1 : World} {h : DH} {jb : Nat} {D : Dv} {J : Jr} (hL : Law8 w w1 h jb D J) : ∃ lo, Hid ((∀ i, h.S i ∨ i = jb → i < lo) ∧ w.heap.size ≤ lo ∧ ∀ wx D J, Law8 w wx h jb D J → lo ≤ wx.heap.size) := by
  have h1 := hL.law.new h.p (.inl rfl)
  refine ⟨max (max (max h.p h.bl) h.bc) jb + 1, Lib.hid ⟨fun i hi => ?_, by omega, fun wx D J hx => ?_⟩⟩
  · rcases hi with (rfl | rfl | rfl) | rfl <;> omega
  · have h2 := hx.law.lt (i := h.p) (.inl rfl)
    have h3 := hx.law.lt (i := h.bl) (.inr (.inl rfl))
    have h4 := hx.law.lt (i := h.bc) (.inr (.inr rfl))
    have h5 := hx.jlt
    omega
theorem isRdB_take {w : World} {ad : Option Addr} {n cap k : Nat} {l : List Bt} (h : isRdB w (.slice ad n cap) l) (hk : k ≤ l.length) : isRdB w (.slice ad k cap) (l.take k) := by
  obtain ⟨bvs, h1, ⟨ad', cap', e, hc, h2⟩, h3⟩ := h
  rw [btRows_len h1] at e hc
  injection e with e1 e2 e3
  subst e1 e3
  have hr : btRows (l.take k) (bvs.take k) = (btRows l bvs).take k := by unfold btRows; rw [List.take_zipWith]
  refine ⟨bvs.take k, by simp [h1], ⟨ad, cap, by rw [hr, List.length_take, btRows_len h1, Nat.min_eq_left hk], by rw [hr, List.length_take]; have := btRows_len h1; omega, fun j r hj => ?_⟩, fun j t bv ht hb => ?_⟩
  · rw [hr] at hj
    have hjk : j < k := by have := (List.getElem?_eq_some_iff.1 hj).1; rw [List.length_take] at this; omega
    rw [List.getElem?_take_of_lt hjk] at hj
    exact h2 j r hj
  · have hjk : j < k := by have := (List.getElem?_eq_some_iff.1 ht).1; rw [List.length_take] at this; omega
    rw [List.getElem?_take_of_lt hjk] at ht hb
    exact h3 j t bv ht hb
theorem btRows_one {w : World} {lo : Nat} {l : List Bt} {bvs : List Value} (h3 : ∀ (j : Nat) t bv, l[j]? = some t → bvs[j]? = some bv → isOwn w lo 5 bv (octs t.b)) : ∀ r ∈ btRows l bvs, r.all (·.oneCell') = true := by
  intro r hr
  obtain ⟨j, hj⟩ := List.mem_iff_getElem?.1 hr
  unfold btRows at hj
  rw [List.getElem?_zipWith] at hj
  cases hl : l[j]? with
  | none => rw [hl] at hj; simp at hj
  | some t =>
    cases hb : bvs[j]? with
    | none => rw [hl, hb] at hj; simp at hj
    | some bv =>
      rw [hl, hb] at hj
      simp only [Option.some.injEq] at hj
      subst hj
      exact btA_one (own_one1 (h3 j t bv hl hb))
def more8 : List UInt8 := [109, 111, 114, 101]
def GapsRel (w : World) (h : DH) (jb lo q : Nat) (v10 : Value) (wr : World) : Prop := ∃ L J B, GapJ L J B q ∧ Law8 w wr h jb (devJ 3000 (-1) L) J ∧ isBts wr lo v10 B ∧ B.length = q

set_option maxRecDepth 100000 in
set_option maxHeartbeats 16000000 in
theorem jourGaps_walk (w : World) (v : Value) (xs : List Int) (hv : isInts w (fun g => g < w.heap.size) v xs) (wh at' : Int) : Calls Try.prog 15 #[v, .int .i64 wh, .int .i64 at'] w (Quiet w (.bool true)) := by
  obtain ⟨a, cap, rfl, hl1, hl2, hl3, hx4⟩ := hv
  have hli : (xs.length : Int) ≤ 140737488351232 := by omega
  have HC : Hid (∀ (q : Nat), q < xs.length → ∃ g o x, kOk x ∧ a = some ⟨g, o, none⟩ ∧ g < w.heap.size ∧ w.cell? ⟨g, o + q, none⟩ = some (.int .i64 x)) := by
    intro q hq
    rcases hx4 with rfl | ⟨g, o, rfl, _, hg, hc⟩
    · simp at hq
    · exact ⟨g, o, xs[q]'hq, hl3 _ (List.getElem_mem _), rfl, hg, hc q _ (List.getElem?_eq_getElem _)⟩
  clear hx4 hl3
  obtain ⟨b1, hb1, hb19⟩ : ∃ e : Nat, wh % 256 = e ∧ e < 256 := ⟨(wh % 256).toNat, by omega, by omega⟩
  obtain ⟨b2, hb2, hb29⟩ : ∃ e : Nat, at' % 256 = e ∧ e < 256 := ⟨(at' % 256).toNat, by omega, by omega⟩
  have hm1 : bits BinOp.and IntKind.i64 wh 255 = (b1 : Int) := by rw [mask255, hb1]
  have hm2 : bits BinOp.and IntKind.i64 at' 255 = (b2 : Int) := by rw [mask255, hb2]
  have hb1i : (b1 : Int) < 256 := by omega
  have hb10 : (0 : Int) ≤ b1 := by omega
  have hb2i : (b2 : Int) < 256 := by omega
  have hb20 : (0 : Int) ≤ b2 := by omega
  clear hb1 hb2
  go_enter Try.func15, Try.ntmps15
  go_wp2_with fail
  refine new_any _ _ fun h w1 hd1 hk1 hS => ?_
  have hL1 : LawD w w1 h (devJ 3000 (-1) []) := LawD.start (by rw [← new_dev (by decide)]; exact hd1) hk1 hS
  clear hd1 hk1 hS
  go_wp2_with fail
  refine (l8_open hL1 okJ_nil .nil (by decide)).mono ?_
  rintro e w2 ⟨L', J', jb, lv, hv, hse, hus, hlj, hf0, hnx, rfl, hL2, hbt, hjb, hk2⟩
  obtain rfl := hse settled_nil
  obtain rfl := lj_new hlj hf0 hnx
  obtain ⟨lo, HLO⟩ := law8_lo hL2
  have HREL0 : Hid (GapsRel w h jb lo 0 (.slice none 0 0) w2) := Lib.hid ⟨[], _, [], gap_new, hL2, isBts_nil _ _, rfl⟩
  clear hv hse hus hlj hf0 hnx hL2 hbt hjb hk2 hL1
  go_upto_block 0 with fail
  go_cut [10] (fun v10 wx => ∃ (q : Nat) (a10 : Option Addr) (c10 : Nat), q ≤ 12 ∧ v10 = .slice a10 q c10 ∧ Hid (GapsRel w h jb lo q (.slice a10 q c10) wx))
  case first =>
    as_aux_lemma =>
    go_wp2_with fail
    go_loopw [10, 11] (fun v10 i wr => ∃ (q : Nat) (a10 : Option Addr) (c10 : Nat), q ≤ 12 ∧ i = .int .i64 q ∧ v10 = .slice a10 q c10 ∧ Hid (GapsRel w h jb lo q (.slice a10 q c10) wr)) (fun _ i _ => 12 - (intOf i).toNat)
    case atStart => exact ⟨0, _, _, Nat.zero_le _, rfl, rfl, HREL0⟩
    case round =>
      clear HREL0
      obtain ⟨q, a10, c10, hq, rfl, rfl, hrel⟩ := hrel
      have hq0 : (0 : Int) ≤ q := by omega
      have hqi : (q : Int) ≤ 12 := by omega
      by_cases hlt : q < xs.length ∧ q < 12
      · have hlt1 : decide (q < xs.length) = true := by simpa using hlt.1
        have hql : (q : Int) < xs.length := by omega
        have hq2 : (q : Int) < 12 := by omega
        have hlt2 : decide ((q : Int) < 12) = true := by simp; omega
        obtain ⟨g, o, x, hx, rfl, hg, hcw⟩ := HC.out q hlt.1
        obtain ⟨nn, hn, hn9⟩ : ∃ e : Nat, x % 512 = e ∧ e < 512 := ⟨(x % 512).toNat, by omega, by omega⟩
        have hmk : bits BinOp.and IntKind.i64 x 511 = nn := by rw [mask511, hn]
        obtain ⟨L, J, B, hgj, hL, hbts, hBl⟩ := hrel.out
        have hcx : wr.cell? ⟨g, o + q, none⟩ = some (.int .i64 x) := (hL.law.keeps.cell (p := ⟨g, o + q, none⟩) hg id).trans hcw
        have HQ := Lib.hid hlt.2
        have HGJ := Lib.hid hgj
        have HL := Lib.hid hL
        have HBTS := Lib.hid hbts
        have HBL := Lib.hid hBl
        have hni9 : (nn : Int) < 512 := by omega
        have hni0 : (0 : Int) ≤ nn := by omega
        clear hlt hgj hL hbts hrel hcw hn hBl
        go_wp2_with fail
        refine (octets_calls _ nn q (by omega) (kOk_small (by omega))).mono ?_
        rintro e w3 ⟨bv, rfl, ho3, hk3⟩
        have hL3 := HL.out.more hk3
        have hb3 := HBTS.out.new hk3
        have hoff : ∀ g, bv.ownBlock = some g → ¬ h.S g ∧ g ≠ jb := fun g hg => HL.out.off (ho3.blk g hg).1
        have hlen : (octP nn (q : Int)).length = nn := octP_len _ _
        have hnd : needN (octP nn (q : Int)).length ≤ 11 := by rw [hlen]; unfold needN; split <;> omega
        go_wp2_with fail
        refine (l8_append (kind := 1) (n := q) hL3 HGJ.out.live (by have := HGJ.out.next.1; omega) (by have := HGJ.out.next.2; omega) ⟨by decide, by decide, by omega, by omega⟩ (by have := HGJ.out.used; omega) (by omega) (isOwn.arg ho3) hoff).mono ?_
        rintro e w4 ⟨L0, f, l, nx, L', bv4, hsp, hdn, rfl, hL4, hbo, hk4⟩
        obtain ⟨hf1, hgj4⟩ := HGJ.out.append hq hnd hsp hdn
        obtain rfl := hf1
        have o1 := own_one1 hbo
        have HGJ4 := Lib.hid hgj4
        have HBO := Lib.hid (hbo.low (HLO.out.2.2 _ _ _ hL3))
        have hb4 := hb3.kept hk4 (fun g h1 _ hs => absurd (HLO.out.1 g hs) (Nat.not_lt.2 h1))
        have HB4 := Lib.hid hb4
        have HL4 := Lib.hid hL4
        generalize octP nn (q : Int) = b at *
        clear hsp hdn hbo hk4 ho3 hk3 hL3 hoff hnd hb3 hb4 hgj4 hL4 HL HBTS HGJ
        go_wp2_with (first
          | ((with_reducible refine gd_alloc 94 ?_); refine wl_alloc_agg rfl _ rfl _ zeroBt ?_; intro b12 w5 hb5 HB5 HK5)
          | ((with_reducible refine gd_store 94 ?_); refine wl_store_agg rfl _ _ _ rfl b12 _ rfl _ _ HB5 (btA (q + 1) 1 bv4 1 l.length) rfl (btA (q + 1) 1 bv4 1 l.length) (store_bt _ _ _ _ _ _ _ _ _ _) (le_bt _ _ _ _ _ _ _ _ _ _) (infoBt _ _ _ _ _) (btA_one o1) ?_; intro w6 HB6 HK6; have c3 : w6.cell? ⟨b12, 3, none⟩ = some (.int .i64 1) := (by rw [cell_of_block HB6]; rfl); have hk46 : Keeps w4 w6 (fun _ => False) := (HK5.then HK6 (fun i hi e => absurd hb5 (by rw [← show i = b12 from e]; exact Nat.not_le.2 hi))); obtain ⟨bvs, hv1, hv2, hv3⟩ := HB4.out.new hk46; have hvl := btRows_len hv1; have hm1' : (btRows B bvs).length + 1 ≤ maxLen := (by rw [hvl, HBL.out]; unfold maxLen; omega); have hm2' : ((btRows B bvs).length + 1) * 56 ≤ 140737488355328 := (by rw [hvl, HBL.out]; omega); have hsz6 : lo ≤ w6.heap.size := Nat.le_trans (HLO.out.2.2 _ _ _ HL4.out) hk46.size; have HV3 := Lib.hid hv3; clear hv3)
          | ((with_reducible refine gd_load 94 ?_); refine wl_load_agg rfl _ _ rfl b12 _ rfl _ _ _ HB6 (btA (q + 1) 1 bv4 1 l.length) (extract_all _) _ Try.underlying94 rfl (infoBt _ _ _ _ _) ?_)
          | (refine wl_sliceA1 rfl _ _ rfl 94 _ 5 56 Try.underlying90 info_bt (by decide) (by decide) (btA (q + 1) 1 bv4 1 l.length) rfl rfl ?_; intro bb w7 hbb HBB HK7)
          | (at_builtin; go_loud (refine wl_appendA rfl _ _ 90 rfl 94 _ 5 56 Try.underlying90 info_bt rfl (by decide) lo (.slice a10 q c10) (btRows B bvs) rfl (hv2.new HK7) bb (btA (q + 1) 1 bv4 1 l.length) rfl HBB rfl (btA_one o1) hm1' hm2' (Nat.le_trans hsz6 HK7.size) ?_); intro v' w8 hap; obtain ⟨va, vc, hv'⟩ := hap.1.shape; rw [List.length_append, hvl, HBL.out, List.length_singleton] at hv'; subst hv')
          | fail)
        have HREL : Hid (GapsRel w h jb lo (q + 1) (.slice va (q + 1) vc) w8) := by
          have hk47 := hk46.trans HK7
          have hL7 := HL4.out.more hk47
          have hob : ∀ i, (Value.slice a10 q c10).ownBlock = some i → lo ≤ i := fun i hi => (hv2.blk i hi).1
          have hL8 := hL7.own hap.2.1 (fun i hi => ⟨fun hs => absurd (HLO.out.1 i (.inl hs)) (Nat.not_lt.2 (hob i hi)), fun e => absurd (HLO.out.1 i (.inr e)) (Nat.not_lt.2 (hob i hi))⟩) (fun i hi hs => absurd (hob i hs) (Nat.not_le.2 (Nat.lt_of_lt_of_le hi HLO.out.2.1)))
          have hbs := isBts_app (t := ⟨q + 1, 1, b, 1, l.length⟩) hv1 (hv2.new HK7) (fun j t bv' ht hb => (HV3.out j t bv' ht hb).new HK7) (HBO.out.new hk47) hap
          exact Lib.hid ⟨L', _, _, HGJ4.out, hL8, hbs, by rw [List.length_append, HBL.out]; rfl⟩
        clear hap HBB HK7 HB5 HK5 HB6 HK6 hv1 hv2 HV3 HL4 HB4 HGJ4 HBO
        go_roundw
        case rel => exact ⟨q + 1, _, _, HQ.out, by go_num, rfl, HREL⟩
        case measure => have := HQ.out; simp [intOf]; omega
      · as_aux_lemma =>
        have hout : (decide (q < xs.length) = false) ∨ (decide (q < xs.length) = true ∧ decide ((q : Int) < 12) = false) := by
          simp only [decide_eq_false_iff_not, decide_eq_true_eq]
          omega
        have HQ := Lib.hid hq
        clear hlt
        rcases hout with h1 | ⟨h1, h2⟩
        all_goals
          go_wp2_with fail
          go_meet
          exact ⟨q, a10, c10, HQ.out, rfl, hrel⟩
  case rest =>
    clear HREL0 HC hl1 hl2 hli
    obtain ⟨wr, hwr⟩ : ∃ x, x = wc := ⟨wc, rfl⟩
    rw [← hwr] at hcut ⊢
    clear hwr
    obtain ⟨q, a10, c10, hq, rfl, hrel⟩ := hcut
    have hq0 : (0 : Int) ≤ q := by omega
    have hqi : (q : Int) ≤ 12 := by omega
    by_cases hz : q = 0
    · as_aux_lemma =>
      subst hz
      have HK : Hid (Keeps w wr (fun _ => False)) := by
        obtain ⟨L, J, B, _, hL, _⟩ := hrel.out
        exact Lib.hid hL.law.keeps
      go_wp2_with (first
        | (go_at_call 61; refine (awake8_calls _).mono ?_; rintro e w8 ⟨rfl, hk8⟩)
        | fail)
      go_ret
      exact ⟨rfl, HK.out.trans hk8⟩
    · as_aux_lemma =>
      have hzb : ((q : Int) == 0) = false := by rw [beq_eq_false_iff_ne]; omega
      have hq1 : (1 : Int) ≤ q := by omega
      obtain ⟨k, hkr, hk9⟩ : ∃ k : Nat, (b1 : Int) % (q : Int) = (k : Int) ∧ k < q := ⟨b1 % q, rfl, Nat.mod_lt _ (by omega)⟩
      obtain ⟨L, J, B, hgj, hL, hbts, hBl⟩ := hrel.out
      obtain ⟨x, hx⟩ : ∃ x, B[k]? = some x := ⟨_, List.getElem?_eq_getElem (by omega)⟩
      obtain ⟨gl, cl, bv, he, hglo, hglt, hrow, hbo⟩ := hbts.row hx
      rw [hBl] at he
      injection he with e1 e2 e3
      subst e1 e3
      clear e2
      obtain ⟨va, vc, rfl, hvc⟩ := isOwn.rd hbo
      rw [octs_len] at hrow hvc hbo
      have hn9 := needN_pos x.b.length
      obtain ⟨i, hir, hi9⟩ : ∃ i : Nat, (b2 : Int) % (needN x.b.length : Int) = (i : Int) ∧ i < needN x.b.length := ⟨b2 % needN x.b.length, rfl, Nat.mod_lt _ (by omega)⟩
      obtain ⟨l, rfl, hil, hok2, htl2, hus2⟩ := hgj.spoilt hx hi9
      have hwl := devJ_over (m := 3000) (fu := -1) (A := []) (B := []) (f := 1) hgj.live.ok hil Sec.zero (by decide)
      have hu := hgj.used
      have hlu : l.length ≤ 132 := by
        have := used_snoc [] 1 l
        simp only [List.nil_append] at this
        rw [this] at hu
        omega
      have hcap : q ≤ c10 := by
        obtain ⟨bvs, hbl, ⟨ad', cap', e, hc, _⟩, _⟩ := hbts.rd
        rw [btRows_len hbl] at e hc
        injection e with _ _ e3
        omega
      obtain ⟨nd, hnd⟩ : ∃ nd, nd = needN x.b.length := ⟨_, rfl⟩
      have hxl : x.b.length ≤ 1000000 := by
        have := (hgj.live.run.tells.ok x (List.mem_of_getElem? hx)).need
        unfold needN at this
        split at this <;> omega
      have HND := Lib.hid hnd
      rw [← hnd] at hir hi9 hn9
      obtain ⟨n, hn⟩ : ∃ n, n = x.b.length := ⟨_, rfl⟩
      have HN := Lib.hid hn
      rw [← hn] at hrow hvc hbo hxl
      obtain ⟨p, hp⟩ : ∃ p, p = x.pos := ⟨_, rfl⟩
      rw [← hp] at hrow hil hok2 htl2 hus2 hwl
      have HL := Lib.hid hL
      have HBTS := Lib.hid hbts
      have HBL := Lib.hid hBl
      have HOK2 := Lib.hid hok2
      have HT2 := Lib.hid htl2
      have hpil : p + i ≤ 132 := by omega
      have hpi : (p : Int) ≤ 132 := by omega
      have hp0 : (0 : Int) ≤ p := by omega
      have hii : (i : Int) ≤ 132 := by omega
      have hi0 : (0 : Int) ≤ i := by omega
      have hki : (k : Int) < q := by omega
      have hk0 : (0 : Int) ≤ k := by omega
      have hkc : k ≤ c10 := by omega
      have hci : (q : Int) ≤ c10 := by omega
      have hkci : (k : Int) ≤ c10 := by omega
      have hni : (n : Int) ≤ 1000000 := by omega
      have hndi : (1 : Int) ≤ nd := by omega
      have hwp : IntKind.i64.wrap ((p : Int) + (i : Int)) = (p : Int) + (i : Int) := i64_smallK _ (by omega) (by omega)
      have HWL : Hid ((devJ 3000 (-1) [(1, l)]).write (nmOf 1) ((p : Int) + (i : Int)) Sec.zero = (devJ 3000 (-1) [(1, l.modify (p + i) (·.write Sec.zero))], 0)) := by
        have e1 : nmOf 1 = jname 1 := nmOf_jname (by decide) (by decide)
        have e2 : ((p : Int) + (i : Int)) = ((p + i : Nat) : Int) := by omega
        rw [e1, e2]
        exact Lib.hid hwl
      have HU2 := Lib.hid (And.intro hus2 hu)
      have HS : (fun (w' : World) => w'.cell? ⟨gl, k * 5 + 4, none⟩ = some (.int .i64 p) ∧ w'.cell? ⟨gl, k * 5 + 2, none⟩ = some (.slice va n vc)) wr.drew := ⟨hrow 4 _ rfl, hrow 2 _ rfl⟩
      have HSF : Hid (∀ wx, Keeps wr wx (fun j => h.S j) → wx.cell? ⟨gl, k * 5 + 4, none⟩ = some (.int .i64 p) ∧ wx.cell? ⟨gl, k * 5 + 2, none⟩ = some (.slice va n vc)) := by
        have hgl : gl < wr.heap.size ∧ ¬ h.S gl := ⟨hglt, fun hs => absurd (HLO.out.1 gl (.inl hs)) (Nat.not_lt.2 hglo)⟩
        exact Lib.hid fun wx hk => ⟨(hk.cell (p := ⟨gl, k * 5 + 4, none⟩) hgl.1 hgl.2).trans (hrow 4 _ rfl), (hk.cell (p := ⟨gl, k * 5 + 2, none⟩) hgl.1 hgl.2).trans (hrow 2 _ rfl)⟩
      clear hgj hL hbts hBl hrel hx hrow hbo hok2 htl2 hus2 hwl hu hnd hn hp hil hlu hxl
      go_upto_region 18 with fail
      rw [hkr]
      have hnd0 : ¬ nd = 0 := by omega
      have hirt : (b2 : Int).tmod (nd : Int) = (i : Int) := by rw [Int.tmod_eq_emod_of_nonneg hb20, hir]
      have HNN : Hid (needN n = nd) := Lib.hid (by rw [HN.out, HND.out])
      refine wp_region_held_drew (S := (fun (w' : World) => w'.cell? ⟨gl, k * 5 + 4, none⟩ = some (.int .i64 p) ∧ w'.cell? ⟨gl, k * 5 + 2, none⟩ = some (.slice va n vc))) (by kernel_rfl) HS (fun _ => ?_)
      first
        | (refine rg_skip 0 rfl (by kernel_rfl) (by kernel_rfl) (by kernel_rfl) (fun _ _ _ h => h) HS ?_ ?_; rfl)
        | (refine rg_take 0 (v := ?_) rfl (by kernel_rfl) (by kernel_rfl) (by kernel_rfl) (fun _ _ _ h => h) HS ?_ ?_ ?_; rotate_left; rfl; focus (intro w hSw; (try dsimp only at hSw); go_simp; all_goals (with_reducible rfl)))
      simp only [Act.put, List.setIfInBounds_toArray, List.set_cons_succ, List.set_cons_zero]
      first
        | (refine rg_skip 2 rfl (by kernel_rfl) (by kernel_rfl) (by kernel_rfl) (fun _ _ _ h => h) HS ?_ ?_; rfl)
        | (refine rg_take 2 (v := ?_) rfl (by kernel_rfl) (by kernel_rfl) (by kernel_rfl) (fun _ _ _ h => h) HS ?_ ?_ ?_; rotate_left; rfl; focus (intro w hSw; (try dsimp only at hSw); go_simp; all_goals (with_reducible rfl)))
      simp only [Act.put, List.setIfInBounds_toArray, List.set_cons_succ, List.set_cons_zero]
      first
        | (refine rg_skip 3 rfl (by kernel_rfl) (by kernel_rfl) (by kernel_rfl) (fun _ _ _ h => h) HS ?_ ?_; rfl)
        | (refine rg_take 3 (v := ?_) rfl (by kernel_rfl) (by kernel_rfl) (by kernel_rfl) (fun _ _ _ h => h) HS ?_ ?_ ?_; rotate_left; rfl; focus (intro w hSw; (try dsimp only at hSw); go_simp; all_goals (with_reducible rfl)))
      simp only [Act.put, List.setIfInBounds_toArray, List.set_cons_succ, List.set_cons_zero]
      first
        | (refine rg_skip 4 rfl (by kernel_rfl) (by kernel_rfl) (by kernel_rfl) (fun _ _ _ h => h) HS ?_ ?_; rfl)
        | (refine rg_take 4 (v := ?_) rfl (by kernel_rfl) (by kernel_rfl) (by kernel_rfl) (fun _ _ _ h => h) HS ?_ ?_ ?_; rotate_left; rfl; focus (intro w hSw; (try dsimp only at hSw); go_simp; all_goals (with_reducible rfl)))
      simp only [Act.put, List.setIfInBounds_toArray, List.set_cons_succ, List.set_cons_zero]
      first
        | (refine rg_skip 5 rfl (by kernel_rfl) (by kernel_rfl) (by kernel_rfl) (fun _ _ _ h => h) HS ?_ ?_; rfl)
        | (refine rg_take 5 (v := ?_) rfl (by kernel_rfl) (by kernel_rfl) (by kernel_rfl) (fun _ _ _ h => h) HS ?_ ?_ ?_; rotate_left; rfl; focus (intro w hSw; (try dsimp only at hSw); go_simp; all_goals (with_reducible rfl)))
      simp only [Act.put, List.setIfInBounds_toArray, List.set_cons_succ, List.set_cons_zero]
      first
        | (refine rg_skip 6 rfl (by kernel_rfl) (by kernel_rfl) (by kernel_rfl) (fun _ _ _ h => h) HS ?_ ?_; rfl)
        | (refine rg_take 6 (v := ?_) rfl (by kernel_rfl) (by kernel_rfl) (by kernel_rfl) (fun _ _ _ h => h) HS ?_ ?_ ?_; rotate_left; rfl; focus (intro w hSw; (try dsimp only at hSw); go_simp; all_goals (with_reducible rfl)))
      simp only [Act.put, List.setIfInBounds_toArray, List.set_cons_succ, List.set_cons_zero]
      first
        | (refine rg_skip 7 rfl (by kernel_rfl) (by kernel_rfl) (by kernel_rfl) (fun _ _ _ h => h) HS ?_ ?_; rfl)
        | (refine rg_take 7 (v := ?_) rfl (by kernel_rfl) (by kernel_rfl) (by kernel_rfl) (fun _ _ _ h => h) HS ?_ ?_ ?_; rotate_left; rfl; focus (intro w hSw; (try dsimp only at hSw); go_simp; all_goals (with_reducible rfl)))
      simp only [Act.put, List.setIfInBounds_toArray, List.set_cons_succ, List.set_cons_zero]
      first
        | (refine rg_skip 8 rfl (by kernel_rfl) (by kernel_rfl) (by kernel_rfl) (fun _ _ _ h => h) HS ?_ ?_; rfl)
        | (refine rg_take 8 (v := ?_) rfl (by kernel_rfl) (by kernel_rfl) (by kernel_rfl) (fun _ _ _ h => h) HS ?_ ?_ ?_; rotate_left; rfl; focus (intro w hSw; (try dsimp only at hSw); go_simp; all_goals (with_reducible rfl)))
      simp only [Act.put, List.setIfInBounds_toArray, List.set_cons_succ, List.set_cons_zero]
      first
        | (refine rg_skip 9 rfl (by kernel_rfl) (by kernel_rfl) (by kernel_rfl) (fun _ _ _ h => h) HS ?_ ?_; rfl)
        | (refine rg_take 9 (v := ?_) rfl (by kernel_rfl) (by kernel_rfl) (by kernel_rfl) (fun _ _ _ h => h) HS ?_ ?_ ?_; rotate_left; rfl; focus (intro w hSw; (try dsimp only at hSw); go_simp; all_goals (with_reducible rfl)))
      simp only [Act.put, List.setIfInBounds_toArray, List.set_cons_succ, List.set_cons_zero]
      first
        | (refine rg_skip 10 rfl (by kernel_rfl) (by kernel_rfl) (by kernel_rfl) (fun _ _ _ h => h) HS ?_ ?_; rfl)
        | (refine rg_take 10 (v := ?_) rfl (by kernel_rfl) (by kernel_rfl) (by kernel_rfl) (fun _ _ _ h => h) HS ?_ ?_ ?_; rotate_left; rfl; focus (intro w hSw; (try dsimp only at hSw); go_simp; all_goals (with_reducible rfl)))
      simp only [Act.put, List.setIfInBounds_toArray, List.set_cons_succ, List.set_cons_zero]
      first
        | (refine rg_skip 11 rfl (by kernel_rfl) (by kernel_rfl) (by kernel_rfl) (fun _ _ _ h => h) HS ?_ ?_; rfl)
        | (refine rg_take 11 (v := ?_) rfl (by kernel_rfl) (by kernel_rfl) (by kernel_rfl) (fun _ _ _ h => h) HS ?_ ?_ ?_; rotate_left; rfl; focus (intro w hSw; (try dsimp only at hSw); go_simp; all_goals (with_reducible rfl)))
      simp only [Act.put, List.setIfInBounds_toArray, List.set_cons_succ, List.set_cons_zero]
      first
        | (refine rg_skip 12 rfl (by kernel_rfl) (by kernel_rfl) (by kernel_rfl) (fun _ _ _ h => h) HS ?_ ?_; rfl)
        | (refine rg_take 12 (v := ?_) rfl (by kernel_rfl) (by kernel_rfl) (by kernel_rfl) (fun _ _ _ h => h) HS ?_ ?_ ?_; rotate_left; rfl; focus (intro w hSw; (try dsimp only at hSw); go_simp; all_goals (with_reducible rfl)))
      simp only [Act.put, List.setIfInBounds_toArray, List.set_cons_succ, List.set_cons_zero]
      first
        | (refine rg_skip 13 rfl (by kernel_rfl) (by kernel_rfl) (by kernel_rfl) (fun _ _ _ h => h) HS ?_ ?_; rfl)
        | (refine rg_take 13 (v := ?_) rfl (by kernel_rfl) (by kernel_rfl) (by kernel_rfl) (fun _ _ _ h => h) HS ?_ ?_ ?_; rotate_left; rfl; focus (intro w hSw; (try dsimp only at hSw); go_simp; all_goals (with_reducible rfl)))
      simp only [Act.put, List.setIfInBounds_toArray, List.set_cons_succ, List.set_cons_zero]
      first
        | (refine rg_skip 14 rfl (by kernel_rfl) (by kernel_rfl) (by kernel_rfl) (fun _ _ _ h => h) HS ?_ ?_; rfl)
        | (refine rg_take 14 (v := ?_) rfl (by kernel_rfl) (by kernel_rfl) (by kernel_rfl) (fun _ _ _ h => h) HS ?_ ?_ ?_; rotate_left; rfl; focus (intro w hSw; (try dsimp only at hSw); go_simp; all_goals (with_reducible rfl)))
      simp only [Act.put, List.setIfInBounds_toArray, List.set_cons_succ, List.set_cons_zero]
      refine ya_take 18 rfl (by kernel_rfl) (by kernel_rfl) (by kernel_rfl) (fun _ _ _ h => h) HS (yi_build rfl _ [] rfl [] rfl (.agg (secA Sec.zero)) zeroBuild) ?_
      simp only [Act.put, List.setIfInBounds_toArray, List.set_cons_succ, List.set_cons_zero]
      refine rg_one 1 rfl (by kernel_rfl) (by rfl) ?_
      refine rg_call 62 _ _ rfl _ Try.func62 (by kernel_rfl) (by kernel_rfl) [.int .i64 1] rfl (name_calls _ 1) ?_
      rintro e w3 ⟨rfl, hk3⟩
      rw [show nameI 1 = nmOf 1 from rfl]
      have HK3 : Keeps wr w3 (fun _ => False) := ((Keeps.refl wr _).drew).trans hk3
      have hS3 := HSF.out _ (HK3.mono (fun _ _ h => h.elim))
      refine ⟨_, rfl, hS3, ?_⟩
      simp only [Act.put, List.setIfInBounds_toArray, List.set_cons_succ, List.set_cons_zero]
      refine rg_one 15 rfl (by kernel_rfl) (by rfl) ?_
      refine rg_call 63 _ _ rfl _ Try.func63 (by kernel_rfl) (by kernel_rfl) [.int .i64 n] rfl (need_calls w3 n (by omega)) ?_
      rintro e w4 ⟨rfl, hw4⟩
      subst hw4
      rw [HNN.out]
      refine ⟨_, rfl, hS3, ?_⟩
      simp only [Act.put, List.setIfInBounds_toArray, List.set_cons_succ, List.set_cons_zero]
      first
        | (refine rg_skip 16 rfl (by kernel_rfl) (by kernel_rfl) (by kernel_rfl) (fun _ _ _ h => h) hS3 ?_ ?_; rfl)
        | (refine rg_take 16 (v := ?_) rfl (by kernel_rfl) (by kernel_rfl) (by kernel_rfl) (fun _ _ _ h => h) hS3 ?_ ?_ ?_; rotate_left; rfl; focus (intro w hSw; (try dsimp only at hSw); go_simp; all_goals (with_reducible rfl)))
      simp only [Act.put, List.setIfInBounds_toArray, List.set_cons_succ, List.set_cons_zero]
      first
        | (refine rg_skip 17 rfl (by kernel_rfl) (by kernel_rfl) (by kernel_rfl) (fun _ _ _ h => h) hS3 ?_ ?_; rfl)
        | (refine rg_take 17 (v := ?_) rfl (by kernel_rfl) (by kernel_rfl) (by kernel_rfl) (fun _ _ _ h => h) hS3 ?_ ?_ ?_; rotate_left; rfl; focus (intro w hSw; (try dsimp only at hSw); go_simp; all_goals (with_reducible rfl)))
      simp only [Act.put, List.setIfInBounds_toArray, List.set_cons_succ, List.set_cons_zero]
      refine rg_one 19 rfl (by kernel_rfl) (by rfl) ?_
      have hwc := write_calls w3 h _ (nmOf 1) ((p : Int) + (i : Int)) Sec.zero (HL.out.law.dev.new HK3) (nmOf_ok _)
      rw [HWL.out] at hwc
      refine rg_call 23 _ _ rfl _ Try.func23 (by kernel_rfl) (by kernel_rfl) [.pointer (some ⟨h.p, 0, none⟩), .string (bs (nmOf 1)), .int .i64 ((p : Int) + (i : Int)), secV Sec.zero] rfl hwc ?_
      rintro e w5 ⟨rfl, hd5, hk5⟩
      dsimp only at hd5 ⊢
      have HK5 : Keeps wr w5 (fun j => h.S j) := (HK3.mono (fun _ _ h => h.elim)).trans hk5
      have hS5 := HSF.out _ HK5
      have HL5 : Hid (LawD w w5 h (devJ 3000 (-1) [(1, l.modify (p + i) (·.write Sec.zero))])) := Lib.hid ⟨hd5, HL.out.law.new, HL.out.law.keeps.then HK5 (fun j hj hs => absurd (HL.out.law.new j hs) (Nat.not_le.2 hj))⟩
      have HB5 : Hid (isBts w5 lo (.slice (some ⟨gl, 0, none⟩) q c10) B) := Lib.hid (HBTS.out.kept HK5 (fun g h1 _ hs => absurd (HLO.out.1 g (.inl hs)) (Nat.not_lt.2 h1)))
      refine ⟨_, rfl, hS5, ?_⟩
      simp only [Act.put, List.setIfInBounds_toArray, List.set_cons_succ, List.set_cons_zero]
      have HLW5 : Hid (lo ≤ w5.heap.size) := Lib.hid (Nat.le_trans (HLO.out.2.2 _ _ _ HL.out) HK5.size)
      clear hwc hd5 hk5 hS3 HS HL HBTS HK3
      first
        | (refine rg_skip 20 rfl (by kernel_rfl) (by kernel_rfl) (by kernel_rfl) (fun _ _ _ h => h) hS5 ?_ ?_; rfl)
        | (refine rg_take 20 (v := ?_) rfl (by kernel_rfl) (by kernel_rfl) (by kernel_rfl) (fun _ _ _ h => h) hS5 ?_ ?_ ?_; rotate_left; rfl; focus (intro w hSw; (try dsimp only at hSw); go_simp; all_goals (with_reducible rfl)))
      simp only [Act.put, List.setIfInBounds_toArray, List.set_cons_succ, List.set_cons_zero]
      first
        | (refine rg_skip 21 rfl (by kernel_rfl) (by kernel_rfl) (by kernel_rfl) (fun _ _ _ h => h) hS5 ?_ ?_; rfl)
        | (refine rg_take 21 (v := ?_) rfl (by kernel_rfl) (by kernel_rfl) (by kernel_rfl) (fun _ _ _ h => h) hS5 ?_ ?_ ?_; rotate_left; rfl; focus (intro w hSw; (try dsimp only at hSw); go_simp; all_goals (with_reducible rfl)))
      simp only [Act.put, List.setIfInBounds_toArray, List.set_cons_succ, List.set_cons_zero]
      first
        | (refine rg_skip 22 rfl (by kernel_rfl) (by kernel_rfl) (by kernel_rfl) (fun _ _ _ h => h) hS5 ?_ ?_; rfl)
        | (refine rg_take 22 (v := ?_) rfl (by kernel_rfl) (by kernel_rfl) (by kernel_rfl) (fun _ _ _ h => h) hS5 ?_ ?_ ?_; rotate_left; rfl; focus (intro w hSw; (try dsimp only at hSw); go_simp; all_goals (with_reducible rfl)))
      simp only [Act.put, List.setIfInBounds_toArray, List.set_cons_succ, List.set_cons_zero]
      first
        | (refine rg_skip 24 rfl (by kernel_rfl) (by kernel_rfl) (by kernel_rfl) (fun _ _ _ h => h) hS5 ?_ ?_; rfl)
        | (refine rg_take 24 (v := ?_) rfl (by kernel_rfl) (by kernel_rfl) (by kernel_rfl) (fun _ _ _ h => h) hS5 ?_ ?_ ?_; rotate_left; rfl; focus (intro w hSw; (try dsimp only at hSw); go_simp; all_goals (with_reducible rfl)))
      simp only [Act.put, List.setIfInBounds_toArray, List.set_cons_succ, List.set_cons_zero]
      first
        | (refine rg_skip 25 rfl (by kernel_rfl) (by kernel_rfl) (by kernel_rfl) (fun _ _ _ h => h) hS5 ?_ ?_; rfl)
        | (refine rg_take 25 (v := ?_) rfl (by kernel_rfl) (by kernel_rfl) (by kernel_rfl) (fun _ _ _ h => h) hS5 ?_ ?_ ?_; rotate_left; rfl; focus (intro w hSw; (try dsimp only at hSw); go_simp; all_goals (with_reducible rfl)))
      simp only [Act.put, List.setIfInBounds_toArray, List.set_cons_succ, List.set_cons_zero]
      first
        | (refine rg_skip 26 rfl (by kernel_rfl) (by kernel_rfl) (by kernel_rfl) (fun _ _ _ h => h) hS5 ?_ ?_; rfl)
        | (refine rg_take 26 (v := ?_) rfl (by kernel_rfl) (by kernel_rfl) (by kernel_rfl) (fun _ _ _ h => h) hS5 ?_ ?_ ?_; rotate_left; rfl; focus (intro w hSw; (try dsimp only at hSw); go_simp; all_goals (with_reducible rfl)))
      simp only [Act.put, List.setIfInBounds_toArray, List.set_cons_succ, List.set_cons_zero]
      refine rg_one 23 rfl (by kernel_rfl) (by rfl) ?_
      refine rg_call 65 _ _ rfl _ Try.func65 (by kernel_rfl) (by kernel_rfl) [.pointer (some ⟨h.p, 0, none⟩)] rfl (l8_scan HL5.out HOK2.out HT2.out HOK2.out.len) ?_
      rintro e w6 ⟨lv6, rfl, hsc, hk6⟩
      have HK6 : Keeps wr w6 (fun j => h.S j) := HK5.trans (hk6.mono (fun _ _ h => h.elim))
      have hS6 := HSF.out _ HK6
      have hpre : ∀ wx, Keeps w5 wx (fun _ => False) → isRdB wx (.slice (some ⟨gl, 0, none⟩) k c10) (B.take k) := fun wx hk => isRdB_take (HB5.out.new hk).rd (by rw [HBL.out]; omega)
      have HPRE := Lib.hid hpre
      refine ⟨_, rfl, hS6, ?_⟩
      simp only [Act.put, List.setIfInBounds_toArray, List.set_cons_succ, List.set_cons_zero]
      refine rg_one 27 rfl (by kernel_rfl) (by rfl) ?_
      have hsame := sameB_calls w6 _ _ _ _ hsc.rd (hpre w6 hk6) (by rw [List.length_take, HBL.out]; omega) (by rw [List.length_take, HBL.out]; omega)
      rw [decide_eq_true rfl] at hsame
      refine rg_call 64 _ _ rfl _ Try.func64 (by kernel_rfl) (by kernel_rfl) [lv6, .slice (some ⟨gl, 0, none⟩) k c10] rfl hsame ?_
      rintro e w7 ⟨rfl, hk7⟩
      have HK57 := hk6.trans hk7
      have hS7 := HSF.out _ (HK5.trans (HK57.mono (fun _ _ h => h.elim)))
      refine ⟨_, rfl, hS7, ?_⟩
      simp only [Act.put, List.setIfInBounds_toArray, List.set_cons_succ, List.set_cons_zero]
      first
        | (refine rg_skip 28 rfl (by kernel_rfl) (by kernel_rfl) (by kernel_rfl) (fun _ _ _ h => h) hS7 ?_ ?_; rfl)
        | (refine rg_take 28 (v := ?_) rfl (by kernel_rfl) (by kernel_rfl) (by kernel_rfl) (fun _ _ _ h => h) hS7 ?_ ?_ ?_; rotate_left; rfl; focus (intro w hSw; (try dsimp only at hSw); go_simp; all_goals (with_reducible rfl)))
      simp only [Act.put, List.setIfInBounds_toArray, List.set_cons_succ, List.set_cons_zero]
      first
        | (refine rg_skip 29 rfl (by kernel_rfl) (by kernel_rfl) (by kernel_rfl) (fun _ _ _ h => h) hS7 ?_ ?_; rfl)
        | (refine rg_take 29 (v := ?_) rfl (by kernel_rfl) (by kernel_rfl) (by kernel_rfl) (fun _ _ _ h => h) hS7 ?_ ?_ ?_; rotate_left; rfl; focus (intro w hSw; (try dsimp only at hSw); go_simp; all_goals (with_reducible rfl)))
      simp only [Act.put, List.setIfInBounds_toArray, List.set_cons_succ, List.set_cons_zero]
      refine wpAnyH_done (by kernel_rfl) ?_ _
      have HL7 := Lib.hid (HL5.out.more HK57)
      have HK7 := Lib.hid HK57
      clear hsame hsc hpre hk6 hk7 hS5 hS6 hS7 HL5 HK57 HK6 HK5 HSF
      go_wp2_with fail
      refine (l8_open HL7.out HOK2.out HT2.out HOK2.out.len).mono ?_
      rintro e w8 ⟨L3, J3, jb3, lv8, hv, hse, hus, hlj, hf0, hnx, rfl, hL8, hbt, hjb, hk8⟩
      have hnx2 : J3.next = 2 := by
        rcases hnx with ⟨h1, _⟩ | ⟨a, ha, h1⟩
        · cases h1
        · rw [List.mem_singleton.1 ha] at h1; exact h1
      have hB8 : isBts w8 lo (.slice (some ⟨gl, 0, none⟩) q c10) B := (HB5.out.new HK7.out).kept hk8 (fun g h1 _ hs => absurd (HLO.out.1 g (.inl hs)) (Nat.not_lt.2 h1))
      have HB8 := Lib.hid hB8
      have HL8 := Lib.hid hL8
      have HLJ := Lib.hid (And.intro hlj (And.intro hf0 (And.intro hnx2 hus)))
      have hsame2 := sameB_calls w8 _ _ _ _ hbt.rd (isRdB_take (k := k) hB8.rd (by rw [HBL.out]; omega)) (by rw [List.length_take, HBL.out]; omega) (by rw [List.length_take, HBL.out]; omega)
      rw [decide_eq_true rfl] at hsame2
      have HSAME := Lib.hid hsame2
      have HLO8 : Hid (∀ j, h.S j ∨ j = jb3 → j < w8.heap.size) := Lib.hid fun j hj => hj.elim (fun hs => hL8.law.lt hs) (fun e => by rw [e]; exact hL8.jlt)
      have HJB := Lib.hid hjb
      have HK8 := Lib.hid hk8
      clear hv hse hus hlj hf0 hnx hL8 hbt hjb hk8 hB8 hsame2 hnx2 HB8
      go_wp2_with fail
      refine HSAME.out.mono ?_
      rintro e w9 ⟨rfl, hk9⟩
      have HL9 := Lib.hid (HL8.out.more hk9)
      have HK9 := Lib.hid hk9
      clear hk9 HSAME HL8
      have kc := fun (w : World) (C : Array Value) (n c : Nat) => Go.Lib.run_convert_bytes_const (P := Try.prog) w 63 5 C n c Try.underlying63 Try.underlying5
      go_wp2_with fail
      obtain ⟨w10, hw10⟩ : ∃ w10, w10 = w9.alloc (.cells #[.int .u8 109, .int .u8 111, .int .u8 114, .int .u8 101] 5 (4, 5)) := ⟨_, rfl⟩
      have harg : isArgB w10 (.slice (some ⟨w9.heap.size, 0, none⟩) 4 4) more8 := by rw [hw10]; exact arg_const w9 more8 (4, 5)
      have hk10 : Keeps w9 w10 (fun _ => False) := by rw [hw10]; exact (Keeps.refl w9 _).alloc _
      have hL10 := HL9.out.more hk10
      rw [← hw10]
      have HS10 : Hid (∀ g, (Value.slice (some ⟨w9.heap.size, 0, none⟩) 4 4).ownBlock = some g → ¬ h.S g ∧ g ≠ jb3) := Lib.hid fun g hg => by
        simp only [Value.ownBlock, Option.some.injEq] at hg
        have := HK9.out.size
        exact ⟨fun hs => by have := HLO8.out g (.inl hs); omega, fun e => by have := HLO8.out g (.inr e); omega⟩
      have HK10 := Lib.hid (HK9.out.trans hk10)
      generalize w9.heap.size = bb at harg HS10 ⊢
      clear hw10 kc hk10 HL9 HK9
      refine (l8_append (kind := 1) (n := k) hL10 HLJ.out.1 (by have := HLJ.out.2.2.1; omega) (by have := HLJ.out.2.1; omega) ⟨by decide, by decide, by decide, by omega⟩ (by have h1 := HLJ.out.2.2.2; have h2 := HU2.out; show used (fsJ L3) + 1 ≤ 3000; omega) (by decide) harg HS10.out).mono ?_
      rintro e w11 ⟨L0, f, l9, nx, L4, bv4, hsp, hdn, rfl, hL11, hbo, hk11⟩
      have hf2 : f = 2 ∧ l9 = [] := by
        rcases hsp with ⟨_, _, h1, h2, _⟩ | ⟨h1, _⟩
        · exact ⟨by rw [h1]; exact HLJ.out.2.2.1, h2⟩
        · exact absurd HLJ.out.2.1 h1
      obtain ⟨rfl, rfl⟩ := hf2
      have HDN := Lib.hid hdn
      have HTD : Hid (Tells (viewJ L4) (k + 1) (B.take k ++ [⟨k + 1, 1, more8, 2, 0⟩])) := Lib.hid hdn.told
      have HL11 := Lib.hid hL11
      have HK711 : Hid (Keeps w7 w11 (fun j => h.S j)) := Lib.hid (((HK8.out.trans (HK10.out.mono (fun _ _ hh => hh.elim))).then hk11 (fun j hj hs => hs.elim id (fun e => absurd HJB.out (by rw [← show j = jb3 from e]; exact Nat.not_le.2 hj)))))
      have HBO := Lib.hid hbo
      have o1 := own_one1 hbo
      obtain ⟨ma, mc, rfl, _⟩ := isOwn.rd hbo
      have HW10 : Hid (lo ≤ w10.heap.size) := Lib.hid (Nat.le_trans (Nat.le_trans HLW5.out HK7.out.size) (Nat.le_trans HK8.out.size HK10.out.size))
      clear hsp hdn hL11 hbo hk11 harg hL10 HS10 HK10 HLJ HJB HK8
      go_upto_region 24 with (first
        | ((with_reducible refine gd_alloc 94 ?_); refine wl_alloc_agg rfl _ rfl _ zeroBt ?_; intro bt w12 hb12 HB12 HK12)
        | ((with_reducible refine gd_store 94 ?_); refine wl_store_agg rfl _ _ _ rfl bt _ rfl _ _ HB12 (btA (k + 1) 1 (.slice ma 4 mc) 2 0) rfl (btA (k + 1) 1 (.slice ma 4 mc) 2 0) (store_bt _ _ _ _ _ _ _ _ _ _) (le_bt _ _ _ _ _ _ _ _ _ _) (infoBt _ _ _ _ _) (btA_one o1) ?_; intro wm HBt HK13)
        | fail)
      have hk1113 : Keeps w11 wm (fun _ => False) := HK12.then HK13 (fun j hj e => absurd hb12 (by rw [← show j = bt from e]; exact Nat.not_le.2 hj))
      have HLM := Lib.hid (HL11.out.more hk1113)
      have HLW : Hid (lo ≤ wm.heap.size) := Lib.hid (Nat.le_trans (Nat.le_trans (Nat.le_trans HLW5.out HK7.out.size) HK711.out.size) hk1113.size)
      have HBOM := Lib.hid ((HBO.out.low HW10.out).new hk1113)
      obtain ⟨bvs, hv1, hv2, hv3⟩ := ((HB5.out.new HK7.out).kept HK711.out (fun g h1 _ hs => absurd (HLO.out.1 g (.inl hs)) (Nat.not_lt.2 h1))).new hk1113
      have hvl := btRows_len hv1
      have HKN : Hid (k ≤ 12) := Lib.hid (by omega)
      have hkl : k ≤ (btRows B bvs).length := by rw [hvl, HBL.out]; omega
      have HRL : Hid (((btRows B bvs).take k).length = k) := Lib.hid (by rw [List.length_take]; omega)
      have HRS : Hid (∀ r ∈ btRows B bvs, r.size = 5) := Lib.hid hv2.1
      have HR1 := Lib.hid (btRows_one hv3)
      have HLN : Hid ((B.take k ++ [(⟨k + 1, 1, more8, 2, 0⟩ : Bt)]).length = k + 1) := Lib.hid (by rw [List.length_append, List.length_take, HBL.out, List.length_singleton]; omega)
      have hv2s := hv2
      have HRC : Hid (∀ wX, Keeps wm wX (fun _ => False) → ∀ (j : Nat) r, ((btRows B bvs).take k)[j]? = some r → wX.rangeAt gl (0 + j * 5) r.toList) := Lib.hid fun wX hk j r hj => by
        have hjk : j < k := by have := (List.getElem?_eq_some_iff.1 hj).1; rw [List.length_take] at this; omega
        rw [List.getElem?_take_of_lt hjk] at hj
        obtain ⟨g', c', e, _, _, _, h5⟩ := hv2.at hj
        injection e with e1 _ _
        injection e1 with e1
        injection e1 with e1
        rw [Nat.zero_add, e1]
        exact Keeps.rangeK hk h5
      have HBA : Hid (∀ v22 v25 wc w25, Keeps wm wc (fun _ => False) → isOwnA wc lo 94 5 v22 ((btRows B bvs).take k) → AppendedA wc lo 94 5 v22 ((btRows B bvs).take k ++ [btA (k + 1) 1 (.slice ma 4 mc) 2 0]) v25 w25 → isBts w25 lo v25 (B.take k ++ [⟨k + 1, 1, more8, 2, 0⟩])) := Lib.hid fun v22 v25 wc w25 hk hA hap => by
        have hr : btRows (B.take k) (bvs.take k) = (btRows B bvs).take k := by unfold btRows; rw [List.take_zipWith]
        refine isBts_app (t := ⟨k + 1, 1, more8, 2, 0⟩) (bvs := bvs.take k) (by simp [hv1]) (by rw [hr]; exact hA) (fun j t bv' ht hb => ?_) (HBOM.out.new hk) (by rw [hr]; exact hap)
        have hjk : j < k := by have := (List.getElem?_eq_some_iff.1 ht).1; rw [List.length_take] at this; omega
        rw [List.getElem?_take_of_lt hjk] at ht hb
        exact (hv3 j t bv' ht hb).new hk
      have HSF : Hid (∀ wX, Keeps wm wX (fun _ => False) → wX.cell? ⟨bt, 0, none⟩ = some (.int .u64 ((k : Int) + 1)) ∧ wX.cell? ⟨bt, 3, none⟩ = some (.int .i64 2) ∧ wX.heap[bt]? = some (.cells (btA (k + 1) 1 (.slice ma 4 mc) 2 0) 94 (0, 0))) := Lib.hid fun wX hk => by
        have hb := hk.blk HBt id
        exact ⟨by rw [cell_of_block hb]; rfl, by rw [cell_of_block hb]; rfl, hb⟩
      have HS : (fun (w' : World) => w'.cell? ⟨bt, 0, none⟩ = some (.int .u64 ((k : Int) + 1)) ∧ w'.cell? ⟨bt, 3, none⟩ = some (.int .i64 2) ∧ w'.heap[bt]? = some (.cells (btA (k + 1) 1 (.slice ma 4 mc) 2 0) 94 (0, 0))) wm.drew := HSF.out _ (Keeps.refl wm _).drew
      have hwk1 : IntKind.i64.wrap ((k : Int) + 1) = (k : Int) + 1 := i64_smallK _ (by omega) (by omega)
      have hwk2 : IntKind.u64.wrap ((k : Int) + 1) = (k : Int) + 1 := by rw [wrap_u64]; omega
      clear hv1 hv2 hv3 hv2s hvl hkl HB5 HK7 HK711 hk1113 HBO HW10 HLW5 HB12 HK12 HK13 hb12 HBt HL11 HBOM HOK2 HT2 HWL HU2 HL7
      refine wp_region_held_drew (S := (fun (w' : World) => w'.cell? ⟨bt, 0, none⟩ = some (.int .u64 ((k : Int) + 1)) ∧ w'.cell? ⟨bt, 3, none⟩ = some (.int .i64 2) ∧ w'.heap[bt]? = some (.cells (btA (k + 1) 1 (.slice ma 4 mc) 2 0) 94 (0, 0)))) (by kernel_rfl) HS (fun _ => ?_)
      have HKm : Keeps wm wm.drew (fun _ => False) := (Keeps.refl wm _).drew
      have HSm := HS
      first
        | (refine rg_skip 0 rfl (by kernel_rfl) (by kernel_rfl) (by kernel_rfl) (fun _ _ _ h => h) HS ?_ ?_; rfl)
        | (refine rg_take 0 (v := ?_) rfl (by kernel_rfl) (by kernel_rfl) (by kernel_rfl) (fun _ _ _ h => h) HS ?_ ?_ ?_; rotate_left; rfl; focus (intro w hSw; (try dsimp only at hSw); go_simp; all_goals (with_reducible rfl)))
      simp only [Act.put, List.setIfInBounds_toArray, List.set_cons_succ, List.set_cons_zero]
      first
        | (refine rg_skip 1 rfl (by kernel_rfl) (by kernel_rfl) (by kernel_rfl) (fun _ _ _ h => h) HS ?_ ?_; rfl)
        | (refine rg_take 1 (v := ?_) rfl (by kernel_rfl) (by kernel_rfl) (by kernel_rfl) (fun _ _ _ h => h) HS ?_ ?_ ?_; rotate_left; rfl; focus (intro w hSw; (try dsimp only at hSw); go_simp; all_goals (with_reducible rfl)))
      simp only [Act.put, List.setIfInBounds_toArray, List.set_cons_succ, List.set_cons_zero]
      first
        | (refine rg_skip 2 rfl (by kernel_rfl) (by kernel_rfl) (by kernel_rfl) (fun _ _ _ h => h) HS ?_ ?_; rfl)
        | (refine rg_take 2 (v := ?_) rfl (by kernel_rfl) (by kernel_rfl) (by kernel_rfl) (fun _ _ _ h => h) HS ?_ ?_ ?_; rotate_left; rfl; focus (intro w hSw; (try dsimp only at hSw); go_simp; all_goals (with_reducible rfl)))
      simp only [Act.put, List.setIfInBounds_toArray, List.set_cons_succ, List.set_cons_zero]
      first
        | (refine rg_skip 3 rfl (by kernel_rfl) (by kernel_rfl) (by kernel_rfl) (fun _ _ _ h => h) HS ?_ ?_; rfl)
        | (refine rg_take 3 (v := ?_) rfl (by kernel_rfl) (by kernel_rfl) (by kernel_rfl) (fun _ _ _ h => h) HS ?_ ?_ ?_; rotate_left; rfl; focus (intro w hSw; (try dsimp only at hSw); go_simp; all_goals (with_reducible rfl)))
      simp only [Act.put, List.setIfInBounds_toArray, List.set_cons_succ, List.set_cons_zero]
      first
        | (refine rg_skip 4 rfl (by kernel_rfl) (by kernel_rfl) (by kernel_rfl) (fun _ _ _ h => h) HS ?_ ?_; rfl)
        | (refine rg_take 4 (v := ?_) rfl (by kernel_rfl) (by kernel_rfl) (by kernel_rfl) (fun _ _ _ h => h) HS ?_ ?_ ?_; rotate_left; rfl; focus (intro w hSw; (try dsimp only at hSw); go_simp; all_goals (with_reducible rfl)))
      simp only [Act.put, List.setIfInBounds_toArray, List.set_cons_succ, List.set_cons_zero]
      first
        | (refine rg_skip 5 rfl (by kernel_rfl) (by kernel_rfl) (by kernel_rfl) (fun _ _ _ h => h) HS ?_ ?_; rfl)
        | (refine rg_take 5 (v := ?_) rfl (by kernel_rfl) (by kernel_rfl) (by kernel_rfl) (fun _ _ _ h => h) HS ?_ ?_ ?_; rotate_left; rfl; focus (intro w hSw; (try dsimp only at hSw); go_simp; all_goals (with_reducible rfl)))
      simp only [Act.put, List.setIfInBounds_toArray, List.set_cons_succ, List.set_cons_zero]
      first
        | (refine rg_skip 6 rfl (by kernel_rfl) (by kernel_rfl) (by kernel_rfl) (fun _ _ _ h => h) HS ?_ ?_; rfl)
        | (refine rg_take 6 (v := ?_) rfl (by kernel_rfl) (by kernel_rfl) (by kernel_rfl) (fun _ _ _ h => h) HS ?_ ?_ ?_; rotate_left; rfl; focus (intro w hSw; (try dsimp only at hSw); go_simp; all_goals (with_reducible rfl)))
      simp only [Act.put, List.setIfInBounds_toArray, List.set_cons_succ, List.set_cons_zero]
      first
        | (refine rg_skip 7 rfl (by kernel_rfl) (by kernel_rfl) (by kernel_rfl) (fun _ _ _ h => h) HS ?_ ?_; rfl)
        | (refine rg_take 7 (v := ?_) rfl (by kernel_rfl) (by kernel_rfl) (by kernel_rfl) (fun _ _ _ h => h) HS ?_ ?_ ?_; rotate_left; rfl; focus (intro w hSw; (try dsimp only at hSw); go_simp; all_goals (with_reducible rfl)))
      simp only [Act.put, List.setIfInBounds_toArray, List.set_cons_succ, List.set_cons_zero]
      first
        | (refine rg_skip 8 rfl (by kernel_rfl) (by kernel_rfl) (by kernel_rfl) (fun _ _ _ h => h) HS ?_ ?_; rfl)
        | (refine rg_take 8 (v := ?_) rfl (by kernel_rfl) (by kernel_rfl) (by kernel_rfl) (fun _ _ _ h => h) HS ?_ ?_ ?_; rotate_left; rfl; focus (intro w hSw; (try dsimp only at hSw); go_simp; all_goals (with_reducible rfl)))
      simp only [Act.put, List.setIfInBounds_toArray, List.set_cons_succ, List.set_cons_zero]
      first
        | (refine rg_skip 9 rfl (by kernel_rfl) (by kernel_rfl) (by kernel_rfl) (fun _ _ _ h => h) HS ?_ ?_; rfl)
        | (refine rg_take 9 (v := ?_) rfl (by kernel_rfl) (by kernel_rfl) (by kernel_rfl) (fun _ _ _ h => h) HS ?_ ?_ ?_; rotate_left; rfl; focus (intro w hSw; (try dsimp only at hSw); go_simp; all_goals (with_reducible rfl)))
      simp only [Act.put, List.setIfInBounds_toArray, List.set_cons_succ, List.set_cons_zero]
      first
        | (refine rg_skip 10 rfl (by kernel_rfl) (by kernel_rfl) (by kernel_rfl) (fun _ _ _ h => h) HS ?_ ?_; rfl)
        | (refine rg_take 10 (v := ?_) rfl (by kernel_rfl) (by kernel_rfl) (by kernel_rfl) (fun _ _ _ h => h) HS ?_ ?_ ?_; rotate_left; rfl; focus (intro w hSw; (try dsimp only at hSw); go_simp; all_goals (with_reducible rfl)))
      simp only [Act.put, List.setIfInBounds_toArray, List.set_cons_succ, List.set_cons_zero]
      first
        | (refine rg_skip 11 rfl (by kernel_rfl) (by kernel_rfl) (by kernel_rfl) (fun _ _ _ h => h) HS ?_ ?_; rfl)
        | (refine rg_take 11 (v := ?_) rfl (by kernel_rfl) (by kernel_rfl) (by kernel_rfl) (fun _ _ _ h => h) HS ?_ ?_ ?_; rotate_left; rfl; focus (intro w hSw; (try dsimp only at hSw); go_simp; all_goals (with_reducible rfl)))
      simp only [Act.put, List.setIfInBounds_toArray, List.set_cons_succ, List.set_cons_zero]
      first
        | (refine rg_skip 12 rfl (by kernel_rfl) (by kernel_rfl) (by kernel_rfl) (fun _ _ _ h => h) HS ?_ ?_; rfl)
        | (refine rg_take 12 (v := ?_) rfl (by kernel_rfl) (by kernel_rfl) (by kernel_rfl) (fun _ _ _ h => h) HS ?_ ?_ ?_; rotate_left; rfl; focus (intro w hSw; (try dsimp only at hSw); go_simp; all_goals (with_reducible rfl)))
      simp only [Act.put, List.setIfInBounds_toArray, List.set_cons_succ, List.set_cons_zero]
      first
        | (refine rg_skip 13 rfl (by kernel_rfl) (by kernel_rfl) (by kernel_rfl) (fun _ _ _ h => h) HS ?_ ?_; rfl)
        | (refine rg_take 13 (v := ?_) rfl (by kernel_rfl) (by kernel_rfl) (by kernel_rfl) (fun _ _ _ h => h) HS ?_ ?_ ?_; rotate_left; rfl; focus (intro w hSw; (try dsimp only at hSw); go_simp; all_goals (with_reducible rfl)))
      simp only [Act.put, List.setIfInBounds_toArray, List.set_cons_succ, List.set_cons_zero]
      first
        | (refine rg_skip 14 rfl (by kernel_rfl) (by kernel_rfl) (by kernel_rfl) (fun _ _ _ h => h) HS ?_ ?_; rfl)
        | (refine rg_take 14 (v := ?_) rfl (by kernel_rfl) (by kernel_rfl) (by kernel_rfl) (fun _ _ _ h => h) HS ?_ ?_ ?_; rotate_left; rfl; focus (intro w hSw; (try dsimp only at hSw); go_simp; all_goals (with_reducible rfl)))
      simp only [Act.put, List.setIfInBounds_toArray, List.set_cons_succ, List.set_cons_zero]
      first
        | (refine rg_skip 15 rfl (by kernel_rfl) (by kernel_rfl) (by kernel_rfl) (fun _ _ _ h => h) HS ?_ ?_; rfl)
        | (refine rg_take 15 (v := ?_) rfl (by kernel_rfl) (by kernel_rfl) (by kernel_rfl) (fun _ _ _ h => h) HS ?_ ?_ ?_; rotate_left; rfl; focus (intro w hSw; (try dsimp only at hSw); go_simp; all_goals (with_reducible rfl)))
      simp only [Act.put, List.setIfInBounds_toArray, List.set_cons_succ, List.set_cons_zero]
      first
        | (refine rg_skip 16 rfl (by kernel_rfl) (by kernel_rfl) (by kernel_rfl) (fun _ _ _ h => h) HS ?_ ?_; rfl)
        | (refine rg_take 16 (v := ?_) rfl (by kernel_rfl) (by kernel_rfl) (by kernel_rfl) (fun _ _ _ h => h) HS ?_ ?_ ?_; rotate_left; rfl; focus (intro w hSw; (try dsimp only at hSw); go_simp; all_goals (with_reducible rfl)))
      simp only [Act.put, List.setIfInBounds_toArray, List.set_cons_succ, List.set_cons_zero]
      first
        | (refine rg_skip 19 rfl (by kernel_rfl) (by kernel_rfl) (by kernel_rfl) (fun _ _ _ h => h) HS ?_ ?_; rfl)
        | (refine rg_take 19 (v := ?_) rfl (by kernel_rfl) (by kernel_rfl) (by kernel_rfl) (fun _ _ _ h => h) HS ?_ ?_ ?_; rotate_left; rfl; focus (intro w hSw; (try dsimp only at hSw); go_simp; all_goals (with_reducible rfl)))
      simp only [Act.put, List.setIfInBounds_toArray, List.set_cons_succ, List.set_cons_zero]
      first
        | (refine rg_skip 20 rfl (by kernel_rfl) (by kernel_rfl) (by kernel_rfl) (fun _ _ _ h => h) HS ?_ ?_; rfl)
        | (refine rg_take 20 (v := ?_) rfl (by kernel_rfl) (by kernel_rfl) (by kernel_rfl) (fun _ _ _ h => h) HS ?_ ?_ ?_; rotate_left; rfl; focus (intro w hSw; (try dsimp only at hSw); go_simp; all_goals (with_reducible rfl)))
      simp only [Act.put, List.setIfInBounds_toArray, List.set_cons_succ, List.set_cons_zero]
      first
        | (refine rg_skip 21 rfl (by kernel_rfl) (by kernel_rfl) (by kernel_rfl) (fun _ _ _ h => h) HS ?_ ?_; rfl)
        | (refine rg_take 21 (v := ?_) rfl (by kernel_rfl) (by kernel_rfl) (by kernel_rfl) (fun _ _ _ h => h) HS ?_ ?_ ?_; rotate_left; rfl; focus (intro w hSw; (try dsimp only at hSw); go_simp; all_goals (with_reducible rfl)))
      simp only [Act.put, List.setIfInBounds_toArray, List.set_cons_succ, List.set_cons_zero]
      refine rg_load 23 rfl (by kernel_rfl) (by kernel_rfl) (by kernel_rfl) (btA (k + 1) 1 (.slice ma 4 mc) 2 0) (fun _ _ _ h => h) HS (by kernel_rfl) bt 0 rfl (fun w' hS => range_of_block hS.2.2) _ Try.underlying94 rfl (infoBt _ _ _ _ _) ?_
      simp only [Act.put, List.setIfInBounds_toArray, List.set_cons_succ, List.set_cons_zero]
      refine rl_three 17 18 24 rfl rfl rfl (by kernel_rfl) ?_ ?_ ?_
      · as_aux_lemma =>
        refine rl_call 65 _ _ (by rfl) _ Try.func65 (by kernel_rfl) (by kernel_rfl) [.pointer (some ⟨h.p, 0, none⟩)] rfl (l8_scan (HLM.out.more HKm).law HDN.out.live.ok HTD.out HDN.out.live.ok.len) ?_
        rintro e w17 ⟨lv, rfl, hsc, hk17⟩
        obtain ⟨la, lc, rfl⟩ := hsc.shape
        rw [HLN.out] at hsc ⊢
        have HK17 := HKm.trans hk17
        refine ⟨_, rfl, HSF.out _ HK17, ?_⟩
        simp only [Act.put, List.setIfInBounds_toArray, List.set_cons_succ, List.set_cons_zero]
        refine rl_two 18 24 rfl rfl (by kernel_rfl) ?_ ?_
        · as_aux_lemma =>
          refine (gd_buildSliceW 90 ?_)
          refine wl_unguard (by rfl) ?_
          refine wl_sliceA0 rfl _ rfl 94 _ 5 56 Try.underlying90 info_bt ?_
          intro b18 w18 hb18 HE18 hk18
          refine till_nil ?_
          have HK18 := HK17.trans hk18
          have hbm18 : wm.heap.size ≤ b18 := Nat.le_trans HK17.size hb18
          have hk17c : Keeps w17 w17 (fun _ => False) := Keeps.refl _ _
          have h17b : w17.heap.size ≤ b18 := Nat.le_trans hk17c.size hb18
          have HSC : Hid (∀ wX, Keeps w18 wX (fun i => i = b18) → isRdB wX (.slice la (k + 1) lc) (B.take k ++ [⟨k + 1, 1, more8, 2, 0⟩])) := Lib.hid fun wX hk => (hsc.new ((hk17c.trans hk18).then hk (fun i hi e => absurd h17b (by rw [← show i = b18 from e]; exact Nat.not_le.2 hi)))).rd
          have HKB18 : Keeps w18 w18 (fun i => i = b18) := Keeps.refl _ _
          refine ⟨HSF.out _ HK18, ?_⟩
          simp only [Act.put, List.setIfInBounds_toArray, List.set_cons_succ, List.set_cons_zero]
          refine rl_two 22 24 rfl rfl (by kernel_rfl) ?_ ?_
          · as_aux_lemma =>
            refine wl_unguard (by rfl) ?_
            refine wl_appendAs rfl _ _ 90 rfl 94 _ 5 56 Try.underlying90 info_bt rfl (by decide) lo (.slice (some ⟨b18, 0, none⟩) 0 0) [] rfl (isOwnA_empty HE18 (Nat.le_trans HLW.out hbm18)) gl 0 k c10 ((btRows B bvs).take k) rfl HRL.out (fun r hr => HRS.out r (List.mem_of_mem_take hr)) (HRC.out _ HK18) (fun r hr => HR1.out r (List.mem_of_mem_take hr)) (by have := HKN.out; show 0 + k ≤ maxLen; unfold maxLen; omega) (by have := HKN.out; show (0 + k) * 56 ≤ _; omega) (Nat.le_trans HLW.out HK18.size) ?_
            intro v22 w22 hap22
            have hA22 := hap22.1
            obtain ⟨va22, vc22, hv22⟩ := hA22.shape
            rw [List.nil_append, HRL.out] at hv22
            subst hv22
            refine till_nil ?_
            rw [List.nil_append] at hA22
            have hS22 : ∀ i, (Value.slice (some ⟨b18, 0, none⟩) 0 0).ownBlock = some i → i = b18 := fun i hi => by simp only [Value.ownBlock, Option.some.injEq] at hi; exact hi.symm
            have HK22 : Keeps wm w22 (fun _ => False) := HK18.then hap22.2.1 (fun i hi hs => absurd hbm18 (by rw [← hS22 i hs]; exact Nat.not_le.2 hi))
            have HKB22 : Keeps w18 w22 (fun i => i = b18) := HKB18.trans (hap22.2.1.mono (fun i _ hs => hS22 i hs))
            have hat22 : (Value.slice va22 k vc22).ownBlock = some b18 ∨ ∃ z, (Value.slice va22 k vc22).ownBlock = some z ∧ w18.heap.size ≤ z ∧ z < w22.heap.size := hap22.2.2.imp id (fun h1 => ⟨_, h1, HKB18.size, (hA22.blk _ h1).2⟩)
            have HE22 : w22.heap.size > b18 := Nat.lt_of_lt_of_le (lt_of_blk HE18) hap22.2.1.size
            refine ⟨HSF.out _ HK22, ?_⟩
            simp only [Act.put, List.setIfInBounds_toArray, List.set_cons_succ, List.set_cons_zero]
            refine rl_one 24 rfl (by kernel_rfl) ?_
            refine (gd_buildSliceW 90 ?_)
            refine wl_unguard (by rfl) ?_
            refine wl_sliceA1 rfl _ _ rfl 94 _ 5 56 Try.underlying90 info_bt (by decide) (by decide) (btA (k + 1) 1 (.slice ma 4 mc) 2 0) rfl rfl ?_
            intro b24 w24 hb24 HO24 hk24
            refine till_nil ?_
            have HK24 := HK22.trans hk24
            have hne24 : b24 ≠ b18 := (Nat.ne_of_lt (Nat.lt_of_lt_of_le HE22 hb24)).symm
            have HKB24 : Keeps w18 w24 (fun i => i = b18) := HKB22.trans (hk24.mono (fun _ _ hh => hh.elim))
            have hA24 := hA22.new hk24
            have hat24 : (Value.slice va22 k vc22).ownBlock = some b18 ∨ ∃ z, (Value.slice va22 k vc22).ownBlock = some z ∧ w18.heap.size ≤ z ∧ z ≠ b24 := hat22.imp id (fun ⟨z, h1, h2, h3⟩ => ⟨z, h1, h2, Nat.ne_of_lt (Nat.lt_of_lt_of_le h3 hb24)⟩)
            refine ⟨HSF.out _ HK24, ?_⟩
            simp only [Act.put, List.setIfInBounds_toArray, List.set_cons_succ, List.set_cons_zero]
            refine rl_one 25 rfl (by kernel_rfl) ?_
            refine wl_unguard (by rfl) ?_
            have hrl : ((btRows B bvs).take k).length + 1 = k + 1 := by rw [HRL.out]
            refine wl_appendA rfl _ _ 90 rfl 94 _ 5 56 Try.underlying90 info_bt rfl (by decide) lo (.slice va22 k vc22) ((btRows B bvs).take k) rfl hA24 b24 (btA (k + 1) 1 (.slice ma 4 mc) 2 0) rfl HO24 rfl (btA_one rfl) (by rw [hrl]; have := HKN.out; unfold maxLen; omega) (by rw [hrl]; have := HKN.out; omega) (Nat.le_trans HLW.out HK24.size) ?_
            intro v25 w25 hap25
            obtain ⟨va25, vc25, hv25⟩ := hap25.1.shape
            rw [List.length_append, HRL.out, List.length_singleton] at hv25
            subst hv25
            refine till_nil ?_
            have hbts := HBA.out _ _ _ _ HK24 hA24 hap25
            have hwb : wm.heap.size ≤ w18.heap.size := HK18.size
            have HKB25 : Keeps w18 w25 (fun i => i = b18) := HKB24.then hap25.2.1 (fun i hi hs => hat24.elim (fun h1 => by rw [h1] at hs; simp only [Option.some.injEq] at hs; exact hs.symm) (fun ⟨z, h1, h2, _⟩ => by rw [h1] at hs; simp only [Option.some.injEq] at hs; omega))
            have HK25 : Keeps wm w25 (fun _ => False) := HK24.then hap25.2.1 (fun i hi hs => hat24.elim (fun h1 => by rw [h1] at hs; simp only [Option.some.injEq] at hs; omega) (fun ⟨z, h1, h2, _⟩ => by rw [h1] at hs; simp only [Option.some.injEq] at hs; omega))
            refine ⟨HSF.out _ HK25, ?_⟩
            simp only [Act.put, List.setIfInBounds_toArray, List.set_cons_succ, List.set_cons_zero]
            refine rl_one 26 rfl (by kernel_rfl) ?_
            have hsame := sameB_calls w25 _ _ _ _ (HSC.out w25 HKB25) hbts.rd (by have := HKN.out; simp; omega) (by have := HKN.out; simp; omega)
            rw [decide_eq_true rfl] at hsame
            refine rl_call 64 _ _ (by rfl) _ Try.func64 (by kernel_rfl) (by kernel_rfl) [.slice la (k + 1) lc, .slice va25 (k + 1) vc25] rfl hsame ?_
            rintro e w26 ⟨rfl, hk26⟩
            have HK26 := HK25.trans hk26
            refine ⟨_, rfl, HSF.out _ HK26, ?_⟩
            simp only [Act.put, List.setIfInBounds_toArray, List.set_cons_succ, List.set_cons_zero]
            first
              | (refine rg_skip 27 rfl (by kernel_rfl) (by kernel_rfl) (by kernel_rfl) (fun _ _ _ h => h) (HSF.out _ HK26) ?_ ?_; rfl)
              | (refine rg_take 27 (v := ?_) rfl (by kernel_rfl) (by kernel_rfl) (by kernel_rfl) (fun _ _ _ h => h) (HSF.out _ HK26) ?_ ?_ ?_; rotate_left; rfl; focus (intro w hSw; (try dsimp only at hSw); go_simp; all_goals (with_reducible rfl)))
            simp only [Act.put, List.setIfInBounds_toArray, List.set_cons_succ, List.set_cons_zero]
            first
              | (refine rg_skip 28 rfl (by kernel_rfl) (by kernel_rfl) (by kernel_rfl) (fun _ _ _ h => h) (HSF.out _ HK26) ?_ ?_; rfl)
              | (refine rg_take 28 (v := ?_) rfl (by kernel_rfl) (by kernel_rfl) (by kernel_rfl) (fun _ _ _ h => h) (HSF.out _ HK26) ?_ ?_ ?_; rotate_left; rfl; focus (intro w hSw; (try dsimp only at hSw); go_simp; all_goals (with_reducible rfl)))
            simp only [Act.put, List.setIfInBounds_toArray, List.set_cons_succ, List.set_cons_zero]
            refine rl_one 29 rfl (by kernel_rfl) ?_
            refine rl_call 61 _ _ (by rfl) _ Try.func61 (by kernel_rfl) (by kernel_rfl) [] rfl (awake8_calls _) ?_
            rintro e w29 ⟨rfl, hk29⟩
            have HK29 := HK26.trans hk29
            refine ⟨_, rfl, HSF.out _ HK29, ?_⟩
            simp only [Act.put, List.setIfInBounds_toArray, List.set_cons_succ, List.set_cons_zero]
            first
              | (refine rg_skip 30 rfl (by kernel_rfl) (by kernel_rfl) (by kernel_rfl) (fun _ _ _ h => h) (HSF.out _ HK29) ?_ ?_; rfl)
              | (refine rg_take 30 (v := ?_) rfl (by kernel_rfl) (by kernel_rfl) (by kernel_rfl) (fun _ _ _ h => h) (HSF.out _ HK29) ?_ ?_ ?_; rotate_left; rfl; focus (intro w hSw; (try dsimp only at hSw); go_simp; all_goals (with_reducible rfl)))
            simp only [Act.put, List.setIfInBounds_toArray, List.set_cons_succ, List.set_cons_zero]
            first
              | (refine rg_skip 31 rfl (by kernel_rfl) (by kernel_rfl) (by kernel_rfl) (fun _ _ _ h => h) (HSF.out _ HK29) ?_ ?_; rfl)
              | (refine rg_take 31 (v := ?_) rfl (by kernel_rfl) (by kernel_rfl) (by kernel_rfl) (fun _ _ _ h => h) (HSF.out _ HK29) ?_ ?_ ?_; rotate_left; rfl; focus (intro w hSw; (try dsimp only at hSw); go_simp; all_goals (with_reducible rfl)))
            simp only [Act.put, List.setIfInBounds_toArray, List.set_cons_succ, List.set_cons_zero]
            refine wpAnyH_done (by kernel_rfl) ?_ _
            go_wp2_with fail
            go_ret
            exact ⟨rfl, HLM.out.law.keeps.trans HK29⟩
          · as_aux_lemma =>
            refine (gd_buildSliceW 90 ?_)
            refine wl_unguard (by rfl) ?_
            refine wl_sliceA1 rfl _ _ rfl 94 _ 5 56 Try.underlying90 info_bt (by decide) (by decide) (btA (k + 1) 1 (.slice ma 4 mc) 2 0) rfl rfl ?_
            intro b24 w24 hb24 HO24 hk24
            refine till_nil ?_
            have HK24 := HK18.trans hk24
            have hne24 : b24 ≠ b18 := (ne_new HE18 hb24).symm
            have HE24 : w24.heap[b18]? = _ := hk24.blk HE18 id
            have HKB24 : Keeps w18 w24 (fun i => i = b18) := HKB18.trans (hk24.mono (fun _ _ hh => hh.elim))
            refine ⟨HSF.out _ HK24, ?_⟩
            simp only [Act.put, List.setIfInBounds_toArray, List.set_cons_succ, List.set_cons_zero]
            refine rl_one 22 rfl (by kernel_rfl) ?_
            refine wl_unguard (by rfl) ?_
            refine wl_appendAs rfl _ _ 90 rfl 94 _ 5 56 Try.underlying90 info_bt rfl (by decide) lo (.slice (some ⟨b18, 0, none⟩) 0 0) [] rfl (isOwnA_empty HE24 (Nat.le_trans HLW.out hbm18)) gl 0 k c10 ((btRows B bvs).take k) rfl HRL.out (fun r hr => HRS.out r (List.mem_of_mem_take hr)) (HRC.out _ HK24) (fun r hr => HR1.out r (List.mem_of_mem_take hr)) (by have := HKN.out; show 0 + k ≤ maxLen; unfold maxLen; omega) (by have := HKN.out; show (0 + k) * 56 ≤ _; omega) (Nat.le_trans HLW.out HK24.size) ?_
            intro v22 w22 hap22
            have hA22 := hap22.1
            obtain ⟨va22, vc22, hv22⟩ := hA22.shape
            rw [List.nil_append, HRL.out] at hv22
            subst hv22
            refine till_nil ?_
            rw [List.nil_append] at hA22
            have hS22 : ∀ i, (Value.slice (some ⟨b18, 0, none⟩) 0 0).ownBlock = some i → i = b18 := fun i hi => by simp only [Value.ownBlock, Option.some.injEq] at hi; exact hi.symm
            have HK22 : Keeps wm w22 (fun _ => False) := HK24.then hap22.2.1 (fun i hi hs => absurd hbm18 (by rw [← hS22 i hs]; exact Nat.not_le.2 hi))
            have HKB22 : Keeps w18 w22 (fun i => i = b18) := HKB24.trans (hap22.2.1.mono (fun i _ hs => hS22 i hs))
            have HO22 : w22.heap[b24]? = _ := hap22.2.1.blk HO24 (fun hs => hne24 (hS22 _ hs))
            have hat22 : (Value.slice va22 k vc22).ownBlock = some b18 ∨ ∃ z, (Value.slice va22 k vc22).ownBlock = some z ∧ w18.heap.size ≤ z ∧ z ≠ b24 := hap22.2.2.imp id (fun h1 => ⟨_, h1, HKB24.size, (Nat.ne_of_lt (lt_of_blk HO24)).symm⟩)
            refine ⟨HSF.out _ HK22, ?_⟩
            simp only [Act.put, List.setIfInBounds_toArray, List.set_cons_succ, List.set_cons_zero]
            refine rl_one 25 rfl (by kernel_rfl) ?_
            refine wl_unguard (by rfl) ?_
            have hrl : ((btRows B bvs).take k).length + 1 = k + 1 := by rw [HRL.out]
            refine wl_appendA rfl _ _ 90 rfl 94 _ 5 56 Try.underlying90 info_bt rfl (by decide) lo (.slice va22 k vc22) ((btRows B bvs).take k) rfl hA22 b24 (btA (k + 1) 1 (.slice ma 4 mc) 2 0) rfl HO22 rfl (btA_one rfl) (by rw [hrl]; have := HKN.out; unfold maxLen; omega) (by rw [hrl]; have := HKN.out; omega) (Nat.le_trans HLW.out HK22.size) ?_
            intro v25 w25 hap25
            obtain ⟨va25, vc25, hv25⟩ := hap25.1.shape
            rw [List.length_append, HRL.out, List.length_singleton] at hv25
            subst hv25
            refine till_nil ?_
            have hbts := HBA.out _ _ _ _ HK22 hA22 hap25
            have hwb : wm.heap.size ≤ w18.heap.size := HK18.size
            have HKB25 : Keeps w18 w25 (fun i => i = b18) := HKB22.then hap25.2.1 (fun i hi hs => hat22.elim (fun h1 => by rw [h1] at hs; simp only [Option.some.injEq] at hs; exact hs.symm) (fun ⟨z, h1, h2, _⟩ => by rw [h1] at hs; simp only [Option.some.injEq] at hs; omega))
            have HK25 : Keeps wm w25 (fun _ => False) := HK22.then hap25.2.1 (fun i hi hs => hat22.elim (fun h1 => by rw [h1] at hs; simp only [Option.some.injEq] at hs; omega) (fun ⟨z, h1, h2, _⟩ => by rw [h1] at hs; simp only [Option.some.injEq] at hs; omega))
            refine ⟨HSF.out _ HK25, ?_⟩
            simp only [Act.put, List.setIfInBounds_toArray, List.set_cons_succ, List.set_cons_zero]
            refine rl_one 26 rfl (by kernel_rfl) ?_
            have hsame := sameB_calls w25 _ _ _ _ (HSC.out w25 HKB25) hbts.rd (by have := HKN.out; simp; omega) (by have := HKN.out; simp; omega)
            rw [decide_eq_true rfl] at hsame
            refine rl_call 64 _ _ (by rfl) _ Try.func64 (by kernel_rfl) (by kernel_rfl) [.slice la (k + 1) lc, .slice va25 (k + 1) vc25] rfl hsame ?_
            rintro e w26 ⟨rfl, hk26⟩
            have HK26 := HK25.trans hk26
            refine ⟨_, rfl, HSF.out _ HK26, ?_⟩
            simp only [Act.put, List.setIfInBounds_toArray, List.set_cons_succ, List.set_cons_zero]
            first
              | (refine rg_skip 27 rfl (by kernel_rfl) (by kernel_rfl) (by kernel_rfl) (fun _ _ _ h => h) (HSF.out _ HK26) ?_ ?_; rfl)
              | (refine rg_take 27 (v := ?_) rfl (by kernel_rfl) (by kernel_rfl) (by kernel_rfl) (fun _ _ _ h => h) (HSF.out _ HK26) ?_ ?_ ?_; rotate_left; rfl; focus (intro w hSw; (try dsimp only at hSw); go_simp; all_goals (with_reducible rfl)))
            simp only [Act.put, List.setIfInBounds_toArray, List.set_cons_succ, List.set_cons_zero]
            first
              | (refine rg_skip 28 rfl (by kernel_rfl) (by kernel_rfl) (by kernel_rfl) (fun _ _ _ h => h) (HSF.out _ HK26) ?_ ?_; rfl)
              | (refine rg_take 28 (v := ?_) rfl (by kernel_rfl) (by kernel_rfl) (by kernel_rfl) (fun _ _ _ h => h) (HSF.out _ HK26) ?_ ?_ ?_; rotate_left; rfl; focus (intro w hSw; (try dsimp only at hSw); go_simp; all_goals (with_reducible rfl)))
            simp only [Act.put, List.setIfInBounds_toArray, List.set_cons_succ, List.set_cons_zero]
            refine rl_one 29 rfl (by kernel_rfl) ?_
            refine rl_call 61 _ _ (by rfl) _ Try.func61 (by kernel_rfl) (by kernel_rfl) [] rfl (awake8_calls _) ?_
            rintro e w29 ⟨rfl, hk29⟩
            have HK29 := HK26.trans hk29
            refine ⟨_, rfl, HSF.out _ HK29, ?_⟩
            simp only [Act.put, List.setIfInBounds_toArray, List.set_cons_succ, List.set_cons_zero]
            first
              | (refine rg_skip 30 rfl (by kernel_rfl) (by kernel_rfl) (by kernel_rfl) (fun _ _ _ h => h) (HSF.out _ HK29) ?_ ?_; rfl)
              | (refine rg_take 30 (v := ?_) rfl (by kernel_rfl) (by kernel_rfl) (by kernel_rfl) (fun _ _ _ h => h) (HSF.out _ HK29) ?_ ?_ ?_; rotate_left; rfl; focus (intro w hSw; (try dsimp only at hSw); go_simp; all_goals (with_reducible rfl)))
            simp only [Act.put, List.setIfInBounds_toArray, List.set_cons_succ, List.set_cons_zero]
            first
              | (refine rg_skip 31 rfl (by kernel_rfl) (by kernel_rfl) (by kernel_rfl) (fun _ _ _ h => h) (HSF.out _ HK29) ?_ ?_; rfl)
              | (refine rg_take 31 (v := ?_) rfl (by kernel_rfl) (by kernel_rfl) (by kernel_rfl) (fun _ _ _ h => h) (HSF.out _ HK29) ?_ ?_ ?_; rotate_left; rfl; focus (intro w hSw; (try dsimp only at hSw); go_simp; all_goals (with_reducible rfl)))
            simp only [Act.put, List.setIfInBounds_toArray, List.set_cons_succ, List.set_cons_zero]
            refine wpAnyH_done (by kernel_rfl) ?_ _
            go_wp2_with fail
            go_ret
            exact ⟨rfl, HLM.out.law.keeps.trans HK29⟩
        · as_aux_lemma =>
          refine (gd_buildSliceW 90 ?_)
          refine wl_unguard (by rfl) ?_
          refine wl_sliceA1 rfl _ _ rfl 94 _ 5 56 Try.underlying90 info_bt (by decide) (by decide) (btA (k + 1) 1 (.slice ma 4 mc) 2 0) rfl rfl ?_
          intro b24 w24 hb24 HO24 hk24
          refine till_nil ?_
          have HK24 := HK17.trans hk24
          refine ⟨HSF.out _ HK24, ?_⟩
          simp only [Act.put, List.setIfInBounds_toArray, List.set_cons_succ, List.set_cons_zero]
          refine rl_one 18 rfl (by kernel_rfl) ?_
          refine (gd_buildSliceW 90 ?_)
          refine wl_unguard (by rfl) ?_
          refine wl_sliceA0 rfl _ rfl 94 _ 5 56 Try.underlying90 info_bt ?_
          intro b18 w18 hb18 HE18 hk18
          refine till_nil ?_
          have HK18 := HK24.trans hk18
          have hbm18 : wm.heap.size ≤ b18 := Nat.le_trans HK24.size hb18
          have HO18 : w18.heap[b24]? = _ := hk18.blk HO24 id
          have hne24 : b24 ≠ b18 := ne_new HO24 hb18
          have hk17c : Keeps w17 w24 (fun _ => False) := hk24
          have h17b : w17.heap.size ≤ b18 := Nat.le_trans hk17c.size hb18
          have HSC : Hid (∀ wX, Keeps w18 wX (fun i => i = b18) → isRdB wX (.slice la (k + 1) lc) (B.take k ++ [⟨k + 1, 1, more8, 2, 0⟩])) := Lib.hid fun wX hk => (hsc.new ((hk17c.trans hk18).then hk (fun i hi e => absurd h17b (by rw [← show i = b18 from e]; exact Nat.not_le.2 hi)))).rd
          have HKB18 : Keeps w18 w18 (fun i => i = b18) := Keeps.refl _ _
          refine ⟨HSF.out _ HK18, ?_⟩
          simp only [Act.put, List.setIfInBounds_toArray, List.set_cons_succ, List.set_cons_zero]
          refine rl_one 22 rfl (by kernel_rfl) ?_
          refine wl_unguard (by rfl) ?_
          refine wl_appendAs rfl _ _ 90 rfl 94 _ 5 56 Try.underlying90 info_bt rfl (by decide) lo (.slice (some ⟨b18, 0, none⟩) 0 0) [] rfl (isOwnA_empty HE18 (Nat.le_trans HLW.out hbm18)) gl 0 k c10 ((btRows B bvs).take k) rfl HRL.out (fun r hr => HRS.out r (List.mem_of_mem_take hr)) (HRC.out _ HK18) (fun r hr => HR1.out r (List.mem_of_mem_take hr)) (by have := HKN.out; show 0 + k ≤ maxLen; unfold maxLen; omega) (by have := HKN.out; show (0 + k) * 56 ≤ _; omega) (Nat.le_trans HLW.out HK18.size) ?_
          intro v22 w22 hap22
          have hA22 := hap22.1
          obtain ⟨va22, vc22, hv22⟩ := hA22.shape
          rw [List.nil_append, HRL.out] at hv22
          subst hv22
          refine till_nil ?_
          rw [List.nil_append] at hA22
          have hS22 : ∀ i, (Value.slice (some ⟨b18, 0, none⟩) 0 0).ownBlock = some i → i = b18 := fun i hi => by simp only [Value.ownBlock, Option.some.injEq] at hi; exact hi.symm
          have HK22 : Keeps wm w22 (fun _ => False) := HK18.then hap22.2.1 (fun i hi hs => absurd hbm18 (by rw [← hS22 i hs]; exact Nat.not_le.2 hi))
          have HKB22 : Keeps w18 w22 (fun i => i = b18) := HKB18.trans (hap22.2.1.mono (fun i _ hs => hS22 i hs))
          have HO22 : w22.heap[b24]? = _ := hap22.2.1.blk HO18 (fun hs => hne24 (hS22 _ hs))
          have hat22 : (Value.slice va22 k vc22).ownBlock = some b18 ∨ ∃ z, (Value.slice va22 k vc22).ownBlock = some z ∧ w18.heap.size ≤ z ∧ z ≠ b24 := hap22.2.2.imp id (fun h1 => ⟨_, h1, HKB18.size, (Nat.ne_of_lt (lt_of_blk HO18)).symm⟩)
          refine ⟨HSF.out _ HK22, ?_⟩
          simp only [Act.put, List.setIfInBounds_toArray, List.set_cons_succ, List.set_cons_zero]
          refine rl_one 25 rfl (by kernel_rfl) ?_
          refine wl_unguard (by rfl) ?_
          have hrl : ((btRows B bvs).take k).length + 1 = k + 1 := by rw [HRL.out]
          refine wl_appendA rfl _ _ 90 rfl 94 _ 5 56 Try.underlying90 info_bt rfl (by decide) lo (.slice va22 k vc22) ((btRows B bvs).take k) rfl hA22 b24 (btA (k + 1) 1 (.slice ma 4 mc) 2 0) rfl HO22 rfl (btA_one rfl) (by rw [hrl]; have := HKN.out; unfold maxLen; omega) (by rw [hrl]; have := HKN.out; omega) (Nat.le_trans HLW.out HK22.size) ?_
          intro v25 w25 hap25
          obtain ⟨va25, vc25, hv25⟩ := hap25.1.shape
          rw [List.length_append, HRL.out, List.length_singleton] at hv25
          subst hv25
          refine till_nil ?_
          have hbts := HBA.out _ _ _ _ HK22 hA22 hap25
          have hwb : wm.heap.size ≤ w18.heap.size := HK18.size
          have HKB25 : Keeps w18 w25 (fun i => i = b18) := HKB22.then hap25.2.1 (fun i hi hs => hat22.elim (fun h1 => by rw [h1] at hs; simp only [Option.some.injEq] at hs; exact hs.symm) (fun ⟨z, h1, h2, _⟩ => by rw [h1] at hs; simp only [Option.some.injEq] at hs; omega))
          have HK25 : Keeps wm w25 (fun _ => False) := HK22.then hap25.2.1 (fun i hi hs => hat22.elim (fun h1 => by rw [h1] at hs; simp only [Option.some.injEq] at hs; omega) (fun ⟨z, h1, h2, _⟩ => by rw [h1] at hs; simp only [Option.some.injEq] at hs; omega))
          refine ⟨HSF.out _ HK25, ?_⟩
          simp only [Act.put, List.setIfInBounds_toArray, List.set_cons_succ, List.set_cons_zero]
          refine rl_one 26 rfl (by kernel_rfl) ?_
          have hsame := sameB_calls w25 _ _ _ _ (HSC.out w25 HKB25) hbts.rd (by have := HKN.out; simp; omega) (by have := HKN.out; simp; omega)
          rw [decide_eq_true rfl] at hsame
          refine rl_call 64 _ _ (by rfl) _ Try.func64 (by kernel_rfl) (by kernel_rfl) [.slice la (k + 1) lc, .slice va25 (k + 1) vc25] rfl hsame ?_
          rintro e w26 ⟨rfl, hk26⟩
          have HK26 := HK25.trans hk26
          refine ⟨_, rfl, HSF.out _ HK26, ?_⟩
          simp only [Act.put, List.setIfInBounds_toArray, List.set_cons_succ, List.set_cons_zero]
          first
            | (refine rg_skip 27 rfl (by kernel_rfl) (by kernel_rfl) (by kernel_rfl) (fun _ _ _ h => h) (HSF.out _ HK26) ?_ ?_; rfl)
            | (refine rg_take 27 (v := ?_) rfl (by kernel_rfl) (by kernel_rfl) (by kernel_rfl) (fun _ _ _ h => h) (HSF.out _ HK26) ?_ ?_ ?_; rotate_left; rfl; focus (intro w hSw; (try dsimp only at hSw); go_simp; all_goals (with_reducible rfl)))
          simp only [Act.put, List.setIfInBounds_toArray, List.set_cons_succ, List.set_cons_zero]
          first
            | (refine rg_skip 28 rfl (by kernel_rfl) (by kernel_rfl) (by kernel_rfl) (fun _ _ _ h => h) (HSF.out _ HK26) ?_ ?_; rfl)
            | (refine rg_take 28 (v := ?_) rfl (by kernel_rfl) (by kernel_rfl) (by kernel_rfl) (fun _ _ _ h => h) (HSF.out _ HK26) ?_ ?_ ?_; rotate_left; rfl; focus (intro w hSw; (try dsimp only at hSw); go_simp; all_goals (with_reducible rfl)))
          simp only [Act.put, List.setIfInBounds_toArray, List.set_cons_succ, List.set_cons_zero]
          refine rl_one 29 rfl (by kernel_rfl) ?_
          refine rl_call 61 _ _ (by rfl) _ Try.func61 (by kernel_rfl) (by kernel_rfl) [] rfl (awake8_calls _) ?_
          rintro e w29 ⟨rfl, hk29⟩
          have HK29 := HK26.trans hk29
          refine ⟨_, rfl, HSF.out _ HK29, ?_⟩
          simp only [Act.put, List.setIfInBounds_toArray, List.set_cons_succ, List.set_cons_zero]
          first
            | (refine rg_skip 30 rfl (by kernel_rfl) (by kernel_rfl) (by kernel_rfl) (fun _ _ _ h => h) (HSF.out _ HK29) ?_ ?_; rfl)
            | (refine rg_take 30 (v := ?_) rfl (by kernel_rfl) (by kernel_rfl) (by kernel_rfl) (fun _ _ _ h => h) (HSF.out _ HK29) ?_ ?_ ?_; rotate_left; rfl; focus (intro w hSw; (try dsimp only at hSw); go_simp; all_goals (with_reducible rfl)))
          simp only [Act.put, List.setIfInBounds_toArray, List.set_cons_succ, List.set_cons_zero]
          first
            | (refine rg_skip 31 rfl (by kernel_rfl) (by kernel_rfl) (by kernel_rfl) (fun _ _ _ h => h) (HSF.out _ HK29) ?_ ?_; rfl)
            | (refine rg_take 31 (v := ?_) rfl (by kernel_rfl) (by kernel_rfl) (by kernel_rfl) (fun _ _ _ h => h) (HSF.out _ HK29) ?_ ?_ ?_; rotate_left; rfl; focus (intro w hSw; (try dsimp only at hSw); go_simp; all_goals (with_reducible rfl)))
          simp only [Act.put, List.setIfInBounds_toArray, List.set_cons_succ, List.set_cons_zero]
          refine wpAnyH_done (by kernel_rfl) ?_ _
          go_wp2_with fail
          go_ret
          exact ⟨rfl, HLM.out.law.keeps.trans HK29⟩
      · as_aux_lemma =>
        refine (gd_buildSliceW 90 ?_)
        refine wl_unguard (by rfl) ?_
        refine wl_sliceA0 rfl _ rfl 94 _ 5 56 Try.underlying90 info_bt ?_
        intro b18 w18 hb18 HE18 hk18
        refine till_nil ?_
        have HK18 := HKm.trans hk18
        have hbm18 : wm.heap.size ≤ b18 := Nat.le_trans HKm.size hb18
        refine ⟨HSF.out _ HK18, ?_⟩
        simp only [Act.put, List.setIfInBounds_toArray, List.set_cons_succ, List.set_cons_zero]
        refine rl_two 17 24 rfl rfl (by kernel_rfl) ?_ ?_
        · as_aux_lemma =>
          refine rl_call 65 _ _ (by rfl) _ Try.func65 (by kernel_rfl) (by kernel_rfl) [.pointer (some ⟨h.p, 0, none⟩)] rfl (l8_scan (HLM.out.more HK18).law HDN.out.live.ok HTD.out HDN.out.live.ok.len) ?_
          rintro e w17 ⟨lv, rfl, hsc, hk17⟩
          obtain ⟨la, lc, rfl⟩ := hsc.shape
          rw [HLN.out] at hsc ⊢
          have HK17 := HK18.trans hk17
          have HE17 : w17.heap[b18]? = _ := hk17.blk HE18 id
          have hlt18 := lt_of_blk HE18
          have HSC : Hid (∀ wX, Keeps w17 wX (fun i => i = b18) → isRdB wX (.slice la (k + 1) lc) (B.take k ++ [⟨k + 1, 1, more8, 2, 0⟩])) := Lib.hid fun wX hk => (hsc.kept hk (fun g h1 _ e => absurd h1 (Nat.not_le.2 (by rw [show g = b18 from e]; exact hlt18)))).rd
          have HKB17 : Keeps w17 w17 (fun i => i = b18) := Keeps.refl _ _
          refine ⟨_, rfl, HSF.out _ HK17, ?_⟩
          simp only [Act.put, List.setIfInBounds_toArray, List.set_cons_succ, List.set_cons_zero]
          refine rl_two 22 24 rfl rfl (by kernel_rfl) ?_ ?_
          · as_aux_lemma =>
            refine wl_unguard (by rfl) ?_
            refine wl_appendAs rfl _ _ 90 rfl 94 _ 5 56 Try.underlying90 info_bt rfl (by decide) lo (.slice (some ⟨b18, 0, none⟩) 0 0) [] rfl (isOwnA_empty HE17 (Nat.le_trans HLW.out hbm18)) gl 0 k c10 ((btRows B bvs).take k) rfl HRL.out (fun r hr => HRS.out r (List.mem_of_mem_take hr)) (HRC.out _ HK17) (fun r hr => HR1.out r (List.mem_of_mem_take hr)) (by have := HKN.out; show 0 + k ≤ maxLen; unfold maxLen; omega) (by have := HKN.out; show (0 + k) * 56 ≤ _; omega) (Nat.le_trans HLW.out HK17.size) ?_
            intro v22 w22 hap22
            have hA22 := hap22.1
            obtain ⟨va22, vc22, hv22⟩ := hA22.shape
            rw [List.nil_append, HRL.out] at hv22
            subst hv22
            refine till_nil ?_
            rw [List.nil_append] at hA22
            have hS22 : ∀ i, (Value.slice (some ⟨b18, 0, none⟩) 0 0).ownBlock = some i → i = b18 := fun i hi => by simp only [Value.ownBlock, Option.some.injEq] at hi; exact hi.symm
            have HK22 : Keeps wm w22 (fun _ => False) := HK17.then hap22.2.1 (fun i hi hs => absurd hbm18 (by rw [← hS22 i hs]; exact Nat.not_le.2 hi))
            have HKB22 : Keeps w17 w22 (fun i => i = b18) := HKB17.trans (hap22.2.1.mono (fun i _ hs => hS22 i hs))
            have hat22 : (Value.slice va22 k vc22).ownBlock = some b18 ∨ ∃ z, (Value.slice va22 k vc22).ownBlock = some z ∧ w17.heap.size ≤ z ∧ z < w22.heap.size := hap22.2.2.imp id (fun h1 => ⟨_, h1, HKB17.size, (hA22.blk _ h1).2⟩)
            have HE22 : w22.heap.size > b18 := Nat.lt_of_lt_of_le (lt_of_blk HE17) hap22.2.1.size
            refine ⟨HSF.out _ HK22, ?_⟩
            simp only [Act.put, List.setIfInBounds_toArray, List.set_cons_succ, List.set_cons_zero]
            refine rl_one 24 rfl (by kernel_rfl) ?_
            refine (gd_buildSliceW 90 ?_)
            refine wl_unguard (by rfl) ?_
            refine wl_sliceA1 rfl _ _ rfl 94 _ 5 56 Try.underlying90 info_bt (by decide) (by decide) (btA (k + 1) 1 (.slice ma 4 mc) 2 0) rfl rfl ?_
            intro b24 w24 hb24 HO24 hk24
            refine till_nil ?_
            have HK24 := HK22.trans hk24
            have hne24 : b24 ≠ b18 := (Nat.ne_of_lt (Nat.lt_of_lt_of_le HE22 hb24)).symm
            have HKB24 : Keeps w17 w24 (fun i => i = b18) := HKB22.trans (hk24.mono (fun _ _ hh => hh.elim))
            have hA24 := hA22.new hk24
            have hat24 : (Value.slice va22 k vc22).ownBlock = some b18 ∨ ∃ z, (Value.slice va22 k vc22).ownBlock = some z ∧ w17.heap.size ≤ z ∧ z ≠ b24 := hat22.imp id (fun ⟨z, h1, h2, h3⟩ => ⟨z, h1, h2, Nat.ne_of_lt (Nat.lt_of_lt_of_le h3 hb24)⟩)
            refine ⟨HSF.out _ HK24, ?_⟩
            simp only [Act.put, List.setIfInBounds_toArray, List.set_cons_succ, List.set_cons_zero]
            refine rl_one 25 rfl (by kernel_rfl) ?_
            refine wl_unguard (by rfl) ?_
            have hrl : ((btRows B bvs).take k).length + 1 = k + 1 := by rw [HRL.out]
            refine wl_appendA rfl _ _ 90 rfl 94 _ 5 56 Try.underlying90 info_bt rfl (by decide) lo (.slice va22 k vc22) ((btRows B bvs).take k) rfl hA24 b24 (btA (k + 1) 1 (.slice ma 4 mc) 2 0) rfl HO24 rfl (btA_one rfl) (by rw [hrl]; have := HKN.out; unfold maxLen; omega) (by rw [hrl]; have := HKN.out; omega) (Nat.le_trans HLW.out HK24.size) ?_
            intro v25 w25 hap25
            obtain ⟨va25, vc25, hv25⟩ := hap25.1.shape
            rw [List.length_append, HRL.out, List.length_singleton] at hv25
            subst hv25
            refine till_nil ?_
            have hbts := HBA.out _ _ _ _ HK24 hA24 hap25
            have hwb : wm.heap.size ≤ w17.heap.size := HK17.size
            have HKB25 : Keeps w17 w25 (fun i => i = b18) := HKB24.then hap25.2.1 (fun i hi hs => hat24.elim (fun h1 => by rw [h1] at hs; simp only [Option.some.injEq] at hs; exact hs.symm) (fun ⟨z, h1, h2, _⟩ => by rw [h1] at hs; simp only [Option.some.injEq] at hs; omega))
            have HK25 : Keeps wm w25 (fun _ => False) := HK24.then hap25.2.1 (fun i hi hs => hat24.elim (fun h1 => by rw [h1] at hs; simp only [Option.some.injEq] at hs; omega) (fun ⟨z, h1, h2, _⟩ => by rw [h1] at hs; simp only [Option.some.injEq] at hs; omega))
            refine ⟨HSF.out _ HK25, ?_⟩
            simp only [Act.put, List.setIfInBounds_toArray, List.set_cons_succ, List.set_cons_zero]
            refine rl_one 26 rfl (by kernel_rfl) ?_
            have hsame := sameB_calls w25 _ _ _ _ (HSC.out w25 HKB25) hbts.rd (by have := HKN.out; simp; omega) (by have := HKN.out; simp; omega)
            rw [decide_eq_true rfl] at hsame
            refine rl_call 64 _ _ (by rfl) _ Try.func64 (by kernel_rfl) (by kernel_rfl) [.slice la (k + 1) lc, .slice va25 (k + 1) vc25] rfl hsame ?_
            rintro e w26 ⟨rfl, hk26⟩
            have HK26 := HK25.trans hk26
            refine ⟨_, rfl, HSF.out _ HK26, ?_⟩
            simp only [Act.put, List.setIfInBounds_toArray, List.set_cons_succ, List.set_cons_zero]
            first
              | (refine rg_skip 27 rfl (by kernel_rfl) (by kernel_rfl) (by kernel_rfl) (fun _ _ _ h => h) (HSF.out _ HK26) ?_ ?_; rfl)
              | (refine rg_take 27 (v := ?_) rfl (by kernel_rfl) (by kernel_rfl) (by kernel_rfl) (fun _ _ _ h => h) (HSF.out _ HK26) ?_ ?_ ?_; rotate_left; rfl; focus (intro w hSw; (try dsimp only at hSw); go_simp; all_goals (with_reducible rfl)))
            simp only [Act.put, List.setIfInBounds_toArray, List.set_cons_succ, List.set_cons_zero]
            first
              | (refine rg_skip 28 rfl (by kernel_rfl) (by kernel_rfl) (by kernel_rfl) (fun _ _ _ h => h) (HSF.out _ HK26) ?_ ?_; rfl)
              | (refine rg_take 28 (v := ?_) rfl (by kernel_rfl) (by kernel_rfl) (by kernel_rfl) (fun _ _ _ h => h) (HSF.out _ HK26) ?_ ?_ ?_; rotate_left; rfl; focus (intro w hSw; (try dsimp only at hSw); go_simp; all_goals (with_reducible rfl)))
            simp only [Act.put, List.setIfInBounds_toArray, List.set_cons_succ, List.set_cons_zero]
            refine rl_one 29 rfl (by kernel_rfl) ?_
            refine rl_call 61 _ _ (by rfl) _ Try.func61 (by kernel_rfl) (by kernel_rfl) [] rfl (awake8_calls _) ?_
            rintro e w29 ⟨rfl, hk29⟩
            have HK29 := HK26.trans hk29
            refine ⟨_, rfl, HSF.out _ HK29, ?_⟩
            simp only [Act.put, List.setIfInBounds_toArray, List.set_cons_succ, List.set_cons_zero]
            first
              | (refine rg_skip 30 rfl (by kernel_rfl) (by kernel_rfl) (by kernel_rfl) (fun _ _ _ h => h) (HSF.out _ HK29) ?_ ?_; rfl)
              | (refine rg_take 30 (v := ?_) rfl (by kernel_rfl) (by kernel_rfl) (by kernel_rfl) (fun _ _ _ h => h) (HSF.out _ HK29) ?_ ?_ ?_; rotate_left; rfl; focus (intro w hSw; (try dsimp only at hSw); go_simp; all_goals (with_reducible rfl)))
            simp only [Act.put, List.setIfInBounds_toArray, List.set_cons_succ, List.set_cons_zero]
            first
              | (refine rg_skip 31 rfl (by kernel_rfl) (by kernel_rfl) (by kernel_rfl) (fun _ _ _ h => h) (HSF.out _ HK29) ?_ ?_; rfl)
              | (refine rg_take 31 (v := ?_) rfl (by kernel_rfl) (by kernel_rfl) (by kernel_rfl) (fun _ _ _ h => h) (HSF.out _ HK29) ?_ ?_ ?_; rotate_left; rfl; focus (intro w hSw; (try dsimp only at hSw); go_simp; all_goals (with_reducible rfl)))
            simp only [Act.put, List.setIfInBounds_toArray, List.set_cons_succ, List.set_cons_zero]
            refine wpAnyH_done (by kernel_rfl) ?_ _
            go_wp2_with fail
            go_ret
            exact ⟨rfl, HLM.out.law.keeps.trans HK29⟩
          · as_aux_lemma =>
            refine (gd_buildSliceW 90 ?_)
            refine wl_unguard (by rfl) ?_
            refine wl_sliceA1 rfl _ _ rfl 94 _ 5 56 Try.underlying90 info_bt (by decide) (by decide) (btA (k + 1) 1 (.slice ma 4 mc) 2 0) rfl rfl ?_
            intro b24 w24 hb24 HO24 hk24
            refine till_nil ?_
            have HK24 := HK17.trans hk24
            have hne24 : b24 ≠ b18 := (ne_new HE17 hb24).symm
            have HE24 : w24.heap[b18]? = _ := hk24.blk HE17 id
            have HKB24 : Keeps w17 w24 (fun i => i = b18) := HKB17.trans (hk24.mono (fun _ _ hh => hh.elim))
            refine ⟨HSF.out _ HK24, ?_⟩
            simp only [Act.put, List.setIfInBounds_toArray, List.set_cons_succ, List.set_cons_zero]
            refine rl_one 22 rfl (by kernel_rfl) ?_
            refine wl_unguard (by rfl) ?_
            refine wl_appendAs rfl _ _ 90 rfl 94 _ 5 56 Try.underlying90 info_bt rfl (by decide) lo (.slice (some ⟨b18, 0, none⟩) 0 0) [] rfl (isOwnA_empty HE24 (Nat.le_trans HLW.out hbm18)) gl 0 k c10 ((btRows B bvs).take k) rfl HRL.out (fun r hr => HRS.out r (List.mem_of_mem_take hr)) (HRC.out _ HK24) (fun r hr => HR1.out r (List.mem_of_mem_take hr)) (by have := HKN.out; show 0 + k ≤ maxLen; unfold maxLen; omega) (by have := HKN.out; show (0 + k) * 56 ≤ _; omega) (Nat.le_trans HLW.out HK24.size) ?_
            intro v22 w22 hap22
            have hA22 := hap22.1
            obtain ⟨va22, vc22, hv22⟩ := hA22.shape
            rw [List.nil_append, HRL.out] at hv22
            subst hv22
            refine till_nil ?_
            rw [List.nil_append] at hA22
            have hS22 : ∀ i, (Value.slice (some ⟨b18, 0, none⟩) 0 0).ownBlock = some i → i = b18 := fun i hi => by simp only [Value.ownBlock, Option.some.injEq] at hi; exact hi.symm
            have HK22 : Keeps wm w22 (fun _ => False) := HK24.then hap22.2.1 (fun i hi hs => absurd hbm18 (by rw [← hS22 i hs]; exact Nat.not_le.2 hi))
            have HKB22 : Keeps w17 w22 (fun i => i = b18) := HKB24.trans (hap22.2.1.mono (fun i _ hs => hS22 i hs))
            have HO22 : w22.heap[b24]? = _ := hap22.2.1.blk HO24 (fun hs => hne24 (hS22 _ hs))
            have hat22 : (Value.slice va22 k vc22).ownBlock = some b18 ∨ ∃ z, (Value.slice va22 k vc22).ownBlock = some z ∧ w17.heap.size ≤ z ∧ z ≠ b24 := hap22.2.2.imp id (fun h1 => ⟨_, h1, HKB24.size, (Nat.ne_of_lt (lt_of_blk HO24)).symm⟩)
            refine ⟨HSF.out _ HK22, ?_⟩
            simp only [Act.put, List.setIfInBounds_toArray, List.set_cons_succ, List.set_cons_zero]
            refine rl_one 25 rfl (by kernel_rfl) ?_
            refine wl_unguard (by rfl) ?_
            have hrl : ((btRows B bvs).take k).length + 1 = k + 1 := by rw [HRL.out]
            refine wl_appendA rfl _ _ 90 rfl 94 _ 5 56 Try.underlying90 info_bt rfl (by decide) lo (.slice va22 k vc22) ((btRows B bvs).take k) rfl hA22 b24 (btA (k + 1) 1 (.slice ma 4 mc) 2 0) rfl HO22 rfl (btA_one rfl) (by rw [hrl]; have := HKN.out; unfold maxLen; omega) (by rw [hrl]; have := HKN.out; omega) (Nat.le_trans HLW.out HK22.size) ?_
            intro v25 w25 hap25
            obtain ⟨va25, vc25, hv25⟩ := hap25.1.shape
            rw [List.length_append, HRL.out, List.length_singleton] at hv25
            subst hv25
            refine till_nil ?_
            have hbts := HBA.out _ _ _ _ HK22 hA22 hap25
            have hwb : wm.heap.size ≤ w17.heap.size := HK17.size
            have HKB25 : Keeps w17 w25 (fun i => i = b18) := HKB22.then hap25.2.1 (fun i hi hs => hat22.elim (fun h1 => by rw [h1] at hs; simp only [Option.some.injEq] at hs; exact hs.symm) (fun ⟨z, h1, h2, _⟩ => by rw [h1] at hs; simp only [Option.some.injEq] at hs; omega))
            have HK25 : Keeps wm w25 (fun _ => False) := HK22.then hap25.2.1 (fun i hi hs => hat22.elim (fun h1 => by rw [h1] at hs; simp only [Option.some.injEq] at hs; omega) (fun ⟨z, h1, h2, _⟩ => by rw [h1] at hs; simp only [Option.some.injEq] at hs; omega))
            refine ⟨HSF.out _ HK25, ?_⟩
            simp only [Act.put, List.setIfInBounds_toArray, List.set_cons_succ, List.set_cons_zero]
            refine rl_one 26 rfl (by kernel_rfl) ?_
            have hsame := sameB_calls w25 _ _ _ _ (HSC.out w25 HKB25) hbts.rd (by have := HKN.out; simp; omega) (by have := HKN.out; simp; omega)
            rw [decide_eq_true rfl] at hsame
            refine rl_call 64 _ _ (by rfl) _ Try.func64 (by kernel_rfl) (by kernel_rfl) [.slice la (k + 1) lc, .slice va25 (k + 1) vc25] rfl hsame ?_
            rintro e w26 ⟨rfl, hk26⟩
            have HK26 := HK25.trans hk26
            refine ⟨_, rfl, HSF.out _ HK26, ?_⟩
            simp only [Act.put, List.setIfInBounds_toArray, List.set_cons_succ, List.set_cons_zero]
            first
              | (refine rg_skip 27 rfl (by kernel_rfl) (by kernel_rfl) (by kernel_rfl) (fun _ _ _ h => h) (HSF.out _ HK26) ?_ ?_; rfl)
              | (refine rg_take 27 (v := ?_) rfl (by kernel_rfl) (by kernel_rfl) (by kernel_rfl) (fun _ _ _ h => h) (HSF.out _ HK26) ?_ ?_ ?_; rotate_left; rfl; focus (intro w hSw; (try dsimp only at hSw); go_simp; all_goals (with_reducible rfl)))
            simp only [Act.put, List.setIfInBounds_toArray, List.set_cons_succ, List.set_cons_zero]
            first
              | (refine rg_skip 28 rfl (by kernel_rfl) (by kernel_rfl) (by kernel_rfl) (fun _ _ _ h => h) (HSF.out _ HK26) ?_ ?_; rfl)
              | (refine rg_take 28 (v := ?_) rfl (by kernel_rfl) (by kernel_rfl) (by kernel_rfl) (fun _ _ _ h => h) (HSF.out _ HK26) ?_ ?_ ?_; rotate_left; rfl; focus (intro w hSw; (try dsimp only at hSw); go_simp; all_goals (with_reducible rfl)))
            simp only [Act.put, List.setIfInBounds_toArray, List.set_cons_succ, List.set_cons_zero]
            refine rl_one 29 rfl (by kernel_rfl) ?_
            refine rl_call 61 _ _ (by rfl) _ Try.func61 (by kernel_rfl) (by kernel_rfl) [] rfl (awake8_calls _) ?_
            rintro e w29 ⟨rfl, hk29⟩
            have HK29 := HK26.trans hk29
            refine ⟨_, rfl, HSF.out _ HK29, ?_⟩
            simp only [Act.put, List.setIfInBounds_toArray, List.set_cons_succ, List.set_cons_zero]
            first
              | (refine rg_skip 30 rfl (by kernel_rfl) (by kernel_rfl) (by kernel_rfl) (fun _ _ _ h => h) (HSF.out _ HK29) ?_ ?_; rfl)
              | (refine rg_take 30 (v := ?_) rfl (by kernel_rfl) (by kernel_rfl) (by kernel_rfl) (fun _ _ _ h => h) (HSF.out _ HK29) ?_ ?_ ?_; rotate_left; rfl; focus (intro w hSw; (try dsimp only at hSw); go_simp; all_goals (with_reducible rfl)))
            simp only [Act.put, List.setIfInBounds_toArray, List.set_cons_succ, List.set_cons_zero]
            first
              | (refine rg_skip 31 rfl (by kernel_rfl) (by kernel_rfl) (by kernel_rfl) (fun _ _ _ h => h) (HSF.out _ HK29) ?_ ?_; rfl)
              | (refine rg_take 31 (v := ?_) rfl (by kernel_rfl) (by kernel_rfl) (by kernel_rfl) (fun _ _ _ h => h) (HSF.out _ HK29) ?_ ?_ ?_; rotate_left; rfl; focus (intro w hSw; (try dsimp only at hSw); go_simp; all_goals (with_reducible rfl)))
            simp only [Act.put, List.setIfInBounds_toArray, List.set_cons_succ, List.set_cons_zero]
            refine wpAnyH_done (by kernel_rfl) ?_ _
            go_wp2_with fail
            go_ret
            exact ⟨rfl, HLM.out.law.keeps.trans HK29⟩
        · as_aux_lemma =>
          refine (gd_buildSliceW 90 ?_)
          refine wl_unguard (by rfl) ?_
          refine wl_sliceA1 rfl _ _ rfl 94 _ 5 56 Try.underlying90 info_bt (by decide) (by decide) (btA (k + 1) 1 (.slice ma 4 mc) 2 0) rfl rfl ?_
          intro b24 w24 hb24 HO24 hk24
          refine till_nil ?_
          have HK24 := HK18.trans hk24
          have hne24 : b24 ≠ b18 := (ne_new HE18 hb24).symm
          have HE24 : w24.heap[b18]? = _ := hk24.blk HE18 id
          refine ⟨HSF.out _ HK24, ?_⟩
          simp only [Act.put, List.setIfInBounds_toArray, List.set_cons_succ, List.set_cons_zero]
          refine rl_one 17 rfl (by kernel_rfl) ?_
          refine rl_call 65 _ _ (by rfl) _ Try.func65 (by kernel_rfl) (by kernel_rfl) [.pointer (some ⟨h.p, 0, none⟩)] rfl (l8_scan (HLM.out.more HK24).law HDN.out.live.ok HTD.out HDN.out.live.ok.len) ?_
          rintro e w17 ⟨lv, rfl, hsc, hk17⟩
          obtain ⟨la, lc, rfl⟩ := hsc.shape
          rw [HLN.out] at hsc ⊢
          have HK17 := HK24.trans hk17
          have HE17 : w17.heap[b18]? = _ := hk17.blk HE24 id
          have HO17 : w17.heap[b24]? = _ := hk17.blk HO24 id
          have hlt18 := lt_of_blk HE24
          have HSC : Hid (∀ wX, Keeps w17 wX (fun i => i = b18) → isRdB wX (.slice la (k + 1) lc) (B.take k ++ [⟨k + 1, 1, more8, 2, 0⟩])) := Lib.hid fun wX hk => (hsc.kept hk (fun g h1 _ e => absurd h1 (Nat.not_le.2 (by rw [show g = b18 from e]; exact hlt18)))).rd
          have HKB17 : Keeps w17 w17 (fun i => i = b18) := Keeps.refl _ _
          refine ⟨_, rfl, HSF.out _ HK17, ?_⟩
          simp only [Act.put, List.setIfInBounds_toArray, List.set_cons_succ, List.set_cons_zero]
          refine rl_one 22 rfl (by kernel_rfl) ?_
          refine wl_unguard (by rfl) ?_
          refine wl_appendAs rfl _ _ 90 rfl 94 _ 5 56 Try.underlying90 info_bt rfl (by decide) lo (.slice (some ⟨b18, 0, none⟩) 0 0) [] rfl (isOwnA_empty HE17 (Nat.le_trans HLW.out hbm18)) gl 0 k c10 ((btRows B bvs).take k) rfl HRL.out (fun r hr => HRS.out r (List.mem_of_mem_take hr)) (HRC.out _ HK17) (fun r hr => HR1.out r (List.mem_of_mem_take hr)) (by have := HKN.out; show 0 + k ≤ maxLen; unfold maxLen; omega) (by have := HKN.out; show (0 + k) * 56 ≤ _; omega) (Nat.le_trans HLW.out HK17.size) ?_
          intro v22 w22 hap22
          have hA22 := hap22.1
          obtain ⟨va22, vc22, hv22⟩ := hA22.shape
          rw [List.nil_append, HRL.out] at hv22
          subst hv22
          refine till_nil ?_
          rw [List.nil_append] at hA22
          have hS22 : ∀ i, (Value.slice (some ⟨b18, 0, none⟩) 0 0).ownBlock = some i → i = b18 := fun i hi => by simp only [Value.ownBlock, Option.some.injEq] at hi; exact hi.symm
          have HK22 : Keeps wm w22 (fun _ => False) := HK17.then hap22.2.1 (fun i hi hs => absurd hbm18 (by rw [← hS22 i hs]; exact Nat.not_le.2 hi))
          have HKB22 : Keeps w17 w22 (fun i => i = b18) := HKB17.trans (hap22.2.1.mono (fun i _ hs => hS22 i hs))
          have HO22 : w22.heap[b24]? = _ := hap22.2.1.blk HO17 (fun hs => hne24 (hS22 _ hs))
          have hat22 : (Value.slice va22 k vc22).ownBlock = some b18 ∨ ∃ z, (Value.slice va22 k vc22).ownBlock = some z ∧ w17.heap.size ≤ z ∧ z ≠ b24 := hap22.2.2.imp id (fun h1 => ⟨_, h1, HKB17.size, (Nat.ne_of_lt (lt_of_blk HO17)).symm⟩)
          refine ⟨HSF.out _ HK22, ?_⟩
          simp only [Act.put, List.setIfInBounds_toArray, List.set_cons_succ, List.set_cons_zero]
          refine rl_one 25 rfl (by kernel_rfl) ?_
          refine wl_unguard (by rfl) ?_
          have hrl : ((btRows B bvs).take k).length + 1 = k + 1 := by rw [HRL.out]
          refine wl_appendA rfl _ _ 90 rfl 94 _ 5 56 Try.underlying90 info_bt rfl (by decide) lo (.slice va22 k vc22) ((btRows B bvs).take k) rfl hA22 b24 (btA (k + 1) 1 (.slice ma 4 mc) 2 0) rfl HO22 rfl (btA_one rfl) (by rw [hrl]; have := HKN.out; unfold maxLen; omega) (by rw [hrl]; have := HKN.out; omega) (Nat.le_trans HLW.out HK22.size) ?_
          intro v25 w25 hap25
          obtain ⟨va25, vc25, hv25⟩ := hap25.1.shape
          rw [List.length_append, HRL.out, List.length_singleton] at hv25
          subst hv25
          refine till_nil ?_
          have hbts := HBA.out _ _ _ _ HK22 hA22 hap25
          have hwb : wm.heap.size ≤ w17.heap.size := HK17.size
          have HKB25 : Keeps w17 w25 (fun i => i = b18) := HKB22.then hap25.2.1 (fun i hi hs => hat22.elim (fun h1 => by rw [h1] at hs; simp only [Option.some.injEq] at hs; exact hs.symm) (fun ⟨z, h1, h2, _⟩ => by rw [h1] at hs; simp only [Option.some.injEq] at hs; omega))
          have HK25 : Keeps wm w25 (fun _ => False) := HK22.then hap25.2.1 (fun i hi hs => hat22.elim (fun h1 => by rw [h1] at hs; simp only [Option.some.injEq] at hs; omega) (fun ⟨z, h1, h2, _⟩ => by rw [h1] at hs; simp only [Option.some.injEq] at hs; omega))
          refine ⟨HSF.out _ HK25, ?_⟩
          simp only [Act.put, List.setIfInBounds_toArray, List.set_cons_succ, List.set_cons_zero]
          refine rl_one 26 rfl (by kernel_rfl) ?_
          have hsame := sameB_calls w25 _ _ _ _ (HSC.out w25 HKB25) hbts.rd (by have := HKN.out; simp; omega) (by have := HKN.out; simp; omega)
          rw [decide_eq_true rfl] at hsame
          refine rl_call 64 _ _ (by rfl) _ Try.func64 (by kernel_rfl) (by kernel_rfl) [.slice la (k + 1) lc, .slice va25 (k + 1) vc25] rfl hsame ?_
          rintro e w26 ⟨rfl, hk26⟩
          have HK26 := HK25.trans hk26
          refine ⟨_, rfl, HSF.out _ HK26, ?_⟩
          simp only [Act.put, List.setIfInBounds_toArray, List.set_cons_succ, List.set_cons_zero]
          first
            | (refine rg_skip 27 rfl (by kernel_rfl) (by kernel_rfl) (by kernel_rfl) (fun _ _ _ h => h) (HSF.out _ HK26) ?_ ?_; rfl)
            | (refine rg_take 27 (v := ?_) rfl (by kernel_rfl) (by kernel_rfl) (by kernel_rfl) (fun _ _ _ h => h) (HSF.out _ HK26) ?_ ?_ ?_; rotate_left; rfl; focus (intro w hSw; (try dsimp only at hSw); go_simp; all_goals (with_reducible rfl)))
          simp only [Act.put, List.setIfInBounds_toArray, List.set_cons_succ, List.set_cons_zero]
          first
            | (refine rg_skip 28 rfl (by kernel_rfl) (by kernel_rfl) (by kernel_rfl) (fun _ _ _ h => h) (HSF.out _ HK26) ?_ ?_; rfl)
            | (refine rg_take 28 (v := ?_) rfl (by kernel_rfl) (by kernel_rfl) (by kernel_rfl) (fun _ _ _ h => h) (HSF.out _ HK26) ?_ ?_ ?_; rotate_left; rfl; focus (intro w hSw; (try dsimp only at hSw); go_simp; all_goals (with_reducible rfl)))
          simp only [Act.put, List.setIfInBounds_toArray, List.set_cons_succ, List.set_cons_zero]
          refine rl_one 29 rfl (by kernel_rfl) ?_
          refine rl_call 61 _ _ (by rfl) _ Try.func61 (by kernel_rfl) (by kernel_rfl) [] rfl (awake8_calls _) ?_
          rintro e w29 ⟨rfl, hk29⟩
          have HK29 := HK26.trans hk29
          refine ⟨_, rfl, HSF.out _ HK29, ?_⟩
          simp only [Act.put, List.setIfInBounds_toArray, List.set_cons_succ, List.set_cons_zero]
          first
            | (refine rg_skip 30 rfl (by kernel_rfl) (by kernel_rfl) (by kernel_rfl) (fun _ _ _ h => h) (HSF.out _ HK29) ?_ ?_; rfl)
            | (refine rg_take 30 (v := ?_) rfl (by kernel_rfl) (by kernel_rfl) (by kernel_rfl) (fun _ _ _ h => h) (HSF.out _ HK29) ?_ ?_ ?_; rotate_left; rfl; focus (intro w hSw; (try dsimp only at hSw); go_simp; all_goals (with_reducible rfl)))
          simp only [Act.put, List.setIfInBounds_toArray, List.set_cons_succ, List.set_cons_zero]
          first
            | (refine rg_skip 31 rfl (by kernel_rfl) (by kernel_rfl) (by kernel_rfl) (fun _ _ _ h => h) (HSF.out _ HK29) ?_ ?_; rfl)
            | (refine rg_take 31 (v := ?_) rfl (by kernel_rfl) (by kernel_rfl) (by kernel_rfl) (fun _ _ _ h => h) (HSF.out _ HK29) ?_ ?_ ?_; rotate_left; rfl; focus (intro w hSw; (try dsimp only at hSw); go_simp; all_goals (with_reducible rfl)))
          simp only [Act.put, List.setIfInBounds_toArray, List.set_cons_succ, List.set_cons_zero]
          refine wpAnyH_done (by kernel_rfl) ?_ _
          go_wp2_with fail
          go_ret
          exact ⟨rfl, HLM.out.law.keeps.trans HK29⟩
      · as_aux_lemma =>
        refine (gd_buildSliceW 90 ?_)
        refine wl_unguard (by rfl) ?_
        refine wl_sliceA1 rfl _ _ rfl 94 _ 5 56 Try.underlying90 info_bt (by decide) (by decide) (btA (k + 1) 1 (.slice ma 4 mc) 2 0) rfl rfl ?_
        intro b24 w24 hb24 HO24 hk24
        refine till_nil ?_
        have HK24 := HKm.trans hk24
        refine ⟨HSF.out _ HK24, ?_⟩
        simp only [Act.put, List.setIfInBounds_toArray, List.set_cons_succ, List.set_cons_zero]
        refine rl_two 17 18 rfl rfl (by kernel_rfl) ?_ ?_
        · as_aux_lemma =>
          refine rl_call 65 _ _ (by rfl) _ Try.func65 (by kernel_rfl) (by kernel_rfl) [.pointer (some ⟨h.p, 0, none⟩)] rfl (l8_scan (HLM.out.more HK24).law HDN.out.live.ok HTD.out HDN.out.live.ok.len) ?_
          rintro e w17 ⟨lv, rfl, hsc, hk17⟩
          obtain ⟨la, lc, rfl⟩ := hsc.shape
          rw [HLN.out] at hsc ⊢
          have HK17 := HK24.trans hk17
          have HO17 : w17.heap[b24]? = _ := hk17.blk HO24 id
          refine ⟨_, rfl, HSF.out _ HK17, ?_⟩
          simp only [Act.put, List.setIfInBounds_toArray, List.set_cons_succ, List.set_cons_zero]
          refine rl_one 18 rfl (by kernel_rfl) ?_
          refine (gd_buildSliceW 90 ?_)
          refine wl_unguard (by rfl) ?_
          refine wl_sliceA0 rfl _ rfl 94 _ 5 56 Try.underlying90 info_bt ?_
          intro b18 w18 hb18 HE18 hk18
          refine till_nil ?_
          have HK18 := HK17.trans hk18
          have hbm18 : wm.heap.size ≤ b18 := Nat.le_trans HK17.size hb18
          have HO18 : w18.heap[b24]? = _ := hk18.blk HO17 id
          have hne24 : b24 ≠ b18 := ne_new HO17 hb18
          have hk17c : Keeps w17 w17 (fun _ => False) := Keeps.refl _ _
          have h17b : w17.heap.size ≤ b18 := Nat.le_trans hk17c.size hb18
          have HSC : Hid (∀ wX, Keeps w18 wX (fun i => i = b18) → isRdB wX (.slice la (k + 1) lc) (B.take k ++ [⟨k + 1, 1, more8, 2, 0⟩])) := Lib.hid fun wX hk => (hsc.new ((hk17c.trans hk18).then hk (fun i hi e => absurd h17b (by rw [← show i = b18 from e]; exact Nat.not_le.2 hi)))).rd
          have HKB18 : Keeps w18 w18 (fun i => i = b18) := Keeps.refl _ _
          refine ⟨HSF.out _ HK18, ?_⟩
          simp only [Act.put, List.setIfInBounds_toArray, List.set_cons_succ, List.set_cons_zero]
          refine rl_one 22 rfl (by kernel_rfl) ?_
          refine wl_unguard (by rfl) ?_
          refine wl_appendAs rfl _ _ 90 rfl 94 _ 5 56 Try.underlying90 info_bt rfl (by decide) lo (.slice (some ⟨b18, 0, none⟩) 0 0) [] rfl (isOwnA_empty HE18 (Nat.le_trans HLW.out hbm18)) gl 0 k c10 ((btRows B bvs).take k) rfl HRL.out (fun r hr => HRS.out r (List.mem_of_mem_take hr)) (HRC.out _ HK18) (fun r hr => HR1.out r (List.mem_of_mem_take hr)) (by have := HKN.out; show 0 + k ≤ maxLen; unfold maxLen; omega) (by have := HKN.out; show (0 + k) * 56 ≤ _; omega) (Nat.le_trans HLW.out HK18.size) ?_
          intro v22 w22 hap22
          have hA22 := hap22.1
          obtain ⟨va22, vc22, hv22⟩ := hA22.shape
          rw [List.nil_append, HRL.out] at hv22
          subst hv22
          refine till_nil ?_
          rw [List.nil_append] at hA22
          have hS22 : ∀ i, (Value.slice (some ⟨b18, 0, none⟩) 0 0).ownBlock = some i → i = b18 := fun i hi => by simp only [Value.ownBlock, Option.some.injEq] at hi; exact hi.symm
          have HK22 : Keeps wm w22 (fun _ => False) := HK18.then hap22.2.1 (fun i hi hs => absurd hbm18 (by rw [← hS22 i hs]; exact Nat.not_le.2 hi))
          have HKB22 : Keeps w18 w22 (fun i => i = b18) := HKB18.trans (hap22.2.1.mono (fun i _ hs => hS22 i hs))
          have HO22 : w22.heap[b24]? = _ := hap22.2.1.blk HO18 (fun hs => hne24 (hS22 _ hs))
          have hat22 : (Value.slice va22 k vc22).ownBlock = some b18 ∨ ∃ z, (Value.slice va22 k vc22).ownBlock = some z ∧ w18.heap.size ≤ z ∧ z ≠ b24 := hap22.2.2.imp id (fun h1 => ⟨_, h1, HKB18.size, (Nat.ne_of_lt (lt_of_blk HO18)).symm⟩)
          refine ⟨HSF.out _ HK22, ?_⟩
          simp only [Act.put, List.setIfInBounds_toArray, List.set_cons_succ, List.set_cons_zero]
          refine rl_one 25 rfl (by kernel_rfl) ?_
          refine wl_unguard (by rfl) ?_
          have hrl : ((btRows B bvs).take k).length + 1 = k + 1 := by rw [HRL.out]
          refine wl_appendA rfl _ _ 90 rfl 94 _ 5 56 Try.underlying90 info_bt rfl (by decide) lo (.slice va22 k vc22) ((btRows B bvs).take k) rfl hA22 b24 (btA (k + 1) 1 (.slice ma 4 mc) 2 0) rfl HO22 rfl (btA_one rfl) (by rw [hrl]; have := HKN.out; unfold maxLen; omega) (by rw [hrl]; have := HKN.out; omega) (Nat.le_trans HLW.out HK22.size) ?_
          intro v25 w25 hap25
          obtain ⟨va25, vc25, hv25⟩ := hap25.1.shape
          rw [List.length_append, HRL.out, List.length_singleton] at hv25
          subst hv25
          refine till_nil ?_
          have hbts := HBA.out _ _ _ _ HK22 hA22 hap25
          have hwb : wm.heap.size ≤ w18.heap.size := HK18.size
          have HKB25 : Keeps w18 w25 (fun i => i = b18) := HKB22.then hap25.2.1 (fun i hi hs => hat22.elim (fun h1 => by rw [h1] at hs; simp only [Option.some.injEq] at hs; exact hs.symm) (fun ⟨z, h1, h2, _⟩ => by rw [h1] at hs; simp only [Option.some.injEq] at hs; omega))
          have HK25 : Keeps wm w25 (fun _ => False) := HK22.then hap25.2.1 (fun i hi hs => hat22.elim (fun h1 => by rw [h1] at hs; simp only [Option.some.injEq] at hs; omega) (fun ⟨z, h1, h2, _⟩ => by rw [h1] at hs; simp only [Option.some.injEq] at hs; omega))
          refine ⟨HSF.out _ HK25, ?_⟩
          simp only [Act.put, List.setIfInBounds_toArray, List.set_cons_succ, List.set_cons_zero]
          refine rl_one 26 rfl (by kernel_rfl) ?_
          have hsame := sameB_calls w25 _ _ _ _ (HSC.out w25 HKB25) hbts.rd (by have := HKN.out; simp; omega) (by have := HKN.out; simp; omega)
          rw [decide_eq_true rfl] at hsame
          refine rl_call 64 _ _ (by rfl) _ Try.func64 (by kernel_rfl) (by kernel_rfl) [.slice la (k + 1) lc, .slice va25 (k + 1) vc25] rfl hsame ?_
          rintro e w26 ⟨rfl, hk26⟩
          have HK26 := HK25.trans hk26
          refine ⟨_, rfl, HSF.out _ HK26, ?_⟩
          simp only [Act.put, List.setIfInBounds_toArray, List.set_cons_succ, List.set_cons_zero]
          first
            | (refine rg_skip 27 rfl (by kernel_rfl) (by kernel_rfl) (by kernel_rfl) (fun _ _ _ h => h) (HSF.out _ HK26) ?_ ?_; rfl)
            | (refine rg_take 27 (v := ?_) rfl (by kernel_rfl) (by kernel_rfl) (by kernel_rfl) (fun _ _ _ h => h) (HSF.out _ HK26) ?_ ?_ ?_; rotate_left; rfl; focus (intro w hSw; (try dsimp only at hSw); go_simp; all_goals (with_reducible rfl)))
          simp only [Act.put, List.setIfInBounds_toArray, List.set_cons_succ, List.set_cons_zero]
          first
            | (refine rg_skip 28 rfl (by kernel_rfl) (by kernel_rfl) (by kernel_rfl) (fun _ _ _ h => h) (HSF.out _ HK26) ?_ ?_; rfl)
            | (refine rg_take 28 (v := ?_) rfl (by kernel_rfl) (by kernel_rfl) (by kernel_rfl) (fun _ _ _ h => h) (HSF.out _ HK26) ?_ ?_ ?_; rotate_left; rfl; focus (intro w hSw; (try dsimp only at hSw); go_simp; all_goals (with_reducible rfl)))
          simp only [Act.put, List.setIfInBounds_toArray, List.set_cons_succ, List.set_cons_zero]
          refine rl_one 29 rfl (by kernel_rfl) ?_
          refine rl_call 61 _ _ (by rfl) _ Try.func61 (by kernel_rfl) (by kernel_rfl) [] rfl (awake8_calls _) ?_
          rintro e w29 ⟨rfl, hk29⟩
          have HK29 := HK26.trans hk29
          refine ⟨_, rfl, HSF.out _ HK29, ?_⟩
          simp only [Act.put, List.setIfInBounds_toArray, List.set_cons_succ, List.set_cons_zero]
          first
            | (refine rg_skip 30 rfl (by kernel_rfl) (by kernel_rfl) (by kernel_rfl) (fun _ _ _ h => h) (HSF.out _ HK29) ?_ ?_; rfl)
            | (refine rg_take 30 (v := ?_) rfl (by kernel_rfl) (by kernel_rfl) (by kernel_rfl) (fun _ _ _ h => h) (HSF.out _ HK29) ?_ ?_ ?_; rotate_left; rfl; focus (intro w hSw; (try dsimp only at hSw); go_simp; all_goals (with_reducible rfl)))
          simp only [Act.put, List.setIfInBounds_toArray, List.set_cons_succ, List.set_cons_zero]
          first
            | (refine rg_skip 31 rfl (by kernel_rfl) (by kernel_rfl) (by kernel_rfl) (fun _ _ _ h => h) (HSF.out _ HK29) ?_ ?_; rfl)
            | (refine rg_take 31 (v := ?_) rfl (by kernel_rfl) (by kernel_rfl) (by kernel_rfl) (fun _ _ _ h => h) (HSF.out _ HK29) ?_ ?_ ?_; rotate_left; rfl; focus (intro w hSw; (try dsimp only at hSw); go_simp; all_goals (with_reducible rfl)))
          simp only [Act.put, List.setIfInBounds_toArray, List.set_cons_succ, List.set_cons_zero]
          refine wpAnyH_done (by kernel_rfl) ?_ _
          go_wp2_with fail
          go_ret
          exact ⟨rfl, HLM.out.law.keeps.trans HK29⟩
        · as_aux_lemma =>
          refine (gd_buildSliceW 90 ?_)
          refine wl_unguard (by rfl) ?_
          refine wl_sliceA0 rfl _ rfl 94 _ 5 56 Try.underlying90 info_bt ?_
          intro b18 w18 hb18 HE18 hk18
          refine till_nil ?_
          have HK18 := HK24.trans hk18
          have hbm18 : wm.heap.size ≤ b18 := Nat.le_trans HK24.size hb18
          have HO18 : w18.heap[b24]? = _ := hk18.blk HO24 id
          have hne24 : b24 ≠ b18 := ne_new HO24 hb18
          refine ⟨HSF.out _ HK18, ?_⟩
          simp only [Act.put, List.setIfInBounds_toArray, List.set_cons_succ, List.set_cons_zero]
          refine rl_one 17 rfl (by kernel_rfl) ?_
          refine rl_call 65 _ _ (by rfl) _ Try.func65 (by kernel_rfl) (by kernel_rfl) [.pointer (some ⟨h.p, 0, none⟩)] rfl (l8_scan (HLM.out.more HK18).law HDN.out.live.ok HTD.out HDN.out.live.ok.len) ?_
          rintro e w17 ⟨lv, rfl, hsc, hk17⟩
          obtain ⟨la, lc, rfl⟩ := hsc.shape
          rw [HLN.out] at hsc ⊢
          have HK17 := HK18.trans hk17
          have HE17 : w17.heap[b18]? = _ := hk17.blk HE18 id
          have HO17 : w17.heap[b24]? = _ := hk17.blk HO18 id
          have hlt18 := lt_of_blk HE18
          have HSC : Hid (∀ wX, Keeps w17 wX (fun i => i = b18) → isRdB wX (.slice la (k + 1) lc) (B.take k ++ [⟨k + 1, 1, more8, 2, 0⟩])) := Lib.hid fun wX hk => (hsc.kept hk (fun g h1 _ e => absurd h1 (Nat.not_le.2 (by rw [show g = b18 from e]; exact hlt18)))).rd
          have HKB17 : Keeps w17 w17 (fun i => i = b18) := Keeps.refl _ _
          refine ⟨_, rfl, HSF.out _ HK17, ?_⟩
          simp only [Act.put, List.setIfInBounds_toArray, List.set_cons_succ, List.set_cons_zero]
          refine rl_one 22 rfl (by kernel_rfl) ?_
          refine wl_unguard (by rfl) ?_
          refine wl_appendAs rfl _ _ 90 rfl 94 _ 5 56 Try.underlying90 info_bt rfl (by decide) lo (.slice (some ⟨b18, 0, none⟩) 0 0) [] rfl (isOwnA_empty HE17 (Nat.le_trans HLW.out hbm18)) gl 0 k c10 ((btRows B bvs).take k) rfl HRL.out (fun r hr => HRS.out r (List.mem_of_mem_take hr)) (HRC.out _ HK17) (fun r hr => HR1.out r (List.mem_of_mem_take hr)) (by have := HKN.out; show 0 + k ≤ maxLen; unfold maxLen; omega) (by have := HKN.out; show (0 + k) * 56 ≤ _; omega) (Nat.le_trans HLW.out HK17.size) ?_
          intro v22 w22 hap22
          have hA22 := hap22.1
          obtain ⟨va22, vc22, hv22⟩ := hA22.shape
          rw [List.nil_append, HRL.out] at hv22
          subst hv22
          refine till_nil ?_
          rw [List.nil_append] at hA22
          have hS22 : ∀ i, (Value.slice (some ⟨b18, 0, none⟩) 0 0).ownBlock = some i → i = b18 := fun i hi => by simp only [Value.ownBlock, Option.some.injEq] at hi; exact hi.symm
          have HK22 : Keeps wm w22 (fun _ => False) := HK17.then hap22.2.1 (fun i hi hs => absurd hbm18 (by rw [← hS22 i hs]; exact Nat.not_le.2 hi))
          have HKB22 : Keeps w17 w22 (fun i => i = b18) := HKB17.trans (hap22.2.1.mono (fun i _ hs => hS22 i hs))
          have HO22 : w22.heap[b24]? = _ := hap22.2.1.blk HO17 (fun hs => hne24 (hS22 _ hs))
          have hat22 : (Value.slice va22 k vc22).ownBlock = some b18 ∨ ∃ z, (Value.slice va22 k vc22).ownBlock = some z ∧ w17.heap.size ≤ z ∧ z ≠ b24 := hap22.2.2.imp id (fun h1 => ⟨_, h1, HKB17.size, (Nat.ne_of_lt (lt_of_blk HO17)).symm⟩)
          refine ⟨HSF.out _ HK22, ?_⟩
          simp only [Act.put, List.setIfInBounds_toArray, List.set_cons_succ, List.set_cons_zero]
          refine rl_one 25 rfl (by kernel_rfl) ?_
          refine wl_unguard (by rfl) ?_
          have hrl : ((btRows B bvs).take k).length + 1 = k + 1 := by rw [HRL.out]
          refine wl_appendA rfl _ _ 90 rfl 94 _ 5 56 Try.underlying90 info_bt rfl (by decide) lo (.slice va22 k vc22) ((btRows B bvs).take k) rfl hA22 b24 (btA (k + 1) 1 (.slice ma 4 mc) 2 0) rfl HO22 rfl (btA_one rfl) (by rw [hrl]; have := HKN.out; unfold maxLen; omega) (by rw [hrl]; have := HKN.out; omega) (Nat.le_trans HLW.out HK22.size) ?_
          intro v25 w25 hap25
          obtain ⟨va25, vc25, hv25⟩ := hap25.1.shape
          rw [List.length_append, HRL.out, List.length_singleton] at hv25
          subst hv25
          refine till_nil ?_
          have hbts := HBA.out _ _ _ _ HK22 hA22 hap25
          have hwb : wm.heap.size ≤ w17.heap.size := HK17.size
          have HKB25 : Keeps w17 w25 (fun i => i = b18) := HKB22.then hap25.2.1 (fun i hi hs => hat22.elim (fun h1 => by rw [h1] at hs; simp only [Option.some.injEq] at hs; exact hs.symm) (fun ⟨z, h1, h2, _⟩ => by rw [h1] at hs; simp only [Option.some.injEq] at hs; omega))
          have HK25 : Keeps wm w25 (fun _ => False) := HK22.then hap25.2.1 (fun i hi hs => hat22.elim (fun h1 => by rw [h1] at hs; simp only [Option.some.injEq] at hs; omega) (fun ⟨z, h1, h2, _⟩ => by rw [h1] at hs; simp only [Option.some.injEq] at hs; omega))
          refine ⟨HSF.out _ HK25, ?_⟩
          simp only [Act.put, List.setIfInBounds_toArray, List.set_cons_succ, List.set_cons_zero]
          refine rl_one 26 rfl (by kernel_rfl) ?_
          have hsame := sameB_calls w25 _ _ _ _ (HSC.out w25 HKB25) hbts.rd (by have := HKN.out; simp; omega) (by have := HKN.out; simp; omega)
          rw [decide_eq_true rfl] at hsame
          refine rl_call 64 _ _ (by rfl) _ Try.func64 (by kernel_rfl) (by kernel_rfl) [.slice la (k + 1) lc, .slice va25 (k + 1) vc25] rfl hsame ?_
          rintro e w26 ⟨rfl, hk26⟩
          have HK26 := HK25.trans hk26
          refine ⟨_, rfl, HSF.out _ HK26, ?_⟩
          simp only [Act.put, List.setIfInBounds_toArray, List.set_cons_succ, List.set_cons_zero]
          first
            | (refine rg_skip 27 rfl (by kernel_rfl) (by kernel_rfl) (by kernel_rfl) (fun _ _ _ h => h) (HSF.out _ HK26) ?_ ?_; rfl)
            | (refine rg_take 27 (v := ?_) rfl (by kernel_rfl) (by kernel_rfl) (by kernel_rfl) (fun _ _ _ h => h) (HSF.out _ HK26) ?_ ?_ ?_; rotate_left; rfl; focus (intro w hSw; (try dsimp only at hSw); go_simp; all_goals (with_reducible rfl)))
          simp only [Act.put, List.setIfInBounds_toArray, List.set_cons_succ, List.set_cons_zero]
          first
            | (refine rg_skip 28 rfl (by kernel_rfl) (by kernel_rfl) (by kernel_rfl) (fun _ _ _ h => h) (HSF.out _ HK26) ?_ ?_; rfl)
            | (refine rg_take 28 (v := ?_) rfl (by kernel_rfl) (by kernel_rfl) (by kernel_rfl) (fun _ _ _ h => h) (HSF.out _ HK26) ?_ ?_ ?_; rotate_left; rfl; focus (intro w hSw; (try dsimp only at hSw); go_simp; all_goals (with_reducible rfl)))
          simp only [Act.put, List.setIfInBounds_toArray, List.set_cons_succ, List.set_cons_zero]
          refine rl_one 29 rfl (by kernel_rfl) ?_
          refine rl_call 61 _ _ (by rfl) _ Try.func61 (by kernel_rfl) (by kernel_rfl) [] rfl (awake8_calls _) ?_
          rintro e w29 ⟨rfl, hk29⟩
          have HK29 := HK26.trans hk29
          refine ⟨_, rfl, HSF.out _ HK29, ?_⟩
          simp only [Act.put, List.setIfInBounds_toArray, List.set_cons_succ, List.set_cons_zero]
          first
            | (refine rg_skip 30 rfl (by kernel_rfl) (by kernel_rfl) (by kernel_rfl) (fun _ _ _ h => h) (HSF.out _ HK29) ?_ ?_; rfl)
            | (refine rg_take 30 (v := ?_) rfl (by kernel_rfl) (by kernel_rfl) (by kernel_rfl) (fun _ _ _ h => h) (HSF.out _ HK29) ?_ ?_ ?_; rotate_left; rfl; focus (intro w hSw; (try dsimp only at hSw); go_simp; all_goals (with_reducible rfl)))
          simp only [Act.put, List.setIfInBounds_toArray, List.set_cons_succ, List.set_cons_zero]
          first
            | (refine rg_skip 31 rfl (by kernel_rfl) (by kernel_rfl) (by kernel_rfl) (fun _ _ _ h => h) (HSF.out _ HK29) ?_ ?_; rfl)
            | (refine rg_take 31 (v := ?_) rfl (by kernel_rfl) (by kernel_rfl) (by kernel_rfl) (fun _ _ _ h => h) (HSF.out _ HK29) ?_ ?_ ?_; rotate_left; rfl; focus (intro w hSw; (try dsimp only at hSw); go_simp; all_goals (with_reducible rfl)))
          simp only [Act.put, List.setIfInBounds_toArray, List.set_cons_succ, List.set_cons_zero]
          refine wpAnyH_done (by kernel_rfl) ?_ _
          go_wp2_with fail
          go_ret
          exact ⟨rfl, HLM.out.law.keeps.trans HK29⟩
end Go.Proofs.Ytadjcdfmppcpnaa
