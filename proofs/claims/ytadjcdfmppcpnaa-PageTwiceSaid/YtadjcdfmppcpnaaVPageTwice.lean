import Derived.Test.YtadjcdfmppcpnaaYH4
import Derived.Test.YtadjcdfmppcpnaaS13
import Derived.Test.YtadjcdfmppcpnaaYW9c
import Derived.Test.YtadjcdfmppcpnaaArg
/-! Layer 9: the walk of PageTwice. -/
namespace Go.Proofs.Ytadjcdfmppcpnaa
open Go Go.RowKit Go.Maps Wb

def natI (l : List Nat) : List Int := l.map fun (k : Nat) => (k : Int)
/-- What stands behind i commits: the file, the row of the last one. -/
def TwRel (w : World) (f : Nat) (h : DH) (i : Nat) (v : Value) (wr : World) : Prop :=
  ∃ F ids, TwOk (16 + 32 * i) ids [] F ∧ ids.Nodup ∧ Rising F (natI ids) ∧ F.mt.gen = i + 1 ∧ F.dead = false ∧ isOwn wr w.heap.size 3 v (intV (natI ids)) ∧ Law9 w wr f h F (fun g => v.ownBlock = some g)
def TwIn (w : World) (f : Nat) (h : DH) (i j : Nat) (v : Value) (wr : World) : Prop :=
  ∃ F ids news, TwOk (16 + 32 * i + 8 * j) ids news F ∧ news.length = j ∧ F.mt.gen = i + 1 ∧ F.dead = false ∧ isOwn wr w.heap.size 3 v (intV (natI news)) ∧ Law9 w wr f h F (fun g => v.ownBlock = some g)
theorem own_lt {w0 w : World} {e : TypeId} {v : Value} {vs : List Value} (h : isOwn w w0.heap.size e v vs) : ∀ g, v.ownBlock = some g → g < w.heap.size := fun g hg => (h.blk g hg).2
theorem Law9.none {w0 w : World} {f : Nat} {dv : DH} {F : Pg} {X : Nat → Prop} (h : Law9 w0 w f dv F X) : Law9 w0 w f dv F (fun g => (Value.slice none 0 0).ownBlock = some g) := h.more (Keeps.refl _ _) (fun i hi => by cases hi) (fun i hi => by cases hi)
theorem l_keep {w0 w : World} {f : Nat} {dv : DH} {F : Pg} {X : Nat → Prop} {v : Value} {ids : List Int} (h : Law9 w0 w f dv F X) (hv : isRd w v (intV ids)) (hg : ∀ g, v.ownBlock = some g → ids = [] ∨ ((X g ∨ g < w0.heap.size) ∧ g < w.heap.size)) (hl : ids.length ≤ 140737488351232) (hr : Rising F ids) :
    Calls Try.prog 57 #[.pointer (some ⟨f, 0, none⟩), v] w fun e w2 => e = .returned (.int .i64 0) ∧ Law9 w0 w2 f dv (keepP F ids) X ∧ Keeps w w2 (Apart w0 X) := by
  obtain ⟨bu, fv, h1, h2, h3, h4⟩ := h
  refine (keep_yes w _ F h1 v ids hv (fun g hgg => (hg g hgg).imp id (fun hh => ⟨fun hs => ?_, hh.2⟩)) hl (risingB_true hr)).mono ?_
  · rcases hh.1 with hx | hx
    · exact (h2 g hs).1 hx
    · exact absurd (h2 g hs).2 (Nat.not_le.2 hx)
  · intro e w2 hp
    exact law_of_post h2 h3 h4 hp
theorem tw_mono {L L2 : Nat} {ids news : List Nat} {F : Pg} (h : TwOk L ids news F) (hL : L ≤ L2) : TwOk L2 ids news F := by
  obtain ⟨⟨ss, a, b, c⟩, h2, h3, h4, h5⟩ := h
  exact ⟨⟨ss, a, Nat.le_trans b hL, c⟩, h2, h3, h4, h5⟩
theorem kOk_wrap (n : Int) : kOk (wrap64 n) := by
  unfold kOk wrap64
  omega
theorem natI_len (l : List Nat) : (natI l).length = l.length := by simp [natI]
theorem intV_app (l m : List Int) : intV (l ++ m) = intV l ++ intV m := by simp [intV]
theorem sameI_refl (l : List Nat) : decide (natI l = natI l) = true := by simp

set_option maxRecDepth 100000 in
set_option maxHeartbeats 16000000 in
theorem pageTwice_walk (w : World) (v : Value) (xs : List Int) (hv : isInts w (fun g => g < w.heap.size) v xs) : Calls Try.prog 13 #[v] w (Quiet w (.bool true)) := by
  obtain ⟨D1, E1, E2, E3, E4⟩ := tw_start
  have H1 := Lib.hid E1
  have H2 := Lib.hid E2
  have H3 := Lib.hid E3
  have H4 := Lib.hid E4
  obtain ⟨a, cap, rfl, hl1, hl2, hl3, hx4⟩ := hv
  have hli : (xs.length : Int) ≤ 140737488351232 := by omega
  have HC : Hid (∀ (q : Nat), q < xs.length → ∃ g o x, kOk x ∧ a = some ⟨g, o, none⟩ ∧ g < w.heap.size ∧ w.cell? ⟨g, o + q, none⟩ = some (.int .i64 x)) := by
    intro q hq
    rcases hx4 with rfl | ⟨g, o, rfl, _, hg, hc⟩
    · simp at hq
    · exact ⟨g, o, xs[q]'hq, hl3 _ (List.getElem_mem _), rfl, hg, hc q _ (List.getElem?_eq_getElem _)⟩
  clear E1 E2 E3 E4 hx4 hl3
  go_enter Try.func13, Try.ntmps13
  go_wp2_with fail
  refine new_any _ _ fun h w1 hd1 hk1 hS => ?_
  go_wp2_with fail
  refine l_open (w0 := w) (X := fun _ => False) hd1 (openE_files _) H1.out H2.out (fun _ h => h.elim) hS hk1 fun f w2 hL2 _ => ?_
  have HREL0 : Hid (TwRel w f h 0 (.slice none 0 0) w2) := Lib.hid ⟨_, [], H3.out, List.nodup_nil, rising_nil _, by rw [H4.out]; rfl, rfl, isOwn_nil _ _ _, hL2.none⟩
  clear hd1 hk1 hS hL2
  go_upto_block 0 with fail
  go_cut [6, 7] (fun v6 v7 wx => ∃ q : Nat, q ≤ 10 ∧ Hid (TwRel w f h q v6 wx))
  case first =>
    go_wp2_with fail
    go_loopw [6, 7] (fun v6 i wr => ∃ q : Nat, q ≤ 10 ∧ i = .int .i64 q ∧ Hid (TwRel w f h q v6 wr)) (fun _ i _ => 10 - (intOf i).toNat)
    case atStart => exact ⟨0, Nat.zero_le _, rfl, HREL0⟩
    case round =>
      clear HREL0
      obtain ⟨q, hq, rfl, hrel⟩ := hrel
      have hq0 : (0 : Int) ≤ q := by omega
      have hqi : (q : Int) ≤ 10 := by omega
      by_cases hlt : q < xs.length ∧ q < 10
      · have hlt1 : decide (q < xs.length) = true := by simpa using hlt.1
        have hql : (q : Int) < xs.length := by omega
        have hq2 : (q : Int) < 10 := by omega
        have hlt2 : decide ((q : Int) < 10) = true := by simp; omega
        obtain ⟨g, o, x, hx, rfl, hg, hcw⟩ := HC.out q hlt.1
        obtain ⟨F, ids, htw, hnd, _, hgen, hdead, hown, hL⟩ := hrel.out
        obtain ⟨e, he, he2⟩ : ∃ e : Nat, x % 4 = e ∧ e < 4 := ⟨(x % 4).toNat, by omega, by omega⟩
        have hm3 : bits BinOp.and IntKind.i64 x 3 = e := by rw [mask3, he]
        have hei : (e : Int) < 4 := by omega
        have he0 : (0 : Int) ≤ e := by omega
        have hx1 : -9223372036854775808 ≤ x := hx.1
        have hx2 : x ≤ 9223372036854775807 := hx.2
        have HIN0 : Hid (TwIn w f h q 0 (.slice none 0 0) wr) := Lib.hid ⟨F, ids, [], tw_mono htw (by omega), rfl, hgen, hdead, isOwn_nil _ _ _, hL.none⟩
        have HCW := Lib.hid hcw
        have HQ := Lib.hid hlt.2
        clear htw hnd hgen hdead hown hL hrel hlt he hcw
        obtain ⟨wo, rfl⟩ : ∃ wo : World, wo = wr := ⟨_, rfl⟩
        go_wp2_with fail
        go_loopw [6, 8] (fun v6 k wr => ∃ j : Nat, j ≤ e + 1 ∧ k = .int .i64 j ∧ Hid (TwIn w f h q j v6 wr)) (fun _ k _ => e + 1 - (intOf k).toNat)
        case atStart => exact ⟨0, Nat.zero_le _, rfl, HIN0⟩
        case round =>
          clear HIN0
          obtain ⟨j, hj, rfl, hin⟩ := hrel
          have hj0 : (0 : Int) ≤ j := by omega
          obtain ⟨F2, ids2, news, htw, hnl, hgen, hdead, hown, hL⟩ := hin.out
          have hcx : wr.cell? ⟨g, o + q, none⟩ = some (.int .i64 x) := (hL.keeps.cell (p := ⟨g, o + q, none⟩) hg id).trans HCW.out
          by_cases hjl : j ≤ e
          · have hjb : decide (j ≤ e) = true := decide_eq_true hjl
            have hji : (j : Int) ≤ e := by omega
            have HZZ := Lib.hid (kOk_wrap (x + (j : Int)))
            have HTW := Lib.hid htw
            have HNL := Lib.hid hnl
            have HGEN := Lib.hid hgen
            have HDEAD := Lib.hid hdead
            have HOWN := Lib.hid hown
            have HL := Lib.hid hL
            have HFL : Hid (F2.fresh.length ≤ 1000000) := Lib.hid (by rw [htw.fresh, hnl]; omega)
            clear htw hnl hgen hdead hown hin
            go_wp2_with fail
            generalize wrap64 (x + (j : Int)) = z at *
            refine (fill_calls _ z HZZ.out).mono ?_
            rintro ef w3 ⟨bv, rfl, ho3, hk3⟩
            go_wp2_with fail
            refine (l_put (b := fillL z) hL HDEAD.out hk3 (isOwn.rd ho3) (own_new ho3) (fillL_le _) HFL.out).mono ?_
            rintro ep w4 ⟨p, hp, he, hL4, hk4⟩
            obtain ⟨F3, g1, g2, g3, g4⟩ := tw_put HTW.out (fillL z) hp (by have := HQ.out; omega)
            rw [g1] at he hL4
            dsimp only at he hL4
            rw [if_pos rfl] at he
            subst he
            have hp2 := (g4.rng p (.inr (by simp))).2
            have hps := pages_small hL4.wf
            have hown4 : isOwn w4 w.heap.size 3 u6 (intV (natI news)) := isOwn.kept (HOWN.out.new hk3) hk4 (fun gg hgg hh => hh.1 hgg)
            have HOWN4 := Lib.hid hown4
            have HL4 := Lib.hid hL4
            have HSZ4 := Lib.hid (hL4.keeps.size)
            have hpi : (p : Int) ≤ 20000 := by omega
            have hp0 : (0 : Int) ≤ p := by omega
            have hl1 : (intV (natI news)).length + 1 ≤ maxLen := by rw [intV_len, natI_len, HNL.out]; simp only [maxLen]; omega
            have hl2 : ((intV (natI news)).length + 1) * 8 ≤ 140737488355328 := by rw [intV_len, natI_len, HNL.out]; omega
            have HG2 := Lib.hid (show F3.mt.gen = q + 1 by rw [g3, HGEN.out])
            have HG4 := Lib.hid g4
            have HD3 := Lib.hid g2
            clear g1 g2 g3 g4 hp hp2 hps hown4 hL hL4 hk3 hk4 ho3 hcx
            go_wp2_with (first
              | (refine wl_slice1 rfl _ _ rfl 3 _ 8 Try.underlying22 info_int rfl (.int .i64 p) rfl rfl ?_; intro bb w5 hbb HB5 HK5)
              | (at_builtin; refine wl_appendN rfl _ _ 22 rfl 3 _ 8 Try.underlying22 info_int rfl w.heap.size u6 (intV (natI news)) rfl (HOWN4.out.new HK5) _ [.int .i64 p] rfl (isVals_one (ok := fun _ => True) HB5 trivial).rd (fun _ h => by cases h) (by simp; rfl) hl1 hl2 (Nat.le_trans HSZ4.out HK5.size) ?_; intro v' w6 hap)
              | fail)
            have HREL : Hid (TwIn w f h q (j + 1) v' w6) := by
              have hL5 := HL4.out.new HK5
              have ho5 := HOWN4.out.new HK5
              have hL6 : Law9 w w6 f h F3 (fun gg => u6.ownBlock = some gg) := hL5.wrote hap.2.1 (fun i hi => (ho5.blk i hi).1)
              have hL7 : Law9 w w6 f h F3 (fun gg => v'.ownBlock = some gg) := by
                obtain ⟨bu, fv, k1, k2, k3, k4⟩ := hL5
                refine ⟨bu, fv, k1.kept hap.2.1 (fun i hi hs => (k2 i hs).1 hi), fun i hi => ⟨fun hv => ?_, (k2 i hi).2⟩, fun i hi => (hap.1.blk i hi).2, hL6.keeps⟩
                rcases hap.2.2 with h1 | h1
                · exact (k2 i hi).1 (h1 ▸ hv)
                · have h2 := k1.lt hi
                  rw [h1] at hv
                  simp only [Option.some.injEq] at hv
                  omega
              refine Lib.hid ⟨F3, ids2, news ++ [p], tw_mono HG4.out (by omega), by rw [List.length_append, HNL.out]; rfl, HG2.out, HD3.out, ?_, hL7⟩
              have : intV (natI (news ++ [p])) = intV (natI news) ++ [.int .i64 p] := by simp [intV, natI]
              rw [this]
              exact hap.1
            clear hap HB5 HK5 hbb
            go_roundw
            case rel => exact ⟨j + 1, by omega, by go_num, HREL⟩
            case measure => simp [intOf]; omega
          · have hjb : decide (j ≤ e) = false := decide_eq_false hjl
            obtain rfl : j = e + 1 := by omega
            have hnil : ∀ cap, u6 = .slice none 0 cap → cap = 0 := isOwn.nilcap hown
            have hkw3 : IntKind.u64.wrap (q : Int) = q := by rw [wrap_u64]; omega
            have HKW3 := Lib.hid hkw3
            clear hkw3 hin hjl hj
            go_wp2_with fail
            refine (sorted_calls _ _ (natI news) (isOwn.rd hown) hnil (by rw [natI_len]; omega)).mono ?_
            rintro es w3 ⟨sv, ys, rfl, hso, hsp, hst, hk3⟩
            have hyl : ys.length = e + 1 := by rw [hsp.length_eq, natI_len, hnl]
            obtain ⟨root, hroot⟩ : ∃ root, ys[0]? = some root := ⟨_, List.getElem?_eq_getElem (by omega)⟩
            obtain ⟨D2, c1, c2, c3, c4, c5, c6, ids3, c7, c8, c9⟩ := tw_commit htw (by omega) hsp hst hroot (i := q) (by omega) hgen
            have hL3 : Law9 w w3 f h F2 (fun gg => sv.ownBlock = some gg) := hL.more hk3 (fun i hi => .inr (hso.blk i hi).1) (fun i hi => (hso.blk i hi).2)
            obtain ⟨sg, scap, hsv, hsc, _, hsg, hscell⟩ := isOwn.at hso (intV_at hroot)
            subst hsv
            have hsvv : (Value.slice (some ⟨sg, 0, none⟩) (intV ys).length scap) = .slice (some ⟨sg, 0, none⟩) (e + 1) scap := by rw [intV_len, hyl]
            rw [hsvv] at hso hL3 ⊢
            have HWR := Lib.hid hL.keeps.size
            have HSO := Lib.hid hso
            have HCM : Hid (Calls Try.prog 45 #[.pointer (some ⟨f, 0, none⟩), .int .i64 root, .int .i64 q, .int .u64 q, .slice (some ⟨sg, 0, none⟩) (e + 1) scap] w3 fun ee w2 => ee = .returned (.int .i64 0) ∧ Law9 w w2 f h (keepP { F2 with d := D2, mt := nextMt F2 root q q } ys) (fun gg => (Value.slice (some ⟨sg, 0, none⟩) (e + 1) scap).ownBlock = some gg) ∧ Keeps w3 w2 (Apart w (fun gg => (Value.slice (some ⟨sg, 0, none⟩) (e + 1) scap).ownBlock = some gg))) :=
              Lib.hid (l_commit (mark := q) hL3 c5 (isOwn.rd hso) (fun gg hgg => .inr ⟨.inl hgg, (hso.blk gg hgg).2⟩) (by omega) c3 c4 (by omega) c1 c2)
            have HTW := Lib.hid c9
            have HRI : Hid (Rising (keepP { F2 with d := D2, mt := nextMt F2 root q q } ys) ys) := Lib.hid (rising_pages c2 c3.1)
            have HC6 := Lib.hid c6
            have HC7 := Lib.hid c7
            have HC8 := Lib.hid c8
            have HC5 := Lib.hid c5
            have he10 : (0 : Int) < (e : Int) + 1 := by omega
            have he11 : (((e + 1 : Nat)) : Int) = (e : Int) + 1 := by omega
            clear c1 c2 c3 c4 c5 c6 c7 c8 c9 hsvv hL3 hso hL hown hsp hst hroot htw hgen hdead hnl hyl hk3 hcx
            go_wp2_with fail
            refine HCM.out.mono ?_
            rintro ec w4 ⟨rfl, hL4, hk4⟩
            have HREL : Hid (TwRel w f h (q + 1) (.slice (some ⟨sg, 0, none⟩) (e + 1) scap) w4) := by
              refine Lib.hid ⟨_, ids3, tw_mono HTW.out (by omega), HC8.out, by have := HRI.out; rw [HC7.out] at this; exact this, HC6.out, HC5.out, ?_, hL4⟩
              have h1 := isOwn.kept HSO.out hk4 (fun gg hgg hh => hh.1 hgg)
              rw [HC7.out] at h1
              exact isOwn.low h1 HWR.out
            clear hL4 hk4
            go_wp2_with fail
            go_roundw
            case rel => exact ⟨q + 1, HQ.out, by go_num, HREL⟩
            case measure => have := HQ.out; simp [intOf]; omega
      · have hout : (decide (q < xs.length) = false ∧ True) ∨ (decide (q < xs.length) = true ∧ decide ((q : Int) < 10) = false) := by
          rcases Nat.lt_or_ge q xs.length with h1 | h1
          · right; simp; omega
          · left; simp; omega
        clear hlt
        rcases hout with ⟨h1, h2⟩ | ⟨h1, h2⟩
        all_goals
          go_wp2_with fail
          go_meet
          exact ⟨q, hq, hrel⟩
  case rest =>
    clear HREL0 HC
    obtain ⟨q, hq, hrel⟩ := hcut
    obtain ⟨F, ids, htw, hnd, hris, _, _, hown, hL⟩ := hrel.out
    obtain ⟨D', o1, o2, o3, o4, o5, o6, o7, o8, o9⟩ := tw_open htw hnd
    obtain ⟨ss, k1, _⟩ := htw.ok
    have hfl := nd_files k1.nd
    have hmo := k1.mok.ok
    have hris2 : Rising (openP D') (natI ids) := rising_pages (show pagesOf (openP D').d = pagesOf F.d from o4) hris
    have hpgs := pages_small hL.wf
    have hidl : ids.length + 2 ≤ pagesOf F.d := by omega
    have O1 := Lib.hid o1
    have O2 := Lib.hid o2
    have O3 := Lib.hid o3
    have O4 := Lib.hid o4
    have O5 := Lib.hid o5
    have O7 : Hid (freeOf (keepP (openP D') (natI ids)) = freeOf F) := Lib.hid o7
    have O8 := Lib.hid o8
    have O9 := Lib.hid o9
    have HFLL := Lib.hid hfl
    have HR2 := Lib.hid hris2
    have HL := Lib.hid hL
    have HOWN := Lib.hid hown
    obtain ⟨av, cv, hav, hcv, _⟩ := isOwn.rd hown
    rw [intV_len, natI_len] at hav
    subst hav
    have HIDL := Lib.hid hidl
    have HPGS := Lib.hid hpgs
    clear o1 o2 o3 o4 o5 o6 o7 o8 o9 k1 hfl hris hris2 hrel htw hnd hown hidl hpgs hcv
    go_wp2_with fail
    refine (copy_calls _ h F.d hL.dev).mono ?_
    rintro e w3 ⟨h2, rfl, hd3, hS3, hk3⟩
    go_wp2_with fail
    refine l_open (w0 := wc) (X := fun _ => False) hd3 HFLL.out O1.out O2.out (fun _ h => h.elim) hS3 hk3 fun g w4 hG4 _ => ?_
    clear hd3 hS3 hk3 hL
    go_wp2_with fail
    refine (l_meta hG4).mono ?_
    rintro e w5 ⟨he, hG5, _⟩
    rw [O3.out] at he
    subst he
    go_wp2_with fail
    refine (l_meta (HL.out.new hG5.keeps)).mono ?_
    rintro e w6 ⟨rfl, _, hk6⟩
    have hG6 := hG5.new hk6
    go_wp2_with (first
      | ((with_reducible refine gd_bin 66 ?_); refine wl_bin (by rfl) _ _ _ _ _ rfl (.agg (metaA F.mt)) (.agg (metaA F.mt)) rfl rfl (.bool false) (fun W => run_guard_mt W _ _ _ _ _) (neq_mt hmo hmo _ (by simp)) ?_)
      | fail)
    refine (l_len hG6).mono ?_
    rintro e w' ⟨he, rfl⟩
    rw [show pagesOf (openP D').d = pagesOf F.d from O4.out] at he
    subst he
    go_wp2_with fail
    refine (l_len (HL.out.new hG6.keeps)).mono ?_
    rintro e w' ⟨rfl, rfl⟩
    go_wp2_with fail
    refine (l_free hG6).mono ?_
    rintro e w7 ⟨v7, rfl, ho7, hG7, _⟩
    rw [O5.out] at ho7
    have hr7 : isRd w7 v7 [] := isOwn.rd ho7
    obtain ⟨va, vc, rfl, _⟩ := hr7
    clear ho7
    have hv7 : isRd w7 (.slice av ids.length cv) (intV (natI ids)) := isOwn.rd (isOwn.new HOWN.out hG7.keeps)
    go_wp2_with fail
    refine (l_keep hG7 hv7 (fun gg hgg => .inr ⟨.inr (HOWN.out.blk gg hgg).2, Nat.lt_of_lt_of_le (HOWN.out.blk gg hgg).2 hG7.keeps.size⟩) (by rw [natI_len]; have := HIDL.out; have := HPGS.out; omega) HR2.out).mono ?_
    rintro e w8 ⟨rfl, hG8, _⟩
    clear hv7
    go_wp2_with fail
    refine (l_free hG8).mono ?_
    rintro e w9 ⟨v9, rfl, ho9, hG9, _⟩
    rw [O7.out, intsV_intV] at ho9
    go_wp2_with fail
    refine (l_free (HL.out.new hG9.keeps)).mono ?_
    rintro e w10 ⟨v10, rfl, ho10, _, hk10⟩
    rw [intsV_intV] at ho10
    have hG10 := hG9.new hk10
    have hfl9 : (freeOf F).length ≤ 140737488351232 := by have := O8.out; have := HPGS.out; omega
    go_wp2_with fail
    refine (sameInts_calls _ v9 v10 (natI (freeOf F)) (natI (freeOf F)) (isOwn.rd (isOwn.new ho9 hk10)) (isOwn.rd ho10) (by rw [natI_len]; exact hfl9) (by rw [natI_len]; exact hfl9)).mono ?_
    rintro e w11 ⟨he, hk11⟩
    rw [sameI_refl] at he
    subst he
    have hG11 := hG10.new hk11
    have HREL0 : Hid (Law9 wc w11 g h2 (keepP (openP D') (natI ids)) (fun _ => False)) := Lib.hid hG11
    have hidi : (ids.length : Int) ≤ 20000 := by have := HIDL.out; have := HPGS.out; omega
    clear hG4 hG5 hG6 hG7 hG8 hG9 hG10 hG11 hk6 hk10 hk11 ho9 ho10 hfl9
    go_wp2_with fail
    go_loopw [13] (fun i wr => ∃ k : Nat, k ≤ ids.length ∧ i = .int .i64 k ∧ Hid (Law9 wc wr g h2 (keepP (openP D') (natI ids)) (fun _ => False))) (fun i _ => ids.length - (intOf i).toNat)
    case atStart => exact ⟨0, Nat.zero_le _, rfl, HREL0⟩
    case round =>
      clear HREL0
      obtain ⟨k, hk, rfl, hrel⟩ := hrel
      have hk0 : (0 : Int) ≤ k := by omega
      by_cases hlt : k < ids.length
      · have hlb : decide (k < ids.length) = true := by simpa using hlt
        have hk9 : (k : Int) < ids.length := by omega
        obtain ⟨id, hid⟩ : ∃ id, ids[k]? = some id := ⟨_, List.getElem?_eq_getElem hlt⟩
        have hidn : (natI ids)[k]? = some (id : Int) := by simp [natI, hid]
        obtain ⟨r1, r2, r3⟩ := O9.out id (List.mem_of_getElem? hid)
        obtain ⟨l, hl⟩ : ∃ l, readP F id = (l, 0) := ⟨(readP F id).1, by rw [← r1]⟩
        rw [hl] at r2 r3
        have R1 := Lib.hid hl
        have R2 : Hid (readP (keepP (openP D') (natI ids)) id = (l, 0)) := Lib.hid r2
        have HNE : Hid (l ≠ []) := Lib.hid (fun h0 => by rw [h0] at r3; cases r3)
        obtain ⟨gg, cap', he, _, _, _, hcell⟩ := isOwn.at (isOwn.new HOWN.out hrel.out.keeps) (intV_at hidn)
        simp only [Value.slice.injEq] at he
        obtain ⟨rfl, h9, rfl⟩ := he
        clear h9
        have hG := hrel.out
        have hcw : wc.cell? ⟨gg, k, none⟩ = some (.int .i64 id) := (isOwn_cell HOWN.out (intV_at hidn)).1
        have hcg : ∀ wx, Law9 wc wx g h2 (keepP (openP D') (natI ids)) (fun _ => False) → wx.cell? ⟨gg, k, none⟩ = some (.int .i64 id) := fun wx hx => Keeps.cellK hx.keeps hcw
        have HCG := Lib.hid hcg
        have HLT := Lib.hid hlt
        clear hrel r1 r2 r3 hl hid hidn hcg hcw hlt
        go_wp2_with fail
        refine (l_read (HL.out.new hG.keeps) id).mono ?_
        rintro e w12 ⟨v12, he, ho12, _, hk12⟩
        rw [R1.out] at he ho12
        dsimp only at he ho12
        subst he
        have hG12 := hG.new hk12
        have hcell2 := HCG.out _ hG12
        clear hcell
        go_wp2_with fail
        refine (l_read hG12 id).mono ?_
        rintro e w13 ⟨v13, he, ho13, hG13, hk13⟩
        rw [R2.out] at he ho13
        dsimp only at he ho13
        subst he
        have hcv1 := run_string (isOwn.rd (isOwn.new ho12 hk13)) HNE.out
        have hcv2 := run_string (isOwn.rd ho13) HNE.out
        have HREL := Lib.hid hG13
        clear hG hG12 hG13 hcell2 ho12 ho13 hk12 hk13
        go_wp2_with fail
        go_roundw
        case rel => exact ⟨k + 1, HLT.out, by go_num, HREL⟩
        case measure => have := HLT.out; simp [intOf]; omega
      · have hlb : decide (k < ids.length) = false := by simpa using hlt
        obtain rfl : k = ids.length := by omega
        have hG := hrel.out
        clear hlt hrel
        go_wp2_with fail
        refine (l_free hG).mono ?_
        rintro e w12 ⟨v12, rfl, ho12, hG12, _⟩
        have hr12 := isOwn.rd ho12
        obtain ⟨va2, vc2, rfl, _⟩ := hr12
        rw [O7.out, intsV_len]
        have hfi : ((freeOf F).length : Int) ≤ 20000 := by have := O8.out; have := HPGS.out; omega
        have hf0 : (0 : Int) ≤ (freeOf F).length := by omega
        have hcnt : ((freeOf F).length : Int) + ids.length + 2 = pagesOf F.d := by have := O8.out; omega
        have hcb : ((((freeOf F).length : Int) + ids.length + 2) == (pagesOf F.d : Int)) = true := by simpa using hcnt
        have HCB := Lib.hid hcb
        clear ho12 hcnt hcb
        go_wp2_with fail
        refine (l_len hG12).mono ?_
        rintro e w' ⟨he, rfl⟩
        rw [show pagesOf (keepP (openP D') (natI ids)).d = pagesOf F.d from O4.out] at he
        subst he
        have hcb := HCB.out
        have hK := HL.out.keeps.trans hG12.keeps
        go_wp2_with fail
        refine (awake9_calls _).mono ?_
        rintro e w13 ⟨rfl, hk13⟩
        go_wp2
        go_ret
        exact ⟨rfl, hK.trans hk13⟩
end Go.Proofs.Ytadjcdfmppcpnaa
