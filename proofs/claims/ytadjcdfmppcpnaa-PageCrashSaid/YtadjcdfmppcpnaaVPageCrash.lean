import Derived.Test.YtadjcdfmppcpnaaYM10
import Derived.Test.YtadjcdfmppcpnaaYH4
import Derived.Test.YtadjcdfmppcpnaaArg
import Derived.Test.YtadjcdfmppcpnaaRegU
/-! Layer 9: the walk of PageCrash. -/
namespace Go.Proofs.Ytadjcdfmppcpnaa
open Go Go.RowKit Go.Maps Wb

theorem cr_mono {n n' : Nat} {m : Mt} {ids nids : List Nat} {ts nts : List (List UInt8)} {F : Pg} (h : CrOk n m ids ts nids nts F) (hn : n ≤ n') : CrOk n' m ids ts nids nts F := by
  obtain ⟨⟨fu, l, a, b, c, d, e⟩, h2, h3, h4, h5, h6⟩ := h
  exact ⟨⟨fu, l, a, b, c, d, by omega⟩, h2, h3, h4, h5, by omega⟩
def CrIn (w wo : World) (f : Nat) (h : DH) (bw bn bx q j : Nat) (P : P1) (iv tv : Value) (wr : World) : Prop :=
  ∃ F nids nts jv sv, CrOk (4 * q + j) P.m P.ids P.ts nids nts F ∧ nids.length = j ∧ CrMem w wo wr f h F bw bn bx P iv tv ⟨mt0, nids, nts⟩ jv sv
def CrMid (w wo : World) (f : Nat) (h : DH) (bw bn bx q e : Nat) (P : P1) (iv tv : Value) (wr : World) : Prop :=
  ∃ F nids nts jv sv, ((nids.length = e + 1 ∧ CrOk (4 * (q + 1)) P.m P.ids P.ts nids nts F) ∨ (nids.length ≤ e ∧ CrEnd P.m P.ids P.ts P.m P.ids P.ts F.d ∧ P.m.ok)) ∧ F.d.files.length ≤ 1 ∧ CrMem w wo wr f h F bw bn bx P iv tv ⟨mt0, nids, nts⟩ jv sv
set_option maxRecDepth 100000 in
theorem build_meta9 (g r c m : Nat) (w : World) : (Instr.build 66 #[(0, .int .u64 ((g : Int) + 1)), (1, .int .i64 r), (2, .int .i64 c), (3, .int .u64 m)]).run Try.prog w = .ok (.agg (metaA ⟨g + 1, r, c, m⟩)) w := by
  first | kernel_rfl | rfl
theorem crok_files {n : Nat} {m : Mt} {ids nids : List Nat} {ts nts : List (List UInt8)} {F : Pg} (h : CrOk n m ids ts nids nts F) : F.d.files.length ≤ 1 := by
  obtain ⟨fu, l, a, _⟩ := h.d
  rw [a]; exact Nat.le_refl _
theorem crend_files {m m' : Mt} {ids ids' : List Nat} {ts ts' : List (List UInt8)} {D : Dv} (h : CrEnd m ids ts m' ids' ts' D) : D.files.length ≤ 1 := by
  obtain ⟨fu, l, a, _⟩ := h
  rw [a]; exact Nat.le_refl _

set_option maxRecDepth 100000 in
set_option maxHeartbeats 16000000 in
theorem pageCrash_walk (w : World) (v : Value) (xs : List Int) (hv : isInts w (fun g => g < w.heap.size) v xs) (fu : Int) (pv : Value) (ps : List Int) (hp : isInts w (fun g => g < w.heap.size) pv ps) :
    Calls Try.prog 14 #[v, .int .i64 fu, pv] w (Quiet w (.bool true)) := by
  obtain ⟨D1, E1, E2, E3, E4⟩ := cr_start
  have H1 := Lib.hid E1
  have H2 := Lib.hid E2
  have H3 := Lib.hid E3
  have H4 := Lib.hid E4
  obtain ⟨a, cap, rfl, hl1, hl2, hl3, hx4⟩ := hv
  have hli : (xs.length : Int) ≤ 140737488351232 := by omega
  have HC : Hid (∀ (q : Nat), q < xs.length → ∃ g o x, kOk x ∧ a = some ⟨g, o, none⟩ ∧ g < w.heap.size ∧ w.cell? ⟨g, o + q, none⟩ = some (.int .i64 x)) := by
    intro q hq
    rcases hx4 with rfl | ⟨g, o, rfl, _, hg, hc⟩
    · simp at hq
    · exact ⟨g, o, xs[q]'hq, hl3 _ (List.getElem_mem _), rfl, hg, hc q _ (List.getElem?_eq_getElem _)⟩
  have HPS := Lib.hid hp
  obtain ⟨pa, pcap, rfl, _⟩ := hp
  have hm255 : bits BinOp.and IntKind.i64 fu 255 = fu % 256 := mask255 fu
  have hfu0 : 0 ≤ fu % 256 := by omega
  have hfu9 : fu % 256 < 256 := by omega
  clear E1 E2 E3 E4 hx4 hl3
  go_enter Try.func14, Try.ntmps14
  go_wp2_with fail
  refine new_any _ _ fun dh w1 hd1 hk1 hS => ?_
  go_wp2_with fail
  refine l_open (w0 := w) (X := fun _ => False) hd1 (openE_files _) H1.out H2.out (fun _ h => h.elim) hS hk1 fun f w2 hL2 _ => ?_
  clear hd1 hk1 hS
  go_wp2_with fail
  refine (l_meta hL2).mono ?_
  rintro e w3 ⟨he, hL3, hk3⟩
  rw [show (openP D1).mt = mt1 from H3.out] at he
  subst he
  go_wp2_with (first
    | ((with_reducible refine gd_build 86 ?_); refine wl_buildL rfl _ _ rfl [(0, .agg (metaA mt1))] rfl (.agg (p1A mt1 (.slice none 0 0) (.slice none 0 0))) (buildP1 mt1) ?_)
    | fail)
  refine (l_meta hL3).mono ?_
  rintro e w4 ⟨he, hL4, hk4⟩
  rw [show (openP D1).mt = mt1 from H3.out] at he
  subst he
  have hK4 := hL4.keeps
  clear hL2 hL3 hk3 hk4
  go_wp2_with (first
    | ((with_reducible refine gd_build 86 ?_); refine wl_buildL rfl _ _ rfl [(0, .agg (metaA mt1))] rfl (.agg (p1A mt1 (.slice none 0 0) (.slice none 0 0))) (buildP1 mt1) ?_)
    | ((with_reducible refine gd_alloc (dst := some 10) 86 ?_); refine wl_alloc_agg rfl _ rfl _ zeroP1 ?_; intro bw w5 hbw HBW HKW)
    | ((with_reducible refine gd_alloc (dst := some 11) 86 ?_); refine wl_alloc_agg rfl _ rfl _ zeroP1 ?_; intro bn w6 hbn HBN HKN; have HBW6 := HKN.blk HBW id)
    | ((with_reducible refine gd_store 86 ?_); refine wl_store_agg rfl _ _ _ rfl bw _ rfl _ _ HBW6 (p1A mt1 (.slice none 0 0) (.slice none 0 0)) rfl (p1A mt1 (.slice none 0 0) (.slice none 0 0)) (store_p1 _ _ _ _ _ _) (le_p1 _ _ _ _ _ _) (infoP1 _ _ _) (p1A_one rfl rfl) ?_; intro w7 HBW7 HK7; have HBN7 := HK7.blk HBN (fun e => ne_new HBW hbn e.symm))
    | ((with_reducible refine gd_store 86 ?_); refine wl_store_agg rfl _ _ _ rfl bn _ rfl _ _ HBN7 (p1A mt1 (.slice none 0 0) (.slice none 0 0)) rfl (p1A mt1 (.slice none 0 0) (.slice none 0 0)) (store_p1 _ _ _ _ _ _) (le_p1 _ _ _ _ _ _) (infoP1 _ _ _) (p1A_one rfl rfl) ?_; intro w8 HBN8 HK8; have HBW8 := HK8.blk HBW7 (ne_new HBW hbn))
    | fail)
  have HNE : Hid (bw ≠ bn) := Lib.hid (ne_new HBW hbn)
  have hbw0 : w.heap.size ≤ bw := Nat.le_trans hK4.size hbw
  have hbn0 : w.heap.size ≤ bn := Nat.le_trans hK4.size (Nat.le_trans HKW.size hbn)
  have HLO : Hid (w.heap.size ≤ bw ∧ w.heap.size ≤ bn) := Lib.hid ⟨hbw0, hbn0⟩
  have hX : ∀ i, (i = bn ∨ Ow bw (.slice none 0 0) (.slice none 0 0) i) → i = bn ∨ i = bw := fun i hi => by
    rcases hi with hi | hi | hi | hi
    · exact .inl hi
    · exact .inr hi
    · cases hi
    · cases hi
  have hL6 : Law9 w w6 f dh (openP D1) (fun i => i = bn ∨ Ow bw (.slice none 0 0) (.slice none 0 0) i) := hL4.more (HKW.trans HKN) (fun i hi => by
    rcases hX i hi with e | e
    · right; rw [e]; exact Nat.le_trans HKW.size hbn
    · right; rw [e]; exact hbw) (fun i hi => by
    rcases hX i hi with e | e
    · rw [e]; exact lt_of_blk HBN
    · rw [e]; exact lt_of_blk HBW6)
  have hL8 : Law9 w w8 f dh (openP D1) (fun i => i = bn ∨ Ow bw (.slice none 0 0) (.slice none 0 0) i) := hL6.wrote ((HK7.mono (fun i _ e => .inr (.inl e))).trans (HK8.mono (fun i _ e => .inl e))) (fun i hi => by
    rcases hX i hi with e | e
    · rw [e]; exact hbn0
    · rw [e]; exact hbw0)
  have hA8 : AtP1 w w8 bw ⟨mt1, [], []⟩ (.slice none 0 0) (.slice none 0 0) := ⟨HBW8, isOwn_nil _ _ _, isOwn_nil _ _ _⟩
  have hB8 : AtP1 w w8 bn ⟨mt1, [], []⟩ (.slice none 0 0) (.slice none 0 0) := ⟨HBN8, isOwn_nil _ _ _, isOwn_nil _ _ _⟩
  clear HBW HKW HBN HKN HBW6 HBW7 HBN7 HK7 HK8 HBN8 HBW8 hL4 hL6 hK4 hbw hbn hbw0 hbn0
  refine (l_fuse hL8 (fu % 256) ⟨by omega, by omega⟩).mono ?_
  rintro e w9 ⟨rfl, hL9, hk9⟩
  have HREL0 : Hid (CrOut w f dh bw bn 0 w9) := Lib.hid ⟨_, ⟨mt1, [], []⟩, _, _, H4.out (fu % 256) hfu0, rfl, hA8.kept hk9 (fun i hi hh => hh.1 (.inr hi)), hB8.kept hk9 (fun i hi hh => hh.1 (by
    rcases hi with hi | hi | hi
    · exact .inl hi
    · cases hi
    · cases hi)), HLO.out.1, HLO.out.2, hL9⟩
  clear hX hL8 hA8 hB8 hL9 hk9 hm255 hfu0 hfu9
  go_upto_block 0 with fail
  go_cut [12] (fun v12 wx => Hid (CrFin w dh bw bn wx))
  case first =>
    as_aux_lemma =>
    clear HPS H1 H2 H3 H4
    go_wp2_with fail
    go_loopw [12] (fun i wr => ∃ q : Nat, q ≤ 8 ∧ i = .int .i64 q ∧ Hid (CrOut w f dh bw bn q wr)) (fun i _ => 8 - (intOf i).toNat)
    case atStart => exact ⟨0, Nat.zero_le _, rfl, HREL0⟩
    case round =>
      clear HREL0
      obtain ⟨q, hq, rfl, hrel⟩ := hrel
      have hq0 : (0 : Int) ≤ q := by omega
      have hqi : (q : Int) ≤ 8 := by omega
      by_cases hlt : q < xs.length ∧ q < 8
      · as_aux_lemma =>
        have hlt1 : decide (q < xs.length) = true := by simpa using hlt.1
        have hql : (q : Int) < xs.length := by omega
        have hq2 : (q : Int) < 8 := by omega
        have hlt2 : decide ((q : Int) < 8) = true := by simp; omega
        obtain ⟨g, o, x, hx, rfl, hg, hcw⟩ := HC.out q hlt.1
        obtain ⟨F, P, iv, tv, hok, hgen, haw, han, hlo1, hlo2, hL⟩ := hrel.out
        obtain ⟨e, he, he2⟩ : ∃ e : Nat, x % 4 = e ∧ e < 4 := ⟨(x % 4).toNat, by omega, by omega⟩
        have hm3 : bits BinOp.and IntKind.i64 x 3 = e := by rw [mask3, he]
        have hei : (e : Int) < 4 := by omega
        have he0 : (0 : Int) ≤ e := by omega
        have hx1 : -9223372036854775808 ≤ x := hx.1
        have hx2 : x ≤ 9223372036854775807 := hx.2
        have HCW := Lib.hid hcw
        have HQ := Lib.hid hlt.2
        have HOK := Lib.hid hok
        have HGEN := Lib.hid hgen
        have hBW := haw.blk
        have hBN := han.blk
        have o1 := own_one haw.ids
        have o2 := own_one haw.ts
        clear hrel hlt he hcw hok hgen HC
        go_upto_block 2 with (first
          | ((with_reducible refine gd_load 86 ?_); refine wl_load_agg rfl _ _ rfl bn _ rfl _ _ _ hBN (p1A P.m iv tv) (extract_all _) _ Try.underlying86 rfl (infoP1 _ _ _) ?_)
          | ((with_reducible refine gd_store 86 ?_); refine wl_store_agg rfl _ _ _ rfl bw _ rfl _ _ hBW (p1A P.m iv tv) rfl (p1A P.m iv tv) (store_p1 _ _ _ _ _ _) (le_p1 _ _ _ _ _ _) (infoP1 _ _ _) (p1A_one o1 o2) ?_; intro w3 HBW3 HK3)
          | ((with_reducible refine gd_build 86 ?_); refine wl_build0 rfl _ rfl _ buildP0 ?_)
          | ((with_reducible refine gd_alloc 86 ?_); refine wl_alloc_agg rfl _ rfl _ zeroP1 ?_; intro bx w4 hbx HBX HKX)
          | ((with_reducible refine gd_store 86 ?_); refine wl_store_agg rfl _ _ _ rfl bx _ rfl _ _ HBX (p1A mt0 (.slice none 0 0) (.slice none 0 0)) rfl (p1A mt0 (.slice none 0 0) (.slice none 0 0)) (store_p1 _ _ _ _ _ _) (le_p1 _ _ _ _ _ _) (infoP1 _ _ _) (p1A_one rfl rfl) ?_; intro w5 HBX5 HK5)
          | fail)
        have HIN0 : Hid (CrIn w w3 f dh bw bn bx q 0 P iv tv w5) := Lib.hid ⟨F, [], [], _, _, HOK.out, rfl, CrMem.start hL haw han HNE.out hlo1 hlo2 HK3 HBW3 HKX hbx HK5 HBX5⟩
        clear hL haw han HK3 HBW3 HKX hbx HK5 HBX5 HBX hBW hBN o1 o2 hlo1 hlo2
        go_cut [14] (fun v14 wx => Hid (CrMid w w3 f dh bw bn bx q e P iv tv wx))
        case first =>
          as_aux_lemma =>
          go_wp2_with fail
          go_loopw [14] (fun k wr => ∃ j : Nat, j ≤ e + 1 ∧ k = .int .i64 j ∧ Hid (CrIn w w3 f dh bw bn bx q j P iv tv wr)) (fun k _ => e + 1 - (intOf k).toNat)
          case atStart => exact ⟨0, Nat.zero_le _, rfl, HIN0⟩
          case round =>
            clear HIN0
            obtain ⟨j, hj, rfl, hin⟩ := hrel
            have hj0 : (0 : Int) ≤ j := by omega
            obtain ⟨F2, nids, nts, jv, sv, hok, hnl, hmem⟩ := hin.out
            have hcx : wr.cell? ⟨g, o + q, none⟩ = some (.int .i64 x) := (hmem.law.keeps.cell (p := ⟨g, o + q, none⟩) hg id).trans HCW.out
            by_cases hjl : j ≤ e
            · have hjb : decide (j ≤ e) = true := decide_eq_true hjl
              have hji : (j : Int) ≤ e := by omega
              have HZZ := Lib.hid (show kOk (wrap64 (x + (j : Int))) by unfold kOk wrap64; omega)
              have HOK2 := Lib.hid hok
              have HNL := Lib.hid hnl
              have HMEM := Lib.hid hmem
              clear hok hnl hmem hin
              go_wp2_with fail
              generalize hzz : wrap64 (x + (j : Int)) = z at *
              refine (fill_calls _ z HZZ.out).mono ?_
              rintro ef w6 ⟨bv, rfl, ho6, hk6⟩
              go_wp2_with fail
              refine (l_put (b := fillL z) HMEM.out.law HOK2.out.dead hk6 (isOwn.rd ho6) (own_new ho6) (fillL_le _) (by have := HOK2.out.fresh; have := HQ.out; omega)).mono ?_
              rintro ep w7 ⟨p, hp, he, hL7, hk7⟩
              have HM7 := Lib.hid ((HMEM.out.new hk6).call hL7 hk7)
              have hput := cr_put HOK2.out (fillL z) (fillL_le _) hp (by have := HQ.out; omega)
              clear hk6 ho6 hL7 hk7 hcx
              rcases hput with ⟨hr, hp9, hok7⟩ | ⟨hr, hend⟩
              · as_aux_lemma =>
                rw [hr, if_pos rfl] at he
                subst he
                have HOK7 := Lib.hid hok7
                have hpi : (p : Int) ≤ 200 := by omega
                have HCX7 : Hid (w7.cell? ⟨g, o + q, none⟩ = some (.int .i64 x)) := Lib.hid ((HM7.out.law.keeps.cell (p := ⟨g, o + q, none⟩) hg id).trans HCW.out)
                have c0 := HCX7.out
                have c4 : w7.cell? ⟨bx, 4, none⟩ = some jv := by rw [cell_of_block HM7.out.ax.blk]; rfl
                have c5 : w7.cell? ⟨bx, 5, none⟩ = some sv := by rw [cell_of_block HM7.out.ax.blk]; rfl
                have hl1 : (intV (nI nids)).length + 1 ≤ maxLen := by rw [intV_len, nI_len, HNL.out]; unfold maxLen; omega
                have hl2 : ((intV (nI nids)).length + 1) * 8 ≤ 140737488355328 := by rw [intV_len, nI_len, HNL.out]; omega
                have hnt : nts.length = nids.length := by
                  obtain ⟨_, _, _, _, hh, _⟩ := HOK2.out.d
                  exact hh.1
                have hl3 : (textsV nts).length + 1 ≤ maxLen := by rw [textsV_len, hnt, HNL.out]; unfold maxLen; omega
                have hl4 : ((textsV nts).length + 1) * 16 ≤ 140737488355328 := by rw [textsV_len, hnt, HNL.out]; omega
                have HSZ : Hid (w3.heap.size ≤ w7.heap.size) := Lib.hid (Nat.le_trans HM7.out.bx (Nat.le_of_lt (lt_of_blk HM7.out.ax.blk)))
                clear hr hok7 hp hnt
                have lowJ : ∀ i, jv.ownBlock = some i → w.heap.size ≤ i := fun i hi => HM7.out.lowA i (.inr (.inr (.inl hi)))
                have lowS : ∀ i, sv.ownBlock = some i → w.heap.size ≤ i := fun i hi => HM7.out.lowA i (.inr (.inr (.inr hi)))
                have lowB : w.heap.size ≤ bx := HM7.out.lowA bx (.inr (.inl rfl))
                have hT : ∀ wz, Keeps w wz (fun _ => False) → wz.cell? ⟨g, o + q, none⟩ = some (.int .i64 x) := fun wz hk => (hk.cell (p := ⟨g, o + q, none⟩) hg id).trans HCW.out
                have hSB : ∀ (wz : World), wz.heap[bx]? = some (.cells (p1A mt0 jv sv) 86 (0, 0)) → wz.cell? ⟨bx, 4, none⟩ = some jv ∧ wz.cell? ⟨bx, 5, none⟩ = some sv := fun wz hb => ⟨by rw [cell_of_block hb]; rfl, by rw [cell_of_block hb]; rfl⟩
                have HK7 : Keeps w w7.drew (fun _ => False) := HM7.out.law.keeps.drew
                have HB7 : w7.drew.heap[bx]? = some (.cells (p1A mt0 jv sv) 86 (0, 0)) := HM7.out.ax.blk
                have HI7 : isOwn w7.drew w3.heap.size 3 jv (intV (nI nids)) := HM7.out.ax.ids
                have HT7 : isOwn w7.drew w3.heap.size 9 sv (textsV nts) := HM7.out.ax.ts
                have hjx : jv.ownBlock ≠ some bx := own_ty HI7 HB7 (by decide)
                have hsx : sv.ownBlock ≠ some bx := own_ty HT7 HB7 (by decide)
                go_wp2_with fail
                refine till_begin (by kernel_rfl) (fun w' => w'.cell? ⟨bx, 4, none⟩ = some jv ∧ w'.cell? ⟨bx, 5, none⟩ = some sv) (fun w' => w'.cell? ⟨g, o + q, none⟩ = some (.int .i64 x)) 18 (hSB _ HB7) (hT _ HK7) (fun HS HT => ?_)
                refine rt_takeT 0 (v := ?_) rfl (by kernel_rfl) (by kernel_rfl) (by kernel_rfl) (by kernel_rfl) (fun _ _ _ h => h) ⟨HT, fun _ => HS⟩ ?_ ?_ ?_
                rotate_left
                rfl
                focus (intro w hSw; (try dsimp only at hSw); go_simp; all_goals (with_reducible rfl))
                simp only [Act.put, List.setIfInBounds_toArray, List.set_cons_succ, List.set_cons_zero]
                refine rt_take 1 (v := ?_) rfl (by kernel_rfl) rfl (by kernel_rfl) (by kernel_rfl) (by kernel_rfl) (by kernel_rfl) (by kernel_rfl) (fun _ _ _ h => h) HS HT ?_ ?_ ?_
                rotate_left
                rfl
                focus (intro w hSw; (try dsimp only at hSw); go_simp; all_goals (with_reducible rfl))
                simp only [Act.put, List.setIfInBounds_toArray, List.set_cons_succ, List.set_cons_zero]
                refine rt_takeT 2 (v := ?_) rfl (by kernel_rfl) (by kernel_rfl) (by kernel_rfl) (by kernel_rfl) (fun _ _ _ h => h) ⟨HT, fun _ => HS⟩ ?_ ?_ ?_
                rotate_left
                rfl
                focus (intro w hSw; (try dsimp only at hSw); go_simp; all_goals (with_reducible rfl))
                simp only [Act.put, List.setIfInBounds_toArray, List.set_cons_succ, List.set_cons_zero]
                refine rt_takeT 5 (v := ?_) rfl (by kernel_rfl) (by kernel_rfl) (by kernel_rfl) (by kernel_rfl) (fun _ _ _ h => h) ⟨HT, fun _ => HS⟩ ?_ ?_ ?_
                rotate_left
                rfl
                focus (intro w hSw; (try dsimp only at hSw); go_simp; all_goals (with_reducible rfl))
                simp only [Act.put, List.setIfInBounds_toArray, List.set_cons_succ, List.set_cons_zero]
                refine rt_take 6 (v := ?_) rfl (by kernel_rfl) rfl (by kernel_rfl) (by kernel_rfl) (by kernel_rfl) (by kernel_rfl) (by kernel_rfl) (fun _ _ _ h => h) HS HT ?_ ?_ ?_
                rotate_left
                rfl
                focus (intro w hSw; (try dsimp only at hSw); go_simp; all_goals (with_reducible rfl))
                simp only [Act.put, List.setIfInBounds_toArray, List.set_cons_succ, List.set_cons_zero]
                refine rt_takeT 7 (v := ?_) rfl (by kernel_rfl) (by kernel_rfl) (by kernel_rfl) (by kernel_rfl) (fun _ _ _ h => h) ⟨HT, fun _ => HS⟩ ?_ ?_ ?_
                rotate_left
                rfl
                focus (intro w hSw; (try dsimp only at hSw); go_simp; all_goals (with_reducible rfl))
                simp only [Act.put, List.setIfInBounds_toArray, List.set_cons_succ, List.set_cons_zero]
                refine rt_takeT 8 (v := ?_) rfl (by kernel_rfl) (by kernel_rfl) (by kernel_rfl) (by kernel_rfl) (fun _ _ _ h => h) ⟨HT, fun _ => HS⟩ ?_ ?_ ?_
                rotate_left
                rfl
                focus (intro w hSw; (try dsimp only at hSw); go_simp; all_goals (with_reducible rfl))
                simp only [Act.put, List.setIfInBounds_toArray, List.set_cons_succ, List.set_cons_zero]
                refine rt_takeT 9 (v := ?_) rfl (by kernel_rfl) (by kernel_rfl) (by kernel_rfl) (by kernel_rfl) (fun _ _ _ h => h) ⟨HT, fun _ => HS⟩ ?_ ?_ ?_
                rotate_left
                rfl
                focus (intro w hSw; (try dsimp only at hSw); go_simp; all_goals (with_reducible rfl))
                simp only [Act.put, List.setIfInBounds_toArray, List.set_cons_succ, List.set_cons_zero]
                refine rt_takeT 10 (v := ?_) rfl (by kernel_rfl) (by kernel_rfl) (by kernel_rfl) (by kernel_rfl) (fun _ _ _ h => h) ⟨HT, fun _ => HS⟩ ?_ ?_ ?_
                rotate_left
                rfl
                focus (intro w hSw; (try dsimp only at hSw); go_simp; all_goals (with_reducible rfl))
                simp only [Act.put, List.setIfInBounds_toArray, List.set_cons_succ, List.set_cons_zero]
                refine rt_takeT 11 (v := ?_) rfl (by kernel_rfl) (by kernel_rfl) (by kernel_rfl) (by kernel_rfl) (fun _ _ _ h => h) ⟨HT, fun _ => HS⟩ ?_ ?_ ?_
                rotate_left
                rfl
                focus (intro w hSw; (try dsimp only at hSw); go_simp; all_goals (with_reducible rfl))
                simp only [Act.put, List.setIfInBounds_toArray, List.set_cons_succ, List.set_cons_zero]
                refine rt_takeT 12 (v := ?_) rfl (by kernel_rfl) (by kernel_rfl) (by kernel_rfl) (by kernel_rfl) (fun _ _ _ h => h) ⟨HT, fun _ => HS⟩ ?_ ?_ ?_
                rotate_left
                rfl
                focus (intro w hSw; (try dsimp only at hSw); go_simp; all_goals (with_reducible rfl))
                simp only [Act.put, List.setIfInBounds_toArray, List.set_cons_succ, List.set_cons_zero]
                refine till_list 3 rfl (by kernel_rfl) ?_
                refine wl_slice1 rfl _ _ rfl 3 _ 8 Try.underlying22 info_int rfl (.int .i64 p) rfl rfl ?_
                intro b8 w8 hb8 HB8 HK8
                have HBX8 := HK8.blk HB7 id
                have HKW8 := HK7.trans HK8
                refine till_nil (till_next (hSB _ HBX8) (hT _ HKW8) ?_)
                simp only [Act.put, List.setIfInBounds_toArray, List.set_cons_succ, List.set_cons_zero]
                refine till_list 4 rfl (by kernel_rfl) ?_
                refine wl_appendN rfl _ _ 22 rfl 3 _ 8 Try.underlying22 info_int rfl w3.heap.size jv (intV (nI nids)) rfl (HI7.new HK8) _ [.int .i64 p] rfl (isVals_one (ok := fun _ => True) HB8 trivial).rd (fun _ h => by cases h) (by simp; rfl) hl1 hl2 (Nat.le_trans HSZ.out HK8.size) ?_
                intro jv' w9 hap
                have HBX9 := hap.2.1.blk HBX8 (fun e => hjx e)
                have HKW9 : Keeps w w9 (fun _ => False) := HKW8.then hap.2.1 (fun i hi e => absurd (lowJ i e) (Nat.not_le.2 hi))
                refine till_nil (till_next (hSB _ HBX9) (hT _ HKW9) ?_)
                simp only [Act.put, List.setIfInBounds_toArray, List.set_cons_succ, List.set_cons_zero]
                refine rt_takeT 17 (v := ?_) rfl (by kernel_rfl) (by kernel_rfl) (by kernel_rfl) (by kernel_rfl) (fun _ _ _ h => h) ⟨hT _ HKW9, fun _ => hSB _ HBX9⟩ ?_ ?_ ?_
                rotate_left
                rfl
                focus (intro w hSw; (try dsimp only at hSw); go_simp; all_goals (with_reducible rfl))
                simp only [Act.put, List.setIfInBounds_toArray, List.set_cons_succ, List.set_cons_zero]
                refine till_op 13 rfl (by kernel_rfl) (by rfl) ?_
                refine rg_call 49 _ _ rfl _ Try.func49 (by kernel_rfl) (by kernel_rfl) [.int .i64 z] (by first | rfl | (simp [Act.eval]; rw [← hzz]; exact wrap_is64 _)) (fill_calls _ z HZZ.out) ?_
                rintro e10 w10 ⟨bv2, rfl, ho10, hk10⟩
                have HBX10 := hk10.blk HBX9 id
                have HKW10 := HKW9.trans hk10
                refine ⟨_, rfl, till_next (hSB _ HBX10) (hT _ HKW10) ?_⟩
                simp only [Act.put, List.setIfInBounds_toArray, List.set_cons_succ, List.set_cons_zero]
                refine till_op 14 rfl (by kernel_rfl) (by rfl) ?_
                refine rg_call 53 _ _ rfl _ Try.func53 (by kernel_rfl) (by kernel_rfl) [bv2] rfl (whole_calls _ bv2 (fillL z) (isOwn.rd ho10) (isOwn.nilcap ho10) (fillL_le _)) ?_
                rintro e11 w11 ⟨rfl, hk11⟩
                have HBX11 := hk11.blk HBX10 id
                have HKW11 := HKW10.trans hk11
                refine ⟨_, rfl, till_next (hSB _ HBX11) (hT _ HKW11) ?_⟩
                simp only [Act.put, List.setIfInBounds_toArray, List.set_cons_succ, List.set_cons_zero]
                refine till_list 15 rfl (by kernel_rfl) ?_
                refine wl_slice1 rfl _ _ rfl 9 _ 16 Try.underlying38 info_text rfl (.string (bs (wholeP (fillL z)))) rfl rfl ?_
                intro b12 w12 hb12 HB12 HK12
                have HBX12 := HK12.blk HBX11 id
                have HKW12 := HKW11.trans HK12
                have HT12 : isOwn w12 w3.heap.size 9 sv (textsV nts) := ((((HT7.new HK8).kept hap.2.1 (fun g' hg' e => own_ty2 (HI7.new HK8) (HT7.new HK8) (by decide) g' e hg')).new hk10).new hk11).new HK12
                have hsz12 : w3.heap.size ≤ w12.heap.size := Nat.le_trans HSZ.out (Nat.le_trans HK8.size (Nat.le_trans hap.2.1.size (Nat.le_trans hk10.size (Nat.le_trans hk11.size HK12.size))))
                refine till_nil (till_next (hSB _ HBX12) (hT _ HKW12) ?_)
                simp only [Act.put, List.setIfInBounds_toArray, List.set_cons_succ, List.set_cons_zero]
                refine till_list 16 rfl (by kernel_rfl) ?_
                refine wl_appendN rfl _ _ 38 rfl 9 _ 16 Try.underlying38 info_text rfl w3.heap.size sv (textsV nts) rfl HT12 _ [.string (bs (wholeP (fillL z)))] rfl (isVals_one (ok := fun _ => True) HB12 trivial).rd (fun _ h => by cases h) (fun u hu => by rw [List.mem_singleton.1 hu]; rfl) hl3 hl4 hsz12 ?_
                intro sv' w13 hap2
                have HBX13 := hap2.2.1.blk HBX12 (fun e => hsx e)
                have HKW13 : Keeps w w13 (fun _ => False) := HKW12.then hap2.2.1 (fun i hi e => absurd (lowS i e) (Nat.not_le.2 hi))
                refine till_nil (till_next (hSB _ HBX13) (hT _ HKW13) ?_)
                simp only [Act.put, List.setIfInBounds_toArray, List.set_cons_succ, List.set_cons_zero]
                have HI12 : isOwn w12 w3.heap.size 3 jv' (intV (nI nids) ++ [.int .i64 p]) := ((hap.1.new hk10).new hk11).new HK12
                have HI13 := HI12.kept hap2.2.1 (fun g' hg' e => own_ty2 HI12 HT12 (by decide) g' hg' e)
                refine till_op 18 rfl (by kernel_rfl) (by rfl) ?_
                refine wp_store_val 22 _ _ rfl bx 4 rfl _ _ HBX13 jv' #[jv'] rfl (own_cells hap.1) (p1A mt0 jv' sv) (splice4 _ _ _ _) (by show 5 ≤ 6; decide) (by kernel_rfl) (by simp [own_one hap.1]) ?_
                intro w14 HBX14 HK14
                have HKW14 : Keeps w w14 (fun _ => False) := HKW13.then HK14 (fun i hi e => absurd lowB (by rw [← show i = bx from e]; exact Nat.not_le.2 hi))
                refine till_late (by kernel_rfl) (hT _ HKW14) ?_
                simp only [Act.put, List.setIfInBounds_toArray, List.set_cons_succ, List.set_cons_zero]
                refine rt_takeT 19 (v := ?_) rfl (by kernel_rfl) (by kernel_rfl) (by kernel_rfl) (by kernel_rfl) (fun _ _ _ h => h) (till_lateG (by kernel_rfl) (hT _ HKW14)) ?_ ?_ ?_
                rotate_left
                rfl
                focus (intro w hSw; (try dsimp only at hSw); go_simp; all_goals (with_reducible rfl))
                simp only [Act.put, List.setIfInBounds_toArray, List.set_cons_succ, List.set_cons_zero]
                refine till_op 20 rfl (by kernel_rfl) (by rfl) ?_
                refine wp_store_val 38 _ _ rfl bx 5 rfl _ _ HBX14 sv' #[sv'] rfl (own_cells hap2.1) (p1A mt0 jv' sv') (splice5 _ _ _ _) (by show 6 ≤ 6; decide) (by kernel_rfl) (by simp [own_one hap2.1]) ?_
                intro w15 HBX15 HK15
                have HKW15 : Keeps w w15 (fun _ => False) := HKW14.then HK15 (fun i hi e => absurd lowB (by rw [← show i = bx from e]; exact Nat.not_le.2 hi))
                refine till_late (by kernel_rfl) (hT _ HKW15) ?_
                simp only [Act.put, List.setIfInBounds_toArray, List.set_cons_succ, List.set_cons_zero]
                refine till_done (by kernel_rfl) ?_ _
                have HREL : Hid (CrIn w w3 f dh bw bn bx q (j + 1) P iv tv w15) := by
                  have k1 : Keeps w7 w8 (Ow bx jv sv) := ((Keeps.refl w7 (fun _ => False)).drew.trans HK8).mono (fun _ _ h => h.elim)
                  have k2 : Keeps w8 w9 (Ow bx jv sv) := hap.2.1.mono (fun i _ e => .inr (.inl e))
                  have k3 : Keeps w9 w12 (Ow bx jv sv) := ((hk10.trans hk11).trans HK12).mono (fun _ _ h => h.elim)
                  have k4 : Keeps w12 w13 (Ow bx jv sv) := hap2.2.1.mono (fun i _ e => .inr (.inr e))
                  have k5 : Keeps w13 w15 (Ow bx jv sv) := (HK14.trans HK15).mono (fun i _ e => .inl e)
                  have hkk : Keeps w7 w15 (Ow bx jv sv) := (((k1.trans k2).trans k3).trans k4).trans k5
                  have i14 := HI13.kept HK14 (fun g' hg' e => own_ty HI13 HBX13 (by decide) (by rw [hg']; exact congrArg some e))
                  have i15 := i14.kept HK15 (fun g' hg' e => own_ty i14 HBX14 (by decide) (by rw [hg']; exact congrArg some e))
                  have t14 := hap2.1.kept HK14 (fun g' hg' e => own_ty hap2.1 HBX13 (by decide) (by rw [hg']; exact congrArg some e))
                  have t15 := t14.kept HK15 (fun g' hg' e => own_ty t14 HBX14 (by decide) (by rw [hg']; exact congrArg some e))
                  have z8 : w7.heap.size ≤ w8.heap.size := HK8.size
                  have z12 : w7.heap.size ≤ w12.heap.size := ((k1.trans k2).trans k3).size
                  refine Lib.hid ⟨_, _, _, jv', sv', HOK7.out, by rw [List.length_append, HNL.out]; rfl, HM7.out.grow hkk ⟨HBX15, by rw [nI_snoc]; exact i15, by rw [textsV_snoc]; exact t15⟩ ?_ ?_⟩
                  · rcases hap.2.2 with e | e
                    · exact .inl e
                    · exact .inr ⟨_, e, z8⟩
                  · rcases hap2.2.2 with e | e
                    · exact .inl e
                    · exact .inr ⟨_, e, z12⟩
                clear HK7 HB7 HI7 HT7 hap hap2 HB8 HK8 HBX8 HKW8 HBX9 HKW9 ho10 hk10 HBX10 HKW10 hk11 HBX11 HKW11 HB12 HK12 HBX12 HKW12 HT12 hsz12 HBX13 HKW13 HI12 HI13 HBX14 HK14 HKW14 HBX15 HK15 HKW15 HS HT hSB hT lowJ lowS lowB hjx hsx c4 c5 hb8 hb12
                go_wp2_with fail
                go_roundw
                case rel => exact ⟨j + 1, by omega, by go_num, HREL⟩
                case measure => simp [intOf]; omega
              · as_aux_lemma =>
                rw [if_neg hr] at he
                subst he
                have hrb : ((putP F2 (fillL z) p).2 != 0) = true := by simpa using hr
                have HMD : Hid (CrMid w w3 f dh bw bn bx q e P iv tv w7) := Lib.hid ⟨_, nids, nts, jv, sv, .inr ⟨by rw [HNL.out]; omega, hend, crok_mok HOK2.out⟩, crend_files hend, HM7.out⟩
                clear hr hend hp
                generalize (putP F2 (fillL z) p).2 = r at *
                go_wp2_with fail
                go_meet
                exact HMD
            · as_aux_lemma =>
              have hjb : decide (j ≤ e) = false := decide_eq_false hjl
              obtain rfl : j = e + 1 := by omega
              have HMD : Hid (CrMid w w3 f dh bw bn bx q e P iv tv wr) := Lib.hid ⟨F2, nids, nts, jv, sv, .inl ⟨hnl, cr_mono hok (by omega)⟩, crok_files hok, hmem⟩
              clear hin hjl hj hok hnl hmem
              go_wp2_with fail
              go_meet
              exact HMD
        case rest =>
          as_aux_lemma =>
          clear HIN0
          obtain ⟨F2, nids, nts, jv, sv, hcase, hfl, hmem⟩ := hcut.out
          have hcx : wc.cell? ⟨g, o + q, none⟩ = some (.int .i64 x) := (hmem.law.keeps.cell (p := ⟨g, o + q, none⟩) hg id).trans HCW.out
          have hrd : isRd wc jv (intV (nI nids)) := isOwn.rd hmem.ax.ids
          obtain ⟨ja, jc, rfl, hjc, hjat⟩ := hrd
          rw [intV_len, nI_len] at hmem hjc
          have c4 : wc.cell? ⟨bx, 4, none⟩ = some (.slice ja nids.length jc) := by rw [cell_of_block hmem.ax.blk]; rfl
          have HMEM := Lib.hid hmem
          rcases hcase with ⟨hnl, hok⟩ | ⟨hnl, hend, hpok⟩
          · as_aux_lemma =>
            have hnb : ((nids.length : Int) != (e : Int) + 1) = false := by simp; omega
            have hnli : (nids.length : Int) ≤ 8 := by omega
            have HOK2 := Lib.hid hok
            have HNL := Lib.hid hnl
            clear hok hcut hmem hfl hjc hjat hnl
            go_wp2_with fail
            go_quiet (fail)
            go_wp2_with fail
            generalize hwd : wc.drewN _ = wd
            have hkd : Keeps wc wd (fun _ => False) := hwd ▸ (Keeps.refl wc _).drewN _
            have HMD := Lib.hid (HMEM.out.new hkd)
            have hcx2 : wd.cell? ⟨g, o + q, none⟩ = some (.int .i64 x) := (HMD.out.law.keeps.cell (p := ⟨g, o + q, none⟩) hg id).trans HCW.out
            have hcw0 : wd.cell? ⟨bw, 0, none⟩ = some (.int .u64 P.m.gen) := by rw [cell_of_block HMD.out.aw.blk]; rfl
            obtain ⟨id0, hid0⟩ : ∃ id0, nids[0]? = some id0 := ⟨_, List.getElem?_eq_getElem (by have := HNL.out; omega)⟩
            have hia : isOwn wd w3.heap.size 3 (.slice ja nids.length jc) (intV (nI nids)) := HMD.out.ax.ids
            obtain ⟨jg, cap', he9, _, _, hjg, hj0⟩ := isOwn.at hia (intV_at (nI_at hid0))
            simp only [Value.slice.injEq] at he9
            obtain ⟨rfl, h9, rfl⟩ := he9
            clear h9 hia
            have hc42 : wd.cell? ⟨bx, 4, none⟩ = some (.slice (some ⟨jg, 0, none⟩) nids.length jc) := by rw [cell_of_block HMD.out.ax.blk]; rfl
            obtain ⟨mk, hmk, hmk9⟩ : ∃ mk : Nat, x % 256 = (mk : Int) ∧ mk < 256 := ⟨(x % 256).toNat, by omega, by omega⟩
            have hm255 : bits BinOp.and IntKind.i64 x 255 = (mk : Int) := by rw [mask255, hmk]
            have hmki : (mk : Int) < 256 := by omega
            have hmk0 : (0 : Int) ≤ mk := by omega
            have hwk : IntKind.u64.wrap (mk : Int) = mk := by rw [wrap_u64]; omega
            have hgn : P.m.gen = q + 1 := HGEN.out
            have hgni : (P.m.gen : Int) ≤ 9 := by have := HQ.out; omega
            have hgn0 : (0 : Int) ≤ P.m.gen := by omega
            have hwg : IntKind.u64.wrap ((P.m.gen : Int) + 1) = (P.m.gen : Int) + 1 := by rw [wrap_u64]; omega
            have HID0 := Lib.hid hid0
            obtain ⟨m2, hm2⟩ : ∃ m2 : Mt, m2 = ⟨P.m.gen + 1, id0, q, mk⟩ := ⟨_, rfl⟩
            have HM2 := Lib.hid hm2
            have hbuild : ∀ W, (Instr.build 66 #[(0, .int .u64 ((P.m.gen : Int) + 1)), (1, .int .i64 id0), (2, .int .i64 q), (3, .int .u64 mk)]).run Try.prog W = .ok (.agg (metaA m2)) W := fun W => by rw [hm2]; exact build_meta9 _ _ _ _ W
            have hnpos : (0 : Int) < nids.length := by have := HNL.out; omega
            have hnposn : 0 < nids.length := by have := HNL.out; omega
            clear hm2 hid0 hmk hgn hjg hwd hkd hcx c4
            refine wp_region_still_tail 15 (by kernel_rfl) (by kernel_rfl) ?_
            simp only [List.take_succ_cons, List.take_zero, List.drop_succ_cons, List.drop_zero]
            iterate 15 still_step
            refine wpStill_nil ?_
            have HBX0 : wd.drew.heap[bx]? = some (.cells (p1A mt0 (.slice (some ⟨jg, 0, none⟩) nids.length jc) sv) 86 (0, 0)) := HMD.out.ax.blk
            go_wp2_with (first
              | ((with_reducible refine gd_build 66 ?_); go_loud (refine wl_buildL rfl _ _ rfl [(0, .int .u64 ((P.m.gen : Int) + 1)), (1, .int .i64 id0), (2, .int .i64 q), (3, .int .u64 mk)] rfl (.agg (metaA m2)) hbuild ?_))
              | ((with_reducible refine gd_store 66 ?_); go_loud (refine wl_store_agg rfl _ _ _ rfl bx 0 rfl _ _ HBX0 (metaA m2) rfl (p1A m2 (.slice (some ⟨jg, 0, none⟩) nids.length jc) sv) (splice0 _ _ _ _) (by show 4 ≤ 6; decide) (infoMs _) (metaA_one _) ?_); intro w6 HBX6 HK6)
              | fail)
            have HM6 : Hid (CrMem w w3 w6 f dh F2 bw bn bx P iv tv ⟨m2, nids, nts⟩ (.slice (some ⟨jg, 0, none⟩) nids.length jc) sv) := by
              have hm1 := HMD.out.new (Keeps.refl wd _).drew
              have i6 := hm1.ax.ids.kept HK6 (fun g' hg' e => own_ty hm1.ax.ids HBX0 (by decide) (by rw [hg']; exact congrArg some e))
              have t6 := hm1.ax.ts.kept HK6 (fun g' hg' e => own_ty hm1.ax.ts HBX0 (by decide) (by rw [hg']; exact congrArg some e))
              exact Lib.hid (hm1.grow (HK6.mono (fun i _ e => .inl e)) ⟨HBX6, i6, t6⟩ (.inl rfl) (.inl rfl))
            clear hbuild HBX0 HBX6 HK6 HMD hcx2 hcw0 hc42 hj0
            have hcx6 : w6.cell? ⟨g, o + q, none⟩ = some (.int .i64 x) := (HM6.out.law.keeps.cell (p := ⟨g, o + q, none⟩) hg id).trans HCW.out
            have hc46 : w6.cell? ⟨bx, 4, none⟩ = some (.slice (some ⟨jg, 0, none⟩) nids.length jc) := by rw [cell_of_block HM6.out.ax.blk]; rfl
            obtain ⟨jg', cap6, he6, _, _, _, hj6⟩ := isOwn.at HM6.out.ax.ids (intV_at (nI_at HID0.out))
            simp only [Value.slice.injEq, Option.some.injEq, Addr.mk.injEq, and_true] at he6
            obtain ⟨rfl, h86, rfl⟩ := he6
            clear h86
            go_wp2_with fail
            have HSQ : (fun (w' : World) => w'.cell? ⟨bx, 4, none⟩ = some (.slice (some ⟨jg, 0, none⟩) nids.length jc) ∧ w'.cell? ⟨jg, 0, none⟩ = some (.int .i64 id0) ∧ w'.cell? ⟨g, o + q, none⟩ = some (.int .i64 x)) w6.drew := ⟨hc46, hj6, hcx6⟩
            refine wp_region_held_drew (S := (fun (w' : World) => w'.cell? ⟨bx, 4, none⟩ = some (.slice (some ⟨jg, 0, none⟩) nids.length jc) ∧ w'.cell? ⟨jg, 0, none⟩ = some (.int .i64 id0) ∧ w'.cell? ⟨g, o + q, none⟩ = some (.int .i64 x))) (by kernel_rfl) HSQ (fun _ => ?_)
            first
              | (refine rg_skip 0 rfl (by kernel_rfl) (by kernel_rfl) (by kernel_rfl) (fun _ _ _ h => h) HSQ ?_ ?_; rfl)
              | (refine rg_take 0 (v := ?_) rfl (by kernel_rfl) (by kernel_rfl) (by kernel_rfl) (fun _ _ _ h => h) HSQ ?_ ?_ ?_; rotate_left; rfl; focus (intro w hSw; (try dsimp only at hSw); go_simp; all_goals (with_reducible rfl)))
            simp only [Act.put, List.setIfInBounds_toArray, List.set_cons_succ, List.set_cons_zero]
            first
              | (refine rg_skip 1 rfl (by kernel_rfl) (by kernel_rfl) (by kernel_rfl) (fun _ _ _ h => h) HSQ ?_ ?_; rfl)
              | (refine rg_take 1 (v := ?_) rfl (by kernel_rfl) (by kernel_rfl) (by kernel_rfl) (fun _ _ _ h => h) HSQ ?_ ?_ ?_; rotate_left; rfl; focus (intro w hSw; (try dsimp only at hSw); go_simp; all_goals (with_reducible rfl)))
            simp only [Act.put, List.setIfInBounds_toArray, List.set_cons_succ, List.set_cons_zero]
            first
              | (refine rg_skip 2 rfl (by kernel_rfl) (by kernel_rfl) (by kernel_rfl) (fun _ _ _ h => h) HSQ ?_ ?_; rfl)
              | (refine rg_take 2 (v := ?_) rfl (by kernel_rfl) (by kernel_rfl) (by kernel_rfl) (fun _ _ _ h => h) HSQ ?_ ?_ ?_; rotate_left; rfl; focus (intro w hSw; (try dsimp only at hSw); go_simp; all_goals (with_reducible rfl)))
            simp only [Act.put, List.setIfInBounds_toArray, List.set_cons_succ, List.set_cons_zero]
            first
              | (refine rg_skip 3 rfl (by kernel_rfl) (by kernel_rfl) (by kernel_rfl) (fun _ _ _ h => h) HSQ ?_ ?_; rfl)
              | (refine rg_take 3 (v := ?_) rfl (by kernel_rfl) (by kernel_rfl) (by kernel_rfl) (fun _ _ _ h => h) HSQ ?_ ?_ ?_; rotate_left; rfl; focus (intro w hSw; (try dsimp only at hSw); go_simp; all_goals (with_reducible rfl)))
            simp only [Act.put, List.setIfInBounds_toArray, List.set_cons_succ, List.set_cons_zero]
            first
              | (refine rg_skip 4 rfl (by kernel_rfl) (by kernel_rfl) (by kernel_rfl) (fun _ _ _ h => h) HSQ ?_ ?_; rfl)
              | (refine rg_take 4 (v := ?_) rfl (by kernel_rfl) (by kernel_rfl) (by kernel_rfl) (fun _ _ _ h => h) HSQ ?_ ?_ ?_; rotate_left; rfl; focus (intro w hSw; (try dsimp only at hSw); go_simp; all_goals (with_reducible rfl)))
            simp only [Act.put, List.setIfInBounds_toArray, List.set_cons_succ, List.set_cons_zero]
            first
              | (refine rg_skip 5 rfl (by kernel_rfl) (by kernel_rfl) (by kernel_rfl) (fun _ _ _ h => h) HSQ ?_ ?_; rfl)
              | (refine rg_take 5 (v := ?_) rfl (by kernel_rfl) (by kernel_rfl) (by kernel_rfl) (fun _ _ _ h => h) HSQ ?_ ?_ ?_; rotate_left; rfl; focus (intro w hSw; (try dsimp only at hSw); go_simp; all_goals (with_reducible rfl)))
            simp only [Act.put, List.setIfInBounds_toArray, List.set_cons_succ, List.set_cons_zero]
            first
              | (refine rg_skip 6 rfl (by kernel_rfl) (by kernel_rfl) (by kernel_rfl) (fun _ _ _ h => h) HSQ ?_ ?_; rfl)
              | (refine rg_take 6 (v := ?_) rfl (by kernel_rfl) (by kernel_rfl) (by kernel_rfl) (fun _ _ _ h => h) HSQ ?_ ?_ ?_; rotate_left; rfl; focus (intro w hSw; (try dsimp only at hSw); go_simp; all_goals (with_reducible rfl)))
            simp only [Act.put, List.setIfInBounds_toArray, List.set_cons_succ, List.set_cons_zero]
            first
              | (refine rg_skip 7 rfl (by kernel_rfl) (by kernel_rfl) (by kernel_rfl) (fun _ _ _ h => h) HSQ ?_ ?_; rfl)
              | (refine rg_take 7 (v := ?_) rfl (by kernel_rfl) (by kernel_rfl) (by kernel_rfl) (fun _ _ _ h => h) HSQ ?_ ?_ ?_; rotate_left; rfl; focus (intro w hSw; (try dsimp only at hSw); go_simp; all_goals (with_reducible rfl)))
            simp only [Act.put, List.setIfInBounds_toArray, List.set_cons_succ, List.set_cons_zero]
            first
              | (refine rg_skip 8 rfl (by kernel_rfl) (by kernel_rfl) (by kernel_rfl) (fun _ _ _ h => h) HSQ ?_ ?_; rfl)
              | (refine rg_take 8 (v := ?_) rfl (by kernel_rfl) (by kernel_rfl) (by kernel_rfl) (fun _ _ _ h => h) HSQ ?_ ?_ ?_; rotate_left; rfl; focus (intro w hSw; (try dsimp only at hSw); go_simp; all_goals (with_reducible rfl)))
            simp only [Act.put, List.setIfInBounds_toArray, List.set_cons_succ, List.set_cons_zero]
            first
              | (refine rg_skip 9 rfl (by kernel_rfl) (by kernel_rfl) (by kernel_rfl) (fun _ _ _ h => h) HSQ ?_ ?_; rfl)
              | (refine rg_take 9 (v := ?_) rfl (by kernel_rfl) (by kernel_rfl) (by kernel_rfl) (fun _ _ _ h => h) HSQ ?_ ?_ ?_; rotate_left; rfl; focus (intro w hSw; (try dsimp only at hSw); go_simp; all_goals (with_reducible rfl)))
            simp only [Act.put, List.setIfInBounds_toArray, List.set_cons_succ, List.set_cons_zero]
            first
              | (refine rg_skip 10 rfl (by kernel_rfl) (by kernel_rfl) (by kernel_rfl) (fun _ _ _ h => h) HSQ ?_ ?_; rfl)
              | (refine rg_take 10 (v := ?_) rfl (by kernel_rfl) (by kernel_rfl) (by kernel_rfl) (fun _ _ _ h => h) HSQ ?_ ?_ ?_; rotate_left; rfl; focus (intro w hSw; (try dsimp only at hSw); go_simp; all_goals (with_reducible rfl)))
            simp only [Act.put, List.setIfInBounds_toArray, List.set_cons_succ, List.set_cons_zero]
            first
              | (refine rg_skip 11 rfl (by kernel_rfl) (by kernel_rfl) (by kernel_rfl) (fun _ _ _ h => h) HSQ ?_ ?_; rfl)
              | (refine rg_take 11 (v := ?_) rfl (by kernel_rfl) (by kernel_rfl) (by kernel_rfl) (fun _ _ _ h => h) HSQ ?_ ?_ ?_; rotate_left; rfl; focus (intro w hSw; (try dsimp only at hSw); go_simp; all_goals (with_reducible rfl)))
            simp only [Act.put, List.setIfInBounds_toArray, List.set_cons_succ, List.set_cons_zero]
            first
              | (refine rg_skip 12 rfl (by kernel_rfl) (by kernel_rfl) (by kernel_rfl) (fun _ _ _ h => h) HSQ ?_ ?_; rfl)
              | (refine rg_take 12 (v := ?_) rfl (by kernel_rfl) (by kernel_rfl) (by kernel_rfl) (fun _ _ _ h => h) HSQ ?_ ?_ ?_; rotate_left; rfl; focus (intro w hSw; (try dsimp only at hSw); go_simp; all_goals (with_reducible rfl)))
            simp only [Act.put, List.setIfInBounds_toArray, List.set_cons_succ, List.set_cons_zero]
            first
              | (refine rg_skip 13 rfl (by kernel_rfl) (by kernel_rfl) (by kernel_rfl) (fun _ _ _ h => h) HSQ ?_ ?_; rfl)
              | (refine rg_take 13 (v := ?_) rfl (by kernel_rfl) (by kernel_rfl) (by kernel_rfl) (fun _ _ _ h => h) HSQ ?_ ?_ ?_; rotate_left; rfl; focus (intro w hSw; (try dsimp only at hSw); go_simp; all_goals (with_reducible rfl)))
            simp only [Act.put, List.setIfInBounds_toArray, List.set_cons_succ, List.set_cons_zero]
            have hi6 : isOwn w6.drew w3.heap.size 3 (.slice (some ⟨jg, 0, none⟩) nids.length jc) (intV (nI nids)) := HM6.out.ax.ids
            refine rg_one 14 rfl (by kernel_rfl) (by rfl) ?_
            refine rg_call 56 _ _ rfl _ Try.func56 (by kernel_rfl) (by kernel_rfl) [.slice (some ⟨jg, 0, none⟩) nids.length jc] rfl (sorted_calls _ _ (nI nids) (isOwn.rd hi6) (isOwn.nilcap hi6) (by rw [nI_len]; omega)) ?_
            rintro es w7 ⟨sv2, ys, rfl, hso, hsp, hst, hk7⟩
            have HSQ7 : (fun (w' : World) => w'.cell? ⟨bx, 4, none⟩ = some (.slice (some ⟨jg, 0, none⟩) nids.length jc) ∧ w'.cell? ⟨jg, 0, none⟩ = some (.int .i64 id0) ∧ w'.cell? ⟨g, o + q, none⟩ = some (.int .i64 x)) w7 := ⟨Keeps.cellK hk7 HSQ.1, Keeps.cellK hk7 HSQ.2.1, Keeps.cellK hk7 HSQ.2.2⟩
            refine ⟨_, rfl, HSQ7, ?_⟩
            simp only [Act.put, List.setIfInBounds_toArray, List.set_cons_succ, List.set_cons_zero]
            have HM7 := Lib.hid ((HM6.out.new (Keeps.refl w6 _).drew).new hk7)
            obtain ⟨e1, hask, hg1, hcm, hin⟩ := cr_ask (q := q) HOK2.out (pages_small HM7.out.law.wf) (by have := HGEN.out; have := HQ.out; omega) hsp hst HID0.out (by have := HQ.out; omega) hmk9
            rw [← HM2.out] at e1
            have hcc := cr_commit HOK2.out hcm hin (by have := HQ.out; omega)
            have hylen : ys.length = nids.length := by rw [hsp.length_eq, nI_len]
            have hL7 : Law9 w w7 f dh F2 (fun i => ((i = bn ∨ Ow bw iv tv i) ∨ Ow bx (.slice (some ⟨jg, 0, none⟩) nids.length jc) sv i) ∨ sv2.ownBlock = some i) := HM6.out.law.drew.more hk7 (fun i hi => by
              rcases hi with hi | hi
              · exact .inl hi
              · exact .inr (hso.blk i hi).1) (fun i hi => by
              rcases hi with hi | hi
              · exact HM7.out.law.lt i hi
              · exact (hso.blk i hi).2)
            have hcall := l_commitR (root := (id0 : Int)) (count := (q : Int)) (mark := mk) hL7 HOK2.out.dead (isOwn.rd hso) (fun gg hgg => .inr ⟨.inl (.inr hgg), (hso.blk gg hgg).2⟩) (by rw [hylen]; omega) hask hg1 (by omega) (by
              rcases hcc with ⟨_, hp, _⟩ | ⟨hr, _⟩
              · exact fun _ => hp
              · exact fun hr0 => absurd hr0 hr)
            rw [e1] at hcall hcc hcm
            refine rg_one 15 rfl (by kernel_rfl) (by rfl) ?_
            refine rg_call 45 _ _ rfl _ Try.func45 (by kernel_rfl) (by kernel_rfl) [.pointer (some ⟨f, 0, none⟩), .int .i64 id0, .int .i64 q, .int .u64 mk, sv2] rfl hcall ?_
            rintro ec w8 ⟨rfl, hk8, hA8, hB8⟩
            have hjgX : ((jg = bn ∨ Ow bw iv tv jg) ∨ Ow bx (.slice (some ⟨jg, 0, none⟩) nids.length jc) sv jg) ∨ sv2.ownBlock = some jg := .inl (.inr (.inr (.inl rfl)))
            have hbxX : ((bx = bn ∨ Ow bw iv tv bx) ∨ Ow bx (.slice (some ⟨jg, 0, none⟩) nids.length jc) sv bx) ∨ sv2.ownBlock = some bx := .inl (.inr (.inl rfl))
            have HSQ8 : (fun (w' : World) => w'.cell? ⟨bx, 4, none⟩ = some (.slice (some ⟨jg, 0, none⟩) nids.length jc) ∧ w'.cell? ⟨jg, 0, none⟩ = some (.int .i64 id0) ∧ w'.cell? ⟨g, o + q, none⟩ = some (.int .i64 x)) w8 :=
              ⟨(hk8.cell (p := ⟨bx, 4, none⟩) (hL7.lt bx hbxX) (fun hh => hh.1 hbxX)).trans HSQ7.1, (hk8.cell (p := ⟨jg, 0, none⟩) (hL7.lt jg hjgX) (fun hh => hh.1 hjgX)).trans HSQ7.2.1,
                (hk8.cell (p := ⟨g, o + q, none⟩) (Nat.lt_of_lt_of_le hg hL7.keeps.size) (fun hh => absurd hh.2 (Nat.not_le.2 hg))).trans HSQ7.2.2⟩
            refine ⟨_, rfl, HSQ8, ?_⟩
            simp only [Act.put, List.setIfInBounds_toArray, List.set_cons_succ, List.set_cons_zero]
            first
              | (refine rg_skip 16 rfl (by kernel_rfl) (by kernel_rfl) (by kernel_rfl) (fun _ _ _ h => h) HSQ8 ?_ ?_; rfl)
              | (refine rg_take 16 (v := ?_) rfl (by kernel_rfl) (by kernel_rfl) (by kernel_rfl) (fun _ _ _ h => h) HSQ8 ?_ ?_ ?_; rotate_left; rfl; focus (intro w hSw; (try dsimp only at hSw); go_simp; all_goals (with_reducible rfl)))
            simp only [Act.put, List.setIfInBounds_toArray, List.set_cons_succ, List.set_cons_zero]
            refine wpAnyH_done (by kernel_rfl) ?_ _
            have hkx : Keeps w7 w8 (Apart w (fun i => (i = bn ∨ Ow bw iv tv i) ∨ Ow bx (.slice (some ⟨jg, 0, none⟩) nids.length jc) sv i)) := hk8.mono (fun i _ hh => ⟨fun hi => hh.1 (.inl hi), hh.2⟩)
            have hless : ∀ {FF : Pg}, Law9 w w8 f dh FF (fun i => ((i = bn ∨ Ow bw iv tv i) ∨ Ow bx (.slice (some ⟨jg, 0, none⟩) nids.length jc) sv i) ∨ sv2.ownBlock = some i) → Law9 w w8 f dh FF (fun i => (i = bn ∨ Ow bw iv tv i) ∨ Ow bx (.slice (some ⟨jg, 0, none⟩) nids.length jc) sv i) := fun hl => hl.more (Keeps.refl _ _) (fun i hi => .inl (.inl hi)) (fun i hi => hl.lt i (.inl hi))
            have hgm2 : P.m.gen ≠ m2.gen := by rw [HM2.out]; show P.m.gen ≠ P.m.gen + 1; omega
            have hgq : m2.gen = q + 1 + 1 := by rw [HM2.out]; show P.m.gen + 1 = q + 1 + 1; rw [HGEN.out]
            have hPok := crok_mok HOK2.out
            have hxw : bx ≠ bw := fun e => by have h1 := HM7.out.bx; have h2 := (HM7.out.old bw (.inr (.inl rfl))).2; omega
            have hlo1 := (HM7.out.old bw (.inr (.inl rfl))).1
            have hlo2 := (HM7.out.old bn (.inl rfl)).1
            rcases hcc with ⟨hr, _, hok8⟩ | ⟨hr, hend⟩
            · as_aux_lemma =>
              have HM8 := Lib.hid (HM7.out.call (hless (hA8 hr)) hkx)
              have HOK8 := Lib.hid hok8
              have HG := Lib.hid hgq
              rw [hr]
              have HBX8 := HM8.out.ax.blk
              have HBW8 := HM8.out.aw.blk
              have ot := own_one HM8.out.ax.ts
              clear hr hok8 hgm2 hA8 hB8 hless hkx hcall hL7 hask hso hsp hst hk7 hk8 HSQ HSQ7 HSQ8 hcm hin hi6 e1
              go_wp2_with fail
              have HSL : (fun (w' : World) => w'.heap[bx]? = some (.cells (p1A m2 (.slice (some ⟨jg, 0, none⟩) nids.length jc) sv) 86 (0, 0))) w8.drew := HBX8
              refine wp_region_held_drew (S := (fun (w' : World) => w'.heap[bx]? = some (.cells (p1A m2 (.slice (some ⟨jg, 0, none⟩) nids.length jc) sv) 86 (0, 0)))) (by kernel_rfl) HSL (fun _ => ?_)
              refine rg_load 0 rfl (by kernel_rfl) (by kernel_rfl) (by kernel_rfl) (p1A m2 (.slice (some ⟨jg, 0, none⟩) nids.length jc) sv) (fun _ _ _ h => h) HSL (by rfl) bx 0 rfl (fun _ h => range_all h) _ Try.underlying86 rfl (infoP1 _ _ _) ?_
              simp only [Act.put, List.setIfInBounds_toArray, List.set_cons_succ, List.set_cons_zero]
              refine rg_load 1 rfl (by kernel_rfl) (by kernel_rfl) (by kernel_rfl) (p1A m2 (.slice (some ⟨jg, 0, none⟩) nids.length jc) sv) (fun _ _ _ h => h) HSL (by rfl) bx 0 rfl (fun _ h => range_all h) _ Try.underlying86 rfl (infoP1 _ _ _) ?_
              simp only [Act.put, List.setIfInBounds_toArray, List.set_cons_succ, List.set_cons_zero]
              have HBW8d : w8.drew.heap[bw]? = some (.cells (p1A P.m iv tv) 86 (0, 0)) := HBW8
              refine rg_one 2 rfl (by kernel_rfl) (by rfl) ?_
              refine wp_store_agg 86 _ _ rfl bw 0 rfl _ _ HBW8d (p1A m2 (.slice (some ⟨jg, 0, none⟩) nids.length jc) sv) rfl (p1A m2 (.slice (some ⟨jg, 0, none⟩) nids.length jc) sv) (store_p1 _ _ _ _ _ _) (le_p1 _ _ _ _ _ _) (infoP1 _ _ _) (p1A_one rfl ot) ?_
              intro w9 HBW9 HK9
              have HSL9 : (fun (w' : World) => w'.heap[bx]? = some (.cells (p1A m2 (.slice (some ⟨jg, 0, none⟩) nids.length jc) sv) 86 (0, 0))) w9 := HK9.blk HSL hxw
              have HBN9 : w9.heap[bn]? = some (.cells (p1A P.m iv tv) 86 (0, 0)) := HK9.blk (show w8.drew.heap[bn]? = _ from HM8.out.an.blk) (fun e => HNE.out e.symm)
              refine ⟨HSL9, ?_⟩
              simp only [Act.put, List.setIfInBounds_toArray, List.set_cons_succ, List.set_cons_zero]
              refine rg_one 3 rfl (by kernel_rfl) (by rfl) ?_
              refine wp_store_agg 86 _ _ rfl bn 0 rfl _ _ HBN9 (p1A m2 (.slice (some ⟨jg, 0, none⟩) nids.length jc) sv) rfl (p1A m2 (.slice (some ⟨jg, 0, none⟩) nids.length jc) sv) (store_p1 _ _ _ _ _ _) (le_p1 _ _ _ _ _ _) (infoP1 _ _ _) (p1A_one rfl ot) ?_
              intro w10 HBN10 HK10
              have hxn : bx ≠ bn := fun e => by have h1 := HM8.out.bx; have h2 := (HM8.out.old bn (.inl rfl)).2; omega
              refine ⟨HK10.blk HSL9 hxn, ?_⟩
              simp only [Act.put, List.setIfInBounds_toArray, List.set_cons_succ, List.set_cons_zero]
              refine wpAnyH_done (by kernel_rfl) ?_ _
              have HREL : Hid (CrOut w f dh bw bn (q + 1) w10) := Lib.hid ((HM8.out.new (Keeps.refl w8 _).drew).out HNE.out hxw (HOK8.out) HG.out hlo1 hlo2 HK9 HBW9 HK10 HBN10)
              clear HSL HSL9 HBW8d HBW8 HBX8 HBW9 HK9 HBN9 HBN10 HK10 ot
              go_wp2_with fail
              go_roundw
              case rel => exact ⟨q + 1, HQ.out, by go_num, HREL⟩
              case measure => have := HQ.out; simp [intOf]; omega
            · as_aux_lemma =>
              have HM8 := Lib.hid (HM7.out.call (hless (hB8 hr)) hkx)
              have HEND := Lib.hid hend
              have HCM := Lib.hid (show P.m.ok ∧ m2.ok from ⟨hPok, hcm.ok⟩)
              have hrb : ((wrMeta F2.d m2).2 != 0) = true := by simpa using hr
              have HBX8 := HM8.out.ax.blk
              have HBN8 := HM8.out.an.blk
              have ot := own_one HM8.out.ax.ts
              clear hr hend hA8 hB8 hless hkx hcall hL7 hask hso hsp hst hk7 hk8 HSQ HSQ7 HSQ8 hcm hin hi6 e1
              generalize (wrMeta F2.d m2).2 = r at *
              go_wp2_with (first
                | ((with_reducible refine gd_load 86 ?_); refine wl_load_agg rfl _ _ rfl bx _ rfl _ _ _ HBX8 (p1A m2 (.slice (some ⟨jg, 0, none⟩) nids.length jc) sv) (extract_all _) _ Try.underlying86 rfl (infoP1 _ _ _) ?_)
                | ((with_reducible refine gd_store 86 ?_); refine wl_store_agg rfl _ _ _ rfl bn _ rfl _ _ HBN8 (p1A m2 (.slice (some ⟨jg, 0, none⟩) nids.length jc) sv) rfl (p1A m2 (.slice (some ⟨jg, 0, none⟩) nids.length jc) sv) (store_p1 _ _ _ _ _ _) (le_p1 _ _ _ _ _ _) (infoP1 _ _ _) (p1A_one rfl ot) ?_; intro w9 HBN9 HK9)
                | fail)
              go_meet
              exact Lib.hid (HM8.out.fin HNE.out rfl HEND.out hgm2 HCM.out HK9 HBN9)
          · as_aux_lemma =>
            have hnb : ((nids.length : Int) != (e : Int) + 1) = true := by simp; omega
            have hnli : (nids.length : Int) ≤ 8 := by omega
            have HFIN : Hid (∀ n, CrFin w dh bw bn (wc.drewN n)) := Lib.hid fun n => CrFin.new ⟨F2.d, P, P, iv, tv, iv, tv, hend, .inl rfl, ⟨hpok, hpok⟩, hmem.law.dev, hmem.aw, hmem.an, fun i hi => ⟨(hmem.law.devS i hi).2, fun hh => (hmem.law.devS i hi).1 (.inl (.inr hh)), fun hh => (hmem.law.devS i hi).1 (.inl (by
              rcases hh with hh | hh
              · exact .inl hh
              · exact .inr (.inr hh)))⟩, by omega, hmem.law.keeps⟩ ((Keeps.refl wc _).drewN n)
            clear hend hcut hmem hfl hjc hjat hnl
            go_wp2_with fail
            go_quiet (fail)
            go_wp2_with fail
            go_meet
            exact Lib.hid (HFIN.out _)
      · have hout : (decide (q < xs.length) = false ∧ True) ∨ (decide (q < xs.length) = true ∧ decide ((q : Int) < 8) = false) := by
          rcases Nat.lt_or_ge q xs.length with h1 | h1
          · right; simp; omega
          · left; simp; omega
        have HFIN : Hid (CrFin w dh bw bn wr) := by
          obtain ⟨F, P, iv, tv, hok, hgen, haw, han, hlo1, hlo2, hL⟩ := hrel.out
          exact Lib.hid ⟨F.d, P, P, iv, tv, iv, tv, hok.fallen, .inl rfl, ⟨crok_mok hok, crok_mok hok⟩, hL.dev, haw, han, fun i hi => ⟨(hL.devS i hi).2, fun hh => (hL.devS i hi).1 (.inr hh), fun hh => (hL.devS i hi).1 (by
              rcases hh with hh | hh
              · exact .inl hh
              · exact .inr (.inr hh))⟩, Nat.le_trans (crok_files hok) (by decide), hL.keeps⟩
        clear hlt hrel
        rcases hout with ⟨h1, h2⟩ | ⟨h1, h2⟩
        all_goals
          go_wp2_with fail
          go_meet
          exact HFIN
  case rest =>
    as_aux_lemma =>
    clear HREL0 HC H1 H2 H3 H4
    obtain ⟨D, P, Q, iv, tv, jv, sv, hend, hpq, hmok, hd, haP, haQ, hS, hfl, hk⟩ := hcut.out
    have hpv : isInts wc (fun g => ¬ dh.S g ∧ g < wc.heap.size) (.slice pa ps.length pcap) ps := (HPS.out.new hk).weaken (fun i hi => ⟨fun hh => absurd (hS i hh).1 (Nat.not_le.2 hi), Nat.lt_of_lt_of_le hi hk.size⟩)
    have HMOKS := Lib.hid hmok
    have HP := Lib.hid haP
    have HQ := Lib.hid haQ
    have HS := Lib.hid hS
    have HK := Lib.hid hk
    obtain ⟨l, hl, hgood⟩ := hend.crash ps
    obtain ⟨G, hstar, hg⟩ := star_of hpq hgood
    obtain ⟨ho1, ho2⟩ := good_open hg
    have hbest : (openP (fusF (-1) (syC l))).mt = G.m := hg.sync.best (-1)
    have HRD : Hid (∀ (j id : Nat) t, G.ids[j]? = some id → G.ts[j]? = some t → readP (openP (fusF (-1) (syC l))) (id : Int) = (t, 0)) := Lib.hid fun j id t h1 h2 => good_read hg.sync (F := openP (fusF (-1) (syC l))) rfl h1 h2
    have HTL : Hid (∀ (j id : Nat), G.ids[j]? = some id → ∃ t, G.ts[j]? = some t ∧ t ≠ []) := Lib.hid fun j id h1 => by
      obtain ⟨_, b, h2, h3, _⟩ := hg.pages.2 j id h1
      refine ⟨_, h2, fun e => ?_⟩
      have := congrArg List.length e
      rw [wholeP_len h3] at this
      simp at this
    have HGOK := Lib.hid (good_ok hg)
    have HTS : Hid (G.ts.length = G.ids.length) := Lib.hid hg.pages.1
    have HST := Lib.hid hstar
    have HB := Lib.hid hbest
    clear hcut hend hpq haP haQ hgood hg hstar hbest
    go_wp2_with fail
    refine (crash_calls _ dh D ps _ hd (by omega) hpv).mono ?_
    rintro e w4 ⟨rfl, hd4, hk4⟩
    rw [hl] at hd4
    have hK4 : Keeps w w4 (fun _ => False) := HK.out.then hk4 (fun i hi h => absurd (HS.out i h).1 (Nat.not_le.2 hi))
    have haP4 := HP.out.kept hk4 (fun i hi hh => (HS.out i hh).2.1 hi)
    have haQ4 := HQ.out.kept hk4 (fun i hi hh => (HS.out i hh).2.2 hi)
    go_wp2_with fail
    refine l_open (w0 := w) (X := fun i => Ow bw iv tv i ∨ Ow bn jv sv i) hd4 (Nat.le_trans (show (fusF (-1) l).files.length ≤ 1 from Nat.le_refl _) (by decide)) ho1 ho2 (fun i hi => ?_) (fun i hi => (HS.out i hi).1) hK4 fun f2 w5 hL5 hk5 => ?_
    · rcases hi with hi | hi
      · exact ⟨haP4.lt i hi, fun hh => (HS.out i hh).2.1 hi⟩
      · exact ⟨haQ4.lt i hi, fun hh => (HS.out i hh).2.2 hi⟩
    have haP5 := haP4.kept hk5 (fun i hi hh => hh.1 (.inl hi))
    have haQ5 := haQ4.kept hk5 (fun i hi hh => hh.1 (.inr hi))
    have HBP := haP5.blk
    have HBQ := haQ5.blk
    have oi1 := own_one haP5.ids
    clear hd hd4 hk4 hK4 haP4 haQ4 hk5 ho1 ho2 hpv hk hS HP HQ HS HK hl HPS
    go_upto_block 4 with (first
      | ((with_reducible refine gd_load (dst := some 166) 86 ?_); refine wl_load_agg rfl _ _ rfl bw _ rfl _ _ _ HBP (p1A P.m iv tv) (extract_all _) _ Try.underlying86 rfl (infoP1 _ _ _) ?_)
      | ((with_reducible refine gd_load (dst := some 167) 86 ?_); refine wl_load_agg rfl _ _ rfl bn _ rfl _ _ _ HBQ (p1A Q.m jv sv) (extract_all _) _ Try.underlying86 rfl (infoP1 _ _ _) ?_)
      | (refine wl_sliceA rfl _ _ _ rfl (.agg (p1A P.m iv tv)) (.agg (p1A Q.m jv sv)) rfl rfl (p1A P.m iv tv ++ p1A Q.m jv sv) 86 (run_two _ _ _ _ _ _) ?_; intro bl w6 hbl HBL HKL)
      | fail)
    have hrg := p1_range HBL
    have hL6 := hL5.new HKL
    have HP6 := haP5.new HKL
    have HQ6 := haQ5.new HKL
    have HK6 := hL6.keeps
    have HPICK : Hid (∀ k : Nat, k < 2 → ∃ (N : P1) (nv mv : Value) (c : Nat), w6.rangeAt bl (k * 6) (p1A N.m nv mv).toList ∧ AtP1 w w6 c N nv mv ∧ (N = G ∨ N.m.gen ≠ G.m.gen) ∧ (k = 0 → N = P) ∧ (k = 1 → N = Q) ∧ N.m.ok) := Lib.hid fun k hk2 => by
      match k, hk2 with
      | 0, _ => exact ⟨P, iv, tv, bw, hrg.1, HP6, HST.out.1, (fun _ => rfl), (fun h => by cases h), HMOKS.out.1⟩
      | 1, _ => exact ⟨Q, jv, sv, bn, hrg.2, HQ6, HST.out.2.1, (fun h => by cases h), (fun _ => rfl), HMOKS.out.2⟩
    have HL6 := Lib.hid hL6
    have hbl := lt_of_blk HBL
    clear haP5 haQ5 HBP HBQ HBL HKL hrg hL5 hL6 HP6 HQ6 hbl oi1
    go_wp2_with fail
    go_loopw [170] (fun i wr => ∃ k : Nat, k ≤ 2 ∧ i = .int .i64 k ∧ Hid ((0 < k → P ≠ G) ∧ (1 < k → Q ≠ G) ∧ Keeps w6 wr (fun _ => False))) (fun i _ => 2 - (intOf i).toNat)
    case atStart => exact ⟨0, Nat.zero_le _, rfl, Lib.hid ⟨fun h => absurd h (Nat.lt_irrefl _), fun h => absurd h (by decide), Keeps.refl _ _⟩⟩
    case round =>
      obtain ⟨k, hk2, rfl, hrel⟩ := hrel
      have hk0 : (0 : Int) ≤ k := by omega
      by_cases hlt : k < 2
      · as_aux_lemma =>
        have hlb : decide ((k : Int) < 2) = true := by simp; omega
        have hki : (k : Int) < 2 := by omega
        obtain ⟨N, nv, mv, cN, hrg, haN, hNG, hNP, hNQ, hNok⟩ := HPICK.out k hlt
        obtain ⟨hr1, hr2, hkr⟩ := hrel.out
        have HRG : Hid (wr.rangeAt bl (k * 6) (p1A N.m nv mv).toList) := Lib.hid fun j x hj => by
          have := hrg j x hj
          exact Keeps.cellK hkr this
        have HAN := Lib.hid (haN.new hkr)
        have o1 := own_one haN.ids
        have o2 := own_one haN.ts
        have HLT := Lib.hid hlt
        have HR := Lib.hid hrel.out
        have HNN := Lib.hid (show (k = 0 → N = P) ∧ (k = 1 → N = Q) ∧ True from ⟨hNP, hNQ, trivial⟩)
        clear hrg haN hr1 hr2 hkr hrel hlt hNP hNQ
        go_upto_region 33 with (first
          | ((with_reducible refine gd_load 86 ?_); go_loud (refine wpList_load_mid rfl _ _ rfl bl (k * 6) rfl (p1A N.m nv mv).toList _ HRG.out Try.underlying86 rfl (infoP1 N.m nv mv) ?_))
          | ((with_reducible refine gd_alloc 86 ?_); refine wl_alloc_agg rfl _ rfl _ zeroP1 ?_; intro bp w7 hbp HBP HKP)
          | ((with_reducible refine gd_store 86 ?_); refine wl_store_agg rfl _ _ _ rfl bp _ rfl _ _ HBP (p1A N.m nv mv) rfl (p1A N.m nv mv) (store_p1 _ _ _ _ _ _) (le_p1 _ _ _ _ _ _) (infoP1 _ _ _) (p1A_one o1 o2) ?_; intro w8 HBP8 HKP8)
          | fail)
        have HKR : Hid (Keeps w6 w8 (fun _ => False)) := Lib.hid ((HR.out.2.2.trans HKP).then HKP8 (fun i hi e => absurd (Nat.le_trans HR.out.2.2.size hbp) (by rw [← show i = bp from e]; exact Nat.not_le.2 hi)))
        have HANB := HAN.out
        have HA8 : Hid (AtP1 w w8 cN N nv mv) := Lib.hid ((HANB.new HKP).kept HKP8 (fun i hi e => absurd (HANB.lt i hi) (Nat.not_lt.2 (by rw [show i = bp from e]; exact hbp))))
        have HBP9 := Lib.hid HBP8
        clear HANB HAN HBP HKP HBP8 HKP8 hbp HRG
        have HS : (fun (w' : World) => w'.heap[bp]? = some (.cells (p1A N.m nv mv) 86 (0, 0))) w8.drew := HBP9.out
        have HL8 : Law9 w w8.drew f2 dh (openP (fusF (-1) (syC l))) (fun i => Ow bw iv tv i ∨ Ow bn jv sv i) := (HL6.out.new HKR.out).drew
        have HBM := Lib.hid HB.out
        by_cases hit : N = G
        · as_aux_lemma =>
          subst hit
          have hrun := eql_mt HGOK.out HGOK.out true (by simp)
          refine wp_region_held_drew (S := (fun (w' : World) => w'.heap[bp]? = some (.cells (p1A N.m nv mv) 86 (0, 0)))) (by kernel_rfl) HS (fun _ => ?_)
          first
            | (refine rg_skip 0 rfl (by kernel_rfl) (by kernel_rfl) (by kernel_rfl) (fun _ _ _ h => h) HS ?_ ?_; rfl)
            | (refine rg_take 0 (v := ?_) rfl (by kernel_rfl) (by kernel_rfl) (by kernel_rfl) (fun _ _ _ h => h) HS ?_ ?_ ?_; rotate_left; rfl; focus (intro w hSw; (try dsimp only at hSw); go_simp; all_goals (with_reducible rfl)))
          simp only [Act.put, List.setIfInBounds_toArray, List.set_cons_succ, List.set_cons_zero]
          first
            | (refine rg_skip 2 rfl (by kernel_rfl) (by kernel_rfl) (by kernel_rfl) (fun _ _ _ h => h) HS ?_ ?_; rfl)
            | (refine rg_take 2 (v := ?_) rfl (by kernel_rfl) (by kernel_rfl) (by kernel_rfl) (fun _ _ _ h => h) HS ?_ ?_ ?_; rotate_left; rfl; focus (intro w hSw; (try dsimp only at hSw); go_simp; all_goals (with_reducible rfl)))
          simp only [Act.put, List.setIfInBounds_toArray, List.set_cons_succ, List.set_cons_zero]
          refine rg_load 3 rfl (by kernel_rfl) (by kernel_rfl) (by kernel_rfl) (metaA N.m) (fun _ _ _ h => h) HS (by rfl) bp 0 rfl (fun _ h => p1_meta h) _ Try.underlying66 rfl (infoMs _) ?_
          simp only [Act.put, List.setIfInBounds_toArray, List.set_cons_succ, List.set_cons_zero]
          refine rg_one 1 rfl (by kernel_rfl) (by rfl) ?_
          refine rg_call 46 _ _ rfl _ Try.func46 (by kernel_rfl) (by kernel_rfl) [.pointer (some ⟨f2, 0, none⟩)] rfl (l_meta HL8) ?_
          rintro e wa ⟨he, hLa, hka⟩
          rw [HBM.out] at he
          subst he
          have HSa : (fun (w' : World) => w'.heap[bp]? = some (.cells (p1A N.m nv mv) 86 (0, 0))) wa := hka.blk HS id
          refine ⟨_, rfl, HSa, ?_⟩
          simp only [Act.put, List.setIfInBounds_toArray, List.set_cons_succ, List.set_cons_zero]
          refine rg_binW 4 (.bool true) rfl (by kernel_rfl) (by kernel_rfl) (by kernel_rfl) (fun _ _ _ h => h) HSa (by rfl) (.agg (metaA N.m)) (.agg (metaA N.m)) rfl rfl (fun W => run_guard_mt W _ _ _ _ _) hrun ?_
          simp only [Act.put, List.setIfInBounds_toArray, List.set_cons_succ, List.set_cons_zero]
          first
            | (refine rg_skip 5 rfl (by kernel_rfl) (by kernel_rfl) (by kernel_rfl) (fun _ _ _ h => h) HSa ?_ ?_; rfl)
            | (refine rg_take 5 (v := ?_) rfl (by kernel_rfl) (by kernel_rfl) (by kernel_rfl) (fun _ _ _ h => h) HSa ?_ ?_ ?_; rotate_left; rfl; focus (intro w hSw; (try dsimp only at hSw); go_simp; all_goals (with_reducible rfl)))
          simp only [Act.put, List.setIfInBounds_toArray, List.set_cons_succ, List.set_cons_zero]
          refine wpAnyH_done (by kernel_rfl) ?_ _
          have HKa : Hid (Keeps w6 wa (fun _ => False)) := Lib.hid (HKR.out.drew.trans hka)
          have HAa : Hid (AtP1 w wa cN N nv mv) := Lib.hid ((HA8.out.new (Keeps.refl w8 _).drew).new hka)
          have HBa := Lib.hid HSa
          clear hrun HS HSa HL8 hLa hka HA8 HKR HBP9
          have HFa : Hid (Law9 w wa f2 dh (openP (fusF (-1) (syC l))) (fun i => Ow bw iv tv i ∨ Ow bn jv sv i)) := Lib.hid (HL6.out.new HKa.out)
          have hnl : ∃ na nc, nv = .slice na N.ids.length nc := by
            obtain ⟨na, nc, e, _⟩ := isOwn.rd HAa.out.ids
            exact ⟨na, nc, by rw [e, intV_len, nI_len]⟩
          obtain ⟨na, nc, rfl⟩ := hnl
          have hml : ∃ ma mc, mv = .slice ma N.ids.length mc := by
            obtain ⟨ma, mc, e, _⟩ := isOwn.rd HAa.out.ts
            exact ⟨ma, mc, by rw [e, textsV_len, HTS.out]⟩
          obtain ⟨ma, mc, rfl⟩ := hml
          have hlen : (N.ids.length : Int) ≤ 9223372036854775807 := by
            have := own_len HAa.out.ids
            rw [intV_len, nI_len] at this
            omega
          go_wp2_with fail
          go_loopw [22, 23] (fun v22 c wx => ∃ j : Nat, j ≤ N.ids.length ∧ v22 = .bool true ∧ c = .int .i64 j ∧ Hid (Keeps wa wx (fun _ => False))) (fun _ c _ => N.ids.length - (intOf c).toNat)
          case atStart => exact ⟨0, Nat.zero_le _, rfl, rfl, Lib.hid (Keeps.refl _ _)⟩
          case round =>
            obtain ⟨j, hj, rfl, rfl, hkx⟩ := hrel
            have hj0 : (0 : Int) ≤ j := by omega
            have hblk := hkx.out.blk HBa.out id
            have c4 : wr.cell? ⟨bp, 4, none⟩ = some (.slice na N.ids.length nc) := by rw [cell_of_block hblk]; rfl
            have c5 : wr.cell? ⟨bp, 5, none⟩ = some (.slice ma N.ids.length mc) := by rw [cell_of_block hblk]; rfl
            by_cases hlt : j < N.ids.length
            · as_aux_lemma =>
              have hlb2 : decide (j < N.ids.length) = true := by simpa using hlt
              have hji : (j : Int) < N.ids.length := by omega
              obtain ⟨id, hid⟩ : ∃ id, N.ids[j]? = some id := ⟨_, List.getElem?_eq_getElem hlt⟩
              obtain ⟨tx, htx, htn⟩ := HTL.out j id hid
              have hrd := HRD.out j id tx hid htx
              have hax := HAa.out.new hkx.out
              obtain ⟨ng, c9, he1, _, _, hng, hn0⟩ := isOwn.at hax.ids (intV_at (nI_at hid))
              obtain ⟨mg, c8, he2, _, _, hmg, hm0⟩ := isOwn.at hax.ts (textsV_at htx)
              simp only [Value.slice.injEq] at he1 he2
              obtain ⟨rfl, h81, rfl⟩ := he1
              obtain ⟨rfl, h82, rfl⟩ := he2
              clear h81 h82
              have HAX := Lib.hid hax
              have HRDJ := Lib.hid hrd
              have HTN := Lib.hid htn
              have HM0 := Lib.hid hm0
              have HC5 := Lib.hid c5
              have HLJ := Lib.hid hlt
              have HFX := Lib.hid (HFa.out.new hkx.out)
              clear hid htx htn hrd hax hng hmg hm0 hblk hlt
              go_wp2_with fail
              refine (l_read HFX.out (id : Int)).mono ?_
              rintro e w9 ⟨v9, he, ho9, _, hk9⟩
              rw [HRDJ.out] at he ho9
              dsimp only at he ho9
              subst he
              have hcv : ∀ j, (convert 63 9 v9).run Try.prog (w9.drewN j) = .ok (.string (bs tx)) (w9.drewN j) := fun j => run_string (isOwn.rd (isOwn.new ho9 ((Keeps.refl w9 _).drewN j))) HTN.out
              have hm9 : w9.cell? ⟨mg, j, none⟩ = some (.string (bs tx)) := Keeps.cellK hk9 HM0.out
              have c59 : w9.cell? ⟨bp, 5, none⟩ = some (.slice (some ⟨mg, 0, none⟩) N.ids.length mc) := Keeps.cellK hk9 HC5.out
              have HKX : Hid (∀ n, Keeps wa (w9.drewN n) (fun _ => False)) := Lib.hid fun n => (hkx.out.trans hk9).drewN n
              clear ho9 hk9 hkx c4 c5 hn0
              go_wp2_with fail
              go_quiet (fail)
              go_wp2_with fail
              go_roundw
              case rel => exact ⟨j + 1, by have := HLJ.out; omega, by first | rfl | simp, by go_num, Lib.hid (HKX.out _)⟩
              case measure => have := HLJ.out; simp [intOf]; omega
            · as_aux_lemma =>
              have hlb2 : decide (j < N.ids.length) = false := by simpa using hlt
              obtain rfl : j = N.ids.length := by omega
              clear hlt
              go_wp2_with fail
              refine (awake9_calls _).mono ?_
              rintro e wz ⟨rfl, hkz⟩
              go_wp2_with fail
              go_ret
              exact ⟨rfl, ((HK6.trans HKa.out).trans hkx.out).trans hkz⟩
        · as_aux_lemma =>
          have hgen : N.m.gen ≠ G.m.gen := hNG.resolve_left hit
          have hrun := eql_mt HGOK.out hNok false (by
            have : ¬ G.m = N.m := fun e => hgen (by rw [e])
            simp [this])
          refine wp_region_held_drew (S := (fun (w' : World) => w'.heap[bp]? = some (.cells (p1A N.m nv mv) 86 (0, 0)))) (by kernel_rfl) HS (fun _ => ?_)
          first
            | (refine rg_skip 0 rfl (by kernel_rfl) (by kernel_rfl) (by kernel_rfl) (fun _ _ _ h => h) HS ?_ ?_; rfl)
            | (refine rg_take 0 (v := ?_) rfl (by kernel_rfl) (by kernel_rfl) (by kernel_rfl) (fun _ _ _ h => h) HS ?_ ?_ ?_; rotate_left; rfl; focus (intro w hSw; (try dsimp only at hSw); go_simp; all_goals (with_reducible rfl)))
          simp only [Act.put, List.setIfInBounds_toArray, List.set_cons_succ, List.set_cons_zero]
          first
            | (refine rg_skip 2 rfl (by kernel_rfl) (by kernel_rfl) (by kernel_rfl) (fun _ _ _ h => h) HS ?_ ?_; rfl)
            | (refine rg_take 2 (v := ?_) rfl (by kernel_rfl) (by kernel_rfl) (by kernel_rfl) (fun _ _ _ h => h) HS ?_ ?_ ?_; rotate_left; rfl; focus (intro w hSw; (try dsimp only at hSw); go_simp; all_goals (with_reducible rfl)))
          simp only [Act.put, List.setIfInBounds_toArray, List.set_cons_succ, List.set_cons_zero]
          refine rg_load 3 rfl (by kernel_rfl) (by kernel_rfl) (by kernel_rfl) (metaA N.m) (fun _ _ _ h => h) HS (by rfl) bp 0 rfl (fun _ h => p1_meta h) _ Try.underlying66 rfl (infoMs _) ?_
          simp only [Act.put, List.setIfInBounds_toArray, List.set_cons_succ, List.set_cons_zero]
          refine rg_one 1 rfl (by kernel_rfl) (by rfl) ?_
          refine rg_call 46 _ _ rfl _ Try.func46 (by kernel_rfl) (by kernel_rfl) [.pointer (some ⟨f2, 0, none⟩)] rfl (l_meta HL8) ?_
          rintro e wa ⟨he, hLa, hka⟩
          rw [HBM.out] at he
          subst he
          have HSa : (fun (w' : World) => w'.heap[bp]? = some (.cells (p1A N.m nv mv) 86 (0, 0))) wa := hka.blk HS id
          refine ⟨_, rfl, HSa, ?_⟩
          simp only [Act.put, List.setIfInBounds_toArray, List.set_cons_succ, List.set_cons_zero]
          refine rg_binW 4 (.bool false) rfl (by kernel_rfl) (by kernel_rfl) (by kernel_rfl) (fun _ _ _ h => h) HSa (by rfl) (.agg (metaA G.m)) (.agg (metaA N.m)) rfl rfl (fun W => run_guard_mt W _ _ _ _ _) hrun ?_
          simp only [Act.put, List.setIfInBounds_toArray, List.set_cons_succ, List.set_cons_zero]
          first
            | (refine rg_skip 5 rfl (by kernel_rfl) (by kernel_rfl) (by kernel_rfl) (fun _ _ _ h => h) HSa ?_ ?_; rfl)
            | (refine rg_take 5 (v := ?_) rfl (by kernel_rfl) (by kernel_rfl) (by kernel_rfl) (fun _ _ _ h => h) HSa ?_ ?_ ?_; rotate_left; rfl; focus (intro w hSw; (try dsimp only at hSw); go_simp; all_goals (with_reducible rfl)))
          simp only [Act.put, List.setIfInBounds_toArray, List.set_cons_succ, List.set_cons_zero]
          refine wpAnyH_done (by kernel_rfl) ?_ _
          have HKa : Hid (Keeps w6 wa (fun _ => False)) := Lib.hid (HKR.out.drew.trans hka)
          have HAa : Hid (AtP1 w wa cN N nv mv) := Lib.hid ((HA8.out.new (Keeps.refl w8 _).drew).new hka)
          have HBa := Lib.hid HSa
          clear hrun HS HSa HL8 hLa hka HA8 HKR HBP9
          have hnl : ∃ na nc, nv = .slice na N.ids.length nc := by
            obtain ⟨na, nc, e, _⟩ := isOwn.rd HAa.out.ids
            exact ⟨na, nc, by rw [e, intV_len, nI_len]⟩
          obtain ⟨na, nc, rfl⟩ := hnl
          have c4 : wa.cell? ⟨bp, 4, none⟩ = some (.slice na N.ids.length nc) := by rw [cell_of_block HBa.out]; rfl
          have HNEXT : Hid ((0 < k + 1 → P ≠ G) ∧ (1 < k + 1 → Q ≠ G) ∧ Keeps w6 wa (fun _ => False)) := Lib.hid ⟨fun _ => by
              rcases Nat.eq_zero_or_pos k with h0 | h0
              · rw [← HNN.out.1 h0]; exact hit
              · exact HR.out.1 h0, fun h1 => by
              rw [← HNN.out.2.1 (by have := HLT.out; omega)]; exact hit, HKa.out⟩
          clear hgen hit
          go_wp2_with fail
          go_loopw [22, 23] (fun v22 c wx => v22 = .bool false ∧ c = .int .i64 0 ∧ wx = wa) (fun _ _ _ => 0)
          case atStart => exact ⟨rfl, rfl, rfl⟩
          case round =>
            obtain ⟨rfl, rfl, rfl⟩ := hrel
            by_cases hpos : 0 < N.ids.length
            · as_aux_lemma =>
              have hpb : decide ((0 : Int) < (N.ids.length : Int)) = true := by simpa using hpos
              go_wp2_with fail
              go_roundw
              case rel => exact ⟨k + 1, HLT.out, by go_num, HNEXT⟩
              case measure => have := HLT.out; simp [intOf]; omega
            · as_aux_lemma =>
              have hpb : decide ((0 : Int) < (N.ids.length : Int)) = false := by simpa using hpos
              go_wp2_with fail
              go_roundw
              case rel => exact ⟨k + 1, HLT.out, by go_num, HNEXT⟩
              case measure => have := HLT.out; simp [intOf]; omega
      · exfalso
        obtain ⟨h1, h2, _⟩ := hrel.out
        obtain rfl : k = 2 := by omega
        rcases HST.out.2.2 with h | h
        · exact h1 (by decide) h
        · exact h2 (by decide) h
end Go.Proofs.Ytadjcdfmppcpnaa
