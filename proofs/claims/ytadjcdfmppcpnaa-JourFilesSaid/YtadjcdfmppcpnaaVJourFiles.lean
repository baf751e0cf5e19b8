import Derived.Test.YtadjcdfmppcpnaaYW8a
import Derived.Test.YtadjcdfmppcpnaaYJ20
/-! Layer 8: the walk of JourFiles. -/
namespace Go.Proofs.Ytadjcdfmppcpnaa
open Go Go.RowKit Go.Maps Wb

theorem need48 {k : Nat} (h : 1 ≤ k) : needN (48 * k) = k := by unfold needN; split <;> omega
/-- Where the next batch comes to stand. -/
def nextF (f u : Nat) : Nat × Nat := if f = 0 ∨ 256 ≤ u then (f + 1, 0) else (f, u)
structure FilesJ (L : FJ) (J : Jr) (f u : Nat) : Prop where
  file : J.file = f
  next : J.next = f + 1
  at' : (f = 0 ∧ u = 0) ∨ (f ≠ 0 ∧ ∃ L0 l, L = L0 ++ [(f, l)] ∧ l.length = u)
theorem FilesJ.spot {L L0 : FJ} {J : Jr} {f u f' nx : Nat} {l : List Cell} (h : FilesJ L J f u) (hs : SpotJ L J L0 f' l nx) : f' = (nextF f u).1 ∧ l.length = (nextF f u).2 ∧ nx = f' + 1 := by
  obtain ⟨h1, h2, h3⟩ := h
  unfold nextF
  rcases hs with ⟨ht, rfl, rfl, rfl, rfl⟩ | ⟨h0, rfl, rfl, hl, rfl⟩
  · have hc : f = 0 ∨ 256 ≤ u := by
      rcases h3 with ⟨h6, _⟩ | ⟨_, L2, l2, h6, h7⟩
      · exact .inl h6
      · rcases ht with h4 | ⟨L1, l1, h4, h5⟩
        · left; omega
        · right
          rw [h4] at h6
          obtain ⟨_, h8⟩ := List.append_inj' h6 rfl
          injection h8 with h9
          injection h9 with _ h10
          rw [← h7, ← h10]; exact h5
    rw [if_pos hc]
    exact ⟨h2, rfl, rfl⟩
  · rcases h3 with ⟨h6, _⟩ | ⟨h5, L2, l2, h6, h7⟩
    · exact absurd (by rw [h1, h6] : J.file = 0) h0
    · obtain ⟨_, h8⟩ := List.append_inj' h6 rfl
      injection h8 with h9
      injection h9 with _ h10
      rw [h10] at hl ⊢
      rw [if_neg (by omega)]
      exact ⟨h1, h7, by omega⟩
def FilesRel (w : World) (h : DH) (jb q f u : Nat) (wr : World) : Prop := ∃ L J n B, FewJ L J n B q ∧ FilesJ L J f u ∧ used (fsJ L) ≤ 128 * q ∧ n ≤ q ∧ f ≤ q ∧ u ≤ 128 * q ∧ Law8 w wr h jb (devJ 5000 (-1) L) J

set_option maxRecDepth 100000 in
set_option maxHeartbeats 8000000 in
theorem jourFiles_walk (w : World) (v : Value) (xs : List Int) (hv : isInts w (fun g => g < w.heap.size) v xs) (nm : Int) : Calls Try.prog 19 #[v, .int .i64 nm] w (Quiet w (.bool true)) := by
  obtain ⟨a, cap, rfl, hl1, hl2, hl3, hx4⟩ := hv
  have hli : (xs.length : Int) ≤ 140737488351232 := by omega
  have HC : Hid (∀ (q : Nat), q < xs.length → ∃ g o x, kOk x ∧ a = some ⟨g, o, none⟩ ∧ g < w.heap.size ∧ w.cell? ⟨g, o + q, none⟩ = some (.int .i64 x)) := by
    intro q hq
    rcases hx4 with rfl | ⟨g, o, rfl, _, hg, hc⟩
    · simp at hq
    · exact ⟨g, o, xs[q]'hq, hl3 _ (List.getElem_mem _), rfl, hg, hc q _ (List.getElem?_eq_getElem _)⟩
  clear hx4 hl3
  go_enter Try.func19, Try.ntmps19
  go_wp2_with fail
  refine new_any _ _ fun h w1 hd1 hk1 hS => ?_
  have hL1 : LawD w w1 h (devJ 5000 (-1) []) := LawD.start (by rw [← new_dev (by decide)]; exact hd1) hk1 hS
  clear hd1 hk1 hS
  go_wp2_with fail
  refine (l8_open hL1 okJ_nil .nil (by decide)).mono ?_
  rintro e w2 ⟨L', J', jb, lv, hv, hse, hus, hlj, hf0, hnx, rfl, hL2, hbt, hjb, hk2⟩
  obtain rfl := hse settled_nil
  obtain rfl := lj_new hlj hf0 hnx
  have HREL0 : Hid (FilesRel w h jb 0 0 0 w2) := Lib.hid ⟨[], _, 0, [], few_new, ⟨rfl, rfl, .inl ⟨rfl, rfl⟩⟩, Nat.le_refl _, Nat.le_refl _, Nat.le_refl _, Nat.le_refl _, hL2⟩
  clear hv hse hus hlj hf0 hnx hL2 hbt hjb hk2 hL1
  go_upto_block 0 with fail
  go_cut [] (fun wx => Hid (Keeps w wx (fun _ => False)))
  case first =>
    as_aux_lemma =>
    go_wp2_with fail
    go_loopw [8, 9, 10] (fun v8 v9 i wr => ∃ q f u : Nat, q ≤ 20 ∧ i = .int .i64 q ∧ v8 = .int .i64 f ∧ v9 = .int .i64 u ∧ Hid (FilesRel w h jb q f u wr)) (fun _ _ i _ => 20 - (intOf i).toNat)
    case atStart => exact ⟨0, 0, 0, Nat.zero_le _, rfl, rfl, rfl, HREL0⟩
    case round =>
      clear HREL0
      obtain ⟨q, fl, u, hq, rfl, rfl, rfl, hrel⟩ := hrel
      have hq0 : (0 : Int) ≤ q := by omega
      have hqi : (q : Int) ≤ 20 := by omega
      obtain ⟨L, J, n, B, hfew, hfj, hus, hnq, hfq, huq, hL⟩ := hrel.out
      have hui : (u : Int) ≤ 2560 := by omega
      have hu0 : (0 : Int) ≤ u := by omega
      have hfi : (fl : Int) ≤ 20 := by omega
      have hf0 : (0 : Int) ≤ fl := by omega
      by_cases hlt : q < xs.length ∧ q < 20
      · have hlt1 : decide (q < xs.length) = true := by simpa using hlt.1
        have hql : (q : Int) < xs.length := by omega
        have hq2 : (q : Int) < 20 := by omega
        have hlt2 : decide ((q : Int) < 20) = true := by simp; omega
        obtain ⟨g, o, x, hx, rfl, hg, hcw⟩ := HC.out q hlt.1
        obtain ⟨k, hn, hn1, hn9⟩ : ∃ e : Nat, x % 128 + 1 = e ∧ 1 ≤ e ∧ e ≤ 128 := ⟨(x % 128 + 1).toNat, by omega, by omega, by omega⟩
        have hmk : bits BinOp.and IntKind.i64 x 127 = x % 128 := mask127 x
        have hr1 : 0 ≤ x % 128 := by omega
        have hr2 : x % 128 < 128 := by omega
        have hcx : wr.cell? ⟨g, o + q, none⟩ = some (.int .i64 x) := (hL.law.keeps.cell (p := ⟨g, o + q, none⟩) hg id).trans hcw
        have HQ := Lib.hid hlt.2
        have HF := Lib.hid hfew
        have HFJ := Lib.hid hfj
        have HU := Lib.hid hus
        have HB := Lib.hid (And.intro hnq (And.intro hfq huq))
        have HL := Lib.hid hL
        have HN := Lib.hid hn
        have hki1 : (1 : Int) ≤ k := by omega
        have hki9 : (k : Int) ≤ 128 := by omega
        clear hlt hfew hus hnq hL hrel hcw hn hfj hfq huq
        go_upto_region 12 with fail
        rw [HN.out]
        clear hr1 hr2 hmk
        go_wp2_with fail
        rw [show (48 : Int) * (k : Int) = ((48 * k : Nat) : Int) by omega]
        refine (octets_calls _ (48 * k) q (by omega) (kOk_small (by omega))).mono ?_
        rintro e w3 ⟨bv, rfl, ho3, hk3⟩
        have hL3 := HL.out.more hk3
        have hoff : ∀ g, bv.ownBlock = some g → ¬ h.S g ∧ g ≠ jb := fun g hg => HL.out.off (ho3.blk g hg).1
        have hlen : (octP (48 * k) q).length = 48 * k := octP_len _ _
        have hneed : needN (octP (48 * k) (q : Int)).length = k := by rw [hlen, need48 hn1]
        go_wp2_with fail
        refine (l8_append (kind := 1) (n := n) hL3 HF.out.live (by have := HF.out.next; omega) (by have := HF.out.file; omega) ⟨by decide, by decide, by rw [hneed]; omega, by have := HB.out.1; omega⟩ (by rw [hneed]; have := HU.out; omega) (by omega) (isOwn.arg ho3) hoff).mono ?_
        rintro e w4 ⟨L0, f, l, nx, L', bv4, hsp, hdn, rfl, hL4, hbo, hk4⟩
        obtain ⟨hf', hl', hnx'⟩ := HFJ.out.spot hsp
        have o1 := own_one1 hbo
        have HF4 := Lib.hid (HF.out.append hsp hdn)
        have HU4 : Hid (used (fsJ L') ≤ 128 * (q + 1)) := Lib.hid (by rw [hdn.used, hneed]; have := HU.out; omega)
        have HFJ4 : Hid (FilesJ L' ⟨n + 1, f, nx, false⟩ f (l.length + k)) := Lib.hid ⟨rfl, hnx', .inr ⟨by rw [hf']; unfold nextF; split <;> simp; omega, L0, _, hdn.shape, by rw [syC_len, List.length_append, freshC_len, sectorsP_len, hneed]⟩⟩
        obtain ⟨ba, bc, rfl, _⟩ := isOwn.rd hbo
        rw [hl'] at HFJ4 ⊢
        subst hf'
        clear hsp hdn hbo hk4 ho3 hk3 hL3 hoff hlen hneed HL hl' hnx'
        go_upto_region 13 with (first
          | ((with_reducible refine gd_alloc 94 ?_); refine wl_alloc_agg rfl _ rfl _ zeroBt ?_; intro b12 w5 hb5 HB5 HK5)
          | ((with_reducible refine gd_store 94 ?_); refine wl_store_agg rfl _ _ _ rfl b12 _ rfl _ _ HB5 (btA (n + 1) 1 (.slice ba _ bc) (nextF fl u).1 (nextF fl u).2) rfl (btA (n + 1) 1 (.slice ba _ bc) (nextF fl u).1 (nextF fl u).2) (store_bt _ _ _ _ _ _ _ _ _ _) (le_bt _ _ _ _ _ _ _ _ _ _) (infoBt _ _ _ _ _) (btA_one o1) ?_; intro w6 HB6 HK6)
          | fail)
        have hL6 := hL4.more (HK5.then HK6 (fun i hi e => absurd hb5 (by rw [← show i = b12 from e]; exact Nat.not_le.2 hi)))
        have hk14 : (k : Int) ≤ 128 := hki9
        have HREL : ∀ f' u', nextF fl u = (f', u') → Hid (FilesRel w h jb (q + 1) f' (u' + k) w6) := fun f' u' e => Lib.hid (by
          rw [e] at HFJ4 hL6 HF4
          have hb := HB.out
          have hf9 : f' ≤ q + 1 ∧ u' ≤ 128 * q := by unfold nextF at e; split at e <;> injection e with e1 e2 <;> subst e1 e2 <;> omega
          exact ⟨L', _, n + 1, _, HF4.out, HFJ4.out, HU4.out, by omega, hf9.1, by omega, hL6⟩)
        have hcase : ((((fl : Int) == 0) = true ∨ ((fl : Int) == 0) = false ∧ decide ((256 : Int) ≤ (u : Int)) = true) ∧ nextF fl u = (fl + 1, 0)) ∨ (((fl : Int) == 0) = false ∧ decide ((256 : Int) ≤ (u : Int)) = false) ∧ nextF fl u = (fl, u) := by
          unfold nextF
          by_cases hc : fl = 0 ∨ 256 ≤ u
          · rw [if_pos hc]
            refine .inl ⟨?_, rfl⟩
            simp only [beq_iff_eq, beq_eq_false_iff_ne, decide_eq_true_eq, ne_eq]
            omega
          · rw [if_neg hc]
            refine .inr ⟨?_, rfl⟩
            simp only [beq_eq_false_iff_ne, decide_eq_false_iff_not, ne_eq]
            omega
        have HL6 := Lib.hid hL6
        clear hb5 HB5 HK5 HK6 hL4 hL6 HF4 HU4 HFJ4
        rcases hcase with ⟨hb, hnf⟩ | ⟨⟨h1, h2⟩, hnf⟩
        · rw [hnf] at HL6 HB6
          have HREL2 := HREL _ _ hnf
          have c3 : w6.cell? ⟨b12, 3, none⟩ = some (.int .i64 ((fl : Int) + 1)) := by rw [cell_of_block HB6]; rfl
          have c4 : w6.cell? ⟨b12, 4, none⟩ = some (.int .i64 0) := by rw [cell_of_block HB6]; rfl
          have hfl1 : ((fl + 1 : Nat) : Int) = (fl : Int) + 1 := by omega
          clear hnf HREL HB6
          rcases hb with h1 | ⟨h1, h2⟩
          all_goals
            as_aux_lemma =>
            go_wp2_with (first
              | (go_at_call 68; refine (jfile_calls _ h jb _ HL6.out.jr).mono ?_; rintro e w' ⟨rfl, rfl⟩)
              | fail)
            go_roundw
            case rel => exact ⟨q + 1, fl + 1, 0 + k, HQ.out, by go_num, by go_num, by go_num, HREL2⟩
            case measure => have := HQ.out; simp [intOf]; omega
        · rw [hnf] at HL6 HB6
          have HREL2 := HREL _ _ hnf
          have c3 : w6.cell? ⟨b12, 3, none⟩ = some (.int .i64 (fl : Int)) := by rw [cell_of_block HB6]; rfl
          have c4 : w6.cell? ⟨b12, 4, none⟩ = some (.int .i64 (u : Int)) := by rw [cell_of_block HB6]; rfl
          clear hnf HREL HB6
          as_aux_lemma =>
          go_wp2_with (first
            | (go_at_call 68; refine (jfile_calls _ h jb _ HL6.out.jr).mono ?_; rintro e w' ⟨rfl, rfl⟩)
            | fail)
          go_roundw
          case rel => exact ⟨q + 1, fl, u + k, HQ.out, by go_num, rfl, by go_num, HREL2⟩
          case measure => have := HQ.out; simp [intOf]; omega
      · have hout : (decide (q < xs.length) = false) ∨ (decide (q < xs.length) = true ∧ decide ((q : Int) < 20) = false) := by
          simp only [decide_eq_false_iff_not, decide_eq_true_eq]
          omega
        have HOUT := Lib.hid hL.law.keeps
        clear hlt hfew hus hnq hL hrel hfj hfq huq
        rcases hout with h1 | ⟨h1, h2⟩
        all_goals
          go_wp2_with fail
          go_meet
          exact HOUT
  case rest =>
    as_aux_lemma =>
    clear HREL0
    by_cases hn : nm < 1 ∨ 999999 < nm
    · have hnm : nameI nm = [] := by unfold nameI; rw [if_pos hn]
      have hb : decide (nm < 1) = true ∨ decide (nm < 1) = false ∧ decide (999999 < nm) = true := by
        simp only [decide_eq_true_eq, decide_eq_false_iff_not]
        omega
      have t1 : (bs []).toList = [] := bs_toList _
      clear hn
      rcases hb with h1 | ⟨h1, h2⟩
      all_goals
        as_aux_lemma =>
        go_wp2_with fail
        refine (name_calls _ nm).mono ?_
        rintro e w3 ⟨rfl, hk3⟩
        rw [hnm]
        go_wp2_with (first
          | (go_at_call 61; refine (awake8_calls _).mono ?_; rintro e w8 ⟨rfl, hk8⟩)
          | fail)
        go_ret
        exact ⟨rfl, (hcut.out.trans hk3).trans hk8⟩
    · obtain ⟨k, rfl⟩ : ∃ k : Nat, nm = k := ⟨nm.toNat, by omega⟩
      have hnm : nameI (k : Int) = jname k := by unfold nameI; rw [if_neg hn, Int.toNat_natCast]
      have h1 : decide ((k : Int) < 1) = false := by simp; omega
      have h2 : decide (999999 < (k : Int)) = false := by simp; omega
      have HNUM : Hid (numOf (jname k) = k) := Lib.hid (num_name (by omega))
      have t1 : (bs (jname k)).size = 7 := by rw [bs_size, jname_len]
      have t2 : ((bs (jname k)).toList == []) = false := by rw [bs_toList]; rfl
      have t3 : ∀ (h : 0 < (bs (jname k)).size), (bs (jname k))[0]'h = 106 := fun h => rfl
      have hk9 : (k : Int) ≤ 999999 := by omega
      have hk1 : (1 : Int) ≤ k := by omega
      clear hn
      go_wp2_with fail
      refine (name_calls _ _).mono ?_
      rintro e w3 ⟨rfl, hk3⟩
      rw [hnm]
      go_wp2_with (first
        | (go_at_call 69; refine (rnum_calls _ _ (by rw [jname_len]; decide)).mono ?_; rintro e w' ⟨he, rfl⟩; rw [HNUM.out] at he; subst he)
        | (go_at_call 61; refine (awake8_calls _).mono ?_; rintro e w8 ⟨rfl, hk8⟩)
        | fail)
      go_ret
      exact ⟨rfl, (hcut.out.trans hk3).trans hk8⟩
end Go.Proofs.Ytadjcdfmppcpnaa
