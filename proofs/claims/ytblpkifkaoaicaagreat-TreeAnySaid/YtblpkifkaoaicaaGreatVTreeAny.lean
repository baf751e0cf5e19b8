import Derived.Test.YtblpkifkaoaicaaGreatQS
/-! The walk of TreeAny. -/
namespace Go.Proofs.YtblpkifkaoaicaaGreat
open Go Go.RowKit Go.Maps Wb

set_option maxRecDepth 100000 in
set_option maxHeartbeats 8000000 in
theorem treeAny_walk (w : World) (lv : Value) (xs : List Int) (hx : isInts w (fun g => g < w.heap.size) lv xs) (turn commits : Int) : Calls Tryz.prog 3 #[lv, .int .i64 turn, .int .i64 commits] w (Quiet w (.bool true)) := by
  obtain ⟨a, cap, rfl, hc1, hc2, hc3, hc4⟩ := hx
  have HC : Hid (∀ (q : Nat), q < xs.length → ∃ g o x, a = some ⟨g, o, none⟩ ∧ xs[q]? = some x ∧ ∀ W, Keeps w W (fun _ => False) → W.cell? ⟨g, o + q, none⟩ = some (.int .i64 x)) := Lib.hid fun q hq => by
    have hxq : xs[q]? = some (xs[q]'hq) := List.getElem?_eq_getElem _
    rcases hc4 with h | ⟨g, o, h1, h2, h3, h4⟩
    · rw [h] at hq; exact absurd hq (Nat.not_lt_zero _)
    · exact ⟨g, o, _, h1, hxq, fun W hk => Keeps.cellK hk (h4 q _ hxq)⟩
  obtain ⟨L, hL⟩ : ∃ L, L = xs.length := ⟨_, rfl⟩
  obtain ⟨n, hn⟩ : ∃ n, n = min L 150 := ⟨_, rfl⟩
  have hLi : (L : Int) ≤ 140737488351232 := by omega
  have hL0 : (0 : Int) ≤ L := by omega
  have hmin : min (L : Int) 150 = (n : Int) := by omega
  have hni : (n : Int) ≤ 150 := by omega
  have hn0 : (0 : Int) ≤ n := by omega
  have hnL : (n : Int) ≤ L := by omega
  rw [← hL] at HC ⊢
  have HN : Hid (n ≤ 150 ∧ n ≤ L) := Lib.hid ⟨by omega, by omega⟩
  have HL := Lib.hid hL
  have HF := Lib.hid (fresh_calls w w 20000 2500 (by decide) (by decide) (by decide) (Keeps.refl _ _))
  clear hc1 hc2 hc3 hc4 hn hL
  go_enter Tryz.func3, Tryz.ntmps3
  go_wp2_with fail
  refine HF.out.mono ?_
  rintro e w1 ⟨da, ta, fa, Sa, Fa, rfl, htra, htsa, hk1, hSa⟩
  have HTA := Lib.hid htra
  have HTSA := Lib.hid htsa
  have HK1 := Lib.hid hk1
  have HF2 := Lib.hid (fresh_calls w w1 20000 2500 (by decide) (by decide) (by decide) hk1)
  clear HF htra htsa hk1 hSa
  go_wp2_with fail
  refine HF2.out.mono ?_
  rintro e w2 ⟨db, tb, fb, Sb, Fb, rfl, htrb, htsb, hk2, hSb⟩
  have HTA2 := Lib.hid (HTA.out.new hk2)
  have HTB := Lib.hid htrb
  have HTSB := Lib.hid htsb
  have HD : Hid (∀ i, Sa i → ¬ Sb i) := Lib.hid fun i hi hs => by have := (HTA.out.low i hi).2; have := hSb i hs; omega
  have HK2 := Lib.hid (HK1.out.trans hk2)
  clear HF2 htrb htsb hk2 hSb HTA
  go_upto_block 0 with (first
    | (go_at_call 12; refine (awake11_calls _).mono ?_; rintro e w3 ⟨rfl, hk3⟩; have HK3 := Lib.hid hk3; clear hk3)
    | ((with_reducible refine gd_build 31 ?_); refine wl_buildL rfl _ _ rfl [] rfl (.agg #[.slice none 0 0]) (fun _ => buildMp0 _) ?_)
    | ((with_reducible refine gd_box 31 ?_); refine wl_box_agg rfl _ _ rfl #[.slice none 0 0] rfl ?_; intro m w4 hm4 HB4 HK4)
    | fail)
  have HST : Hid (AnyA w xs fa ta da fb tb db m Fb 0 w4 ∧ TS 20000 2500 1 Fb none none) := Lib.hid (by
    refine ⟨⟨Fa, none, none, 0, 1, ⟨Sa, Sb, (· = m), (HTA2.out.new HK3.out).new HK4, (HTB.out.new HK3.out).new HK4, ⟨fun i e => ?_, _, HB4, show isOwnA w4 w.heap.size 84 2 (.slice none 0 0) (kvsA []) from ⟨by simp [kvsA], rfl, .inl ⟨rfl, rfl⟩⟩, rfl, fun g hg => by cases hg⟩, fun i hi => ⟨HD.out i hi, fun e => ?_⟩, fun i hi e => ?_⟩, HTSA.out, Nat.le_refl _, rfl, Nat.zero_le _⟩, HTSB.out⟩
    · have e' : i = m := e
      subst e'
      exact ⟨Nat.le_trans (HK2.out.trans HK3.out).size hm4, lt_of_blk HB4⟩
    · have e' : i = m := e
      subst e'
      have := (HTA2.out.low _ hi).2
      have := HK3.out.size
      omega
    · have e' : i = m := e
      subst e'
      have := (HTB.out.low _ hi).2
      have := HK3.out.size
      omega)
  have HSB := Lib.hid HST.out.2
  have HSA := Lib.hid HST.out.1
  clear HST HTA2 HTB HTSA HTSB HD HK1 HK2 HK3 HB4 HK4 hm4
  obtain ⟨c1, hc1⟩ : ∃ c1, bits BinOp.and IntKind.i64 commits 1 = c1 := ⟨_, rfl⟩
  obtain ⟨c2, hc2⟩ : ∃ c2, bits BinOp.and IntKind.i64 commits 2 = c2 := ⟨_, rfl⟩
  obtain ⟨u, hu⟩ : ∃ u : Nat, bits BinOp.and IntKind.i64 turn 255 = (u : Int) ∧ u < 256 := ⟨(turn % 256).toNat, by rw [mask255]; omega, by omega⟩
  obtain ⟨hu1, hu2⟩ := hu
  have hui : (u : Int) < 256 := by omega
  have hu0 : (0 : Int) ≤ u := by omega
  clear hu2
  go_cut [13] (fun v13 wx => Hid (AnyA w xs fa ta da fb tb db m Fb n wx))
  case first =>
    go_wp2_with fail
    go_loopw [13] (fun v13 wr => ∃ q : Nat, q ≤ n ∧ v13 = .int .i64 q ∧ Hid (AnyA w xs fa ta da fb tb db m Fb q wr)) (fun v13 _ => n - (intOf v13).toNat)
    case atStart => exact ⟨0, Nat.zero_le _, rfl, HSA⟩
    case round =>
      clear HSA
      obtain ⟨q, hq, rfl, hrel⟩ := hrel
      have hq0 : (0 : Int) ≤ q := by omega
      by_cases hlt : q < n
      · as_aux_lemma =>
        have hlb : decide ((q : Int) < n) = true := by simp; omega
        have hlbn : decide (q < n) = true := by simp; omega
        have hqn : (q : Int) < n := by omega
        have hqL : (q : Int) < L := by omega
        obtain ⟨g, o, x, rfl, hxq, hcx⟩ := HC.out q (by omega)
        obtain ⟨e15, he15⟩ : ∃ e15, bits BinOp.and IntKind.i64 (q : Int) 15 = e15 := ⟨_, rfl⟩
        have HX := Lib.hid hxq
        have HCX := Lib.hid hcx
        have HLT := Lib.hid hlt
        have cx := hcx _ hrel.out.base
        clear hxq hcx hlt HC
        go_wp2_with fail
        refine (key_calls _ x).mono ?_
        rintro e w5 ⟨rfl, hk5⟩
        have HP := Lib.hid ((hrel.out.new hk5).putted HX.out (by have := HN.out.1; have := HLT.out; omega))
        clear hk5 hrel cx
        go_wp2_with fail
        refine HP.out.mono ?_
        rintro e w6 ⟨rfl, hb6, hst⟩
        have HST := Lib.hid hst
        have cx := HCX.out _ hb6
        clear hb6 hst HP
        go_wp2_with fail
        refine (key_calls _ x).mono ?_
        rintro e w7 ⟨rfl, hk7⟩
        have HK7 := Lib.hid hk7
        clear hk7 cx
        have kc := fun (w : World) (C : Array Value) (n c : Nat) => Go.Lib.run_convert_bytes_const (P := Tryz.prog) w 36 5 C n c Tryz.underlying36 Tryz.underlying5
        go_wp2_with (first
          | ((with_reducible refine gd_build 38 ?_); obtain ⟨w8, hw8⟩ : ∃ w8, w8 = w7.alloc (.cells #[.int .u8 118] 5 (1, 2)) := ⟨_, rfl⟩; rw [← hw8]; have HB8 : w8.heap[w7.heap.size]? = some (.cells #[.int .u8 118] 5 (1, 2)) := (by rw [hw8]; exact (Go.MapKept.heap_alloc w7 _).1); have HK8 : Keeps w7 w8 (fun _ => False) := (by rw [hw8]; exact (Keeps.refl w7 _).alloc _); generalize hbg : w7.heap.size = b8 at HB8 ⊢; clear hw8 kc; refine wl_buildL rfl _ _ rfl [(0, .string (bs (keyNm x))), (2, .slice (some ⟨b8, 0, none⟩) 1 1)] rfl (.agg #[.string (bs (keyNm x)), .bool false, .slice (some ⟨b8, 0, none⟩) 1 1]) (fun _ => buildOp _ _ _ _ _) ?_)
          | (refine wl_sliceA1 rfl _ _ rfl 38 _ 3 48 Tryz.underlying39 infoOpZ (by decide) (by decide) #[.string (bs (keyNm x)), .bool false, .slice (some ⟨b8, 0, none⟩) 1 1] rfl rfl ?_; intro b9 w9 hb9 HB9 HK9)
          | fail)
        have HK79 : Hid (Keeps w6 w9 (fun _ => False)) := Lib.hid ((HK7.out.trans HK8).trans HK9)
        obtain ⟨hm9, hs9, hl9, hdo⟩ := HST.out w9 HK79.out
        have hb8w : isRd w8 (.slice (some ⟨b8, 0, none⟩) 1 1) (octs [118]) := ⟨_, 1, rfl, Nat.le_refl _, fun j x hj => ⟨b8, 0, rfl, lt_of_blk HB8, by
          rw [cell_of_block HB8, Nat.zero_add]
          cases j with
          | zero => simpa [octs, octV] using hj
          | succ j => cases hj⟩⟩
        have hb8v : isRd w9 (.slice (some ⟨b8, 0, none⟩) 1 1) (octs [118]) := isRd.new hb8w HK9
        have HDO := Lib.hid (do_calls w9 w.heap.size m (mapQ xs q) (keyNm x) [118] false b9 _ hm9 (by rw [List.pairwise_map]; exact hs9) hl9 HB9 hb8v)
        have HDN := Lib.hid hdo
        clear hm9 hs9 hl9 hdo hb8v hb8w HB8 HB9 HK8 HK9 hbg hb9 HST
        refine HDO.out.mono ?_
        rintro e w10 ⟨rfl, hm10, hk10⟩
        obtain ⟨hA1, hcm⟩ := HDN.out w10 hm10 hk10
        have HA1 := Lib.hid hA1
        have HCM := Lib.hid hcm
        clear hA1 hcm hm10 hk10 HDN HDO
        by_cases h15 : e15 = 15
        · by_cases h1 : c1 = 1
          · as_aux_lemma =>
            subst h15 h1
            go_wp2_with fail
            refine HCM.out.mono ?_
            rintro e w11 ⟨rfl, hA2⟩
            have HA2 := Lib.hid hA2
            clear hA2 HCM
            go_wp2_with fail
            go_roundw
            case rel => exact ⟨q + 1, by omega, by go_num, HA2⟩
            case measure => have := HLT.out; simp [intOf]; omega
          · as_aux_lemma =>
            subst h15
            have h1b : (c1 == 1) = false := by simpa using h1
            go_wp2_with fail
            go_roundw
            case rel => exact ⟨q + 1, by omega, by go_num, HA1⟩
            case measure => have := HLT.out; simp [intOf]; omega
        · as_aux_lemma =>
          have h15b : (e15 == 15) = false := by simpa using h15
          go_wp2_with fail
          go_roundw
          case rel => exact ⟨q + 1, by omega, by go_num, HA1⟩
          case measure => have := HLT.out; simp [intOf]; omega
      · as_aux_lemma =>
        obtain rfl : q = n := by omega
        have hlb : decide ((q : Int) < (q : Int)) = false := by simp
        have hlbn : decide (q < q) = false := by simp
        have HRE := Lib.hid hrel.out
        clear hrel HC
        go_wp2_with fail
        go_meet
        exact HRE
  case rest =>
    obtain ⟨wx, hwx⟩ : ∃ x, x = wc := ⟨wc, rfl⟩
    rw [← hwx] at hcut ⊢
    clear hwx
    obtain ⟨Fa1, Ra, Ka, ha, hB0, hoka, hfla⟩ := hcut.out.toB HSB.out
    have HB0 := Lib.hid hB0
    have HOKA := Lib.hid hoka
    have HFLA := Lib.hid hfla
    clear hcut HSB HSA hB0 hoka hfla hc1
    go_upto_block 2 with fail
    go_cut [14] (fun v14 wy => Hid (AnyB w xs n fa ta da fb tb db m Fa1 Ra Ka ha n 0 wy))
    case first =>
      go_wp2_with fail
      go_loopw [14] (fun v14 wr => ∃ q : Nat, q ≤ n ∧ v14 = .int .i64 q ∧ Hid (AnyB w xs n fa ta da fb tb db m Fa1 Ra Ka ha q 0 wr)) (fun v14 _ => n - (intOf v14).toNat)
      case atStart => exact ⟨0, Nat.zero_le _, rfl, HB0⟩
      case round =>
        clear HB0
        obtain ⟨q, hq, rfl, hrel⟩ := hrel
        have hq0 : (0 : Int) ≤ q := by omega
        by_cases hlt : q < n
        · as_aux_lemma =>
          have hlb : decide ((q : Int) < n) = true := by simp; omega
          have hlbn : decide (q < n) = true := by simp; omega
          have hqn : (q : Int) < n := by omega
          obtain ⟨k, hkk, hkn⟩ : ∃ k : Nat, ((q : Int) + (u : Int)).tmod (n : Int) = (k : Int) ∧ k < n := by
            refine ⟨(q + u) % n, ?_, Nat.mod_lt _ (by omega)⟩
            rw [Int.tmod_eq_emod_of_nonneg (by omega)]
            exact_mod_cast (Int.natCast_emod (q + u) n).symm
          have hk0 : (0 : Int) ≤ k := by omega
          have hkL : (k : Int) < L := by omega
          have hnz : ((n : Int) == 0) = false := by rw [beq_eq_false_iff_ne]; omega
          obtain ⟨g, o, x, rfl, hxq, hcx⟩ := HC.out k (by omega)
          obtain ⟨g2, o2, x2, e2, hxq2, hcx2⟩ := HC.out (n - 1 - q) (by omega)
          injection e2 with e2
          injection e2 with e2 e3
          subst e2 e3
          obtain ⟨j, hj⟩ : ∃ j : Nat, j = n - 1 - q := ⟨_, rfl⟩
          have hjj : (n : Int) - 1 - q = (j : Int) := by omega
          have hj0 : (0 : Int) ≤ j := by omega
          have hjL : (j : Int) < L := by omega
          have HJ : Hid (j < n) := Lib.hid (by omega)
          have HKN := Lib.hid hkn
          rw [← hj] at hxq2 hcx2
          obtain ⟨e7, he7⟩ : ∃ e7, bits BinOp.and IntKind.i64 (q : Int) 7 = e7 := ⟨_, rfl⟩
          have HX := Lib.hid hxq
          have HX2 := Lib.hid hxq2
          have HCX2 := Lib.hid hcx2
          have HLT := Lib.hid hlt
          have HREL := Lib.hid hrel.out
          have cx := hcx _ hrel.out.base
          clear hxq hcx hxq2 hcx2 hlt HC hj hrel hkn
          go_wp2_with fail
          refine (key_calls _ x).mono ?_
          rintro e w5 ⟨rfl, hk5⟩
          have HP := Lib.hid ((HREL.out.new hk5).putted HX.out HKN.out HN.out.1 (by rw [← HL.out]; exact HN.out.2) (v := [119]) (by decide) (.inl rfl))
          clear hk5 cx HREL
          go_wp2_with fail
          refine HP.out.mono ?_
          rintro e w6 ⟨rfl, hB6, _⟩
          have HB6 := Lib.hid hB6
          have cx2 := HCX2.out _ hB6.base
          clear hB6 HP
          go_wp2_with fail
          refine (key_calls _ x2).mono ?_
          rintro e w7 ⟨rfl, hk7⟩
          have HP7 := Lib.hid ((HB6.out.new hk7).putted HX2.out HJ.out HN.out.1 (by rw [← HL.out]; exact HN.out.2) (v := [118]) (by decide) (.inl rfl))
          clear hk7 cx2 HB6
          go_wp2_with fail
          refine HP7.out.mono ?_
          rintro e w8 ⟨rfl, hB8, _⟩
          have HB8 := Lib.hid hB8
          clear hB8 HP7
          by_cases h7 : e7 = 7
          · by_cases h2 : c2 = 2
            · as_aux_lemma =>
              subst h7 h2
              have HCM := Lib.hid (HB8.out.commits HN.out.1 (by have := HLT.out; have := HN.out.1; omega))
              go_wp2_with fail
              refine HCM.out.mono ?_
              rintro e w9 ⟨rfl, hB9⟩
              have HB9 := Lib.hid hB9
              clear hB9 HCM
              go_wp2_with fail
              go_roundw
              case rel => exact ⟨q + 1, by omega, by go_num, HB9⟩
              case measure => have := HLT.out; simp [intOf]; omega
            · as_aux_lemma =>
              subst h7
              have h2b : (c2 == 2) = false := by simpa using h2
              have HB9 := Lib.hid HB8.out.later
              go_wp2_with fail
              go_roundw
              case rel => exact ⟨q + 1, by omega, by go_num, HB9⟩
              case measure => have := HLT.out; simp [intOf]; omega
          · as_aux_lemma =>
            have h7b : (e7 == 7) = false := by simpa using h7
            have HB9 := Lib.hid HB8.out.later
            go_wp2_with fail
            go_roundw
            case rel => exact ⟨q + 1, by omega, by go_num, HB9⟩
            case measure => have := HLT.out; simp [intOf]; omega
        · as_aux_lemma =>
          obtain rfl : q = n := by omega
          have hlb : decide ((q : Int) < (q : Int)) = false := by simp
          have hlbn : decide (q < q) = false := by simp
          have HRE := Lib.hid hrel.out
          clear hrel HC
          go_wp2_with fail
          go_meet
          exact HRE
    case rest =>
      obtain ⟨wy, hwy⟩ : ∃ x, x = wc := ⟨wc, rfl⟩
      rw [← hwy] at hcut ⊢
      clear hwy
      have HB1 := Lib.hid hcut.out
      clear hcut HB0 hc2 hu1
      go_wp2_with fail
      go_loopw [15] (fun v15 wr => ∃ q : Nat, q ≤ n ∧ v15 = .int .i64 q ∧ Hid (AnyB w xs n fa ta da fb tb db m Fa1 Ra Ka ha n q wr)) (fun v15 _ => n - (intOf v15).toNat)
      case atStart => exact ⟨0, Nat.zero_le _, rfl, HB1⟩
      case round =>
        clear HB1
        obtain ⟨q, hq, rfl, hrel⟩ := hrel
        have hq0 : (0 : Int) ≤ q := by omega
        by_cases hlt : q < n
        · as_aux_lemma =>
          have hlb : decide ((q : Int) < n) = true := by simp; omega
          have hlbn : decide (q < n) = true := by simp; omega
          have hqn : (q : Int) < n := by omega
          have hqL : (q : Int) < L := by omega
          obtain ⟨g, o, x, rfl, hxq, hcx⟩ := HC.out q (by omega)
          have HX := Lib.hid hxq
          have HLT := Lib.hid hlt
          have HREL := Lib.hid hrel.out
          have cx := hcx _ hrel.out.base
          clear hxq hcx hlt HC hrel
          go_wp2_with fail
          refine (key_calls _ x).mono ?_
          rintro e w5 ⟨rfl, hk5⟩
          have HP := Lib.hid ((HREL.out.new hk5).putted HX.out HLT.out HN.out.1 (by rw [← HL.out]; exact HN.out.2) (v := [118]) (by decide) (.inr rfl))
          clear hk5 cx HREL
          go_wp2_with fail
          refine HP.out.mono ?_
          rintro e w6 ⟨rfl, _, hB6⟩
          have HB6 := Lib.hid (hB6 (by trivial) (by trivial))
          clear hB6 HP
          go_wp2_with fail
          go_roundw
          case rel => exact ⟨q + 1, by have := HLT.out; omega, by go_num, HB6⟩
          case measure => have := HLT.out; simp [intOf]; omega
        · as_aux_lemma =>
          obtain rfl : q = n := by omega
          have hlb : decide ((q : Int) < (q : Int)) = false := by simp
          have hlbn : decide (q < q) = false := by simp
          have HIS := Lib.hid (hrel.out.done HN.out.1 (by rw [← HL.out]; exact HN.out.2) HOKA.out HFLA.out)
          clear hrel HC
          go_wp2_with fail
          refine HIS.out.mono ?_
          rintro e w5 ⟨rfl, his⟩
          have HIS2 := Lib.hid his
          clear his HIS
          go_wp2_with fail
          refine HIS2.out.mono ?_
          rintro e w6 ⟨rfl, hk6⟩
          have HK6 := Lib.hid hk6
          clear hk6 HIS2
          go_wp2_with fail
          first | exact ⟨rfl, HK6.out⟩ | (go_ret; exact ⟨rfl, HK6.out⟩)
end Go.Proofs.YtblpkifkaoaicaaGreat
