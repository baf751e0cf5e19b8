import Derived.Test.YtadjcdfmppcpnaaYH3
import Derived.Test.YtadjcdfmppcpnaaYP9m
import Derived.Test.YtadjcdfmppcpnaaGd
/-! Layer 9: the walk of PageMeta. -/
namespace Go.Proofs.Ytadjcdfmppcpnaa
open Go Go.RowKit Go.Maps Wb

def MetaRel (w : World) (mark f : Nat) (h : DH) (i : Nat) (wr : World) : Prop := ∃ F, MetaOk mark i F ∧ Law9 w wr f h F (fun _ => False)
theorem and1 : ∀ g : Nat, g < 32 → bits BinOp.and IntKind.u64 (g : Int) 1 = ((g % 2 : Nat) : Int) := by
  have h : ∀ g : Fin 32, bits BinOp.and IntKind.u64 (g.val : Int) 1 = ((g.val % 2 : Nat) : Int) := by decide +kernel
  intro g hg
  exact h ⟨g, hg⟩
theorem pow8 : ∀ q : Nat, q < 8 → (IntKind.u64.wrap (56 - 8 * (q : Int))).toNat = (8 - 1 - q) * 8 := by
  have h : ∀ q : Fin 8, (IntKind.u64.wrap (56 - 8 * (q.val : Int))).toNat = (8 - 1 - q.val) * 8 := by decide +kernel
  intro q hq
  exact h ⟨q, hq⟩
theorem nil_rd (w : World) (vs : List Value) (h : vs = []) : isRd w (.slice none 0 0) vs := by subst h; exact ⟨none, 0, rfl, Nat.le_refl _, fun j x hj => by cases hj⟩

theorem l_reopen {w0 w : World} {f : Nat} {dv : DH} {F : Pg} {X : Nat → Prop} {D' : Dv} (h : Law9 w0 w f dv F X) (hfl : F.d.files.length ≤ 1000000) (h1 : openD F.d = (D', 0)) (h2 : openE F.d = 0) {R : Ending → World → Prop}
    (hR : ∀ g w', Law9 w0 w' g dv (openP D') X → Law9 w0 w' f dv { F with d := D' } X → Keeps w w' (Apart w0 X) → R (.returned (.tuple #[.pointer (some ⟨g, 0, none⟩), .int .i64 0])) w') : Calls Try.prog 44 #[.pointer (some ⟨dv.p, 0, none⟩)] w R := by
  obtain ⟨bu, fv, k1, k2, k3, k4⟩ := h
  refine open_any k1.dev hfl h1 h2 fun H w' a1 a2 a3 a4 a5 => ?_
  obtain ⟨g, dv', bu', fv', lo⟩ := H
  simp only at a2 a3
  subst a2 a3
  have hk : Keeps w w' (Apart w0 X) := a5.mono (fun i _ hh => k2 i (.inr (.inl hh)))
  have hl : ∀ i, X i → i < w'.heap.size := fun i hi => Nat.lt_of_lt_of_le (k3 i hi) a5.size
  have h0 := Apart.no k4 hk
  refine hR g w' ⟨bu', fv', a1, fun i hi => ?_, hl, h0⟩ ⟨bu, fv, k1.setDev a5 a1.dev, k2, hl, h0⟩ hk
  rcases a4 i hi with hh | hh
  · exact k2 i (.inr (.inl hh))
  · exact ⟨fun hx => absurd (k3 i hx) (Nat.not_lt.2 hh), Nat.le_trans k4.size hh⟩
theorem nd_files {m : Nat} {ss : List Sec} {D : Dv} (h : ND m ss D) : D.files.length ≤ 1000000 := by
  have := nd_names h
  unfold Dv.names at this
  have h1 := congrArg List.length this
  simp at h1; omega
theorem neq_sec (s t : Sec) (r : Bool) (hr : r = !decide (s = t)) (W : World) : (binOp BinOp.neq 28 (.agg (secA s)) (.agg (secA t))).run Try.prog W = .ok (.bool r) W := by rw [hr]; exact run_neq_sec W s t
theorem fld_gen (W : World) (x : Int) (b c d : Value) : (Instr.field 66 (.agg #[.int .u64 x, b, c, d]) 0).run Try.prog W = .ok (.int .u64 x) W := by kernel_rfl
theorem byte8 (v q : Nat) (hq : q < 8) : octV (byteAt v q) = .int .u8 ((v : Int) / 2 ^ (56 - 8 * q) % 256) := by
  have := byte_eq 8 v q
  rw [show (8 - 1 - q) * 8 = 56 - 8 * q by omega] at this
  exact this
theorem secA_get (s : Sec) (j : Nat) : (secA s)[j]? = (s.1[j]?).map octV := by
  have : (secA s)[j]? = (octs s.1)[j]? := by rw [← octs_secA]; simp
  rw [this]; simp [octs]
theorem want_step (g c m q : Nat) (hq : q < 8) :
    (((secA (wantS g c m q)).setIfInBounds (8 + q) (octV (byteAt g q))).setIfInBounds (24 + q) (octV (byteAt c q))).setIfInBounds (32 + q) (octV (byteAt m q)) = secA (wantS g c m (q + 1)) := by
  apply Array.ext_getElem?
  intro j
  by_cases hj : j < 64
  · rw [secA_get, want_get g c m (q + 1) j hj, Option.map_some, wantB_step g c m q j hq, Array.getElem?_setIfInBounds, Array.getElem?_setIfInBounds, Array.getElem?_setIfInBounds, secA_get, want_get g c m q j hj]
    simp only [Array.size_setIfInBounds, secA_size]
    by_cases e1 : 32 + q = j
    · subst e1; simp; omega
    · rw [if_neg e1, if_neg (show ¬ j = 32 + q by omega)]
      by_cases e2 : 24 + q = j
      · subst e2; simp; omega
      · rw [if_neg e2, if_neg (show ¬ j = 24 + q by omega)]
        by_cases e3 : 8 + q = j
        · subst e3; simp; omega
        · rw [if_neg e3, if_neg (show ¬ j = 8 + q by omega)]; rfl
  · rw [Array.getElem?_eq_none (by simp [secA_size]; omega), Array.getElem?_eq_none (by rw [secA_size]; omega)]

set_option maxRecDepth 100000 in
set_option maxHeartbeats 16000000 in
theorem pageMeta_walk (w : World) (nn : Int) (mk : Int) (hmk : (Lit.int .u64 mk).wf = true) : Calls Try.prog 9 #[.int .i64 nn, .int .u64 mk] w (Quiet w (.bool true)) := by
  obtain ⟨n, hn, hn9⟩ : ∃ a : Nat, nn % 8 = a ∧ a < 8 := ⟨(nn % 8).toNat, by omega, by omega⟩
  have hm7 : bits BinOp.and IntKind.i64 nn 7 = (n : Int) := by rw [mask7, hn]
  have hmk2 : 0 ≤ mk ∧ mk < 18446744073709551616 := by simp [Lit.wf, IntKind.min, IntKind.max, IntKind.signed, IntKind.bits] at hmk; omega
  obtain ⟨mark, rfl⟩ := Int.eq_ofNat_of_zero_le hmk2.1
  have hmk64 : mark < 2 ^ 64 := by omega
  have HMK := Lib.hid hmk64
  have hm0 : (0 : Int) ≤ mark := by omega
  have hni : (n : Int) < 8 := by omega
  have hn0 : (0 : Int) ≤ n := by omega
  have hnm : nmOk [112] := nmOk_small (by decide)
  obtain ⟨D1, E1, E2, E3⟩ := meta_start mark
  have H1 := Lib.hid E1
  have H2 := Lib.hid E2
  have H3 := Lib.hid E3
  have HL : Hid (D1.len [112] = 16) := by
    obtain ⟨ss, h1, h2, _⟩ := E3.ok
    exact Lib.hid ((nd_len h1.nd).trans h2)
  clear hn hmk hmk2 hmk64 E1 E2 E3
  go_enter Try.func9, Try.ntmps9
  go_wp2_with fail
  refine new_any _ _ fun h w1 hd1 hk1 hS => ?_
  go_wp2_with fail
  refine l_open (w0 := w) (X := fun _ => False) hd1 (openE_files _) H1.out H2.out (fun _ h => h.elim) hS hk1 fun f w2 hL2 _ => ?_
  clear hd1 hk1 hS
  go_wp2_with fail
  refine (len_calls _ h _ [112] hL2.dev hnm).mono ?_
  rintro e w' ⟨he, rfl⟩
  rw [show (openP D1).d.len [112] = 16 from HL.out] at he
  subst he
  go_upto_block 0 with fail
  have HREL0 : Hid (MetaRel w mark f h 0 w2) := Lib.hid ⟨_, H3.out, hL2⟩
  clear hL2 hm7
  go_cut [] (fun wx => Hid (MetaRel w mark f h n wx))
  case first =>
    go_wp2_with fail
    go_loopw [8] (fun i wr => ∃ q : Nat, q ≤ n ∧ i = .int .i64 q ∧ Hid (MetaRel w mark f h q wr)) (fun i _ => n - (intOf i).toNat)
    case atStart => exact ⟨0, Nat.zero_le _, rfl, HREL0⟩
    case round =>
      clear HREL0
      obtain ⟨q, hq, rfl, hrel⟩ := hrel
      have hq0 : (0 : Int) ≤ q := by omega
      by_cases hlt : q < n
      · have hlb : decide (q < n) = true := by simpa using hlt
        have hq9 : (q : Int) < 8 := by omega
        obtain ⟨F, hok, hL⟩ := hrel.out
        obtain ⟨D2, g1, g2, g3, g4⟩ := meta_commit hok (by omega)
        obtain ⟨ss, k1, k2, _⟩ := hok.ok
        have hwu : IntKind.u64.wrap ((mark : Int) + q) = (((mark + q) % 2 ^ 64 : Nat) : Int) := by
          rw [wrap_u64]; omega
        have HWU := Lib.hid hwu
        have HREL2 : Hid (∀ wx, Law9 w wx f h (keepP { F with d := D2, mt := nextMt F 0 q ((mark + q) % 2 ^ 64) } []) (fun _ => False) → MetaRel w mark f h (q + 1) wx) := Lib.hid fun wx hx => ⟨_, g4, hx⟩
        have hgen : F.mt.gen + 1 < 2 ^ 64 := by
          rw [hok.mt]; unfold pmMt; split <;> simp only <;> omega
        have HC := Lib.hid (l_commit (v := .slice none 0 0) (ids := []) (root := 0) (count := q) (mark := (mark + q) % 2 ^ 64) hL k1.dead (nil_rd _ _ rfl) (fun g hg => by cases hg) (by decide) g3 hgen (Nat.mod_lt _ (by decide)) g1 g2)
        have HLT := Lib.hid hlt
        clear g1 g2 g3 g4 k1 k2 hok hL hwu hrel hlt hgen
        go_wp2_with fail
        rw [HWU.out]
        refine HC.out.mono ?_
        rintro e w3 ⟨rfl, hL3, _⟩
        have HREL3 := Lib.hid (HREL2.out _ hL3)
        clear hL3
        go_wp2
        go_roundw
        case rel => exact ⟨q + 1, HLT.out, by go_num, HREL3⟩
        case measure => have := HLT.out; simp [intOf]; omega
      · have hlb : decide (q < n) = false := by simpa using hlt
        obtain rfl : q = n := by omega
        clear hlt
        go_wp2_with fail
        go_meet
        exact hrel
  case rest =>
    clear HREL0
    have hcut0 := hcut
    clear hcut
    go_upto_block 2 with fail
    go_cut [] (fun wx => Hid (MetaRel w mark f h n wx))
    case first =>
      go_wp2_with fail
      go_loopw [9] (fun i wr => ∃ k : Nat, k ≤ 2 ∧ i = .int .i64 k ∧ Hid (MetaRel w mark f h n wr)) (fun i _ => 2 - (intOf i).toNat)
      case atStart => exact ⟨0, Nat.zero_le _, rfl, hcut0⟩
      case round =>
        clear hcut0
        obtain ⟨k, hk, rfl, hrel⟩ := hrel
        have hk0 : (0 : Int) ≤ k := by omega
        by_cases hlt : k < 2
        · have hlb : decide (k < 2) = true := by simpa using hlt
          have hk9 : (k : Int) < 2 := by omega
          obtain ⟨F, hok, hL⟩ := hrel.out
          have hrd := meta_read hok hlt
          obtain ⟨g, hg⟩ : ∃ g, g = pmGen n k := ⟨_, rfl⟩
          rw [← hg] at hrd
          have h8k : ((8 * k : Nat) : Int) = 8 * (k : Int) := by omega
          rw [h8k] at hrd
          have HRD := Lib.hid hrd
          have hand := and1 (n + 1) (by omega)
          have hn1 : (((n + 1 : Nat)) : Int) = (n : Int) + 1 := by omega
          rw [hn1] at hand
          have HLT := Lib.hid hlt
          have hg9 : (g : Int) ≤ 8 := by rw [hg]; unfold pmGen; split <;> omega
          have hg0 : (0 : Int) ≤ g := by omega
          clear hrd h8k hlt hrel
          have hwn : IntKind.u64.wrap ((n : Int) + 1) = (n : Int) + 1 := by rw [wrap_u64]; omega
          have hwk : IntKind.u64.wrap (k : Int) = k := by rw [wrap_u64]; omega
          have HG := Lib.hid hg
          clear hg
          go_upto_if 64 with fail
          go_cut [10] (fun v10 wx => v10 = .int .u64 g ∧ wx = wr)
          case first =>
            by_cases hpar : (n + 1) % 2 = k
            · have hb1 : ((((n + 1) % 2 : Nat) : Int) != (k : Int)) = false := by rw [bne_eq_false_iff_eq]; omega
              have hb2 : (((n : Int) + 1) % 2 != (k : Int)) = false := by rw [bne_eq_false_iff_eq]; omega
              have hgn : Hid ((g : Int) = (n : Int) + 1) := Lib.hid (by rw [HG.out]; unfold pmGen; rw [if_pos hpar]; omega)
              clear hpar
              go_wp2_with fail
              go_meet
              exact ⟨by rw [hgn.out], rfl⟩
            · have hb1 : ((((n + 1) % 2 : Nat) : Int) != (k : Int)) = true := by rw [bne_iff_ne]; omega
              have hb2 : (((n : Int) + 1) % 2 != (k : Int)) = true := by rw [bne_iff_ne]; omega
              have hgn : Hid ((g : Int) = n) := Lib.hid (by rw [HG.out]; unfold pmGen; rw [if_neg hpar])
              have hws : IntKind.u64.wrap ((n : Int) + 1 - 1) = n := by rw [wrap_u64]; omega
              clear hpar
              go_wp2_with fail
              go_meet
              exact ⟨by rw [hgn.out], rfl⟩
          case rest =>
            obtain ⟨rfl, rfl⟩ := hcut
            clear hand hn1 hwn hwk
            go_upto_if 69 with (first
              | ((with_reducible refine gd_build 28 ?_); refine wl_build0 rfl _ rfl _ zeroBuild ?_)
              | ((with_reducible refine gd_alloc 28 ?_); refine wl_alloc_agg rfl _ rfl _ zero28 ?_; intro bw w3 hbw HB3 HK3)
              | ((with_reducible refine gd_store 28 ?_); refine wl_store_agg rfl _ _ _ rfl bw _ rfl _ _ HB3 (secA Sec.zero) rfl (secA Sec.zero) (store_secs _ _) (le_secs _ _) (info28s _) (secA_one _) ?_; intro w4 HB4 HK4)
              | fail)
            have hk4 : Keeps wc w4 (fun _ => False) := HK3.then HK4 (fun i hi e => absurd hbw (by rw [← show i = bw from e]; exact Nat.not_le.2 hi))
            have HK := Lib.hid hk4
            have HBW : Hid (wc.heap.size ≤ bw) := Lib.hid hbw
            have HB := Lib.hid HB4
            clear hk4 HK3 HK4 HB3 HB4 hbw
            go_cut [] (fun wx => wx.heap[bw]? = some (.cells (secA (pmSec mark g)) 28 (0, 0)) ∧ Keeps w4 wx (· = bw))
            case first =>
              by_cases hgz : g = 0
              · subst hgz
                have HB5 : w4.heap[bw]? = some (.cells (secA (pmSec mark 0)) 28 (0, 0)) := HB.out
                have HB6 := Lib.hid HB5
                clear HB5
                go_wp2_with fail
                go_meet
                exact ⟨HB6.out, Keeps.refl _ _⟩
              · obtain ⟨c, hc⟩ : ∃ c : Nat, c = if g ≤ 1 then 0 else g - 2 := ⟨_, rfl⟩
                obtain ⟨m, hm⟩ : ∃ m : Nat, m = if g ≤ 1 then 0 else (mark + (g - 2)) % 2 ^ 64 := ⟨_, rfl⟩
                have hgb : decide (0 < g) = true := decide_eq_true (by omega)
                have hgp : (0 : Int) < g := by omega
                have HPM : Hid (pmSec mark g = wantS g c m 8) := Lib.hid (by rw [pmSec_want hgz, want_all, hc, hm])
                have HC := Lib.hid hc
                have HM := Lib.hid hm
                have hcopy : (((secA Sec.zero).toList.take 0) ++ ((({ data := #[119, 97, 121, 98, 105, 108, 108, 49] } : ByteArray).data.toList).map fun b => Value.int .u8 b.toNat) ++ (secA Sec.zero).toList.drop (0 + ({ data := #[119, 97, 121, 98, 105, 108, 108, 49] } : ByteArray).size)).toArray = secA (wantS g c m 0) := by
                  apply Array.toList_inj.1
                  rw [octs_secA (wantS g c m 0), want_zero, octs_secA Sec.zero]
                  rfl
                have HCP := Lib.hid hcopy
                have HGZ := Lib.hid hgz
                have hbb := HB.out
                clear hc hm hcopy hgz
                go_upto_region 22 with (first
                  | (refine wl_copyS rfl _ _ _ _ rfl 5 Try.underlying63 (by kernel_rfl) bw 0 64 64 rfl _ rfl _ _ hbb (by decide) (by rw [secA_size]; decide) (secA (wantS g c m 0)) HCP.out ?_; intro w5 HB5 HK5)
                  | fail)
                have HB5' := Lib.hid HB5
                have HK5' := Lib.hid HK5
                clear HB5 HK5 hbb
                go_upto_if 73 with fail
                go_cut [12, 13] (fun v12 v13 wx => v12 = .int .u64 c ∧ v13 = .int .u64 m ∧ wx = w5)
                case first =>
                  by_cases hg1 : 1 < g
                  · have hgb1 : decide (1 < g) = true := decide_eq_true hg1
                    have hgi1 : (1 : Int) < g := by omega
                    have hcc : Hid ((c : Int) = (g : Int) - 2) := Lib.hid (by rw [HC.out, if_neg (by omega)]; omega)
                    have w1' : IntKind.u64.wrap ((g : Int) - 2) = (g : Int) - 2 := by rw [wrap_u64]; omega
                    have w2' : IntKind.u64.wrap (IntKind.u64.wrap ((mark : Int) + g) - 2) = (m : Int) := by
                      rw [wrap_u64, wrap_u64, HM.out, if_neg (by omega)]
                      have := HMK.out
                      omega
                    have W2 := Lib.hid w2'
                    clear w2' hg1
                    go_wp2_with fail
                    go_meet
                    exact ⟨by rw [hcc.out], by rw [W2.out], rfl⟩
                  · have hgb1 : decide (1 < g) = false := decide_eq_false hg1
                    have hgi1 : (g : Int) ≤ 1 := by omega
                    have hcc : Hid (c = 0) := Lib.hid (by rw [HC.out, if_pos (by omega)])
                    have hmm : Hid (m = 0) := Lib.hid (by rw [HM.out, if_pos (by omega)])
                    clear hg1
                    go_wp2_with fail
                    go_meet
                    exact ⟨by rw [hcc.out]; rfl, by rw [hmm.out]; rfl, rfl⟩
                case rest =>
                  obtain ⟨rfl, rfl, rfl⟩ := hcut
                  have HREL0 : Hid (wc.heap[bw]? = some (.cells (secA (wantS g c m 0)) 28 (0, 0)) ∧ Keeps w4 wc (· = bw)) := Lib.hid ⟨HB5'.out, HK5'.out⟩
                  clear HB5' HK5'
                  go_wp2_with fail
                  go_loopw [14] (fun i wr => ∃ q : Nat, q ≤ 8 ∧ i = .int .i64 q ∧ Hid (wr.heap[bw]? = some (.cells (secA (wantS g c m q)) 28 (0, 0)) ∧ Keeps w4 wr (· = bw))) (fun i _ => 8 - (intOf i).toNat)
                  case atStart => exact ⟨0, Nat.zero_le _, rfl, HREL0⟩
                  case round =>
                    clear HREL0
                    obtain ⟨q, hq, rfl, hrel⟩ := hrel
                    have hq0 : (0 : Int) ≤ q := by omega
                    by_cases hlt : q < 8
                    · have hlb2 : decide (q < 8) = true := by simpa using hlt
                      have hq9 : (q : Int) < 8 := by omega
                      obtain ⟨hb, hkk⟩ := hrel.out
                      have hcell : ∀ j, j < 64 → wr.cell? ⟨bw, j, none⟩ = some (octV (wantB g c m q j)) := fun j hj => by
                        rw [cell_of_block hb]
                        have := want_get g c m q j hj
                        have h2 : (secA (wantS g c m q))[j]? = (octs (wantS g c m q).1)[j]? := by rw [← octs_secA]; simp
                        rw [h2, octs_at this]
                      have c1 : wr.cell? ⟨bw, 8 + q, none⟩ = some (octV (wantB g c m q (8 + q))) := hcell _ (by omega)
                      have c2 : wr.cell? ⟨bw, 24 + q, none⟩ = some (octV (wantB g c m q (24 + q))) := hcell _ (by omega)
                      have c3 : wr.cell? ⟨bw, 32 + q, none⟩ = some (octV (wantB g c m q (32 + q))) := hcell _ (by omega)
                      have f1 : wr.frozen? ⟨bw, 8 + q, none⟩ = false := free_of_block hb _
                      have f2 : wr.frozen? ⟨bw, 24 + q, none⟩ = false := free_of_block hb _
                      have f3 : wr.frozen? ⟨bw, 32 + q, none⟩ = false := free_of_block hb _
                      have t1 : (8 + (q : Int)).toNat = 8 + q := by omega
                      have t2 : (24 + (q : Int)).toNat = 24 + q := by omega
                      have t3 : (32 + (q : Int)).toNat = 32 + q := by omega
                      have HP8 := Lib.hid (pow8 q hlt)
                      have HBB := Lib.hid hb
                      have HKK := Lib.hid hkk
                      have HLT2 := Lib.hid hlt
                      have HREL : Hid ((((wr.setCell ⟨bw, 8 + q, none⟩ (.int .u8 ((g : Int) / 2 ^ (56 - 8 * q) % 256))).setCell ⟨bw, 24 + q, none⟩ (.int .u8 ((c : Int) / 2 ^ (56 - 8 * q) % 256))).setCell ⟨bw, 32 + q, none⟩ (.int .u8 ((m : Int) / 2 ^ (56 - 8 * q) % 256))).heap[bw]? = some (.cells (secA (wantS g c m (q + 1))) 28 (0, 0)) ∧
                          Keeps w4 (((wr.setCell ⟨bw, 8 + q, none⟩ (.int .u8 ((g : Int) / 2 ^ (56 - 8 * q) % 256))).setCell ⟨bw, 24 + q, none⟩ (.int .u8 ((c : Int) / 2 ^ (56 - 8 * q) % 256))).setCell ⟨bw, 32 + q, none⟩ (.int .u8 ((m : Int) / 2 ^ (56 - 8 * q) % 256))) (· = bw)) := by
                        refine Lib.hid ⟨?_, ?_⟩
                        · rw [← byte8 g q hlt, ← byte8 c q hlt, ← byte8 m q hlt, blk_setCell (blk_setCell (blk_setCell hb _ _) _ _) _ _, want_step g c m q hlt]
                        · exact ((hkk.setCell (p := ⟨bw, 8 + q, none⟩) (fun _ => rfl) _).setCell (p := ⟨bw, 24 + q, none⟩) (fun _ => rfl) _).setCell (p := ⟨bw, 32 + q, none⟩) (fun _ => rfl) _
                      clear hcell hb hkk hrel hlt
                      go_wp2_with fail
                      exact ⟨⟨q + 1, HLT2.out, by go_num, HREL⟩, by have := HLT2.out; simp [intOf]; omega⟩
                    · have hlb2 : decide (q < 8) = false := by simpa using hlt
                      obtain rfl : q = 8 := by omega
                      clear hlt
                      go_wp2_with fail
                      go_meet
                      exact ⟨by rw [HPM.out]; exact hrel.out.1, hrel.out.2⟩
            case rest =>
              obtain ⟨hbw5, hk5⟩ := hcut
              have hkc := HK.out.then hk5 (fun i hi e => absurd HBW.out (by rw [← show i = bw from e]; exact Nat.not_le.2 hi))
              have hL5 := hL.new hkc
              clear hkc hk5 HK HB hL
              go_wp2_with fail
              refine (read_calls _ h F.d [112] _ hL5.dev hnm).mono ?_
              rintro e w6 ⟨he, hk6⟩
              rw [HRD.out] at he
              dsimp only at he
              subst he
              have hL6 := hL5.new hk6
              have hbw6 := hk6.blk hbw5 id
              go_wp2_with (first
                | ((with_reducible refine gd_alloc 28 ?_); refine wl_alloc_agg rfl _ rfl _ zero28 ?_; intro b1 w7 hb1 HB7 HK7)
                | ((with_reducible refine gd_store 28 ?_); refine wl_store_agg rfl _ _ _ rfl b1 _ rfl _ _ HB7 (secA (pmSec mark g)) rfl (secA (pmSec mark g)) (store_secs _ _) (le_secs _ _) (info28s _) (secA_one _) ?_; intro w8 HB8 HK8; have hbw8 := HK8.blk (HK7.blk hbw6 id) (ne_new hbw6 hb1))
                | ((with_reducible refine gd_loadW 28 ?_); refine wl_load_aggW (by rfl) _ _ rfl b1 0 rfl _ _ _ HB8 (secA (pmSec mark g)) (extract_all _) _ Try.underlying28 rfl (info28s _) ?_)
                | ((with_reducible refine gd_loadW 28 ?_); refine wl_load_aggW (by rfl) _ _ rfl bw 0 rfl _ _ _ hbw8 (secA (pmSec mark g)) (extract_all _) _ Try.underlying28 rfl (info28s _) ?_)
                | ((with_reducible refine gd_bin 28 ?_); refine wl_bin (by rfl) _ _ _ _ _ rfl (.agg (secA (pmSec mark g))) (.agg (secA (pmSec mark g))) rfl rfl (.bool false) (fun W => run_guard_sec W _ _ _ _ _) (neq_sec _ _ _ (by simp)) ?_)
                | fail)
              have hL8 := hL6.new (HK7.then HK8 (fun i hi e => absurd hb1 (by rw [← show i = b1 from e]; exact Nat.not_le.2 hi)))
              have HREL : Hid (MetaRel w mark f h n w8) := Lib.hid ⟨F, hok, hL8⟩
              clear hL8 hL6 hL5 HB8 HK8 HB7 HK7 hbw8 hbw6 hbw5 hk6
              go_roundw
              case rel => exact ⟨k + 1, HLT.out, by go_num, HREL⟩
              case measure => have := HLT.out; simp [intOf]; omega
        · have hlb : decide (k < 2) = false := by simpa using hlt
          obtain rfl : k = 2 := by omega
          clear hlt
          go_wp2_with fail
          go_meet
          exact hrel
    case rest =>
      clear hcut0
      obtain ⟨F, hok, hL⟩ := hcut.out
      obtain ⟨D', g1, g2, g3⟩ := meta_open hok
      obtain ⟨ss, k1, _⟩ := hok.ok
      obtain ⟨pm, hpm⟩ : ∃ pm, pm = pmMt mark (n + 1) := ⟨_, rfl⟩
      have hpo : pm.ok := by rw [hpm, ← hok.mt]; exact k1.mok.ok
      have hpg : (pm.gen : Int) = (n : Int) + 1 := by rw [hpm]; unfold pmMt; split <;> simp only <;> omega
      have HG1 : Hid ((openP D').mt = pm) := Lib.hid (g3.trans hpm.symm)
      have HG2 : Hid (F.mt = pm) := Lib.hid (hok.mt.trans hpm.symm)
      have HO := Lib.hid g1
      have HOE := Lib.hid g2
      have HFL := Lib.hid (nd_files k1.nd)
      have hwn : IntKind.u64.wrap ((n : Int) + 1) = (n : Int) + 1 := by rw [wrap_u64]; omega
      clear hcut g1 g2 g3 k1 hok hpm
      go_wp2_with fail
      refine l_reopen hL HFL.out HO.out HOE.out fun fg w3 hG3 hF3 _ => ?_
      clear hL
      go_wp2_with (first
        | (go_at_call_of 46 (Value.pointer (some ⟨fg, 0, none⟩)); refine (l_meta hG3).mono ?_; rintro e w4 ⟨he, hG4, hk4⟩; rw [HG1.out] at he; subst he; have hF4 := hF3.new hk4)
        | fail)
      refine (l_meta hF4).mono ?_
      rintro e w5 ⟨he, hF5, hk5⟩
      rw [show ({ F with d := D' } : Pg).mt = pm from HG2.out] at he
      subst he
      have hG5 := hG4.new hk5
      go_wp2_with (first
        | ((with_reducible refine gd_bin 66 ?_); refine wl_bin (by rfl) _ _ _ _ _ rfl (.agg (metaA pm)) (.agg (metaA pm)) rfl rfl (.bool true) (fun W => run_guard_mt W _ _ _ _ _) (eql_mt hpo hpo _ (by simp)) ?_)
        | fail)
      refine (l_meta hG5).mono ?_
      rintro e w6 ⟨he, hG6, hk6⟩
      rw [HG1.out] at he
      unfold metaA at he
      subst he
      have hfg := fld_gen
      go_wp2_with fail
      refine (awake9_calls _).mono ?_
      rintro e w9 ⟨rfl, hk9⟩
      go_wp2
      go_ret
      exact ⟨rfl, hG6.keeps.trans hk9⟩
end Go.Proofs.Ytadjcdfmppcpnaa
