/- Lemmas and contracts of functions, joined. -/
import Derived.Test.YtadjcdfmppcpnaaQH
import Derived.Test.YtadjcdfmppcpnaaQG
import Derived.Test.YtadjcdfmppcpnaaSlA
import Derived.Test.YtadjcdfmppcpnaaQP
namespace Go.Proofs.Ytadjcdfmppcpnaa
open Go Go.RowKit Go.Maps Wb

theorem info_sec : (Try.prog.info? 28).map (fun i => (i.zero, i.size, i.bytes)) = some (some (secV Sec.zero), 64, 64) := by kernel_rfl
theorem secA_64 (s : Sec) : (secA s).size = 64 := secA_size s
theorem isRd_take {w : World} {ad : Option Addr} {n cap k : Nat} {vs : List Value} (h : isRd w (.slice ad n cap) vs) (hk : k ≤ vs.length) : isRd w (.slice ad k cap) (vs.take k) := by
  obtain ⟨a', c', he, h0, h1⟩ := h
  cases he
  have hl : (vs.take k).length = k := by rw [List.length_take]; omega
  refine ⟨ad, cap, by rw [hl], by rw [hl]; omega, fun j x hj => ?_⟩
  have hjl := (List.getElem?_eq_some_iff.1 hj).1
  rw [List.getElem?_take_of_lt (by omega)] at hj
  exact h1 j x hj
theorem isRd_nothing (w : World) (ad : Option Addr) (cap : Nat) : isRd w (.slice ad 0 cap) [] := ⟨ad, cap, rfl, Nat.zero_le _, fun j x hj => by cases hj⟩
def secRows (l : List Sec) : List (Array Value) := l.map secA
theorem secRows_len (l : List Sec) : (secRows l).length = l.length := by simp [secRows]
theorem sectorsP_succ {seq kind : Nat} {b : List UInt8} {q : Nat} (hq : q < needN b.length) : (sectorsP seq kind b).take (q + 1) = (sectorsP seq kind b).take q ++ [jsec ⟨seq, q, needN b.length, kind⟩ ((b.drop (48 * q)).take 48)] := by
  have hg : (sectorsP seq kind b)[q]? = some (jsec ⟨seq, q, needN b.length, kind⟩ ((b.drop (48 * q)).take 48)) := by
    unfold sectorsP
    rw [List.getElem?_map, List.getElem?_range hq]; rfl
  rw [List.take_add_one, hg]; rfl
def JsRel (w : World) (seq kind : Nat) (b : List UInt8) (q : Nat) (v2 v7 : Value) (wr : World) : Prop :=
  ((v2 = .slice none 0 0 ∧ b.length - 48 * q = 0) ∨ ∃ g o cap, v2 = .slice (some ⟨g, o, none⟩) (b.length - 48 * q) cap ∧ g < w.heap.size) ∧ isRd wr v2 (octs (b.drop (48 * q))) ∧ isOwnA wr w.heap.size 28 64 v7 (secRows ((sectorsP seq kind b).take q)) ∧ Keeps w wr (fun _ => False)
set_option maxRecDepth 100000 in
theorem build_hd (s p m k : Nat) (w : World) : (Instr.build 172 #[(0, .int .u64 s), (1, .int .i64 p), (2, .int .i64 m), (4, .int .i64 k)]).run Try.prog w = .ok (.agg (hdA ⟨s, p, m, k⟩ 0)) w := by
  first | kernel_rfl | rfl
theorem needN_le (n : Nat) : 48 * needN n ≤ n + 48 := by unfold needN; split <;> omega
theorem needN_ge (n : Nat) : n ≤ 48 * needN n := by unfold needN; split <;> omega

theorem js_rows {w : World} {lo seq kind q : Nat} {b : List UInt8} {v : Value} {s : Sec} (h : (sectorsP seq kind b).take (q + 1) = (sectorsP seq kind b).take q ++ [s]) (ho : isOwnA w lo 28 64 v (secRows ((sectorsP seq kind b).take q) ++ [secA s])) : isOwnA w lo 28 64 v (secRows ((sectorsP seq kind b).take (q + 1))) := by
  rw [h]
  have : secRows ((sectorsP seq kind b).take q ++ [s]) = secRows ((sectorsP seq kind b).take q) ++ [secA s] := by simp [secRows]
  rw [this]
  exact ho
theorem js_keeps {w wr w3 w4 w5 : World} {e : TypeId} {sz : Nat} {v : Value} {rows : List (Array Value)} (h1 : Keeps w wr (fun _ => False)) (h2 : Keeps wr w3 (fun _ => False)) (h3 : Keeps w3 w4 (fun _ => False)) (ho : isOwnA wr w.heap.size e sz v rows) (h4 : Keeps w4 w5 (fun b => v.ownBlock = some b)) : Keeps w w5 (fun _ => False) :=
  ((h1.trans h2).trans h3).then h4 (fun i hi e => absurd (ho.blk i e).1 (Nat.not_le.2 hi))
set_option maxRecDepth 100000 in
set_option maxHeartbeats 8000000 in
theorem jsectors_calls (w : World) (lo seq kind : Nat) (bv : Value) (b : List UInt8) (hb : isOwn w lo 5 bv (octs b)) (hn : needN b.length ≤ 4096) (hs : seq < 2 ^ 64) (hk : kind < 256) :
    Calls Try.prog 112 #[.int .u64 seq, .int .i64 kind, bv] w fun e w' => ∃ v, e = .returned v ∧ isOwnA w' w.heap.size 28 64 v (secRows (sectorsP seq kind b)) ∧ Keeps w w' (fun _ => False) := by
  have hle := needN_le b.length
  have hge := needN_ge b.length
  have hb9 : b.length ≤ 196608 := by omega
  have HREL0 : Hid (JsRel w seq kind b 0 bv (.slice none 0 0) w) := by
    refine Lib.hid ⟨?_, isOwn.rd hb, isOwnA_nil _ _ _ _, Keeps.refl _ _⟩
    rcases hb.2 with ⟨e, h0⟩ | ⟨g, cap, cur, e, h1, h2, _⟩
    · left; rw [octs_len] at h0; exact ⟨e, by omega⟩
    · right; rw [octs_len] at e; exact ⟨g, 0, cap, e, lt_of_blk h2⟩
  obtain ⟨ad, cap, rfl, hc1, _⟩ := isOwn.rd hb
  rw [octs_len] at HREL0 hc1 ⊢
  obtain ⟨m, hm⟩ : ∃ m, m = needN b.length := ⟨_, rfl⟩
  have hmi : (m : Int) ≤ 4096 := by omega
  have hm9 : m ≤ 4096 := by omega
  have HM := Lib.hid hm
  clear hb
  go_enter Try.func112, Try.ntmps112
  go_wp2_with fail
  refine (need_calls _ b.length (by omega)).mono ?_
  rintro e w' ⟨rfl, rfl⟩
  rw [← hm]
  clear hm
  go_wp2_with fail
  go_loopw [2, 7, 15] (fun v2 v7 i wr => ∃ q : Nat, q ≤ m ∧ i = .int .i64 q ∧ Hid (JsRel w seq kind b q v2 v7 wr)) (fun _ _ i _ => m - (intOf i).toNat)
  case atStart => exact ⟨0, Nat.zero_le _, rfl, HREL0⟩
  case round =>
    clear HREL0
    obtain ⟨q, hq, rfl, hrel⟩ := hrel
    have hq0 : (0 : Int) ≤ q := by omega
    by_cases hlt : q < m
    · have hlb : decide ((q : Int) < (m : Int)) = true := by simp; omega
      have hqm : (q : Int) < m := by omega
      have hsu := sectorsP_succ (seq := seq) (kind := kind) (b := b) (q := q) (by rw [← HM.out]; exact hlt)
      rw [← HM.out] at hsu
      have HSU := Lib.hid hsu
      clear hsu
      obtain ⟨L, hL⟩ : ∃ L, L = b.length - 48 * q := ⟨_, rfl⟩
      have hL9 : L ≤ 196608 := by omega
      have HLL := Lib.hid hL
      have hsl : (secRows ((sectorsP seq kind b).take q)).length = q := by rw [secRows_len, List.length_take, sectorsP_len, ← HM.out]; omega
      have HLT := Lib.hid hlt
      obtain ⟨hsh, hrd, hown, hkr⟩ := hrel.out
      rw [← hL] at hsh
      have HRD := Lib.hid hrd
      have HOWN := Lib.hid hown
      have HKR := Lib.hid hkr
      have hx1 : q + 1 ≤ maxLen := by unfold maxLen; omega
      have hx2 : (q + 1) * 64 ≤ 140737488355328 := by omega
      clear hrel hrd hown hkr hL hlt
      obtain ⟨n, hn2⟩ : ∃ n, n = min L 48 := ⟨_, rfl⟩
      have hnL : n ≤ L := by omega
      have hn48 : n ≤ 48 := by omega
      have hmin : min (L : Int) 48 = (n : Int) := by omega
      have hni : (n : Int) ≤ 48 := by omega
      have hni0 : (0 : Int) ≤ n := by omega
      have hnLi : (n : Int) ≤ L := by omega
      have hdl : (b.drop (48 * q)).length = L := by rw [List.length_drop, HLL.out]
      have htk : (b.drop (48 * q)).take n = (b.drop (48 * q)).take 48 := by
        rcases Nat.le_total 48 L with h1 | h1
        · rw [show n = 48 by omega]
        · rw [List.take_of_length_le (by omega), List.take_of_length_le (by omega)]
      have hdr : (b.drop (48 * q)).drop n = b.drop (48 * (q + 1)) := by
        rw [List.drop_drop]
        rcases Nat.le_total 48 L with h1 | h1
        · rw [show n = 48 by omega, show 48 * q + 48 = 48 * (q + 1) by omega]
        · rw [List.drop_eq_nil_of_le (by have := HLL.out; omega), List.drop_eq_nil_of_le (by have := HLL.out; omega)]
      have hL1 : b.length - 48 * (q + 1) = L - n := by have := HLL.out; omega
      have hnl : ((b.drop (48 * q)).take 48).length = n := by rw [← htk, List.length_take]; omega
      have HNL := Lib.hid hnl
      have HTK := Lib.hid htk
      have HDR := Lib.hid hdr
      have HL1 := Lib.hid hL1
      have HDL := Lib.hid hdl
      have HHD : Hid (Hd.ok ⟨seq, q, m, kind⟩) := Lib.hid ⟨hs, by show q < 65536; have := HLT.out; omega, by show m < 65536; omega, hk⟩
      clear hn2 hdl htk hdr hL1 hnl
      rcases hsh with ⟨rfl, rfl⟩ | ⟨g, o, c2, rfl, hgl⟩
      · as_aux_lemma =>
        obtain rfl : n = 0 := by omega
        have hrc : isRd wr (.slice none 0 0) (octs ((b.drop (48 * q)).take 48)) := by
          have := isRd_take HRD.out (k := 0) (Nat.zero_le _)
          rw [← octs_take] at this
          rwa [HTK.out] at this
        go_wp2_with (first
          | ((with_reducible refine gd_build 172 ?_); refine wl_buildL rfl _ _ rfl [(0, .int .u64 seq), (1, .int .i64 q), (2, .int .i64 m), (4, .int .i64 kind)] rfl (.agg (hdA ⟨seq, q, m, kind⟩ 0)) (build_hd _ _ _ _) ?_)
          | fail)
        refine (jsector_calls _ ⟨seq, q, m, kind⟩ 0 HHD.out _ _ hrc (fun g hg => by cases hg) (by rw [HNL.out]; decide)).mono ?_
        rintro e w3 ⟨rfl, hk3⟩
        go_wp2_with (first
          | (refine wl_sliceA1 rfl _ _ rfl 28 _ 64 64 Try.underlying169 info_sec (by decide) (by decide) (secA (jsec ⟨seq, q, m, kind⟩ ((b.drop (48 * q)).take 48))) rfl (secA_64 _) ?_; intro bb w4 hbb HB4 HK4)
          | (at_builtin; go_loud (refine wl_appendA rfl _ _ 169 rfl 28 _ 64 64 Try.underlying169 info_sec (secA_64 _) (by decide) w.heap.size u7 _ rfl ((HOWN.out.new hk3).new HK4) bb (secA (jsec ⟨seq, q, m, kind⟩ ((b.drop (48 * q)).take 48))) rfl HB4 (secA_64 _) (secA_one _) (by rw [hsl]; exact hx1) (by rw [hsl]; exact hx2) (Nat.le_trans HKR.out.size (Nat.le_trans hk3.size HK4.size)) ?_); intro v' w5 hap)
          | fail)
        have HREL : Hid (JsRel w seq kind b (q + 1) (.slice none 0 0) v' w5) := by
          have hz : b.drop (48 * (q + 1)) = [] := by
            rw [← HDR.out, List.drop_zero]
            exact List.eq_nil_of_length_eq_zero HDL.out
          refine Lib.hid ⟨.inl ⟨rfl, by rw [HL1.out]⟩, by rw [hz]; exact isRd_nothing _ _ _, js_rows HSU.out hap.1, js_keeps HKR.out hk3 HK4 HOWN.out hap.2.1⟩
        clear hap HB4 HK4 hk3 hrc hbb
        go_roundw
        case rel => exact ⟨q + 1, HLT.out, by go_num, HREL⟩
        case measure => have := HLT.out; simp [intOf]; omega
      · have hrc : isRd wr (.slice (some ⟨g, o, none⟩) n c2) (octs ((b.drop (48 * q)).take 48)) := by
          have := isRd_take HRD.out (k := n) (by rw [octs_len, HDL.out]; exact hnL)
          rw [← octs_take] at this
          rwa [HTK.out] at this
        have hcl : L ≤ c2 := by
          obtain ⟨a', c', he, hcc, _⟩ := HRD.out
          cases he
          rw [octs_len, HDL.out] at hcc; exact hcc
        have hLi : (L : Int) ≤ c2 := by omega
        have hgb : ∀ g', (Value.slice (some ⟨g, o, none⟩) n c2).ownBlock = some g' → g' < wr.heap.size := fun g' hg' => by
          cases hg'; exact Nat.lt_of_lt_of_le hgl HKR.out.size
        have hgb2 : ∀ g', u7.ownBlock = some g' → ¬ g' = g := fun g' hg' e => by
          have := (HOWN.out.blk g' hg').1; omega
        by_cases hcn : c2 = n
        · as_aux_lemma =>
          obtain rfl : L = n := by omega
          subst hcn
          have hz : b.drop (48 * (q + 1)) = [] := by
            rw [← HDR.out, List.drop_eq_nil_of_le (by rw [HDL.out]; exact Nat.le_refl _)]
          have HZ := Lib.hid hz
          go_wp2_with (first
            | ((with_reducible refine gd_build 172 ?_); refine wl_buildL rfl _ _ rfl [(0, .int .u64 seq), (1, .int .i64 q), (2, .int .i64 m), (4, .int .i64 kind)] rfl (.agg (hdA ⟨seq, q, m, kind⟩ 0)) (build_hd _ _ _ _) ?_)
            | fail)
          refine (jsector_calls _ ⟨seq, q, m, kind⟩ 0 HHD.out _ _ hrc hgb (by rw [HNL.out]; exact hn48)).mono ?_
          rintro e w3 ⟨rfl, hk3⟩
          go_wp2_with (first
            | (refine wl_sliceA1 rfl _ _ rfl 28 _ 64 64 Try.underlying169 info_sec (by decide) (by decide) (secA (jsec ⟨seq, q, m, kind⟩ ((b.drop (48 * q)).take 48))) rfl (secA_64 _) ?_; intro bb w4 hbb HB4 HK4)
            | (at_builtin; go_loud (refine wl_appendA rfl _ _ 169 rfl 28 _ 64 64 Try.underlying169 info_sec (secA_64 _) (by decide) w.heap.size u7 _ rfl ((HOWN.out.new hk3).new HK4) bb (secA (jsec ⟨seq, q, m, kind⟩ ((b.drop (48 * q)).take 48))) rfl HB4 (secA_64 _) (secA_one _) (by rw [hsl]; exact hx1) (by rw [hsl]; exact hx2) (Nat.le_trans HKR.out.size (Nat.le_trans hk3.size HK4.size)) ?_); intro v' w5 hap)
            | fail)
          have HREL : Hid (JsRel w seq kind b (q + 1) (.slice (some ⟨g, o, none⟩) 0 0) v' w5) := by
            refine Lib.hid ⟨.inr ⟨g, o, 0, by rw [HL1.out, Nat.sub_self], hgl⟩, by rw [HZ.out]; exact isRd_nothing _ _ _, js_rows HSU.out hap.1, js_keeps HKR.out hk3 HK4 HOWN.out hap.2.1⟩
          clear hap HB4 HK4 hk3 hrc hbb hgb hgb2
          go_roundw
          case rel => exact ⟨q + 1, HLT.out, by go_num, HREL⟩
          case measure => have := HLT.out; simp [intOf]; omega
        · as_aux_lemma =>
          have hcni : ¬ (c2 : Int) = n := by omega
          have hrn : isRd wr (.slice (some ⟨g, o + n, none⟩) (L - n) (c2 - n)) (octs (b.drop (48 * (q + 1)))) := by
            have h := isRd_drop HRD.out (k := n) (by rw [octs_len, HDL.out]; exact hnL)
            rw [Go.WideShapes.add_plain] at h
            rw [← octs_drop, HDR.out] at h
            exact h
          have HRN := Lib.hid hrn
          clear hrn
          go_wp2_with (first
            | ((with_reducible refine gd_build 172 ?_); refine wl_buildL rfl _ _ rfl [(0, .int .u64 seq), (1, .int .i64 q), (2, .int .i64 m), (4, .int .i64 kind)] rfl (.agg (hdA ⟨seq, q, m, kind⟩ 0)) (build_hd _ _ _ _) ?_)
            | fail)
          refine (jsector_calls _ ⟨seq, q, m, kind⟩ 0 HHD.out _ _ hrc hgb (by rw [HNL.out]; exact hn48)).mono ?_
          rintro e w3 ⟨rfl, hk3⟩
          go_wp2_with (first
            | (refine wl_sliceA1 rfl _ _ rfl 28 _ 64 64 Try.underlying169 info_sec (by decide) (by decide) (secA (jsec ⟨seq, q, m, kind⟩ ((b.drop (48 * q)).take 48))) rfl (secA_64 _) ?_; intro bb w4 hbb HB4 HK4)
            | (at_builtin; go_loud (refine wl_appendA rfl _ _ 169 rfl 28 _ 64 64 Try.underlying169 info_sec (secA_64 _) (by decide) w.heap.size u7 _ rfl ((HOWN.out.new hk3).new HK4) bb (secA (jsec ⟨seq, q, m, kind⟩ ((b.drop (48 * q)).take 48))) rfl HB4 (secA_64 _) (secA_one _) (by rw [hsl]; exact hx1) (by rw [hsl]; exact hx2) (Nat.le_trans HKR.out.size (Nat.le_trans hk3.size HK4.size)) ?_); intro v' w5 hap)
            | fail)
          have HREL : Hid (JsRel w seq kind b (q + 1) (.slice (some ⟨g, o + n, none⟩) (L - n) (c2 - n)) v' w5) := by
            refine Lib.hid ⟨.inr ⟨g, o + n, c2 - n, by rw [HL1.out], hgl⟩, ((HRN.out.new hk3).new HK4).kept hap.2.1 (fun g' hg' e => by cases hg'; exact hgb2 g e rfl), js_rows HSU.out hap.1, js_keeps HKR.out hk3 HK4 HOWN.out hap.2.1⟩
          clear hap HB4 HK4 hk3 hrc hbb hgb hgb2
          go_roundw
          case rel => exact ⟨q + 1, HLT.out, by go_num, HREL⟩
          case measure => have := HLT.out; simp [intOf]; omega
    · obtain rfl : q = m := by omega
      have hlb : decide ((q : Int) < (q : Int)) = false := by simp
      obtain ⟨hsh, hrd, hown, hkr⟩ := hrel.out
      have e1 : (sectorsP seq kind b).take q = sectorsP seq kind b := List.take_of_length_le (by rw [sectorsP_len, ← HM.out]; exact Nat.le_refl _)
      rw [e1] at hown
      clear hrel hsh hrd
      go_wp2_with fail
      go_ret
      exact ⟨_, rfl, hown, hkr⟩
end Go.Proofs.Ytadjcdfmppcpnaa

namespace Go.Proofs.Ytadjcdfmppcpnaa
open Go Go.RowKit Go.Maps Wb

/-- In a region that draws: a comparison of structs or arrays is taken. -/
theorem rg_binJ {P : Program} {ops : Array Oper} {Q : Exit → Act → World → Prop} {S : World → Prop} {md : Region.Mode} (i : Nat) (r : Value) {fuel : Nat} {listed : Array Bool} {d : Tmp} {bop : BinOp} {ty ty2 : TypeId} {x y : Operand} {t : TypeId} {pos : String} {after : Array Edge} {g : Option (Nat × Bool)} (hi : ops[i]? = some ⟨some d, .binOp bop ty x y ty2, t, pos, after, g⟩)
    (hs : Region.noSelect ops = true) (hf : Region.free md ops listed i = true) (hr : (Region.ready md ops listed).contains i = true)
    {tmps : Array Value} {defers : List Deferred} {w : World} (hQ : ∀ c a w, Q (.panic c) (a.put (some d) r) w → Q (.panic c) a w) (hS : S w)
    (hw : Region.wanted (⟨some d, .binOp bop ty x y ty2, t, pos, after, g⟩ : Oper) (yielded ops (⟨tmps, defers⟩ : Act).tmps) = true)
    (u v : Value) (hx : (⟨tmps, defers⟩ : Act).eval x = u) (hy : (⟨tmps, defers⟩ : Act).eval y = v) (hg : ∀ w, (eqGuard bop ty x y u v).run P w = .ok () w) (hb : ∀ w, (binOp bop ty u v).run P w = .ok r w)
    (h : wpAnyH P md ops Q S fuel (listed.setIfInBounds i true) ((⟨tmps, defers⟩ : Act).put (some d) r) w) : wpAnyH P md ops Q S (fuel + 1) listed ⟨tmps, defers⟩ w := by
  refine wpAnyH_take hi hs hf hr hQ (.inl ⟨hw, fun w _ => ?_⟩) hS h
  unfold execOp
  simp only [hx, hy, hg, hb, Sem.run_bind, Sem.run_pure, Result.andThen_ok]
theorem secRows_at {l : List Sec} {j : Nat} {s : Sec} (h : l[j]? = some s) : (secRows l)[j]? = some (secA s) := by simp [secRows, h]
theorem take_eq_succ {la lb : List Sec} {q : Nat} {s : Sec} (h : la.take q = lb.take q) (ha : la[q]? = some s) (hb : lb[q]? = some s) : la.take (q + 1) = lb.take (q + 1) := by
  rw [List.take_add_one, List.take_add_one, h, ha, hb]

set_option maxRecDepth 100000 in
set_option maxHeartbeats 4000000 in
theorem jequal_calls (w : World) (va vb : Value) (la lb : List Sec) (ha : isRdA w 64 va (secRows la)) (hb : isRdA w 64 vb (secRows lb)) (hla : la.length ≤ 1000000) (hlb : lb.length ≤ 1000000) :
    Calls Try.prog 114 #[va, vb] w (Quiet w (.bool (decide (la = lb)))) := by
  obtain ⟨a1, c1, rfl, h1, hra⟩ := ha
  obtain ⟨a2, c2, rfl, h2, hrb⟩ := hb
  rw [secRows_len] at h1 h2 ⊢
  rw [secRows_len]
  have hlai : (la.length : Int) ≤ 1000000 := by omega
  have hlbi : (lb.length : Int) ≤ 1000000 := by omega
  have HRA := Lib.hid hra
  have HRB := Lib.hid hrb
  clear hra hrb
  by_cases hne : la.length = lb.length
  · have hneb : ((la.length : Int) != (lb.length : Int)) = false := by simp; omega
    have HNE := Lib.hid hne
    clear hne
    go_enter Try.func114, Try.ntmps114
    go_wp2_with fail
    go_loopw [13] (fun i wr => ∃ q : Nat, q ≤ la.length ∧ i = .int .i64 q ∧ Hid (la.take q = lb.take q ∧ Keeps w wr (fun _ => False))) (fun i _ => la.length - (intOf i).toNat)
    case atStart => exact ⟨0, Nat.zero_le _, rfl, Lib.hid ⟨rfl, Keeps.refl _ _⟩⟩
    case round =>
      obtain ⟨q, hq, rfl, hrel⟩ := hrel
      have hq0 : (0 : Int) ≤ q := by omega
      by_cases hlt : q < la.length
      · as_aux_lemma =>
        have hltb : decide (q < la.length) = true := by simpa using hlt
        have hqi : (q : Int) < la.length := by omega
        have hqi2 : (q : Int) < lb.length := by have := HNE.out; omega
        obtain ⟨s, hs⟩ : ∃ s, la[q]? = some s := ⟨_, List.getElem?_eq_getElem hlt⟩
        obtain ⟨t, ht⟩ : ∃ t, lb[q]? = some t := ⟨_, List.getElem?_eq_getElem (by have := HNE.out; omega)⟩
        obtain ⟨g1, o1, rfl, _, hr1⟩ := HRA.out q _ (secRows_at hs)
        obtain ⟨g2, o2, rfl, _, hr2⟩ := HRB.out q _ (secRows_at ht)
        have HST := Lib.hid hs
        have HTT := Lib.hid ht
        have HLT := Lib.hid hlt
        clear hs ht hlt
        go_wp2_with fail
        have HS : (fun (w' : World) => w'.rangeAt g1 (o1 + q * 64) (secA s).toList ∧ w'.rangeAt g2 (o2 + q * 64) (secA t).toList) wr.drew := ⟨Keeps.rangeK hrel.out.2.drew hr1, Keeps.rangeK hrel.out.2.drew hr2⟩
        refine wp_region_held_drew (S := (fun (w' : World) => w'.rangeAt g1 (o1 + q * 64) (secA s).toList ∧ w'.rangeAt g2 (o2 + q * 64) (secA t).toList)) (by kernel_rfl) HS (fun _ => ?_)
        first
          | (refine rg_skip 0 rfl (by kernel_rfl) (by kernel_rfl) (by kernel_rfl) (fun _ _ _ h => h) HS ?_ ?_; rfl)
          | (refine rg_take 0 (v := ?_) rfl (by kernel_rfl) (by kernel_rfl) (by kernel_rfl) (fun _ _ _ h => h) HS ?_ ?_ ?_; rotate_left; rfl; focus (intro w hSw; (try dsimp only at hSw); go_simp; all_goals (with_reducible rfl)))
        simp only [Act.put, List.setIfInBounds_toArray, List.set_cons_succ, List.set_cons_zero]
        first
          | (refine rg_skip 1 rfl (by kernel_rfl) (by kernel_rfl) (by kernel_rfl) (fun _ _ _ h => h) HS ?_ ?_; rfl)
          | (refine rg_take 1 (v := ?_) rfl (by kernel_rfl) (by kernel_rfl) (by kernel_rfl) (fun _ _ _ h => h) HS ?_ ?_ ?_; rotate_left; rfl; focus (intro w hSw; (try dsimp only at hSw); go_simp; all_goals (with_reducible rfl)))
        simp only [Act.put, List.setIfInBounds_toArray, List.set_cons_succ, List.set_cons_zero]
        first
          | (refine rg_skip 2 rfl (by kernel_rfl) (by kernel_rfl) (by kernel_rfl) (fun _ _ _ h => h) HS ?_ ?_; rfl)
          | (refine rg_take 2 (v := ?_) rfl (by kernel_rfl) (by kernel_rfl) (by kernel_rfl) (fun _ _ _ h => h) HS ?_ ?_ ?_; rotate_left; rfl; focus (intro w hSw; (try dsimp only at hSw); go_simp; all_goals (with_reducible rfl)))
        simp only [Act.put, List.setIfInBounds_toArray, List.set_cons_succ, List.set_cons_zero]
        refine rg_load 3 rfl (by kernel_rfl) (by kernel_rfl) (by kernel_rfl) (secA s) (fun _ _ _ h => h) HS (by rfl) g1 (o1 + q * 64) rfl (fun _ h => h.1) _ Try.underlying28 rfl (info28s _) ?_
        simp only [Act.put, List.setIfInBounds_toArray, List.set_cons_succ, List.set_cons_zero]
        first
          | (refine rg_skip 4 rfl (by kernel_rfl) (by kernel_rfl) (by kernel_rfl) (fun _ _ _ h => h) HS ?_ ?_; rfl)
          | (refine rg_take 4 (v := ?_) rfl (by kernel_rfl) (by kernel_rfl) (by kernel_rfl) (fun _ _ _ h => h) HS ?_ ?_ ?_; rotate_left; rfl; focus (intro w hSw; (try dsimp only at hSw); go_simp; all_goals (with_reducible rfl)))
        simp only [Act.put, List.setIfInBounds_toArray, List.set_cons_succ, List.set_cons_zero]
        first
          | (refine rg_skip 5 rfl (by kernel_rfl) (by kernel_rfl) (by kernel_rfl) (fun _ _ _ h => h) HS ?_ ?_; rfl)
          | (refine rg_take 5 (v := ?_) rfl (by kernel_rfl) (by kernel_rfl) (by kernel_rfl) (fun _ _ _ h => h) HS ?_ ?_ ?_; rotate_left; rfl; focus (intro w hSw; (try dsimp only at hSw); go_simp; all_goals (with_reducible rfl)))
        simp only [Act.put, List.setIfInBounds_toArray, List.set_cons_succ, List.set_cons_zero]
        first
          | (refine rg_skip 6 rfl (by kernel_rfl) (by kernel_rfl) (by kernel_rfl) (fun _ _ _ h => h) HS ?_ ?_; rfl)
          | (refine rg_take 6 (v := ?_) rfl (by kernel_rfl) (by kernel_rfl) (by kernel_rfl) (fun _ _ _ h => h) HS ?_ ?_ ?_; rotate_left; rfl; focus (intro w hSw; (try dsimp only at hSw); go_simp; all_goals (with_reducible rfl)))
        simp only [Act.put, List.setIfInBounds_toArray, List.set_cons_succ, List.set_cons_zero]
        refine rg_load 7 rfl (by kernel_rfl) (by kernel_rfl) (by kernel_rfl) (secA t) (fun _ _ _ h => h) HS (by rfl) g2 (o2 + q * 64) rfl (fun _ h => h.2) _ Try.underlying28 rfl (info28s _) ?_
        simp only [Act.put, List.setIfInBounds_toArray, List.set_cons_succ, List.set_cons_zero]
        by_cases hst : s = t
        · as_aux_lemma =>
          have hrun : ∀ W, (binOp BinOp.neq 28 (secV s) (secV t)).run Try.prog W = .ok (.bool false) W := fun W => by rw [run_neq_sec]; simp [hst]
          refine rg_binJ 8 (.bool false) rfl (by kernel_rfl) (by kernel_rfl) (by kernel_rfl) (fun _ _ _ h => h) HS (by rfl) (secV s) (secV t) rfl rfl (fun W => run_guard_sec W _ _ _ _ _) hrun ?_
          simp only [Act.put, List.setIfInBounds_toArray, List.set_cons_succ, List.set_cons_zero]
          refine wpAnyH_done (by kernel_rfl) ?_ _
          have HREL : Hid (la.take (q + 1) = lb.take (q + 1) ∧ Keeps w wr.drew (fun _ => False)) := Lib.hid ⟨take_eq_succ hrel.out.1 HST.out (hst ▸ HTT.out), hrel.out.2.drew⟩
          clear hrun HS hst hrel hr1 hr2
          go_wp2_with fail
          go_roundw
          case rel => exact ⟨q + 1, HLT.out, by go_num, HREL⟩
          case measure => have := HLT.out; simp [intOf]; omega
        · as_aux_lemma =>
          have hrun : ∀ W, (binOp BinOp.neq 28 (secV s) (secV t)).run Try.prog W = .ok (.bool true) W := fun W => by rw [run_neq_sec]; simp [hst]
          refine rg_binJ 8 (.bool true) rfl (by kernel_rfl) (by kernel_rfl) (by kernel_rfl) (fun _ _ _ h => h) HS (by rfl) (secV s) (secV t) rfl rfl (fun W => run_guard_sec W _ _ _ _ _) hrun ?_
          simp only [Act.put, List.setIfInBounds_toArray, List.set_cons_succ, List.set_cons_zero]
          refine wpAnyH_done (by kernel_rfl) ?_ _
          have HD : Hid (decide (la = lb) = false) := Lib.hid (decide_eq_false fun e => hst (by
            have h1 := HST.out
            rw [e, HTT.out] at h1
            exact (Option.some.inj h1).symm))
          have HKK := Lib.hid hrel.out.2.drew
          clear hrun HS hst hrel hr1 hr2
          go_wp2_with fail
          go_ret
          exact ⟨by rw [HD.out]; rfl, HKK.out⟩
      · as_aux_lemma =>
        have hltb : decide (q < la.length) = false := by simpa using hlt
        have HD : Hid (decide (la = lb) = true) := Lib.hid (decide_eq_true (by
          have h1 := hrel.out.1
          rw [List.take_of_length_le (by omega), List.take_of_length_le (by have := HNE.out; omega)] at h1
          exact h1))
        clear hlt
        go_wp2_with fail
        go_ret
        exact ⟨by rw [HD.out]; rfl, hrel.out.2⟩
  · have hneb : ((la.length : Int) != (lb.length : Int)) = true := by simp; omega
    have HD : Hid (decide (la = lb) = false) := Lib.hid (decide_eq_false fun e => hne (by rw [e]))
    clear hne
    go_enter Try.func114, Try.ntmps114
    go_wp2_with fail
    go_ret
    exact ⟨by rw [HD.out]; rfl, Keeps.refl _ _⟩
end Go.Proofs.Ytadjcdfmppcpnaa

namespace Go.Proofs.Ytadjcdfmppcpnaa
open Go Go.RowKit Go.Maps Wb

theorem nameI_nat (n : Nat) : nameI (n : Int) = nmOf n := by
  unfold nameI nmOf
  by_cases h : n < 1 ∨ 999999 < n
  · rw [if_pos (by omega), if_pos h]
  · rw [if_neg (by omega), if_neg h, Int.toNat_natCast]
theorem nmOf_ok (n : Nat) : nmOk (nmOf n) := by
  unfold nmOk
  have := nmOf_len n
  omega
def btA (seq kind : Nat) (bv : Value) (file p : Nat) : Array Value := #[.int .u64 seq, .int .i64 kind, bv, .int .i64 file, .int .i64 p]
abbrev btZ : Array Value := btA 0 0 (.slice none 0 0) 0 0
theorem zeroBt (w : World) : (zeroValue 94).run Try.prog w = .ok (.agg btZ) w := by kernel_rfl
theorem buildBt0 (w : World) : (Instr.build 94 #[]).run Try.prog w = .ok (.agg btZ) w := by kernel_rfl
set_option maxRecDepth 100000 in
theorem buildBt (s k : Nat) (a : Option Addr) (n c : Nat) (f p : Nat) (w : World) : (Instr.build 94 #[(0, .int .u64 s), (1, .int .i64 k), (2, .slice a n c), (3, .int .i64 f), (4, .int .i64 p)]).run Try.prog w = .ok (.agg (btA s k (.slice a n c) f p)) w := by
  first | kernel_rfl | rfl
theorem infoBt (s k : Nat) (bv : Value) (f p : Nat) : (Try.prog.info? 94).map (·.size) = some (btA s k bv f p).size := by
  have : (Try.prog.info? 94).map (·.size) = some 5 := by kernel_rfl
  exact this
theorem btA_one {s k : Nat} {bv : Value} {f p : Nat} (h : bv.oneCell' = true) : (btA s k bv f p).all (·.oneCell') = true := by
  simp [btA, h]
  simp [Value.oneCell']
theorem store_bt (s k f p s' k' f' p' : Nat) (bv bv' : Value) : Wb.splice (btA s k bv f p) 0 (btA s' k' bv' f' p') = btA s' k' bv' f' p' := store_whole _ _ rfl
theorem le_bt (s k f p s' k' f' p' : Nat) (bv bv' : Value) : 0 + (btA s k bv f p).size ≤ (btA s' k' bv' f' p').size := by simp [btA]
theorem results_three {fn : Func} {p q r : Tmp} {ty : TypeId} (h : fn.results = #[.cell p ty, .tmp q, .tmp r]) (tmps : Array Value) (w : World) (g : Nat) (t : TypeId) (cs : Array Value) (fr : Nat × Nat) (v u : Value)
    (hp : tmps.getD p undef = .pointer (some ⟨g, 0, none⟩)) (hq : tmps.getD q undef = v) (hr : tmps.getD r undef = u) (hg : w.heap[g]? = some (.cells cs t fr)) (d : TypeDesc)
    (hu : Try.prog.underlying ty = some d) (hd : d.isRow = true) (hi : (Try.prog.info? ty).map (·.size) = some cs.size) :
    (results fn tmps).run Try.prog w = .ok (.tuple #[.agg cs, v, u]) w := by
  have hp' : tmps[p]?.getD undef = .pointer (some ⟨g, 0, none⟩) := by simpa using hp
  have hq' : tmps[q]?.getD undef = v := by simpa using hq
  have hr' : tmps[r]?.getD undef = u := by simpa using hr
  have hl : (loadVar ty ⟨g, 0, none⟩).run Try.prog w = .ok (.agg cs) w := by
    have := run_load_agg (P := Try.prog) (w := w) ty g 0 cs t fr hg cs (extract_all _) d hu hd hi
    simpa [Instr.loadAt, Instr.sureAddr] using this
  simp [results, h, hp', hq', hr', asAddr, hl]
/-- What batch comes to. -/
def BatchPost (w : World) (r : BR) (file p : Nat) (e : Ending) (w' : World) : Prop :=
  ∃ bv, e = .returned (.tuple #[.agg (if r.err = 0 then btA r.seq r.kind bv file p else btZ), .int .i64 r.many, .int .i64 r.err]) ∧ isOwn w' w.heap.size 5 bv (octs r.b) ∧ Keeps w w' (fun _ => False)
theorem batch_post_bad {w w' : World} {r : BR} {file p : Nat} {x : Int} (hr : r = ⟨0, 0, [], 0, x⟩) (hx : x ≠ 0) (hk : Keeps w w' (fun _ => False)) : BatchPost w r file p (.returned (.tuple #[.agg btZ, .int .i64 0, .int .i64 x])) w' := by
  subst hr
  refine ⟨.slice none 0 0, ?_, isOwn_nil _ _ _, hk⟩
  rw [if_neg hx]
  rfl

set_option maxRecDepth 100000 in
set_option maxHeartbeats 4000000 in
/-- .. where the first sector is none, or no head of a batch. -/
theorem batch_bad (w : World) (h : DH) (D : Dv) (file p : Nat) (hd : isDev w h D) (hb : (readJ D file p).2 ≠ 0 ∨ headBad (headP (readJ D file p).1)) :
    Calls Try.prog 99 #[.pointer (some ⟨h.p, 0, none⟩), .int .i64 file, .int .i64 p] w (BatchPost w (batchR (readJ D file) p) file p) := by
  obtain ⟨s, e0, hr⟩ : ∃ s e0, D.read (nmOf file) (p : Int) = (s, e0) := ⟨_, _, rfl⟩
  have hrj : readJ D file p = (s, e0) := hr
  have HR := Lib.hid hr
  have HRJ := Lib.hid hrj
  rw [hrj] at hb
  have hnm : nameI (file : Int) = nmOf file := nameI_nat file
  clear hr hrj
  go_enter Try.func99, Try.ntmps99
  go_wp2_with (first
    | ((with_reducible refine gd_alloc 94 ?_); refine wl_alloc_agg rfl _ rfl _ zeroBt ?_; intro br w1 hbr HBR HKR)
    | fail)
  refine (name_calls _ (file : Int)).mono ?_
  rintro e w2 ⟨rfl, hk2⟩
  rw [hnm]
  have HBR2 := hk2.blk HBR id
  have hK2 := HKR.trans hk2
  clear HBR hk2
  go_wp2_with fail
  refine (read_calls _ h _ (nmOf file) _ (hd.new hK2) (nmOf_ok _)).mono ?_
  rintro e w3 ⟨he, hk3⟩
  rw [HR.out] at he
  dsimp only at he
  subst he
  have HBR3 := hk3.blk HBR2 id
  have hK3 := hK2.trans hk3
  clear HBR2 hk3
  by_cases he : e0 = 0
  · subst he
    have hbad : headBad (headP s) := hb.resolve_left (by simp)
    have HB : Hid (batchR (readJ D file) p = ⟨0, 0, [], 0, 1⟩) := Lib.hid (by unfold batchR; rw [HRJ.out]; simp [hbad])
    obtain ⟨hh, hhe⟩ : ∃ hh, hh = headP s := ⟨_, rfl⟩
    rw [← hhe] at hbad
    have HHE := Lib.hid hhe
    clear hb hhe
    go_wp2_with (first
      | ((with_reducible refine gd_alloc 28 ?_); refine wl_alloc_agg rfl _ rfl _ zero28 ?_; intro b8 w4 hb8 HB8 HK8)
      | ((with_reducible refine gd_store 28 ?_); refine wl_store_agg rfl _ _ _ rfl b8 _ rfl _ _ HB8 (secA s) rfl (secA s) (store_secs _ _) (le_secs _ _) (info28s _) (secA_one _) ?_; intro w5 HB85 HK5; have HBR5 := HK5.blk (HK8.blk HBR3 id) (ne_new HBR3 hb8))
      | ((with_reducible refine gd_load 28 ?_); refine wl_load_agg rfl _ _ rfl b8 _ rfl _ _ _ HB85 (secA s) (extract_all _) _ Try.underlying28 rfl (info28s _) ?_)
      | fail)
    refine (headOf_calls _ s).mono ?_
    rintro e w6 ⟨he6, hk6⟩
    rw [← HHE.out] at he6
    subst he6
    have hb80 : w.heap.size ≤ b8 := Nat.le_trans hK3.size hb8
    have hK6 : Keeps w w6 (fun _ => False) := ((hK3.trans HK8).then HK5 (fun i hi e => absurd hb80 (by rw [← show i = b8 from e]; exact Nat.not_le.2 hi))).trans hk6
    have HBR6 := hk6.blk HBR5 id
    clear HB8 HB85 HK8 HK5 hk6 HBR3 HBR5 hK3
    go_upto_region 6 with (first
      | ((with_reducible refine gd_alloc 172 ?_); refine wl_alloc_agg rfl _ rfl _ zeroHd ?_; intro bh w7 hbh HBH HKH)
      | ((with_reducible refine gd_store 172 ?_); refine wl_store_agg rfl _ _ _ rfl bh _ rfl _ _ HBH (hdA hh (longP s)) rfl (hdA hh (longP s)) (store_hd _ _ _ _) (le_hd _ _ _ _) (infoHd _ _) (hdA_one _ _) ?_; intro w8 HBH8 HKH8)
      | fail)
    have q0 : w8.cell? ⟨bh, 0, none⟩ = some (.int .u64 hh.seq) := by rw [cell_of_block HBH8]; rfl
    have q2 : w8.cell? ⟨bh, 2, none⟩ = some (.int .i64 hh.many) := by rw [cell_of_block HBH8]; rfl
    have q4 : w8.cell? ⟨bh, 4, none⟩ = some (.int .i64 hh.kind) := by rw [cell_of_block HBH8]; rfl
    have hbh0 : w.heap.size ≤ bh := Nat.le_trans hK6.size hbh
    have hK8 : Keeps w w8 (fun _ => False) := (hK6.trans HKH).then HKH8 (fun i hi e => absurd hbh0 (by rw [← show i = bh from e]; exact Nat.not_le.2 hi))
    have HBR8 := HKH8.blk (HKH.blk HBR6 id) (ne_new HBR6 hbh)
    have hcase : (((hh.seq : Int) == 0) = true) ∨ (((hh.seq : Int) == 0) = false ∧ ((hh.kind : Int) == 0) = true) ∨ (((hh.seq : Int) == 0) = false ∧ ((hh.kind : Int) == 0) = false ∧ ((hh.many : Int) == 0) = true) ∨ (((hh.seq : Int) == 0) = false ∧ ((hh.kind : Int) == 0) = false ∧ ((hh.many : Int) == 0) = false ∧ decide ((4096 : Int) < (hh.many : Int)) = true) := by
      unfold headBad at hbad
      simp only [beq_iff_eq, beq_eq_false_iff_ne, decide_eq_true_eq, ne_eq]
      omega
    clear hbad HBH HKH HBH8 HKH8 hK6 HBR6 hbh
    rcases hcase with h1 | ⟨h1, h2⟩ | ⟨h1, h2, h3⟩ | ⟨h1, h2, h3, h4⟩
    all_goals
      go_wp2_with (first
        | ((with_reducible refine gd_build 94 ?_); refine wl_build0 rfl _ rfl _ buildBt0 ?_)
        | ((with_reducible refine gd_store 94 ?_); refine wl_store_agg rfl _ _ _ rfl br _ rfl _ _ HBR8 btZ rfl btZ (store_bt _ _ _ _ _ _ _ _ _ _) (le_bt _ _ _ _ _ _ _ _ _ _) (infoBt _ _ _ _ _) (btA_one rfl) ?_; intro w9 HBR9 HK9)
        | fail)
      refine bodyPost_ret (v := .tuple #[.agg btZ, .int .i64 0, .int .i64 1]) ?_ rfl ?_
      · exact results_three rfl _ _ br _ _ _ _ _ rfl rfl rfl HBR9 _ Try.underlying94 rfl (infoBt _ _ _ _ _)
      · exact batch_post_bad HB.out (by decide) (hK8.then HK9 (fun i hi e => absurd hbr (by rw [← show i = br from e]; exact Nat.not_le.2 hi)))
  · have he1 : (e0 != 0) = true := by simpa using he
    have HB : Hid (batchR (readJ D file) p = ⟨0, 0, [], 0, e0⟩) := Lib.hid (by unfold batchR; rw [HRJ.out]; simp [he])
    clear hb
    go_wp2_with (first
      | ((with_reducible refine gd_alloc 28 ?_); refine wl_alloc_agg rfl _ rfl _ zero28 ?_; intro b8 w4 hb8 HB8 HK8)
      | ((with_reducible refine gd_store 28 ?_); refine wl_store_agg rfl _ _ _ rfl b8 _ rfl _ _ HB8 (secA s) rfl (secA s) (store_secs _ _) (le_secs _ _) (info28s _) (secA_one _) ?_; intro w5 HB85 HK5; have HBR5 := HK5.blk (HK8.blk HBR3 id) (ne_new HBR3 hb8))
      | ((with_reducible refine gd_build 94 ?_); refine wl_build0 rfl _ rfl _ buildBt0 ?_)
      | ((with_reducible refine gd_store 94 ?_); refine wl_store_agg rfl _ _ _ rfl br _ rfl _ _ HBR5 btZ rfl btZ (store_bt _ _ _ _ _ _ _ _ _ _) (le_bt _ _ _ _ _ _ _ _ _ _) (infoBt _ _ _ _ _) (btA_one rfl) ?_; intro w6 HBR6 HK6)
      | fail)
    refine bodyPost_ret (v := .tuple #[.agg btZ, .int .i64 0, .int .i64 e0]) ?_ rfl ?_
    · exact results_three rfl _ _ br _ _ _ _ _ rfl rfl rfl HBR6 _ Try.underlying94 rfl (infoBt _ _ _ _ _)
    · have hb80 : w.heap.size ≤ b8 := Nat.le_trans hK3.size hb8
      exact batch_post_bad HB.out he (((hK3.trans HK8).then HK5 (fun i hi e => absurd hb80 (by rw [← show i = b8 from e]; exact Nat.not_le.2 hi))).then HK6 (fun i hi e => absurd hbr (by rw [← show i = br from e]; exact Nat.not_le.2 hi)))
end Go.Proofs.Ytadjcdfmppcpnaa

namespace Go.Proofs.Ytadjcdfmppcpnaa
open Go Go.RowKit Go.Maps Wb

theorem gather_len {rd : Nat → Sec × Int} {p : Nat} : ∀ q, (gatherR rd p q).2 = 0 → (gatherR rd p q).1.1.length = q ∧ (gatherR rd p q).1.2.length ≤ 48 * q
  | 0, _ => ⟨rfl, Nat.le_refl _⟩
  | q + 1, h => by
    rw [gatherR] at h ⊢
    by_cases h1 : (gatherR rd p q).2 = 0
    · rw [if_pos h1] at h ⊢
      by_cases h2 : (rd (p + q)).2 = 0
      · rw [if_pos h2]
        obtain ⟨a1, a2⟩ := gather_len q h1
        refine ⟨by simp [a1], ?_⟩
        simp only [List.length_append]
        have : (partS (rd (p + q)).1).length ≤ 48 := by unfold partS; rw [List.length_take]; omega
        omega
      · rw [if_neg h2] at h; exact absurd h h2
    · rw [if_neg h1] at h; exact absurd h h1
theorem own_neA {w : World} {lo lo' : Nat} {ty ty' : TypeId} {sz : Nat} {v v' : Value} {rows : List (Array Value)} {vs : List Value} (h : isOwnA w lo ty sz v rows) (h' : isOwn w lo' ty' v' vs) (hne : ty ≠ ty') : ∀ g, v'.ownBlock = some g → v.ownBlock ≠ some g := by
  intro g hg e
  rcases h.2.2 with ⟨rfl, _⟩ | ⟨g1, cap, cur, rfl, h1, h2, _⟩
  · cases e
  · rcases h'.2 with ⟨rfl, _⟩ | ⟨g2, cap2, cur2, rfl, h3, h4, _⟩
    · cases hg
    · simp only [Value.ownBlock, Option.some.injEq] at e hg
      subst e
      subst hg
      rw [h2] at h4
      simp only [Option.some.injEq, Obj.cells.injEq] at h4
      exact hne h4.2.1
set_option maxRecDepth 100000 in
theorem field_long (a b c d e : Nat) (w : World) : (Instr.field 172 (.agg #[.int .u64 a, .int .i64 b, .int .i64 c, .int .i64 d, .int .i64 e]) 3).run Try.prog w = .ok (.int .i64 d) w := by
  first | kernel_rfl | rfl
theorem own_tyJ {w : World} {lo : Nat} {ty ty' : TypeId} {v : Value} {vs : List Value} {c : Nat} {A : Array Value} {fr : Nat × Nat} (h : isOwn w lo ty v vs) (hc : w.heap[c]? = some (.cells A ty' fr)) (hne : ty ≠ ty') : v.ownBlock ≠ some c := by
  intro e
  rcases h.2 with ⟨rfl, _⟩ | ⟨g, cap, cur, rfl, h1, h2, _⟩
  · cases e
  · simp only [Value.ownBlock, Option.some.injEq] at e
    subst e
    rw [h2] at hc
    simp only [Option.some.injEq, Obj.cells.injEq] at hc
    exact hne hc.2.1
def JbRel (w5 : World) (D : Dv) (file p q : Nat) (v13 v14 : Value) (wr : World) : Prop :=
  ∃ ss bs, gatherR (readJ D file) p q = ((ss, bs), 0) ∧ isOwnA wr w5.heap.size 28 64 v13 (secRows ss) ∧ isOwn wr w5.heap.size 5 v14 (octs bs) ∧ Keeps w5 wr (fun _ => False)
theorem batch_fell {rd : Nat → Sec × Int} {p q : Nat} {s s2 : Sec} {ss : List Sec} {bs : List UInt8} {e : Int} (h0 : rd p = (s, 0)) (hb : ¬ headBad (headP s)) (hg : gatherR rd p q = ((ss, bs), 0)) (hr : rd (p + q) = (s2, e)) (he : e ≠ 0) (hq : q < (headP s).many) : batchR rd p = ⟨0, 0, [], 0, e⟩ := by
  have h1 : gatherR rd p (q + 1) = (([], []), e) := by rw [gatherR, hg, if_pos rfl, hr, if_neg he]
  have h2 := gatherR_bad (rd := rd) (a := p) (q := q + 1) (by rw [h1]; exact he) ((headP s).many - (q + 1))
  rw [show q + 1 + ((headP s).many - (q + 1)) = (headP s).many by omega, h1] at h2
  unfold batchR
  rw [h0]
  simp only [ne_eq, not_true_eq_false, if_false]
  rw [if_neg hb, h2, if_pos he]
theorem batch_whole {rd : Nat → Sec × Int} {p : Nat} {s : Sec} {ss : List Sec} {bs : List UInt8} (h0 : rd p = (s, 0)) (hb : ¬ headBad (headP s)) (hg : gatherR rd p (headP s).many = ((ss, bs), 0)) :
    batchR rd p = if ss = sectorsP (headP s).seq (headP s).kind bs then ⟨(headP s).seq, (headP s).kind, bs, (headP s).many, 0⟩ else ⟨0, 0, [], 0, 1⟩ := by
  unfold batchR
  rw [h0]
  simp only [ne_eq, not_true_eq_false, if_false]
  rw [if_neg hb, hg]
  simp

set_option maxRecDepth 100000 in
set_option maxHeartbeats 8000000 in
theorem batch_head (w : World) (h : DH) (D : Dv) (file p : Nat) (hd : isDev w h D) (hp : p ≤ 1000000) {s : Sec} (hr0 : readJ D file p = (s, 0)) (hbad : ¬ headBad (headP s)) :
    Calls Try.prog 99 #[.pointer (some ⟨h.p, 0, none⟩), .int .i64 file, .int .i64 p] w (BatchPost w (batchR (readJ D file) p) file p) := by
  have HR : Hid (D.read (nmOf file) (p : Int) = (s, 0)) := Lib.hid hr0
  have HRJ := Lib.hid hr0
  have HBAD := Lib.hid hbad
  have hnm : nameI (file : Int) = nmOf file := nameI_nat file
  have hpi : (p : Int) ≤ 1000000 := by omega
  have hpi0 : (0 : Int) ≤ p := by omega
  clear hr0
  go_enter Try.func99, Try.ntmps99
  go_wp2_with (first
    | ((with_reducible refine gd_alloc 94 ?_); refine wl_alloc_agg rfl _ rfl _ zeroBt ?_; intro br w1 hbr HBR HKR)
    | fail)
  refine (name_calls _ (file : Int)).mono ?_
  rintro e w2 ⟨rfl, hk2⟩
  rw [hnm]
  have HBR2 := hk2.blk HBR id
  have hK2 := HKR.trans hk2
  clear HBR hk2
  go_wp2_with fail
  refine (read_calls _ h _ (nmOf file) _ (hd.new hK2) (nmOf_ok _)).mono ?_
  rintro e w3 ⟨he, hk3⟩
  rw [HR.out] at he
  dsimp only at he
  subst he
  have HBR3 := hk3.blk HBR2 id
  have hK3 := hK2.trans hk3
  clear HBR2 hk3
  obtain ⟨hh, hhe⟩ : ∃ hh, hh = headP s := ⟨_, rfl⟩
  rw [← hhe] at hbad
  have HHE := Lib.hid hhe
  have HHOK : Hid hh.ok := Lib.hid (by rw [hhe]; exact headP_ok s)
  clear hhe
  go_wp2_with (first
    | ((with_reducible refine gd_alloc 28 ?_); refine wl_alloc_agg rfl _ rfl _ zero28 ?_; intro b8 w4 hb8 HB8 HK8)
    | ((with_reducible refine gd_store 28 ?_); refine wl_store_agg rfl _ _ _ rfl b8 _ rfl _ _ HB8 (secA s) rfl (secA s) (store_secs _ _) (le_secs _ _) (info28s _) (secA_one _) ?_; intro w5 HB85 HK5; have HBR5 := HK5.blk (HK8.blk HBR3 id) (ne_new HBR3 hb8))
    | ((with_reducible refine gd_load 28 ?_); refine wl_load_agg rfl _ _ rfl b8 _ rfl _ _ _ HB85 (secA s) (extract_all _) _ Try.underlying28 rfl (info28s _) ?_)
    | fail)
  refine (headOf_calls _ s).mono ?_
  rintro e w6 ⟨he6, hk6⟩
  rw [← HHE.out] at he6
  subst he6
  have hb80 : w.heap.size ≤ b8 := Nat.le_trans hK3.size hb8
  have hK6 : Keeps w w6 (fun _ => False) := ((hK3.trans HK8).then HK5 (fun i hi e => absurd hb80 (by rw [← show i = b8 from e]; exact Nat.not_le.2 hi))).trans hk6
  have HBR6 := hk6.blk HBR5 id
  clear HB8 HB85 HK8 HK5 hk6 HBR3 HBR5 hK3
  go_upto_region 6 with (first
    | ((with_reducible refine gd_alloc 172 ?_); refine wl_alloc_agg rfl _ rfl _ zeroHd ?_; intro bh w7 hbh HBH HKH)
    | ((with_reducible refine gd_store 172 ?_); refine wl_store_agg rfl _ _ _ rfl bh _ rfl _ _ HBH (hdA hh (longP s)) rfl (hdA hh (longP s)) (store_hd _ _ _ _) (le_hd _ _ _ _) (infoHd _ _) (hdA_one _ _) ?_; intro w8 HBH8 HKH8)
    | fail)
  have q0 : w8.cell? ⟨bh, 0, none⟩ = some (.int .u64 hh.seq) := by rw [cell_of_block HBH8]; rfl
  have q2 : w8.cell? ⟨bh, 2, none⟩ = some (.int .i64 hh.many) := by rw [cell_of_block HBH8]; rfl
  have q4 : w8.cell? ⟨bh, 4, none⟩ = some (.int .i64 hh.kind) := by rw [cell_of_block HBH8]; rfl
  have hbh0 : w.heap.size ≤ bh := Nat.le_trans hK6.size hbh
  have hK8 : Keeps w w8 (fun _ => False) := (hK6.trans HKH).then HKH8 (fun i hi e => absurd hbh0 (by rw [← show i = bh from e]; exact Nat.not_le.2 hi))
  have HBR8 := HKH8.blk (HKH.blk HBR6 id) (ne_new HBR6 hbh)
  have h4096 : hh.many ≤ 4096 := by unfold headBad at hbad; omega
  have hmi : (hh.many : Int) ≤ 4096 := by omega
  have h1 : ((hh.seq : Int) == 0) = false := by unfold headBad at hbad; simp; omega
  have h2 : ((hh.kind : Int) == 0) = false := by unfold headBad at hbad; simp; omega
  have h3 : ((hh.many : Int) == 0) = false := by unfold headBad at hbad; simp; omega
  have h4 : decide ((4096 : Int) < (hh.many : Int)) = false := by simp; omega
  have HBHH := Lib.hid HBH8
  have HK8 := Lib.hid hK8
  have HBRR := Lib.hid HBR8
  have HD8 := Lib.hid (hd.new hK8)
  have HREL0 : Hid (JbRel w8 D file p 0 (.slice none 0 0) (.slice none 0 0) w8) := Lib.hid ⟨[], [], rfl, isOwnA_nil _ _ _ _, isOwn_nil _ _ _, Keeps.refl _ _⟩
  clear hbad HBH HKH HBH8 HKH8 hK6 HBR6 hbh hK8 HBR8 hb80 hb8
  go_wp2_with fail
  go_loopw [13, 14, 54] (fun v13 v14 i wr => ∃ q : Nat, q ≤ hh.many ∧ i = .int .i64 q ∧ Hid (JbRel w8 D file p q v13 v14 wr)) (fun _ _ i _ => hh.many - (intOf i).toNat)
  case atStart => exact ⟨0, Nat.zero_le _, rfl, HREL0⟩
  case round =>
    clear HREL0
    obtain ⟨q, hq, rfl, hrel⟩ := hrel
    have hq0 : (0 : Int) ≤ q := by omega
    by_cases hlt : q < hh.many
    · as_aux_lemma =>
      have hlb : decide ((q : Int) < (hh.many : Int)) = true := by simp; omega
      have hqi : (q : Int) < hh.many := by omega
      have HLT := Lib.hid hlt
      obtain ⟨ss, bs, hg, ho13, ho14, hkr⟩ := hrel.out
      obtain ⟨s2, e2, hr2⟩ : ∃ s2 e2, D.read (nmOf file) ((p : Int) + q) = (s2, e2) := ⟨_, _, rfl⟩
      have hr2j : readJ D file (p + q) = (s2, e2) := by
        unfold readJ
        rw [show ((p + q : Nat) : Int) = (p : Int) + q by omega]; exact hr2
      have HR2 := Lib.hid hr2
      have HR2J := Lib.hid hr2j
      have HG := Lib.hid hg
      have HO13 := Lib.hid ho13
      have HO14 := Lib.hid ho14
      have HKR := Lib.hid hkr
      have hdr := HD8.out.new hkr
      have hbrr := hkr.blk HBRR.out id
      clear hr2 hr2j hg ho13 ho14 hkr hrel hlt
      go_wp2_with fail
      refine (read_calls _ h _ (nmOf file) _ hdr (nmOf_ok _)).mono ?_
      rintro e w9 ⟨he, hk9⟩
      rw [HR2.out] at he
      dsimp only at he
      subst he
      by_cases he : e2 = 0
      · as_aux_lemma =>
        subst he
        obtain ⟨n, hn⟩ : ∃ n, n = min (longP s2) 48 := ⟨_, rfl⟩
        have hmin : min (longP s2 : Int) 48 = (n : Int) := by omega
        have hni : (n : Int) ≤ 48 := by omega
        have hni0 : (0 : Int) ≤ n := by omega
        have hn48 : n ≤ 48 := by omega
        have hgl := gather_len (rd := readJ D file) (p := p) q (by rw [HG.out])
        rw [HG.out] at hgl
        obtain ⟨hgl1, hgl2⟩ := hgl
        have hx1 : (secRows ss).length + 1 ≤ maxLen := by rw [secRows_len, hgl1]; unfold maxLen; omega
        have hx2 : ((secRows ss).length + 1) * 64 ≤ 140737488355328 := by rw [secRows_len, hgl1]; omega
        have hx3 : (octs bs).length + n ≤ maxLen := by rw [octs_len]; unfold maxLen; simp only at hgl2; omega
        have hx4 : ((octs bs).length + n) * 1 ≤ 140737488355328 := by rw [octs_len]; simp only at hgl2; omega
        have HN := Lib.hid hn
        clear hn hgl1 hgl2
        have hz0 : w8.heap.size ≤ wr.heap.size := HKR.out.size
        go_wp2_with (first
          | ((with_reducible refine gd_alloc 28 ?_); refine wl_alloc_agg rfl _ rfl _ zero28 ?_; intro b16 w10 hb16 HB16 HK10)
          | ((with_reducible refine gd_store 28 ?_); refine wl_store_agg rfl _ _ _ rfl b16 _ rfl _ _ HB16 (secA s2) rfl (secA s2) (store_secs _ _) (le_secs _ _) (info28s _) (secA_one _) ?_; intro w11 HB11 HK11; have hnew := Nat.le_trans hk9.size hb16; have ho13 := ((HO13.out.new hk9).new HK10).kept HK11 (fun g hg e => absurd (HO13.out.blk g hg).2 (by rw [show g = b16 from e]; exact Nat.not_lt.2 hnew)); have ho14 := ((HO14.out.new hk9).new HK10).kept HK11 (fun g hg e => absurd (HO14.out.blk g hg).2 (by rw [show g = b16 from e]; exact Nat.not_lt.2 hnew)))
          | ((with_reducible refine gd_load (dst := some 71) 28 ?_); refine wl_load_agg rfl _ _ rfl b16 _ rfl _ _ _ HB11 (secA s2) (extract_all _) _ Try.underlying28 rfl (info28s _) ?_)
          | (refine wl_sliceA1 rfl _ _ rfl 28 _ 64 64 Try.underlying169 info_sec (by decide) (by decide) (secA s2) rfl (secA_64 _) ?_; intro bb w12 hbb HB12 HK12)
          | (at_builtin; go_loud (refine wl_appendA rfl _ _ 169 rfl 28 _ 64 64 Try.underlying169 info_sec (secA_64 _) (by decide) w8.heap.size u13 _ rfl (ho13.new HK12) bb (secA s2) rfl HB12 (secA_64 _) (secA_one _) hx1 hx2 (Nat.le_trans hz0 (Nat.le_trans hk9.size (Nat.le_trans HK10.size (Nat.le_trans HK11.size HK12.size)))) ?_); intro v13 w13 hap; have hb13 : u13.ownBlock ≠ some b16 := (fun e => absurd (HO13.out.blk b16 e).2 (Nat.not_lt.2 hnew)); have HB13 := hap.2.1.blk (HK12.blk HB11 id) hb13; have ho14b := (ho14.new HK12).kept hap.2.1 (fun g hg e => own_neA (ho13.new HK12) (ho14.new HK12) (by decide) g hg e))
          | ((with_reducible refine gd_load (dst := some 75) 28 ?_); refine wl_load_agg rfl _ _ rfl b16 _ rfl _ _ _ HB13 (secA s2) (extract_all _) _ Try.underlying28 rfl (info28s _) ?_)
          | fail)
        refine (headOf_calls _ s2).mono ?_
        rintro e w14 ⟨he14, hk14⟩
        have he15 : e = .returned (.agg #[.int .u64 (headP s2).seq, .int .i64 (headP s2).place, .int .i64 (headP s2).many, .int .i64 (longP s2), .int .i64 (headP s2).kind]) := he14
        subst he15
        have HB14 := hk14.blk HB13 id
        have ho14c := ho14b.new hk14
        have hav := arr_vals HB14 16 n (by omega) 48 rfl
        have h16a : (16 : Int) ≤ 16 + (n : Int) := by omega
        have h16b : (16 : Int) + (n : Int) ≤ 64 := by omega
        have h16c : (0 : Int) ≤ 16 + (n : Int) := by omega
        have h16d : ((16 : Int) + (n : Int)).toNat = 16 + n := by omega
        have hpl : (octs ((s2.1.drop 16).take n)).length = n := by rw [octs_len, List.length_take, List.length_drop, s2.2]; omega
        have hfl := field_long (headP s2).seq (headP s2).place (headP s2).many (longP s2) (headP s2).kind w14
        go_wp2_with (first
          | (at_builtin; go_loud (refine wl_appendN rfl _ _ 63 rfl 5 _ 1 Try.underlying63 info_u8 rfl w8.heap.size u14 (octs bs) rfl ho14c _ (octs ((s2.1.drop 16).take n)) rfl hav.rd (fun _ h => by cases h) (fun u hu => octs_one _ u hu) (by rw [hpl]; exact hx3) (by rw [hpl]; exact hx4) (Nat.le_trans hz0 (Nat.le_trans hk9.size (Nat.le_trans HK10.size (Nat.le_trans HK11.size (Nat.le_trans HK12.size (Nat.le_trans hap.2.1.size hk14.size)))))) ?_); intro v14 w15 hap2)
          | fail)
        have HREL : Hid (JbRel w8 D file p (q + 1) v13 v14 w15) := by
          have ho13c := hap.1.new hk14
          have k11 : Keeps w8 w11 (fun _ => False) := ((HKR.out.trans hk9).trans HK10).then HK11 (fun i hi e => absurd hi (by rw [show i = b16 from e]; exact Nat.not_lt.2 (Nat.le_trans hz0 hnew)))
          have k14 : Keeps w8 w14 (fun _ => False) := ((k11.trans HK12).then hap.2.1 (fun i hi e => absurd (HO13.out.blk i e).1 (Nat.not_le.2 hi))).trans hk14
          have k15 : Keeps w8 w15 (fun _ => False) := k14.then hap2.2.1 (fun i hi e => absurd (HO14.out.blk i e).1 (Nat.not_le.2 hi))
          refine Lib.hid ⟨ss ++ [s2], bs ++ partS s2, by rw [gatherR, HG.out, if_pos rfl, HR2J.out, if_pos rfl], ?_, ?_, k15⟩
          · have e1 : secRows (ss ++ [s2]) = secRows ss ++ [secA s2] := by simp [secRows]
            rw [e1]
            exact ho13c.kept hap2.2.1 (fun g hg e => own_neA ho13c ho14c (by decide) g e hg)
          · have e2 : octs (bs ++ partS s2) = octs bs ++ octs ((s2.1.drop 16).take n) := by
              rw [octs_app]
              unfold partS
              rw [← HN.out]
            rw [e2]
            exact hap2.1
        clear hap hap2 HB12 HK12 HB11 HK11 HB13 HB14 hk14 hav hfl ho14b ho14c ho13 ho14 HK10 HB16 hk9 hdr hbrr hb13 hnew hbb hb16
        go_roundw
        case rel => exact ⟨q + 1, HLT.out, by go_num, HREL⟩
        case measure => have := HLT.out; simp [intOf]; omega
      · as_aux_lemma =>
        have he1 : (e2 != 0) = true := by simpa using he
        have hmany : q < (headP s).many := by rw [← HHE.out]; exact HLT.out
        have HB : Hid (batchR (readJ D file) p = ⟨0, 0, [], 0, e2⟩) := Lib.hid (batch_fell HRJ.out HBAD.out HG.out HR2J.out he hmany)
        have HBR9 := hk9.blk hbrr id
        have hK9 : Keeps w w9 (fun _ => False) := (HK8.out.trans HKR.out).trans hk9
        clear hmany hbrr hdr hk9
        go_wp2_with (first
          | ((with_reducible refine gd_alloc 28 ?_); refine wl_alloc_agg rfl _ rfl _ zero28 ?_; intro b16 w10 hb16 HB16 HK10)
          | ((with_reducible refine gd_store 28 ?_); refine wl_store_agg rfl _ _ _ rfl b16 _ rfl _ _ HB16 (secA s2) rfl (secA s2) (store_secs _ _) (le_secs _ _) (info28s _) (secA_one _) ?_; intro w11 HB11 HK11; have HBR11 := HK11.blk (HK10.blk HBR9 id) (ne_new HBR9 hb16))
          | ((with_reducible refine gd_build 94 ?_); refine wl_build0 rfl _ rfl _ buildBt0 ?_)
          | ((with_reducible refine gd_store 94 ?_); refine wl_store_agg rfl _ _ _ rfl br _ rfl _ _ HBR11 btZ rfl btZ (store_bt _ _ _ _ _ _ _ _ _ _) (le_bt _ _ _ _ _ _ _ _ _ _) (infoBt _ _ _ _ _) (btA_one rfl) ?_; intro w12 HBR12 HK12)
          | fail)
        refine bodyPost_ret (v := .tuple #[.agg btZ, .int .i64 0, .int .i64 e2]) ?_ rfl ?_
        · exact results_three rfl _ _ br _ _ _ _ _ rfl rfl rfl HBR12 _ Try.underlying94 rfl (infoBt _ _ _ _ _)
        · have hb160 : w.heap.size ≤ b16 := Nat.le_trans hK9.size hb16
          exact batch_post_bad HB.out he (((hK9.trans HK10).then HK11 (fun i hi e => absurd hb160 (by rw [← show i = b16 from e]; exact Nat.not_le.2 hi))).then HK12 (fun i hi e => absurd hbr (by rw [← show i = br from e]; exact Nat.not_le.2 hi)))
    · as_aux_lemma =>
      obtain rfl : q = hh.many := by omega
      have hlb : decide ((hh.many : Int) < (hh.many : Int)) = false := by simp
      obtain ⟨ss, bs, hg, ho13, ho14, hkr⟩ := hrel.out
      have hgl := gather_len (rd := readJ D file) (p := p) hh.many (by rw [hg])
      rw [hg] at hgl
      have hnn : needN bs.length ≤ 4096 := by
        have h9 := hgl.2
        simp only at h9
        unfold needN
        split <;> omega
      have hbhr := hkr.blk HBHH.out id
      have q0' : wr.cell? ⟨bh, 0, none⟩ = some (.int .u64 hh.seq) := by rw [cell_of_block hbhr]; rfl
      have q4' : wr.cell? ⟨bh, 4, none⟩ = some (.int .i64 hh.kind) := by rw [cell_of_block hbhr]; rfl
      have hsl : ss.length ≤ 1000000 := by have h9 := hgl.1; simp only at h9; omega
      have HG := Lib.hid hg
      have HO13 := Lib.hid ho13
      have HO14 := Lib.hid ho14
      have HKR := Lib.hid hkr
      have HBHR := Lib.hid hbhr
      have HSL := Lib.hid hsl
      have HNN := Lib.hid hnn
      clear hrel hg ho13 ho14 hkr hbhr hgl hsl hnn
      go_wp2_with fail
      refine (jsectors_calls _ _ hh.seq hh.kind _ bs HO14.out HNN.out HHOK.out.seq HHOK.out.kind).mono ?_
      rintro e w9 ⟨v9, rfl, ho9, hk9⟩
      go_wp2_with fail
      refine (jequal_calls _ _ _ ss (sectorsP hh.seq hh.kind bs) (HO13.out.new hk9).rd ho9.rd HSL.out (by rw [sectorsP_len]; have := HNN.out; omega)).mono ?_
      rintro e w10 ⟨rfl, hk10⟩
      have hBW := batch_whole HRJ.out HBAD.out (by rw [← HHE.out]; exact HG.out)
      rw [← HHE.out] at hBW
      have hK10 : Keeps w w10 (fun _ => False) := ((HK8.out.trans HKR.out).trans hk9).trans hk10
      have hbr10 := hk10.blk (hk9.blk (HKR.out.blk HBRR.out id) id) id
      have hbh10 := hk10.blk (hk9.blk HBHR.out id) id
      have ho10 := (HO14.out.new hk9).new hk10
      by_cases heq : ss = sectorsP hh.seq hh.kind bs
      · as_aux_lemma =>
        have hdb : decide (ss = sectorsP hh.seq hh.kind bs) = true := decide_eq_true heq
        rw [hdb]
        rw [if_pos heq] at hBW
        have HBW := Lib.hid hBW
        have HO10 := Lib.hid ho10
        have HK10 := Lib.hid hK10
        have HBR10 := Lib.hid hbr10
        have HBH10 := Lib.hid hbh10
        have hsh : ∃ aa cc, u14 = .slice aa bs.length cc := by
          obtain ⟨aa, cc, e9, _⟩ := isOwn.rd ho10
          exact ⟨aa, cc, by rw [e9, octs_len]⟩
        obtain ⟨aa, cc, rfl⟩ := hsh
        clear hBW ho10 hK10 hbr10 hbh10 heq hdb ho9 hk9 hk10 q0' q4' q0 q2 q4
        go_wp2_with fail
        have HS : (fun (w' : World) => w'.cell? ⟨bh, 0, none⟩ = some (.int .u64 hh.seq) ∧ w'.cell? ⟨bh, 2, none⟩ = some (.int .i64 hh.many) ∧ w'.cell? ⟨bh, 4, none⟩ = some (.int .i64 hh.kind)) w10.drew :=
          ⟨by show w10.cell? _ = _; rw [cell_of_block HBH10.out]; rfl, by show w10.cell? _ = _; rw [cell_of_block HBH10.out]; rfl, by show w10.cell? _ = _; rw [cell_of_block HBH10.out]; rfl⟩
        refine wp_region_held_drew (S := (fun (w' : World) => w'.cell? ⟨bh, 0, none⟩ = some (.int .u64 hh.seq) ∧ w'.cell? ⟨bh, 2, none⟩ = some (.int .i64 hh.many) ∧ w'.cell? ⟨bh, 4, none⟩ = some (.int .i64 hh.kind))) (by kernel_rfl) HS (fun _ => ?_)
        first
          | (refine rg_skip 0 rfl (by kernel_rfl) (by kernel_rfl) (by kernel_rfl) (fun _ _ _ h => h) HS ?_ ?_; rfl)
          | (refine rg_take 0 (v := ?_) rfl (by kernel_rfl) (by kernel_rfl) (by kernel_rfl) (fun _ _ _ h => h) HS ?_ ?_ ?_; rotate_left; rfl; focus (intro w hSw; (try dsimp only at hSw); go_simp; all_goals (with_reducible rfl)))
        simp only [Act.put, List.setIfInBounds_toArray, List.set_cons_succ, List.set_cons_zero]
        first
          | (refine rg_skip 1 rfl (by kernel_rfl) (by kernel_rfl) (by kernel_rfl) (fun _ _ _ h => h) HS ?_ ?_; rfl)
          | (refine rg_take 1 (v := ?_) rfl (by kernel_rfl) (by kernel_rfl) (by kernel_rfl) (fun _ _ _ h => h) HS ?_ ?_ ?_; rotate_left; rfl; focus (intro w hSw; (try dsimp only at hSw); go_simp; all_goals (with_reducible rfl)))
        simp only [Act.put, List.setIfInBounds_toArray, List.set_cons_succ, List.set_cons_zero]
        first
          | (refine rg_skip 2 rfl (by kernel_rfl) (by kernel_rfl) (by kernel_rfl) (fun _ _ _ h => h) HS ?_ ?_; rfl)
          | (refine rg_take 2 (v := ?_) rfl (by kernel_rfl) (by kernel_rfl) (by kernel_rfl) (fun _ _ _ h => h) HS ?_ ?_ ?_; rotate_left; rfl; focus (intro w hSw; (try dsimp only at hSw); go_simp; all_goals (with_reducible rfl)))
        simp only [Act.put, List.setIfInBounds_toArray, List.set_cons_succ, List.set_cons_zero]
        first
          | (refine rg_skip 3 rfl (by kernel_rfl) (by kernel_rfl) (by kernel_rfl) (fun _ _ _ h => h) HS ?_ ?_; rfl)
          | (refine rg_take 3 (v := ?_) rfl (by kernel_rfl) (by kernel_rfl) (by kernel_rfl) (fun _ _ _ h => h) HS ?_ ?_ ?_; rotate_left; rfl; focus (intro w hSw; (try dsimp only at hSw); go_simp; all_goals (with_reducible rfl)))
        simp only [Act.put, List.setIfInBounds_toArray, List.set_cons_succ, List.set_cons_zero]
        first
          | (refine rg_skip 4 rfl (by kernel_rfl) (by kernel_rfl) (by kernel_rfl) (fun _ _ _ h => h) HS ?_ ?_; rfl)
          | (refine rg_take 4 (v := ?_) rfl (by kernel_rfl) (by kernel_rfl) (by kernel_rfl) (fun _ _ _ h => h) HS ?_ ?_ ?_; rotate_left; rfl; focus (intro w hSw; (try dsimp only at hSw); go_simp; all_goals (with_reducible rfl)))
        simp only [Act.put, List.setIfInBounds_toArray, List.set_cons_succ, List.set_cons_zero]
        first
          | (refine rg_skip 5 rfl (by kernel_rfl) (by kernel_rfl) (by kernel_rfl) (fun _ _ _ h => h) HS ?_ ?_; rfl)
          | (refine rg_take 5 (v := ?_) rfl (by kernel_rfl) (by kernel_rfl) (by kernel_rfl) (fun _ _ _ h => h) HS ?_ ?_ ?_; rotate_left; rfl; focus (intro w hSw; (try dsimp only at hSw); go_simp; all_goals (with_reducible rfl)))
        simp only [Act.put, List.setIfInBounds_toArray, List.set_cons_succ, List.set_cons_zero]
        first
          | (refine rg_skip 6 rfl (by kernel_rfl) (by kernel_rfl) (by kernel_rfl) (fun _ _ _ h => h) HS ?_ ?_; rfl)
          | (refine rg_take 6 (v := ?_) rfl (by kernel_rfl) (by kernel_rfl) (by kernel_rfl) (fun _ _ _ h => h) HS ?_ ?_ ?_; rotate_left; rfl; focus (intro w hSw; (try dsimp only at hSw); go_simp; all_goals (with_reducible rfl)))
        simp only [Act.put, List.setIfInBounds_toArray, List.set_cons_succ, List.set_cons_zero]
        refine ya_take 7 rfl (by kernel_rfl) (by kernel_rfl) (by kernel_rfl) (fun _ _ _ h => h) HS (yi_build rfl _ _ rfl [(0, .int .u64 hh.seq), (1, .int .i64 hh.kind), (2, .slice aa bs.length cc), (3, .int .i64 file), (4, .int .i64 p)] rfl (.agg (btA hh.seq hh.kind (.slice aa bs.length cc) file p)) (buildBt _ _ _ _ _ _ _)) ?_
        simp only [Act.put, List.setIfInBounds_toArray, List.set_cons_succ, List.set_cons_zero]
        first
          | (refine rg_skip 8 rfl (by kernel_rfl) (by kernel_rfl) (by kernel_rfl) (fun _ _ _ h => h) HS ?_ ?_; rfl)
          | (refine rg_take 8 (v := ?_) rfl (by kernel_rfl) (by kernel_rfl) (by kernel_rfl) (fun _ _ _ h => h) HS ?_ ?_ ?_; rotate_left; rfl; focus (intro w hSw; (try dsimp only at hSw); go_simp; all_goals (with_reducible rfl)))
        simp only [Act.put, List.setIfInBounds_toArray, List.set_cons_succ, List.set_cons_zero]
        first
          | (refine rg_skip 9 rfl (by kernel_rfl) (by kernel_rfl) (by kernel_rfl) (fun _ _ _ h => h) HS ?_ ?_; rfl)
          | (refine rg_take 9 (v := ?_) rfl (by kernel_rfl) (by kernel_rfl) (by kernel_rfl) (fun _ _ _ h => h) HS ?_ ?_ ?_; rotate_left; rfl; focus (intro w hSw; (try dsimp only at hSw); go_simp; all_goals (with_reducible rfl)))
        simp only [Act.put, List.setIfInBounds_toArray, List.set_cons_succ, List.set_cons_zero]
        have HBRd : w10.drew.heap[br]? = some (.cells btZ 94 (0, 0)) := HBR10.out
        have hne : bh ≠ br := fun e => by
          have h1 := HBH10.out
          have h2 := HBR10.out
          rw [e, h2] at h1
          simp only [Option.some.injEq, Obj.cells.injEq] at h1
          exact absurd h1.2.1 (by decide)
        refine rg_one 10 rfl (by kernel_rfl) (by rfl) ?_
        refine wp_store_agg 94 _ _ rfl br 0 rfl _ _ HBRd (btA hh.seq hh.kind (.slice aa bs.length cc) file p) rfl (btA hh.seq hh.kind (.slice aa bs.length cc) file p) (store_bt _ _ _ _ _ _ _ _ _ _) (le_bt _ _ _ _ _ _ _ _ _ _) (infoBt _ _ _ _ _) (btA_one rfl) ?_
        intro w12 HBR12 HK12
        have HBH12 : w12.heap[bh]? = some (.cells (hdA hh (longP s)) 172 (0, 0)) := HK12.blk (show w10.drew.heap[bh]? = _ from HBH10.out) hne
        have HS2 : (fun (w' : World) => w'.cell? ⟨bh, 0, none⟩ = some (.int .u64 hh.seq) ∧ w'.cell? ⟨bh, 2, none⟩ = some (.int .i64 hh.many) ∧ w'.cell? ⟨bh, 4, none⟩ = some (.int .i64 hh.kind)) w12 :=
          ⟨by show w12.cell? _ = _; rw [cell_of_block HBH12]; rfl, by show w12.cell? _ = _; rw [cell_of_block HBH12]; rfl, by show w12.cell? _ = _; rw [cell_of_block HBH12]; rfl⟩
        refine ⟨HS2, ?_⟩
        simp only [Act.put, List.setIfInBounds_toArray, List.set_cons_succ, List.set_cons_zero]
        first
          | (refine rg_skip 11 rfl (by kernel_rfl) (by kernel_rfl) (by kernel_rfl) (fun _ _ _ h => h) HS2 ?_ ?_; rfl)
          | (refine rg_take 11 (v := ?_) rfl (by kernel_rfl) (by kernel_rfl) (by kernel_rfl) (fun _ _ _ h => h) HS2 ?_ ?_ ?_; rotate_left; rfl; focus (intro w hSw; (try dsimp only at hSw); go_simp; all_goals (with_reducible rfl)))
        simp only [Act.put, List.setIfInBounds_toArray, List.set_cons_succ, List.set_cons_zero]
        first
          | (refine rg_skip 12 rfl (by kernel_rfl) (by kernel_rfl) (by kernel_rfl) (fun _ _ _ h => h) HS2 ?_ ?_; rfl)
          | (refine rg_take 12 (v := ?_) rfl (by kernel_rfl) (by kernel_rfl) (by kernel_rfl) (fun _ _ _ h => h) HS2 ?_ ?_ ?_; rotate_left; rfl; focus (intro w hSw; (try dsimp only at hSw); go_simp; all_goals (with_reducible rfl)))
        simp only [Act.put, List.setIfInBounds_toArray, List.set_cons_succ, List.set_cons_zero]
        refine wpAnyH_done (by kernel_rfl) ?_ _
        go_wp2_with fail
        have ho12 : isOwn w12 w8.heap.size 5 (.slice aa bs.length cc) (octs bs) := (isOwn.new HO10.out (Keeps.refl w10 _).drew).kept HK12 (fun g hg e => own_tyJ HO10.out HBR10.out (by decide) (by rw [hg]; exact congrArg some e))
        refine bodyPost_ret (v := .tuple #[.agg (btA hh.seq hh.kind (.slice aa bs.length cc) file p), .int .i64 hh.many, .int .i64 0]) ?_ rfl ?_
        · exact results_three rfl _ _ br _ _ _ _ _ rfl rfl rfl HBR12 _ Try.underlying94 rfl (infoBt _ _ _ _ _)
        · rw [HBW.out]
          refine ⟨.slice aa bs.length cc, by simp, isOwn.low ho12 HK8.out.size, HK10.out.drew.then HK12 (fun i hi e => absurd hbr (by rw [← show i = br from e]; exact Nat.not_le.2 hi))⟩
      · as_aux_lemma =>
        have hdb : decide (ss = sectorsP hh.seq hh.kind bs) = false := decide_eq_false heq
        rw [hdb]
        rw [if_neg heq] at hBW
        have HBW := Lib.hid hBW
        clear hBW ho10 heq hdb ho9 hk9 hk10 q0' q4' q0 q2 q4 hbh10
        go_wp2_with (first
          | ((with_reducible refine gd_build 94 ?_); refine wl_build0 rfl _ rfl _ buildBt0 ?_)
          | ((with_reducible refine gd_store 94 ?_); refine wl_store_agg rfl _ _ _ rfl br _ rfl _ _ hbr10 btZ rfl btZ (store_bt _ _ _ _ _ _ _ _ _ _) (le_bt _ _ _ _ _ _ _ _ _ _) (infoBt _ _ _ _ _) (btA_one rfl) ?_; intro w12 HBR12 HK12)
          | fail)
        refine bodyPost_ret (v := .tuple #[.agg btZ, .int .i64 0, .int .i64 1]) ?_ rfl ?_
        · exact results_three rfl _ _ br _ _ _ _ _ rfl rfl rfl HBR12 _ Try.underlying94 rfl (infoBt _ _ _ _ _)
        · exact batch_post_bad HBW.out (by decide) (hK10.then HK12 (fun i hi e => absurd hbr (by rw [← show i = br from e]; exact Nat.not_le.2 hi)))
/-- batch. -/
theorem jbatch_calls (w : World) (h : DH) (D : Dv) (file p : Nat) (hd : isDev w h D) (hp : p ≤ 1000000) :
    Calls Try.prog 99 #[.pointer (some ⟨h.p, 0, none⟩), .int .i64 file, .int .i64 p] w (BatchPost w (batchR (readJ D file) p) file p) := by
  by_cases h1 : (readJ D file p).2 ≠ 0 ∨ headBad (headP (readJ D file p).1)
  · exact batch_bad w h D file p hd h1
  · exact batch_head w h D file p hd hp (s := (readJ D file p).1) (Prod.ext rfl (Classical.not_not.1 (fun h2 => h1 (.inl h2)))) (fun h2 => h1 (.inr h2))
end Go.Proofs.Ytadjcdfmppcpnaa

namespace Go.Proofs.Ytadjcdfmppcpnaa
open Go Go.RowKit Go.Maps Wb

theorem info_intJ : (Try.prog.info? 3).map (fun i => (i.zero, i.size, i.bytes)) = some (some (.int .i64 0), 1, 8) := by kernel_rfl
def natV (l : List Nat) : List Value := l.map fun (k : Nat) => Value.int .i64 k
theorem natV_len (l : List Nat) : (natV l).length = l.length := by simp [natV]
theorem natV_at {l : List Nat} {j k : Nat} (h : l[j]? = some k) : (natV l)[j]? = some (.int .i64 k) := by simp [natV, h]
def fUp (ns : List Nm) (q : Nat) : List Nat := ((ns.take q).map numOf).filter fun n => decide (0 < n)
theorem fUp_all (D : Dv) : fUp D.names D.names.length = filesP D := by unfold fUp filesP; rw [List.take_length]
theorem fUp_len (ns : List Nm) (q : Nat) : (fUp ns q).length ≤ q := by
  unfold fUp
  refine Nat.le_trans (List.length_filter_le _ _) ?_
  rw [List.length_map, List.length_take]; omega
theorem fUp_succ {ns : List Nm} {q : Nat} {n : Nm} (h : ns[q]? = some n) : fUp ns (q + 1) = fUp ns q ++ if 0 < numOf n then [numOf n] else [] := by
  unfold fUp
  rw [List.take_add_one, h]
  simp only [Option.toList_some, List.map_append, List.map_cons, List.map_nil, List.filter_append]
  congr 1
  by_cases h0 : 0 < numOf n <;> simp [h0]
theorem numOf_le (m : Nm) : numOf m ≤ 999999 := by
  unfold numOf
  split
  · omega
  · split
    · rename_i h
      have := decVal_lt h.2.2
      rw [h.2.1] at this
      omega
    · omega

set_option maxRecDepth 100000 in
set_option maxHeartbeats 4000000 in
theorem jfiles_calls (w : World) (h : DH) (D : Dv) (hd : isDev w h D) (hl : D.files.length ≤ 1000000) :
    Calls Try.prog 95 #[.pointer (some ⟨h.p, 0, none⟩)] w fun e w' => ∃ v, e = .returned v ∧ isOwn w' w.heap.size 3 v (natV (filesP D)) ∧ Keeps w w' (fun _ => False) := by
  have hnl : D.names.length ≤ 1000000 := by simpa [Dv.names] using hl
  have hni : (D.names.length : Int) ≤ 1000000 := by omega
  have HNM : Hid (∀ n ∈ D.names, n.length ≤ 1000000) := Lib.hid fun n hn => by
    obtain ⟨a, ha, rfl⟩ := List.mem_map.1 hn
    have := hd.wf.nm a ha
    omega
  go_enter Try.func95, Try.ntmps95
  go_wp2_with fail
  refine (names_calls _ h D hd hl).mono ?_
  rintro e w1 ⟨nv, rfl, hnv, hk1⟩
  obtain ⟨na, ncap, rfl, hstr⟩ := hnv
  have HST : Hid (∀ (q : Nat) n, D.names[q]? = some n → ∃ g, na = some ⟨g, 0, none⟩ ∧ g < w1.heap.size ∧ w1.cell? ⟨g, q, none⟩ = some (.string (bs n))) := Lib.hid fun q n hn => by
    rcases hstr with h0 | ⟨g, e, _, h2, h3⟩
    · rw [h0] at hn; cases hn
    · exact ⟨g, e, h2, h3 q n hn⟩
  have HK1 := Lib.hid hk1
  clear hstr hk1 hd hl
  go_wp2_with fail
  go_loopw [3, 10] (fun v3 i wr => ∃ q : Nat, q ≤ D.names.length ∧ i = .int .i64 q ∧ Hid (isOwn wr w1.heap.size 3 v3 (natV (fUp D.names q)) ∧ Keeps w1 wr (fun _ => False))) (fun _ i _ => D.names.length - (intOf i).toNat)
  case atStart => exact ⟨0, Nat.zero_le _, rfl, Lib.hid ⟨isOwn_nil _ _ _, Keeps.refl _ _⟩⟩
  case round =>
    obtain ⟨q, hq, rfl, hrel⟩ := hrel
    have hq0 : (0 : Int) ≤ q := by omega
    by_cases hlt : q < D.names.length
    · as_aux_lemma =>
      have hlb : decide ((q : Int) < (D.names.length : Int)) = true := by simp; omega
      have hqi : (q : Int) < D.names.length := by omega
      obtain ⟨n, hn⟩ : ∃ n, D.names[q]? = some n := ⟨_, List.getElem?_eq_getElem hlt⟩
      obtain ⟨g, rfl, hgl, hgc⟩ := HST.out q n hn
      obtain ⟨ho, hkr⟩ := hrel.out
      have hgr : wr.cell? ⟨g, q, none⟩ = some (.string (bs n)) := Keeps.cellK hkr hgc
      have HSU := Lib.hid (fUp_succ hn)
      have HNL := Lib.hid (HNM.out n (List.mem_of_getElem? hn))
      have HO := Lib.hid ho
      have HKR := Lib.hid hkr
      have HLT := Lib.hid hlt
      have hfl := fUp_len D.names q
      have hx1 : (natV (fUp D.names q)).length + 1 ≤ maxLen := by rw [natV_len]; unfold maxLen; omega
      have hx2 : ((natV (fUp D.names q)).length + 1) * 8 ≤ 140737488355328 := by rw [natV_len]; omega
      have hm9 := numOf_le n
      clear hn ho hkr hrel hgc hlt hfl
      go_wp2_with fail
      refine (jnum_calls _ n HNL.out).mono ?_
      rintro e w2 ⟨rfl, rfl⟩
      obtain ⟨m, hm⟩ : ∃ m, m = numOf n := ⟨_, rfl⟩
      rw [← hm]
      have hm9' : (m : Int) ≤ 999999 := by omega
      have HSU2 : Hid (fUp D.names (q + 1) = fUp D.names q ++ if 0 < m then [m] else []) := Lib.hid (by rw [HSU.out, hm])
      clear hm hm9
      by_cases h0 : 0 < m
      · as_aux_lemma =>
        have h0b : decide ((0 : Int) < (m : Int)) = true := by simp; omega
        have h0c : decide (0 < m) = true := decide_eq_true h0
        have HE : Hid (natV (fUp D.names (q + 1)) = natV (fUp D.names q) ++ [.int .i64 m]) := Lib.hid (by rw [HSU2.out, if_pos h0]; simp [natV])
        clear h0
        go_wp2_with (first
          | ((refine wl_slice1 rfl _ _ rfl 3 _ 8 Try.underlying22 info_intJ rfl (.int .i64 m) rfl rfl ?_); intro bb w3 hbb HB3 HK3)
          | (at_builtin; go_loud (refine wl_appendN rfl _ _ 22 rfl 3 _ 8 Try.underlying22 info_intJ rfl w1.heap.size u3 (natV (fUp D.names q)) rfl (HO.out.new HK3) _ [.int .i64 m] rfl (isVals_one (ok := fun _ => True) HB3 trivial).rd (fun _ h => by cases h) (by simp; rfl) hx1 hx2 (Nat.le_trans HKR.out.size HK3.size) ?_); intro v' w4 hap)
          | fail)
        have HREL : Hid (isOwn w4 w1.heap.size 3 v' (natV (fUp D.names (q + 1))) ∧ Keeps w1 w4 (fun _ => False)) := Lib.hid ⟨by rw [HE.out]; exact hap.1, (HKR.out.trans HK3).then hap.2.1 (fun i hi e => absurd (HO.out.blk i e).1 (Nat.not_le.2 hi))⟩
        clear hap HB3 HK3 hbb
        go_roundw
        case rel => exact ⟨q + 1, HLT.out, by go_num, HREL⟩
        case measure => have := HLT.out; simp [intOf]; omega
      · as_aux_lemma =>
        have h0b : decide ((0 : Int) < (m : Int)) = false := by simp; omega
        have h0c : decide (0 < m) = false := decide_eq_false h0
        have HE : Hid (fUp D.names (q + 1) = fUp D.names q) := Lib.hid (by rw [HSU2.out, if_neg h0, List.append_nil])
        clear h0
        go_wp2_with fail
        go_roundw
        case rel => exact ⟨q + 1, HLT.out, by go_num, Lib.hid ⟨by rw [HE.out]; exact HO.out, HKR.out⟩⟩
        case measure => have := HLT.out; simp [intOf]; omega
    · as_aux_lemma =>
      obtain rfl : q = D.names.length := by omega
      have hlb : decide ((D.names.length : Int) < (D.names.length : Int)) = false := by simp
      have HE := Lib.hid (fUp_all D)
      go_wp2_with fail
      go_ret
      exact ⟨_, rfl, by rw [← HE.out]; exact isOwn.low hrel.out.1 HK1.out.size, HK1.out.trans hrel.out.2⟩
set_option maxRecDepth 100000 in
theorem follows_calls (w : World) (s k last : Nat) (bv : Value) (f p : Nat) (hb : bv.oneCell' = true) (hs : s < 2 ^ 64) (hl : last < 2 ^ 64) :
    Calls Try.prog 100 #[.agg (btA s k bv f p), .int .u64 last] w (Quiet w (.bool (followsP s k last))) := by
  have hs0 : (0 : Int) ≤ s := by omega
  have hl0 : (0 : Int) ≤ last := by omega
  by_cases h1 : s ≤ last
  · have h1b : decide (s ≤ last) = true := decide_eq_true h1
    have h1c : decide ((s : Int) ≤ (last : Int)) = true := by simp; omega
    have hF : followsP s k last = false := by unfold followsP; simp; intro h; omega
    rw [hF]
    go_enter Try.func100, Try.ntmps100
    go_wp2_with (first
      | ((with_reducible refine gd_box 94 ?_); refine wl_box_agg rfl _ _ rfl (btA s k bv f p) rfl ?_; intro b1 w1 hb1 HB1 HK1; have c0 : w1.cell? ⟨b1, 0, none⟩ = some (.int .u64 s) := (by rw [cell_of_block HB1]; rfl); have c1 : w1.cell? ⟨b1, 1, none⟩ = some (.int .i64 k) := (by rw [cell_of_block HB1]; rfl))
      | fail)
    go_ret
    exact ⟨rfl, HK1⟩
  · have h1b : decide (s ≤ last) = false := decide_eq_false h1
    have h1c : decide ((s : Int) ≤ (last : Int)) = false := by simp; omega
    have hw : IntKind.u64.wrap ((s : Int) - last) = ((s - last : Nat) : Int) := by rw [wrap_u64]; omega
    obtain ⟨d, hd⟩ : ∃ d, d = s - last := ⟨_, rfl⟩
    rw [← hd] at hw
    have hF : followsP s k last = (decide (last = 0) || decide (k = 2) || decide (d = 1)) := by unfold followsP; rw [hd]; simp; intro h; omega
    have hcase : (((last : Int) == 0) = true ∧ followsP s k last = true) ∨ (((last : Int) == 0) = false ∧ ((k : Int) == 2) = true ∧ followsP s k last = true) ∨ (((last : Int) == 0) = false ∧ ((k : Int) == 2) = false ∧ ((d : Int) == 1) = true ∧ followsP s k last = true) ∨ (((last : Int) == 0) = false ∧ ((k : Int) == 2) = false ∧ ((d : Int) == 1) = false ∧ followsP s k last = false) := by
      rw [hF]
      by_cases e1 : last = 0
      · left; simp [e1]
      · by_cases e2 : k = 2
        · right; left; simp [e1, e2]
        · by_cases e3 : d = 1
          · right; right; left; simp [e1, e2, e3]; omega
          · right; right; right; simp [e1, e2, e3]; omega
    clear hd h1 hF
    rcases hcase with ⟨g1, hF⟩ | ⟨g1, g2, hF⟩ | ⟨g1, g2, g3, hF⟩ | ⟨g1, g2, g3, hF⟩
    all_goals
      rw [hF]
      clear hF
      go_enter Try.func100, Try.ntmps100
      go_wp2_with (first
        | ((with_reducible refine gd_box 94 ?_); refine wl_box_agg rfl _ _ rfl (btA s k bv f p) rfl ?_; intro b1 w1 hb1 HB1 HK1; have c0 : w1.cell? ⟨b1, 0, none⟩ = some (.int .u64 s) := (by rw [cell_of_block HB1]; rfl); have c1 : w1.cell? ⟨b1, 1, none⟩ = some (.int .i64 k) := (by rw [cell_of_block HB1]; rfl))
        | fail)
      go_ret
      exact ⟨rfl, HK1⟩
end Go.Proofs.Ytadjcdfmppcpnaa
