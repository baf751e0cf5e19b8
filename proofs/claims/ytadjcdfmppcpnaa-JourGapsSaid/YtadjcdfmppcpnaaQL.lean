/- Lemmas and contracts of functions, joined. -/
import Derived.Test.YtadjcdfmppcpnaaQK
import Derived.Test.YtadjcdfmppcpnaaGd
import Derived.Test.YtadjcdfmppcpnaaQP
import Derived.Test.YtadjcdfmppcpnaaQG
namespace Wb
open Go
theorem batch_seq (rd : Nat → Sec × Int) (p : Nat) : (batchR rd p).seq < 2 ^ 64 ∧ (batchR rd p).kind < 256 := by
  unfold batchR
  split
  · exact ⟨(by show (0 : Nat) < 2 ^ 64; decide), (by show (0 : Nat) < 256; decide)⟩
  · split
    · exact ⟨(by show (0 : Nat) < 2 ^ 64; decide), (by show (0 : Nat) < 256; decide)⟩
    · split
      · exact ⟨(by show (0 : Nat) < 2 ^ 64; decide), (by show (0 : Nat) < 256; decide)⟩
      · split
        · refine ⟨num_lt _, ?_⟩
          show num _ < 256
          have : ∀ l : List UInt8, l.length ≤ 1 → num l < 256 := fun l hl => by
            match l, hl with
            | [], _ => simp [num]
            | [a], _ => have := a.toNat_lt; simp [num]; omega
          exact this _ (by rw [List.length_take]; omega)
        · exact ⟨(by show (0 : Nat) < 2 ^ 64; decide), (by show (0 : Nat) < 256; decide)⟩
/-- Enough rounds are enough. -/
theorem scanF_fuel {D : Dv} {f : Nat} : ∀ (n m p : Nat) (acc : Nat × List Bt), D.len (nmOf f) + 1 ≤ n + p → D.len (nmOf f) + 1 ≤ m + p → scanF (readJ D f) f n p acc = scanF (readJ D f) f m p acc
  | 0, 0, p, acc, _, _ => rfl
  | 0, m + 1, p, acc, h, _ => by
    rw [scanF, scanF, if_neg]
    rintro ⟨h1, _⟩
    have := batch_in h1
    have := (batch_err h1).1
    omega
  | n + 1, 0, p, acc, _, h => by
    rw [scanF, scanF, if_neg]
    rintro ⟨h1, _⟩
    have := batch_in h1
    have := (batch_err h1).1
    omega
  | n + 1, m + 1, p, acc, h1, h2 => by
    rw [scanF, scanF]
    by_cases h : (batchR (readJ D f) p).err = 0 ∧ followsP (batchR (readJ D f) p).seq (batchR (readJ D f) p).kind acc.1 = true
    · rw [if_pos h, if_pos h]
      have := (batch_err h.1).1
      exact scanF_fuel n m _ _ (by omega) (by omega)
    · rw [if_neg h, if_neg h]
/-- What is still to be told of a file. -/
def scanRest (D : Dv) (f p : Nat) (acc : Nat × List Bt) : Nat × List Bt := scanF (readJ D f) f (D.len (nmOf f) + 1) p acc
theorem scanRest_stop {D : Dv} {f p : Nat} {acc : Nat × List Bt} (h : ¬ ((batchR (readJ D f) p).err = 0 ∧ followsP (batchR (readJ D f) p).seq (batchR (readJ D f) p).kind acc.1 = true)) : scanRest D f p acc = acc := by
  unfold scanRest
  rw [scanF, if_neg h]
theorem scanRest_go {D : Dv} {f p : Nat} {acc : Nat × List Bt} (h : (batchR (readJ D f) p).err = 0 ∧ followsP (batchR (readJ D f) p).seq (batchR (readJ D f) p).kind acc.1 = true) :
    scanRest D f p acc = scanRest D f (p + (batchR (readJ D f) p).many) ((batchR (readJ D f) p).seq, acc.2 ++ [⟨(batchR (readJ D f) p).seq, (batchR (readJ D f) p).kind, (batchR (readJ D f) p).b, f, p⟩]) := by
  unfold scanRest
  rw [scanF, if_pos h]
  have := (batch_err h.1).1
  exact scanF_fuel _ _ _ _ (by omega) (by omega)
end Wb
namespace Go.Proofs.Ytadjcdfmppcpnaa
open Go Go.RowKit Go.Maps Wb

theorem info_bt : (Try.prog.info? 94).map (fun i => (i.zero, i.size, i.bytes)) = some (some (.agg btZ), 5, 56) := by kernel_rfl
def btRows (l : List Bt) (bvs : List Value) : List (Array Value) := List.zipWith (fun t bv => btA t.seq t.kind bv t.file t.pos) l bvs
/-- Batches in memory. -/
def isBts (w : World) (lo : Nat) (v : Value) (l : List Bt) : Prop :=
  ∃ bvs : List Value, bvs.length = l.length ∧ isOwnA w lo 94 5 v (btRows l bvs) ∧ ∀ (j : Nat) t bv, l[j]? = some t → bvs[j]? = some bv → isOwn w lo 5 bv (octs t.b)
theorem btRows_len {l : List Bt} {bvs : List Value} (h : bvs.length = l.length) : (btRows l bvs).length = l.length := by simp [btRows, h]
theorem isBts_nil (w : World) (lo : Nat) : isBts w lo (.slice none 0 0) [] := ⟨[], rfl, isOwnA_nil _ _ _ _, fun j t bv h => by cases h⟩
theorem isBts.kept {w w' : World} {lo : Nat} {v : Value} {l : List Bt} {S : Nat → Prop} (h : isBts w lo v l) (hk : Keeps w w' S) (hS : ∀ g, lo ≤ g → g < w.heap.size → ¬ S g) : isBts w' lo v l := by
  obtain ⟨bvs, h1, h2, h3⟩ := h
  exact ⟨bvs, h1, h2.kept hk (fun g hg => hS g (h2.blk g hg).1 (h2.blk g hg).2), fun j t bv ht hb => (h3 j t bv ht hb).kept hk (fun g hg => hS g ((h3 j t bv ht hb).blk g hg).1 ((h3 j t bv ht hb).blk g hg).2)⟩
theorem isBts.new {w w' : World} {lo : Nat} {v : Value} {l : List Bt} (h : isBts w lo v l) (hk : Keeps w w' (fun _ => False)) : isBts w' lo v l := h.kept hk (fun _ _ _ h => h)
theorem isBts.low {w : World} {lo lo' : Nat} {v : Value} {l : List Bt} (h : isBts w lo v l) (hl : lo' ≤ lo) : isBts w lo' v l := by
  obtain ⟨bvs, h1, h2, h3⟩ := h
  exact ⟨bvs, h1, h2.low hl, fun j t bv ht hb => (h3 j t bv ht hb).low hl⟩
theorem isBts_app {w w' : World} {lo : Nat} {v v' bv : Value} {l : List Bt} {bvs : List Value} {t : Bt} (h1 : bvs.length = l.length) (h2 : isOwnA w lo 94 5 v (btRows l bvs)) (h3 : ∀ (j : Nat) t bv, l[j]? = some t → bvs[j]? = some bv → isOwn w lo 5 bv (octs t.b)) (hbv : isOwn w lo 5 bv (octs t.b))
    (ha : AppendedA w lo 94 5 v (btRows l bvs ++ [btA t.seq t.kind bv t.file t.pos]) v' w') : isBts w' lo v' (l ++ [t]) := by
  have e : btRows (l ++ [t]) (bvs ++ [bv]) = btRows l bvs ++ [btA t.seq t.kind bv t.file t.pos] := by
    unfold btRows
    rw [List.zipWith_append h1.symm]
    rfl
  refine ⟨bvs ++ [bv], by simp [h1], by rw [e]; exact ha.1, fun j t' bv' ht hb => ?_⟩
  have key : isOwn w lo 5 bv' (octs t'.b) := by
    rcases Nat.lt_or_ge j l.length with hj | hj
    · rw [List.getElem?_append_left hj] at ht
      rw [List.getElem?_append_left (by omega)] at hb
      exact h3 j t' bv' ht hb
    · have hl := (List.getElem?_eq_some_iff.1 ht).1
      rw [List.getElem?_append_right hj] at ht
      rw [List.getElem?_append_right (by omega)] at hb
      have h0 : j - l.length = 0 := by simp at hl; omega
      rw [h0] at ht
      rw [show j - bvs.length = 0 by omega] at hb
      simp at ht hb
      subst ht hb
      exact hbv
  exact key.kept ha.2.1 (fun g hg e => own_neA h2 key (by decide) g hg e)
theorem own_one1 {w : World} {lo : Nat} {ty : TypeId} {v : Value} {vs : List Value} (h : isOwn w lo ty v vs) : v.oneCell' = true := by
  rcases h.2 with ⟨rfl, _⟩ | ⟨g, cap, cur, rfl, _⟩ <;> rfl
def ScanRel (w1 : World) (N : Nat) (v3 : Value) (acc : Nat × List Bt) (v4 : Value) (wr : World) : Prop := v4 = .int .u64 acc.1 ∧ (acc.1 < 2 ^ 64 ∧ acc.2.length ≤ N) ∧ isBts wr w1.heap.size v3 acc.2 ∧ Keeps w1 wr (fun _ => False)

set_option maxRecDepth 100000 in
set_option maxHeartbeats 8000000 in
theorem scan_calls (w : World) (h : DH) (D : Dv) (hd : isDev w h D) (hl : D.files.length ≤ 1000000) :
    Calls Try.prog 65 #[.pointer (some ⟨h.p, 0, none⟩)] w fun e w' => ∃ v, e = .returned v ∧ isBts w' w.heap.size v (scanP D) ∧ Keeps w w' (fun _ => False) := by
  have hfl : (filesP D).length ≤ 1000000 := by
    rw [← fUp_all]
    have := fUp_len D.names D.names.length
    have h2 : D.names.length ≤ 1000000 := by simpa [Dv.names] using hl
    omega
  have hfi : ((filesP D).length : Int) ≤ 1000000 := by omega
  go_enter Try.func65, Try.ntmps65
  go_wp2_with fail
  refine (jfiles_calls _ h D hd hl).mono ?_
  rintro e w1 ⟨fv, rfl, hfo, hk1⟩
  have HFO := Lib.hid hfo
  have HK1 := Lib.hid hk1
  have HD1 := Lib.hid (hd.new hk1)
  obtain ⟨fa, fc, rfl, _⟩ := isOwn.rd hfo
  rw [natV_len] at HFO ⊢
  clear hfo hk1 hd hl
  go_wp2_with fail
  go_loopw [3, 4, 14] (fun v3 v4 i wr => ∃ q : Nat, q ≤ (filesP D).length ∧ i = .int .i64 q ∧ Hid (ScanRel w1 (100000 * q) v3 (scanUp D q) v4 wr)) (fun _ _ i _ => (filesP D).length - (intOf i).toNat)
  case atStart => exact ⟨0, Nat.zero_le _, rfl, Lib.hid ⟨rfl, ⟨(by show (0 : Nat) < 2 ^ 64; decide), Nat.zero_le _⟩, isBts_nil _ _, Keeps.refl _ _⟩⟩
  case round =>
    obtain ⟨q, hq, rfl, hrel⟩ := hrel
    have hq0 : (0 : Int) ≤ q := by omega
    by_cases hlt : q < (filesP D).length
    · as_aux_lemma =>
      have hlb : decide ((q : Int) < ((filesP D).length : Int)) = true := by simp; omega
      have hqi : (q : Int) < (filesP D).length := by omega
      obtain ⟨f, hf⟩ : ∃ f, (filesP D)[q]? = some f := ⟨_, List.getElem?_eq_getElem hlt⟩
      obtain ⟨fg, cap', he, _, _, hfg, hfc⟩ := isOwn.at HFO.out (natV_at hf)
      simp only [Value.slice.injEq] at he
      obtain ⟨rfl, h81, rfl⟩ := he
      clear h81
      obtain ⟨e4, hs, hbts, hkr⟩ := hrel.out
      subst e4
      have hfcr : wr.cell? ⟨fg, q, none⟩ = some (.int .i64 f) := Keeps.cellK hkr hfc
      have HSU := Lib.hid (scanUp_succ hf)
      have HLT := Lib.hid hlt
      have HD2 := Lib.hid (HD1.out.new hkr)
      obtain ⟨len, hlen⟩ : ∃ len, len = D.len (nmOf f) := ⟨_, rfl⟩
      have hl9 : len ≤ 100000 := by rw [hlen]; exact len_small HD1.out.wf _
      have HLEN := Lib.hid hlen
      have HREL0 : Hid (∃ acc, scanUp D q = acc ∧ scanRest D f 0 acc = scanUp D (q + 1) ∧ ScanRel w1 (100000 * q) u3 acc (.int .u64 (scanUp D q).1) wr) := Lib.hid ⟨_, rfl, by rw [HSU.out]; rfl, by exact ⟨rfl, hs, hbts, hkr⟩⟩
      clear hrel hs hbts hkr hlen hlt hf hfc hfg
      obtain ⟨wo, hwo⟩ : ∃ wo : World, wo = wr := ⟨_, rfl⟩
      go_wp2_with fail
      go_loopw [3, 4, 7] (fun v3 v4 a wx => ∃ p acc, p ≤ len ∧ a = .int .i64 (p : Nat) ∧ Hid (scanRest D f p acc = scanUp D (q + 1) ∧ ScanRel w1 (100000 * q + p) v3 acc v4 wx)) (fun _ _ a _ => len + 1 - (intOf a).toNat)
      case atStart =>
        obtain ⟨acc, e1, e2, e3⟩ := HREL0.out
        exact ⟨0, acc, Nat.zero_le _, rfl, Lib.hid ⟨e2, e3⟩⟩
      case round =>
        clear HREL0
        obtain ⟨p, acc, hp, rfl, hin⟩ := hrel
        obtain ⟨hrest, e4, hs, hbts, hkr⟩ := hin.out
        subst e4
        have hp0 : (0 : Int) ≤ p := by omega
        have hpi : (p : Int) ≤ 100000 := by omega
        have hdx := HD1.out.new hkr
        have HIN := Lib.hid hbts
        have HKX := Lib.hid hkr
        have HS := Lib.hid hs
        have HREST := Lib.hid hrest
        obtain ⟨l1, l2⟩ := acc
        obtain ⟨sq, ksq⟩ := batch_seq (readJ D f) p
        clear hin hbts hkr hs hrest
        go_wp2_with fail
        refine (jbatch_calls _ h D f p hdx (by omega)).mono ?_
        rintro e w5 ⟨bv, he, hob, hk5⟩
        obtain ⟨r, hr⟩ : ∃ r, r = batchR (readJ D f) p := ⟨_, rfl⟩
        rw [← hr] at he hob sq ksq
        have HR := Lib.hid hr
        by_cases herr : r.err = 0
        · rw [if_pos herr, herr] at he
          subst he
          have o1 := own_one1 hob
          have hin := batch_in (D := D) (f := f) (p := p) (by rw [← hr]; exact herr)
          rw [← hr, ← HLEN.out] at hin
          have hmn := (batch_err (rd := readJ D f) (p := p) (by rw [← hr]; exact herr)).1
          rw [← hr] at hmn
          by_cases hfo : followsP r.seq r.kind l1 = true
          · as_aux_lemma =>
            have hgo := scanRest_go (D := D) (f := f) (p := p) (acc := (l1, l2)) (by rw [← hr]; exact ⟨herr, hfo⟩)
            rw [← hr, HREST.out] at hgo
            have HGO := Lib.hid hgo
            have HOB := Lib.hid hob
            have hmi : (r.many : Int) ≤ 100000 := by omega
            have hmi0 : (0 : Int) ≤ r.many := by omega
            clear hgo herr hr hob hdx
            go_wp2_with (first
              | ((with_reducible refine gd_alloc 94 ?_); refine wl_alloc_agg rfl _ rfl _ zeroBt ?_; intro b8 w6 hb8 HB8 HK6)
              | ((with_reducible refine gd_store 94 ?_); refine wl_store_agg rfl _ _ _ rfl b8 _ rfl _ _ HB8 (btA r.seq r.kind bv f p) rfl (btA r.seq r.kind bv f p) (store_bt _ _ _ _ _ _ _ _ _ _) (le_bt _ _ _ _ _ _ _ _ _ _) (infoBt _ _ _ _ _) (btA_one o1) ?_; intro w7 HB7 HK7)
              | ((with_reducible refine gd_loadW 94 ?_); refine wl_load_aggW (by rfl) _ _ rfl b8 _ rfl _ _ _ HB7 (btA r.seq r.kind bv f p) (extract_all _) _ Try.underlying94 rfl (infoBt _ _ _ _ _) ?_)
              | fail)
            refine (follows_calls _ r.seq r.kind l1 bv f p o1 sq HS.out.1).mono ?_
            rintro e w8 ⟨he8, hk8⟩
            rw [hfo] at he8
            subst he8
            have HB9 := hk8.blk HB7 id
            have hz : w1.heap.size ≤ b8 := Nat.le_trans HKX.out.size (Nat.le_trans hk5.size hb8)
            have k8 : Keeps wr w8 (fun i => i = b8) := ((hk5.mono (fun _ _ h => h.elim)).trans (HK6.mono (fun _ _ h => h.elim))).trans (HK7.trans (hk8.mono (fun _ _ h => h.elim)))
            have hnb : wr.heap.size ≤ b8 := Nat.le_trans hk5.size hb8
            obtain ⟨bvs, hb1, hb2, hb3⟩ := HIN.out.kept k8 (fun g hg1 hg2 e => by omega)
            have hbv : isOwn w8 w1.heap.size 5 bv (octs r.b) := (((HOB.out.new HK6).kept HK7 (fun g hg e => by
              have := (HOB.out.blk g hg).2
              have e' : g = b8 := e
              omega)).new hk8).low HKX.out.size
            have hll := btRows_len hb1
            have hx1 : (btRows l2 bvs).length + 1 ≤ maxLen := by rw [hll]; have : l2.length ≤ 100000 * q + p := HS.out.2; unfold maxLen; omega
            have hx2 : ((btRows l2 bvs).length + 1) * 56 ≤ 140737488355328 := by rw [hll]; have : l2.length ≤ 100000 * q + p := HS.out.2; omega
            have hz8 : w1.heap.size ≤ w8.heap.size := Nat.le_trans HKX.out.size k8.size
            have HBV := Lib.hid hbv
            have HB3 := Lib.hid hb3
            clear hk8 HB7 HK6 HK7 HB8 hb3 hbv
            go_wp2_with (first
              | ((with_reducible refine gd_load (dst := some 35) 94 ?_); refine wl_load_agg rfl _ _ rfl b8 _ rfl _ _ _ HB9 (btA r.seq r.kind bv f p) (extract_all _) _ Try.underlying94 rfl (infoBt _ _ _ _ _) ?_)
              | (refine wl_sliceA1 rfl _ _ rfl 94 _ 5 56 Try.underlying90 info_bt (by decide) (by decide) (btA r.seq r.kind bv f p) rfl rfl ?_; intro bb w9 hbb HBB HK9)
              | (at_builtin; go_loud (refine wl_appendA rfl _ _ 90 rfl 94 _ 5 56 Try.underlying90 info_bt rfl (by decide) w1.heap.size u3 (btRows l2 bvs) rfl (hb2.new HK9) bb (btA r.seq r.kind bv f p) rfl HBB rfl (btA_one o1) hx1 hx2 (Nat.le_trans hz8 HK9.size) ?_); intro v' w10 hap; have hne8 : u3.ownBlock ≠ some b8 := (fun e => by
                  rcases hb2.2.2 with ⟨e9, _⟩ | ⟨g9, c9, cu9, e9, h91, h92, _⟩
                  · rw [e9] at e; cases e
                  · have := (HIN.out)
                    obtain ⟨_, _, h99, _⟩ := this
                    have := (h99.blk b8 e).2
                    omega); have c0 : w10.cell? ⟨b8, 0, none⟩ = some (.int .u64 r.seq) := (by rw [cell_of_block (hap.2.1.blk (HK9.blk HB9 id) hne8)]; rfl))
              | fail)
            have HREL : Hid (scanRest D f (p + r.many) (r.seq, l2 ++ [⟨r.seq, r.kind, r.b, f, p⟩]) = scanUp D (q + 1) ∧ ScanRel w1 (100000 * q + (p + r.many)) v' (r.seq, l2 ++ [⟨r.seq, r.kind, r.b, f, p⟩]) (.int .u64 r.seq) w10) := by
              refine Lib.hid ⟨HGO.out.symm, rfl, ⟨sq, ?_⟩, isBts_app (t := ⟨r.seq, r.kind, r.b, f, p⟩) hb1 (hb2.new HK9) (fun j t bv' ht hb => (HB3.out j t bv' ht hb).new HK9) (HBV.out.new HK9) hap, ?_⟩
              · have : l2.length ≤ 100000 * q + p := HS.out.2
                show (l2 ++ [_]).length ≤ _
                rw [List.length_append, List.length_singleton]
                omega
              · exact ((HKX.out.then k8 (fun i hi e => absurd hz (by rw [← show i = b8 from e]; exact Nat.not_le.2 hi))).trans HK9).then hap.2.1 (fun i hi e => absurd (hb2.blk i e).1 (Nat.not_le.2 hi))
            clear hap HBB HK9 HB9 hbb hne8 k8
            go_roundw
            case rel => exact ⟨p + r.many, _, hin, by go_num, HREL⟩
            case measure => simp [intOf]; omega
          · as_aux_lemma =>
            have hfo' : followsP r.seq r.kind l1 = false := by simpa using hfo
            have hst := scanRest_stop (D := D) (f := f) (p := p) (acc := (l1, l2)) (by rw [← hr]; exact fun hh => hfo hh.2)
            rw [HREST.out] at hst
            have HST := Lib.hid hst
            clear hst herr hr hob hdx hfo
            go_wp2_with (first
              | ((with_reducible refine gd_alloc 94 ?_); refine wl_alloc_agg rfl _ rfl _ zeroBt ?_; intro b8 w6 hb8 HB8 HK6)
              | ((with_reducible refine gd_store 94 ?_); refine wl_store_agg rfl _ _ _ rfl b8 _ rfl _ _ HB8 (btA r.seq r.kind bv f p) rfl (btA r.seq r.kind bv f p) (store_bt _ _ _ _ _ _ _ _ _ _) (le_bt _ _ _ _ _ _ _ _ _ _) (infoBt _ _ _ _ _) (btA_one o1) ?_; intro w7 HB7 HK7)
              | ((with_reducible refine gd_loadW 94 ?_); refine wl_load_aggW (by rfl) _ _ rfl b8 _ rfl _ _ _ HB7 (btA r.seq r.kind bv f p) (extract_all _) _ Try.underlying94 rfl (infoBt _ _ _ _ _) ?_)
              | fail)
            refine (follows_calls _ r.seq r.kind l1 bv f p o1 sq HS.out.1).mono ?_
            rintro e w8 ⟨he8, hk8⟩
            rw [hfo'] at he8
            subst he8
            have hz : w1.heap.size ≤ b8 := Nat.le_trans HKX.out.size (Nat.le_trans hk5.size hb8)
            have k8 : Keeps wr w8 (fun i => i = b8) := ((hk5.mono (fun _ _ h => h.elim)).trans (HK6.mono (fun _ _ h => h.elim))).trans (HK7.trans (hk8.mono (fun _ _ h => h.elim)))
            have hnb : wr.heap.size ≤ b8 := Nat.le_trans hk5.size hb8
            have HREL : Hid (ScanRel w1 (100000 * (q + 1)) u3 (scanUp D (q + 1)) (.int .u64 l1) w8) := by
              rw [HST.out]
              exact Lib.hid ⟨rfl, ⟨HS.out.1, by have : l2.length ≤ 100000 * q + p := HS.out.2; show l2.length ≤ 100000 * (q + 1); omega⟩, HIN.out.kept k8 (fun g hg1 hg2 e => by omega), HKX.out.then k8 (fun i hi e => absurd hz (by rw [← show i = b8 from e]; exact Nat.not_le.2 hi))⟩
            clear hk8 HB7 HK6 HK7 HB8 k8
            go_wp2_with fail
            go_roundw
            case rel => exact ⟨q + 1, HLT.out, by go_num, HREL⟩
            case measure => have := HLT.out; simp [intOf]; omega
        · as_aux_lemma =>
          have herb : (r.err != 0) = true := by simpa using herr
          rw [if_neg herr] at he
          subst he
          have hst := scanRest_stop (D := D) (f := f) (p := p) (acc := (l1, l2)) (by rw [← hr]; exact fun hh => herr hh.1)
          rw [HREST.out] at hst
          have HST := Lib.hid hst
          clear hst hr hob hdx herr
          go_wp2_with (first
            | ((with_reducible refine gd_alloc 94 ?_); refine wl_alloc_agg rfl _ rfl _ zeroBt ?_; intro b8 w6 hb8 HB8 HK6)
            | ((with_reducible refine gd_store 94 ?_); refine wl_store_agg rfl _ _ _ rfl b8 _ rfl _ _ HB8 btZ rfl btZ (store_bt _ _ _ _ _ _ _ _ _ _) (le_bt _ _ _ _ _ _ _ _ _ _) (infoBt _ _ _ _ _) (btA_one rfl) ?_; intro w7 HB7 HK7; have hz : w1.heap.size ≤ b8 := Nat.le_trans HKX.out.size (Nat.le_trans hk5.size hb8); have k8 : Keeps wr w7 (fun i => i = b8) := ((hk5.mono (fun _ _ h => h.elim)).trans (HK6.mono (fun _ _ h => h.elim))).trans HK7; have hnb : wr.heap.size ≤ b8 := Nat.le_trans hk5.size hb8; have HREL : Hid (ScanRel w1 (100000 * (q + 1)) u3 (scanUp D (q + 1)) (.int .u64 l1) w7) := (by
                rw [HST.out]
                exact Lib.hid ⟨rfl, ⟨HS.out.1, by have : l2.length ≤ 100000 * q + p := HS.out.2; show l2.length ≤ 100000 * (q + 1); omega⟩, HIN.out.kept k8 (fun g hg1 hg2 e => by omega), HKX.out.then k8 (fun i hi e => absurd hz (by rw [← show i = b8 from e]; exact Nat.not_le.2 hi))⟩))
            | fail)
          go_roundw
          case rel => exact ⟨q + 1, HLT.out, by go_num, HREL⟩
          case measure => have := HLT.out; simp [intOf]; omega
    · as_aux_lemma =>
      obtain rfl : q = (filesP D).length := by omega
      have hlb : decide (((filesP D).length : Int) < ((filesP D).length : Int)) = false := by simp
      obtain ⟨e4, hs, hbts, hkr⟩ := hrel.out
      have HBTS := Lib.hid hbts
      have HKR := Lib.hid hkr
      clear hrel hbts hkr
      go_wp2_with fail
      go_ret
      exact ⟨_, rfl, HBTS.out.low HK1.out.size, HK1.out.trans HKR.out⟩
end Go.Proofs.Ytadjcdfmppcpnaa

namespace Go.Proofs.Ytadjcdfmppcpnaa
open Go Go.RowKit Go.Maps Wb

def jA (h : DH) (J : Jr) : Array Value := #[.pointer (some ⟨h.p, 0, none⟩), .int .u64 J.seq, .int .i64 J.file, .int .i64 J.next, .bool J.dead]
def isJr (w : World) (jb : Nat) (h : DH) (J : Jr) : Prop := w.heap[jb]? = some (.cells (jA h J) 151 (0, 0))
set_option maxRecDepth 100000 in
theorem buildJr (p : Nat) (w : World) : (Instr.build 151 #[(0, .pointer (some ⟨p, 0, none⟩)), (3, .int .i64 1)]).run Try.prog w = .ok (.agg #[.pointer (some ⟨p, 0, none⟩), .int .u64 0, .int .i64 0, .int .i64 1, .bool false]) w := by
  first | kernel_rfl | rfl
theorem isBts.row {w : World} {lo : Nat} {v : Value} {l : List Bt} (h : isBts w lo v l) {q : Nat} {b : Bt} (hq : l[q]? = some b) :
    ∃ g cap bv, v = .slice (some ⟨g, 0, none⟩) l.length cap ∧ lo ≤ g ∧ g < w.heap.size ∧ w.rangeAt g (q * 5) (btA b.seq b.kind bv b.file b.pos).toList ∧ isOwn w lo 5 bv (octs b.b) := by
  obtain ⟨bvs, h1, h2, h3⟩ := h
  have hl := (List.getElem?_eq_some_iff.1 hq).1
  obtain ⟨bv, hbv⟩ : ∃ bv, bvs[q]? = some bv := ⟨_, List.getElem?_eq_getElem (by omega)⟩
  have hr : (btRows l bvs)[q]? = some (btA b.seq b.kind bv b.file b.pos) := by
    unfold btRows
    rw [List.getElem?_zipWith, hq, hbv]
  obtain ⟨g, cap, e, _, h4, h5, h6⟩ := h2.at hr
  rw [btRows_len h1] at e
  exact ⟨g, cap, bv, e, h4, h5, h6, h3 q b bv hq hbv⟩
theorem isBts.shape {w : World} {lo : Nat} {v : Value} {l : List Bt} (h : isBts w lo v l) : ∃ ad cap, v = .slice ad l.length cap := by
  obtain ⟨bvs, h1, h2, h3⟩ := h
  obtain ⟨ad, cap, e⟩ := h2.shape
  exact ⟨ad, cap, by rw [e, btRows_len h1]⟩
theorem isBts.len {w : World} {lo : Nat} {v : Value} {l : List Bt} (h : isBts w lo v l) : l.length ≤ 9223372036854775807 := by
  obtain ⟨bvs, h1, h2, h3⟩ := h
  have := h2.len
  rw [btRows_len h1] at this
  exact this
def OpenRelJ (w1 : World) (h : DH) (jb : Nat) (D : Dv) (next q : Nat) (v8 : Value) (wr : World) : Prop :=
  v8 = .int .i64 (opUp D (scanP D) q).synced ∧ isDev wr h (opUp D (scanP D) q).d ∧ isJr wr jb h ⟨(opUp D (scanP D) q).seq, 0, next, (opUp D (scanP D) q).dead⟩ ∧ Keeps w1 wr (fun i => h.S i ∨ i = jb)
def OpenPostJ (w : World) (h : DH) (D : Dv) (e : Ending) (w' : World) : Prop :=
  ∃ jb lv, e = .returned (.tuple #[.pointer (some ⟨jb, 0, none⟩), lv]) ∧ w.heap.size ≤ jb ∧ isJr w' jb h (openJ D) ∧ isDev w' h (opAll D).d ∧ isBts w' w.heap.size lv (scanP D) ∧ Keeps w w' h.S

set_option maxRecDepth 100000 in
set_option maxHeartbeats 8000000 in
theorem jopen_calls (w : World) (h : DH) (D : Dv) (hd : isDev w h D) (hl : D.files.length ≤ 1000000) :
    Calls Try.prog 58 #[.pointer (some ⟨h.p, 0, none⟩)] w (OpenPostJ w h D) := by
  have hfl : (filesP D).length ≤ 1000000 := by
    rw [← fUp_all]
    have := fUp_len D.names D.names.length
    have h2 : D.names.length ≤ 1000000 := by simpa [Dv.names] using hl
    omega
  have hfi : ((filesP D).length : Int) ≤ 1000000 := by omega
  have HSW : Hid (∀ i, h.S i → i < w.heap.size) := Lib.hid fun i hi => hd.lt hi
  have HFM : Hid (∀ (q : Nat) f, (filesP D)[q]? = some f → f ≤ 999999) := Lib.hid fun q f hf => by
    have := List.mem_of_getElem? hf
    unfold filesP at this
    obtain ⟨h1, _⟩ := List.mem_filter.1 this
    obtain ⟨m, _, rfl⟩ := List.mem_map.1 h1
    exact numOf_le m
  go_enter Try.func58, Try.ntmps58
  go_wp2_with fail
  refine (scan_calls _ h D hd hl).mono ?_
  rintro e w1 ⟨lv, rfl, hbt, hk1⟩
  have hd1 := hd.new hk1
  clear hd
  go_wp2_with (first
    | ((with_reducible refine gd_build 151 ?_); refine wl_buildL rfl _ _ rfl [(0, .pointer (some ⟨h.p, 0, none⟩)), (3, .int .i64 1)] rfl (.agg (jA h ⟨0, 0, 1, false⟩)) (buildJr _) ?_)
    | ((with_reducible refine gd_box 151 ?_); refine wl_box_agg rfl _ _ rfl (jA h ⟨0, 0, 1, false⟩) rfl ?_; intro jb w2 hjb HJ2 HK2)
    | fail)
  have hd2 := hd1.new HK2
  refine (jfiles_calls _ h D hd2 hl).mono ?_
  rintro e w3 ⟨fv, rfl, hfo, hk3⟩
  have hjw : w.heap.size ≤ jb := Nat.le_trans hk1.size hjb
  have HFO := Lib.hid hfo
  have HD3 := Lib.hid (hd2.new hk3)
  have HBT := Lib.hid hbt
  have HJB := Lib.hid hjb
  have HKK1 := Lib.hid hk1
  have HK23 := Lib.hid (HK2.trans hk3)
  have HK3 : Hid (Keeps w w3 (fun _ => False)) := Lib.hid ((hk1.trans HK2).trans hk3)
  have HJ3 := hk3.blk HJ2 id
  have HREL0 : Hid (w3.heap[jb]? = some (.cells (jA h ⟨0, 0, nextUp (filesP D) 0, false⟩) 151 (0, 0)) ∧ Keeps w3 w3 (fun i => i = jb)) := Lib.hid ⟨HJ3, Keeps.refl _ _⟩
  have hfb : ∀ g, fv.ownBlock = some g → ¬ g = jb := fun g hg e => by
    have := (hfo.blk g hg).1
    have h2 := lt_of_blk HJ2
    omega
  have HFB := Lib.hid hfb
  obtain ⟨fa, fc, rfl, _⟩ := isOwn.rd hfo
  rw [natV_len] at HFO HFB ⊢
  clear hfo hk1 hd1 hd2 hbt HK2 hk3 HJ2 HJ3 hl hfb hjb
  go_wp2_with fail
  go_loopw [19] (fun i wr => ∃ q : Nat, q ≤ (filesP D).length ∧ i = .int .i64 q ∧ Hid (wr.heap[jb]? = some (.cells (jA h ⟨0, 0, nextUp (filesP D) q, false⟩) 151 (0, 0)) ∧ Keeps w3 wr (fun i => i = jb))) (fun i _ => (filesP D).length - (intOf i).toNat)
  case atStart => exact ⟨0, Nat.zero_le _, rfl, HREL0⟩
  case round =>
    clear HREL0
    obtain ⟨q, hq, rfl, hrel⟩ := hrel
    have hq0 : (0 : Int) ≤ q := by omega
    by_cases hlt : q < (filesP D).length
    · as_aux_lemma =>
      have hlb : decide ((q : Int) < ((filesP D).length : Int)) = true := by simp; omega
      have hqi : (q : Int) < (filesP D).length := by omega
      obtain ⟨f, hf⟩ : ∃ f, (filesP D)[q]? = some f := ⟨_, List.getElem?_eq_getElem hlt⟩
      have hf9 := HFM.out q f hf
      have hfi9 : (f : Int) ≤ 999999 := by omega
      have hfi0 : (0 : Int) ≤ f := by omega
      obtain ⟨hj, hkr⟩ := hrel.out
      have hfor := HFO.out.kept hkr (fun g hg e => HFB.out g hg e)
      obtain ⟨fg, cap', he, _, _, hfg, hfc⟩ := isOwn.at hfor (natV_at hf)
      simp only [Value.slice.injEq] at he
      obtain ⟨rfl, h81, rfl⟩ := he
      clear h81
      have c3 : wr.cell? ⟨jb, 3, none⟩ = some (.int .i64 (nextUp (filesP D) q : Nat)) := by rw [cell_of_block hj]; rfl
      have f3 : wr.frozen? ⟨jb, 3, none⟩ = false := free_of_block hj 3
      have hb := blk_setCell hj 3 (.int .i64 ((f : Int) + 1))
      have e1 : (jA h ⟨0, 0, nextUp (filesP D) q, false⟩).setIfInBounds 3 (.int .i64 ((f : Int) + 1)) = jA h ⟨0, 0, nextUp (filesP D) (q + 1), false⟩ := by rw [nextUp_succ hf]; rfl
      rw [e1] at hb
      have HREL : Hid (_ ∧ Keeps w3 (wr.setCell ⟨jb, 3, none⟩ (.int .i64 ((f : Int) + 1))) (fun i => i = jb)) := Lib.hid ⟨hb, hkr.trans ((keeps_cell wr jb 3 (.int .i64 ((f : Int) + 1))).mono (fun _ _ h => h))⟩
      have HLT := Lib.hid hlt
      clear hj hkr hfor hf hlt hb e1 hrel hfg
      go_wp2_with fail
      go_roundw
      case rel => exact ⟨q + 1, HLT.out, by go_num, HREL⟩
      case measure => have := HLT.out; simp [intOf]; omega
    · as_aux_lemma =>
      obtain rfl : q = (filesP D).length := by omega
      have hlb : decide (((filesP D).length : Int) < ((filesP D).length : Int)) = false := by simp
      obtain ⟨hj, hkr⟩ := hrel.out
      obtain ⟨next, hnext⟩ : ∃ next, next = nextUp (filesP D) (filesP D).length := ⟨_, rfl⟩
      rw [← hnext] at hj
      have hkw : Keeps w wr (fun _ => False) := HK3.out.then hkr (fun i hi e => absurd hjw (by rw [← show i = jb from e]; exact Nat.not_le.2 hi))
      have hdr : isDev wr h D := HD3.out.apart hkr (fun i e hs => absurd (HSW.out i hs) (by rw [show i = jb from e]; exact Nat.not_lt.2 hjw))
      have hbr := isBts.shape HBT.out
      obtain ⟨la, lc, rfl⟩ := hbr
      have hlen := isBts.len HBT.out
      have hleni : ((scanP D).length : Int) ≤ 9223372036854775807 := by omega
      have HREL2 : Hid (OpenRelJ w1 h jb D next 0 (.int .i64 0) wr) := Lib.hid ⟨rfl, hdr, hj, (HK23.out.mono (fun _ _ h => h.elim)).trans (hkr.mono (fun i _ e => .inr e))⟩
      have HNX := Lib.hid hnext
      clear hj hkr hkw hdr hrel HD3 HFO HFB HFM hnext hlen HK3 HK23
      go_wp2_with fail
      go_loopw [8, 31] (fun v8 i wx => ∃ q : Nat, q ≤ (scanP D).length ∧ i = .int .i64 q ∧ Hid (OpenRelJ w1 h jb D next q v8 wx)) (fun _ i _ => (scanP D).length - (intOf i).toNat)
      case atStart => exact ⟨0, Nat.zero_le _, rfl, HREL2⟩
      case round =>
        clear HREL2
        obtain ⟨q, hq, rfl, hrel⟩ := hrel
        have hq0 : (0 : Int) ≤ q := by omega
        by_cases hlt : q < (scanP D).length
        · as_aux_lemma =>
          have hlb : decide ((q : Int) < ((scanP D).length : Int)) = true := by simp; omega
          have hqi : (q : Int) < (scanP D).length := by omega
          obtain ⟨b, hb⟩ : ∃ b, (scanP D)[q]? = some b := ⟨_, List.getElem?_eq_getElem hlt⟩
          obtain ⟨e8, hdr, hj, hkr⟩ := hrel.out
          obtain ⟨st, hst⟩ : ∃ st, st = opUp D (scanP D) q := ⟨_, rfl⟩
          have HSU := Lib.hid (opUp_succ (D := D) hb)
          rw [← hst] at e8 hdr hj HSU
          subst e8
          clear hst
          have hbtr := HBT.out.kept hkr (fun g hg1 hg2 e => by
            rcases e with e | e
            · exact absurd (HSW.out g e) (Nat.not_lt.2 hg1)
            · have := HJB.out; omega)
          obtain ⟨lg, cap', bv, he, hlg1, hlg2, hrg, hbo⟩ := hbtr.row hb
          simp only [Value.slice.injEq] at he
          obtain ⟨rfl, h81, rfl⟩ := he
          clear h81
          have o1 := own_one1 hbo
          have HRG := Lib.hid hrg
          have HDR := Lib.hid hdr
          have HJR := Lib.hid hj
          have HKR := Lib.hid hkr
          have HLT := Lib.hid hlt
          clear hdr hj hkr hrel hbtr hrg hbo hlt hb
          go_upto_region 12 with (first
            | ((with_reducible refine gd_load 94 ?_); go_loud (refine wpList_load_mid rfl _ _ rfl lg (q * 5) rfl (btA b.seq b.kind bv b.file b.pos).toList _ HRG.out Try.underlying94 rfl (infoBt _ _ _ _ _) ?_))
            | ((with_reducible refine gd_alloc 94 ?_); refine wl_alloc_agg rfl _ rfl _ zeroBt ?_; intro b10 w7 hb10 HB10 HK7)
            | ((with_reducible refine gd_store 94 ?_); refine wl_store_agg rfl _ _ _ rfl b10 _ rfl _ _ HB10 (btA b.seq b.kind bv b.file b.pos) rfl (btA b.seq b.kind bv b.file b.pos) (store_bt _ _ _ _ _ _ _ _ _ _) (le_bt _ _ _ _ _ _ _ _ _ _) (infoBt _ _ _ _ _) (btA_one o1) ?_; intro w8 HB8 HK8)
            | fail)
          have k8 : Keeps wr w8 (fun _ => False) := (Keeps.refl wr _).then ((HK7.mono (fun _ _ h => h.elim)).trans HK8) (fun i hi e => absurd hb10 (by rw [← show i = b10 from e]; exact Nat.not_le.2 hi))
          have hj8 := k8.blk HJR.out id
          have hne1 : ¬ b10 = jb := fun e => by have := lt_of_blk HJR.out; omega
          have hne2 : ¬ jb = b10 := fun e => hne1 e.symm
          have j1 : w8.cell? ⟨jb, 1, none⟩ = some (.int .u64 st.seq) := by rw [cell_of_block hj8]; rfl
          have j4 : w8.cell? ⟨jb, 4, none⟩ = some (.bool st.dead) := by rw [cell_of_block hj8]; rfl
          have jf1 : w8.frozen? ⟨jb, 1, none⟩ = false := free_of_block hj8 1
          have jf4 : w8.frozen? ⟨jb, 4, none⟩ = false := free_of_block hj8 4
          have k0 : w8.cell? ⟨b10, 0, none⟩ = some (.int .u64 b.seq) := by rw [cell_of_block HB8]; rfl
          have k3 : w8.cell? ⟨b10, 3, none⟩ = some (.int .i64 b.file) := by rw [cell_of_block HB8]; rfl
          have hj9 := blk_setCell hj8 1 (.int .u64 b.seq)
          have e9 : (jA h ⟨st.seq, 0, next, st.dead⟩).setIfInBounds 1 (.int .u64 b.seq) = jA h ⟨b.seq, 0, next, st.dead⟩ := rfl
          rw [e9] at hj9
          have hk9 := keeps_cell w8 jb 1 (.int .u64 b.seq)
          have hkx : Keeps w1 (w8.setCell ⟨jb, 1, none⟩ (.int .u64 b.seq)) (fun i => h.S i ∨ i = jb) := (HKR.out.trans (k8.mono (fun _ _ h => h.elim))).trans (hk9.mono (fun i _ e => .inr e))
          have hd9 : isDev (w8.setCell ⟨jb, 1, none⟩ (.int .u64 b.seq)) h st.d := (HDR.out.new k8).apart hk9 (fun i e hs => absurd (HSW.out i hs) (by rw [show i = jb from e]; exact Nat.not_lt.2 hjw))
          have hb9 := hk9.blk HB8 hne1
          clear HRG HB10 HK7 HK8 k8 hj8 e9 hb10
          by_cases hsame : b.file = st.synced
          · as_aux_lemma =>
            have hnb : ((b.file : Int) != (st.synced : Int)) = false := by simp; omega
            have hstep : opUp D (scanP D) (q + 1) = ⟨st.d, b.seq, st.synced, st.dead⟩ := by rw [HSU.out]; unfold opStep; rw [if_neg (fun hh => hh.1 hsame)]
            have HREL : Hid (OpenRelJ w1 h jb D next (q + 1) (.int .i64 st.synced) (w8.setCell ⟨jb, 1, none⟩ (.int .u64 b.seq))) := by
              refine Lib.hid ⟨by rw [hstep], by rw [hstep]; exact hd9, by rw [hstep]; exact hj9, hkx⟩
            clear hstep hj9 hk9 hkx hd9 hb9 hsame
            go_wp2_with fail
            go_roundw
            case rel => exact ⟨q + 1, HLT.out, by go_num, HREL⟩
            case measure => have := HLT.out; simp [intOf]; omega
          · have hnb : ((b.file : Int) != (st.synced : Int)) = true := by simp; omega
            cases hdd : st.dead with
            | true =>
              as_aux_lemma =>
              rw [hdd] at j4 hj9
              have hstep : opUp D (scanP D) (q + 1) = ⟨st.d, b.seq, st.synced, true⟩ := by rw [HSU.out]; unfold opStep; rw [if_neg (fun hh => by rw [hdd] at hh; cases hh.2), hdd]
              have HREL : Hid (OpenRelJ w1 h jb D next (q + 1) (.int .i64 st.synced) (w8.setCell ⟨jb, 1, none⟩ (.int .u64 b.seq))) := by
                refine Lib.hid ⟨by rw [hstep], by rw [hstep]; exact hd9, by rw [hstep]; exact hj9, hkx⟩
              clear hstep hj9 hk9 hkx hd9 hb9 hsame
              go_wp2_with fail
              go_roundw
              case rel => exact ⟨q + 1, HLT.out, by go_num, HREL⟩
              case measure => have := HLT.out; simp [intOf]; omega
            | false =>
              as_aux_lemma =>
              rw [hdd] at j4 hj9
              obtain ⟨D2, e2, hs2⟩ : ∃ D2 e2, st.d.sync (nmOf b.file) = (D2, e2) := ⟨_, _, rfl⟩
              have hstep : opUp D (scanP D) (q + 1) = ⟨D2, b.seq, b.file, decide (e2 ≠ 0)⟩ := by rw [HSU.out]; unfold opStep; rw [if_pos ⟨hsame, hdd⟩, hs2]
              have HSTEP := Lib.hid hstep
              have HJ9 := Lib.hid hj9
              have HKX := Lib.hid hkx
              have HD9 := Lib.hid hd9
              have HB9 := Lib.hid hb9
              have hnm : nameI (b.file : Int) = nmOf b.file := nameI_nat b.file
              clear hstep hj9 hk9 hkx hd9 hb9 hsame
              go_wp2_with fail
              refine (name_calls _ (b.file : Int)).mono ?_
              rintro e w10 ⟨rfl, hk10⟩
              rw [hnm]
              go_wp2_with fail
              refine (sync_calls _ h st.d (nmOf b.file) (HD9.out.new hk10) (nmOf_ok _)).mono ?_
              rw [hs2]
              rintro e w11 ⟨rfl, hd11, hk11⟩
              dsimp only at hd11 ⊢
              have hj11 : w11.heap[jb]? = some (.cells (jA h ⟨b.seq, 0, next, false⟩) 151 (0, 0)) := hk11.blk (hk10.blk HJ9.out id) (fun hs => absurd (HSW.out jb hs) (Nat.not_lt.2 hjw))
              have j4b : w11.cell? ⟨jb, 4, none⟩ = some (.bool false) := by rw [cell_of_block hj11]; rfl
              have jf4b : w11.frozen? ⟨jb, 4, none⟩ = false := free_of_block hj11 4
              have hj12 := blk_setCell hj11 4 (.bool (e2 != 0))
              have e12 : (jA h ⟨b.seq, 0, next, false⟩).setIfInBounds 4 (.bool (e2 != 0)) = jA h ⟨b.seq, 0, next, e2 != 0⟩ := rfl
              rw [e12] at hj12
              have hk12 := keeps_cell w11 jb 4 (.bool (e2 != 0))
              have hbe : (e2 != 0) = decide (e2 ≠ 0) := by by_cases h0 : e2 = 0 <;> simp [h0]
              have HREL : Hid (OpenRelJ w1 h jb D next (q + 1) (.int .i64 b.file) (w11.setCell ⟨jb, 4, none⟩ (.bool (e2 != 0)))) := by
                refine Lib.hid ⟨by rw [HSTEP.out], ?_, ?_, ((HKX.out.trans (hk10.mono (fun _ _ h => h.elim))).trans (hk11.mono (fun i _ hs => .inl hs))).trans (hk12.mono (fun i _ e => .inr e))⟩
                · rw [HSTEP.out]
                  exact hd11.apart hk12 (fun i e hs => absurd (HSW.out i hs) (by rw [show i = jb from e]; exact Nat.not_lt.2 hjw))
                · rw [HSTEP.out]
                  rw [hbe] at hj12 ⊢
                  exact hj12
              clear hj11 hj12 hk12 e12 hd11 hk11 hk10 hbe j1 j4 jf1 jf4 k0 k3
              go_wp2_with fail
              go_roundw
              case rel => exact ⟨q + 1, HLT.out, by go_num, HREL⟩
              case measure => have := HLT.out; simp [intOf]; omega
        · as_aux_lemma =>
          obtain rfl : q = (scanP D).length := by omega
          have hlb : decide (((scanP D).length : Int) < ((scanP D).length : Int)) = false := by simp
          obtain ⟨e8, hdr, hj, hkr⟩ := hrel.out
          have HDR := Lib.hid hdr
          have HJR := Lib.hid hj
          have HKR := Lib.hid hkr
          clear hdr hj hkr hrel
          go_wp2_with fail
          go_ret2
          refine ⟨jb, _, rfl, hjw, ?_, HDR.out, HBT.out.kept HKR.out (fun g hg1 hg2 e => ?_), ?_⟩
          · have h9 := HJR.out
            rw [HNX.out] at h9
            exact h9
          · rcases e with e | e
            · exact absurd (HSW.out g e) (Nat.not_lt.2 hg1)
            · have := HJB.out; omega
          · exact (HKK1.out.mono (fun _ _ h => h.elim)).then HKR.out (fun i hi e => by
              rcases e with e | e
              · exact e
              · exact absurd hjw (by rw [← e]; exact Nat.not_le.2 hi))
end Go.Proofs.Ytadjcdfmppcpnaa

namespace Go.Proofs.Ytadjcdfmppcpnaa
open Go Go.RowKit Go.Maps Wb

def WriteRel (w1 : World) (h : DH) (D : Dv) (n : Nm) (p : Nat) (ss : List Sec) (q : Nat) (wr : World) : Prop := ∃ D', wrN D n p ss q = (D', 0) ∧ isDev wr h D' ∧ Keeps w1 wr h.S

set_option maxRecDepth 100000 in
set_option maxHeartbeats 8000000 in
theorem jwrite_calls (w : World) (h : DH) (jb : Nat) (J : Jr) (D : Dv) (hj : isJr w jb h J) (hjS : ¬ h.S jb) (hd : isDev w h D) (lo seq kind : Nat) (bv : Value) (bytes : List UInt8) (file p : Nat) (hbv : isOwn w lo 5 bv (octs bytes)) (hn : needN bytes.length ≤ 4096) (hs : seq < 2 ^ 64) (hk : kind < 256) (hp : p ≤ 1000000) :
    Calls Try.prog 98 #[.pointer (some ⟨jb, 0, none⟩), .agg (btA seq kind bv file p)] w (DevPost h w (.int .i64 (writeJ D file p (sectorsP seq kind bytes)).2) (writeJ D file p (sectorsP seq kind bytes)).1) := by
  have hnm : nameI (file : Int) = nmOf file := nameI_nat file
  have HSW : Hid (∀ i, h.S i → i < w.heap.size) := Lib.hid fun i hi => hd.lt hi
  have hpi : (p : Int) ≤ 1000000 := by omega
  have hpi0 : (0 : Int) ≤ p := by omega
  have o1 := own_one1 hbv
  have HBV := Lib.hid hbv
  obtain ⟨ba, bc, rfl, _⟩ := isOwn.rd hbv
  rw [octs_len] at HBV ⊢
  clear hbv
  go_enter Try.func98, Try.ntmps98
  go_wp2_with (first
    | ((with_reducible refine gd_box 94 ?_); refine wl_box_agg rfl _ _ rfl (btA seq kind (.slice ba bytes.length bc) file p) rfl ?_; intro b3 w1 hb3 HB3 HK1; have c3 : w1.cell? ⟨b3, 3, none⟩ = some (.int .i64 file) := (by rw [cell_of_block HB3]; rfl))
    | fail)
  refine (name_calls _ (file : Int)).mono ?_
  rintro e w2 ⟨rfl, hk2⟩
  rw [hnm]
  have HB32 := hk2.blk HB3 id
  have c0 : w2.cell? ⟨b3, 0, none⟩ = some (.int .u64 seq) := by rw [cell_of_block HB32]; rfl
  have c1 : w2.cell? ⟨b3, 1, none⟩ = some (.int .i64 kind) := by rw [cell_of_block HB32]; rfl
  have c2 : w2.cell? ⟨b3, 2, none⟩ = some (.slice ba bytes.length bc) := by rw [cell_of_block HB32]; rfl
  have hK2 := HK1.trans hk2
  clear HB3 HK1 hk2 c3
  go_wp2_with fail
  refine (jsectors_calls _ lo seq kind _ bytes (HBV.out.new hK2) hn hs hk).mono ?_
  rintro e w3 ⟨sv, rfl, hso, hk3⟩
  have hK3 := hK2.trans hk3
  have HSO := Lib.hid hso
  have HB33 := Lib.hid (hk3.blk HB32 id)
  have HJ3 := Lib.hid (hK3.blk hj id)
  have HD3 := Lib.hid (hd.new hK3)
  have HK3 := Lib.hid hK3
  have hb3w : w.heap.size ≤ b3 := hb3
  have hz2 : w.heap.size ≤ w2.heap.size := hK2.size
  obtain ⟨sa, sc, rfl⟩ := hso.shape
  rw [secRows_len, sectorsP_len] at HSO ⊢
  obtain ⟨m, hm⟩ : ∃ m, m = needN bytes.length := ⟨_, rfl⟩
  rw [← hm] at HSO hn ⊢
  have hmi : (m : Int) ≤ 4096 := by omega
  obtain ⟨ss, hss⟩ : ∃ ss, ss = sectorsP seq kind bytes := ⟨_, rfl⟩
  have hsl : ss.length = m := by rw [hss, sectorsP_len, hm]
  rw [← hss] at HSO ⊢
  have HSL := Lib.hid hsl
  have HSS := Lib.hid hss
  have HREL0 : Hid (WriteRel w3 h D (nmOf file) p ss 0 w3) := Lib.hid ⟨D, rfl, HD3.out, Keeps.refl _ _⟩
  clear hso hk3 hK3 hK2 HB32 hj hd hb3 HD3 hss hsl hm c0 c1 c2
  go_wp2_with fail
  go_loopw [20] (fun i wr => ∃ q : Nat, q ≤ m ∧ i = .int .i64 q ∧ Hid (WriteRel w3 h D (nmOf file) p ss q wr)) (fun i _ => m - (intOf i).toNat)
  case atStart => exact ⟨0, Nat.zero_le _, rfl, HREL0⟩
  case round =>
    clear HREL0
    obtain ⟨q, hq, rfl, hrel⟩ := hrel
    have hq0 : (0 : Int) ≤ q := by omega
    by_cases hlt : q < m
    · as_aux_lemma =>
      have hlb : decide ((q : Int) < (m : Int)) = true := by simp; omega
      have hqi : (q : Int) < m := by omega
      obtain ⟨s, hs1⟩ : ∃ s, ss[q]? = some s := ⟨_, List.getElem?_eq_getElem (by rw [HSL.out]; exact hlt)⟩
      obtain ⟨D1, hw1, hdr, hkr⟩ := hrel.out
      have hsor := HSO.out.kept hkr (fun g hg e => by
        have h1 := HSW.out g e
        have h2 := (HSO.out.blk g hg).1
        omega)
      obtain ⟨sg, cap', he, _, hsg1, hsg2, hrg⟩ := hsor.at (secRows_at hs1)
      simp only [Value.slice.injEq] at he
      obtain ⟨rfl, h81, rfl⟩ := he
      clear h81
      obtain ⟨D2, e2, hw2⟩ : ∃ D2 e2, D1.write (nmOf file) ((p : Int) + q) s = (D2, e2) := ⟨_, _, rfl⟩
      have hstep := wrN_step hw1 hs1
      rw [hw2] at hstep
      have HSTEP := Lib.hid hstep
      have HW2 := Lib.hid hw2
      have HRG := Lib.hid hrg
      have HDR := Lib.hid hdr
      have HKR := Lib.hid hkr
      have HLT := Lib.hid hlt
      have hjr : wr.heap[jb]? = some (.cells (jA h J) 151 (0, 0)) := hkr.blk HJ3.out hjS
      have hbr3 := hkr.blk HB33.out (fun hs => absurd (HSW.out b3 hs) (Nat.not_lt.2 hb3w))
      clear hw1 hw2 hstep hrg hdr hkr hrel hsor hlt hs1
      go_upto_region 5 with (first
        | ((with_reducible refine gd_load 28 ?_); go_loud (refine wpList_load_mid rfl _ _ rfl sg (q * 64) rfl (secA s).toList _ HRG.out Try.underlying28 rfl (info28s s) ?_))
        | ((with_reducible refine gd_alloc 28 ?_); refine wl_alloc_agg rfl _ rfl _ zero28 ?_; intro b7 w5 hb7 HB7 HK5)
        | ((with_reducible refine gd_store 28 ?_); refine wl_store_agg rfl _ _ _ rfl b7 _ rfl _ _ HB7 (secA s) rfl (secA s) (store_secs _ _) (le_secs _ _) (info28s _) (secA_one _) ?_; intro w6 HB6 HK6)
        | fail)
      have k6 : Keeps wr w6 (fun _ => False) := (Keeps.refl wr _).then ((HK5.mono (fun _ _ h => h.elim)).trans HK6) (fun i hi e => absurd hb7 (by rw [← show i = b7 from e]; exact Nat.not_le.2 hi))
      have j0 : w6.cell? ⟨jb, 0, none⟩ = some (.pointer (some ⟨h.p, 0, none⟩)) := by rw [cell_of_block (k6.blk hjr id)]; rfl
      have b4 : w6.cell? ⟨b3, 4, none⟩ = some (.int .i64 p) := by rw [cell_of_block (k6.blk hbr3 id)]; rfl
      have hd6 := (HDR.out.new k6).drew
      have hpq : IntKind.i64.wrap ((p : Int) + q) = (p : Int) + q := i64_smallK _ (by omega) (by omega)
      have HB6d : w6.drew.heap[b7]? = some (.cells (secA s) 28 (0, 0)) := HB6
      clear HB7 HK5 HK6 hjr hbr3 HRG
      refine wp_region_still_tail 10 (by kernel_rfl) (by kernel_rfl) ?_
      simp only [List.take_succ_cons, List.take_zero, List.drop_succ_cons, List.drop_zero]
      iterate 9 still_step
      try rw [hpq]
      refine ws_load_agg rfl _ _ rfl b7 0 rfl _ _ _ HB6d (secA s) (extract_all _) _ Try.underlying28 rfl (info28s _) ?_
      refine wpStill_nil ?_
      clear HB6d j0 b4 HB6
      go_wp2_with fail
      refine (write_calls _ h D1 (nmOf file) _ s hd6 (nmOf_ok _)).mono ?_
      rw [HW2.out]
      rintro e w8 ⟨rfl, hd8, hk8⟩
      dsimp only at hd8 ⊢
      have hk38 : Keeps w3 w8 h.S := (HKR.out.trans ((k6.drew).mono (fun _ _ h => h.elim))).trans hk8
      clear hd6 hk8 hpq
      by_cases h0 : e2 = 0
      · as_aux_lemma =>
        subst h0
        have HREL : Hid (WriteRel w3 h D (nmOf file) p ss (q + 1) w8) := Lib.hid ⟨D2, HSTEP.out, hd8, hk38⟩
        clear hd8 hk38 k6
        go_wp2_with fail
        go_roundw
        case rel => exact ⟨q + 1, HLT.out, by go_num, HREL⟩
        case measure => have := HLT.out; simp [intOf]; omega
      · as_aux_lemma =>
        have h0b : (e2 != 0) = true := by simpa using h0
        have hbad := wrN_bad (D := D) (n := nmOf file) (p := p) (ss := ss) (q := q + 1) (by rw [HSTEP.out]; exact h0) (m - (q + 1))
        rw [show q + 1 + (m - (q + 1)) = m by have := HLT.out; omega, HSTEP.out] at hbad
        have HWJ : Hid (writeJ D file p ss = (D2, e2)) := Lib.hid (by unfold writeJ; rw [HSL.out, hbad, if_neg h0])
        clear hbad h0 k6
        go_wp2_with fail
        go_ret
        refine ⟨by rw [← HSS.out, HWJ.out]; rfl, by rw [← HSS.out, HWJ.out]; exact hd8, (HK3.out.mono (fun _ _ h => h.elim)).trans hk38⟩
    · as_aux_lemma =>
      obtain rfl : q = m := by omega
      have hlb : decide ((q : Int) < (q : Int)) = false := by simp
      obtain ⟨D1, hw1, hdr, hkr⟩ := hrel.out
      have hjr : wr.heap[jb]? = some (.cells (jA h J) 151 (0, 0)) := hkr.blk HJ3.out hjS
      have j0 : wr.cell? ⟨jb, 0, none⟩ = some (.pointer (some ⟨h.p, 0, none⟩)) := by rw [cell_of_block hjr]; rfl
      have HWJ : Hid (writeJ D file p ss = D1.sync (nmOf file)) := Lib.hid (by unfold writeJ; rw [HSL.out, hw1]; simp)
      have HKR := Lib.hid hkr
      clear hw1 hjr hkr hrel
      go_wp2_with fail
      refine (sync_calls _ h D1 (nmOf file) hdr (nmOf_ok _)).mono ?_
      rintro e w8 ⟨rfl, hd8, hk8⟩
      go_wp2_with fail
      go_ret
      refine ⟨by rw [← HSS.out, HWJ.out]; rfl, by rw [← HSS.out, HWJ.out]; exact hd8, ((HK3.out.mono (fun _ _ h => h.elim)).trans HKR.out).trans hk8⟩
end Go.Proofs.Ytadjcdfmppcpnaa

namespace Go.Proofs.Ytadjcdfmppcpnaa
open Go Go.RowKit Go.Maps Wb

theorem jseq_calls (w : World) (h : DH) (jb : Nat) (J : Jr) (hj : isJr w jb h J) : Calls Try.prog 67 #[.pointer (some ⟨jb, 0, none⟩)] w fun e w' => e = .returned (.int .u64 J.seq) ∧ w = w' := by
  have c1 : w.cell? ⟨jb, 1, none⟩ = some (.int .u64 J.seq) := by rw [cell_of_block hj]; rfl
  go_enter Try.func67, Try.ntmps67
  go_wp2
  go_ret
  exact ⟨rfl, rfl⟩
theorem jfile_calls (w : World) (h : DH) (jb : Nat) (J : Jr) (hj : isJr w jb h J) : Calls Try.prog 68 #[.pointer (some ⟨jb, 0, none⟩)] w fun e w' => e = .returned (.int .i64 J.file) ∧ w = w' := by
  have c2 : w.cell? ⟨jb, 2, none⟩ = some (.int .i64 J.file) := by rw [cell_of_block hj]; rfl
  go_enter Try.func68, Try.ntmps68
  go_wp2
  go_ret
  exact ⟨rfl, rfl⟩
def NextPost (w : World) (h : DH) (jb : Nat) (r : JD × Int) (e : Ending) (w' : World) : Prop :=
  e = .returned (.tuple #[.int .i64 (if r.2 = 0 then (r.1.j.file : Int) else 0), .int .i64 r.2]) ∧ isDev w' h r.1.d ∧ isJr w' jb h r.1.j ∧ Keeps w w' (fun i => h.S i ∨ i = jb)

set_option maxRecDepth 100000 in
set_option maxHeartbeats 8000000 in
theorem jnext_calls (w : World) (h : DH) (jb : Nat) (J : Jr) (D : Dv) (hj : isJr w jb h J) (hjS : ¬ h.S jb) (hd : isDev w h D) (hnx : J.next ≤ 1000000) :
    Calls Try.prog 96 #[.pointer (some ⟨jb, 0, none⟩)] w (NextPost w h jb (nextJ ⟨D, J⟩)) := by
  obtain ⟨seq, file, next, dead⟩ := J
  have c0 : w.cell? ⟨jb, 0, none⟩ = some (.pointer (some ⟨h.p, 0, none⟩)) := by rw [cell_of_block hj]; rfl
  have c3 : w.cell? ⟨jb, 3, none⟩ = some (.int .i64 next) := by rw [cell_of_block hj]; rfl
  have c4 : w.cell? ⟨jb, 4, none⟩ = some (.bool dead) := by rw [cell_of_block hj]; rfl
  have hni : (next : Int) ≤ 1000000 := by show (next : Int) ≤ _; simp only at hnx; omega
  have hni0 : (0 : Int) ≤ next := by omega
  cases dead with
  | true =>
    as_aux_lemma =>
    have HN : Hid (nextJ ⟨D, ⟨seq, file, next, true⟩⟩ = (⟨D, ⟨seq, file, next, true⟩⟩, 8)) := Lib.hid (by unfold nextJ; rw [if_pos rfl])
    go_enter Try.func96, Try.ntmps96
    go_wp2_with fail
    go_ret2
    rw [HN.out]
    exact ⟨rfl, hd, hj, Keeps.refl _ _⟩
  | false =>
    by_cases h9 : 999999 < next
    · as_aux_lemma =>
      have h9b : decide (999999 < (next : Int)) = true := by simp; omega
      have HN : Hid (nextJ ⟨D, ⟨seq, file, next, false⟩⟩ = (⟨D, ⟨seq, file, next, false⟩⟩, 11)) := Lib.hid (by unfold nextJ; rw [if_neg (by simp), if_pos h9])
      go_enter Try.func96, Try.ntmps96
      go_wp2_with fail
      go_ret2
      rw [HN.out]
      exact ⟨rfl, hd, hj, Keeps.refl _ _⟩
    · as_aux_lemma =>
      have h9b : decide (999999 < (next : Int)) = false := by simp; omega
      obtain ⟨D2, e2, hmk⟩ : ∃ D2 e2, D.make (nmOf next) = (D2, e2) := ⟨_, _, rfl⟩
      have hnm : nameI (next : Int) = nmOf next := nameI_nat next
      have HNX : Hid (nextJ ⟨D, ⟨seq, file, next, false⟩⟩ = if e2 ≠ 0 then (⟨D2, ⟨seq, file, next, true⟩⟩, e2) else (⟨D2, ⟨seq, next, next + 1, false⟩⟩, 0)) := Lib.hid (by
        unfold nextJ
        rw [if_neg (by simp), if_neg h9, hmk])
      have HMK := Lib.hid hmk
      have HS : (fun (w' : World) => w'.cell? ⟨jb, 0, none⟩ = some (.pointer (some ⟨h.p, 0, none⟩)) ∧ w'.cell? ⟨jb, 3, none⟩ = some (.int .i64 next)) w.drew := ⟨c0, c3⟩
      clear hmk h9
      go_enter Try.func96, Try.ntmps96
      go_wp2_with fail
      refine wp_region_held_drew (S := (fun (w' : World) => w'.cell? ⟨jb, 0, none⟩ = some (.pointer (some ⟨h.p, 0, none⟩)) ∧ w'.cell? ⟨jb, 3, none⟩ = some (.int .i64 next))) (by kernel_rfl) HS (fun _ => ?_)
      first
        | (refine rg_skip 0 rfl (by kernel_rfl) (by kernel_rfl) (by kernel_rfl) (fun _ _ _ h => h) HS ?_ ?_; rfl)
        | (refine rg_take 0 (v := ?_) rfl (by kernel_rfl) (by kernel_rfl) (by kernel_rfl) (fun _ _ _ h => h) HS ?_ ?_ ?_; rotate_left; rfl; focus (intro w hSw; (try dsimp only at hSw); go_simp; all_goals (with_reducible rfl)))
      simp only [Act.put, List.setIfInBounds_toArray, List.set_cons_succ, List.set_cons_zero]
      first
        | (refine rg_skip 1 rfl (by kernel_rfl) (by kernel_rfl) (by kernel_rfl) (fun _ _ _ h => h) HS ?_ ?_; rfl)
        | (refine rg_take 1 (v := ?_) rfl (by kernel_rfl) (by kernel_rfl) (by kernel_rfl) (fun _ _ _ h => h) HS ?_ ?_ ?_; rotate_left; rfl; focus (intro w hSw; (try dsimp only at hSw); go_simp; all_goals (with_reducible rfl)))
      simp only [Act.put, List.setIfInBounds_toArray, List.set_cons_succ, List.set_cons_zero]
      first
        | (refine rg_skip 2 rfl (by kernel_rfl) (by kernel_rfl) (by kernel_rfl) (fun _ _ _ h => h) HS ?_ ?_; rfl)
        | (refine rg_take 2 (v := ?_) rfl (by kernel_rfl) (by kernel_rfl) (by kernel_rfl) (fun _ _ _ h => h) HS ?_ ?_ ?_; rotate_left; rfl; focus (intro w hSw; (try dsimp only at hSw); go_simp; all_goals (with_reducible rfl)))
      simp only [Act.put, List.setIfInBounds_toArray, List.set_cons_succ, List.set_cons_zero]
      first
        | (refine rg_skip 3 rfl (by kernel_rfl) (by kernel_rfl) (by kernel_rfl) (fun _ _ _ h => h) HS ?_ ?_; rfl)
        | (refine rg_take 3 (v := ?_) rfl (by kernel_rfl) (by kernel_rfl) (by kernel_rfl) (fun _ _ _ h => h) HS ?_ ?_ ?_; rotate_left; rfl; focus (intro w hSw; (try dsimp only at hSw); go_simp; all_goals (with_reducible rfl)))
      simp only [Act.put, List.setIfInBounds_toArray, List.set_cons_succ, List.set_cons_zero]
      first
        | (refine rg_skip 4 rfl (by kernel_rfl) (by kernel_rfl) (by kernel_rfl) (fun _ _ _ h => h) HS ?_ ?_; rfl)
        | (refine rg_take 4 (v := ?_) rfl (by kernel_rfl) (by kernel_rfl) (by kernel_rfl) (fun _ _ _ h => h) HS ?_ ?_ ?_; rotate_left; rfl; focus (intro w hSw; (try dsimp only at hSw); go_simp; all_goals (with_reducible rfl)))
      simp only [Act.put, List.setIfInBounds_toArray, List.set_cons_succ, List.set_cons_zero]
      first
        | (refine rg_skip 5 rfl (by kernel_rfl) (by kernel_rfl) (by kernel_rfl) (fun _ _ _ h => h) HS ?_ ?_; rfl)
        | (refine rg_take 5 (v := ?_) rfl (by kernel_rfl) (by kernel_rfl) (by kernel_rfl) (fun _ _ _ h => h) HS ?_ ?_ ?_; rotate_left; rfl; focus (intro w hSw; (try dsimp only at hSw); go_simp; all_goals (with_reducible rfl)))
      simp only [Act.put, List.setIfInBounds_toArray, List.set_cons_succ, List.set_cons_zero]
      first
        | (refine rg_skip 6 rfl (by kernel_rfl) (by kernel_rfl) (by kernel_rfl) (fun _ _ _ h => h) HS ?_ ?_; rfl)
        | (refine rg_take 6 (v := ?_) rfl (by kernel_rfl) (by kernel_rfl) (by kernel_rfl) (fun _ _ _ h => h) HS ?_ ?_ ?_; rotate_left; rfl; focus (intro w hSw; (try dsimp only at hSw); go_simp; all_goals (with_reducible rfl)))
      simp only [Act.put, List.setIfInBounds_toArray, List.set_cons_succ, List.set_cons_zero]
      first
        | (refine rg_skip 7 rfl (by kernel_rfl) (by kernel_rfl) (by kernel_rfl) (fun _ _ _ h => h) HS ?_ ?_; rfl)
        | (refine rg_take 7 (v := ?_) rfl (by kernel_rfl) (by kernel_rfl) (by kernel_rfl) (fun _ _ _ h => h) HS ?_ ?_ ?_; rotate_left; rfl; focus (intro w hSw; (try dsimp only at hSw); go_simp; all_goals (with_reducible rfl)))
      simp only [Act.put, List.setIfInBounds_toArray, List.set_cons_succ, List.set_cons_zero]
      refine rg_one 8 rfl (by kernel_rfl) (by rfl) ?_
      refine rg_call 62 _ _ rfl _ Try.func62 (by kernel_rfl) (by kernel_rfl) [.int .i64 next] rfl (name_calls _ (next : Int)) ?_
      rintro e w2 ⟨rfl, hk2⟩
      rw [hnm]
      have hS2 : (fun (w' : World) => w'.cell? ⟨jb, 0, none⟩ = some (.pointer (some ⟨h.p, 0, none⟩)) ∧ w'.cell? ⟨jb, 3, none⟩ = some (.int .i64 next)) w2 := ⟨Keeps.cellK hk2 HS.1, Keeps.cellK hk2 HS.2⟩
      have hj2 : isJr w2 jb h ⟨seq, file, next, false⟩ := hk2.blk (show w.drew.heap[jb]? = _ from hj) id
      refine ⟨_, rfl, hS2, ?_⟩
      simp only [Act.put, List.setIfInBounds_toArray, List.set_cons_succ, List.set_cons_zero]
      refine rg_one 9 rfl (by kernel_rfl) (by rfl) ?_
      have hmc := make_calls w2 h D (nmOf next) ((hd.drew).new hk2) (nmOf_ok _)
      rw [HMK.out] at hmc
      refine rg_call 22 _ _ rfl _ Try.func22 (by kernel_rfl) (by kernel_rfl) [.pointer (some ⟨h.p, 0, none⟩), .string (bs (nmOf next))] rfl hmc ?_
      rintro e w3 ⟨rfl, hd3, hk3⟩
      dsimp only at hd3 ⊢
      have hj3 : isJr w3 jb h ⟨seq, file, next, false⟩ := hk3.blk hj2 hjS
      have hS3 : (fun (w' : World) => w'.cell? ⟨jb, 0, none⟩ = some (.pointer (some ⟨h.p, 0, none⟩)) ∧ w'.cell? ⟨jb, 3, none⟩ = some (.int .i64 next)) w3 := ⟨by show w3.cell? _ = _; rw [cell_of_block hj3]; rfl, by show w3.cell? _ = _; rw [cell_of_block hj3]; rfl⟩
      refine ⟨_, rfl, hS3, ?_⟩
      simp only [Act.put, List.setIfInBounds_toArray, List.set_cons_succ, List.set_cons_zero]
      first
        | (refine rg_skip 10 rfl (by kernel_rfl) (by kernel_rfl) (by kernel_rfl) (fun _ _ _ h => h) hS3 ?_ ?_; rfl)
        | (refine rg_take 10 (v := ?_) rfl (by kernel_rfl) (by kernel_rfl) (by kernel_rfl) (fun _ _ _ h => h) hS3 ?_ ?_ ?_; rotate_left; rfl; focus (intro w hSw; (try dsimp only at hSw); go_simp; all_goals (with_reducible rfl)))
      simp only [Act.put, List.setIfInBounds_toArray, List.set_cons_succ, List.set_cons_zero]
      refine wpAnyH_done (by kernel_rfl) ?_ _
      have hk03 : Keeps w w3 (fun i => h.S i ∨ i = jb) := (((Keeps.refl w (fun _ => False)).drew.trans hk2).mono (fun _ _ h => h.elim)).trans (hk3.mono (fun i _ hs => .inl hs))
      have d3 : w3.cell? ⟨jb, 3, none⟩ = some (.int .i64 next) := hS3.2
      have d2 : w3.cell? ⟨jb, 2, none⟩ = some (.int .i64 file) := by rw [cell_of_block hj3]; rfl
      have d4 : w3.cell? ⟨jb, 4, none⟩ = some (.bool false) := by rw [cell_of_block hj3]; rfl
      have f2 : w3.frozen? ⟨jb, 2, none⟩ = false := free_of_block hj3 2
      have f3 : w3.frozen? ⟨jb, 3, none⟩ = false := free_of_block hj3 3
      have f4 : w3.frozen? ⟨jb, 4, none⟩ = false := free_of_block hj3 4
      have HJ3 := Lib.hid hj3
      have HD3 := Lib.hid hd3
      have HK03 := Lib.hid hk03
      have HJS := Lib.hid hjS
      clear hS3 hS2 HS hj2 hj3 hd3 hk3 hk2 hmc hk03 c0 c3 c4 hj hd hjS
      by_cases h0 : e2 = 0
      · as_aux_lemma =>
        subst h0
        have HR : Hid (nextJ ⟨D, ⟨seq, file, next, false⟩⟩ = (⟨D2, ⟨seq, next, next + 1, false⟩⟩, 0)) := Lib.hid (by rw [HNX.out]; simp)
        go_wp2_with fail
        go_ret2
        rw [HR.out]
        have hb1 := blk_setCell HJ3.out 2 (.int .i64 next)
        have hb2 := blk_setCell hb1 3 (.int .i64 ((next : Int) + 1))
        have e9 : ((jA h ⟨seq, file, next, false⟩).setIfInBounds 2 (.int .i64 next)).setIfInBounds 3 (.int .i64 ((next : Int) + 1)) = jA h ⟨seq, next, next + 1, false⟩ := rfl
        rw [e9] at hb2
        have k1 := keeps_cell w3 jb 2 (.int .i64 next)
        have k2 := keeps_cell (w3.setCell ⟨jb, 2, none⟩ (.int .i64 next)) jb 3 (.int .i64 ((next : Int) + 1))
        have k12 := k1.trans k2
        refine ⟨rfl, HD3.out.apart k12 (fun i e hs => HJS.out (by rw [← show i = jb from e]; exact hs)), hb2, HK03.out.trans (k12.mono (fun i _ e => .inr e))⟩
      · as_aux_lemma =>
        have h0b : (e2 != 0) = true := by simpa using h0
        have HR : Hid (nextJ ⟨D, ⟨seq, file, next, false⟩⟩ = (⟨D2, ⟨seq, file, next, true⟩⟩, e2)) := Lib.hid (by rw [HNX.out, if_pos h0])
        have HE := Lib.hid h0
        clear h0
        go_wp2_with fail
        go_ret2
        rw [HR.out]
        have hb1 := blk_setCell HJ3.out 4 (.bool true)
        have k1 := keeps_cell w3 jb 4 (.bool true)
        refine ⟨by rw [if_neg HE.out]; rfl, HD3.out.apart k1 (fun i e hs => HJS.out (by rw [← show i = jb from e]; exact hs)), hb1, HK03.out.trans (k1.mono (fun i _ e => .inr e))⟩
end Go.Proofs.Ytadjcdfmppcpnaa

namespace Go.Proofs.Ytadjcdfmppcpnaa
open Go Go.RowKit Go.Maps Wb

/-- Octets that are handed over: they are read. -/
def isArgB (w : World) (bv : Value) (b : List UInt8) : Prop := isRd w bv (octs b) ∧ ∀ cap, bv = .slice none 0 cap → cap = 0
theorem isOwn.arg {w : World} {lo : Nat} {e : TypeId} {bv : Value} {b : List UInt8} (h : isOwn w lo e bv (octs b)) : isArgB w bv b := ⟨h.rd, h.nilcap⟩
theorem isArgB.kept {w w' : World} {bv : Value} {b : List UInt8} {S : Nat → Prop} (h : isArgB w bv b) (hk : Keeps w w' S) (hS : ∀ g, bv.ownBlock = some g → ¬ S g) : isArgB w' bv b := ⟨h.1.kept hk hS, h.2⟩
theorem isArgB.new {w w' : World} {bv : Value} {b : List UInt8} (h : isArgB w bv b) (hk : Keeps w w' (fun _ => False)) : isArgB w' bv b := h.kept hk (fun _ _ h => h)
/-- What an appending comes to. -/
def AppendPost (w : World) (h : DH) (jb : Nat) (s : JD) (kind : Int) (b : List UInt8) (e : Ending) (w' : World) : Prop :=
  ∃ bv, e = .returned (.tuple #[.agg (if (appendJ s kind b).2 = 0 then btA (appendJ s kind b).1.j.seq kind.toNat bv (appendJ s kind b).1.j.file ((turnJ s).1.d.len (nmOf (turnJ s).1.j.file)) else btZ), .int .i64 (appendJ s kind b).2]) ∧
    isOwn w' w.heap.size 5 bv (octs (if (appendJ s kind b).2 = 0 then b else [])) ∧ isDev w' h (appendJ s kind b).1.d ∧ isJr w' jb h (appendJ s kind b).1.j ∧ Keeps w w' (fun i => h.S i ∨ i = jb)
theorem append_bad {w w' : World} {h : DH} {jb : Nat} {s s2 : JD} {kind r : Int} {b : List UInt8} (hr : appendJ s kind b = (s2, r)) (h0 : r ≠ 0) (hd : isDev w' h s2.d) (hj : isJr w' jb h s2.j) (hk : Keeps w w' (fun i => h.S i ∨ i = jb)) :
    AppendPost w h jb s kind b (.returned (.tuple #[.agg btZ, .int .i64 r])) w' := by
  unfold AppendPost
  rw [hr]
  exact ⟨.slice none 0 0, by rw [if_neg h0], by rw [if_neg h0]; exact isOwn_nil _ _ _, hd, hj, hk⟩

set_option maxRecDepth 100000 in
set_option maxHeartbeats 8000000 in
theorem append_refuse (w : World) (h : DH) (jb : Nat) (D : Dv) (J : Jr) (hj : isJr w jb h J) (hd : isDev w h D) (kind : Int) (bv : Value) (b : List UInt8) (hb : isArgB w bv b) (hbl : b.length ≤ 1000000) (hsq : J.seq < 2 ^ 64) (hpre : appendPre ⟨D, J⟩ kind b.length ≠ 0) :
    Calls Try.prog 59 #[.pointer (some ⟨jb, 0, none⟩), .int .i64 kind, bv] w (AppendPost w h jb ⟨D, J⟩ kind b) := by
  have hap : appendJ ⟨D, J⟩ kind b = (⟨D, J⟩, appendPre ⟨D, J⟩ kind b.length) := by unfold appendJ; rw [if_pos hpre]
  obtain ⟨seq, file, next, dead⟩ := J
  have c0 : w.cell? ⟨jb, 0, none⟩ = some (.pointer (some ⟨h.p, 0, none⟩)) := by rw [cell_of_block hj]; rfl
  have c1 : w.cell? ⟨jb, 1, none⟩ = some (.int .u64 seq) := by rw [cell_of_block hj]; rfl
  have c4 : w.cell? ⟨jb, 4, none⟩ = some (.bool dead) := by rw [cell_of_block hj]; rfl
  have HD := Lib.hid hd
  have HJ := Lib.hid hj
  have hsq' : seq < 2 ^ 64 := hsq
  have hbi : (b.length : Int) ≤ 1000000 := by omega
  have hmost := hd.wf.most
  have husd := hd.wf.used
  obtain ⟨ba, bc, rfl, _⟩ := id hb.1
  rw [octs_len]
  clear hj hd hb hsq
  by_cases hdead : dead = true
  · as_aux_lemma =>
    subst hdead
    have HP : Hid (appendPre ⟨D, ⟨seq, file, next, true⟩⟩ kind b.length = 8) := Lib.hid (by unfold appendPre; rw [if_pos rfl])
    rw [HP.out] at hap
    have HAP := Lib.hid hap
    clear hap hpre
    go_enter Try.func59, Try.ntmps59
    go_wp2_with (first
      | ((with_reducible refine gd_alloc 94 ?_); refine wl_alloc_agg rfl _ rfl _ zeroBt ?_; intro b6 w1 hb6 HB6 HK1; have d4 := Keeps.cellK HK1 c4)
      | ((with_reducible refine gd_build 94 ?_); refine wl_build0 rfl _ rfl _ buildBt0 ?_)
      | ((with_reducible refine gd_store 94 ?_); refine wl_store_agg rfl _ _ _ rfl b6 _ rfl _ _ HB6 btZ rfl btZ (store_bt _ _ _ _ _ _ _ _ _ _) (le_bt _ _ _ _ _ _ _ _ _ _) (infoBt _ _ _ _ _) (btA_one rfl) ?_; intro w2 HB62 HK2)
      | fail)
    refine bodyPost_ret (v := .tuple #[.agg btZ, .int .i64 8]) ?_ rfl ?_
    · exact results_two rfl _ _ b6 _ _ _ _ rfl rfl HB62 _ Try.underlying94 rfl (infoBt _ _ _ _ _)
    · have hk : Keeps w w2 (fun _ => False) := HK1.then HK2 (fun i hi e => absurd hb6 (by rw [← show i = b6 from e]; exact Nat.not_le.2 hi))
      exact append_bad HAP.out (by decide) (HD.out.new hk) (hk.blk HJ.out id) (hk.mono (fun _ _ h => h.elim))
  · have hdf : dead = false := by simpa using hdead
    subst hdf
    by_cases hkd : kind < 1 ∨ 255 < kind
    · as_aux_lemma =>
      have HP : Hid (appendPre ⟨D, ⟨seq, file, next, false⟩⟩ kind b.length = 1) := Lib.hid (by unfold appendPre; rw [if_neg (by simp), if_pos hkd])
      rw [HP.out] at hap
      have HAP := Lib.hid hap
      clear hap hpre
      have hcase : (decide (kind < 1) = true) ∨ (decide (kind < 1) = false ∧ decide (255 < kind) = true) := by
        simp only [decide_eq_true_eq, decide_eq_false_iff_not]
        omega
      clear hkd
      rcases hcase with h1 | ⟨h1, h2⟩
      all_goals
        go_enter Try.func59, Try.ntmps59
        go_wp2_with (first
          | ((with_reducible refine gd_alloc 94 ?_); refine wl_alloc_agg rfl _ rfl _ zeroBt ?_; intro b6 w1 hb6 HB6 HK1; have d4 := Keeps.cellK HK1 c4)
          | ((with_reducible refine gd_build 94 ?_); refine wl_build0 rfl _ rfl _ buildBt0 ?_)
          | ((with_reducible refine gd_store 94 ?_); refine wl_store_agg rfl _ _ _ rfl b6 _ rfl _ _ HB6 btZ rfl btZ (store_bt _ _ _ _ _ _ _ _ _ _) (le_bt _ _ _ _ _ _ _ _ _ _) (infoBt _ _ _ _ _) (btA_one rfl) ?_; intro w2 HB62 HK2)
          | fail)
        refine bodyPost_ret (v := .tuple #[.agg btZ, .int .i64 1]) ?_ rfl ?_
        · exact results_two rfl _ _ b6 _ _ _ _ rfl rfl HB62 _ Try.underlying94 rfl (infoBt _ _ _ _ _)
        · have hk : Keeps w w2 (fun _ => False) := HK1.then HK2 (fun i hi e => absurd hb6 (by rw [← show i = b6 from e]; exact Nat.not_le.2 hi))
          exact append_bad HAP.out (by decide) (HD.out.new hk) (hk.blk HJ.out id) (hk.mono (fun _ _ h => h.elim))
    · have h1 : decide (kind < 1) = false := by simp; omega
      have h2 : decide (255 < kind) = false := by simp; omega
      obtain ⟨m, hm⟩ : ∃ m, m = needN b.length := ⟨_, rfl⟩
      have hnle := needN_le b.length
      have HM := Lib.hid hm
      have hmi : (m : Int) ≤ 1000000 := by omega
      by_cases hbd : 4096 < m ∨ seq = 18446744073709551615
      · as_aux_lemma =>
        have HP : Hid (appendPre ⟨D, ⟨seq, file, next, false⟩⟩ kind b.length = 11) := Lib.hid (by unfold appendPre; rw [if_neg (by simp), if_neg hkd, if_pos (by rw [← hm]; exact hbd)])
        rw [HP.out] at hap
        have HAP := Lib.hid hap
        clear hap hpre hkd
        have hcase : (decide (4096 < (m : Int)) = true) ∨ (decide (4096 < (m : Int)) = false ∧ ((seq : Int) == 18446744073709551615) = true) := by
          simp only [decide_eq_true_eq, decide_eq_false_iff_not, beq_iff_eq]
          omega
        clear hbd
        rcases hcase with h3 | ⟨h3, h4⟩
        all_goals
          go_enter Try.func59, Try.ntmps59
          go_wp2_with (first
            | ((with_reducible refine gd_alloc 94 ?_); refine wl_alloc_agg rfl _ rfl _ zeroBt ?_; intro b6 w1 hb6 HB6 HK1; have d1 : w1.cell? ⟨jb, 1, none⟩ = some (.int .u64 seq) := Keeps.cellK HK1 c1; have d4 : w1.cell? ⟨jb, 4, none⟩ = some (.bool false) := Keeps.cellK HK1 c4)
            | fail)
          refine (need_calls _ b.length (by omega)).mono ?_
          rintro e w' ⟨rfl, rfl⟩
          rw [← hm]
          clear hm
          go_wp2_with (first
            | ((with_reducible refine gd_build 94 ?_); refine wl_build0 rfl _ rfl _ buildBt0 ?_)
            | ((with_reducible refine gd_store 94 ?_); refine wl_store_agg rfl _ _ _ rfl b6 _ rfl _ _ HB6 btZ rfl btZ (store_bt _ _ _ _ _ _ _ _ _ _) (le_bt _ _ _ _ _ _ _ _ _ _) (infoBt _ _ _ _ _) (btA_one rfl) ?_; intro w2 HB62 HK2)
            | fail)
          refine bodyPost_ret (v := .tuple #[.agg btZ, .int .i64 11]) ?_ rfl ?_
          · exact results_two rfl _ _ b6 _ _ _ _ rfl rfl HB62 _ Try.underlying94 rfl (infoBt _ _ _ _ _)
          · have hk : Keeps w w2 (fun _ => False) := HK1.then HK2 (fun i hi e => absurd hb6 (by rw [← show i = b6 from e]; exact Nat.not_le.2 hi))
            exact append_bad HAP.out (by decide) (HD.out.new hk) (hk.blk HJ.out id) (hk.mono (fun _ _ h => h.elim))
      · as_aux_lemma =>
        have hfull : (D.most : Int) - (used D.files : Int) < (m : Int) := by
          refine Classical.byContradiction fun hc => hpre ?_
          unfold appendPre
          rw [if_neg (by simp), if_neg hkd, if_neg (by rw [← hm]; exact hbd), ← hm, if_neg hc]
        have HP : Hid (appendPre ⟨D, ⟨seq, file, next, false⟩⟩ kind b.length = 6) := Lib.hid (by unfold appendPre; rw [if_neg (by simp), if_neg hkd, if_neg (by rw [← hm]; exact hbd), ← hm, if_pos hfull])
        rw [HP.out] at hap
        have HAP := Lib.hid hap
        have h3 : decide (4096 < (m : Int)) = false := by simp; omega
        have h4 : ((seq : Int) == 18446744073709551615) = false := by simp; omega
        have h5 : decide ((D.most : Int) - (used D.files : Int) < (m : Int)) = true := decide_eq_true hfull
        clear hap hpre hkd hbd hfull
        go_enter Try.func59, Try.ntmps59
        go_wp2_with (first
          | ((with_reducible refine gd_alloc 94 ?_); refine wl_alloc_agg rfl _ rfl _ zeroBt ?_; intro b6 w1 hb6 HB6 HK1; have d1 : w1.cell? ⟨jb, 1, none⟩ = some (.int .u64 seq) := Keeps.cellK HK1 c1; have d4 : w1.cell? ⟨jb, 4, none⟩ = some (.bool false) := Keeps.cellK HK1 c4)
          | fail)
        refine (need_calls _ b.length (by omega)).mono ?_
        rintro e w' ⟨rfl, rfl⟩
        rw [← hm]
        clear hm
        go_wp2_with fail
        have hmsi : (D.most : Int) ≤ 100000 := by omega
        have husi : (used D.files : Int) ≤ 100000 := by omega
        have hms0 : (0 : Int) ≤ D.most := by omega
        have hus0 : (0 : Int) ≤ used D.files := by omega
        have hnd : needN b.length = m := HM.out.symm
        have HS : (fun (w' : World) => w'.cell? ⟨jb, 0, none⟩ = some (.pointer (some ⟨h.p, 0, none⟩))) w1.drew := Keeps.cellK HK1.drew c0
        refine wp_region_held_drew (S := (fun (w' : World) => w'.cell? ⟨jb, 0, none⟩ = some (.pointer (some ⟨h.p, 0, none⟩)))) (by kernel_rfl) HS (fun _ => ?_)
        first
          | (refine rg_skip 0 rfl (by kernel_rfl) (by kernel_rfl) (by kernel_rfl) (fun _ _ _ h => h) HS ?_ ?_; rfl)
          | (refine rg_take 0 (v := ?_) rfl (by kernel_rfl) (by kernel_rfl) (by kernel_rfl) (fun _ _ _ h => h) HS ?_ ?_ ?_; rotate_left; rfl; focus (intro w hSw; (try dsimp only at hSw); go_simp; all_goals (with_reducible rfl)))
        simp only [Act.put, List.setIfInBounds_toArray, List.set_cons_succ, List.set_cons_zero]
        first
          | (refine rg_skip 1 rfl (by kernel_rfl) (by kernel_rfl) (by kernel_rfl) (fun _ _ _ h => h) HS ?_ ?_; rfl)
          | (refine rg_take 1 (v := ?_) rfl (by kernel_rfl) (by kernel_rfl) (by kernel_rfl) (fun _ _ _ h => h) HS ?_ ?_ ?_; rotate_left; rfl; focus (intro w hSw; (try dsimp only at hSw); go_simp; all_goals (with_reducible rfl)))
        simp only [Act.put, List.setIfInBounds_toArray, List.set_cons_succ, List.set_cons_zero]
        first
          | (refine rg_skip 3 rfl (by kernel_rfl) (by kernel_rfl) (by kernel_rfl) (fun _ _ _ h => h) HS ?_ ?_; rfl)
          | (refine rg_take 3 (v := ?_) rfl (by kernel_rfl) (by kernel_rfl) (by kernel_rfl) (fun _ _ _ h => h) HS ?_ ?_ ?_; rotate_left; rfl; focus (intro w hSw; (try dsimp only at hSw); go_simp; all_goals (with_reducible rfl)))
        simp only [Act.put, List.setIfInBounds_toArray, List.set_cons_succ, List.set_cons_zero]
        first
          | (refine rg_skip 4 rfl (by kernel_rfl) (by kernel_rfl) (by kernel_rfl) (fun _ _ _ h => h) HS ?_ ?_; rfl)
          | (refine rg_take 4 (v := ?_) rfl (by kernel_rfl) (by kernel_rfl) (by kernel_rfl) (fun _ _ _ h => h) HS ?_ ?_ ?_; rotate_left; rfl; focus (intro w hSw; (try dsimp only at hSw); go_simp; all_goals (with_reducible rfl)))
        simp only [Act.put, List.setIfInBounds_toArray, List.set_cons_succ, List.set_cons_zero]
        first
          | (refine rg_skip 5 rfl (by kernel_rfl) (by kernel_rfl) (by kernel_rfl) (fun _ _ _ h => h) HS ?_ ?_; rfl)
          | (refine rg_take 5 (v := ?_) rfl (by kernel_rfl) (by kernel_rfl) (by kernel_rfl) (fun _ _ _ h => h) HS ?_ ?_ ?_; rotate_left; rfl; focus (intro w hSw; (try dsimp only at hSw); go_simp; all_goals (with_reducible rfl)))
        simp only [Act.put, List.setIfInBounds_toArray, List.set_cons_succ, List.set_cons_zero]
        first
          | (refine rg_skip 6 rfl (by kernel_rfl) (by kernel_rfl) (by kernel_rfl) (fun _ _ _ h => h) HS ?_ ?_; rfl)
          | (refine rg_take 6 (v := ?_) rfl (by kernel_rfl) (by kernel_rfl) (by kernel_rfl) (fun _ _ _ h => h) HS ?_ ?_ ?_; rotate_left; rfl; focus (intro w hSw; (try dsimp only at hSw); go_simp; all_goals (with_reducible rfl)))
        simp only [Act.put, List.setIfInBounds_toArray, List.set_cons_succ, List.set_cons_zero]
        first
          | (refine rg_skip 8 rfl (by kernel_rfl) (by kernel_rfl) (by kernel_rfl) (fun _ _ _ h => h) HS ?_ ?_; rfl)
          | (refine rg_take 8 (v := ?_) rfl (by kernel_rfl) (by kernel_rfl) (by kernel_rfl) (fun _ _ _ h => h) HS ?_ ?_ ?_; rotate_left; rfl; focus (intro w hSw; (try dsimp only at hSw); go_simp; all_goals (with_reducible rfl)))
        simp only [Act.put, List.setIfInBounds_toArray, List.set_cons_succ, List.set_cons_zero]
        first
          | (refine rg_skip 9 rfl (by kernel_rfl) (by kernel_rfl) (by kernel_rfl) (fun _ _ _ h => h) HS ?_ ?_; rfl)
          | (refine rg_take 9 (v := ?_) rfl (by kernel_rfl) (by kernel_rfl) (by kernel_rfl) (fun _ _ _ h => h) HS ?_ ?_ ?_; rotate_left; rfl; focus (intro w hSw; (try dsimp only at hSw); go_simp; all_goals (with_reducible rfl)))
        simp only [Act.put, List.setIfInBounds_toArray, List.set_cons_succ, List.set_cons_zero]
        first
          | (refine rg_skip 10 rfl (by kernel_rfl) (by kernel_rfl) (by kernel_rfl) (fun _ _ _ h => h) HS ?_ ?_; rfl)
          | (refine rg_take 10 (v := ?_) rfl (by kernel_rfl) (by kernel_rfl) (by kernel_rfl) (fun _ _ _ h => h) HS ?_ ?_ ?_; rotate_left; rfl; focus (intro w hSw; (try dsimp only at hSw); go_simp; all_goals (with_reducible rfl)))
        simp only [Act.put, List.setIfInBounds_toArray, List.set_cons_succ, List.set_cons_zero]
        first
          | (refine rg_skip 11 rfl (by kernel_rfl) (by kernel_rfl) (by kernel_rfl) (fun _ _ _ h => h) HS ?_ ?_; rfl)
          | (refine rg_take 11 (v := ?_) rfl (by kernel_rfl) (by kernel_rfl) (by kernel_rfl) (fun _ _ _ h => h) HS ?_ ?_ ?_; rotate_left; rfl; focus (intro w hSw; (try dsimp only at hSw); go_simp; all_goals (with_reducible rfl)))
        simp only [Act.put, List.setIfInBounds_toArray, List.set_cons_succ, List.set_cons_zero]
        refine rg_one 2 rfl (by kernel_rfl) (by rfl) ?_
        refine rg_call 63 _ _ rfl _ Try.func63 (by kernel_rfl) (by kernel_rfl) [.int .i64 b.length] rfl (need_calls w1.drew b.length (by omega)) ?_
        rintro e wx ⟨rfl, rfl⟩
        rw [hnd]
        refine ⟨_, rfl, HS, ?_⟩
        simp only [Act.put, List.setIfInBounds_toArray, List.set_cons_succ, List.set_cons_zero]
        have hdd := (HD.out.new HK1).drew
        refine rg_one 7 rfl (by kernel_rfl) (by rfl) ?_
        refine rg_call 74 _ _ rfl _ Try.func74 (by kernel_rfl) (by kernel_rfl) [.pointer (some ⟨h.p, 0, none⟩)] rfl (most_calls w1.drew h D hdd) ?_
        rintro e wx ⟨rfl, rfl⟩
        refine ⟨_, rfl, HS, ?_⟩
        simp only [Act.put, List.setIfInBounds_toArray, List.set_cons_succ, List.set_cons_zero]
        refine rg_one 12 rfl (by kernel_rfl) (by rfl) ?_
        refine rg_call 32 _ _ rfl _ Try.func32 (by kernel_rfl) (by kernel_rfl) [.pointer (some ⟨h.p, 0, none⟩)] rfl (used_calls w1.drew h D hdd) ?_
        rintro e wx ⟨rfl, rfl⟩
        refine ⟨_, rfl, HS, ?_⟩
        simp only [Act.put, List.setIfInBounds_toArray, List.set_cons_succ, List.set_cons_zero]
        have hsub : IntKind.i64.wrap ((D.most : Int) - (used D.files : Int)) = (D.most : Int) - (used D.files : Int) := i64_smallK _ (by omega) (by omega)
        first
          | (refine rg_skip 13 rfl (by kernel_rfl) (by kernel_rfl) (by kernel_rfl) (fun _ _ _ h => h) HS ?_ ?_; rfl)
          | (refine rg_take 13 (v := ?_) rfl (by kernel_rfl) (by kernel_rfl) (by kernel_rfl) (fun _ _ _ h => h) HS ?_ ?_ ?_; rotate_left; rfl; focus (intro w hSw; (try dsimp only at hSw); go_simp; all_goals (with_reducible rfl)))
        simp only [Act.put, List.setIfInBounds_toArray, List.set_cons_succ, List.set_cons_zero]
        first
          | (refine rg_skip 14 rfl (by kernel_rfl) (by kernel_rfl) (by kernel_rfl) (fun _ _ _ h => h) HS ?_ ?_; rfl)
          | (refine rg_take 14 (v := ?_) rfl (by kernel_rfl) (by kernel_rfl) (by kernel_rfl) (fun _ _ _ h => h) HS ?_ ?_ ?_; rotate_left; rfl; focus (intro w hSw; (try dsimp only at hSw); go_simp; all_goals (with_reducible rfl)))
        simp only [Act.put, List.setIfInBounds_toArray, List.set_cons_succ, List.set_cons_zero]
        first
          | (refine rg_skip 15 rfl (by kernel_rfl) (by kernel_rfl) (by kernel_rfl) (fun _ _ _ h => h) HS ?_ ?_; rfl)
          | (refine rg_take 15 (v := ?_) rfl (by kernel_rfl) (by kernel_rfl) (by kernel_rfl) (fun _ _ _ h => h) HS ?_ ?_ ?_; rotate_left; rfl; focus (intro w hSw; (try dsimp only at hSw); go_simp; all_goals (with_reducible rfl)))
        simp only [Act.put, List.setIfInBounds_toArray, List.set_cons_succ, List.set_cons_zero]
        refine wpAnyH_done (by kernel_rfl) ?_ _
        clear hnd hdd
        have HB6d : w1.drew.heap[b6]? = some (.cells btZ 94 (0, 0)) := HB6
        go_wp2_with (first
          | ((with_reducible refine gd_build 94 ?_); refine wl_build0 rfl _ rfl _ buildBt0 ?_)
          | ((with_reducible refine gd_store 94 ?_); refine wl_store_agg rfl _ _ _ rfl b6 _ rfl _ _ HB6d btZ rfl btZ (store_bt _ _ _ _ _ _ _ _ _ _) (le_bt _ _ _ _ _ _ _ _ _ _) (infoBt _ _ _ _ _) (btA_one rfl) ?_; intro w2 HB62 HK2)
          | fail)
        refine bodyPost_ret (v := .tuple #[.agg btZ, .int .i64 6]) ?_ rfl ?_
        · exact results_two rfl _ _ b6 _ _ _ _ rfl rfl HB62 _ Try.underlying94 rfl (infoBt _ _ _ _ _)
        · have hk : Keeps w w2 (fun _ => False) := HK1.drew.then HK2 (fun i hi e => absurd hb6 (by rw [← show i = b6 from e]; exact Nat.not_le.2 hi))
          exact append_bad HAP.out (by decide) (HD.out.new hk) (hk.blk HJ.out id) (hk.mono (fun _ _ h => h.elim))
end Go.Proofs.Ytadjcdfmppcpnaa

namespace Go.Proofs.Ytadjcdfmppcpnaa
open Go Go.RowKit Go.Maps Wb

set_option maxRecDepth 100000 in
theorem buildBt1 (s k : Nat) (a : Option Addr) (n c : Nat) (f p : Nat) (w : World) : (Instr.build 94 #[(0, .int .u64 ((s : Int) + 1)), (1, .int .i64 k), (2, .slice a n c), (3, .int .i64 f), (4, .int .i64 p)]).run Try.prog w = .ok (.agg (btA (s + 1) k (.slice a n c) f p)) w := by
  first | kernel_rfl | rfl
theorem wp_alloc_aggJ {o : Oper} {a : Act} {w : World} {K : Act → World → Prop} {Q : Exit → Act → World → Prop} (ty : TypeId) (hop : o.op = .alloc ty) (Z : Array Value) (hz : ∀ w, (zeroValue ty).run Try.prog w = .ok (.agg Z) w)
    (hK : ∀ b w', w.heap.size ≤ b → w'.heap[b]? = some (.cells Z ty (0, 0)) → Keeps w w' (fun _ => False) → K (a.put o.dst (.pointer (some ⟨b, 0, none⟩))) w') : o.wp Try.prog a w K Q := by
  have hr : (Instr.alloc ty true (.tuple #[])).run Try.prog w = .ok (.pointer (some ⟨w.heap.size, 0, none⟩)) (w.alloc (.cells Z ty)) := by
    simp [Instr.alloc, Sem.run_bind, hz, newVar, newRow, newObj, Sem.run, Value.cells]
  unfold Oper.wp execOp
  simp only [hop, hr, Sem.run_bind, Sem.run_pure, Result.andThen_ok]
  exact hK _ _ (Nat.le_refl _) (Go.MapKept.heap_alloc w _).1 ((Keeps.refl w _).alloc _)
theorem next_grow {s : JD} (h : s.j.seq < 2 ^ 64) : (nextJ s).1.j.seq = s.j.seq := by
  unfold nextJ
  split
  · rfl
  · split
    · rfl
    · split <;> rfl
theorem turn_seq (s : JD) : (turnJ s).1.j.seq = s.j.seq := by
  unfold turnJ nextJ
  split
  · split
    · rfl
    · split
      · rfl
      · split <;> rfl
  · rfl
theorem turn_file (s : JD) (h : s.j.file ≤ 1000000) (h' : s.j.next ≤ 1000000) : (turnJ s).1.j.file ≤ 1000000 := by
  unfold turnJ nextJ
  split
  · split
    · exact h
    · split
      · exact h
      · split
        · exact h
        · exact h'
  · exact h

set_option maxRecDepth 100000 in
set_option maxHeartbeats 16000000 in
theorem append_go (w : World) (h : DH) (jb : Nat) (D : Dv) (J : Jr) (hj : isJr w jb h J) (hjS : ¬ h.S jb) (hd : isDev w h D) (kind : Nat) (bv : Value) (b : List UInt8) (hb : isArgB w bv b) (hbS : ∀ g, bv.ownBlock = some g → ¬ h.S g ∧ g ≠ jb) (hbl : b.length ≤ 1000000) (hsq : J.seq < 2 ^ 64) (hnx : J.next ≤ 1000000) (hfi : J.file ≤ 1000000) (hpre : appendPre ⟨D, J⟩ kind b.length = 0) :
    Calls Try.prog 59 #[.pointer (some ⟨jb, 0, none⟩), .int .i64 kind, bv] w (AppendPost w h jb ⟨D, J⟩ kind b) := by
  have hap : appendJ ⟨D, J⟩ kind b = if (turnJ ⟨D, J⟩).2 ≠ 0 then turnJ ⟨D, J⟩ else putJ (turnJ ⟨D, J⟩).1 kind b := by unfold appendJ; rw [if_neg (by rw [hpre]; simp), Int.toNat_natCast]
  have hpp : J.dead = false ∧ 1 ≤ kind ∧ kind ≤ 255 ∧ needN b.length ≤ 4096 ∧ J.seq ≠ 18446744073709551615 ∧ (needN b.length : Int) ≤ (D.most : Int) - (used D.files : Int) := by
    unfold appendPre at hpre
    simp only at hpre
    split at hpre
    · cases hpre
    · rename_i h1
      split at hpre
      · cases hpre
      · split at hpre
        · cases hpre
        · split at hpre
          · cases hpre
          · refine ⟨by simpa using h1, ?_, ?_, ?_, ?_, ?_⟩ <;> omega
  obtain ⟨hdf, hk1, hk9, hnn, hsm, hroom⟩ := hpp
  obtain ⟨seq, file, next, dead⟩ := J
  simp only at hdf hsm hsq hnx hfi
  subst hdf
  have c0 : w.cell? ⟨jb, 0, none⟩ = some (.pointer (some ⟨h.p, 0, none⟩)) := by rw [cell_of_block hj]; rfl
  have c1 : w.cell? ⟨jb, 1, none⟩ = some (.int .u64 seq) := by rw [cell_of_block hj]; rfl
  have c4 : w.cell? ⟨jb, 4, none⟩ = some (.bool false) := by rw [cell_of_block hj]; rfl
  have HD := Lib.hid hd
  have HJ := Lib.hid hj
  have hbi : (b.length : Int) ≤ 1000000 := by omega
  have hmost := hd.wf.most
  have husd := hd.wf.used
  have HAP := Lib.hid hap
  have HBV := Lib.hid hb
  have HBS := Lib.hid hbS
  obtain ⟨ba, bc, rfl, _⟩ := id hb.1
  rw [octs_len] at HBV HBS ⊢
  clear hj hd hb hap hpre hbS
  have h1 : decide ((kind : Int) < 1) = false := by simp; omega
  have h2 : decide (255 < (kind : Int)) = false := by simp; omega
  obtain ⟨m, hm⟩ : ∃ m, m = needN b.length := ⟨_, rfl⟩
  have HM := Lib.hid hm
  have hmi : (m : Int) ≤ 4096 := by omega
  have h3 : decide (4096 < (m : Int)) = false := by simp; omega
  have h4 : ((seq : Int) == 18446744073709551615) = false := by simp; omega
  have h5 : decide ((D.most : Int) - (used D.files : Int) < (m : Int)) = false := by simp; omega
  have hki : (kind : Int) ≤ 255 := by omega
  have hki1 : (1 : Int) ≤ kind := by omega
  go_enter Try.func59, Try.ntmps59
  go_wp2_with (first
    | ((with_reducible refine gd_alloc 94 ?_); refine wl_alloc_agg rfl _ rfl _ zeroBt ?_; intro b6 w1 hb6 HB6 HK1; have d1 : w1.cell? ⟨jb, 1, none⟩ = some (.int .u64 seq) := Keeps.cellK HK1 c1; have d4 : w1.cell? ⟨jb, 4, none⟩ = some (.bool false) := Keeps.cellK HK1 c4)
    | fail)
  refine (need_calls _ b.length (by omega)).mono ?_
  rintro e w' ⟨rfl, rfl⟩
  rw [← hm]
  clear hm hroom
  go_wp2_with fail
  have hmsi : (D.most : Int) ≤ 100000 := by omega
  have husi : (used D.files : Int) ≤ 100000 := by omega
  have hms0 : (0 : Int) ≤ D.most := by omega
  have hus0 : (0 : Int) ≤ used D.files := by omega
  have hnd : needN b.length = m := HM.out.symm
  have HS : (fun (w' : World) => w'.cell? ⟨jb, 0, none⟩ = some (.pointer (some ⟨h.p, 0, none⟩))) w1.drew := Keeps.cellK HK1.drew c0
  refine wp_region_held_drew (S := (fun (w' : World) => w'.cell? ⟨jb, 0, none⟩ = some (.pointer (some ⟨h.p, 0, none⟩)))) (by kernel_rfl) HS (fun _ => ?_)
  first
    | (refine rg_skip 0 rfl (by kernel_rfl) (by kernel_rfl) (by kernel_rfl) (fun _ _ _ h => h) HS ?_ ?_; rfl)
    | (refine rg_take 0 (v := ?_) rfl (by kernel_rfl) (by kernel_rfl) (by kernel_rfl) (fun _ _ _ h => h) HS ?_ ?_ ?_; rotate_left; rfl; focus (intro w hSw; (try dsimp only at hSw); go_simp; all_goals (with_reducible rfl)))
  simp only [Act.put, List.setIfInBounds_toArray, List.set_cons_succ, List.set_cons_zero]
  first
    | (refine rg_skip 1 rfl (by kernel_rfl) (by kernel_rfl) (by kernel_rfl) (fun _ _ _ h => h) HS ?_ ?_; rfl)
    | (refine rg_take 1 (v := ?_) rfl (by kernel_rfl) (by kernel_rfl) (by kernel_rfl) (fun _ _ _ h => h) HS ?_ ?_ ?_; rotate_left; rfl; focus (intro w hSw; (try dsimp only at hSw); go_simp; all_goals (with_reducible rfl)))
  simp only [Act.put, List.setIfInBounds_toArray, List.set_cons_succ, List.set_cons_zero]
  first
    | (refine rg_skip 3 rfl (by kernel_rfl) (by kernel_rfl) (by kernel_rfl) (fun _ _ _ h => h) HS ?_ ?_; rfl)
    | (refine rg_take 3 (v := ?_) rfl (by kernel_rfl) (by kernel_rfl) (by kernel_rfl) (fun _ _ _ h => h) HS ?_ ?_ ?_; rotate_left; rfl; focus (intro w hSw; (try dsimp only at hSw); go_simp; all_goals (with_reducible rfl)))
  simp only [Act.put, List.setIfInBounds_toArray, List.set_cons_succ, List.set_cons_zero]
  first
    | (refine rg_skip 4 rfl (by kernel_rfl) (by kernel_rfl) (by kernel_rfl) (fun _ _ _ h => h) HS ?_ ?_; rfl)
    | (refine rg_take 4 (v := ?_) rfl (by kernel_rfl) (by kernel_rfl) (by kernel_rfl) (fun _ _ _ h => h) HS ?_ ?_ ?_; rotate_left; rfl; focus (intro w hSw; (try dsimp only at hSw); go_simp; all_goals (with_reducible rfl)))
  simp only [Act.put, List.setIfInBounds_toArray, List.set_cons_succ, List.set_cons_zero]
  first
    | (refine rg_skip 5 rfl (by kernel_rfl) (by kernel_rfl) (by kernel_rfl) (fun _ _ _ h => h) HS ?_ ?_; rfl)
    | (refine rg_take 5 (v := ?_) rfl (by kernel_rfl) (by kernel_rfl) (by kernel_rfl) (fun _ _ _ h => h) HS ?_ ?_ ?_; rotate_left; rfl; focus (intro w hSw; (try dsimp only at hSw); go_simp; all_goals (with_reducible rfl)))
  simp only [Act.put, List.setIfInBounds_toArray, List.set_cons_succ, List.set_cons_zero]
  first
    | (refine rg_skip 6 rfl (by kernel_rfl) (by kernel_rfl) (by kernel_rfl) (fun _ _ _ h => h) HS ?_ ?_; rfl)
    | (refine rg_take 6 (v := ?_) rfl (by kernel_rfl) (by kernel_rfl) (by kernel_rfl) (fun _ _ _ h => h) HS ?_ ?_ ?_; rotate_left; rfl; focus (intro w hSw; (try dsimp only at hSw); go_simp; all_goals (with_reducible rfl)))
  simp only [Act.put, List.setIfInBounds_toArray, List.set_cons_succ, List.set_cons_zero]
  first
    | (refine rg_skip 8 rfl (by kernel_rfl) (by kernel_rfl) (by kernel_rfl) (fun _ _ _ h => h) HS ?_ ?_; rfl)
    | (refine rg_take 8 (v := ?_) rfl (by kernel_rfl) (by kernel_rfl) (by kernel_rfl) (fun _ _ _ h => h) HS ?_ ?_ ?_; rotate_left; rfl; focus (intro w hSw; (try dsimp only at hSw); go_simp; all_goals (with_reducible rfl)))
  simp only [Act.put, List.setIfInBounds_toArray, List.set_cons_succ, List.set_cons_zero]
  first
    | (refine rg_skip 9 rfl (by kernel_rfl) (by kernel_rfl) (by kernel_rfl) (fun _ _ _ h => h) HS ?_ ?_; rfl)
    | (refine rg_take 9 (v := ?_) rfl (by kernel_rfl) (by kernel_rfl) (by kernel_rfl) (fun _ _ _ h => h) HS ?_ ?_ ?_; rotate_left; rfl; focus (intro w hSw; (try dsimp only at hSw); go_simp; all_goals (with_reducible rfl)))
  simp only [Act.put, List.setIfInBounds_toArray, List.set_cons_succ, List.set_cons_zero]
  first
    | (refine rg_skip 10 rfl (by kernel_rfl) (by kernel_rfl) (by kernel_rfl) (fun _ _ _ h => h) HS ?_ ?_; rfl)
    | (refine rg_take 10 (v := ?_) rfl (by kernel_rfl) (by kernel_rfl) (by kernel_rfl) (fun _ _ _ h => h) HS ?_ ?_ ?_; rotate_left; rfl; focus (intro w hSw; (try dsimp only at hSw); go_simp; all_goals (with_reducible rfl)))
  simp only [Act.put, List.setIfInBounds_toArray, List.set_cons_succ, List.set_cons_zero]
  first
    | (refine rg_skip 11 rfl (by kernel_rfl) (by kernel_rfl) (by kernel_rfl) (fun _ _ _ h => h) HS ?_ ?_; rfl)
    | (refine rg_take 11 (v := ?_) rfl (by kernel_rfl) (by kernel_rfl) (by kernel_rfl) (fun _ _ _ h => h) HS ?_ ?_ ?_; rotate_left; rfl; focus (intro w hSw; (try dsimp only at hSw); go_simp; all_goals (with_reducible rfl)))
  simp only [Act.put, List.setIfInBounds_toArray, List.set_cons_succ, List.set_cons_zero]
  refine rg_one 2 rfl (by kernel_rfl) (by rfl) ?_
  refine rg_call 63 _ _ rfl _ Try.func63 (by kernel_rfl) (by kernel_rfl) [.int .i64 b.length] rfl (need_calls w1.drew b.length (by omega)) ?_
  rintro e wx ⟨rfl, rfl⟩
  rw [hnd]
  refine ⟨_, rfl, HS, ?_⟩
  simp only [Act.put, List.setIfInBounds_toArray, List.set_cons_succ, List.set_cons_zero]
  have hdd := (HD.out.new HK1).drew
  refine rg_one 7 rfl (by kernel_rfl) (by rfl) ?_
  refine rg_call 74 _ _ rfl _ Try.func74 (by kernel_rfl) (by kernel_rfl) [.pointer (some ⟨h.p, 0, none⟩)] rfl (most_calls w1.drew h D hdd) ?_
  rintro e wx ⟨rfl, rfl⟩
  refine ⟨_, rfl, HS, ?_⟩
  simp only [Act.put, List.setIfInBounds_toArray, List.set_cons_succ, List.set_cons_zero]
  refine rg_one 12 rfl (by kernel_rfl) (by rfl) ?_
  refine rg_call 32 _ _ rfl _ Try.func32 (by kernel_rfl) (by kernel_rfl) [.pointer (some ⟨h.p, 0, none⟩)] rfl (used_calls w1.drew h D hdd) ?_
  rintro e wx ⟨rfl, rfl⟩
  refine ⟨_, rfl, HS, ?_⟩
  simp only [Act.put, List.setIfInBounds_toArray, List.set_cons_succ, List.set_cons_zero]
  have hsub : IntKind.i64.wrap ((D.most : Int) - (used D.files : Int)) = (D.most : Int) - (used D.files : Int) := i64_smallK _ (by omega) (by omega)
  first
    | (refine rg_skip 13 rfl (by kernel_rfl) (by kernel_rfl) (by kernel_rfl) (fun _ _ _ h => h) HS ?_ ?_; rfl)
    | (refine rg_take 13 (v := ?_) rfl (by kernel_rfl) (by kernel_rfl) (by kernel_rfl) (fun _ _ _ h => h) HS ?_ ?_ ?_; rotate_left; rfl; focus (intro w hSw; (try dsimp only at hSw); go_simp; all_goals (with_reducible rfl)))
  simp only [Act.put, List.setIfInBounds_toArray, List.set_cons_succ, List.set_cons_zero]
  first
    | (refine rg_skip 14 rfl (by kernel_rfl) (by kernel_rfl) (by kernel_rfl) (fun _ _ _ h => h) HS ?_ ?_; rfl)
    | (refine rg_take 14 (v := ?_) rfl (by kernel_rfl) (by kernel_rfl) (by kernel_rfl) (fun _ _ _ h => h) HS ?_ ?_ ?_; rotate_left; rfl; focus (intro w hSw; (try dsimp only at hSw); go_simp; all_goals (with_reducible rfl)))
  simp only [Act.put, List.setIfInBounds_toArray, List.set_cons_succ, List.set_cons_zero]
  first
    | (refine rg_skip 15 rfl (by kernel_rfl) (by kernel_rfl) (by kernel_rfl) (fun _ _ _ h => h) HS ?_ ?_; rfl)
    | (refine rg_take 15 (v := ?_) rfl (by kernel_rfl) (by kernel_rfl) (by kernel_rfl) (fun _ _ _ h => h) HS ?_ ?_ ?_; rotate_left; rfl; focus (intro w hSw; (try dsimp only at hSw); go_simp; all_goals (with_reducible rfl)))
  simp only [Act.put, List.setIfInBounds_toArray, List.set_cons_succ, List.set_cons_zero]
  refine wpAnyH_done (by kernel_rfl) ?_ _
  clear hnd hdd HS
  go_wp2_with fail
  obtain ⟨w2, hw2⟩ : ∃ w2, w2 = w1.drew := ⟨_, rfl⟩
  have hk2 : Keeps w w2 (fun _ => False) := by rw [hw2]; exact HK1.drew
  have HB62 : Hid (w2.heap[b6]? = some (.cells btZ 94 (0, 0))) := Lib.hid (by rw [hw2]; exact HB6)
  rw [← hw2]
  have HK2 := Lib.hid hk2
  have HJ2 := Lib.hid (hk2.blk HJ.out id)
  have HD2 := Lib.hid (HD.out.new hk2)
  have hnmf : nameI (file : Int) = nmOf file := nameI_nat file
  have hfi9 : (file : Int) ≤ 1000000 := by omega
  have hfi0 : (0 : Int) ≤ file := by omega
  have hln := len_small HD.out.wf (nmOf file)
  have hlni : (D.len (nmOf file) : Int) ≤ 100000 := by omega
  have e0 : w2.cell? ⟨jb, 0, none⟩ = some (.pointer (some ⟨h.p, 0, none⟩)) := by rw [cell_of_block HJ2.out]; rfl
  have e2 : w2.cell? ⟨jb, 2, none⟩ = some (.int .i64 file) := by rw [cell_of_block HJ2.out]; rfl
  clear hw2 hk2 HB6 HK1 d1 d4 c0 c1 c4 h5 hsub hmost husd hmsi husi hms0 hus0
  go_cut [73] (fun v wx => v = .bool (turnB ⟨D, ⟨seq, file, next, false⟩⟩) ∧ Hid (Keeps w2 wx (fun _ => False)))
  case first =>
    as_aux_lemma =>
    have HS : (fun (w' : World) => w'.cell? ⟨jb, 0, none⟩ = some (.pointer (some ⟨h.p, 0, none⟩)) ∧ w'.cell? ⟨jb, 2, none⟩ = some (.int .i64 file)) w2.drew := ⟨e0, e2⟩
    by_cases hf : file = 0
    · as_aux_lemma =>
      have hfb : ((file : Int) == 0) = true := by simp; omega
      have HT : Hid (turnB ⟨D, ⟨seq, file, next, false⟩⟩ = true) := Lib.hid (by unfold turnB; simp [hf])
      clear hf
      refine wp_region_held_drew (S := (fun (w' : World) => w'.cell? ⟨jb, 0, none⟩ = some (.pointer (some ⟨h.p, 0, none⟩)) ∧ w'.cell? ⟨jb, 2, none⟩ = some (.int .i64 file))) (by kernel_rfl) HS (fun _ => ?_)
      first
        | (refine rg_skip 0 rfl (by kernel_rfl) (by kernel_rfl) (by kernel_rfl) (fun _ _ _ h => h) HS ?_ ?_; rfl)
        | (refine rg_take 0 (v := ?_) rfl (by kernel_rfl) (by kernel_rfl) (by kernel_rfl) (fun _ _ _ h => h) HS ?_ ?_ ?_; rotate_left; rfl; focus (intro w hSw; (try dsimp only at hSw); go_simp; all_goals (with_reducible rfl)))
      simp only [Act.put, List.setIfInBounds_toArray, List.set_cons_succ, List.set_cons_zero]
      first
        | (refine rg_skip 1 rfl (by kernel_rfl) (by kernel_rfl) (by kernel_rfl) (fun _ _ _ h => h) HS ?_ ?_; rfl)
        | (refine rg_take 1 (v := ?_) rfl (by kernel_rfl) (by kernel_rfl) (by kernel_rfl) (fun _ _ _ h => h) HS ?_ ?_ ?_; rotate_left; rfl; focus (intro w hSw; (try dsimp only at hSw); go_simp; all_goals (with_reducible rfl)))
      simp only [Act.put, List.setIfInBounds_toArray, List.set_cons_succ, List.set_cons_zero]
      first
        | (refine rg_skip 2 rfl (by kernel_rfl) (by kernel_rfl) (by kernel_rfl) (fun _ _ _ h => h) HS ?_ ?_; rfl)
        | (refine rg_take 2 (v := ?_) rfl (by kernel_rfl) (by kernel_rfl) (by kernel_rfl) (fun _ _ _ h => h) HS ?_ ?_ ?_; rotate_left; rfl; focus (intro w hSw; (try dsimp only at hSw); go_simp; all_goals (with_reducible rfl)))
      simp only [Act.put, List.setIfInBounds_toArray, List.set_cons_succ, List.set_cons_zero]
      first
        | (refine rg_skip 3 rfl (by kernel_rfl) (by kernel_rfl) (by kernel_rfl) (fun _ _ _ h => h) HS ?_ ?_; rfl)
        | (refine rg_take 3 (v := ?_) rfl (by kernel_rfl) (by kernel_rfl) (by kernel_rfl) (fun _ _ _ h => h) HS ?_ ?_ ?_; rotate_left; rfl; focus (intro w hSw; (try dsimp only at hSw); go_simp; all_goals (with_reducible rfl)))
      simp only [Act.put, List.setIfInBounds_toArray, List.set_cons_succ, List.set_cons_zero]
      first
        | (refine rg_skip 4 rfl (by kernel_rfl) (by kernel_rfl) (by kernel_rfl) (fun _ _ _ h => h) HS ?_ ?_; rfl)
        | (refine rg_take 4 (v := ?_) rfl (by kernel_rfl) (by kernel_rfl) (by kernel_rfl) (fun _ _ _ h => h) HS ?_ ?_ ?_; rotate_left; rfl; focus (intro w hSw; (try dsimp only at hSw); go_simp; all_goals (with_reducible rfl)))
      simp only [Act.put, List.setIfInBounds_toArray, List.set_cons_succ, List.set_cons_zero]
      first
        | (refine rg_skip 5 rfl (by kernel_rfl) (by kernel_rfl) (by kernel_rfl) (fun _ _ _ h => h) HS ?_ ?_; rfl)
        | (refine rg_take 5 (v := ?_) rfl (by kernel_rfl) (by kernel_rfl) (by kernel_rfl) (fun _ _ _ h => h) HS ?_ ?_ ?_; rotate_left; rfl; focus (intro w hSw; (try dsimp only at hSw); go_simp; all_goals (with_reducible rfl)))
      simp only [Act.put, List.setIfInBounds_toArray, List.set_cons_succ, List.set_cons_zero]
      first
        | (refine rg_skip 6 rfl (by kernel_rfl) (by kernel_rfl) (by kernel_rfl) (fun _ _ _ h => h) HS ?_ ?_; rfl)
        | (refine rg_take 6 (v := ?_) rfl (by kernel_rfl) (by kernel_rfl) (by kernel_rfl) (fun _ _ _ h => h) HS ?_ ?_ ?_; rotate_left; rfl; focus (intro w hSw; (try dsimp only at hSw); go_simp; all_goals (with_reducible rfl)))
      simp only [Act.put, List.setIfInBounds_toArray, List.set_cons_succ, List.set_cons_zero]
      first
        | (refine rg_skip 7 rfl (by kernel_rfl) (by kernel_rfl) (by kernel_rfl) (fun _ _ _ h => h) HS ?_ ?_; rfl)
        | (refine rg_take 7 (v := ?_) rfl (by kernel_rfl) (by kernel_rfl) (by kernel_rfl) (fun _ _ _ h => h) HS ?_ ?_ ?_; rotate_left; rfl; focus (intro w hSw; (try dsimp only at hSw); go_simp; all_goals (with_reducible rfl)))
      simp only [Act.put, List.setIfInBounds_toArray, List.set_cons_succ, List.set_cons_zero]
      first
        | (refine rg_skip 8 rfl (by kernel_rfl) (by kernel_rfl) (by kernel_rfl) (fun _ _ _ h => h) HS ?_ ?_; rfl)
        | (refine rg_take 8 (v := ?_) rfl (by kernel_rfl) (by kernel_rfl) (by kernel_rfl) (fun _ _ _ h => h) HS ?_ ?_ ?_; rotate_left; rfl; focus (intro w hSw; (try dsimp only at hSw); go_simp; all_goals (with_reducible rfl)))
      simp only [Act.put, List.setIfInBounds_toArray, List.set_cons_succ, List.set_cons_zero]
      first
        | (refine rg_skip 9 rfl (by kernel_rfl) (by kernel_rfl) (by kernel_rfl) (fun _ _ _ h => h) HS ?_ ?_; rfl)
        | (refine rg_take 9 (v := ?_) rfl (by kernel_rfl) (by kernel_rfl) (by kernel_rfl) (fun _ _ _ h => h) HS ?_ ?_ ?_; rotate_left; rfl; focus (intro w hSw; (try dsimp only at hSw); go_simp; all_goals (with_reducible rfl)))
      simp only [Act.put, List.setIfInBounds_toArray, List.set_cons_succ, List.set_cons_zero]
      first
        | (refine rg_skip 10 rfl (by kernel_rfl) (by kernel_rfl) (by kernel_rfl) (fun _ _ _ h => h) HS ?_ ?_; rfl)
        | (refine rg_take 10 (v := ?_) rfl (by kernel_rfl) (by kernel_rfl) (by kernel_rfl) (fun _ _ _ h => h) HS ?_ ?_ ?_; rotate_left; rfl; focus (intro w hSw; (try dsimp only at hSw); go_simp; all_goals (with_reducible rfl)))
      simp only [Act.put, List.setIfInBounds_toArray, List.set_cons_succ, List.set_cons_zero]
      first
        | (refine rg_skip 11 rfl (by kernel_rfl) (by kernel_rfl) (by kernel_rfl) (fun _ _ _ h => h) HS ?_ ?_; rfl)
        | (refine rg_take 11 (v := ?_) rfl (by kernel_rfl) (by kernel_rfl) (by kernel_rfl) (fun _ _ _ h => h) HS ?_ ?_ ?_; rotate_left; rfl; focus (intro w hSw; (try dsimp only at hSw); go_simp; all_goals (with_reducible rfl)))
      simp only [Act.put, List.setIfInBounds_toArray, List.set_cons_succ, List.set_cons_zero]
      first
        | (refine rg_skip 12 rfl (by kernel_rfl) (by kernel_rfl) (by kernel_rfl) (fun _ _ _ h => h) HS ?_ ?_; rfl)
        | (refine rg_take 12 (v := ?_) rfl (by kernel_rfl) (by kernel_rfl) (by kernel_rfl) (fun _ _ _ h => h) HS ?_ ?_ ?_; rotate_left; rfl; focus (intro w hSw; (try dsimp only at hSw); go_simp; all_goals (with_reducible rfl)))
      simp only [Act.put, List.setIfInBounds_toArray, List.set_cons_succ, List.set_cons_zero]
      first
        | (refine rg_skip 13 rfl (by kernel_rfl) (by kernel_rfl) (by kernel_rfl) (fun _ _ _ h => h) HS ?_ ?_; rfl)
        | (refine rg_take 13 (v := ?_) rfl (by kernel_rfl) (by kernel_rfl) (by kernel_rfl) (fun _ _ _ h => h) HS ?_ ?_ ?_; rotate_left; rfl; focus (intro w hSw; (try dsimp only at hSw); go_simp; all_goals (with_reducible rfl)))
      simp only [Act.put, List.setIfInBounds_toArray, List.set_cons_succ, List.set_cons_zero]
      first
        | (refine rg_skip 14 rfl (by kernel_rfl) (by kernel_rfl) (by kernel_rfl) (fun _ _ _ h => h) HS ?_ ?_; rfl)
        | (refine rg_take 14 (v := ?_) rfl (by kernel_rfl) (by kernel_rfl) (by kernel_rfl) (fun _ _ _ h => h) HS ?_ ?_ ?_; rotate_left; rfl; focus (intro w hSw; (try dsimp only at hSw); go_simp; all_goals (with_reducible rfl)))
      simp only [Act.put, List.setIfInBounds_toArray, List.set_cons_succ, List.set_cons_zero]
      first
        | (refine rg_skip 15 rfl (by kernel_rfl) (by kernel_rfl) (by kernel_rfl) (fun _ _ _ h => h) HS ?_ ?_; rfl)
        | (refine rg_take 15 (v := ?_) rfl (by kernel_rfl) (by kernel_rfl) (by kernel_rfl) (fun _ _ _ h => h) HS ?_ ?_ ?_; rotate_left; rfl; focus (intro w hSw; (try dsimp only at hSw); go_simp; all_goals (with_reducible rfl)))
      simp only [Act.put, List.setIfInBounds_toArray, List.set_cons_succ, List.set_cons_zero]
      first
        | (refine rg_skip 16 rfl (by kernel_rfl) (by kernel_rfl) (by kernel_rfl) (fun _ _ _ h => h) HS ?_ ?_; rfl)
        | (refine rg_take 16 (v := ?_) rfl (by kernel_rfl) (by kernel_rfl) (by kernel_rfl) (fun _ _ _ h => h) HS ?_ ?_ ?_; rotate_left; rfl; focus (intro w hSw; (try dsimp only at hSw); go_simp; all_goals (with_reducible rfl)))
      simp only [Act.put, List.setIfInBounds_toArray, List.set_cons_succ, List.set_cons_zero]
      first
        | (refine rg_skip 17 rfl (by kernel_rfl) (by kernel_rfl) (by kernel_rfl) (fun _ _ _ h => h) HS ?_ ?_; rfl)
        | (refine rg_take 17 (v := ?_) rfl (by kernel_rfl) (by kernel_rfl) (by kernel_rfl) (fun _ _ _ h => h) HS ?_ ?_ ?_; rotate_left; rfl; focus (intro w hSw; (try dsimp only at hSw); go_simp; all_goals (with_reducible rfl)))
      simp only [Act.put, List.setIfInBounds_toArray, List.set_cons_succ, List.set_cons_zero]
      refine wpAnyH_done (by kernel_rfl) ?_ _
      go_step
      go_step
      go_meet
      exact ⟨by rw [HT.out], Lib.hid (Keeps.refl w2 _).drew⟩
    · as_aux_lemma =>
      have hfb : ((file : Int) == 0) = false := by simp; omega
      have HT : Hid (turnB ⟨D, ⟨seq, file, next, false⟩⟩ = decide ((256 : Int) ≤ (D.len (nmOf file) : Int))) := Lib.hid (by
        unfold turnB
        simp only [hf, decide_false, Bool.false_or]
        by_cases h9 : 256 ≤ D.len (nmOf file)
        · rw [decide_eq_true h9, decide_eq_true (by omega)]
        · rw [decide_eq_false h9, decide_eq_false (by omega)])
      clear hf
      refine wp_region_held_drew (S := (fun (w' : World) => w'.cell? ⟨jb, 0, none⟩ = some (.pointer (some ⟨h.p, 0, none⟩)) ∧ w'.cell? ⟨jb, 2, none⟩ = some (.int .i64 file))) (by kernel_rfl) HS (fun _ => ?_)
      first
        | (refine rg_skip 0 rfl (by kernel_rfl) (by kernel_rfl) (by kernel_rfl) (fun _ _ _ h => h) HS ?_ ?_; rfl)
        | (refine rg_take 0 (v := ?_) rfl (by kernel_rfl) (by kernel_rfl) (by kernel_rfl) (fun _ _ _ h => h) HS ?_ ?_ ?_; rotate_left; rfl; focus (intro w hSw; (try dsimp only at hSw); go_simp; all_goals (with_reducible rfl)))
      simp only [Act.put, List.setIfInBounds_toArray, List.set_cons_succ, List.set_cons_zero]
      first
        | (refine rg_skip 1 rfl (by kernel_rfl) (by kernel_rfl) (by kernel_rfl) (fun _ _ _ h => h) HS ?_ ?_; rfl)
        | (refine rg_take 1 (v := ?_) rfl (by kernel_rfl) (by kernel_rfl) (by kernel_rfl) (fun _ _ _ h => h) HS ?_ ?_ ?_; rotate_left; rfl; focus (intro w hSw; (try dsimp only at hSw); go_simp; all_goals (with_reducible rfl)))
      simp only [Act.put, List.setIfInBounds_toArray, List.set_cons_succ, List.set_cons_zero]
      first
        | (refine rg_skip 2 rfl (by kernel_rfl) (by kernel_rfl) (by kernel_rfl) (fun _ _ _ h => h) HS ?_ ?_; rfl)
        | (refine rg_take 2 (v := ?_) rfl (by kernel_rfl) (by kernel_rfl) (by kernel_rfl) (fun _ _ _ h => h) HS ?_ ?_ ?_; rotate_left; rfl; focus (intro w hSw; (try dsimp only at hSw); go_simp; all_goals (with_reducible rfl)))
      simp only [Act.put, List.setIfInBounds_toArray, List.set_cons_succ, List.set_cons_zero]
      first
        | (refine rg_skip 3 rfl (by kernel_rfl) (by kernel_rfl) (by kernel_rfl) (fun _ _ _ h => h) HS ?_ ?_; rfl)
        | (refine rg_take 3 (v := ?_) rfl (by kernel_rfl) (by kernel_rfl) (by kernel_rfl) (fun _ _ _ h => h) HS ?_ ?_ ?_; rotate_left; rfl; focus (intro w hSw; (try dsimp only at hSw); go_simp; all_goals (with_reducible rfl)))
      simp only [Act.put, List.setIfInBounds_toArray, List.set_cons_succ, List.set_cons_zero]
      first
        | (refine rg_skip 4 rfl (by kernel_rfl) (by kernel_rfl) (by kernel_rfl) (fun _ _ _ h => h) HS ?_ ?_; rfl)
        | (refine rg_take 4 (v := ?_) rfl (by kernel_rfl) (by kernel_rfl) (by kernel_rfl) (fun _ _ _ h => h) HS ?_ ?_ ?_; rotate_left; rfl; focus (intro w hSw; (try dsimp only at hSw); go_simp; all_goals (with_reducible rfl)))
      simp only [Act.put, List.setIfInBounds_toArray, List.set_cons_succ, List.set_cons_zero]
      first
        | (refine rg_skip 5 rfl (by kernel_rfl) (by kernel_rfl) (by kernel_rfl) (fun _ _ _ h => h) HS ?_ ?_; rfl)
        | (refine rg_take 5 (v := ?_) rfl (by kernel_rfl) (by kernel_rfl) (by kernel_rfl) (fun _ _ _ h => h) HS ?_ ?_ ?_; rotate_left; rfl; focus (intro w hSw; (try dsimp only at hSw); go_simp; all_goals (with_reducible rfl)))
      simp only [Act.put, List.setIfInBounds_toArray, List.set_cons_succ, List.set_cons_zero]
      first
        | (refine rg_skip 6 rfl (by kernel_rfl) (by kernel_rfl) (by kernel_rfl) (fun _ _ _ h => h) HS ?_ ?_; rfl)
        | (refine rg_take 6 (v := ?_) rfl (by kernel_rfl) (by kernel_rfl) (by kernel_rfl) (fun _ _ _ h => h) HS ?_ ?_ ?_; rotate_left; rfl; focus (intro w hSw; (try dsimp only at hSw); go_simp; all_goals (with_reducible rfl)))
      simp only [Act.put, List.setIfInBounds_toArray, List.set_cons_succ, List.set_cons_zero]
      first
        | (refine rg_skip 7 rfl (by kernel_rfl) (by kernel_rfl) (by kernel_rfl) (fun _ _ _ h => h) HS ?_ ?_; rfl)
        | (refine rg_take 7 (v := ?_) rfl (by kernel_rfl) (by kernel_rfl) (by kernel_rfl) (fun _ _ _ h => h) HS ?_ ?_ ?_; rotate_left; rfl; focus (intro w hSw; (try dsimp only at hSw); go_simp; all_goals (with_reducible rfl)))
      simp only [Act.put, List.setIfInBounds_toArray, List.set_cons_succ, List.set_cons_zero]
      first
        | (refine rg_skip 8 rfl (by kernel_rfl) (by kernel_rfl) (by kernel_rfl) (fun _ _ _ h => h) HS ?_ ?_; rfl)
        | (refine rg_take 8 (v := ?_) rfl (by kernel_rfl) (by kernel_rfl) (by kernel_rfl) (fun _ _ _ h => h) HS ?_ ?_ ?_; rotate_left; rfl; focus (intro w hSw; (try dsimp only at hSw); go_simp; all_goals (with_reducible rfl)))
      simp only [Act.put, List.setIfInBounds_toArray, List.set_cons_succ, List.set_cons_zero]
      first
        | (refine rg_skip 9 rfl (by kernel_rfl) (by kernel_rfl) (by kernel_rfl) (fun _ _ _ h => h) HS ?_ ?_; rfl)
        | (refine rg_take 9 (v := ?_) rfl (by kernel_rfl) (by kernel_rfl) (by kernel_rfl) (fun _ _ _ h => h) HS ?_ ?_ ?_; rotate_left; rfl; focus (intro w hSw; (try dsimp only at hSw); go_simp; all_goals (with_reducible rfl)))
      simp only [Act.put, List.setIfInBounds_toArray, List.set_cons_succ, List.set_cons_zero]
      first
        | (refine rg_skip 10 rfl (by kernel_rfl) (by kernel_rfl) (by kernel_rfl) (fun _ _ _ h => h) HS ?_ ?_; rfl)
        | (refine rg_take 10 (v := ?_) rfl (by kernel_rfl) (by kernel_rfl) (by kernel_rfl) (fun _ _ _ h => h) HS ?_ ?_ ?_; rotate_left; rfl; focus (intro w hSw; (try dsimp only at hSw); go_simp; all_goals (with_reducible rfl)))
      simp only [Act.put, List.setIfInBounds_toArray, List.set_cons_succ, List.set_cons_zero]
      first
        | (refine rg_skip 11 rfl (by kernel_rfl) (by kernel_rfl) (by kernel_rfl) (fun _ _ _ h => h) HS ?_ ?_; rfl)
        | (refine rg_take 11 (v := ?_) rfl (by kernel_rfl) (by kernel_rfl) (by kernel_rfl) (fun _ _ _ h => h) HS ?_ ?_ ?_; rotate_left; rfl; focus (intro w hSw; (try dsimp only at hSw); go_simp; all_goals (with_reducible rfl)))
      simp only [Act.put, List.setIfInBounds_toArray, List.set_cons_succ, List.set_cons_zero]
      first
        | (refine rg_skip 12 rfl (by kernel_rfl) (by kernel_rfl) (by kernel_rfl) (fun _ _ _ h => h) HS ?_ ?_; rfl)
        | (refine rg_take 12 (v := ?_) rfl (by kernel_rfl) (by kernel_rfl) (by kernel_rfl) (fun _ _ _ h => h) HS ?_ ?_ ?_; rotate_left; rfl; focus (intro w hSw; (try dsimp only at hSw); go_simp; all_goals (with_reducible rfl)))
      simp only [Act.put, List.setIfInBounds_toArray, List.set_cons_succ, List.set_cons_zero]
      first
        | (refine rg_skip 13 rfl (by kernel_rfl) (by kernel_rfl) (by kernel_rfl) (fun _ _ _ h => h) HS ?_ ?_; rfl)
        | (refine rg_take 13 (v := ?_) rfl (by kernel_rfl) (by kernel_rfl) (by kernel_rfl) (fun _ _ _ h => h) HS ?_ ?_ ?_; rotate_left; rfl; focus (intro w hSw; (try dsimp only at hSw); go_simp; all_goals (with_reducible rfl)))
      simp only [Act.put, List.setIfInBounds_toArray, List.set_cons_succ, List.set_cons_zero]
      refine rg_one 14 rfl (by kernel_rfl) (by rfl) ?_
      refine rg_call 62 _ _ rfl _ Try.func62 (by kernel_rfl) (by kernel_rfl) [.int .i64 file] rfl (name_calls _ (file : Int)) ?_
      rintro e w3 ⟨rfl, hk3⟩
      rw [hnmf]
      have HS3 : (fun (w' : World) => w'.cell? ⟨jb, 0, none⟩ = some (.pointer (some ⟨h.p, 0, none⟩)) ∧ w'.cell? ⟨jb, 2, none⟩ = some (.int .i64 file)) w3 := ⟨Keeps.cellK hk3 HS.1, Keeps.cellK hk3 HS.2⟩
      refine ⟨_, rfl, HS3, ?_⟩
      simp only [Act.put, List.setIfInBounds_toArray, List.set_cons_succ, List.set_cons_zero]
      refine rg_one 15 rfl (by kernel_rfl) (by rfl) ?_
      refine rg_call 26 _ _ rfl _ Try.func26 (by kernel_rfl) (by kernel_rfl) [.pointer (some ⟨h.p, 0, none⟩), .string (bs (nmOf file))] rfl (len_calls _ h D (nmOf file) (HD2.out.drew.new hk3) (nmOf_ok _)) ?_
      rintro e w4 ⟨rfl, hw4⟩
      subst hw4
      refine ⟨_, rfl, HS3, ?_⟩
      simp only [Act.put, List.setIfInBounds_toArray, List.set_cons_succ, List.set_cons_zero]
      first
        | (refine rg_skip 16 rfl (by kernel_rfl) (by kernel_rfl) (by kernel_rfl) (fun _ _ _ h => h) HS3 ?_ ?_; rfl)
        | (refine rg_take 16 (v := ?_) rfl (by kernel_rfl) (by kernel_rfl) (by kernel_rfl) (fun _ _ _ h => h) HS3 ?_ ?_ ?_; rotate_left; rfl; focus (intro w hSw; (try dsimp only at hSw); go_simp; all_goals (with_reducible rfl)))
      simp only [Act.put, List.setIfInBounds_toArray, List.set_cons_succ, List.set_cons_zero]
      first
        | (refine rg_skip 17 rfl (by kernel_rfl) (by kernel_rfl) (by kernel_rfl) (fun _ _ _ h => h) HS3 ?_ ?_; rfl)
        | (refine rg_take 17 (v := ?_) rfl (by kernel_rfl) (by kernel_rfl) (by kernel_rfl) (fun _ _ _ h => h) HS3 ?_ ?_ ?_; rotate_left; rfl; focus (intro w hSw; (try dsimp only at hSw); go_simp; all_goals (with_reducible rfl)))
      simp only [Act.put, List.setIfInBounds_toArray, List.set_cons_succ, List.set_cons_zero]
      refine wpAnyH_done (by kernel_rfl) ?_ _
      go_step
      go_step
      go_meet
      exact ⟨by rw [HT.out], Lib.hid ((Keeps.refl w2 _).drew.trans hk3)⟩
  case rest =>
    as_aux_lemma =>
    obtain ⟨rfl, hkc⟩ := hcut
    obtain ⟨w3, rfl⟩ : ∃ x, x = wc := ⟨wc, rfl⟩
    obtain ⟨s1, r1, htj⟩ : ∃ s1 r1, turnJ ⟨D, ⟨seq, file, next, false⟩⟩ = (s1, r1) := ⟨_, _, rfl⟩
    have HSW : Hid (∀ i, h.S i → i < w.heap.size) := Lib.hid fun i hi => HD.out.lt hi
    have HJW : Hid (jb < w.heap.size) := Lib.hid (lt_of_blk HJ.out)
    have HKC := Lib.hid (HK2.out.trans hkc.out)
    have HDC := Lib.hid (HD.out.new HKC.out)
    have HJC := Lib.hid (HKC.out.blk HJ.out id)
    have HB6c := Lib.hid (hkc.out.blk HB62.out id)
    have HBVC := Lib.hid (HBV.out.new HKC.out)
    have HTJ := Lib.hid htj
    have hb6w : w.heap.size ≤ b6 := hb6
    have HAPN : ∀ x : Nat, Hid (¬ (h.S b6 ∨ b6 = jb)) := fun _ => Lib.hid (fun hs => hs.elim (fun h1 => absurd (HSW.out b6 h1) (Nat.not_lt.2 hb6w)) (fun e => absurd HJW.out (by rw [← e]; exact Nat.not_lt.2 hb6w)))
    have HN6 := HAPN 0
    clear HAPN hkc htj hln hlni e0 e2 HB62 HK2 HJ2 HD2 hnmf hb6
    go_upto_if 73 with fail
    go_cut [] (fun wx => Hid (r1 = 0 ∧ isDev wx h s1.d ∧ isJr wx jb h s1.j ∧ Keeps w3 wx (fun i => h.S i ∨ i = jb)))
    case first =>
      as_aux_lemma =>
      cases hT : turnB ⟨D, ⟨seq, file, next, false⟩⟩ with
      | false =>
        have htn : turnJ ⟨D, ⟨seq, file, next, false⟩⟩ = (⟨D, ⟨seq, file, next, false⟩⟩, 0) := by unfold turnJ; rw [if_neg (by rw [hT]; simp)]
        have he := HTJ.out.symm.trans htn
        have HR : Hid (r1 = 0 ∧ isDev w3 h s1.d ∧ isJr w3 jb h s1.j ∧ Keeps w3 w3 (fun i => h.S i ∨ i = jb)) := Lib.hid (by
          injection he with h1 h2
          rw [h1]
          exact ⟨h2, HDC.out, HJC.out, Keeps.refl _ _⟩)
        clear he htn hT
        go_wp2_with fail
        go_meet
        exact HR
      | true =>
        have HTN : Hid (nextJ ⟨D, ⟨seq, file, next, false⟩⟩ = (s1, r1)) := Lib.hid (by rw [← HTJ.out]; unfold turnJ; rw [if_pos hT])
        clear hT
        go_wp2_with fail
        refine (jnext_calls w3 h jb _ D HJC.out hjS HDC.out hnx).mono ?_
        rw [HTN.out]
        rintro e w4 ⟨he, hd4, hj4, hk4⟩
        dsimp only at he hd4 hj4
        by_cases h0 : r1 = 0
        · as_aux_lemma =>
          subst h0
          rw [if_pos rfl] at he
          subst he
          have HR : Hid ((0 : Int) = 0 ∧ isDev w4 h s1.d ∧ isJr w4 jb h s1.j ∧ Keeps w3 w4 (fun i => h.S i ∨ i = jb)) := Lib.hid ⟨rfl, hd4, hj4, hk4⟩
          clear hd4 hj4 hk4
          go_wp2_with fail
          go_meet
          exact HR
        · as_aux_lemma =>
          rw [if_neg h0] at he
          subst he
          have h0b : (r1 != 0) = true := by simpa using h0
          have HE := Lib.hid h0
          have HB64 := hk4.blk HB6c.out HN6.out
          have HA : Hid (appendJ ⟨D, ⟨seq, file, next, false⟩⟩ kind b = (s1, r1)) := Lib.hid (by rw [HAP.out, HTJ.out, if_pos h0])
          have HD4 := Lib.hid hd4
          have HJ4 := Lib.hid hj4
          have HK4 := Lib.hid hk4
          clear h0 hd4 hj4 hk4
          go_wp2_with (first
            | ((with_reducible refine gd_build 94 ?_); refine wl_build0 rfl _ rfl _ buildBt0 ?_)
            | ((with_reducible refine gd_store 94 ?_); refine wl_store_agg rfl _ _ _ rfl b6 _ rfl _ _ HB64 btZ rfl btZ (store_bt _ _ _ _ _ _ _ _ _ _) (le_bt _ _ _ _ _ _ _ _ _ _) (infoBt _ _ _ _ _) (btA_one rfl) ?_; intro w5 HB65 HK5)
            | fail)
          refine bodyPost_ret (v := .tuple #[.agg btZ, .int .i64 r1]) ?_ rfl ?_
          · exact results_two rfl _ _ b6 _ _ _ _ rfl rfl HB65 _ Try.underlying94 rfl (infoBt _ _ _ _ _)
          · exact append_bad HA.out HE.out (HD4.out.apart HK5 (fun i e hs => HN6.out (.inl (by rw [← show i = b6 from e]; exact hs)))) (HK5.blk HJ4.out (fun e => HN6.out (.inr (Eq.symm e)))) (((HKC.out.mono (fun _ _ h => h.elim)).trans HK4.out).then HK5 (fun i hi e => absurd hb6w (by rw [← show i = b6 from e]; exact Nat.not_le.2 hi)))
    case rest =>
      as_aux_lemma =>
      obtain ⟨wx, hwx⟩ : ∃ x, x = wc := ⟨wc, rfl⟩
      rw [← hwx] at hcut ⊢
      clear hwx
      obtain ⟨rfl, hdx, hjx, hkx⟩ := hcut.out
      have HDX := Lib.hid hdx
      have HJX := Lib.hid hjx
      have HK3X := Lib.hid hkx
      have HBX := Lib.hid (HBVC.out.kept hkx (fun g hg hs => hs.elim (HBS.out g hg).1 (HBS.out g hg).2))
      have HB6X := Lib.hid (hkx.blk HB6c.out HN6.out)
      have hnm1 : nameI (s1.j.file : Int) = nmOf s1.j.file := nameI_nat _
      have hsq1 : s1.j.seq = seq := by have := turn_seq ⟨D, ⟨seq, file, next, false⟩⟩; rw [HTJ.out] at this; exact this
      have HA : Hid (appendJ ⟨D, ⟨seq, file, next, false⟩⟩ kind b = putJ s1 kind b) := Lib.hid (by rw [HAP.out, HTJ.out, if_neg (by simp)])
      have hs2 : s1.j.seq + 1 < 2 ^ 64 := by omega
      have hwr : IntKind.u64.wrap ((s1.j.seq : Int) + 1) = (s1.j.seq : Int) + 1 := by rw [wrap_u64]; omega
      have hf1 : (s1.j.file : Int) ≤ 1000000 := by have := turn_file ⟨D, ⟨seq, file, next, false⟩⟩ hfi hnx; rw [HTJ.out] at this; simp only at this; omega
      have hf0 : (0 : Int) ≤ s1.j.file := by omega
      have hln := len_small hdx.wf (nmOf s1.j.file)
      have e0 : wx.cell? ⟨jb, 0, none⟩ = some (.pointer (some ⟨h.p, 0, none⟩)) := by rw [cell_of_block hjx]; rfl
      have e1 : wx.cell? ⟨jb, 1, none⟩ = some (.int .u64 s1.j.seq) := by rw [cell_of_block hjx]; rfl
      have e3 : wx.cell? ⟨jb, 2, none⟩ = some (.int .i64 s1.j.file) := by rw [cell_of_block hjx]; rfl
      have hsi : (s1.j.seq : Int) < 18446744073709551615 := by omega
      have hsi0 : (0 : Int) ≤ s1.j.seq := by omega
      clear hcut hdx hjx hkx hsq1 HAP HDC HJC HBVC HB6c HBV HJ
      go_upto_region 13 with fail
      go_cut [10] (fun v10 wy => ∃ bt ca cc, v10 = .pointer (some ⟨bt, 0, none⟩) ∧ Hid (wx.heap.size ≤ bt ∧ wy.heap[bt]? = some (.cells (btA (s1.j.seq + 1) kind (.slice ca b.length cc) s1.j.file (s1.d.len (nmOf s1.j.file))) 94 (0, 0)) ∧ isOwn wy wx.heap.size 5 (.slice ca b.length cc) (octs b) ∧ Keeps wx wy (fun _ => False)))
      case first =>
        have HSx : (fun (w' : World) => w'.cell? ⟨jb, 0, none⟩ = some (.pointer (some ⟨h.p, 0, none⟩)) ∧ w'.cell? ⟨jb, 1, none⟩ = some (.int .u64 s1.j.seq) ∧ w'.cell? ⟨jb, 2, none⟩ = some (.int .i64 s1.j.file)) wx.drew := ⟨e0, e1, e3⟩
        have hKx : Keeps wx wx.drew (fun _ => False) := (Keeps.refl wx _).drew
        refine wp_region_held_drew (S := (fun (w' : World) => w'.cell? ⟨jb, 0, none⟩ = some (.pointer (some ⟨h.p, 0, none⟩)) ∧ w'.cell? ⟨jb, 1, none⟩ = some (.int .u64 s1.j.seq) ∧ w'.cell? ⟨jb, 2, none⟩ = some (.int .i64 s1.j.file))) (by kernel_rfl) HSx (fun _ => ?_)
        first
          | (refine rg_skip 0 rfl (by kernel_rfl) (by kernel_rfl) (by kernel_rfl) (fun _ _ _ h => h) HSx ?_ ?_; rfl)
          | (refine rg_take 0 (v := ?_) rfl (by kernel_rfl) (by kernel_rfl) (by kernel_rfl) (fun _ _ _ h => h) HSx ?_ ?_ ?_; rotate_left; rfl; focus (intro w hSw; (try dsimp only at hSw); go_simp; all_goals (with_reducible rfl)))
        simp only [Act.put, List.setIfInBounds_toArray, List.set_cons_succ, List.set_cons_zero]
        first
          | (refine rg_skip 1 rfl (by kernel_rfl) (by kernel_rfl) (by kernel_rfl) (fun _ _ _ h => h) HSx ?_ ?_; rfl)
          | (refine rg_take 1 (v := ?_) rfl (by kernel_rfl) (by kernel_rfl) (by kernel_rfl) (fun _ _ _ h => h) HSx ?_ ?_ ?_; rotate_left; rfl; focus (intro w hSw; (try dsimp only at hSw); go_simp; all_goals (with_reducible rfl)))
        simp only [Act.put, List.setIfInBounds_toArray, List.set_cons_succ, List.set_cons_zero]
        first
          | (refine rg_skip 2 rfl (by kernel_rfl) (by kernel_rfl) (by kernel_rfl) (fun _ _ _ h => h) HSx ?_ ?_; rfl)
          | (refine rg_take 2 (v := ?_) rfl (by kernel_rfl) (by kernel_rfl) (by kernel_rfl) (fun _ _ _ h => h) HSx ?_ ?_ ?_; rotate_left; rfl; focus (intro w hSw; (try dsimp only at hSw); go_simp; all_goals (with_reducible rfl)))
        simp only [Act.put, List.setIfInBounds_toArray, List.set_cons_succ, List.set_cons_zero]
        first
          | (refine rg_skip 3 rfl (by kernel_rfl) (by kernel_rfl) (by kernel_rfl) (fun _ _ _ h => h) HSx ?_ ?_; rfl)
          | (refine rg_take 3 (v := ?_) rfl (by kernel_rfl) (by kernel_rfl) (by kernel_rfl) (fun _ _ _ h => h) HSx ?_ ?_ ?_; rotate_left; rfl; focus (intro w hSw; (try dsimp only at hSw); go_simp; all_goals (with_reducible rfl)))
        simp only [Act.put, List.setIfInBounds_toArray, List.set_cons_succ, List.set_cons_zero]
        try rw [hwr]
        first
          | (refine rg_skip 4 rfl (by kernel_rfl) (by kernel_rfl) (by kernel_rfl) (fun _ _ _ h => h) HSx ?_ ?_; rfl)
          | (refine rg_take 4 (v := ?_) rfl (by kernel_rfl) (by kernel_rfl) (by kernel_rfl) (fun _ _ _ h => h) HSx ?_ ?_ ?_; rotate_left; rfl; focus (intro w hSw; (try dsimp only at hSw); go_simp; all_goals (with_reducible rfl)))
        simp only [Act.put, List.setIfInBounds_toArray, List.set_cons_succ, List.set_cons_zero]
        first
          | (refine rg_skip 5 rfl (by kernel_rfl) (by kernel_rfl) (by kernel_rfl) (fun _ _ _ h => h) HSx ?_ ?_; rfl)
          | (refine rg_take 5 (v := ?_) rfl (by kernel_rfl) (by kernel_rfl) (by kernel_rfl) (fun _ _ _ h => h) HSx ?_ ?_ ?_; rotate_left; rfl; focus (intro w hSw; (try dsimp only at hSw); go_simp; all_goals (with_reducible rfl)))
        simp only [Act.put, List.setIfInBounds_toArray, List.set_cons_succ, List.set_cons_zero]
        first
          | (refine rg_skip 6 rfl (by kernel_rfl) (by kernel_rfl) (by kernel_rfl) (fun _ _ _ h => h) HSx ?_ ?_; rfl)
          | (refine rg_take 6 (v := ?_) rfl (by kernel_rfl) (by kernel_rfl) (by kernel_rfl) (fun _ _ _ h => h) HSx ?_ ?_ ?_; rotate_left; rfl; focus (intro w hSw; (try dsimp only at hSw); go_simp; all_goals (with_reducible rfl)))
        simp only [Act.put, List.setIfInBounds_toArray, List.set_cons_succ, List.set_cons_zero]
        first
          | (refine rg_skip 8 rfl (by kernel_rfl) (by kernel_rfl) (by kernel_rfl) (fun _ _ _ h => h) HSx ?_ ?_; rfl)
          | (refine rg_take 8 (v := ?_) rfl (by kernel_rfl) (by kernel_rfl) (by kernel_rfl) (fun _ _ _ h => h) HSx ?_ ?_ ?_; rotate_left; rfl; focus (intro w hSw; (try dsimp only at hSw); go_simp; all_goals (with_reducible rfl)))
        simp only [Act.put, List.setIfInBounds_toArray, List.set_cons_succ, List.set_cons_zero]
        first
          | (refine rg_skip 9 rfl (by kernel_rfl) (by kernel_rfl) (by kernel_rfl) (fun _ _ _ h => h) HSx ?_ ?_; rfl)
          | (refine rg_take 9 (v := ?_) rfl (by kernel_rfl) (by kernel_rfl) (by kernel_rfl) (fun _ _ _ h => h) HSx ?_ ?_ ?_; rotate_left; rfl; focus (intro w hSw; (try dsimp only at hSw); go_simp; all_goals (with_reducible rfl)))
        simp only [Act.put, List.setIfInBounds_toArray, List.set_cons_succ, List.set_cons_zero]
        first
          | (refine rg_skip 10 rfl (by kernel_rfl) (by kernel_rfl) (by kernel_rfl) (fun _ _ _ h => h) HSx ?_ ?_; rfl)
          | (refine rg_take 10 (v := ?_) rfl (by kernel_rfl) (by kernel_rfl) (by kernel_rfl) (fun _ _ _ h => h) HSx ?_ ?_ ?_; rotate_left; rfl; focus (intro w hSw; (try dsimp only at hSw); go_simp; all_goals (with_reducible rfl)))
        simp only [Act.put, List.setIfInBounds_toArray, List.set_cons_succ, List.set_cons_zero]
        first
          | (refine rg_skip 11 rfl (by kernel_rfl) (by kernel_rfl) (by kernel_rfl) (fun _ _ _ h => h) HSx ?_ ?_; rfl)
          | (refine rg_take 11 (v := ?_) rfl (by kernel_rfl) (by kernel_rfl) (by kernel_rfl) (fun _ _ _ h => h) HSx ?_ ?_ ?_; rotate_left; rfl; focus (intro w hSw; (try dsimp only at hSw); go_simp; all_goals (with_reducible rfl)))
        simp only [Act.put, List.setIfInBounds_toArray, List.set_cons_succ, List.set_cons_zero]
        first
          | (refine rg_skip 12 rfl (by kernel_rfl) (by kernel_rfl) (by kernel_rfl) (fun _ _ _ h => h) HSx ?_ ?_; rfl)
          | (refine rg_take 12 (v := ?_) rfl (by kernel_rfl) (by kernel_rfl) (by kernel_rfl) (fun _ _ _ h => h) HSx ?_ ?_ ?_; rotate_left; rfl; focus (intro w hSw; (try dsimp only at hSw); go_simp; all_goals (with_reducible rfl)))
        simp only [Act.put, List.setIfInBounds_toArray, List.set_cons_succ, List.set_cons_zero]
        first
          | (refine rg_skip 13 rfl (by kernel_rfl) (by kernel_rfl) (by kernel_rfl) (fun _ _ _ h => h) HSx ?_ ?_; rfl)
          | (refine rg_take 13 (v := ?_) rfl (by kernel_rfl) (by kernel_rfl) (by kernel_rfl) (fun _ _ _ h => h) HSx ?_ ?_ ?_; rotate_left; rfl; focus (intro w hSw; (try dsimp only at hSw); go_simp; all_goals (with_reducible rfl)))
        simp only [Act.put, List.setIfInBounds_toArray, List.set_cons_succ, List.set_cons_zero]
        first
          | (refine rg_skip 14 rfl (by kernel_rfl) (by kernel_rfl) (by kernel_rfl) (fun _ _ _ h => h) HSx ?_ ?_; rfl)
          | (refine rg_take 14 (v := ?_) rfl (by kernel_rfl) (by kernel_rfl) (by kernel_rfl) (fun _ _ _ h => h) HSx ?_ ?_ ?_; rotate_left; rfl; focus (intro w hSw; (try dsimp only at hSw); go_simp; all_goals (with_reducible rfl)))
        simp only [Act.put, List.setIfInBounds_toArray, List.set_cons_succ, List.set_cons_zero]
        first
          | (refine rg_skip 15 rfl (by kernel_rfl) (by kernel_rfl) (by kernel_rfl) (fun _ _ _ h => h) HSx ?_ ?_; rfl)
          | (refine rg_take 15 (v := ?_) rfl (by kernel_rfl) (by kernel_rfl) (by kernel_rfl) (fun _ _ _ h => h) HSx ?_ ?_ ?_; rotate_left; rfl; focus (intro w hSw; (try dsimp only at hSw); go_simp; all_goals (with_reducible rfl)))
        simp only [Act.put, List.setIfInBounds_toArray, List.set_cons_succ, List.set_cons_zero]
        first
          | (refine rg_skip 16 rfl (by kernel_rfl) (by kernel_rfl) (by kernel_rfl) (fun _ _ _ h => h) HSx ?_ ?_; rfl)
          | (refine rg_take 16 (v := ?_) rfl (by kernel_rfl) (by kernel_rfl) (by kernel_rfl) (fun _ _ _ h => h) HSx ?_ ?_ ?_; rotate_left; rfl; focus (intro w hSw; (try dsimp only at hSw); go_simp; all_goals (with_reducible rfl)))
        simp only [Act.put, List.setIfInBounds_toArray, List.set_cons_succ, List.set_cons_zero]
        first
          | (refine rg_skip 17 rfl (by kernel_rfl) (by kernel_rfl) (by kernel_rfl) (fun _ _ _ h => h) HSx ?_ ?_; rfl)
          | (refine rg_take 17 (v := ?_) rfl (by kernel_rfl) (by kernel_rfl) (by kernel_rfl) (fun _ _ _ h => h) HSx ?_ ?_ ?_; rotate_left; rfl; focus (intro w hSw; (try dsimp only at hSw); go_simp; all_goals (with_reducible rfl)))
        simp only [Act.put, List.setIfInBounds_toArray, List.set_cons_succ, List.set_cons_zero]
        first
          | (refine rg_skip 18 rfl (by kernel_rfl) (by kernel_rfl) (by kernel_rfl) (fun _ _ _ h => h) HSx ?_ ?_; rfl)
          | (refine rg_take 18 (v := ?_) rfl (by kernel_rfl) (by kernel_rfl) (by kernel_rfl) (fun _ _ _ h => h) HSx ?_ ?_ ?_; rotate_left; rfl; focus (intro w hSw; (try dsimp only at hSw); go_simp; all_goals (with_reducible rfl)))
        simp only [Act.put, List.setIfInBounds_toArray, List.set_cons_succ, List.set_cons_zero]
        first
          | (refine rg_skip 19 rfl (by kernel_rfl) (by kernel_rfl) (by kernel_rfl) (fun _ _ _ h => h) HSx ?_ ?_; rfl)
          | (refine rg_take 19 (v := ?_) rfl (by kernel_rfl) (by kernel_rfl) (by kernel_rfl) (fun _ _ _ h => h) HSx ?_ ?_ ?_; rotate_left; rfl; focus (intro w hSw; (try dsimp only at hSw); go_simp; all_goals (with_reducible rfl)))
        simp only [Act.put, List.setIfInBounds_toArray, List.set_cons_succ, List.set_cons_zero]
        try rw [hwr]
        refine rg_two 7 23 rfl rfl (by kernel_rfl) (by rfl) (by rfl) ?_ ?_
        · as_aux_lemma =>
          refine rg_call 97 _ _ rfl _ Try.func97 (by kernel_rfl) (by kernel_rfl) [.slice ba b.length bc] rfl (clone_calls _ _ b (HBX.out.new hKx).1 (by omega) (HBX.out.new hKx).2) ?_
          have hLO := hKx.size
          rintro e w7 ⟨cv, rfl, hco7, hk7⟩
          obtain ⟨ca, cc, rfl, _⟩ := isOwn.rd hco7
          rw [octs_len] at hco7 ⊢
          have HS7 : (fun (w' : World) => w'.cell? ⟨jb, 0, none⟩ = some (.pointer (some ⟨h.p, 0, none⟩)) ∧ w'.cell? ⟨jb, 1, none⟩ = some (.int .u64 s1.j.seq) ∧ w'.cell? ⟨jb, 2, none⟩ = some (.int .i64 s1.j.file)) w7 := ⟨Keeps.cellK hk7 HSx.1, Keeps.cellK hk7 HSx.2.1, Keeps.cellK hk7 HSx.2.2⟩
          have hK7 := hKx.trans hk7
          refine ⟨_, rfl, HS7, ?_⟩
          simp only [Act.put, List.setIfInBounds_toArray, List.set_cons_succ, List.set_cons_zero]
          refine rg_two 20 23 rfl rfl (by kernel_rfl) (by rfl) (by rfl) ?_ ?_
          · as_aux_lemma =>
            refine rg_call 62 _ _ rfl _ Try.func62 (by kernel_rfl) (by kernel_rfl) [.int .i64 s1.j.file] rfl (name_calls _ (s1.j.file : Int)) ?_
            rintro e w20 ⟨rfl, hk20⟩
            rw [hnm1]
            have HS20 : (fun (w' : World) => w'.cell? ⟨jb, 0, none⟩ = some (.pointer (some ⟨h.p, 0, none⟩)) ∧ w'.cell? ⟨jb, 1, none⟩ = some (.int .u64 s1.j.seq) ∧ w'.cell? ⟨jb, 2, none⟩ = some (.int .i64 s1.j.file)) w20 := ⟨Keeps.cellK hk20 HS7.1, Keeps.cellK hk20 HS7.2.1, Keeps.cellK hk20 HS7.2.2⟩
            have hK20 := hK7.trans hk20
            have hco20 := isOwn.new hco7 hk20
            refine ⟨_, rfl, HS20, ?_⟩
            simp only [Act.put, List.setIfInBounds_toArray, List.set_cons_succ, List.set_cons_zero]
            refine rg_two 21 23 rfl rfl (by kernel_rfl) (by rfl) (by rfl) ?_ ?_
            · as_aux_lemma =>
              refine rg_call 26 _ _ rfl _ Try.func26 (by kernel_rfl) (by kernel_rfl) [.pointer (some ⟨h.p, 0, none⟩), .string (bs (nmOf s1.j.file))] rfl (len_calls _ h s1.d (nmOf s1.j.file) (HDX.out.new hK20) (nmOf_ok _)) ?_
              rintro e w21 ⟨rfl, hw21⟩
              subst hw21
              refine ⟨_, rfl, HS20, ?_⟩
              simp only [Act.put, List.setIfInBounds_toArray, List.set_cons_succ, List.set_cons_zero]
              refine ya_take 22 rfl (by kernel_rfl) (by kernel_rfl) (by kernel_rfl) (fun _ _ _ h => h) HS20 (yi_build rfl _ _ rfl [(0, .int .u64 ((s1.j.seq : Int) + 1)), (1, .int .i64 kind), (2, .slice ca b.length cc), (3, .int .i64 s1.j.file), (4, .int .i64 (s1.d.len (nmOf s1.j.file)))] rfl (.agg (btA (s1.j.seq + 1) kind (.slice ca b.length cc) s1.j.file (s1.d.len (nmOf s1.j.file)))) (buildBt1 _ _ _ _ _ _ _)) ?_
              simp only [Act.put, List.setIfInBounds_toArray, List.set_cons_succ, List.set_cons_zero]
              refine rg_one 23 rfl (by kernel_rfl) (by rfl) ?_
              refine wp_alloc_aggJ 94 rfl _ zeroBt ?_
              intro bt w23 hbt HBt23 hk23
              have HS23 : (fun (w' : World) => w'.cell? ⟨jb, 0, none⟩ = some (.pointer (some ⟨h.p, 0, none⟩)) ∧ w'.cell? ⟨jb, 1, none⟩ = some (.int .u64 s1.j.seq) ∧ w'.cell? ⟨jb, 2, none⟩ = some (.int .i64 s1.j.file)) w23 := ⟨Keeps.cellK hk23 HS20.1, Keeps.cellK hk23 HS20.2.1, Keeps.cellK hk23 HS20.2.2⟩
              have hK23 := hK20.trans hk23
              have hbtx : wx.heap.size ≤ bt := Nat.le_trans hK20.size hbt
              have hco23 := isOwn.new hco20 hk23
              refine ⟨HS23, ?_⟩
              simp only [Act.put, List.setIfInBounds_toArray, List.set_cons_succ, List.set_cons_zero]
              refine rg_one 24 rfl (by kernel_rfl) (by rfl) ?_
              refine wp_store_agg 94 _ _ rfl bt 0 rfl _ _ HBt23 (btA (s1.j.seq + 1) kind (.slice ca b.length cc) s1.j.file (s1.d.len (nmOf s1.j.file))) rfl (btA (s1.j.seq + 1) kind (.slice ca b.length cc) s1.j.file (s1.d.len (nmOf s1.j.file))) (store_bt _ _ _ _ _ _ _ _ _ _) (le_bt _ _ _ _ _ _ _ _ _ _) (infoBt _ _ _ _ _) (btA_one (own_one1 hco23)) ?_
              intro w24 HBt24 hk24
              have hK24 : Keeps wx w24 (fun _ => False) := hK23.then hk24 (fun i hi e => absurd hi (by rw [show i = bt from e]; exact Nat.not_lt.2 hbtx))
              have HS24 : (fun (w' : World) => w'.cell? ⟨jb, 0, none⟩ = some (.pointer (some ⟨h.p, 0, none⟩)) ∧ w'.cell? ⟨jb, 1, none⟩ = some (.int .u64 s1.j.seq) ∧ w'.cell? ⟨jb, 2, none⟩ = some (.int .i64 s1.j.file)) w24 := by
                have hj24 := hK24.blk HJX.out id
                exact ⟨by show w24.cell? _ = _; rw [cell_of_block hj24]; rfl, by show w24.cell? _ = _; rw [cell_of_block hj24]; rfl, by show w24.cell? _ = _; rw [cell_of_block hj24]; rfl⟩
              refine ⟨HS24, ?_⟩
              simp only [Act.put, List.setIfInBounds_toArray, List.set_cons_succ, List.set_cons_zero]
              refine wpAnyH_done (by kernel_rfl) ?_ _
              go_step
              go_step
              go_meet
              exact ⟨bt, _, _, rfl, Lib.hid ⟨hbtx, HBt24, (hco23.kept hk24 (fun g hg e => own_tyJ hco23 HBt23 (by decide) (by rw [hg]; exact congrArg some e))).low hLO, hK24⟩⟩
            · as_aux_lemma =>
              refine wp_alloc_aggJ 94 rfl _ zeroBt ?_
              intro bt w23 hbt HBt23 hk23
              have HS23 : (fun (w' : World) => w'.cell? ⟨jb, 0, none⟩ = some (.pointer (some ⟨h.p, 0, none⟩)) ∧ w'.cell? ⟨jb, 1, none⟩ = some (.int .u64 s1.j.seq) ∧ w'.cell? ⟨jb, 2, none⟩ = some (.int .i64 s1.j.file)) w23 := ⟨Keeps.cellK hk23 HS20.1, Keeps.cellK hk23 HS20.2.1, Keeps.cellK hk23 HS20.2.2⟩
              have hK23 := hK20.trans hk23
              have hbtx : wx.heap.size ≤ bt := Nat.le_trans hK20.size hbt
              have hco23 := isOwn.new hco20 hk23
              refine ⟨HS23, ?_⟩
              simp only [Act.put, List.setIfInBounds_toArray, List.set_cons_succ, List.set_cons_zero]
              refine rg_one 21 rfl (by kernel_rfl) (by rfl) ?_
              refine rg_call 26 _ _ rfl _ Try.func26 (by kernel_rfl) (by kernel_rfl) [.pointer (some ⟨h.p, 0, none⟩), .string (bs (nmOf s1.j.file))] rfl (len_calls _ h s1.d (nmOf s1.j.file) (HDX.out.new hK23) (nmOf_ok _)) ?_
              rintro e w21 ⟨rfl, hw21⟩
              subst hw21
              refine ⟨_, rfl, HS23, ?_⟩
              simp only [Act.put, List.setIfInBounds_toArray, List.set_cons_succ, List.set_cons_zero]
              refine ya_take 22 rfl (by kernel_rfl) (by kernel_rfl) (by kernel_rfl) (fun _ _ _ h => h) HS23 (yi_build rfl _ _ rfl [(0, .int .u64 ((s1.j.seq : Int) + 1)), (1, .int .i64 kind), (2, .slice ca b.length cc), (3, .int .i64 s1.j.file), (4, .int .i64 (s1.d.len (nmOf s1.j.file)))] rfl (.agg (btA (s1.j.seq + 1) kind (.slice ca b.length cc) s1.j.file (s1.d.len (nmOf s1.j.file)))) (buildBt1 _ _ _ _ _ _ _)) ?_
              simp only [Act.put, List.setIfInBounds_toArray, List.set_cons_succ, List.set_cons_zero]
              refine rg_one 24 rfl (by kernel_rfl) (by rfl) ?_
              refine wp_store_agg 94 _ _ rfl bt 0 rfl _ _ HBt23 (btA (s1.j.seq + 1) kind (.slice ca b.length cc) s1.j.file (s1.d.len (nmOf s1.j.file))) rfl (btA (s1.j.seq + 1) kind (.slice ca b.length cc) s1.j.file (s1.d.len (nmOf s1.j.file))) (store_bt _ _ _ _ _ _ _ _ _ _) (le_bt _ _ _ _ _ _ _ _ _ _) (infoBt _ _ _ _ _) (btA_one (own_one1 hco23)) ?_
              intro w24 HBt24 hk24
              have hK24 : Keeps wx w24 (fun _ => False) := hK23.then hk24 (fun i hi e => absurd hi (by rw [show i = bt from e]; exact Nat.not_lt.2 hbtx))
              have HS24 : (fun (w' : World) => w'.cell? ⟨jb, 0, none⟩ = some (.pointer (some ⟨h.p, 0, none⟩)) ∧ w'.cell? ⟨jb, 1, none⟩ = some (.int .u64 s1.j.seq) ∧ w'.cell? ⟨jb, 2, none⟩ = some (.int .i64 s1.j.file)) w24 := by
                have hj24 := hK24.blk HJX.out id
                exact ⟨by show w24.cell? _ = _; rw [cell_of_block hj24]; rfl, by show w24.cell? _ = _; rw [cell_of_block hj24]; rfl, by show w24.cell? _ = _; rw [cell_of_block hj24]; rfl⟩
              refine ⟨HS24, ?_⟩
              simp only [Act.put, List.setIfInBounds_toArray, List.set_cons_succ, List.set_cons_zero]
              refine wpAnyH_done (by kernel_rfl) ?_ _
              go_step
              go_step
              go_meet
              exact ⟨bt, _, _, rfl, Lib.hid ⟨hbtx, HBt24, (hco23.kept hk24 (fun g hg e => own_tyJ hco23 HBt23 (by decide) (by rw [hg]; exact congrArg some e))).low hLO, hK24⟩⟩
          · as_aux_lemma =>
            refine wp_alloc_aggJ 94 rfl _ zeroBt ?_
            intro bt w23 hbt HBt23 hk23
            have HS23 : (fun (w' : World) => w'.cell? ⟨jb, 0, none⟩ = some (.pointer (some ⟨h.p, 0, none⟩)) ∧ w'.cell? ⟨jb, 1, none⟩ = some (.int .u64 s1.j.seq) ∧ w'.cell? ⟨jb, 2, none⟩ = some (.int .i64 s1.j.file)) w23 := ⟨Keeps.cellK hk23 HS7.1, Keeps.cellK hk23 HS7.2.1, Keeps.cellK hk23 HS7.2.2⟩
            have hK23 := hK7.trans hk23
            have hbtx : wx.heap.size ≤ bt := Nat.le_trans hK7.size hbt
            have hco23 := isOwn.new hco7 hk23
            refine ⟨HS23, ?_⟩
            simp only [Act.put, List.setIfInBounds_toArray, List.set_cons_succ, List.set_cons_zero]
            refine rg_one 20 rfl (by kernel_rfl) (by rfl) ?_
            refine rg_call 62 _ _ rfl _ Try.func62 (by kernel_rfl) (by kernel_rfl) [.int .i64 s1.j.file] rfl (name_calls _ (s1.j.file : Int)) ?_
            rintro e w20 ⟨rfl, hk20⟩
            rw [hnm1]
            have HS20 : (fun (w' : World) => w'.cell? ⟨jb, 0, none⟩ = some (.pointer (some ⟨h.p, 0, none⟩)) ∧ w'.cell? ⟨jb, 1, none⟩ = some (.int .u64 s1.j.seq) ∧ w'.cell? ⟨jb, 2, none⟩ = some (.int .i64 s1.j.file)) w20 := ⟨Keeps.cellK hk20 HS23.1, Keeps.cellK hk20 HS23.2.1, Keeps.cellK hk20 HS23.2.2⟩
            have hK20 := hK23.trans hk20
            have hco20 := isOwn.new hco23 hk20
            have HBt20 := hk20.blk HBt23 id
            refine ⟨_, rfl, HS20, ?_⟩
            simp only [Act.put, List.setIfInBounds_toArray, List.set_cons_succ, List.set_cons_zero]
            refine rg_one 21 rfl (by kernel_rfl) (by rfl) ?_
            refine rg_call 26 _ _ rfl _ Try.func26 (by kernel_rfl) (by kernel_rfl) [.pointer (some ⟨h.p, 0, none⟩), .string (bs (nmOf s1.j.file))] rfl (len_calls _ h s1.d (nmOf s1.j.file) (HDX.out.new hK20) (nmOf_ok _)) ?_
            rintro e w21 ⟨rfl, hw21⟩
            subst hw21
            refine ⟨_, rfl, HS20, ?_⟩
            simp only [Act.put, List.setIfInBounds_toArray, List.set_cons_succ, List.set_cons_zero]
            refine ya_take 22 rfl (by kernel_rfl) (by kernel_rfl) (by kernel_rfl) (fun _ _ _ h => h) HS20 (yi_build rfl _ _ rfl [(0, .int .u64 ((s1.j.seq : Int) + 1)), (1, .int .i64 kind), (2, .slice ca b.length cc), (3, .int .i64 s1.j.file), (4, .int .i64 (s1.d.len (nmOf s1.j.file)))] rfl (.agg (btA (s1.j.seq + 1) kind (.slice ca b.length cc) s1.j.file (s1.d.len (nmOf s1.j.file)))) (buildBt1 _ _ _ _ _ _ _)) ?_
            simp only [Act.put, List.setIfInBounds_toArray, List.set_cons_succ, List.set_cons_zero]
            refine rg_one 24 rfl (by kernel_rfl) (by rfl) ?_
            refine wp_store_agg 94 _ _ rfl bt 0 rfl _ _ HBt20 (btA (s1.j.seq + 1) kind (.slice ca b.length cc) s1.j.file (s1.d.len (nmOf s1.j.file))) rfl (btA (s1.j.seq + 1) kind (.slice ca b.length cc) s1.j.file (s1.d.len (nmOf s1.j.file))) (store_bt _ _ _ _ _ _ _ _ _ _) (le_bt _ _ _ _ _ _ _ _ _ _) (infoBt _ _ _ _ _) (btA_one (own_one1 hco20)) ?_
            intro w24 HBt24 hk24
            have hK24 : Keeps wx w24 (fun _ => False) := hK20.then hk24 (fun i hi e => absurd hi (by rw [show i = bt from e]; exact Nat.not_lt.2 hbtx))
            have HS24 : (fun (w' : World) => w'.cell? ⟨jb, 0, none⟩ = some (.pointer (some ⟨h.p, 0, none⟩)) ∧ w'.cell? ⟨jb, 1, none⟩ = some (.int .u64 s1.j.seq) ∧ w'.cell? ⟨jb, 2, none⟩ = some (.int .i64 s1.j.file)) w24 := by
              have hj24 := hK24.blk HJX.out id
              exact ⟨by show w24.cell? _ = _; rw [cell_of_block hj24]; rfl, by show w24.cell? _ = _; rw [cell_of_block hj24]; rfl, by show w24.cell? _ = _; rw [cell_of_block hj24]; rfl⟩
            refine ⟨HS24, ?_⟩
            simp only [Act.put, List.setIfInBounds_toArray, List.set_cons_succ, List.set_cons_zero]
            refine wpAnyH_done (by kernel_rfl) ?_ _
            go_step
            go_step
            go_meet
            exact ⟨bt, _, _, rfl, Lib.hid ⟨hbtx, HBt24, (hco20.kept hk24 (fun g hg e => own_tyJ hco20 HBt20 (by decide) (by rw [hg]; exact congrArg some e))).low hLO, hK24⟩⟩
        · as_aux_lemma =>
          refine wp_alloc_aggJ 94 rfl _ zeroBt ?_
          intro bt w23 hbt HBt23 hk23
          have HS23 : (fun (w' : World) => w'.cell? ⟨jb, 0, none⟩ = some (.pointer (some ⟨h.p, 0, none⟩)) ∧ w'.cell? ⟨jb, 1, none⟩ = some (.int .u64 s1.j.seq) ∧ w'.cell? ⟨jb, 2, none⟩ = some (.int .i64 s1.j.file)) w23 := ⟨Keeps.cellK hk23 HSx.1, Keeps.cellK hk23 HSx.2.1, Keeps.cellK hk23 HSx.2.2⟩
          have hK23 := hKx.trans hk23
          have hbtx : wx.heap.size ≤ bt := Nat.le_trans hKx.size hbt
          refine ⟨HS23, ?_⟩
          simp only [Act.put, List.setIfInBounds_toArray, List.set_cons_succ, List.set_cons_zero]
          refine rg_one 7 rfl (by kernel_rfl) (by rfl) ?_
          refine rg_call 97 _ _ rfl _ Try.func97 (by kernel_rfl) (by kernel_rfl) [.slice ba b.length bc] rfl (clone_calls _ _ b (HBX.out.new hK23).1 (by omega) (HBX.out.new hK23).2) ?_
          have hLO := hK23.size
          rintro e w7 ⟨cv, rfl, hco7, hk7⟩
          obtain ⟨ca, cc, rfl, _⟩ := isOwn.rd hco7
          rw [octs_len] at hco7 ⊢
          have HS7 : (fun (w' : World) => w'.cell? ⟨jb, 0, none⟩ = some (.pointer (some ⟨h.p, 0, none⟩)) ∧ w'.cell? ⟨jb, 1, none⟩ = some (.int .u64 s1.j.seq) ∧ w'.cell? ⟨jb, 2, none⟩ = some (.int .i64 s1.j.file)) w7 := ⟨Keeps.cellK hk7 HS23.1, Keeps.cellK hk7 HS23.2.1, Keeps.cellK hk7 HS23.2.2⟩
          have hK7 := hK23.trans hk7
          have HBt7 := hk7.blk HBt23 id
          refine ⟨_, rfl, HS7, ?_⟩
          simp only [Act.put, List.setIfInBounds_toArray, List.set_cons_succ, List.set_cons_zero]
          refine rg_one 20 rfl (by kernel_rfl) (by rfl) ?_
          refine rg_call 62 _ _ rfl _ Try.func62 (by kernel_rfl) (by kernel_rfl) [.int .i64 s1.j.file] rfl (name_calls _ (s1.j.file : Int)) ?_
          rintro e w20 ⟨rfl, hk20⟩
          rw [hnm1]
          have HS20 : (fun (w' : World) => w'.cell? ⟨jb, 0, none⟩ = some (.pointer (some ⟨h.p, 0, none⟩)) ∧ w'.cell? ⟨jb, 1, none⟩ = some (.int .u64 s1.j.seq) ∧ w'.cell? ⟨jb, 2, none⟩ = some (.int .i64 s1.j.file)) w20 := ⟨Keeps.cellK hk20 HS7.1, Keeps.cellK hk20 HS7.2.1, Keeps.cellK hk20 HS7.2.2⟩
          have hK20 := hK7.trans hk20
          have hco20 := isOwn.new hco7 hk20
          have HBt20 := hk20.blk HBt7 id
          refine ⟨_, rfl, HS20, ?_⟩
          simp only [Act.put, List.setIfInBounds_toArray, List.set_cons_succ, List.set_cons_zero]
          refine rg_one 21 rfl (by kernel_rfl) (by rfl) ?_
          refine rg_call 26 _ _ rfl _ Try.func26 (by kernel_rfl) (by kernel_rfl) [.pointer (some ⟨h.p, 0, none⟩), .string (bs (nmOf s1.j.file))] rfl (len_calls _ h s1.d (nmOf s1.j.file) (HDX.out.new hK20) (nmOf_ok _)) ?_
          rintro e w21 ⟨rfl, hw21⟩
          subst hw21
          refine ⟨_, rfl, HS20, ?_⟩
          simp only [Act.put, List.setIfInBounds_toArray, List.set_cons_succ, List.set_cons_zero]
          refine ya_take 22 rfl (by kernel_rfl) (by kernel_rfl) (by kernel_rfl) (fun _ _ _ h => h) HS20 (yi_build rfl _ _ rfl [(0, .int .u64 ((s1.j.seq : Int) + 1)), (1, .int .i64 kind), (2, .slice ca b.length cc), (3, .int .i64 s1.j.file), (4, .int .i64 (s1.d.len (nmOf s1.j.file)))] rfl (.agg (btA (s1.j.seq + 1) kind (.slice ca b.length cc) s1.j.file (s1.d.len (nmOf s1.j.file)))) (buildBt1 _ _ _ _ _ _ _)) ?_
          simp only [Act.put, List.setIfInBounds_toArray, List.set_cons_succ, List.set_cons_zero]
          refine rg_one 24 rfl (by kernel_rfl) (by rfl) ?_
          refine wp_store_agg 94 _ _ rfl bt 0 rfl _ _ HBt20 (btA (s1.j.seq + 1) kind (.slice ca b.length cc) s1.j.file (s1.d.len (nmOf s1.j.file))) rfl (btA (s1.j.seq + 1) kind (.slice ca b.length cc) s1.j.file (s1.d.len (nmOf s1.j.file))) (store_bt _ _ _ _ _ _ _ _ _ _) (le_bt _ _ _ _ _ _ _ _ _ _) (infoBt _ _ _ _ _) (btA_one (own_one1 hco20)) ?_
          intro w24 HBt24 hk24
          have hK24 : Keeps wx w24 (fun _ => False) := hK20.then hk24 (fun i hi e => absurd hi (by rw [show i = bt from e]; exact Nat.not_lt.2 hbtx))
          have HS24 : (fun (w' : World) => w'.cell? ⟨jb, 0, none⟩ = some (.pointer (some ⟨h.p, 0, none⟩)) ∧ w'.cell? ⟨jb, 1, none⟩ = some (.int .u64 s1.j.seq) ∧ w'.cell? ⟨jb, 2, none⟩ = some (.int .i64 s1.j.file)) w24 := by
            have hj24 := hK24.blk HJX.out id
            exact ⟨by show w24.cell? _ = _; rw [cell_of_block hj24]; rfl, by show w24.cell? _ = _; rw [cell_of_block hj24]; rfl, by show w24.cell? _ = _; rw [cell_of_block hj24]; rfl⟩
          refine ⟨HS24, ?_⟩
          simp only [Act.put, List.setIfInBounds_toArray, List.set_cons_succ, List.set_cons_zero]
          refine wpAnyH_done (by kernel_rfl) ?_ _
          go_step
          go_step
          go_meet
          exact ⟨bt, _, _, rfl, Lib.hid ⟨hbtx, HBt24, (hco20.kept hk24 (fun g hg e => own_tyJ hco20 HBt20 (by decide) (by rw [hg]; exact congrArg some e))).low hLO, hK24⟩⟩
      case rest =>
        as_aux_lemma =>
        obtain ⟨wy, hwy⟩ : ∃ x, x = wc := ⟨wc, rfl⟩
        rw [← hwy] at hcut ⊢
        clear hwy
        obtain ⟨bt, ca, cc, rfl, hc3⟩ := hcut
        obtain ⟨hbt, hbB, hco, hkw⟩ := hc3.out
        have HBT : Hid (wx.heap.size ≤ bt) := Lib.hid hbt
        have HBB := Lib.hid hbB
        have HDY := Lib.hid (HDX.out.new hkw)
        have HJY := Lib.hid (hkw.blk HJX.out id)
        have HB6Y := Lib.hid (hkw.blk HB6X.out id)
        have HKY := Lib.hid hkw
        have HCO := Lib.hid hco
        have HWX : Hid (w.heap.size ≤ wx.heap.size) := Lib.hid (Nat.le_trans HKC.out.size HK3X.out.size)
        have HB6L : Hid (b6 < wx.heap.size) := Lib.hid (lt_of_blk HB6X.out)
        have HKD : Hid (Keeps w wy (fun i => h.S i ∨ i = jb)) := Lib.hid (((HKC.out.mono (fun _ _ h => h.elim)).trans HK3X.out).trans (hkw.mono (fun _ _ h => h.elim)))
        obtain ⟨D2, e2, hpw⟩ : ∃ D2 e2, putW s1 kind b = (D2, e2) := ⟨_, _, rfl⟩
        have HPW := Lib.hid hpw
        have HWJ : Hid (writeJ s1.d s1.j.file (s1.d.len (nmOf s1.j.file)) (sectorsP (s1.j.seq + 1) kind b) = (D2, e2)) := Lib.hid hpw
        have hln6 : s1.d.len (nmOf s1.j.file) ≤ 1000000 := by omega
        have hkn : kind < 256 := by omega
        clear hc3 hbt hbB hco hkw hpw e0 e1 e3 HDX HBX HK3X HB6X hln hnm1
        go_wp2_with (first
          | ((with_reducible refine gd_load 94 ?_); refine wl_load_agg rfl _ _ rfl bt _ rfl _ _ _ HBB.out (btA (s1.j.seq + 1) kind (.slice ca b.length cc) s1.j.file (s1.d.len (nmOf s1.j.file))) (extract_all _) _ Try.underlying94 rfl (infoBt _ _ _ _ _) ?_)
          | fail)
        refine (jwrite_calls wy h jb s1.j s1.d HJY.out hjS HDY.out wx.heap.size (s1.j.seq + 1) kind _ b s1.j.file (s1.d.len (nmOf s1.j.file)) HCO.out hnn hs2 hkn hln6).mono ?_
        rw [HWJ.out]
        rintro e w5 ⟨rfl, hd5, hk5⟩
        dsimp only at hd5 ⊢
        have hj5 : isJr w5 jb h s1.j := hk5.blk HJY.out hjS
        have h65 := hk5.blk HB6Y.out (fun hs => HN6.out (.inl hs))
        have ht5 := hk5.blk HBB.out (fun hs => absurd (HSW.out bt hs) (Nat.not_lt.2 (Nat.le_trans HWX.out HBT.out)))
        have hco5 := HCO.out.kept hk5 (fun g hg hs => absurd (HSW.out g hs) (Nat.not_lt.2 (Nat.le_trans HWX.out (HCO.out.blk g hg).1)))
        have HK5 : Hid (Keeps w w5 (fun i => h.S i ∨ i = jb)) := Lib.hid (HKD.out.trans (hk5.mono (fun i _ hs => .inl hs)))
        have HD5 := Lib.hid hd5
        have HJ5 := Lib.hid hj5
        have HCO5 := Lib.hid hco5
        clear hd5 hk5
        by_cases h0 : e2 = 0
        · as_aux_lemma =>
          subst h0
          have d1 : w5.cell? ⟨jb, 1, none⟩ = some (.int .u64 s1.j.seq) := by rw [cell_of_block hj5]; rfl
          have f1 : w5.frozen? ⟨jb, 1, none⟩ = false := free_of_block hj5 1
          have k1 := keeps_cell w5 jb 1 (.int .u64 ((s1.j.seq : Int) + 1))
          have h66 := k1.blk h65 (fun e => HN6.out (.inr e))
          have ht6 := k1.blk ht5 (fun e => absurd HJW.out (by rw [← show bt = jb from e]; exact Nat.not_lt.2 (Nat.le_trans HWX.out HBT.out)))
          have hcs := own_one1 hco5
          have HP : Hid (putJ s1 kind b = (⟨D2, { s1.j with seq := s1.j.seq + 1 }⟩, 0)) := Lib.hid (by unfold putJ; rw [HPW.out, if_pos rfl])
          clear hj5 h65 ht5 hco5
          go_wp2_with (first
            | ((with_reducible refine gd_load 94 ?_); refine wl_load_agg rfl _ _ rfl bt _ rfl _ _ _ ht6 (btA (s1.j.seq + 1) kind (.slice ca b.length cc) s1.j.file (s1.d.len (nmOf s1.j.file))) (extract_all _) _ Try.underlying94 rfl (infoBt _ _ _ _ _) ?_)
            | ((with_reducible refine gd_store 94 ?_); refine wl_store_agg rfl _ _ _ rfl b6 _ rfl _ _ h66 (btA (s1.j.seq + 1) kind (.slice ca b.length cc) s1.j.file (s1.d.len (nmOf s1.j.file))) rfl (btA (s1.j.seq + 1) kind (.slice ca b.length cc) s1.j.file (s1.d.len (nmOf s1.j.file))) (store_bt _ _ _ _ _ _ _ _ _ _) (le_bt _ _ _ _ _ _ _ _ _ _) (infoBt _ _ _ _ _) (btA_one hcs) ?_; intro w7 HB67 HK7)
            | fail)
          refine bodyPost_ret (v := .tuple #[.agg (btA (s1.j.seq + 1) kind (.slice ca b.length cc) s1.j.file (s1.d.len (nmOf s1.j.file))), .int .i64 0]) ?_ rfl ?_
          · exact results_two rfl _ _ b6 _ _ _ _ rfl rfl HB67 _ Try.underlying94 rfl (infoBt _ _ _ _ _)
          · have hb1 := blk_setCell HJ5.out 1 (.int .u64 ((s1.j.seq : Int) + 1))
            have hd6 := HD5.out.apart k1 (fun i e hs => hjS (by rw [← show i = jb from e]; exact hs))
            have ho6 := HCO5.out.kept k1 (fun g hg e => absurd HJW.out (by rw [← show g = jb from e]; exact Nat.not_lt.2 (Nat.le_trans HWX.out (HCO5.out.blk g hg).1)))
            have ho7 := ho6.kept HK7 (fun g hg e => absurd HB6L.out (by rw [← show g = b6 from e]; exact Nat.not_lt.2 (HCO5.out.blk g hg).1))
            unfold AppendPost
            rw [HA.out, HP.out, HTJ.out]
            refine ⟨_, rfl, ho7.low HWX.out, hd6.apart HK7 (fun i e hs => HN6.out (.inl (by rw [← show i = b6 from e]; exact hs))), HK7.blk hb1 (fun e => HN6.out (.inr (Eq.symm e))), ?_⟩
            exact (HK5.out.trans (k1.mono (fun i _ e => .inr e))).then HK7 (fun i hi e => absurd hb6w (by rw [← show i = b6 from e]; exact Nat.not_le.2 hi))
        · as_aux_lemma =>
          have h0b : (e2 != 0) = true := by simpa using h0
          have HE := Lib.hid h0
          have d4 : w5.cell? ⟨jb, 4, none⟩ = some (.bool s1.j.dead) := by rw [cell_of_block hj5]; rfl
          have f4 : w5.frozen? ⟨jb, 4, none⟩ = false := free_of_block hj5 4
          have k1 := keeps_cell w5 jb 4 (.bool true)
          have h66 := k1.blk h65 (fun e => HN6.out (.inr e))
          have HP : Hid (putJ s1 kind b = (⟨D2, { s1.j with dead := true }⟩, e2)) := Lib.hid (by unfold putJ; rw [HPW.out, if_neg h0])
          clear hj5 h65 ht5 hco5 h0
          go_wp2_with (first
            | ((with_reducible refine gd_build 94 ?_); refine wl_build0 rfl _ rfl _ buildBt0 ?_)
            | ((with_reducible refine gd_store 94 ?_); refine wl_store_agg rfl _ _ _ rfl b6 _ rfl _ _ h66 btZ rfl btZ (store_bt _ _ _ _ _ _ _ _ _ _) (le_bt _ _ _ _ _ _ _ _ _ _) (infoBt _ _ _ _ _) (btA_one rfl) ?_; intro w7 HB67 HK7)
            | fail)
          refine bodyPost_ret (v := .tuple #[.agg btZ, .int .i64 e2]) ?_ rfl ?_
          · exact results_two rfl _ _ b6 _ _ _ _ rfl rfl HB67 _ Try.underlying94 rfl (infoBt _ _ _ _ _)
          · have hb1 := blk_setCell HJ5.out 4 (.bool true)
            have hd6 := HD5.out.apart k1 (fun i e hs => hjS (by rw [← show i = jb from e]; exact hs))
            exact append_bad (HA.out.trans HP.out) HE.out (hd6.apart HK7 (fun i e hs => HN6.out (.inl (by rw [← show i = b6 from e]; exact hs)))) (HK7.blk hb1 (fun e => HN6.out (.inr (Eq.symm e)))) ((HK5.out.trans (k1.mono (fun i _ e => .inr e))).then HK7 (fun i hi e => absurd hb6w (by rw [← show i = b6 from e]; exact Nat.not_le.2 hi)))
end Go.Proofs.Ytadjcdfmppcpnaa

namespace Go.Proofs.Ytadjcdfmppcpnaa
open Go Go.RowKit Go.Maps Wb

theorem japp_calls (w : World) (h : DH) (jb : Nat) (D : Dv) (J : Jr) (hj : isJr w jb h J) (hjS : ¬ h.S jb) (hd : isDev w h D) (kind : Int) (bv : Value) (b : List UInt8) (hb : isArgB w bv b) (hbS : ∀ g, bv.ownBlock = some g → ¬ h.S g ∧ g ≠ jb) (hbl : b.length ≤ 1000000) (hsq : J.seq < 2 ^ 64) (hnx : J.next ≤ 1000000) (hfi : J.file ≤ 1000000) :
    Calls Try.prog 59 #[.pointer (some ⟨jb, 0, none⟩), .int .i64 kind, bv] w (AppendPost w h jb ⟨D, J⟩ kind b) := by
  by_cases hp : appendPre ⟨D, J⟩ kind b.length = 0
  · obtain ⟨k, rfl⟩ : ∃ k : Nat, kind = k := by
      refine ⟨kind.toNat, ?_⟩
      unfold appendPre at hp
      split at hp
      · cases hp
      · split at hp
        · cases hp
        · rename_i h1
          omega
    exact append_go w h jb D J hj hjS hd k bv b hb hbS hbl hsq hnx hfi hp
  · exact append_refuse w h jb D J hj hd kind bv b hb hbl hsq hp

theorem batchR_len (rd : Nat → Sec × Int) (a : Nat) : (batchR rd a).b.length ≤ 196608 := by
  unfold batchR
  split
  · exact Nat.zero_le _
  · split
    · exact Nat.zero_le _
    · rename_i hb
      split
      · exact Nat.zero_le _
      · rename_i hg
        split
        · have := (gather_len (rd := rd) (p := a) _ (by simpa using hg)).2
          have hm : (headP (rd a).1).many ≤ 4096 := by unfold headBad at hb; omega
          show (gatherR rd a (headP (rd a).1).many).1.2.length ≤ _
          omega
        · exact Nat.zero_le _
/-- The first octets of a batch. -/
def readB (D : Dv) (file p : Nat) (n : Int) : List UInt8 × Int :=
  if n < 0 then ([], 1) else if (batchR (readJ D file) p).err ≠ 0 then ([], (batchR (readJ D file) p).err) else if ((batchR (readJ D file) p).b.length : Int) < n then ([], 1) else ((batchR (readJ D file) p).b.take n.toNat, 0)
def JReadPost (w : World) (r : List UInt8 × Int) (e : Ending) (w' : World) : Prop := ∃ v, e = .returned (.tuple #[v, .int .i64 r.2]) ∧ isOwn w' w.heap.size 5 v (octs r.1) ∧ Keeps w w' (fun _ => False)
theorem read_post_bad {w w' : World} {r : List UInt8 × Int} {x : Int} (hr : r = ([], x)) (hk : Keeps w w' (fun _ => False)) : JReadPost w r (.returned (.tuple #[.slice none 0 0, .int .i64 x])) w' := by
  subst hr
  exact ⟨_, rfl, isOwn_nil _ _ _, hk⟩

set_option maxRecDepth 100000 in
set_option maxHeartbeats 4000000 in
theorem jread_calls (w : World) (h : DH) (D : Dv) (file p : Nat) (n : Int) (hd : isDev w h D) (hp : p ≤ 1000000) :
    Calls Try.prog 66 #[.pointer (some ⟨h.p, 0, none⟩), .int .i64 file, .int .i64 p, .int .i64 n] w (JReadPost w (readB D file p n)) := by
  by_cases hn : n < 0
  · have hn1 : decide (n < 0) = true := decide_eq_true hn
    have HP : Hid (readB D file p n = ([], 1)) := Lib.hid (by unfold readB; rw [if_pos hn])
    go_enter Try.func66, Try.ntmps66
    go_wp2_with fail
    go_ret2
    exact read_post_bad HP.out (Keeps.refl _ _)
  · have hn1 : decide (n < 0) = false := decide_eq_false hn
    obtain ⟨m, rfl⟩ : ∃ m : Nat, n = m := ⟨n.toNat, by omega⟩
    obtain ⟨r, hr⟩ : ∃ r, r = batchR (readJ D file) p := ⟨_, rfl⟩
    have hrl := batchR_len (readJ D file) p
    have HP : Hid (readB D file p m = if r.err ≠ 0 then ([], r.err) else if (r.b.length : Int) < m then ([], 1) else (r.b.take m, 0)) := Lib.hid (by unfold readB; rw [if_neg hn, ← hr, Int.toNat_natCast])
    rw [← hr] at hrl
    have HR := Lib.hid hr
    clear hn hr
    have hli : (r.b.length : Int) ≤ 196608 := by omega
    go_enter Try.func66, Try.ntmps66
    go_wp2_with fail
    refine (jbatch_calls w h D file p hd hp).mono ?_
    rw [← HR.out]
    rintro e w2 ⟨bv, he, hbo, hk2⟩
    have HK2 := Lib.hid hk2
    have HBO := Lib.hid hbo
    clear hk2 hbo
    by_cases h0 : r.err = 0
    · rw [if_pos h0] at he
      rw [h0] at he
      subst he
      have HP2 : Hid (readB D file p m = if (r.b.length : Int) < m then ([], 1) else (r.b.take m, 0)) := Lib.hid (by rw [HP.out, if_neg (by rw [h0]; simp)])
      have o1 := own_one1 HBO.out
      clear h0
      obtain ⟨ba, bc, rfl, hbc⟩ := isOwn.rd HBO.out
      have hol := octs_len r.b
      rw [hol] at HBO hbc ⊢
      go_upto_region 6 with (first
        | ((with_reducible refine gd_alloc 94 ?_); refine wl_alloc_agg rfl _ rfl _ zeroBt ?_; intro b10 w3 hb10 HB10 HK3)
        | ((with_reducible refine gd_store 94 ?_); refine wl_store_agg rfl _ _ _ rfl b10 _ rfl _ _ HB10 (btA r.seq r.kind (.slice ba r.b.length bc) file p) rfl (btA r.seq r.kind (.slice ba r.b.length bc) file p) (store_bt _ _ _ _ _ _ _ _ _ _) (le_bt _ _ _ _ _ _ _ _ _ _) (infoBt _ _ _ _ _) (btA_one o1) ?_; intro w4 HB4 HK4)
        | fail)
      have c2 : w4.cell? ⟨b10, 2, none⟩ = some (.slice ba r.b.length bc) := by rw [cell_of_block HB4]; rfl
      have hK24 : Keeps w2 w4 (fun _ => False) := HK3.then HK4 (fun i hi e => absurd hb10 (by rw [← show i = b10 from e]; exact Nat.not_le.2 hi))
      have hK4 := HK2.out.trans hK24
      have HBO4 := Lib.hid (HBO.out.new hK24)
      clear HB10 HK3 HB4 HK4 hK24 HK2 HBO
      by_cases hm : (r.b.length : Int) < m
      · have hmb : decide ((r.b.length : Int) < (m : Int)) = true := decide_eq_true hm
        have hmb2 : decide (r.b.length < m) = true := decide_eq_true (by omega)
        have HP3 : Hid (readB D file p m = ([], 1)) := Lib.hid (by rw [HP2.out, if_pos hm])
        clear hm
        go_wp2_with fail
        go_ret2
        exact read_post_bad HP3.out hK4
      · as_aux_lemma =>
        have hmb : decide ((r.b.length : Int) < (m : Int)) = false := decide_eq_false hm
        have hmb2 : decide (r.b.length < m) = false := decide_eq_false (by omega)
        have HP3 : Hid (readB D file p m = (r.b.take m, 0)) := Lib.hid (by rw [HP2.out, if_neg hm])
        have hml : m ≤ r.b.length := by omega
        have hmi : (m : Int) ≤ r.b.length := by omega
        have hbci : (r.b.length : Int) ≤ bc := by omega
        have hmc : m ≤ bc := by omega
        have hmci : (m : Int) ≤ bc := by omega
        have hm0 : (0 : Int) ≤ m := by omega
        have hrd := HBO4.out.rd
        have hnc := HBO4.out.nilcap
        have htk := isRd_take hrd (k := m) (by rw [hol]; exact hml)
        rw [← octs_take] at htk
        have htl : (r.b.take m).length ≤ 140737488351232 := by rw [List.length_take]; omega
        clear hm
        go_wp2_with fail
        refine (clone_calls _ _ _ htk htl (fun cap hv => by
          injection hv with e1 e2 e3
          subst e1
          rcases HBO4.out.2 with ⟨e, _⟩ | ⟨g, cp, cur, e, _⟩
          · injection e with _ _ e6; exact e3.symm.trans e6
          · cases e)).mono ?_
        rintro e w5 ⟨v5, rfl, ho5, hk5⟩
        go_wp2_with fail
        go_ret2
        rw [HP3.out]
        exact ⟨_, rfl, ho5.low hK4.size, hK4.trans hk5⟩
    · rw [if_neg h0] at he
      subst he
      have h0b : (r.err != 0) = true := by simpa using h0
      have HP2 : Hid (readB D file p m = ([], r.err)) := Lib.hid (by rw [HP.out, if_pos h0])
      clear h0
      go_wp2_with (first
        | ((with_reducible refine gd_alloc 94 ?_); refine wl_alloc_agg rfl _ rfl _ zeroBt ?_; intro b10 w3 hb10 HB10 HK3)
        | ((with_reducible refine gd_store 94 ?_); refine wl_store_agg rfl _ _ _ rfl b10 _ rfl _ _ HB10 btZ rfl btZ (store_bt _ _ _ _ _ _ _ _ _ _) (le_bt _ _ _ _ _ _ _ _ _ _) (infoBt _ _ _ _ _) (btA_one rfl) ?_; intro w4 HB4 HK4)
        | fail)
      go_ret2
      exact read_post_bad HP2.out (HK2.out.trans (HK3.then HK4 (fun i hi e => absurd hb10 (by rw [← show i = b10 from e]; exact Nat.not_le.2 hi))))
end Go.Proofs.Ytadjcdfmppcpnaa

namespace Go.Proofs.Ytadjcdfmppcpnaa
open Go Go.RowKit Go.Maps Wb

def octB (v : Int) (i : Nat) : UInt8 := UInt8.ofNat ((v + i * 7 + i / 256) % 256).toNat
theorem octB_val (v : Int) (i : Nat) : ((octB v i).toNat : Int) = (v + i * 7 + i / 256) % 256 := by
  unfold octB
  have h1 : 0 ≤ (v + i * 7 + i / 256) % 256 := Int.emod_nonneg _ (by omega)
  have h2 : (v + i * 7 + i / 256) % 256 < 256 := Int.emod_lt_of_pos _ (by omega)
  generalize (v + i * 7 + i / 256) % 256 = x at *
  simp only [UInt8.toNat_ofNat']
  omega
/-- So many octets of a number. -/
def octP (n : Nat) (v : Int) : List UInt8 := (List.range n).map (octB v)
theorem octP_len (n : Nat) (v : Int) : (octP n v).length = n := by simp [octP]
def octTo (v : Int) (n q : Nat) : List UInt8 := (List.range n).map fun i => if i < q then octB v i else 0
theorem octTo_zero (v : Int) (n : Nat) : (octs (octTo v n 0)).toArray = Array.replicate n (.int .u8 0) := by
  apply Array.toList_inj.1
  simp [octTo, octs, octV, Function.comp_def, List.map_const']
theorem octTo_all (v : Int) (n : Nat) : octTo v n n = octP n v := by
  unfold octTo octP
  apply List.map_congr_left
  intro i hi
  simp at hi
  simp; omega
theorem octTo_step (v : Int) (n q : Nat) (hq : q < n) : (octs (octTo v n q)).toArray.setIfInBounds q (octV (octB v q)) = (octs (octTo v n (q + 1))).toArray := by
  apply Array.toList_inj.1
  simp only [Array.toList_setIfInBounds]
  apply List.ext_getElem?
  intro j
  rw [List.getElem?_set]
  simp only [octs, octTo, List.getElem?_map, List.length_map, List.length_range]
  by_cases hj : q = j
  · subst hj
    simp [hq]
  · simp only [hj, if_false]
    by_cases hjn : j < n
    · simp [hjn]
      have : (j < q) ↔ (j < q + 1) := by omega
      simp [this]
    · simp [hjn]
def OctRel (w : World) (v : Int) (n bb q : Nat) (wr : World) : Prop := wr.heap[bb]? = some (.cells (octs (octTo v n q)).toArray 5 (0, 0)) ∧ Keeps w wr (fun _ => False)
theorem wrap_i64 (x : Int) : IntKind.i64.wrap x = (x + 9223372036854775808) % 18446744073709551616 - 9223372036854775808 := by
  unfold IntKind.wrap
  simp [IntKind.signed, IntKind.bits]
  split <;> omega

set_option maxRecDepth 100000 in
set_option maxHeartbeats 1000000 in
theorem octets_calls (w : World) (n : Nat) (v : Int) (hn : n ≤ 300000) (hv : kOk v) : Calls Try.prog 60 #[.int .i64 n, .int .i64 v] w (OctsPost w (octP n v)) := by
  have hni : (n : Int) ≤ 300000 := by omega
  have hn0 : (0 : Int) ≤ n := by omega
  have hmx : max (n : Int) 0 = n := by omega
  have hmn : min (n : Int) 300000 = n := by omega
  have hv1 : -9223372036854775808 ≤ v := hv.1
  have hv2 : v ≤ 9223372036854775807 := hv.2
  go_enter Try.func60, Try.ntmps60
  go_wp2_with (first
    | (refine wl_make1 rfl _ _ _ rfl 5 _ 1 Try.underlying63 info_u8 rfl _ _ _ n rfl rfl rfl (by omega) (by unfold maxLen; omega) ?_; intro bb w1 hbb HB1 HK1)
    | fail)
  rw [← octTo_zero v n] at HB1
  have HREL0 : Hid (OctRel w v n bb 0 w1) := Lib.hid ⟨HB1, HK1⟩
  have HBB := Lib.hid hbb
  clear HB1 HK1 hbb
  go_loopw [13] (fun i wr => ∃ q : Nat, q ≤ n ∧ i = .int .i64 q ∧ Hid (OctRel w v n bb q wr)) (fun i _ => n - (intOf i).toNat)
  case atStart => exact ⟨0, Nat.zero_le _, rfl, HREL0⟩
  case round =>
    clear HREL0
    obtain ⟨q, hq, rfl, hrel⟩ := hrel
    have hq0 : (0 : Int) ≤ q := by omega
    by_cases hlt : q < n
    · have hlb : decide (q < n) = true := by simpa using hlt
      have hq9 : (q : Int) < n := by omega
      obtain ⟨hb, hk⟩ := hrel.out
      have hc : wr.cell? ⟨bb, q, none⟩ = some (octV 0) := by
        rw [cell_of_block hb]; simp [octs, octTo, hlt]
      have hfr : wr.frozen? ⟨bb, q, none⟩ = false := free_of_block hb q
      have hb2 := blk_setCell hb q (octV (octB v q))
      rw [octTo_step v n q hlt] at hb2
      have hk2 := hk.then (keeps_cell wr bb q (octV (octB v q))) (fun i hi e => absurd HBB.out (by rw [← show i = bb from e]; exact Nat.not_le.2 hi))
      obtain ⟨x, hx⟩ : ∃ x, IntKind.i64.wrap (v + (q : Int) * 7) = x := ⟨_, rfl⟩
      obtain ⟨y, hy⟩ : ∃ y, IntKind.i64.wrap (x + (q : Int) / 256) = y := ⟨_, rfl⟩
      have hval : octV (octB v q) = .int .u8 (y % 256) := by
        unfold octV
        rw [octB_val]
        congr 1
        rw [wrap_i64] at hx hy
        omega
      rw [hval] at hb2 hk2
      have HREL := Lib.hid (show OctRel w v n bb (q + 1) _ from ⟨hb2, hk2⟩)
      have HLT := Lib.hid hlt
      clear hb hk hb2 hk2 hval hrel hlt hv1 hv2
      go_wp2
      go_roundw
      case rel => exact ⟨q + 1, HLT.out, by go_num, HREL⟩
      case measure => have := HLT.out; simp [intOf]; omega
    · have hlb : decide (q < n) = false := by simpa using hlt
      obtain rfl : q = n := by omega
      have HLE := Lib.hid (octP_len q v)
      have HFA := Lib.hid (octTo_all v q)
      clear hlt
      go_wp2
      go_ret
      obtain ⟨hb, hk⟩ := hrel.out
      rw [HFA.out] at hb
      have hlen : (octs (octP q v)).length = q := by rw [octs_len, HLE.out]
      have := isOwn_made hb HBB.out (by rw [hlen]; unfold maxLen; omega)
      rw [hlen] at this
      refine ⟨_, rfl, ?_, hk⟩
      show isOwn _ _ _ _ _
      exact this
end Go.Proofs.Ytadjcdfmppcpnaa

namespace Go.Proofs.Ytadjcdfmppcpnaa
open Go Go.RowKit Go.Maps Wb

def SameRow (a b : Bt) : Prop := a.seq = b.seq ∧ a.kind = b.kind ∧ a.file = b.file ∧ a.pos = b.pos ∧ a.b = b.b
theorem same_row {a b : Bt} (h : SameRow a b) : a = b := by
  obtain ⟨h1, h2, h3, h4, h5⟩ := h
  cases a; cases b
  simp only at *
  subst h1 h2 h3 h4 h5
  rfl
instance (a b : Bt) : Decidable (SameRow a b) := by unfold SameRow; infer_instance
instance : DecidableEq Bt := fun a b => decidable_of_iff (SameRow a b) ⟨same_row, fun e => by subst e; exact ⟨rfl, rfl, rfl, rfl, rfl⟩⟩
theorem run_strZ {w : World} (p : Option Addr) (c : Nat) : (convert 63 9 (.slice p 0 c)).run Try.prog w = .ok (.string (bs [])) w := by
  rw [run_convert_bytes_string w 63 9 5 p 0 c Try.underlying63 Try.underlying5 Try.underlying9]
  cases p <;> simp [Conv.bytesToString, loadCells]
  all_goals rfl
theorem run_str {w : World} {v : Value} {l : List UInt8} (h : isRd w v (octs l)) : (convert 63 9 v).run Try.prog w = .ok (.string (bs l)) w := by
  by_cases h0 : l = []
  · subst h0
    obtain ⟨a, cap, rfl, _, _⟩ := h
    exact run_strZ a cap
  · exact run_string h h0
/-- Batches that are read. -/
def isRdB (w : World) (v : Value) (l : List Bt) : Prop :=
  ∃ bvs : List Value, bvs.length = l.length ∧ isRdA w 5 v (btRows l bvs) ∧ ∀ (j : Nat) t bv, l[j]? = some t → bvs[j]? = some bv → isRd w bv (octs t.b)
theorem isBts.rd {w : World} {lo : Nat} {v : Value} {l : List Bt} (h : isBts w lo v l) : isRdB w v l := by
  obtain ⟨bvs, h1, h2, h3⟩ := h
  exact ⟨bvs, h1, h2.rd, fun j t bv ht hb => (h3 j t bv ht hb).rd⟩
theorem isRdB.shape {w : World} {v : Value} {l : List Bt} (h : isRdB w v l) : ∃ ad cap, v = .slice ad l.length cap ∧ l.length ≤ cap := by
  obtain ⟨bvs, h1, ⟨ad, cap, e, hc, _⟩, h3⟩ := h
  rw [btRows_len h1] at e hc
  exact ⟨ad, cap, e, hc⟩
theorem isRdB.row {w : World} {v : Value} {l : List Bt} (h : isRdB w v l) {q : Nat} {b : Bt} (hq : l[q]? = some b) :
    ∃ g off cap bv, v = .slice (some ⟨g, off, none⟩) l.length cap ∧ w.rangeAt g (off + q * 5) (btA b.seq b.kind bv b.file b.pos).toList ∧ isRd w bv (octs b.b) ∧ bv.oneCell' = true := by
  obtain ⟨bvs, h1, ⟨ad, cap, e, hc, h2⟩, h3⟩ := h
  have hl := (List.getElem?_eq_some_iff.1 hq).1
  obtain ⟨bv, hbv⟩ : ∃ bv, bvs[q]? = some bv := ⟨_, List.getElem?_eq_getElem (by omega)⟩
  have hr : (btRows l bvs)[q]? = some (btA b.seq b.kind bv b.file b.pos) := by
    unfold btRows
    rw [List.getElem?_zipWith, hq, hbv]
  obtain ⟨g, off, rfl, _, h5⟩ := h2 q _ hr
  rw [btRows_len h1] at e
  have hrd := h3 q b bv hq hbv
  refine ⟨g, off, cap, bv, e, h5, hrd, ?_⟩
  obtain ⟨a, c, rfl, _⟩ := hrd
  rfl
theorem range_at {w : World} {g o : Nat} {cs : List Value} (h : w.rangeAt g o cs) (i : Nat) {v : Value} (hi : cs[i]? = some v) : w.cell? ⟨g, o + i, none⟩ = some v := h i v hi
abbrev SbS (w : World) (g o g2 o2 : Nat) (a b : Bt) (bv bv2 : Value) : Prop :=
  (w.cell? ⟨g, o, none⟩ = some (.int .u64 a.seq) ∧ w.cell? ⟨g, o + 1, none⟩ = some (.int .i64 a.kind) ∧ w.cell? ⟨g, o + 2, none⟩ = some bv ∧ w.cell? ⟨g, o + 3, none⟩ = some (.int .i64 a.file) ∧ w.cell? ⟨g, o + 4, none⟩ = some (.int .i64 a.pos)) ∧
  (w.cell? ⟨g2, o2, none⟩ = some (.int .u64 b.seq) ∧ w.cell? ⟨g2, o2 + 1, none⟩ = some (.int .i64 b.kind) ∧ w.cell? ⟨g2, o2 + 2, none⟩ = some bv2 ∧ w.cell? ⟨g2, o2 + 3, none⟩ = some (.int .i64 b.file) ∧ w.cell? ⟨g2, o2 + 4, none⟩ = some (.int .i64 b.pos)) ∧
  (convert 63 9 bv).run Try.prog w = .ok (.string (bs a.b)) w ∧ (convert 63 9 bv2).run Try.prog w = .ok (.string (bs b.b)) w

end Go.Proofs.Ytadjcdfmppcpnaa

namespace Go.Proofs.Ytadjcdfmppcpnaa
open Go Go.RowKit Go.Maps Wb

/-- A device of the statement's own. -/
structure LawD (w0 w : World) (h : DH) (D : Dv) : Prop where
  dev : isDev w h D
  new : ∀ i, h.S i → w0.heap.size ≤ i
  keeps : Keeps w0 w (fun _ => False)
/-- .. and a journal over it. -/
structure Law8 (w0 w : World) (h : DH) (jb : Nat) (D : Dv) (J : Jr) : Prop where
  law : LawD w0 w h D
  jr : isJr w jb h J
  jnew : w0.heap.size ≤ jb
  apart : ¬ h.S jb
theorem LawD.start {w w' : World} {h : DH} {D : Dv} (hd : isDev w' h D) (hk : Keeps w w' (fun _ => False)) (hS : ∀ i, h.S i → w.heap.size ≤ i) : LawD w w' h D := ⟨hd, hS, hk⟩
theorem LawD.more {w0 w w' : World} {h : DH} {D : Dv} (hL : LawD w0 w h D) (hk : Keeps w w' (fun _ => False)) : LawD w0 w' h D := ⟨hL.dev.new hk, hL.new, hL.keeps.trans hk⟩
theorem Law8.more {w0 w w' : World} {h : DH} {jb : Nat} {D : Dv} {J : Jr} (hL : Law8 w0 w h jb D J) (hk : Keeps w w' (fun _ => False)) : Law8 w0 w' h jb D J := ⟨hL.law.more hk, hk.blk hL.jr id, hL.jnew, hL.apart⟩
theorem Law8.drew {w0 w : World} {h : DH} {jb : Nat} {D : Dv} {J : Jr} (hL : Law8 w0 w h jb D J) : Law8 w0 w.drew h jb D J := hL.more (Keeps.refl w _).drew
theorem LawD.drew {w0 w : World} {h : DH} {D : Dv} (hL : LawD w0 w h D) : LawD w0 w.drew h D := hL.more (Keeps.refl w _).drew
/-- A step in blocks of the statement's own, apart from the device and the journal. -/
theorem Law8.own {w0 w w' : World} {h : DH} {jb : Nat} {D : Dv} {J : Jr} {S : Nat → Prop} (hL : Law8 w0 w h jb D J) (hk : Keeps w w' S) (h1 : ∀ i, S i → ¬ h.S i ∧ i ≠ jb) (h2 : ∀ i, i < w0.heap.size → ¬ S i) : Law8 w0 w' h jb D J :=
  ⟨⟨hL.law.dev.apart hk (fun i hi => (h1 i hi).1), hL.law.new, hL.law.keeps.then hk (fun i hi hs => h2 i hi hs)⟩, hk.blk hL.jr (fun hs => (h1 jb hs).2 rfl), hL.jnew, hL.apart⟩
theorem LawD.lt {w0 w : World} {h : DH} {D : Dv} (hL : LawD w0 w h D) {i : Nat} (hi : h.S i) : i < w.heap.size := hL.dev.lt hi
theorem Law8.jlt {w0 w : World} {h : DH} {jb : Nat} {D : Dv} {J : Jr} (hL : Law8 w0 w h jb D J) : jb < w.heap.size := lt_of_blk hL.jr
theorem fsJ_len (L : FJ) : (fsJ L).length = L.length := by simp [fsJ]
theorem l8_open {w0 w : World} {h : DH} {m : Nat} {L : FJ} {n : Nat} {B : List Bt} (hL : LawD w0 w h (devJ m (-1) L)) (hok : okJ L) (ht : Tells (viewJ L) n B) (hl : L.length ≤ 1000000) :
    Calls Try.prog 58 #[.pointer (some ⟨h.p, 0, none⟩)] w fun e w' => ∃ L' J' jb lv, viewJ L' = viewJ L ∧ (SettledJ L → L' = L) ∧ used (fsJ L') = used (fsJ L) ∧ LiveJ L' J' n B ∧ J'.file = 0 ∧ ((L = [] ∧ J'.next = 1) ∨ ∃ a ∈ L, J'.next = a.1 + 1) ∧
      e = .returned (.tuple #[.pointer (some ⟨jb, 0, none⟩), lv]) ∧ Law8 w0 w' h jb (devJ m (-1) L') J' ∧ isBts w' w.heap.size lv B ∧ w.heap.size ≤ jb ∧ Keeps w w' h.S := by
  obtain ⟨L', h1, h2, h3, h4, h5, h6, h7, h8⟩ := open_live (m := m) hok ht
  refine (jopen_calls w h _ hL.dev (by rw [show (devJ m (-1) L).files = fsJ L from rfl, fsJ_len]; exact hl)).mono ?_
  rintro e w' ⟨jb, lv, he, hjb, hjr, hd, hbt, hk⟩
  rw [h5] at hbt
  rw [h1] at hd
  exact ⟨L', _, jb, lv, h2, h3, h4, h6, h7, h8, he, ⟨⟨hd, hL.new, hL.keeps.then hk (fun i hi hs => absurd (hL.new i hs) (Nat.not_le.2 hi))⟩, hjr, Nat.le_trans hL.keeps.size hjb, fun hs => absurd (hL.lt hs) (Nat.not_lt.2 hjb)⟩, hbt, hjb, hk⟩
theorem Law8.keep {w0 w w' : World} {h : DH} {jb : Nat} {D D' : Dv} {J J' : Jr} (hL : Law8 w0 w h jb D J) (hd : isDev w' h D') (hj : isJr w' jb h J') (hk : Keeps w w' (fun i => h.S i ∨ i = jb)) : Law8 w0 w' h jb D' J' :=
  ⟨⟨hd, hL.law.new, hL.law.keeps.then hk (fun i hi hs => hs.elim (fun h1 => absurd (hL.law.new i h1) (Nat.not_le.2 hi)) (fun e => absurd hL.jnew (by rw [← e]; exact Nat.not_le.2 hi)))⟩, hj, hL.jnew, hL.apart⟩
theorem l8_append {w0 w : World} {h : DH} {jb m : Nat} {L : FJ} {J : Jr} {n : Nat} {B : List Bt} {kind : Nat} {bv : Value} {b : List UInt8} (hL : Law8 w0 w h jb (devJ m (-1) L) J) (hl : LiveJ L J n B) (hx : J.next ≤ 999999) (hf : J.file ≤ 1000000) (hb : btOk kind b (n + 1)) (hu : used (fsJ L) + needN b.length ≤ m)
    (hbl : b.length ≤ 1000000) (ha : isArgB w bv b) (hbS : ∀ g, bv.ownBlock = some g → ¬ h.S g ∧ g ≠ jb) :
    Calls Try.prog 59 #[.pointer (some ⟨jb, 0, none⟩), .int .i64 kind, bv] w fun e w' => ∃ L0 f l nx L' bv', SpotJ L J L0 f l nx ∧ DoneJ m (-1) L J n B kind b L0 f l nx (-1) L' ∧
      e = .returned (.tuple #[.agg (btA (n + 1) kind bv' f l.length), .int .i64 0]) ∧ Law8 w0 w' h jb (devJ m (-1) L') ⟨n + 1, f, nx, false⟩ ∧ isOwn w' w.heap.size 5 bv' (octs b) ∧ Keeps w w' (fun i => h.S i ∨ i = jb) := by
  obtain ⟨L0, f, l, nx, L', hs, he, hd⟩ := append_well (m := m) hl hx hb hu
  refine (japp_calls w h jb _ J hL.jr hL.apart hL.law.dev kind bv b ha hbS hbl (by have := hb.seq; rw [hl.seq]; omega) (by omega) hf).mono ?_
  rintro e w' ⟨bv', h1, h2, h3, h4, h5⟩
  rw [he] at h1 h2 h3 h4
  simp only [if_true] at h1 h2
  rw [hd.len, Int.toNat_natCast] at h1
  exact ⟨L0, f, l, nx, L', bv', hs, hd, h1, hL.keep h3 h4 h5, h2, h5⟩
theorem l8_refuse {w0 w : World} {h : DH} {jb : Nat} {D : Dv} {J : Jr} {kind : Int} {bv : Value} {b : List UInt8} {r : Int} (hL : Law8 w0 w h jb D J) (hr : appendPre ⟨D, J⟩ kind b.length = r) (h0 : r ≠ 0) (hsq : J.seq < 2 ^ 64)
    (hbl : b.length ≤ 1000000) (ha : isArgB w bv b) :
    Calls Try.prog 59 #[.pointer (some ⟨jb, 0, none⟩), .int .i64 kind, bv] w fun e w' => e = .returned (.tuple #[.agg btZ, .int .i64 r]) ∧ Law8 w0 w' h jb D J ∧ Keeps w w' (fun i => h.S i ∨ i = jb) := by
  refine (append_refuse w h jb D J hL.jr hL.law.dev kind bv b ha hbl hsq (by rw [hr]; exact h0)).mono ?_
  rintro e w' ⟨bv', h1, h2, h3, h4, h5⟩
  rw [append_pre hr h0] at h1 h2 h3 h4
  rw [if_neg h0] at h1
  exact ⟨h1, hL.keep h3 h4 h5, h5⟩
theorem l8_scan {w0 w : World} {h : DH} {m : Nat} {fu : Int} {L : FJ} {n : Nat} {B : List Bt} (hL : LawD w0 w h (devJ m fu L)) (hok : okJ L) (ht : Tells (viewJ L) n B) (hl : L.length ≤ 1000000) :
    Calls Try.prog 65 #[.pointer (some ⟨h.p, 0, none⟩)] w fun e w' => ∃ v, e = .returned v ∧ isBts w' w.heap.size v B ∧ Keeps w w' (fun _ => False) := by
  have := scan_calls w h _ hL.dev (by rw [show (devJ m fu L).files = fsJ L from rfl, fsJ_len]; exact hl)
  rw [devJ_scanP hok, ht.told] at this
  exact this
theorem readB_of {D : Dv} {file p k : Nat} {b : List UInt8} {s q m : Nat} (h : batchR (readJ D file) p = ⟨s, q, b, m, 0⟩) (hk : k ≤ b.length) : readB D file p k = (b.take k, 0) := by
  unfold readB
  rw [h]
  simp only
  rw [if_neg (by omega), if_neg (by simp), if_neg (by omega), Int.toNat_natCast]
end Go.Proofs.Ytadjcdfmppcpnaa

namespace Go.Proofs.Ytadjcdfmppcpnaa
open Go Go.RowKit Go.Maps Wb

theorem lj_new {J : Jr} (h : LiveJ [] J 0 []) (hf : J.file = 0) (hn : ((([] : FJ) = []) ∧ J.next = 1) ∨ ∃ a ∈ ([] : FJ), J.next = a.1 + 1) : J = ⟨0, 0, 1, false⟩ := by
  obtain ⟨s, f, nx, d⟩ := J
  have h1 := h.seq
  have h2 := h.dead
  simp only at h1 h2 hf
  rcases hn with ⟨_, h3⟩ | ⟨a, ha, _⟩
  · simp only at h3
    subst h1 h2 hf h3
    rfl
  · cases ha
theorem arg_const (w : World) (l : List UInt8) (fr : Nat × Nat) : isArgB (w.alloc (.cells (octs l).toArray 5 fr)) (.slice (some ⟨w.heap.size, 0, none⟩) l.length l.length) l := by
  have hb := (Go.MapKept.heap_alloc w (.cells (octs l).toArray 5 fr)).1
  refine ⟨⟨_, l.length, by rw [octs_len], by rw [octs_len]; exact Nat.le_refl _, fun j x hj => ⟨_, 0, rfl, lt_of_blk hb, ?_⟩⟩, fun cap e => by cases e⟩
  rw [cell_of_block hb, Nat.zero_add]
  simpa using hj
theorem settled_nil : SettledJ [] := by intro a ha; cases ha

set_option maxRecDepth 100000 in
set_option maxHeartbeats 8000000 in
theorem awake8_calls (w : World) : Calls Try.prog 61 #[] w (Quiet w (.bool true)) := by
  go_enter Try.func61, Try.ntmps61
  go_wp2_with fail
  refine new_any _ _ fun h w1 hd1 hk1 hS => ?_
  have hL1 : LawD w w1 h (devJ 100 (-1) []) := LawD.start (by rw [← new_dev (by decide)]; exact hd1) hk1 hS
  clear hd1 hk1 hS
  go_wp2_with fail
  refine (l8_open hL1 okJ_nil .nil (by decide)).mono ?_
  rintro e w2 ⟨L', J', jb, lv, hv, hse, hus, hlj, hf0, hnx, rfl, hL2, hbt, hjb, hk2⟩
  obtain rfl := hse settled_nil
  obtain rfl := lj_new hlj hf0 hnx
  obtain ⟨ad, cap, rfl⟩ := hbt.shape
  have HL2 := Lib.hid hL2
  have HLJ := Lib.hid hlj
  have kc := fun (w : World) (C : Array Value) (n c : Nat) => Go.Lib.run_convert_bytes_const (P := Try.prog) w 63 5 C n c Try.underlying63 Try.underlying5
  clear hv hse hus hlj hf0 hnx hL2 hbt hjb hk2 hL1
  go_wp2_with fail
  obtain ⟨w3, hw3⟩ : ∃ w3, w3 = w2.alloc (.cells #[.int .u8 97, .int .u8 98, .int .u8 99] 5 (3, 4)) := ⟨_, rfl⟩
  have harg : isArgB w3 (.slice (some ⟨w2.heap.size, 0, none⟩) 3 3) [97, 98, 99] := by rw [hw3]; exact arg_const w2 [97, 98, 99] (3, 4)
  have hk3 : Keeps w2 w3 (fun _ => False) := by rw [hw3]; exact (Keeps.refl w2 _).alloc _
  have hL3 := HL2.out.more hk3
  rw [← hw3]
  have HS3 : Hid (∀ g, (Value.slice (some ⟨w2.heap.size, 0, none⟩) 3 3).ownBlock = some g → ¬ h.S g ∧ g ≠ jb) := Lib.hid fun g hg => by
    simp only [Value.ownBlock, Option.some.injEq] at hg
    subst hg
    exact ⟨fun hs => absurd (HL2.out.law.lt hs) (Nat.lt_irrefl _), fun e => absurd HL2.out.jlt (by rw [← e]; exact Nat.lt_irrefl _)⟩
  generalize w2.heap.size = bb at harg HS3 ⊢
  clear hw3 kc hk3 HL2
  refine (l8_append (kind := 1) hL3 HLJ.out (by decide) (by decide) ⟨by decide, by decide, by decide, by decide⟩ (by decide) (by decide) harg HS3.out).mono ?_
  rintro e w4 ⟨L0, f, l, nx, L', bv, hsp, hdn, rfl, hL4, hbo, hk4⟩
  obtain ⟨rfl, rfl, rfl, rfl⟩ := first_spot hsp
  have HL4 := Lib.hid hL4
  have HDN := Lib.hid hdn
  have HBO := Lib.hid hbo
  obtain ⟨ba, bc, rfl, _⟩ := isOwn.rd hbo
  have o1 := own_one1 hbo
  clear harg HS3 hL3 hsp hdn hL4 hbo hk4 HLJ
  go_wp2_with (first
    | ((with_reducible refine gd_alloc 94 ?_); refine wl_alloc_agg rfl _ rfl _ zeroBt ?_; intro b4 w5 hb4 HB4 HK4)
    | ((with_reducible refine gd_store 94 ?_); refine wl_store_agg rfl _ _ _ rfl b4 _ rfl _ _ HB4 (btA 1 1 (.slice ba 3 bc) 1 0) rfl (btA 1 1 (.slice ba 3 bc) 1 0) (store_bt _ _ _ _ _ _ _ _ _ _) (le_bt _ _ _ _ _ _ _ _ _ _) (infoBt _ _ _ _ _) (btA_one o1) ?_; intro w6 HB6 HK6)
    | fail)
  have hk6 : Keeps w4 w6 (fun _ => False) := HK4.then HK6 (fun i hi e => absurd hb4 (by rw [← show i = b4 from e]; exact Nat.not_le.2 hi))
  have hL6 := HL4.out.more hk6
  have hlen : L'.length ≤ 1000000 := by rw [HDN.out.shape]; simp
  refine (l8_scan hL6.law HDN.out.live.ok HDN.out.told hlen).mono ?_
  rintro e w7 ⟨lv, rfl, hbt, hk7⟩
  obtain ⟨g, cap7, bv7, rfl, _, _, hrow, hbo7⟩ := hbt.row (q := 0) rfl
  have HL7 := Lib.hid (hL6.more hk7)
  have HB7 := Lib.hid (hk7.blk HB6 id)
  have HROW := Lib.hid hrow
  have HBO7 := Lib.hid hbo7
  clear hbt hk7 hk6 hL6 HB6 HK6 HB4 HK4 hrow hbo7 hlen HL4
  go_wp2_with fail
  have hrd := readB_of (k := 2) (devJ_batch (m := 100) (fu := -1) HDN.out.live.ok HDN.out.told (x := ⟨1, 1, [97, 98, 99], 1, 0⟩) (by simp)) (by decide)
  refine (jread_calls w7 h _ 1 0 2 HL7.out.law.dev (by decide)).mono ?_
  rintro e w8 ⟨v8, he, ho8, hk8⟩
  rw [show readB (devJ 100 (-1) L') 1 0 2 = ([97, 98], 0) from hrd] at he ho8
  dsimp only at he ho8
  subst he
  have HL8 := Lib.hid (HL7.out.more hk8)
  have hb8 := hk8.blk HB7.out id
  have c0 : w8.cell? ⟨b4, 0, none⟩ = some (.int .u64 1) := by rw [cell_of_block hb8]; rfl
  have c3 : w8.cell? ⟨b4, 3, none⟩ = some (.int .i64 1) := by rw [cell_of_block hb8]; rfl
  have c4 : w8.cell? ⟨b4, 4, none⟩ = some (.int .i64 0) := by rw [cell_of_block hb8]; rfl
  have r1 : w8.cell? ⟨g, 1, none⟩ = some (.int .i64 1) := by have := Keeps.rangeK hk8 HROW.out 1 _ rfl; simpa using this
  have r2 : w8.cell? ⟨g, 2, none⟩ = some bv7 := by have := Keeps.rangeK hk8 HROW.out 2 _ rfl; simpa using this
  have s1 := run_str (HBO7.out.rd.new hk8)
  have s2 := run_str ho8.rd
  have t1 : (bs [97, 98, 99]).toList = [97, 98, 99] := bs_toList _
  have t2 : (bs [97, 98]).toList = [97, 98] := bs_toList _
  have t3 : (bs (nameI 12)).toList = [106, 48, 48, 48, 48, 49, 50] := by rw [bs_toList]; decide +kernel
  clear hrd ho8 hk8 hb8 HROW
  go_wp2_with (first
    | (go_at_call 62; refine (name_calls _ 12).mono ?_; rintro e w9 ⟨rfl, hk9⟩)
    | (go_at_call 63; refine (need_calls _ 49 (by decide)).mono ?_; rintro e w' ⟨rfl, rfl⟩)
    | (go_at_call 67; refine (jseq_calls _ h jb _ (HL8.out.more hk9).jr).mono ?_; rintro e w' ⟨rfl, rfl⟩)
    | fail)
  go_ret
  exact ⟨rfl, (HL8.out.more hk9).law.keeps⟩
end Go.Proofs.Ytadjcdfmppcpnaa
