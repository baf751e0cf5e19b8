import Derived.Test.YtadjcdfmppcpnaaYW8a
import Derived.Test.YtadjcdfmppcpnaaQQ
import Derived.Test.YtadjcdfmppcpnaaYArgR
import Derived.Test.YtadjcdfmppcpnaaGd
import Derived.Test.YtadjcdfmppcpnaaQG
import Derived.Test.YtadjcdfmppcpnaaYS12c
import Derived.Deep.CutBlock
import Derived.Deep.DeepCutAuto
/-! Layer 8: the walk of JourCrash. -/
namespace Go.Proofs.Ytadjcdfmppcpnaa
open Go Go.RowKit Go.Maps Wb

theorem l8_appendF {w0 w : World} {h : DH} {jb m : Nat} {fu : Int} {L : FJ} {J : Jr} {n q : Nat} {B : List Bt} {bv : Value} {b : List UInt8} (hL : Law8 w0 w h jb (devJ m fu L) J) (hin : CrIn L J n B q) (hq : q ≤ 1000) (hf : -1 ≤ fu) (hm : 12000 ≤ m) (hb : needN b.length ≤ 11)
    (hbl : b.length ≤ 1000000) (ha : isArgB w bv b) (hbS : ∀ g, bv.ownBlock = some g → ¬ h.S g ∧ g ≠ jb) :
    Calls Try.prog 59 #[.pointer (some ⟨jb, 0, none⟩), .int .i64 1, bv] w fun e w' => Keeps w w' (fun i => h.S i ∨ i = jb) ∧
      ((∃ fu' L' J' f p bv', -1 ≤ fu' ∧ CrIn L' J' (n + 1) (B ++ [⟨n + 1, 1, b, f, p⟩]) (q + 1) ∧ e = .returned (.tuple #[.agg (btA (n + 1) 1 bv' f p), .int .i64 0]) ∧ bv'.oneCell' = true ∧ Law8 w0 w' h jb (devJ m fu' L') J') ∨
       (∃ L' J' r, (r != 0) = true ∧ CrFell L' n B b q ∧ e = .returned (.tuple #[.agg btZ, .int .i64 r]) ∧ Law8 w0 w' h jb (devJ m 0 L') J')) := by
  obtain ⟨L0, f, l, nx, hs, h1⟩ := hin.append (m0 := m) (fu := fu) hq hf hb hm
  have hsq := hin.few.live.seq
  have hcnt := hin.cnt
  have hnx := hin.few.next
  have hfi := hin.few.file
  refine (japp_calls w h jb _ J hL.jr hL.apart hL.law.dev ((1 : Nat) : Int) bv b ha hbS hbl (by omega) (by omega) (by omega)).mono ?_
  rintro e w' ⟨bv', k1, k2, k3, k4, k5⟩
  refine ⟨k5, ?_⟩
  rcases h1 with ⟨fu', L', he, hf', hd, hin'⟩ | ⟨L', J', r, h0, he, hfell⟩
  · left
    rw [he] at k1 k2 k3 k4
    simp only [if_true] at k1 k2
    rw [hd.len, Int.toNat_natCast] at k1
    exact ⟨fu', L', _, f, l.length, bv', hf', hin', k1, own_one1 k2, hL.keep k3 k4 k5⟩
  · right
    rw [he] at k1 k2 k3 k4
    simp only at k1
    rw [if_neg h0] at k1
    exact ⟨L', J', r, by simpa using h0, hfell, k1, hL.keep k3 k4 k5⟩
def textsB (B : List Bt) : List Value := B.map fun x => Value.string (bs x.b)
theorem textsB_len (B : List Bt) : (textsB B).length = B.length := by simp [textsB]
theorem textsB_app (B : List Bt) (x : Bt) : textsB (B ++ [x]) = textsB B ++ [.string (bs x.b)] := by simp [textsB]
theorem textsB_at {B : List Bt} {j : Nat} {x : Bt} (h : B[j]? = some x) : (textsB B)[j]? = some (.string (bs x.b)) := by simp [textsB, h]
theorem info_text8 : (Try.prog.info? 9).map (fun i => (i.zero, i.size, i.bytes)) = some (some (.string ByteArray.empty), 1, 16) := by kernel_rfl
theorem intV_app8 (l m : List Int) : intV (l ++ m) = intV l ++ intV m := by simp [intV]
theorem kOk_wrap8 (n : Int) : kOk (wrap64 n) := by
  unfold kOk wrap64
  omega
/-- A row of ints of the statement's own. -/
theorem own_intsC {w : World} {lo : Nat} {v : Value} {xs : List Int} {ok : Nat → Prop} (h : isOwn w lo 3 v (intV xs)) (hx : ∀ x ∈ xs, kOk x) (hok : ∀ g, v.ownBlock = some g → ok g) : C12.isIntsC w ok v xs := by
  rcases h.2 with ⟨rfl, h0⟩ | ⟨g, cap, cur, rfl, h1, h2, h3, h4, h5, h6⟩
  · have := List.eq_nil_of_length_eq_zero h0
    rw [intV_len] at h0
    have h9 := List.eq_nil_of_length_eq_zero h0
    subst h9
    exact ⟨none, 0, rfl, Nat.le_refl _, by omega, by simp, .inl rfl⟩
  · rw [intV_len] at h3 ⊢
    refine ⟨_, cap, rfl, h3, by unfold maxLen at h4; omega, hx, .inr ⟨g, 0, rfl, hok g rfl, lt_of_blk h2, fun j x hj => ?_⟩⟩
    obtain ⟨g', cap', he, _, _, h7, h8⟩ := isOwn.at h (intV_at hj)
    cases he
    rw [Nat.zero_add]; exact h8
def picksAt (picks : List Int) (q k : Nat) : List Int := (picks.take k).map fun x => wrap64 (x + (q : Int))
theorem picksAt_len {picks : List Int} {q k : Nat} (h : k ≤ picks.length) : (picksAt picks q k).length = k := by unfold picksAt; rw [List.length_map, List.length_take]; omega
theorem picksAt_succ {picks : List Int} {q k : Nat} {x : Int} (h : picks[k]? = some x) : picksAt picks q (k + 1) = picksAt picks q k ++ [wrap64 (x + (q : Int))] := by
  unfold picksAt
  rw [List.take_add_one, h]
  simp
theorem picksAt_ok (picks : List Int) (q k : Nat) : ∀ x ∈ picksAt picks q k, kOk x := by
  intro x hx
  obtain ⟨y, _, rfl⟩ := List.mem_map.1 hx
  exact kOk_wrap8 _
def CrRel (w : World) (h : DH) (lo q : Nat) (v8 : Value) (wr : World) : Prop := ∃ L n B m, m ≤ 21 * q ∧ CrJ L n B m ∧ LawD w wr h (devJ 20000 (-1) L) ∧ isOwn wr lo 9 v8 (textsB B)
def CrInR (w : World) (h : DH) (lo jb q k : Nat) (v8 : Value) (wr : World) : Prop := ∃ fu L J n B m, m ≤ 21 * q + k ∧ -1 ≤ fu ∧ CrIn L J n B m ∧ Law8 w wr h jb (devJ 20000 fu L) J ∧ isOwn wr lo 9 v8 (textsB B)
def CrMid (w : World) (h : DH) (lo m : Nat) (b : List UInt8) (bg : Bool) (v8 : Value) (wr : World) : Prop := ∃ D n B, LawD w wr h D ∧ D.files.length ≤ 1000000 ∧ isOwn wr lo 9 v8 (textsB B) ∧ B.length = n ∧
  ∀ pick, ∃ L2, D.crash pick = devJ 20000 (-1) L2 ∧ (CrJ L2 n B m ∨ (bg = true ∧ ∃ f p, CrJ L2 (n + 1) (B ++ [⟨n + 1, 1, b, f, p⟩]) m))
theorem CrInR.mid {w : World} {h : DH} {lo jb q k : Nat} {v8 : Value} {wr : World} (hr : CrInR w h lo jb q k v8 wr) (hk : k ≤ 20) : CrMid w h lo (21 * (q + 1)) [] false v8 wr := by
  obtain ⟨fu, L, J, n, B, m, hm, _, hin, hL, hv⟩ := hr
  refine ⟨_, n, B, hL.law, by rw [show (devJ 20000 fu L).files = fsJ L from rfl, fsJ_len]; exact hin.few.live.ok.len, hv, hin.few.live.run.tells.len, fun pick => ⟨L, hin.crash pick, .inl (hin.out.mono (by omega))⟩⟩
theorem CrMid.fell {w : World} {h : DH} {lo jb q k m n : Nat} {v8 : Value} {wr : World} {L' : FJ} {J' : Jr} {B : List Bt} {b : List UInt8} (hk : k < 20) (hm : m ≤ 21 * q + k) (hf : CrFell L' n B b m) (hB : B.length = n) (hL : Law8 w wr h jb (devJ 20000 0 L') J') (hv : isOwn wr lo 9 v8 (textsB B)) : CrMid w h lo (21 * (q + 1)) b true v8 wr := by
  have hlen : L'.length ≤ 1000000 := by
    obtain ⟨L, _, hh⟩ := hf.fell
    exact hh.1.len
  refine ⟨_, n, B, hL.law, by rw [show (devJ 20000 0 L').files = fsJ L' from rfl, fsJ_len]; exact hlen, hv, hB, fun pick => ?_⟩
  obtain ⟨L2, h1, h2⟩ := hf.crash (m0 := 20000) (fu := 0) pick
  refine ⟨L2, h1, ?_⟩
  rcases h2 with h2 | ⟨f, p, h2⟩
  · exact .inl (h2.mono (by omega))
  · exact .inr ⟨rfl, f, p, h2.mono (by omega)⟩
theorem CrMid.new {w : World} {h : DH} {lo m : Nat} {b : List UInt8} {bg : Bool} {v8 : Value} {wr wr' : World} (hc : CrMid w h lo m b bg v8 wr) (hk : Keeps wr wr' (fun _ => False)) : CrMid w h lo m b bg v8 wr' := by
  obtain ⟨D, n, B, h1, h2, h3, h4, h5⟩ := hc
  exact ⟨D, n, B, h1.more hk, h2, h3.new hk, h4, h5⟩
theorem own_cut {w w' : World} {h : DH} {jb lo : Nat} {v8 : Value} {vs : List Value} {J : Jr} (hv : isOwn w lo 9 v8 vs) (hlo : ∀ i, h.S i → i < lo) (hj : isJr w jb h J) (hk : Keeps w w' (fun i => h.S i ∨ i = jb)) : isOwn w' lo 9 v8 vs :=
  hv.kept hk (fun g hg hs => hs.elim (fun h1 => absurd (hlo g h1) (Nat.not_lt.2 (hv.blk g hg).1)) (fun e => own_tyJ hv hj (by decide) (by rw [hg]; exact congrArg some e)))

theorem law_lo {w w1 : World} {h : DH} {D : Dv} (hL : LawD w w1 h D) : ∃ lo, Hid ((∀ i, h.S i → i < lo) ∧ w.heap.size ≤ lo ∧ ∀ wx D, LawD w wx h D → lo ≤ wx.heap.size) := by
  have h1 := hL.new h.p (.inl rfl)
  refine ⟨max (max h.p h.bl) h.bc + 1, Lib.hid ⟨fun i hi => ?_, by omega, fun wx D hx => ?_⟩⟩
  · rcases hi with rfl | rfl | rfl <;> omega
  · have h2 := hx.lt (i := h.p) (.inl rfl)
    have h3 := hx.lt (i := h.bl) (.inr (.inl rfl))
    have h4 := hx.lt (i := h.bc) (.inr (.inr rfl))
    omega

set_option maxRecDepth 100000 in
set_option maxHeartbeats 16000000 in
theorem jourCrash_walk (w : World) (va : Value) (lens : List Int) (ha : isInts8 w (fun g => g < w.heap.size) va lens) (vb : Value) (fuses : List Int) (hb : isInts8 w (fun g => g < w.heap.size) vb fuses) (vc : Value) (picks : List Int) (hc : isInts8 w (fun g => g < w.heap.size) vc picks) :
    Calls Try.prog 20 #[va, vb, vc] w (Quiet w (.bool true)) := by
  obtain ⟨⟨aa, ca, rfl, ha1, ha2, ha3, ha4⟩, _⟩ := ha
  obtain ⟨⟨ab, cb, rfl, hb1, hb2, hb3, hb4⟩, _⟩ := hb
  obtain ⟨⟨ac, cc, rfl, hc1, hc2, hc3, hc4⟩, hc8⟩ := hc
  have hlA : (lens.length : Int) ≤ 140737488351232 := by omega
  have hlB : (fuses.length : Int) ≤ 140737488351232 := by omega
  have hlC : (picks.length : Int) ≤ 140737488351232 := by omega
  have HA : Hid (∀ (q : Nat), q < lens.length → ∃ g o x, kOk x ∧ aa = some ⟨g, o, none⟩ ∧ g < w.heap.size ∧ w.cell? ⟨g, o + q, none⟩ = some (.int .i64 x)) := by
    intro q hq
    rcases ha4 with rfl | ⟨g, o, rfl, _, hg, hc⟩
    · simp at hq
    · exact ⟨g, o, lens[q]'hq, ha3 _ (List.getElem_mem _), rfl, hg, hc q _ (List.getElem?_eq_getElem _)⟩
  have HB : Hid (∀ (q : Nat), q < fuses.length → ∃ g o x, kOk x ∧ ab = some ⟨g, o, none⟩ ∧ g < w.heap.size ∧ w.cell? ⟨g, o + q, none⟩ = some (.int .i64 x)) := by
    intro q hq
    rcases hb4 with rfl | ⟨g, o, rfl, _, hg, hc⟩
    · simp at hq
    · exact ⟨g, o, fuses[q]'hq, hb3 _ (List.getElem_mem _), rfl, hg, hc q _ (List.getElem?_eq_getElem _)⟩
  have HC : Hid (∀ (q : Nat), q < picks.length → ∃ g o x, picks[q]? = some x ∧ kOk x ∧ ac = some ⟨g, o, none⟩ ∧ g < w.heap.size ∧ w.cell? ⟨g, o + q, none⟩ = some (.int .i64 x)) := by
    intro q hq
    rcases hc4 with rfl | ⟨g, o, rfl, _, hg, hc⟩
    · simp at hq
    · exact ⟨g, o, picks[q]'hq, List.getElem?_eq_getElem _, hc3 _ (List.getElem_mem _), rfl, hg, hc q _ (List.getElem?_eq_getElem _)⟩
  have HC8 := Lib.hid hc8
  clear ha4 ha3 hb4 hb3 hc4 hc3 hc8
  go_enter Try.func20, Try.ntmps20
  go_wp2_with fail
  refine new_any _ _ fun h w1 hd1 hk1 hS => ?_
  have hL1 : LawD w w1 h (devJ 20000 (-1) []) := LawD.start (by rw [← new_dev (by decide)]; exact hd1) hk1 hS
  obtain ⟨lo, HLO⟩ := law_lo hL1
  have HREL0 : Hid (CrRel w h lo 0 (.slice none 0 0) w1) := Lib.hid ⟨[], 0, [], 0, Nat.le_refl _, crJ_new, hL1, isOwn_nil _ _ _⟩
  clear hd1 hk1 hS hL1
  go_upto_block 0 with fail
  go_cut [8] (fun v8 wx => Hid (Keeps w wx (fun _ => False)))
  case rest =>
    go_wp2_with (first
      | (go_at_call 61; refine (awake8_calls _).mono ?_; rintro e w8 ⟨rfl, hk8⟩)
      | fail)
    go_ret
    exact ⟨rfl, hcut.out.trans hk8⟩
  case first =>
    as_aux_lemma =>
    go_wp2_with fail
    go_loopw [8, 9] (fun v8 i wr => ∃ q : Nat, q ≤ 4 ∧ i = .int .i64 q ∧ Hid (CrRel w h lo q v8 wr)) (fun _ i _ => 4 - (intOf i).toNat)
    case atStart => exact ⟨0, Nat.zero_le _, rfl, HREL0⟩
    case round =>
      clear HREL0
      obtain ⟨q, hq, rfl, hrel⟩ := hrel
      have hq0 : (0 : Int) ≤ q := by omega
      have hqi : (q : Int) ≤ 4 := by omega
      by_cases hlt : q < 4 ∧ q < fuses.length
      · have hlt1 : decide ((q : Int) < 4) = true := by simp; omega
        have hlt1n : decide (q < 4) = true := by simp; omega
        have hq2 : (q : Int) < 4 := by omega
        have hql : (q : Int) < fuses.length := by omega
        have hlt2 : decide (q < fuses.length) = true := by simpa using hlt.2
        obtain ⟨gb, ob, fx, hfx, rfl, hgb, hcb⟩ := HB.out q hlt.2
        obtain ⟨fz, hfz, hfz9⟩ : ∃ e : Nat, fx % 128 = e ∧ e < 128 := ⟨(fx % 128).toNat, by omega, by omega⟩
        have hmf : bits BinOp.and IntKind.i64 fx 127 = (fz : Int) := by rw [mask127, hfz]
        have hfz0 : (0 : Int) ≤ fz := by omega
        have hfzi : (fz : Int) < 128 := by omega
        obtain ⟨L, n, B, m, hm, hcr, hLD, hv8⟩ := hrel.out
        have HQ := Lib.hid hlt.1
        have HCR := Lib.hid hcr
        have HM := Lib.hid hm
        have HV8 := Lib.hid hv8
        have hnl : B.length = n := hcr.tells.len
        have hni : (n : Int) ≤ 84 := by have := hcr.cnt; omega
        have hn0 : (0 : Int) ≤ n := by omega
        have HCB := Lib.hid (And.intro hgb hcb)
        have HOPEN := Lib.hid (l8_open hLD hcr.ok hcr.tells (by have := hcr.ok.len; omega))
        obtain ⟨a8, c8, rfl, _⟩ := isOwn.rd hv8
        rw [textsB_len, hnl] at HV8 ⊢
        clear hlt hrel hm hcr hv8 hLD hfz hgb hcb hfx
        go_wp2_with fail
        refine HOPEN.out.mono ?_
        rintro e w2 ⟨L2, J, jb, lv, hv, hse, hus, hlj, hf00, hnx, rfl, hL2, hbt, hjb, hk2⟩
        obtain rfl := hse HCR.out.settled
        have HIN := Lib.hid (HCR.out.opened hlj hf00 hnx)
        have HV82 : Hid (isOwn w2 lo 9 (.slice a8 n c8) (textsB B)) := Lib.hid (HV8.out.kept hk2 (fun g hg hs => absurd (HLO.out.1 g hs) (Nat.not_lt.2 (HV8.out.blk g hg).1)))
        have HL2 := Lib.hid hL2
        have HBT := Lib.hid hbt
        obtain ⟨ad, cp, rfl⟩ := hbt.shape
        rw [hnl] at HBT ⊢
        clear hv hse hus hlj hf00 hnx hL2 hbt hjb hk2 HOPEN HV8
        go_wp2_with fail
        go_loopw [12] (fun i wr => ∃ k : Nat, k ≤ n ∧ i = .int .i64 k ∧ Hid (Keeps w2 wr (fun _ => False))) (fun i _ => n - (intOf i).toNat)
        case atStart => exact ⟨0, Nat.zero_le _, rfl, Lib.hid (Keeps.refl _ _)⟩
        case round =>
          obtain ⟨k, hk, rfl, hkr⟩ := hrel
          have hk0 : (0 : Int) ≤ k := by omega
          by_cases hlt : k < n
          · as_aux_lemma =>
            have hlb : decide (k < n) = true := by simpa using hlt
            have hk9 : (k : Int) < n := by omega
            have hx : B[k]? = some (B[k]'(by omega)) := List.getElem?_eq_getElem _
            generalize B[k]'(by omega) = x at hx
            obtain ⟨g, c1, bv, he1, _, _, hr1, hbo⟩ := (HBT.out.new hkr.out).row hx
            rw [hnl] at he1
            injection he1 with e1 e2 e3
            subst e1 e3
            clear e2
            obtain ⟨g8, c8', he8, _, _, _, hc8⟩ := isOwn.at (HV82.out.new hkr.out) (textsB_at hx)
            rw [textsB_len, hnl] at he8
            injection he8 with e1 e2 e3
            subst e1 e3
            clear e2
            have HLT := Lib.hid hlt
            have HK := Lib.hid hkr.out.drew
            have HS : (fun (w' : World) => w'.cell? ⟨g, k * 5 + 2, none⟩ = some bv ∧ w'.cell? ⟨g8, k, none⟩ = some (.string (bs x.b)) ∧ (convert 63 9 bv).run Try.prog w' = .ok (.string (bs x.b)) w') wr.drew := ⟨hr1 2 _ rfl, hc8, run_str (w := wr.drew) hbo.rd⟩
            clear hx hr1 hbo hc8 hlt hkr
            go_upto_region 14 with fail
            refine wp_region_held_drew (S := (fun (w' : World) => w'.cell? ⟨g, k * 5 + 2, none⟩ = some bv ∧ w'.cell? ⟨g8, k, none⟩ = some (.string (bs x.b)) ∧ (convert 63 9 bv).run Try.prog w' = .ok (.string (bs x.b)) w')) (by kernel_rfl) HS (fun _ => ?_)
            first
              | (refine rg_skip 0 rfl (by kernel_rfl) (by kernel_rfl) (by kernel_rfl) (fun _ _ _ h => h) HS ?_ ?_; rfl)
              | (refine rg_take 0 (v := ?_) rfl (by kernel_rfl) (by kernel_rfl) (by kernel_rfl) (fun _ _ _ h => h) HS ?_ ?_ ?_; rotate_left; rfl; focus (intro w hSw; (try dsimp only at hSw); go_simp; all_goals (with_reducible rfl)))
            simp only [Act.put, List.setIfInBounds_toArray, List.set_cons_succ, List.set_cons_zero]
            first
              | (refine rg_skip 1 rfl (by kernel_rfl) (by kernel_rfl) (by kernel_rfl) (fun _ _ _ h => h) HS ?_ ?_; rfl)
              | (refine rg_take 1 (v := ?_) rfl (by kernel_rfl) (by kernel_rfl) (by kernel_rfl) (fun _ _ _ h => h) HS ?_ ?_ ?_; rotate_left; rfl; focus (intro w hSw; (try dsimp only at hSw); go_simp; all_goals (with_reducible rfl)))
            simp only [Act.put, List.setIfInBounds_toArray, List.set_cons_succ, List.set_cons_zero]
            first
              | (refine rg_skip 2 rfl (by kernel_rfl) (by kernel_rfl) (by kernel_rfl) (fun _ _ _ h => h) HS ?_ ?_; rfl)
              | (refine rg_take 2 (v := ?_) rfl (by kernel_rfl) (by kernel_rfl) (by kernel_rfl) (fun _ _ _ h => h) HS ?_ ?_ ?_; rotate_left; rfl; focus (intro w hSw; (try dsimp only at hSw); go_simp; all_goals (with_reducible rfl)))
            simp only [Act.put, List.setIfInBounds_toArray, List.set_cons_succ, List.set_cons_zero]
            first
              | (refine rg_skip 3 rfl (by kernel_rfl) (by kernel_rfl) (by kernel_rfl) (fun _ _ _ h => h) HS ?_ ?_; rfl)
              | (refine rg_take 3 (v := ?_) rfl (by kernel_rfl) (by kernel_rfl) (by kernel_rfl) (fun _ _ _ h => h) HS ?_ ?_ ?_; rotate_left; rfl; focus (intro w hSw; (try dsimp only at hSw); go_simp; all_goals (with_reducible rfl)))
            simp only [Act.put, List.setIfInBounds_toArray, List.set_cons_succ, List.set_cons_zero]
            first
              | (refine rg_skip 4 rfl (by kernel_rfl) (by kernel_rfl) (by kernel_rfl) (fun _ _ _ h => h) HS ?_ ?_; rfl)
              | (refine rg_take 4 (v := ?_) rfl (by kernel_rfl) (by kernel_rfl) (by kernel_rfl) (fun _ _ _ h => h) HS ?_ ?_ ?_; rotate_left; rfl; focus (intro w hSw; (try dsimp only at hSw); go_simp; all_goals (with_reducible rfl)))
            simp only [Act.put, List.setIfInBounds_toArray, List.set_cons_succ, List.set_cons_zero]
            first
              | (refine rg_skip 5 rfl (by kernel_rfl) (by kernel_rfl) (by kernel_rfl) (fun _ _ _ h => h) HS ?_ ?_; rfl)
              | (refine rg_take 5 (v := ?_) rfl (by kernel_rfl) (by kernel_rfl) (by kernel_rfl) (fun _ _ _ h => h) HS ?_ ?_ ?_; rotate_left; rfl; focus (intro w hSw; (try dsimp only at hSw); go_simp; all_goals (with_reducible rfl)))
            simp only [Act.put, List.setIfInBounds_toArray, List.set_cons_succ, List.set_cons_zero]
            first
              | (refine rg_skip 6 rfl (by kernel_rfl) (by kernel_rfl) (by kernel_rfl) (fun _ _ _ h => h) HS ?_ ?_; rfl)
              | (refine rg_take 6 (v := ?_) rfl (by kernel_rfl) (by kernel_rfl) (by kernel_rfl) (fun _ _ _ h => h) HS ?_ ?_ ?_; rotate_left; rfl; focus (intro w hSw; (try dsimp only at hSw); go_simp; all_goals (with_reducible rfl)))
            simp only [Act.put, List.setIfInBounds_toArray, List.set_cons_succ, List.set_cons_zero]
            first
              | (refine rg_skip 7 rfl (by kernel_rfl) (by kernel_rfl) (by kernel_rfl) (fun _ _ _ h => h) HS ?_ ?_; rfl)
              | (refine rg_take 7 (v := ?_) rfl (by kernel_rfl) (by kernel_rfl) (by kernel_rfl) (fun _ _ _ h => h) HS ?_ ?_ ?_; rotate_left; rfl; focus (intro w hSw; (try dsimp only at hSw); go_simp; all_goals (with_reducible rfl)))
            simp only [Act.put, List.setIfInBounds_toArray, List.set_cons_succ, List.set_cons_zero]
            first
              | (refine rg_skip 8 rfl (by kernel_rfl) (by kernel_rfl) (by kernel_rfl) (fun _ _ _ h => h) HS ?_ ?_; rfl)
              | (refine rg_take 8 (v := ?_) rfl (by kernel_rfl) (by kernel_rfl) (by kernel_rfl) (fun _ _ _ h => h) HS ?_ ?_ ?_; rotate_left; rfl; focus (intro w hSw; (try dsimp only at hSw); go_simp; all_goals (with_reducible rfl)))
            simp only [Act.put, List.setIfInBounds_toArray, List.set_cons_succ, List.set_cons_zero]
            first
              | (refine rg_skip 9 rfl (by kernel_rfl) (by kernel_rfl) (by kernel_rfl) (fun _ _ _ h => h) HS ?_ ?_; rfl)
              | (refine rg_take 9 (v := ?_) rfl (by kernel_rfl) (by kernel_rfl) (by kernel_rfl) (fun _ _ _ h => h) HS ?_ ?_ ?_; rotate_left; rfl; focus (intro w hSw; (try dsimp only at hSw); go_simp; all_goals (with_reducible rfl)))
            simp only [Act.put, List.setIfInBounds_toArray, List.set_cons_succ, List.set_cons_zero]
            first
              | (refine rg_skip 10 rfl (by kernel_rfl) (by kernel_rfl) (by kernel_rfl) (fun _ _ _ h => h) HS ?_ ?_; rfl)
              | (refine rg_take 10 (v := ?_) rfl (by kernel_rfl) (by kernel_rfl) (by kernel_rfl) (fun _ _ _ h => h) HS ?_ ?_ ?_; rotate_left; rfl; focus (intro w hSw; (try dsimp only at hSw); go_simp; all_goals (with_reducible rfl)))
            simp only [Act.put, List.setIfInBounds_toArray, List.set_cons_succ, List.set_cons_zero]
            refine wpAnyH_done (by kernel_rfl) ?_ _
            clear HS
            go_wp2_with fail
            go_roundw
            case rel => exact ⟨k + 1, HLT.out, by go_num, HK⟩
            case measure => have := HLT.out; simp [intOf]; omega
          · have hlb : decide (k < n) = false := by simpa using hlt
            obtain rfl : k = n := by omega
            have hL3 := HL2.out.more hkr.out
            have HV83 := Lib.hid (HV82.out.new hkr.out)
            have hcf : wr.cell? ⟨gb, ob + q, none⟩ = some (.int .i64 fx) := (hL3.law.keeps.cell (p := ⟨gb, ob + q, none⟩) HCB.out.1 id).trans HCB.out.2
            have HJR := Lib.hid hL3.jr
            have HL3 := Lib.hid hL3
            clear hlt hkr hL3 HL2 HBT HV82
            go_wp2_with fail
            refine (fuse_calls _ h _ (fz : Int) HL3.out.law.dev (kOk_small (by omega))).mono ?_
            rintro e w4 ⟨rfl, hd4, hk4⟩
            have hsf : (devJ 20000 (-1) L2).setFuse fz = devJ 20000 fz L2 := by unfold Dv.setFuse devJ; simp only; rw [Int.max_eq_left (by omega)]
            rw [hsf] at hd4
            have hL4 : Law8 w w4 h jb (devJ 20000 fz L2) J := HL3.out.keep hd4 (hk4.blk HL3.out.jr HL3.out.apart) (hk4.mono (fun i _ hs => .inl hs))
            have HREL1 : Hid (CrInR w h lo jb q 0 (.slice a8 k c8) w4) := Lib.hid ⟨fz, L2, J, k, B, m, HM.out, by omega, HIN.out, hL4, HV83.out.kept hk4 (fun g hg hs => absurd (HLO.out.1 g hs) (Nat.not_lt.2 (HV83.out.blk g hg).1))⟩
            clear hd4 hk4 hsf hL4 HL3 HJR HV83 HIN HM HCR hcf hmf hfz0 hfzi hnl hni hn0
            go_upto_block 4 with fail
            go_cut [8, 13, 14] (fun v8 v13 v14 wx => ∃ b bg a8 n8 c8, v8 = .slice a8 n8 c8 ∧ v13 = .string (bs b) ∧ v14 = .bool bg ∧ Hid (CrMid w h lo (21 * (q + 1)) b bg (.slice a8 n8 c8) wx))
            case first =>
              as_aux_lemma =>
              go_wp2_with fail
              go_loopw [8, 13, 14, 15] (fun v8 v13 v14 i wr => ∃ (k n8 : Nat) (a8 : Option Addr) (c8 : Nat), k ≤ 20 ∧ i = .int .i64 k ∧ v8 = .slice a8 n8 c8 ∧ v13 = .string (bs []) ∧ v14 = .bool false ∧ Hid (CrInR w h lo jb q k (.slice a8 n8 c8) wr)) (fun _ _ _ i _ => 20 - (intOf i).toNat)
              case atStart => exact ⟨0, _, _, _, Nat.zero_le _, rfl, rfl, rfl, rfl, HREL1⟩
              case round =>
                clear HREL1
                obtain ⟨k, n8, a8, c8, hk, rfl, rfl, rfl, rfl, hrel⟩ := hrel
                have hk0 : (0 : Int) ≤ k := by omega
                have hki : (k : Int) ≤ 20 := by omega
                by_cases hlt : k < lens.length ∧ k < 20
                · have hlt1 : decide (k < lens.length) = true := by simpa using hlt.1
                  have hkl : (k : Int) < lens.length := by omega
                  have hk2 : (k : Int) < 20 := by omega
                  have hlt2 : decide ((k : Int) < 20) = true := by simp; omega
                  obtain ⟨ga, oa, x, hx, rfl, hga, hca⟩ := HA.out k hlt.1
                  obtain ⟨nn, hnn, hnn9⟩ : ∃ e : Nat, x % 512 = e ∧ e < 512 := ⟨(x % 512).toNat, by omega, by omega⟩
                  have hmx : bits BinOp.and IntKind.i64 x 511 = (nn : Int) := by rw [mask511, hnn]
                  have hnni : (nn : Int) < 512 := by omega
                  have hnn0 : (0 : Int) ≤ nn := by omega
                  obtain ⟨fu, L, J, n, B, m, hm, hf, hin, hL, hv⟩ := hrel.out
                  have hcx : wr.cell? ⟨ga, oa + k, none⟩ = some (.int .i64 x) := (hL.law.keeps.cell (p := ⟨ga, oa + k, none⟩) hga id).trans hca
                  have HF := Lib.hid hf
                  have HIN := Lib.hid hin
                  have HM := Lib.hid hm
                  have HL := Lib.hid hL
                  have HV := Lib.hid hv
                  have HLT := Lib.hid hlt.2
                  clear hlt hrel hm hf hin hL hv hnn hca hga hx
                  go_wp2_with fail
                  refine (octets_calls _ nn ((q : Int) + (k : Int)) (by omega) ⟨by omega, by omega⟩).mono ?_
                  rintro e w3 ⟨bv, rfl, ho3, hk3⟩
                  have hL3 := HL.out.more hk3
                  have hv3 := HV.out.new hk3
                  have hoff : ∀ g, bv.ownBlock = some g → ¬ h.S g ∧ g ≠ jb := fun g hg => HL.out.off (ho3.blk g hg).1
                  have hlen : (octP nn ((q : Int) + (k : Int))).length = nn := octP_len _ _
                  generalize octP nn ((q : Int) + (k : Int)) = b at *
                  clear hcx HL HV
                  go_wp2_with fail
                  refine (l8_appendF hL3 HIN.out (by have := HM.out; omega) HF.out (by decide) (by rw [hlen]; exact needN_11 hnn9) (by omega) (isOwn.arg ho3) hoff).mono ?_
                  rintro e w4 ⟨hk4, h1⟩
                  have ho4 := ho3.kept hk4 (fun g hg hs => hs.elim (hoff g hg).1 (hoff g hg).2)
                  have hv4 := own_cut hv3 HLO.out.1 hL3.jr hk4
                  have HO4 := Lib.hid ho4
                  have HV4 := Lib.hid hv4
                  have HNL : Hid (B.length = n) := Lib.hid HIN.out.out.tells.len
                  clear ho3 hv3 hk3 hL3 hoff hk4 ho4 hv4
                  rcases h1 with ⟨fu', L', J', f, p, bv', hf', hin', rfl, o1, hL4⟩ | ⟨L', J', r, hr, hfell, rfl, hL4⟩
                  · as_aux_lemma =>
                    have HL4 := Lib.hid hL4
                    have HIN2 := Lib.hid hin'
                    have HF2 := Lib.hid hf'
                    clear hL4 hin' hf' HIN HF
                    go_upto_region 24 with (first
                      | ((with_reducible refine gd_alloc 94 ?_); refine wl_alloc_agg rfl _ rfl _ zeroBt ?_; intro b17 w5 hb5 HB5 HK5)
                      | ((with_reducible refine gd_store 94 ?_); refine wl_store_agg rfl _ _ _ rfl b17 _ rfl _ _ HB5 (btA (n + 1) 1 bv' f p) rfl (btA (n + 1) 1 bv' f p) (store_bt _ _ _ _ _ _ _ _ _ _) (le_bt _ _ _ _ _ _ _ _ _ _) (infoBt _ _ _ _ _) (btA_one o1) ?_; intro w6 HB6 HK6)
                      | fail)
                    have hk46 : Keeps w4 w6 (fun _ => False) := HK5.then HK6 (fun i hi e => absurd hb5 (by rw [← show i = b17 from e]; exact Nat.not_le.2 hi))
                    have hL6 := HL4.out.more hk46
                    have hv6 := HV4.out.new hk46
                    have s6 := run_str (HO4.out.new hk46).rd
                    have HV6 := Lib.hid hv6
                    have HL6 := Lib.hid hL6
                    have hl1 : (textsB B).length + 1 ≤ maxLen := by rw [textsB_len, HNL.out]; have := HIN2.out.cnt; have := HM.out; unfold maxLen; omega
                    have hl2 : ((textsB B).length + 1) * 16 ≤ 140737488355328 := by rw [textsB_len, HNL.out]; have := HIN2.out.cnt; have := HM.out; omega
                    have hsz6 : lo ≤ w6.heap.size := HLO.out.2.2 _ _ hL6.law
                    clear HB5 HK5 HB6 HK6 hb5 hk46 hL6 hv6 HL4 HV4 HO4
                    go_wp2_with (first
                      | (refine wl_slice1 rfl _ _ rfl 9 _ 16 Try.underlying38 info_text8 rfl (.string (bs b)) rfl rfl ?_; intro b26 w7 hb7 HB7 HK7)
                      | (at_builtin; refine wl_appendN rfl _ _ 38 rfl 9 _ 16 Try.underlying38 info_text8 rfl lo (.slice a8 n8 c8) (textsB B) rfl (HV6.out.new HK7) _ [.string (bs b)] rfl (isVals_one (ok := fun _ => True) HB7 trivial).rd (fun _ h => by cases h) (fun u hu => by rw [List.mem_singleton.1 hu]; rfl) hl1 hl2 (Nat.le_trans hsz6 HK7.size) ?_; intro v' w8 hap; obtain ⟨va, vn, vc, rfl⟩ := isOwn.shape hap.1)
                      | fail)
                    have HREL : Hid (CrInR w h lo jb q (k + 1) (.slice va vn vc) w8) := by
                      have hL7 := HL6.out.more HK7
                      have hv7 := HV6.out.new HK7
                      have hL8 := hL7.own hap.2.1 (fun i hi => ⟨fun hs => absurd (HLO.out.1 i hs) (Nat.not_lt.2 (hv7.blk i hi).1), fun e => own_tyJ hv7 hL7.jr (by decide) (by rw [hi]; exact congrArg some e)⟩) (fun i hi hs => absurd (hv7.blk i hs).1 (Nat.not_le.2 (Nat.lt_of_lt_of_le hi HLO.out.2.1)))
                      have ho := hap.1
                      have e9 : textsB (B ++ [⟨n + 1, 1, b, f, p⟩]) = textsB B ++ [.string (bs b)] := textsB_app _ _
                      rw [← e9] at ho
                      exact Lib.hid ⟨fu', L', J', n + 1, _, m + 1, by have := HM.out; omega, HF2.out, HIN2.out, hL8, ho⟩
                    clear hap HB7 HK7 s6 HL6 HV6
                    go_roundw
                    case rel => exact ⟨k + 1, _, _, _, HLT.out, by go_num, rfl, rfl, rfl, HREL⟩
                    case measure => have := HLT.out; simp [intOf]; omega
                  · as_aux_lemma =>
                    have HL4 := Lib.hid hL4
                    have HFE := Lib.hid hfell
                    clear hL4 hfell HIN HF
                    go_upto_region 24 with (first
                      | ((with_reducible refine gd_alloc 94 ?_); refine wl_alloc_agg rfl _ rfl _ zeroBt ?_; intro b17 w5 hb5 HB5 HK5)
                      | ((with_reducible refine gd_store 94 ?_); refine wl_store_agg rfl _ _ _ rfl b17 _ rfl _ _ HB5 btZ rfl btZ (store_bt _ _ _ _ _ _ _ _ _ _) (le_bt _ _ _ _ _ _ _ _ _ _) (infoBt _ _ _ _ _) (btA_one rfl) ?_; intro w6 HB6 HK6)
                      | fail)
                    have hk46 : Keeps w4 w6 (fun _ => False) := HK5.then HK6 (fun i hi e => absurd hb5 (by rw [← show i = b17 from e]; exact Nat.not_le.2 hi))
                    have s6 := run_str (HO4.out.new hk46).rd
                    have HMID : Hid (CrMid w h lo (21 * (q + 1)) b true (.slice a8 n8 c8) w6) := Lib.hid (CrMid.fell HLT.out HM.out HFE.out HNL.out (HL4.out.more hk46) (HV4.out.new hk46))
                    clear HB5 HK5 HB6 HK6 hb5 hk46 HL4 HV4 HO4 HFE
                    go_wp2_with fail
                    go_meet
                    exact ⟨b, true, a8, n8, c8, rfl, rfl, rfl, HMID⟩
                · as_aux_lemma =>
                  have hout : (decide (k < lens.length) = false) ∨ (decide (k < lens.length) = true ∧ decide ((k : Int) < 20) = false) := by
                    simp only [decide_eq_false_iff_not, decide_eq_true_eq]
                    omega
                  have HMID : Hid (CrMid w h lo (21 * (q + 1)) [] false (.slice a8 n8 c8) wr) := Lib.hid (hrel.out.mid hk)
                  clear hlt hrel
                  rcases hout with h1 | ⟨h1, h2⟩
                  all_goals
                    go_wp2_with fail
                    go_meet
                    exact ⟨[], false, a8, n8, c8, rfl, rfl, rfl, HMID⟩
            case rest =>
              as_aux_lemma =>
              clear HREL1
              obtain ⟨wm, hwm⟩ : ∃ x, x = wc := ⟨wc, rfl⟩
              rw [← hwm] at hcut ⊢
              clear hwm
              obtain ⟨b, bg, a8, n8, c8, rfl, rfl, rfl, hmid⟩ := hcut
              have HKW : Hid (Keeps w wm (fun _ => False) ∧ ∀ i, h.S i → i < wm.heap.size) := by
                obtain ⟨D, n, B, h1, _⟩ := hmid.out
                exact Lib.hid ⟨h1.keeps, fun i hi => h1.lt hi⟩
              go_wp2_with fail
              go_loopw [19, 20] (fun v19 i wr => ∃ (k : Nat) (a19 : Option Addr) (c19 : Nat), k ≤ picks.length ∧ i = .int .i64 k ∧ v19 = .slice a19 k c19 ∧ Hid (isOwn wr wm.heap.size 3 (.slice a19 k c19) (intV (picksAt picks q k)) ∧ Keeps wm wr (fun _ => False))) (fun _ i _ => picks.length - (intOf i).toNat)
              case atStart => exact ⟨0, _, _, Nat.zero_le _, rfl, rfl, Lib.hid ⟨isOwn_nil _ _ _, Keeps.refl _ _⟩⟩
              case round =>
                obtain ⟨k, a19, c19, hk, rfl, rfl, hrel⟩ := hrel
                have hk0 : (0 : Int) ≤ k := by omega
                by_cases hlt : k < picks.length
                · as_aux_lemma =>
                  have hlb : decide (k < picks.length) = true := by simpa using hlt
                  have hk9 : (k : Int) < picks.length := by omega
                  obtain ⟨gc, oc, x, hxk, hx, rfl, hgc, hcc⟩ := HC.out k hlt
                  have hcx : wr.cell? ⟨gc, oc + k, none⟩ = some (.int .i64 x) := ((HKW.out.1.trans hrel.out.2).cell (p := ⟨gc, oc + k, none⟩) hgc id).trans hcc
                  have hx1 : -9223372036854775808 ≤ x := hx.1
                  have hx2 : x ≤ 9223372036854775807 := hx.2
                  have HPS := Lib.hid (picksAt_succ (q := q) hxk)
                  have hpl := picksAt_len (q := q) hk
                  have hl1 : (intV (picksAt picks q k)).length + 1 ≤ maxLen := by rw [intV_len, hpl]; unfold maxLen; omega
                  have hl2 : ((intV (picksAt picks q k)).length + 1) * 8 ≤ 140737488355328 := by rw [intV_len, hpl]; have := HC8.out; omega
                  have HLT := Lib.hid hlt
                  clear hlt hxk hcc hgc hx hpl
                  go_wp2_with (first
                    | (refine wl_slice1 rfl _ _ rfl 3 _ 8 Try.underlying22 info_int rfl (.int .i64 (wrap64 (x + (q : Int)))) rfl rfl ?_; intro b31 w7 hb7 HB7 HK7)
                    | (at_builtin; refine wl_appendN rfl _ _ 22 rfl 3 _ 8 Try.underlying22 info_int rfl wm.heap.size (.slice a19 k c19) (intV (picksAt picks q k)) rfl (hrel.out.1.new HK7) _ [.int .i64 (wrap64 (x + (q : Int)))] rfl (isVals_one (ok := fun _ => True) HB7 trivial).rd (fun _ h => by cases h) (fun u hu => by rw [List.mem_singleton.1 hu]; rfl) hl1 hl2 (Nat.le_trans hrel.out.2.size HK7.size) ?_; intro v' w8 hap; obtain ⟨va, vc, rfl, _⟩ := isOwn.rd hap.1)
                    | fail)
                  have HREL : Hid (isOwn w8 wm.heap.size 3 (.slice va (intV (picksAt picks q k) ++ [Value.int .i64 (wrap64 (x + (q : Int)))]).length vc) (intV (picksAt picks q (k + 1))) ∧ Keeps wm w8 (fun _ => False)) := by
                    have e9 : intV (picksAt picks q (k + 1)) = intV (picksAt picks q k) ++ [.int .i64 (wrap64 (x + (q : Int)))] := by rw [HPS.out, intV_app8]; rfl
                    rw [e9]
                    exact Lib.hid ⟨hap.1, (hrel.out.2.trans HK7).then hap.2.1 (fun i hi hs => absurd ((hrel.out.1.new HK7).blk i hs).1 (Nat.not_le.2 hi))⟩
                  have hln : (intV (picksAt picks q k) ++ [Value.int .i64 (wrap64 (x + (q : Int)))]).length = k + 1 := by rw [List.length_append, intV_len, picksAt_len (by omega)]; rfl
                  have hln1 : (intV (picksAt picks q k)).length = k := by rw [intV_len, picksAt_len (by omega)]
                  rw [hln] at HREL
                  rw [hln1]
                  clear hap HB7 HK7 hrel hln hln1 HPS
                  go_roundw
                  case rel => exact ⟨k + 1, _, _, HLT.out, by go_num, rfl, HREL⟩
                  case measure => have := HLT.out; simp [intOf]; omega
                · have hlb : decide (k < picks.length) = false := by simpa using hlt
                  obtain rfl : k = picks.length := by omega
                  obtain ⟨D, n, B, hLD, hfl, hv, hnl, hcr⟩ := hmid.out.new hrel.out.2
                  have hpv : C12.isIntsC wr (fun g => ¬ h.S g ∧ g < wr.heap.size) (.slice a19 picks.length c19) (picksAt picks q picks.length) :=
                    own_intsC hrel.out.1 (picksAt_ok _ _ _) (fun g hg => ⟨fun hs => absurd (HKW.out.2 g hs) (Nat.not_lt.2 (hrel.out.1.blk g hg).1), (hrel.out.1.blk g hg).2⟩)
                  obtain ⟨L2, hc1, hc2⟩ := hcr (picksAt picks q picks.length)
                  have hcall := C12.crash_calls wr h D _ _ hLD.dev hfl hpv
                  rw [hc1] at hcall
                  have HCALL := Lib.hid hcall
                  have HV := Lib.hid hv
                  have HLD := Lib.hid hLD
                  have HCR2 := Lib.hid hc2
                  have hni : n ≤ 105 := by rcases hc2 with h9 | ⟨_, _, _, h9⟩ <;> (have := h9.cnt; omega)
                  obtain ⟨av8, cv8, he8, _⟩ := isOwn.rd hv
                  rw [textsB_len, hnl] at he8
                  injection he8 with e1 e2 e3
                  replace e2 := e2.symm
                  subst e1 e2 e3
                  clear hlt hrel hcr hc1 hc2 hcall hv hLD hfl hpv hmid hlb HKW
                  go_wp2_with fail
                  refine HCALL.out.mono ?_
                  rintro e w5 ⟨rfl, hd5, hk5⟩
                  have hL5 : LawD w w5 h (devJ 20000 (-1) L2) := ⟨hd5, HLD.out.new, HLD.out.keeps.then hk5 (fun i hi hs => absurd (HLD.out.new i hs) (Nat.not_le.2 hi))⟩
                  have HV5 : Hid (isOwn w5 lo 9 (.slice a8 n c8) (textsB B)) := Lib.hid (HV.out.kept hk5 (fun g hg hs => absurd (HLO.out.1 g hs) (Nat.not_lt.2 (HV.out.blk g hg).1)))
                  obtain ⟨n2, B2, hB2, hcr2⟩ : ∃ n2 B2, ((n2 = n ∧ B2 = B) ∨ (bg = true ∧ ∃ f p, n2 = n + 1 ∧ B2 = B ++ [⟨n + 1, 1, b, f, p⟩])) ∧ CrJ L2 n2 B2 (21 * (q + 1)) := by
                    rcases HCR2.out with h9 | ⟨h8, f, p, h9⟩
                    · exact ⟨n, B, .inl ⟨rfl, rfl⟩, h9⟩
                    · exact ⟨_, _, .inr ⟨h8, f, p, rfl, rfl⟩, h9⟩
                  have HSCAN := Lib.hid (l8_scan hL5 hcr2.ok hcr2.tells (by have := hcr2.ok.len; omega))
                  have HCJ := Lib.hid hcr2
                  have HL5 := Lib.hid hL5
                  have hnl2 : B2.length = n2 := hcr2.tells.len
                  have hn2 : n2 ≤ 105 := by have := hcr2.cnt; omega
                  have hn2i : (n2 : Int) ≤ 105 := by omega
                  have hnni : (n : Int) ≤ 105 := by omega
                  have hn20 : (0 : Int) ≤ n2 := by omega
                  have hnn0 : (0 : Int) ≤ n := by omega
                  have HB5 : Hid (∀ i, (Value.slice a8 n c8).ownBlock = some i → i < w5.heap.size) := Lib.hid fun i hi => (HV5.out.blk i hi).2
                  clear hd5 hk5 HCALL HLD HV HCR2 hcr2 hL5
                  go_wp2_with fail
                  refine HSCAN.out.mono ?_
                  rintro e w7 ⟨lv, rfl, hbt, hk7⟩
                  have HL7 := Lib.hid (HL5.out.more hk7)
                  have HV7 := Lib.hid (HV5.out.new hk7)
                  have HBT := Lib.hid hbt
                  obtain ⟨ad, cp, rfl⟩ := hbt.shape
                  rw [hnl2] at HBT ⊢
                  clear hbt hk7 HSCAN HL5 HV5
                  go_upto_region 34 with fail
                  go_cut [147] (fun v147 wx => wx = w7 ∧ ((v147 = .bool false ∧ Hid (n2 = n ∧ B2 = B)) ∨ (v147 = .bool true ∧ Hid (∃ f p, n2 = n + 1 ∧ B2 = B ++ [⟨n + 1, 1, b, f, p⟩]))))
                  case first =>
                    as_aux_lemma =>
                    rcases hB2 with ⟨rfl, rfl⟩ | ⟨rfl, f, p, rfl, rfl⟩
                    · have hz : ((n2 : Int) == (n2 : Int) + 1) = false := by rw [beq_eq_false_iff_ne]; omega
                      go_wp2_with fail
                      go_meet
                      exact ⟨rfl, .inl ⟨rfl, Lib.hid (by simp)⟩⟩
                    · have hx : (B ++ [(⟨n + 1, 1, b, f, p⟩ : Bt)])[n]? = some ⟨n + 1, 1, b, f, p⟩ := by rw [← hnl]; simp
                      obtain ⟨g, c1, bv, he1, _, _, hr1, hbo⟩ := HBT.out.row hx
                      rw [hnl2] at he1
                      injection he1 with e1 e2 e3
                      subst e1 e3
                      clear e2
                      have c2 : w7.cell? ⟨g, n * 5 + 2, none⟩ = some bv := hr1 2 _ rfl
                      have s1 := run_str hbo.rd
                      have hn1 : ((n + 1 : Nat) : Int) = (n : Int) + 1 := by omega
                      clear hx hr1 hbo
                      rw [hn1] at *
                      go_wp2_with fail
                      go_meet
                      exact ⟨rfl, .inr ⟨rfl, Lib.hid ⟨f, p, by simp⟩⟩⟩
                  case rest =>
                    obtain ⟨rfl, hcase⟩ := hcut
                    clear hB2
                    go_upto_if 147 with fail
                    go_cut [8] (fun v8 wx => ∃ a8 c8, v8 = .slice a8 n2 c8 ∧ Hid (isOwn wx lo 9 (.slice a8 n2 c8) (textsB B2) ∧ LawD w wx h (devJ 20000 (-1) L2) ∧ isBts wx w5.heap.size (.slice ad n2 cp) B2))
                    case first =>
                      as_aux_lemma =>
                      rcases hcase with ⟨rfl, hc⟩ | ⟨rfl, hc⟩
                      · obtain ⟨rfl, rfl⟩ := hc.out
                        go_wp2_with fail
                        go_meet
                        exact ⟨_, _, rfl, Lib.hid ⟨HV7.out, HL7.out, HBT.out⟩⟩
                      · obtain ⟨f, p, rfl, rfl⟩ := hc.out
                        have hl1 : (textsB B).length + 1 ≤ maxLen := by rw [textsB_len, hnl]; unfold maxLen; omega
                        have hl2 : ((textsB B).length + 1) * 16 ≤ 140737488355328 := by rw [textsB_len, hnl]; omega
                        have hsz7 : lo ≤ wc.heap.size := HLO.out.2.2 _ _ HL7.out
                        go_wp2_with (first
                          | (refine wl_slice1 rfl _ _ rfl 9 _ 16 Try.underlying38 info_text8 rfl (.string (bs b)) rfl rfl ?_; intro b35 w8 hb8 HB8 HK8)
                          | (at_builtin; refine wl_appendN rfl _ _ 38 rfl 9 _ 16 Try.underlying38 info_text8 rfl lo (.slice a8 n c8) (textsB B) rfl (HV7.out.new HK8) _ [.string (bs b)] rfl (isVals_one (ok := fun _ => True) HB8 trivial).rd (fun _ h => by cases h) (fun u hu => by rw [List.mem_singleton.1 hu]; rfl) hl1 hl2 (Nat.le_trans hsz7 HK8.size) ?_; intro v' w9 hap; obtain ⟨va, vc, rfl, _⟩ := isOwn.rd hap.1)
                          | fail)
                        have hv8 := HV7.out.new HK8
                        have hln : (textsB B ++ [Value.string (bs b)]).length = n + 1 := by rw [List.length_append, textsB_len, hnl]; rfl
                        have hkb : ∀ i, (Value.slice a8 n c8).ownBlock = some i → lo ≤ i := fun i hi => (hv8.blk i hi).1
                        have hL9 : LawD w w9 h (devJ 20000 (-1) L2) := by
                          have h0 := HL7.out.more HK8
                          exact ⟨h0.dev.apart hap.2.1 (fun i hi hs => absurd (HLO.out.1 i hs) (Nat.not_lt.2 (hkb i hi))), h0.new, h0.keeps.then hap.2.1 (fun i hi hs => absurd (hkb i hs) (Nat.not_le.2 (Nat.lt_of_lt_of_le hi HLO.out.2.1)))⟩
                        have HREL : Hid (isOwn w9 lo 9 (.slice va (textsB B ++ [Value.string (bs b)]).length vc) (textsB (B ++ [⟨n + 1, 1, b, f, p⟩])) ∧ LawD w w9 h (devJ 20000 (-1) L2) ∧ isBts w9 w5.heap.size (.slice ad (n + 1) cp) (B ++ [⟨n + 1, 1, b, f, p⟩])) := by
                          refine Lib.hid ⟨by rw [textsB_app]; exact hap.1, hL9, (HBT.out.new HK8).kept hap.2.1 (fun g h1 h2 hs => ?_)⟩
                          have := HB5.out g hs
                          omega
                        have hln1 : (textsB B).length = n := by rw [textsB_len, hnl]
                        rw [hln] at HREL
                        rw [hln1]
                        clear hap HB8 HK8 hv8 hln hln1 hkb hL9
                        go_meet
                        exact ⟨_, _, rfl, HREL⟩
                    case rest =>
                      as_aux_lemma =>
                      obtain ⟨wn, hwn⟩ : ∃ x, x = wc := ⟨wc, rfl⟩
                      rw [← hwn] at hcut ⊢
                      clear hwn hcase
                      obtain ⟨a8, c8, rfl, hh⟩ := hcut
                      have hzz : ((n2 : Int) != (n2 : Int)) = false := by simp
                      go_wp2_with fail
                      go_loopw [22] (fun i wr => ∃ k : Nat, k ≤ n2 ∧ i = .int .i64 k ∧ Hid (Keeps wn wr (fun _ => False))) (fun i _ => n2 - (intOf i).toNat)
                      case atStart => exact ⟨0, Nat.zero_le _, rfl, Lib.hid (Keeps.refl _ _)⟩
                      case round =>
                        obtain ⟨k, hk, rfl, hkr⟩ := hrel
                        have hk0 : (0 : Int) ≤ k := by omega
                        by_cases hlt : k < n2
                        · as_aux_lemma =>
                          have hlb : decide (k < n2) = true := by simpa using hlt
                          have hk9 : (k : Int) < n2 := by omega
                          have hx : B2[k]? = some (B2[k]'(by omega)) := List.getElem?_eq_getElem _
                          generalize B2[k]'(by omega) = x at hx
                          obtain ⟨g, c1, bv, he1, _, _, hr1, hbo⟩ := (hh.out.2.2.new hkr.out).row hx
                          rw [hnl2] at he1
                          injection he1 with e1 e2 e3
                          subst e1 e3
                          clear e2
                          obtain ⟨g8, c8', he8, _, _, _, hc8⟩ := isOwn.at (hh.out.1.new hkr.out) (textsB_at hx)
                          rw [textsB_len, hnl2] at he8
                          injection he8 with e1 e2 e3
                          subst e1 e3
                          clear e2
                          have hsq := HCJ.out.tells.seq k x hx
                          have HLT := Lib.hid hlt
                          have HK := Lib.hid hkr.out.drew
                          have hS0 : wr.drew.cell? ⟨g, k * 5, none⟩ = some (.int .u64 ((k : Int) + 1)) := by
                            have := hr1 0 _ rfl
                            rw [hsq] at this
                            exact this
                          have HS : (fun (w' : World) => w'.cell? ⟨g, k * 5, none⟩ = some (.int .u64 ((k : Int) + 1)) ∧ w'.cell? ⟨g, k * 5 + 2, none⟩ = some bv ∧ w'.cell? ⟨g8, k, none⟩ = some (.string (bs x.b)) ∧ (convert 63 9 bv).run Try.prog w' = .ok (.string (bs x.b)) w') wr.drew := ⟨hS0, hr1 2 _ rfl, hc8, run_str (w := wr.drew) hbo.rd⟩
                          have hwq : IntKind.u64.wrap ((k : Int) + 1) = (k : Int) + 1 := by rw [wrap_u64]; omega
                          have hwi : IntKind.i64.wrap ((k : Int) + 1) = (k : Int) + 1 := i64_smallK _ (by omega) (by omega)
                          clear hx hr1 hbo hc8 hlt hkr hS0 hsq
                          go_upto_region 41 with fail
                          refine wp_region_held_drew (S := (fun (w' : World) => w'.cell? ⟨g, k * 5, none⟩ = some (.int .u64 ((k : Int) + 1)) ∧ w'.cell? ⟨g, k * 5 + 2, none⟩ = some bv ∧ w'.cell? ⟨g8, k, none⟩ = some (.string (bs x.b)) ∧ (convert 63 9 bv).run Try.prog w' = .ok (.string (bs x.b)) w')) (by kernel_rfl) HS (fun _ => ?_)
                          first
                            | (refine rg_skip 0 rfl (by kernel_rfl) (by kernel_rfl) (by kernel_rfl) (fun _ _ _ h => h) HS ?_ ?_; rfl)
                            | (refine rg_take 0 (v := ?_) rfl (by kernel_rfl) (by kernel_rfl) (by kernel_rfl) (fun _ _ _ h => h) HS ?_ ?_ ?_; rotate_left; rfl; focus (intro w hSw; (try dsimp only at hSw); go_simp; all_goals (with_reducible rfl)))
                          simp only [Act.put, List.setIfInBounds_toArray, List.set_cons_succ, List.set_cons_zero]
                          first
                            | (refine rg_skip 1 rfl (by kernel_rfl) (by kernel_rfl) (by kernel_rfl) (fun _ _ _ h => h) HS ?_ ?_; rfl)
                            | (refine rg_take 1 (v := ?_) rfl (by kernel_rfl) (by kernel_rfl) (by kernel_rfl) (fun _ _ _ h => h) HS ?_ ?_ ?_; rotate_left; rfl; focus (intro w hSw; (try dsimp only at hSw); go_simp; all_goals (with_reducible rfl)))
                          simp only [Act.put, List.setIfInBounds_toArray, List.set_cons_succ, List.set_cons_zero]
                          first
                            | (refine rg_skip 2 rfl (by kernel_rfl) (by kernel_rfl) (by kernel_rfl) (fun _ _ _ h => h) HS ?_ ?_; rfl)
                            | (refine rg_take 2 (v := ?_) rfl (by kernel_rfl) (by kernel_rfl) (by kernel_rfl) (fun _ _ _ h => h) HS ?_ ?_ ?_; rotate_left; rfl; focus (intro w hSw; (try dsimp only at hSw); go_simp; all_goals (with_reducible rfl)))
                          simp only [Act.put, List.setIfInBounds_toArray, List.set_cons_succ, List.set_cons_zero]
                          first
                            | (refine rg_skip 3 rfl (by kernel_rfl) (by kernel_rfl) (by kernel_rfl) (fun _ _ _ h => h) HS ?_ ?_; rfl)
                            | (refine rg_take 3 (v := ?_) rfl (by kernel_rfl) (by kernel_rfl) (by kernel_rfl) (fun _ _ _ h => h) HS ?_ ?_ ?_; rotate_left; rfl; focus (intro w hSw; (try dsimp only at hSw); go_simp; all_goals (with_reducible rfl)))
                          simp only [Act.put, List.setIfInBounds_toArray, List.set_cons_succ, List.set_cons_zero]
                          first
                            | (refine rg_skip 4 rfl (by kernel_rfl) (by kernel_rfl) (by kernel_rfl) (fun _ _ _ h => h) HS ?_ ?_; rfl)
                            | (refine rg_take 4 (v := ?_) rfl (by kernel_rfl) (by kernel_rfl) (by kernel_rfl) (fun _ _ _ h => h) HS ?_ ?_ ?_; rotate_left; rfl; focus (intro w hSw; (try dsimp only at hSw); go_simp; all_goals (with_reducible rfl)))
                          simp only [Act.put, List.setIfInBounds_toArray, List.set_cons_succ, List.set_cons_zero]
                          first
                            | (refine rg_skip 5 rfl (by kernel_rfl) (by kernel_rfl) (by kernel_rfl) (fun _ _ _ h => h) HS ?_ ?_; rfl)
                            | (refine rg_take 5 (v := ?_) rfl (by kernel_rfl) (by kernel_rfl) (by kernel_rfl) (fun _ _ _ h => h) HS ?_ ?_ ?_; rotate_left; rfl; focus (intro w hSw; (try dsimp only at hSw); go_simp; all_goals (with_reducible rfl)))
                          simp only [Act.put, List.setIfInBounds_toArray, List.set_cons_succ, List.set_cons_zero]
                          first
                            | (refine rg_skip 6 rfl (by kernel_rfl) (by kernel_rfl) (by kernel_rfl) (fun _ _ _ h => h) HS ?_ ?_; rfl)
                            | (refine rg_take 6 (v := ?_) rfl (by kernel_rfl) (by kernel_rfl) (by kernel_rfl) (fun _ _ _ h => h) HS ?_ ?_ ?_; rotate_left; rfl; focus (intro w hSw; (try dsimp only at hSw); go_simp; all_goals (with_reducible rfl)))
                          simp only [Act.put, List.setIfInBounds_toArray, List.set_cons_succ, List.set_cons_zero]
                          first
                            | (refine rg_skip 7 rfl (by kernel_rfl) (by kernel_rfl) (by kernel_rfl) (fun _ _ _ h => h) HS ?_ ?_; rfl)
                            | (refine rg_take 7 (v := ?_) rfl (by kernel_rfl) (by kernel_rfl) (by kernel_rfl) (fun _ _ _ h => h) HS ?_ ?_ ?_; rotate_left; rfl; focus (intro w hSw; (try dsimp only at hSw); go_simp; all_goals (with_reducible rfl)))
                          simp only [Act.put, List.setIfInBounds_toArray, List.set_cons_succ, List.set_cons_zero]
                          first
                            | (refine rg_skip 8 rfl (by kernel_rfl) (by kernel_rfl) (by kernel_rfl) (fun _ _ _ h => h) HS ?_ ?_; rfl)
                            | (refine rg_take 8 (v := ?_) rfl (by kernel_rfl) (by kernel_rfl) (by kernel_rfl) (fun _ _ _ h => h) HS ?_ ?_ ?_; rotate_left; rfl; focus (intro w hSw; (try dsimp only at hSw); go_simp; all_goals (with_reducible rfl)))
                          simp only [Act.put, List.setIfInBounds_toArray, List.set_cons_succ, List.set_cons_zero]
                          first
                            | (refine rg_skip 9 rfl (by kernel_rfl) (by kernel_rfl) (by kernel_rfl) (fun _ _ _ h => h) HS ?_ ?_; rfl)
                            | (refine rg_take 9 (v := ?_) rfl (by kernel_rfl) (by kernel_rfl) (by kernel_rfl) (fun _ _ _ h => h) HS ?_ ?_ ?_; rotate_left; rfl; focus (intro w hSw; (try dsimp only at hSw); go_simp; all_goals (with_reducible rfl)))
                          simp only [Act.put, List.setIfInBounds_toArray, List.set_cons_succ, List.set_cons_zero]
                          first
                            | (refine rg_skip 10 rfl (by kernel_rfl) (by kernel_rfl) (by kernel_rfl) (fun _ _ _ h => h) HS ?_ ?_; rfl)
                            | (refine rg_take 10 (v := ?_) rfl (by kernel_rfl) (by kernel_rfl) (by kernel_rfl) (fun _ _ _ h => h) HS ?_ ?_ ?_; rotate_left; rfl; focus (intro w hSw; (try dsimp only at hSw); go_simp; all_goals (with_reducible rfl)))
                          simp only [Act.put, List.setIfInBounds_toArray, List.set_cons_succ, List.set_cons_zero]
                          first
                            | (refine rg_skip 11 rfl (by kernel_rfl) (by kernel_rfl) (by kernel_rfl) (fun _ _ _ h => h) HS ?_ ?_; rfl)
                            | (refine rg_take 11 (v := ?_) rfl (by kernel_rfl) (by kernel_rfl) (by kernel_rfl) (fun _ _ _ h => h) HS ?_ ?_ ?_; rotate_left; rfl; focus (intro w hSw; (try dsimp only at hSw); go_simp; all_goals (with_reducible rfl)))
                          simp only [Act.put, List.setIfInBounds_toArray, List.set_cons_succ, List.set_cons_zero]
                          first
                            | (refine rg_skip 12 rfl (by kernel_rfl) (by kernel_rfl) (by kernel_rfl) (fun _ _ _ h => h) HS ?_ ?_; rfl)
                            | (refine rg_take 12 (v := ?_) rfl (by kernel_rfl) (by kernel_rfl) (by kernel_rfl) (fun _ _ _ h => h) HS ?_ ?_ ?_; rotate_left; rfl; focus (intro w hSw; (try dsimp only at hSw); go_simp; all_goals (with_reducible rfl)))
                          simp only [Act.put, List.setIfInBounds_toArray, List.set_cons_succ, List.set_cons_zero]
                          first
                            | (refine rg_skip 13 rfl (by kernel_rfl) (by kernel_rfl) (by kernel_rfl) (fun _ _ _ h => h) HS ?_ ?_; rfl)
                            | (refine rg_take 13 (v := ?_) rfl (by kernel_rfl) (by kernel_rfl) (by kernel_rfl) (fun _ _ _ h => h) HS ?_ ?_ ?_; rotate_left; rfl; focus (intro w hSw; (try dsimp only at hSw); go_simp; all_goals (with_reducible rfl)))
                          simp only [Act.put, List.setIfInBounds_toArray, List.set_cons_succ, List.set_cons_zero]
                          first
                            | (refine rg_skip 14 rfl (by kernel_rfl) (by kernel_rfl) (by kernel_rfl) (fun _ _ _ h => h) HS ?_ ?_; rfl)
                            | (refine rg_take 14 (v := ?_) rfl (by kernel_rfl) (by kernel_rfl) (by kernel_rfl) (fun _ _ _ h => h) HS ?_ ?_ ?_; rotate_left; rfl; focus (intro w hSw; (try dsimp only at hSw); go_simp; all_goals (with_reducible rfl)))
                          simp only [Act.put, List.setIfInBounds_toArray, List.set_cons_succ, List.set_cons_zero]
                          first
                            | (refine rg_skip 15 rfl (by kernel_rfl) (by kernel_rfl) (by kernel_rfl) (fun _ _ _ h => h) HS ?_ ?_; rfl)
                            | (refine rg_take 15 (v := ?_) rfl (by kernel_rfl) (by kernel_rfl) (by kernel_rfl) (fun _ _ _ h => h) HS ?_ ?_ ?_; rotate_left; rfl; focus (intro w hSw; (try dsimp only at hSw); go_simp; all_goals (with_reducible rfl)))
                          simp only [Act.put, List.setIfInBounds_toArray, List.set_cons_succ, List.set_cons_zero]
                          first
                            | (refine rg_skip 16 rfl (by kernel_rfl) (by kernel_rfl) (by kernel_rfl) (fun _ _ _ h => h) HS ?_ ?_; rfl)
                            | (refine rg_take 16 (v := ?_) rfl (by kernel_rfl) (by kernel_rfl) (by kernel_rfl) (fun _ _ _ h => h) HS ?_ ?_ ?_; rotate_left; rfl; focus (intro w hSw; (try dsimp only at hSw); go_simp; all_goals (with_reducible rfl)))
                          simp only [Act.put, List.setIfInBounds_toArray, List.set_cons_succ, List.set_cons_zero]
                          first
                            | (refine rg_skip 17 rfl (by kernel_rfl) (by kernel_rfl) (by kernel_rfl) (fun _ _ _ h => h) HS ?_ ?_; rfl)
                            | (refine rg_take 17 (v := ?_) rfl (by kernel_rfl) (by kernel_rfl) (by kernel_rfl) (fun _ _ _ h => h) HS ?_ ?_ ?_; rotate_left; rfl; focus (intro w hSw; (try dsimp only at hSw); go_simp; all_goals (with_reducible rfl)))
                          simp only [Act.put, List.setIfInBounds_toArray, List.set_cons_succ, List.set_cons_zero]
                          first
                            | (refine rg_skip 18 rfl (by kernel_rfl) (by kernel_rfl) (by kernel_rfl) (fun _ _ _ h => h) HS ?_ ?_; rfl)
                            | (refine rg_take 18 (v := ?_) rfl (by kernel_rfl) (by kernel_rfl) (by kernel_rfl) (fun _ _ _ h => h) HS ?_ ?_ ?_; rotate_left; rfl; focus (intro w hSw; (try dsimp only at hSw); go_simp; all_goals (with_reducible rfl)))
                          simp only [Act.put, List.setIfInBounds_toArray, List.set_cons_succ, List.set_cons_zero]
                          first
                            | (refine rg_skip 19 rfl (by kernel_rfl) (by kernel_rfl) (by kernel_rfl) (fun _ _ _ h => h) HS ?_ ?_; rfl)
                            | (refine rg_take 19 (v := ?_) rfl (by kernel_rfl) (by kernel_rfl) (by kernel_rfl) (fun _ _ _ h => h) HS ?_ ?_ ?_; rotate_left; rfl; focus (intro w hSw; (try dsimp only at hSw); go_simp; all_goals (with_reducible rfl)))
                          simp only [Act.put, List.setIfInBounds_toArray, List.set_cons_succ, List.set_cons_zero]
                          first
                            | (refine rg_skip 20 rfl (by kernel_rfl) (by kernel_rfl) (by kernel_rfl) (fun _ _ _ h => h) HS ?_ ?_; rfl)
                            | (refine rg_take 20 (v := ?_) rfl (by kernel_rfl) (by kernel_rfl) (by kernel_rfl) (fun _ _ _ h => h) HS ?_ ?_ ?_; rotate_left; rfl; focus (intro w hSw; (try dsimp only at hSw); go_simp; all_goals (with_reducible rfl)))
                          simp only [Act.put, List.setIfInBounds_toArray, List.set_cons_succ, List.set_cons_zero]
                          first
                            | (refine rg_skip 21 rfl (by kernel_rfl) (by kernel_rfl) (by kernel_rfl) (fun _ _ _ h => h) HS ?_ ?_; rfl)
                            | (refine rg_take 21 (v := ?_) rfl (by kernel_rfl) (by kernel_rfl) (by kernel_rfl) (fun _ _ _ h => h) HS ?_ ?_ ?_; rotate_left; rfl; focus (intro w hSw; (try dsimp only at hSw); go_simp; all_goals (with_reducible rfl)))
                          simp only [Act.put, List.setIfInBounds_toArray, List.set_cons_succ, List.set_cons_zero]
                          refine wpAnyH_done (by kernel_rfl) ?_ _
                          clear HS
                          go_wp2_with fail
                          go_roundw
                          case rel => exact ⟨k + 1, HLT.out, by go_num, HK⟩
                          case measure => have := HLT.out; simp [intOf]; omega
                        · as_aux_lemma =>
                          have hlb : decide (k < n2) = false := by simpa using hlt
                          obtain rfl : k = n2 := by omega
                          have HREL : Hid (CrRel w h lo (q + 1) (.slice a8 k c8) wr) := Lib.hid ⟨L2, k, B2, 21 * (q + 1), Nat.le_refl _, HCJ.out, hh.out.2.1.more hkr.out, hh.out.1.new hkr.out⟩
                          clear hlt hkr hh
                          go_wp2_with fail
                          go_roundw
                          case rel => exact ⟨q + 1, HQ.out, by go_num, HREL⟩
                          case measure => have := HQ.out; simp [intOf]; omega
      · as_aux_lemma =>
        have hout : (decide ((q : Int) < 4) = false ∧ decide (q < 4) = false) ∨ (decide ((q : Int) < 4) = true ∧ decide (q < 4) = true ∧ decide (q < fuses.length) = false) := by
          simp only [decide_eq_false_iff_not, decide_eq_true_eq]
          omega
        have HK : Hid (Keeps w wr (fun _ => False)) := by
          obtain ⟨L, n, B, m, hm, hcr, hLD, hv8⟩ := hrel.out
          exact Lib.hid hLD.keeps
        clear hlt hrel
        rcases hout with ⟨h1, h2⟩ | ⟨h1, h2, h3⟩
        all_goals
          go_wp2_with fail
          go_meet
          exact HK
end Go.Proofs.Ytadjcdfmppcpnaa
