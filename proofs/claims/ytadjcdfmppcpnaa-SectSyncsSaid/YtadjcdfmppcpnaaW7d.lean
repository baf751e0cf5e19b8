import Derived.Test.YtadjcdfmppcpnaaW7c
import Derived.Test.YtadjcdfmppcpnaaP7d
import Derived.Test.YtadjcdfmppcpnaaMk
import Derived.Test.YtadjcdfmppcpnaaReg
/-! Layer 7: the walk of SectSyncs. -/
namespace Go.Proofs.Ytadjcdfmppcpnaa
open Go Go.RowKit Go.Maps Wb

def bools (l : List Bool) : Array Value := (l.map Value.bool).toArray
theorem bools_at {l : List Bool} {k : Nat} (h : k < l.length) : (bools l)[k]? = some (.bool (l.getD k false)) := by
  simp [bools, h]
theorem bools_set (l : List Bool) (k : Nat) (b : Bool) : (bools l).setIfInBounds k (.bool b) = bools (l.set k b) := by
  simp [bools, List.map_set]
theorem bools_rep (n : Nat) (b : Bool) : Array.replicate n (Value.bool b) = bools (List.replicate n b) := by
  simp [bools]

def SyncsRel1 (w : World) (h : DH) (q : Nat) (wr : World) : Prop := isDev wr h (oneF 100 [97] (freshCells q)) ∧ Keeps w wr (fun _ => False)
def SyncsRel2 (w : World) (h : DH) (b : Nat) (n : Nat) (long : Nat) (ov : List Bool) (wr : World) : Prop :=
  OvOk n ov long ∧ ov.length = n + 30 ∧ isDev wr h (oneF 100 [97] (ovL n ov long)) ∧ wr.heap[b]? = some (.cells (bools ov) 4 (0, 0)) ∧ Keeps w wr (fun _ => False)

def SyncsRel3 (w : World) (h : DH) (b : Nat) (ov : List Bool) (D : Dv) (wr : World) : Prop :=
  isDev wr h D ∧ wr.heap[b]? = some (.cells (bools ov) 4 (0, 0)) ∧ Keeps w wr (fun _ => False)
theorem SyncsRel3.keep {w : World} {h : DH} {b : Nat} {ov : List Bool} {D : Dv} {w1 w2 : World} (hk : Keeps w1 w2 (fun _ => False)) (hr : SyncsRel3 w h b ov D w1) : SyncsRel3 w h b ov D w2 :=
  ⟨hr.1.new hk, hk.blk hr.2.1 id, hr.2.2.trans hk⟩
theorem SyncsRel3.drew {w : World} {h : DH} {b : Nat} {ov : List Bool} {D : Dv} {w1 : World} (hr : SyncsRel3 w h b ov D w1) : SyncsRel3 w h b ov D w1.drew :=
  ⟨hr.1.drew, hr.2.1, hr.2.2.drew⟩
theorem Keeps.cell1 {w w' : World} {p : Addr} {v : Value} (hk : Keeps w w' (fun _ => False)) (h : w.cell? p = some v) : w'.cell? p = some v := (hk.cell (p := p) (cell_lt9 h) id).trans h
theorem Keeps.range {w w' : World} {b o : Nat} {cs : List Value} (hk : Keeps w w' (fun _ => False)) (h : w.rangeAt b o cs) : w'.rangeAt b o cs := fun j v hv => Keeps.cell1 hk (h j v hv)

theorem SyncsRel3.keptNew {w : World} {h : DH} {b b1 : Nat} {ov : List Bool} {D : Dv} {w4 w5 w6 : World} (h4 : SyncsRel3 w h b ov D w4) (h5 : SyncsRel3 w h b ov D w5) (hb : w4.heap.size ≤ b1) (hk : Keeps w5 w6 (· = b1)) : SyncsRel3 w h b ov D w6 :=
  ⟨h5.1.keptNew h4.1 hb hk, hk.blk h5.2.1 (ne_new h4.2.1 hb), h5.2.2.then hk (fun i hi e => absurd (Nat.le_trans h4.2.2.size hb) (by rw [← e]; exact Nat.not_le.2 hi))⟩

theorem syncs_cases {n : Nat} {ov : List Bool} {k : Nat} {r : Sec × Int} (h : SyncsSaid n ov k r) :
    (ov.getD k false = true ∧ ∃ s, r = (s, 7)) ∨ (ov.getD k false = false ∧ k < n ∧ ∃ s, r = (s, 0) ∧ s = sectorOf (k : Int)) ∨
    (ov.getD k false = true ∧ ¬ k < n ∧ ∃ s, r = (s, 0) ∧ s = sectorOf (100 + (k : Int))) ∨
    (ov.getD k false = true ∧ k < n ∧ ∃ s, r = (s, 0) ∧ (s = sectorOf (k : Int) ∨ s = sectorOf (100 + (k : Int)))) := by
  rcases h with ⟨h1, h2, h3⟩ | ⟨h1, h2 | h2 | ⟨h2, h3⟩⟩
  · exact .inr (.inl ⟨h1, h2, _, h3, rfl⟩)
  · exact .inl ⟨h1, _, h2⟩
  · by_cases hk : k < n
    · exact .inr (.inr (.inr ⟨h1, hk, _, h2, .inr rfl⟩))
    · exact .inr (.inr (.inl ⟨h1, hk, _, h2, rfl⟩))
  · exact .inr (.inr (.inr ⟨h1, h2, _, h3, .inl rfl⟩))
theorem two_bools (s : Sec) (k : Int) (h : s = sectorOf k ∨ s = sectorOf (100 + k)) : ∃ ob nb : Bool, (ob || nb) = true ∧
    (∀ W : World, (binOp BinOp.eql 28 (.agg (secA s)) (secV (sectorOf k))).run Try.prog W = .ok (.bool ob) W) ∧
    (∀ W : World, (binOp BinOp.eql 28 (.agg (secA s)) (secV (sectorOf (100 + k)))).run Try.prog W = .ok (.bool nb) W) :=
  ⟨decide (s = sectorOf k), decide (s = sectorOf (100 + k)), by simpa using h, fun W => run_eql_sec W s _, fun W => run_eql_sec W s _⟩

set_option maxRecDepth 100000 in
set_option maxHeartbeats 8000000 in
theorem sectSyncs_walk (w : World) (nn : Int) (v : Value) (xs : List Int) (hx : isInts w (fun g => g < w.heap.size) v xs) (v2 : Value) (ys : List Int) (hy : isInts w (fun g => g < w.heap.size) v2 ys) :
    Calls Try.prog 4 #[.int .i64 nn, v, v2] w (Quiet w (.bool true)) := by
  obtain ⟨n, hn, hn16, hn1⟩ : ∃ n : Nat, nn % 16 + 1 = n ∧ n ≤ 16 ∧ 1 ≤ n := ⟨(nn % 16 + 1).toNat, by omega, by omega, by omega⟩
  have hm1 : bits BinOp.and IntKind.i64 nn 15 + 1 = n := by rw [mask15, hn]
  clear hn
  have hX := Lib.hid hx
  have hY := Lib.hid hy
  obtain ⟨a, cap, rfl, hl1, hl2, hl3, hx4⟩ := hx
  have hn97 : nmOk [97] := nmOk_small (by decide)
  have H1 : Hid ((Dv.new 100).make [97] = (oneF 100 [97] [], 0)) := Lib.hid (one_start 100 [97] (by decide) ⟨by decide, by decide⟩)
  have hn9 : (n : Int) ≤ 16 := by omega
  have hn0 : (1 : Int) ≤ n := by omega
  have hxl : (xs.length : Int) ≤ 140737488351232 := by omega
  have HC : Hid (∀ (q : Nat), q < xs.length → ∃ g o x, xs[q]? = some x ∧ kOk x ∧ a = some ⟨g, o, none⟩ ∧ g < w.heap.size ∧ w.cell? ⟨g, o + q, none⟩ = some (.int .i64 x)) := by
    intro q hq
    rcases hx4 with rfl | ⟨g, o, rfl, _, hg, hc⟩
    · simp at hq
    · exact ⟨g, o, xs[q]'hq, List.getElem?_eq_getElem _, hl3 _ (List.getElem_mem _), rfl, hg, hc q _ (List.getElem?_eq_getElem _)⟩
  clear hx4 hl3 hy
  go_enter Try.func4, Try.ntmps4
  go_wp2_with fail
  refine new_any _ _ fun h w1 hd0 hk0 hS => ?_
  go_wp2_with fail
  refine (make_calls _ h _ [97] hd0 hn97).mono ?_
  rintro e w2 ⟨he, hd1, hk1⟩
  rw [H1.out] at he hd1
  dsimp only at he hd1
  subst he
  have hN : ∀ i, i < w.heap.size → h.S i → False := fun i hi hs => absurd (hS i hs) (Nat.not_le.2 hi)
  have hK0 : Keeps w w2 (fun _ => False) := hk0.then hk1 hN
  have hNH := Lib.hid hN
  clear hN hd0 hk0 hk1
  go_wp2_with fail
  go_loopw [8] (fun i wr => ∃ q : Nat, q ≤ n ∧ i = .int .i64 q ∧ SyncsRel1 w h q wr) (fun i _ => n - (intOf i).toNat)
  case atStart => exact ⟨0, Nat.zero_le _, rfl, hd1, hK0⟩
  case round =>
    obtain ⟨q, hq, rfl, hdr, hkr⟩ := hrel
    by_cases hlt : q < n
    · have hlt' : decide (q < n) = true := by simpa using hlt
      have hq9 : (q : Int) < 16 := by omega
      have hq0 : (0 : Int) ≤ q := by omega
      have HW : Hid ((oneF 100 [97] (freshCells q)).write [97] q (sectorOf q) = (oneF 100 [97] (freshCells (q + 1)), 0)) := by
        unfold Hid
        have := one_append 100 [97] (freshCells q) (sectorOf q) (by rw [freshCells_len]; omega)
        rwa [freshCells_len, ← freshCells_succ] at this
      go_wp2_with fail
      refine (sector_calls _ q (kOk_small (by omega))).mono ?_
      rintro e w4 ⟨rfl, hk4⟩
      have hd4 := hdr.new hk4
      go_wp2_with fail
      refine (write_calls _ h _ [97] q (sectorOf q) hd4 hn97).mono ?_
      rintro e w5 ⟨he, hd5, hk5⟩
      rw [HW.out] at he hd5
      dsimp only at he hd5
      subst he
      go_wp2
      go_roundw
      case rel => exact ⟨q + 1, by omega, by go_num, hd5, (hkr.trans hk4).then hk5 hNH.out⟩
      case measure => simp [intOf]; omega
    · have hge : decide (q < n) = false := by simpa using hlt
      obtain rfl : q = n := by omega
      clear hlt
      obtain ⟨hsy, hov⟩ := syncs_start q hn16 (q + 30)
      have HS := Lib.hid hsy
      clear hsy
      go_wp2_with fail
      refine (sync_calls _ h _ [97] hdr hn97).mono ?_
      rintro e w3 ⟨he, hd3, hk3⟩
      rw [HS.out] at he hd3
      dsimp only at he hd3
      subst he
      have hK3 := hkr.then hk3 hNH.out
      go_wp2_with (first
        | (at_make; refine wl_make1 rfl _ _ _ rfl 4 (.bool false) 1 Try.underlying36 (by kernel_rfl) rfl .i64 .i64 _ (q + 30) rfl rfl (by go_num) (by omega) (by unfold maxLen; omega) ?_; intro b0 w4 hb0 HB0 HK0)
        | fail)
      have hd4 := hd3.new HK0
      have hK4 := hK3.trans HK0
      rw [bools_rep] at HB0
      have hlo : w.heap.size ≤ b0 := Nat.le_trans hK3.size hb0
      have hb0s : Hid (¬ h.S b0) := Lib.hid (fun hs => absurd (hd3.lt hs) (Nat.not_lt.2 hb0))
      clear hd3 hk3 HK0 HS
      go_loopw [11, 10] (fun i v10 wr => ∃ r long : Nat, ∃ ov : List Bool, r ≤ 20 ∧ i = .int .i64 r ∧ v10 = .int .i64 long ∧ long ≤ q + r ∧ SyncsRel2 w h b0 q long ov wr) (fun i _ _ => 20 - (intOf i).toNat)
      case atStart => exact ⟨0, q, _, Nat.zero_le _, rfl, rfl, Nat.le_refl _, hov, by simp, hd4, HB0, hK4⟩
      case round =>
        obtain ⟨r, long, ov, hr20, rfl, rfl, hlong, hovr, hovl, hdr, hbr, hkr⟩ := hrel
        have hr0 : (0 : Int) ≤ r := by omega
        have hr9 : (r : Int) ≤ 20 := by omega
        have hlg : (long : Int) ≤ 36 := by omega
        have hlg0 : (0 : Int) ≤ long := by omega
        by_cases hlt : r < xs.length ∧ r < 20
        · have hlt1 : decide (r < xs.length) = true := by simpa using hlt.1
          have hql : (r : Int) < xs.length := by omega
          have hr2 : (r : Int) < 20 := by omega
          have hlt2 : decide ((r : Int) < 20) = true := by simp; omega
          obtain ⟨g, o, x, hxq, hxk, rfl, hg, hcw⟩ := HC.out r hlt.1
          have hc5 : wr.cell? ⟨g, o + r, none⟩ = some (.int .i64 x) := (hkr.cell (p := ⟨g, o + r, none⟩) hg (fun h => h)).trans hcw
          obtain ⟨e, he, he2⟩ : ∃ e : Nat, x % 256 = e ∧ e < 256 := ⟨(x % 256).toNat, by omega, by omega⟩
          have hm2 : bits BinOp.and IntKind.i64 x 255 = e := by rw [mask255, he]
          obtain ⟨k, hk, hkl⟩ : ∃ k : Nat, (e : Int).tmod ((long : Int) + 1) = k ∧ k ≤ long := by
            refine ⟨e % (long + 1), ?_, by have := Nat.mod_lt e (show 0 < long + 1 by omega); omega⟩
            rw [Int.tmod_eq_emod_of_nonneg (by omega)]
            exact (Int.natCast_emod e (long + 1)).symm
          have hk9 : (k : Int) ≤ 36 := by omega
          have hk0 : (0 : Int) ≤ k := by omega
          have hnz : ((long : Int) + 1 == 0) = false := by simp; omega
          obtain ⟨hw1, hov2⟩ := syncs_write q ov long k hovr (by omega) hkl (by omega)
          have HW := Lib.hid hw1
          clear hxq he hlt hw1 hovr
          go_wp2_with fail
          refine (sector_calls _ (100 + k) (kOk_small (by omega))).mono ?_
          rintro e w5 ⟨rfl, hk5⟩
          have hd5 := hdr.new hk5
          have hb5 := hk5.blk hbr id
          go_wp2_with fail
          refine (write_calls _ h _ [97] k (sectorOf (100 + k)) hd5 hn97).mono ?_
          rintro e w6 ⟨he, hd6, hk6⟩
          rw [HW.out] at he hd6
          dsimp only at he hd6
          subst he
          have hb6 := hk6.blk hb5 hb0s.out
          have hK6 := (hkr.trans hk5).then hk6 hNH.out
          have hcx : w6.cell? ⟨b0, k, none⟩ = some (.bool (ov.getD k false)) := by rw [cell_of_block hb6, bools_at (by omega)]
          have hfx : w6.frozen? ⟨b0, k, none⟩ = false := free_of_block hb6 k
          have HB6 := Lib.hid hb6
          have hmx : max (long : Int) ((k : Int) + 1) = (max long (k + 1) : Nat) := by omega
          have hkq : (k : Int) < q + 30 := by omega
          have hdX : isDev (w6.setCell ⟨b0, k, none⟩ (.bool true)) h (oneF 100 [97] (ovL q (ov.set k true) (max long (k + 1)))) := hd6.kept (keeps_cell w6 b0 k (.bool true)) (fun e => hb0s.out (.inl e.symm)) (fun e => hb0s.out (.inr (.inl e.symm))) (fun e => hb0s.out (.inr (.inr e.symm)))
          have hbX : (w6.setCell ⟨b0, k, none⟩ (.bool true)).heap[b0]? = some (.cells (bools (ov.set k true)) 4 (0, 0)) := by rw [← bools_set]; exact blk_setCell hb6 _ _
          have hKX := hK6.then (keeps_cell w6 b0 k (.bool true)) (fun i hi e => absurd hlo (by rw [← e]; exact Nat.not_le.2 hi))
          have HDX := Lib.hid hdX
          have HBX := Lib.hid hbX
          have HKX := Lib.hid hKX
          clear hdX hbX hKX hb6 hb5 hbr
          go_wp2
          go_roundw
          case rel => exact ⟨r + 1, _, _, by omega, by go_num, rfl, by omega, hov2, by simpa using hovl, HDX.out, HBX.out, HKX.out⟩
          case measure => simp [intOf]; omega
        · have hout : (decide (r < xs.length) = false ∧ True) ∨ (decide (r < xs.length) = true ∧ decide ((r : Int) < 20) = false) := by
            rcases Nat.lt_or_ge r xs.length with h1 | h1
            · right; simp; omega
            · left; simp; omega
          have hY2 := (hY.out.new hkr).weaken (ok' := fun g => ¬ h.S g ∧ g < wr.heap.size) fun i hi => ⟨fun hs => hNH.out i hi hs, Nat.lt_of_lt_of_le hi hkr.size⟩
          obtain ⟨D9, hc, hD1, hD2, hD3⟩ := syncs_crash q ov long ys hovr
          obtain ⟨z, hz⟩ : ∃ z : Nat, D9.len [97] = z := ⟨_, rfl⟩
          rw [hz] at hD1 hD2 hD3
          have HL := Lib.hid hz
          have HCR := Lib.hid hc
          have HD3 := Lib.hid hD3
          have hz1 : (q : Int) ≤ z := by omega
          have hz2 : (z : Int) ≤ long := by omega
          have hz3 : decide (z < q) = false := by simp; omega
          have hz4 : decide (long < z) = false := by simp; omega
          clear hz hc hD3 hovr hlt hX HC
          have HB := Lib.hid hbr
          clear hbr
          rcases hout with ⟨h1, h2⟩ | ⟨h1, h2⟩
          all_goals
            go_wp2_with fail
            refine (crash_calls wr h _ ys _ hdr (by show 1 ≤ 1000000; omega) hY2).mono ?_
            rintro e w9 ⟨he, hd9, hk9⟩
            subst he
            rw [HCR.out] at hd9
            have hb9 := Lib.hid (hk9.blk HB.out hb0s.out)
            have hK9 := hkr.then hk9 hNH.out
            clear hdr hkr hk9 hY2
            go_wp2_with fail
            refine (len_calls _ h _ [97] hd9 hn97).mono ?_
            rintro e w' ⟨he, rfl⟩
            rw [HL.out] at he
            subst he
            go_wp2_with fail
            refine (len_calls _ h _ [97] hd9 hn97).mono ?_
            rintro e w' ⟨he, rfl⟩
            rw [HL.out] at he
            subst he
            go_wp2_with fail
            go_loopw [13] (fun i wr => ∃ k : Nat, k ≤ z ∧ i = .int .i64 k ∧ SyncsRel3 w h b0 ov D9 wr) (fun i _ => z - (intOf i).toNat)
            case atStart => exact ⟨0, Nat.zero_le _, rfl, hd9, hb9.out, hK9⟩
            case round =>
              obtain ⟨k, hkz, rfl, hrel⟩ := hrel
              by_cases hlt : k < z
              · have hlt' : decide (k < z) = true := by simpa using hlt
                have hk9 : (k : Int) < 36 := by omega
                have hk0 : (0 : Int) ≤ k := by omega
                have hkq : (k : Int) < q + 30 := by omega
                have hsaid := HD3.out k hlt
                have hkz9 : (k : Int) < z := by omega
                go_wp2_with fail
                refine (len_calls _ h _ [97] hrel.1 hn97).mono ?_
                rintro e w' ⟨he, rfl⟩
                rw [HL.out] at he
                subst he
                rcases syncs_cases hsaid with ⟨hov, s, hrd⟩ | ⟨hov, hkn, s, hrd, hs⟩ | ⟨hov, hkn, s, hrd, hs⟩ | ⟨hov, hkn, s, hrd, hs⟩
                · have HR := Lib.hid hrd
                  clear hrd hlt hsaid HD3
                  go_wp2_with fail
                  refine (read_calls _ h _ [97] k hrel.1 hn97).mono ?_
                  rintro e w4 ⟨he, hk4⟩
                  rw [HR.out] at he
                  dsimp only at he
                  subst he
                  have hrel4 := hrel.keep hk4
                  go_wp2_with (first
                    | ((with_reducible refine gd_alloc 28 ?_); refine wl_alloc_agg rfl _ rfl _ zero28 ?_; intro b1 w5 hb1 HB1 HK1; have hrel5 := hrel4.keep HK1)
                    | ((with_reducible refine gd_store 28 ?_); refine wl_store_agg rfl _ _ _ rfl b1 _ rfl _ _ HB1 (secA s) rfl (secA s) (store_secs _ _) (le_secs _ _) (info28s _) (secA_one _) ?_; intro w6 HB2 HK2)
                    | fail)
                  have hrel6 := hrel4.keptNew hrel5 hb1 HK2
                  clear HB1 hrel4 hrel5 hrel hk4 HK1 HK2 hb1
                  have hcx : w6.cell? ⟨b0, k, none⟩ = some (.bool true) := by rw [cell_of_block hrel6.2.1, bools_at (by have := hovl; omega), hov]
                  have HREL := Lib.hid hrel6
                  clear hrel6 hov
                  go_quiet (fail)
                  go_wp2
                  go_roundw
                  case rel => exact ⟨k + 1, by omega, by go_num, (HREL.out.1.drewN _), HREL.out.2.1, HREL.out.2.2.drewN _⟩
                  case measure => simp [intOf]; omega
                · have hkn1 : decide (k < q) = true := by simpa using hkn
                  clear hkn
                  have HSS := Lib.hid hs
                  clear hs
                  have HR := Lib.hid hrd
                  clear hrd hlt hsaid HD3
                  go_wp2_with fail
                  refine (read_calls _ h _ [97] k hrel.1 hn97).mono ?_
                  rintro e w4 ⟨he, hk4⟩
                  rw [HR.out] at he
                  dsimp only at he
                  subst he
                  have hrel4 := hrel.keep hk4
                  go_wp2_with (first
                    | ((with_reducible refine gd_alloc 28 ?_); refine wl_alloc_agg rfl _ rfl _ zero28 ?_; intro b1 w5 hb1 HB1 HK1; have hrel5 := hrel4.keep HK1)
                    | ((with_reducible refine gd_store 28 ?_); refine wl_store_agg rfl _ _ _ rfl b1 _ rfl _ _ HB1 (secA s) rfl (secA s) (store_secs _ _) (le_secs _ _) (info28s _) (secA_one _) ?_; intro w6 HB2 HK2)
                    | fail)
                  have hrel6 := hrel4.keptNew hrel5 hb1 HK2
                  clear HB1 hrel4 hrel5 hrel hk4 HK1 HK2 hb1
                  have hcx : w6.cell? ⟨b0, k, none⟩ = some (.bool false) := by rw [cell_of_block hrel6.2.1, bools_at (by have := hovl; omega), hov]
                  have HREL := Lib.hid hrel6
                  have hu := Try.underlying28
                  have hi := info28
                  have hsl : (secA s).toList.length = 64 := by rw [Array.length_toList, secA_size]
                  have hone : ∀ v ∈ (secA s).toList, v.oneCell' = true := fun v hv => (Array.all_eq_true_iff_forall_mem.1 (secA_one _)) v (Array.mem_toList_iff.1 hv)
                  have hS6 := range_of_block HB2
                  have hg1 : ∀ (x y : Operand) (W : World), (eqGuard BinOp.eql 28 x y (.agg (secA s)) (secV (sectorOf (k : Int)))).run Try.prog W = .ok () W := fun x y W => run_guard_sec W _ x y _ _
                  have hg2 : ∀ (W : World), (binOp BinOp.eql 28 (.agg (secA s)) (secV (sectorOf (k : Int)))).run Try.prog W = .ok (.bool true) W := fun W => by rw [← secV, run_eql_sec, HSS.out]; simp
                  clear hrel6 hov HSS
                  have HS : (fun w' => w'.rangeAt b1 0 (secA s).toList ∧ w'.cell? ⟨b0, k, none⟩ = some (.bool false)) w6.drew := ⟨hS6, hcx⟩
                  refine wp_region_held_drew (S := (fun w' => w'.rangeAt b1 0 (secA s).toList ∧ w'.cell? ⟨b0, k, none⟩ = some (.bool false))) (by kernel_rfl) HS (fun _ => ?_)
                  first
                    | (refine rg_skip 0 rfl (by kernel_rfl) (by kernel_rfl) (by kernel_rfl) (fun _ _ _ h => h) HS ?_ ?_; rfl)
                    | (refine rg_take 0 (v := ?_) rfl (by kernel_rfl) (by kernel_rfl) (by kernel_rfl) (fun _ _ _ h => h) HS ?_ ?_ ?_; rotate_left; rfl; focus (intro w hSw; (try dsimp only at hSw); go_simp; all_goals (with_reducible rfl)))
                  simp only [Act.put, List.setIfInBounds_toArray, List.set_cons_succ, List.set_cons_zero]
                  first
                    | (refine rg_skip 1 rfl (by kernel_rfl) (by kernel_rfl) (by kernel_rfl) (fun _ _ _ h => h) HS ?_ ?_; rfl)
                    | (refine rg_take 1 (v := ?_) rfl (by kernel_rfl) (by kernel_rfl) (by kernel_rfl) (fun _ _ _ h => h) HS ?_ ?_ ?_; rotate_left; rfl; focus (intro w hSw; (try dsimp only at hSw); go_simp; all_goals (with_reducible rfl)))
                  simp only [Act.put, List.setIfInBounds_toArray, List.set_cons_succ, List.set_cons_zero]
                  first
                    | (refine rg_skip 2 rfl (by kernel_rfl) (by kernel_rfl) (by kernel_rfl) (fun _ _ _ h => h) HS ?_ ?_; rfl)
                    | (refine rg_take 2 (v := ?_) rfl (by kernel_rfl) (by kernel_rfl) (by kernel_rfl) (fun _ _ _ h => h) HS ?_ ?_ ?_; rotate_left; rfl; focus (intro w hSw; (try dsimp only at hSw); go_simp; all_goals (with_reducible rfl)))
                  simp only [Act.put, List.setIfInBounds_toArray, List.set_cons_succ, List.set_cons_zero]
                  first
                    | (refine rg_skip 3 rfl (by kernel_rfl) (by kernel_rfl) (by kernel_rfl) (fun _ _ _ h => h) HS ?_ ?_; rfl)
                    | (refine rg_take 3 (v := ?_) rfl (by kernel_rfl) (by kernel_rfl) (by kernel_rfl) (fun _ _ _ h => h) HS ?_ ?_ ?_; rotate_left; rfl; focus (intro w hSw; (try dsimp only at hSw); go_simp; all_goals (with_reducible rfl)))
                  simp only [Act.put, List.setIfInBounds_toArray, List.set_cons_succ, List.set_cons_zero]
                  first
                    | (refine rg_skip 4 rfl (by kernel_rfl) (by kernel_rfl) (by kernel_rfl) (fun _ _ _ h => h) HS ?_ ?_; rfl)
                    | (refine rg_take 4 (v := ?_) rfl (by kernel_rfl) (by kernel_rfl) (by kernel_rfl) (fun _ _ _ h => h) HS ?_ ?_ ?_; rotate_left; rfl; focus (intro w hSw; (try dsimp only at hSw); go_simp; all_goals (with_reducible rfl)))
                  simp only [Act.put, List.setIfInBounds_toArray, List.set_cons_succ, List.set_cons_zero]
                  first
                    | (refine rg_skip 5 rfl (by kernel_rfl) (by kernel_rfl) (by kernel_rfl) (fun _ _ _ h => h) HS ?_ ?_; rfl)
                    | (refine rg_take 5 (v := ?_) rfl (by kernel_rfl) (by kernel_rfl) (by kernel_rfl) (fun _ _ _ h => h) HS ?_ ?_ ?_; rotate_left; rfl; focus (intro w hSw; (try dsimp only at hSw); go_simp; all_goals (with_reducible rfl)))
                  simp only [Act.put, List.setIfInBounds_toArray, List.set_cons_succ, List.set_cons_zero]
                  first
                    | (refine rg_skip 6 rfl (by kernel_rfl) (by kernel_rfl) (by kernel_rfl) (fun _ _ _ h => h) HS ?_ ?_; rfl)
                    | (refine rg_take 6 (v := ?_) rfl (by kernel_rfl) (by kernel_rfl) (by kernel_rfl) (fun _ _ _ h => h) HS ?_ ?_ ?_; rotate_left; rfl; focus (intro w hSw; (try dsimp only at hSw); go_simp; all_goals (with_reducible rfl)))
                  simp only [Act.put, List.setIfInBounds_toArray, List.set_cons_succ, List.set_cons_zero]
                  first
                    | (refine rg_skip 7 rfl (by kernel_rfl) (by kernel_rfl) (by kernel_rfl) (fun _ _ _ h => h) HS ?_ ?_; rfl)
                    | (refine rg_take 7 (v := ?_) rfl (by kernel_rfl) (by kernel_rfl) (by kernel_rfl) (fun _ _ _ h => h) HS ?_ ?_ ?_; rotate_left; rfl; focus (intro w hSw; (try dsimp only at hSw); go_simp; all_goals (with_reducible rfl)))
                  simp only [Act.put, List.setIfInBounds_toArray, List.set_cons_succ, List.set_cons_zero]
                  refine rg_load 8 rfl (by kernel_rfl) (by kernel_rfl) (by kernel_rfl) (secA s) (fun _ _ _ h => h) HS (by rfl) b1 0 rfl (fun _ h => h.1) _ hu rfl (info28s s) ?_
                  simp only [Act.put, List.setIfInBounds_toArray, List.set_cons_succ, List.set_cons_zero]
                  first
                    | (refine rg_skip 9 rfl (by kernel_rfl) (by kernel_rfl) (by kernel_rfl) (fun _ _ _ h => h) HS ?_ ?_; rfl)
                    | (refine rg_take 9 (v := ?_) rfl (by kernel_rfl) (by kernel_rfl) (by kernel_rfl) (fun _ _ _ h => h) HS ?_ ?_ ?_; rotate_left; rfl; focus (intro w hSw; (try dsimp only at hSw); go_simp; all_goals (with_reducible rfl)))
                  simp only [Act.put, List.setIfInBounds_toArray, List.set_cons_succ, List.set_cons_zero]
                  first
                    | (refine rg_skip 13 rfl (by kernel_rfl) (by kernel_rfl) (by kernel_rfl) (fun _ _ _ h => h) HS ?_ ?_; rfl)
                    | (refine rg_take 13 (v := ?_) rfl (by kernel_rfl) (by kernel_rfl) (by kernel_rfl) (fun _ _ _ h => h) HS ?_ ?_ ?_; rotate_left; rfl; focus (intro w hSw; (try dsimp only at hSw); go_simp; all_goals (with_reducible rfl)))
                  simp only [Act.put, List.setIfInBounds_toArray, List.set_cons_succ, List.set_cons_zero]
                  first
                    | (refine rg_skip 14 rfl (by kernel_rfl) (by kernel_rfl) (by kernel_rfl) (fun _ _ _ h => h) HS ?_ ?_; rfl)
                    | (refine rg_take 14 (v := ?_) rfl (by kernel_rfl) (by kernel_rfl) (by kernel_rfl) (fun _ _ _ h => h) HS ?_ ?_ ?_; rotate_left; rfl; focus (intro w hSw; (try dsimp only at hSw); go_simp; all_goals (with_reducible rfl)))
                  simp only [Act.put, List.setIfInBounds_toArray, List.set_cons_succ, List.set_cons_zero]
                  refine rg_one 10 rfl (by kernel_rfl) (by rfl) ?_
                  refine rg_call 24 _ _ rfl _ Try.func24 (by kernel_rfl) (by kernel_rfl) [.int .i64 ((k : Int))] rfl (sector_calls _ ((k : Int)) (kOk_small (by omega))) ?_
                  rintro e w7 ⟨rfl, hk7⟩
                  have HS2 : (fun w' => w'.rangeAt b1 0 (secA s).toList ∧ w'.cell? ⟨b0, k, none⟩ = some (.bool false)) w7 := ⟨Keeps.range hk7 HS.1, Keeps.cell1 hk7 HS.2⟩
                  refine ⟨_, rfl, HS2, ?_⟩
                  simp only [Act.put, List.setIfInBounds_toArray, List.set_cons_succ, List.set_cons_zero]
                  first
                    | (refine rg_skip 11 rfl (by kernel_rfl) (by kernel_rfl) (by kernel_rfl) (fun _ _ _ h => h) HS2 ?_ ?_; rfl)
                    | (refine rg_take 11 (v := ?_) rfl (by kernel_rfl) (by kernel_rfl) (by kernel_rfl) (fun _ _ _ h => h) HS2 ?_ ?_ ?_; rotate_left; rfl; focus (intro w hSw; (try dsimp only at hSw); go_simp; all_goals (with_reducible rfl)))
                  simp only [Act.put, List.setIfInBounds_toArray, List.set_cons_succ, List.set_cons_zero]
                  first
                    | (refine rg_skip 12 rfl (by kernel_rfl) (by kernel_rfl) (by kernel_rfl) (fun _ _ _ h => h) HS2 ?_ ?_; rfl)
                    | (refine rg_take 12 (v := ?_) rfl (by kernel_rfl) (by kernel_rfl) (by kernel_rfl) (fun _ _ _ h => h) HS2 ?_ ?_ ?_; rotate_left; rfl; focus (intro w hSw; (try dsimp only at hSw); go_simp; all_goals (with_reducible rfl)))
                  simp only [Act.put, List.setIfInBounds_toArray, List.set_cons_succ, List.set_cons_zero]
                  first
                    | (refine rg_skip 15 rfl (by kernel_rfl) (by kernel_rfl) (by kernel_rfl) (fun _ _ _ h => h) HS2 ?_ ?_; rfl)
                    | (refine rg_take 15 (v := ?_) rfl (by kernel_rfl) (by kernel_rfl) (by kernel_rfl) (fun _ _ _ h => h) HS2 ?_ ?_ ?_; rotate_left; rfl; focus (intro w hSw; (try dsimp only at hSw); go_simp; all_goals (with_reducible rfl)))
                  simp only [Act.put, List.setIfInBounds_toArray, List.set_cons_succ, List.set_cons_zero]
                  first
                    | (refine rg_skip 16 rfl (by kernel_rfl) (by kernel_rfl) (by kernel_rfl) (fun _ _ _ h => h) HS2 ?_ ?_; rfl)
                    | (refine rg_take 16 (v := ?_) rfl (by kernel_rfl) (by kernel_rfl) (by kernel_rfl) (fun _ _ _ h => h) HS2 ?_ ?_ ?_; rotate_left; rfl; focus (intro w hSw; (try dsimp only at hSw); go_simp; all_goals (with_reducible rfl)))
                  simp only [Act.put, List.setIfInBounds_toArray, List.set_cons_succ, List.set_cons_zero]
                  first
                    | (refine rg_skip 17 rfl (by kernel_rfl) (by kernel_rfl) (by kernel_rfl) (fun _ _ _ h => h) HS2 ?_ ?_; rfl)
                    | (refine rg_take 17 (v := ?_) rfl (by kernel_rfl) (by kernel_rfl) (by kernel_rfl) (fun _ _ _ h => h) HS2 ?_ ?_ ?_; rotate_left; rfl; focus (intro w hSw; (try dsimp only at hSw); go_simp; all_goals (with_reducible rfl)))
                  simp only [Act.put, List.setIfInBounds_toArray, List.set_cons_succ, List.set_cons_zero]
                  first
                    | (refine rg_skip 18 rfl (by kernel_rfl) (by kernel_rfl) (by kernel_rfl) (fun _ _ _ h => h) HS2 ?_ ?_; rfl)
                    | (refine rg_take 18 (v := ?_) rfl (by kernel_rfl) (by kernel_rfl) (by kernel_rfl) (fun _ _ _ h => h) HS2 ?_ ?_ ?_; rotate_left; rfl; focus (intro w hSw; (try dsimp only at hSw); go_simp; all_goals (with_reducible rfl)))
                  simp only [Act.put, List.setIfInBounds_toArray, List.set_cons_succ, List.set_cons_zero]
                  first
                    | (refine rg_skip 19 rfl (by kernel_rfl) (by kernel_rfl) (by kernel_rfl) (fun _ _ _ h => h) HS2 ?_ ?_; rfl)
                    | (refine rg_take 19 (v := ?_) rfl (by kernel_rfl) (by kernel_rfl) (by kernel_rfl) (fun _ _ _ h => h) HS2 ?_ ?_ ?_; rotate_left; rfl; focus (intro w hSw; (try dsimp only at hSw); go_simp; all_goals (with_reducible rfl)))
                  simp only [Act.put, List.setIfInBounds_toArray, List.set_cons_succ, List.set_cons_zero]
                  first
                    | (refine rg_skip 20 rfl (by kernel_rfl) (by kernel_rfl) (by kernel_rfl) (fun _ _ _ h => h) HS2 ?_ ?_; rfl)
                    | (refine rg_take 20 (v := ?_) rfl (by kernel_rfl) (by kernel_rfl) (by kernel_rfl) (fun _ _ _ h => h) HS2 ?_ ?_ ?_; rotate_left; rfl; focus (intro w hSw; (try dsimp only at hSw); go_simp; all_goals (with_reducible rfl)))
                  simp only [Act.put, List.setIfInBounds_toArray, List.set_cons_succ, List.set_cons_zero]
                  first
                    | (refine rg_skip 21 rfl (by kernel_rfl) (by kernel_rfl) (by kernel_rfl) (fun _ _ _ h => h) HS2 ?_ ?_; rfl)
                    | (refine rg_take 21 (v := ?_) rfl (by kernel_rfl) (by kernel_rfl) (by kernel_rfl) (fun _ _ _ h => h) HS2 ?_ ?_ ?_; rotate_left; rfl; focus (intro w hSw; (try dsimp only at hSw); go_simp; all_goals (with_reducible rfl)))
                  simp only [Act.put, List.setIfInBounds_toArray, List.set_cons_succ, List.set_cons_zero]
                  first
                    | (refine rg_skip 22 rfl (by kernel_rfl) (by kernel_rfl) (by kernel_rfl) (fun _ _ _ h => h) HS2 ?_ ?_; rfl)
                    | (refine rg_take 22 (v := ?_) rfl (by kernel_rfl) (by kernel_rfl) (by kernel_rfl) (fun _ _ _ h => h) HS2 ?_ ?_ ?_; rotate_left; rfl; focus (intro w hSw; (try dsimp only at hSw); go_simp; all_goals (with_reducible rfl)))
                  simp only [Act.put, List.setIfInBounds_toArray, List.set_cons_succ, List.set_cons_zero]
                  first
                    | (refine rg_skip 23 rfl (by kernel_rfl) (by kernel_rfl) (by kernel_rfl) (fun _ _ _ h => h) HS2 ?_ ?_; rfl)
                    | (refine rg_take 23 (v := ?_) rfl (by kernel_rfl) (by kernel_rfl) (by kernel_rfl) (fun _ _ _ h => h) HS2 ?_ ?_ ?_; rotate_left; rfl; focus (intro w hSw; (try dsimp only at hSw); go_simp; all_goals (with_reducible rfl)))
                  simp only [Act.put, List.setIfInBounds_toArray, List.set_cons_succ, List.set_cons_zero]
                  first
                    | (refine rg_skip 24 rfl (by kernel_rfl) (by kernel_rfl) (by kernel_rfl) (fun _ _ _ h => h) HS2 ?_ ?_; rfl)
                    | (refine rg_take 24 (v := ?_) rfl (by kernel_rfl) (by kernel_rfl) (by kernel_rfl) (fun _ _ _ h => h) HS2 ?_ ?_ ?_; rotate_left; rfl; focus (intro w hSw; (try dsimp only at hSw); go_simp; all_goals (with_reducible rfl)))
                  simp only [Act.put, List.setIfInBounds_toArray, List.set_cons_succ, List.set_cons_zero]
                  first
                    | (refine rg_skip 25 rfl (by kernel_rfl) (by kernel_rfl) (by kernel_rfl) (fun _ _ _ h => h) HS2 ?_ ?_; rfl)
                    | (refine rg_take 25 (v := ?_) rfl (by kernel_rfl) (by kernel_rfl) (by kernel_rfl) (fun _ _ _ h => h) HS2 ?_ ?_ ?_; rotate_left; rfl; focus (intro w hSw; (try dsimp only at hSw); go_simp; all_goals (with_reducible rfl)))
                  simp only [Act.put, List.setIfInBounds_toArray, List.set_cons_succ, List.set_cons_zero]
                  first
                    | (refine rg_skip 26 rfl (by kernel_rfl) (by kernel_rfl) (by kernel_rfl) (fun _ _ _ h => h) HS2 ?_ ?_; rfl)
                    | (refine rg_take 26 (v := ?_) rfl (by kernel_rfl) (by kernel_rfl) (by kernel_rfl) (fun _ _ _ h => h) HS2 ?_ ?_ ?_; rotate_left; rfl; focus (intro w hSw; (try dsimp only at hSw); go_simp; all_goals (with_reducible rfl)))
                  simp only [Act.put, List.setIfInBounds_toArray, List.set_cons_succ, List.set_cons_zero]
                  first
                    | (refine rg_skip 27 rfl (by kernel_rfl) (by kernel_rfl) (by kernel_rfl) (fun _ _ _ h => h) HS2 ?_ ?_; rfl)
                    | (refine rg_take 27 (v := ?_) rfl (by kernel_rfl) (by kernel_rfl) (by kernel_rfl) (fun _ _ _ h => h) HS2 ?_ ?_ ?_; rotate_left; rfl; focus (intro w hSw; (try dsimp only at hSw); go_simp; all_goals (with_reducible rfl)))
                  simp only [Act.put, List.setIfInBounds_toArray, List.set_cons_succ, List.set_cons_zero]
                  first
                    | (refine rg_skip 28 rfl (by kernel_rfl) (by kernel_rfl) (by kernel_rfl) (fun _ _ _ h => h) HS2 ?_ ?_; rfl)
                    | (refine rg_take 28 (v := ?_) rfl (by kernel_rfl) (by kernel_rfl) (by kernel_rfl) (fun _ _ _ h => h) HS2 ?_ ?_ ?_; rotate_left; rfl; focus (intro w hSw; (try dsimp only at hSw); go_simp; all_goals (with_reducible rfl)))
                  simp only [Act.put, List.setIfInBounds_toArray, List.set_cons_succ, List.set_cons_zero]
                  first
                    | (refine rg_skip 29 rfl (by kernel_rfl) (by kernel_rfl) (by kernel_rfl) (fun _ _ _ h => h) HS2 ?_ ?_; rfl)
                    | (refine rg_take 29 (v := ?_) rfl (by kernel_rfl) (by kernel_rfl) (by kernel_rfl) (fun _ _ _ h => h) HS2 ?_ ?_ ?_; rotate_left; rfl; focus (intro w hSw; (try dsimp only at hSw); go_simp; all_goals (with_reducible rfl)))
                  simp only [Act.put, List.setIfInBounds_toArray, List.set_cons_succ, List.set_cons_zero]
                  refine wpAnyH_done (by kernel_rfl) ?_ _
                  have hcx7 := HS2.2
                  have HREL7 := Lib.hid (HREL.out.drew.keep hk7)
                  clear hg1 hg2 HS HS2 hS6 hu hi hsl hone HB2 hcx hk7
                  go_wp2
                  go_roundw
                  case rel => exact ⟨k + 1, by omega, by go_num, HREL7.out⟩
                  case measure => simp [intOf]; omega
                · have hkn1 : decide (k < q) = false := by simpa using hkn
                  clear hkn
                  have HSS := Lib.hid hs
                  clear hs
                  have hw100 : IntKind.i64.wrap (100 + (k : Int)) = 100 + k := i64_small _ (by omega) (by omega)
                  have HR := Lib.hid hrd
                  clear hrd hlt hsaid HD3
                  go_wp2_with fail
                  refine (read_calls _ h _ [97] k hrel.1 hn97).mono ?_
                  rintro e w4 ⟨he, hk4⟩
                  rw [HR.out] at he
                  dsimp only at he
                  subst he
                  have hrel4 := hrel.keep hk4
                  go_wp2_with (first
                    | ((with_reducible refine gd_alloc 28 ?_); refine wl_alloc_agg rfl _ rfl _ zero28 ?_; intro b1 w5 hb1 HB1 HK1; have hrel5 := hrel4.keep HK1)
                    | ((with_reducible refine gd_store 28 ?_); refine wl_store_agg rfl _ _ _ rfl b1 _ rfl _ _ HB1 (secA s) rfl (secA s) (store_secs _ _) (le_secs _ _) (info28s _) (secA_one _) ?_; intro w6 HB2 HK2)
                    | fail)
                  have hrel6 := hrel4.keptNew hrel5 hb1 HK2
                  clear HB1 hrel4 hrel5 hrel hk4 HK1 HK2 hb1
                  have hcx : w6.cell? ⟨b0, k, none⟩ = some (.bool true) := by rw [cell_of_block hrel6.2.1, bools_at (by have := hovl; omega), hov]
                  have HREL := Lib.hid hrel6
                  have hu := Try.underlying28
                  have hi := info28
                  have hsl : (secA s).toList.length = 64 := by rw [Array.length_toList, secA_size]
                  have hone : ∀ v ∈ (secA s).toList, v.oneCell' = true := fun v hv => (Array.all_eq_true_iff_forall_mem.1 (secA_one _)) v (Array.mem_toList_iff.1 hv)
                  have hS6 := range_of_block HB2
                  have hg1 : ∀ (x y : Operand) (W : World), (eqGuard BinOp.eql 28 x y (.agg (secA s)) (secV (sectorOf (100 + (k : Int))))).run Try.prog W = .ok () W := fun x y W => run_guard_sec W _ x y _ _
                  have hg2 : ∀ (W : World), (binOp BinOp.eql 28 (.agg (secA s)) (secV (sectorOf (100 + (k : Int))))).run Try.prog W = .ok (.bool true) W := fun W => by rw [← secV, run_eql_sec, HSS.out]; simp
                  clear hrel6 hov HSS
                  have HS : (fun w' => w'.rangeAt b1 0 (secA s).toList ∧ w'.cell? ⟨b0, k, none⟩ = some (.bool true)) w6.drew := ⟨hS6, hcx⟩
                  refine wp_region_held_drew (S := (fun w' => w'.rangeAt b1 0 (secA s).toList ∧ w'.cell? ⟨b0, k, none⟩ = some (.bool true))) (by kernel_rfl) HS (fun _ => ?_)
                  first
                    | (refine rg_skip 0 rfl (by kernel_rfl) (by kernel_rfl) (by kernel_rfl) (fun _ _ _ h => h) HS ?_ ?_; rfl)
                    | (refine rg_take 0 (v := ?_) rfl (by kernel_rfl) (by kernel_rfl) (by kernel_rfl) (fun _ _ _ h => h) HS ?_ ?_ ?_; rotate_left; rfl; focus (intro w hSw; (try dsimp only at hSw); go_simp; all_goals (with_reducible rfl)))
                  simp only [Act.put, List.setIfInBounds_toArray, List.set_cons_succ, List.set_cons_zero]
                  first
                    | (refine rg_skip 1 rfl (by kernel_rfl) (by kernel_rfl) (by kernel_rfl) (fun _ _ _ h => h) HS ?_ ?_; rfl)
                    | (refine rg_take 1 (v := ?_) rfl (by kernel_rfl) (by kernel_rfl) (by kernel_rfl) (fun _ _ _ h => h) HS ?_ ?_ ?_; rotate_left; rfl; focus (intro w hSw; (try dsimp only at hSw); go_simp; all_goals (with_reducible rfl)))
                  simp only [Act.put, List.setIfInBounds_toArray, List.set_cons_succ, List.set_cons_zero]
                  first
                    | (refine rg_skip 2 rfl (by kernel_rfl) (by kernel_rfl) (by kernel_rfl) (fun _ _ _ h => h) HS ?_ ?_; rfl)
                    | (refine rg_take 2 (v := ?_) rfl (by kernel_rfl) (by kernel_rfl) (by kernel_rfl) (fun _ _ _ h => h) HS ?_ ?_ ?_; rotate_left; rfl; focus (intro w hSw; (try dsimp only at hSw); go_simp; all_goals (with_reducible rfl)))
                  simp only [Act.put, List.setIfInBounds_toArray, List.set_cons_succ, List.set_cons_zero]
                  first
                    | (refine rg_skip 3 rfl (by kernel_rfl) (by kernel_rfl) (by kernel_rfl) (fun _ _ _ h => h) HS ?_ ?_; rfl)
                    | (refine rg_take 3 (v := ?_) rfl (by kernel_rfl) (by kernel_rfl) (by kernel_rfl) (fun _ _ _ h => h) HS ?_ ?_ ?_; rotate_left; rfl; focus (intro w hSw; (try dsimp only at hSw); go_simp; all_goals (with_reducible rfl)))
                  simp only [Act.put, List.setIfInBounds_toArray, List.set_cons_succ, List.set_cons_zero]
                  first
                    | (refine rg_skip 4 rfl (by kernel_rfl) (by kernel_rfl) (by kernel_rfl) (fun _ _ _ h => h) HS ?_ ?_; rfl)
                    | (refine rg_take 4 (v := ?_) rfl (by kernel_rfl) (by kernel_rfl) (by kernel_rfl) (fun _ _ _ h => h) HS ?_ ?_ ?_; rotate_left; rfl; focus (intro w hSw; (try dsimp only at hSw); go_simp; all_goals (with_reducible rfl)))
                  simp only [Act.put, List.setIfInBounds_toArray, List.set_cons_succ, List.set_cons_zero]
                  first
                    | (refine rg_skip 5 rfl (by kernel_rfl) (by kernel_rfl) (by kernel_rfl) (fun _ _ _ h => h) HS ?_ ?_; rfl)
                    | (refine rg_take 5 (v := ?_) rfl (by kernel_rfl) (by kernel_rfl) (by kernel_rfl) (fun _ _ _ h => h) HS ?_ ?_ ?_; rotate_left; rfl; focus (intro w hSw; (try dsimp only at hSw); go_simp; all_goals (with_reducible rfl)))
                  simp only [Act.put, List.setIfInBounds_toArray, List.set_cons_succ, List.set_cons_zero]
                  first
                    | (refine rg_skip 6 rfl (by kernel_rfl) (by kernel_rfl) (by kernel_rfl) (fun _ _ _ h => h) HS ?_ ?_; rfl)
                    | (refine rg_take 6 (v := ?_) rfl (by kernel_rfl) (by kernel_rfl) (by kernel_rfl) (fun _ _ _ h => h) HS ?_ ?_ ?_; rotate_left; rfl; focus (intro w hSw; (try dsimp only at hSw); go_simp; all_goals (with_reducible rfl)))
                  simp only [Act.put, List.setIfInBounds_toArray, List.set_cons_succ, List.set_cons_zero]
                  first
                    | (refine rg_skip 7 rfl (by kernel_rfl) (by kernel_rfl) (by kernel_rfl) (fun _ _ _ h => h) HS ?_ ?_; rfl)
                    | (refine rg_take 7 (v := ?_) rfl (by kernel_rfl) (by kernel_rfl) (by kernel_rfl) (fun _ _ _ h => h) HS ?_ ?_ ?_; rotate_left; rfl; focus (intro w hSw; (try dsimp only at hSw); go_simp; all_goals (with_reducible rfl)))
                  simp only [Act.put, List.setIfInBounds_toArray, List.set_cons_succ, List.set_cons_zero]
                  first
                    | (refine rg_skip 8 rfl (by kernel_rfl) (by kernel_rfl) (by kernel_rfl) (fun _ _ _ h => h) HS ?_ ?_; rfl)
                    | (refine rg_take 8 (v := ?_) rfl (by kernel_rfl) (by kernel_rfl) (by kernel_rfl) (fun _ _ _ h => h) HS ?_ ?_ ?_; rotate_left; rfl; focus (intro w hSw; (try dsimp only at hSw); go_simp; all_goals (with_reducible rfl)))
                  simp only [Act.put, List.setIfInBounds_toArray, List.set_cons_succ, List.set_cons_zero]
                  first
                    | (refine rg_skip 9 rfl (by kernel_rfl) (by kernel_rfl) (by kernel_rfl) (fun _ _ _ h => h) HS ?_ ?_; rfl)
                    | (refine rg_take 9 (v := ?_) rfl (by kernel_rfl) (by kernel_rfl) (by kernel_rfl) (fun _ _ _ h => h) HS ?_ ?_ ?_; rotate_left; rfl; focus (intro w hSw; (try dsimp only at hSw); go_simp; all_goals (with_reducible rfl)))
                  simp only [Act.put, List.setIfInBounds_toArray, List.set_cons_succ, List.set_cons_zero]
                  first
                    | (refine rg_skip 13 rfl (by kernel_rfl) (by kernel_rfl) (by kernel_rfl) (fun _ _ _ h => h) HS ?_ ?_; rfl)
                    | (refine rg_take 13 (v := ?_) rfl (by kernel_rfl) (by kernel_rfl) (by kernel_rfl) (fun _ _ _ h => h) HS ?_ ?_ ?_; rotate_left; rfl; focus (intro w hSw; (try dsimp only at hSw); go_simp; all_goals (with_reducible rfl)))
                  simp only [Act.put, List.setIfInBounds_toArray, List.set_cons_succ, List.set_cons_zero]
                  first
                    | (refine rg_skip 14 rfl (by kernel_rfl) (by kernel_rfl) (by kernel_rfl) (fun _ _ _ h => h) HS ?_ ?_; rfl)
                    | (refine rg_take 14 (v := ?_) rfl (by kernel_rfl) (by kernel_rfl) (by kernel_rfl) (fun _ _ _ h => h) HS ?_ ?_ ?_; rotate_left; rfl; focus (intro w hSw; (try dsimp only at hSw); go_simp; all_goals (with_reducible rfl)))
                  simp only [Act.put, List.setIfInBounds_toArray, List.set_cons_succ, List.set_cons_zero]
                  first
                    | (refine rg_skip 10 rfl (by kernel_rfl) (by kernel_rfl) (by kernel_rfl) (fun _ _ _ h => h) HS ?_ ?_; rfl)
                    | (refine rg_take 10 (v := ?_) rfl (by kernel_rfl) (by kernel_rfl) (by kernel_rfl) (fun _ _ _ h => h) HS ?_ ?_ ?_; rotate_left; rfl; focus (intro w hSw; (try dsimp only at hSw); go_simp; all_goals (with_reducible rfl)))
                  simp only [Act.put, List.setIfInBounds_toArray, List.set_cons_succ, List.set_cons_zero]
                  first
                    | (refine rg_skip 11 rfl (by kernel_rfl) (by kernel_rfl) (by kernel_rfl) (fun _ _ _ h => h) HS ?_ ?_; rfl)
                    | (refine rg_take 11 (v := ?_) rfl (by kernel_rfl) (by kernel_rfl) (by kernel_rfl) (fun _ _ _ h => h) HS ?_ ?_ ?_; rotate_left; rfl; focus (intro w hSw; (try dsimp only at hSw); go_simp; all_goals (with_reducible rfl)))
                  simp only [Act.put, List.setIfInBounds_toArray, List.set_cons_succ, List.set_cons_zero]
                  first
                    | (refine rg_skip 12 rfl (by kernel_rfl) (by kernel_rfl) (by kernel_rfl) (fun _ _ _ h => h) HS ?_ ?_; rfl)
                    | (refine rg_take 12 (v := ?_) rfl (by kernel_rfl) (by kernel_rfl) (by kernel_rfl) (fun _ _ _ h => h) HS ?_ ?_ ?_; rotate_left; rfl; focus (intro w hSw; (try dsimp only at hSw); go_simp; all_goals (with_reducible rfl)))
                  simp only [Act.put, List.setIfInBounds_toArray, List.set_cons_succ, List.set_cons_zero]
                  first
                    | (refine rg_skip 15 rfl (by kernel_rfl) (by kernel_rfl) (by kernel_rfl) (fun _ _ _ h => h) HS ?_ ?_; rfl)
                    | (refine rg_take 15 (v := ?_) rfl (by kernel_rfl) (by kernel_rfl) (by kernel_rfl) (fun _ _ _ h => h) HS ?_ ?_ ?_; rotate_left; rfl; focus (intro w hSw; (try dsimp only at hSw); go_simp; all_goals (with_reducible rfl)))
                  simp only [Act.put, List.setIfInBounds_toArray, List.set_cons_succ, List.set_cons_zero]
                  first
                    | (refine rg_skip 16 rfl (by kernel_rfl) (by kernel_rfl) (by kernel_rfl) (fun _ _ _ h => h) HS ?_ ?_; rfl)
                    | (refine rg_take 16 (v := ?_) rfl (by kernel_rfl) (by kernel_rfl) (by kernel_rfl) (fun _ _ _ h => h) HS ?_ ?_ ?_; rotate_left; rfl; focus (intro w hSw; (try dsimp only at hSw); go_simp; all_goals (with_reducible rfl)))
                  simp only [Act.put, List.setIfInBounds_toArray, List.set_cons_succ, List.set_cons_zero]
                  first
                    | (refine rg_skip 17 rfl (by kernel_rfl) (by kernel_rfl) (by kernel_rfl) (fun _ _ _ h => h) HS ?_ ?_; rfl)
                    | (refine rg_take 17 (v := ?_) rfl (by kernel_rfl) (by kernel_rfl) (by kernel_rfl) (fun _ _ _ h => h) HS ?_ ?_ ?_; rotate_left; rfl; focus (intro w hSw; (try dsimp only at hSw); go_simp; all_goals (with_reducible rfl)))
                  simp only [Act.put, List.setIfInBounds_toArray, List.set_cons_succ, List.set_cons_zero]
                  first
                    | (refine rg_skip 18 rfl (by kernel_rfl) (by kernel_rfl) (by kernel_rfl) (fun _ _ _ h => h) HS ?_ ?_; rfl)
                    | (refine rg_take 18 (v := ?_) rfl (by kernel_rfl) (by kernel_rfl) (by kernel_rfl) (fun _ _ _ h => h) HS ?_ ?_ ?_; rotate_left; rfl; focus (intro w hSw; (try dsimp only at hSw); go_simp; all_goals (with_reducible rfl)))
                  simp only [Act.put, List.setIfInBounds_toArray, List.set_cons_succ, List.set_cons_zero]
                  first
                    | (refine rg_skip 19 rfl (by kernel_rfl) (by kernel_rfl) (by kernel_rfl) (fun _ _ _ h => h) HS ?_ ?_; rfl)
                    | (refine rg_take 19 (v := ?_) rfl (by kernel_rfl) (by kernel_rfl) (by kernel_rfl) (fun _ _ _ h => h) HS ?_ ?_ ?_; rotate_left; rfl; focus (intro w hSw; (try dsimp only at hSw); go_simp; all_goals (with_reducible rfl)))
                  simp only [Act.put, List.setIfInBounds_toArray, List.set_cons_succ, List.set_cons_zero]
                  first
                    | (refine rg_skip 20 rfl (by kernel_rfl) (by kernel_rfl) (by kernel_rfl) (fun _ _ _ h => h) HS ?_ ?_; rfl)
                    | (refine rg_take 20 (v := ?_) rfl (by kernel_rfl) (by kernel_rfl) (by kernel_rfl) (fun _ _ _ h => h) HS ?_ ?_ ?_; rotate_left; rfl; focus (intro w hSw; (try dsimp only at hSw); go_simp; all_goals (with_reducible rfl)))
                  simp only [Act.put, List.setIfInBounds_toArray, List.set_cons_succ, List.set_cons_zero]
                  first
                    | (refine rg_skip 21 rfl (by kernel_rfl) (by kernel_rfl) (by kernel_rfl) (fun _ _ _ h => h) HS ?_ ?_; rfl)
                    | (refine rg_take 21 (v := ?_) rfl (by kernel_rfl) (by kernel_rfl) (by kernel_rfl) (fun _ _ _ h => h) HS ?_ ?_ ?_; rotate_left; rfl; focus (intro w hSw; (try dsimp only at hSw); go_simp; all_goals (with_reducible rfl)))
                  simp only [Act.put, List.setIfInBounds_toArray, List.set_cons_succ, List.set_cons_zero]
                  refine rg_load 22 rfl (by kernel_rfl) (by kernel_rfl) (by kernel_rfl) (secA s) (fun _ _ _ h => h) HS (by rfl) b1 0 rfl (fun _ h => h.1) _ hu rfl (info28s s) ?_
                  simp only [Act.put, List.setIfInBounds_toArray, List.set_cons_succ, List.set_cons_zero]
                  first
                    | (refine rg_skip 23 rfl (by kernel_rfl) (by kernel_rfl) (by kernel_rfl) (fun _ _ _ h => h) HS ?_ ?_; rfl)
                    | (refine rg_take 23 (v := ?_) rfl (by kernel_rfl) (by kernel_rfl) (by kernel_rfl) (fun _ _ _ h => h) HS ?_ ?_ ?_; rotate_left; rfl; focus (intro w hSw; (try dsimp only at hSw); go_simp; all_goals (with_reducible rfl)))
                  simp only [Act.put, List.setIfInBounds_toArray, List.set_cons_succ, List.set_cons_zero]
                  first
                    | (refine rg_skip 24 rfl (by kernel_rfl) (by kernel_rfl) (by kernel_rfl) (fun _ _ _ h => h) HS ?_ ?_; rfl)
                    | (refine rg_take 24 (v := ?_) rfl (by kernel_rfl) (by kernel_rfl) (by kernel_rfl) (fun _ _ _ h => h) HS ?_ ?_ ?_; rotate_left; rfl; focus (intro w hSw; (try dsimp only at hSw); go_simp; all_goals (with_reducible rfl)))
                  simp only [Act.put, List.setIfInBounds_toArray, List.set_cons_succ, List.set_cons_zero]
                  refine rg_one 25 rfl (by kernel_rfl) (by rfl) ?_
                  refine rg_call 24 _ _ rfl _ Try.func24 (by kernel_rfl) (by kernel_rfl) [.int .i64 (100 + (k : Int))] rfl (sector_calls _ (100 + (k : Int)) (kOk_small (by omega))) ?_
                  rintro e w7 ⟨rfl, hk7⟩
                  have HS2 : (fun w' => w'.rangeAt b1 0 (secA s).toList ∧ w'.cell? ⟨b0, k, none⟩ = some (.bool true)) w7 := ⟨Keeps.range hk7 HS.1, Keeps.cell1 hk7 HS.2⟩
                  refine ⟨_, rfl, HS2, ?_⟩
                  simp only [Act.put, List.setIfInBounds_toArray, List.set_cons_succ, List.set_cons_zero]
                  first
                    | (refine rg_skip 26 rfl (by kernel_rfl) (by kernel_rfl) (by kernel_rfl) (fun _ _ _ h => h) HS2 ?_ ?_; rfl)
                    | (refine rg_take 26 (v := ?_) rfl (by kernel_rfl) (by kernel_rfl) (by kernel_rfl) (fun _ _ _ h => h) HS2 ?_ ?_ ?_; rotate_left; rfl; focus (intro w hSw; (try dsimp only at hSw); go_simp; all_goals (with_reducible rfl)))
                  simp only [Act.put, List.setIfInBounds_toArray, List.set_cons_succ, List.set_cons_zero]
                  first
                    | (refine rg_skip 27 rfl (by kernel_rfl) (by kernel_rfl) (by kernel_rfl) (fun _ _ _ h => h) HS2 ?_ ?_; rfl)
                    | (refine rg_take 27 (v := ?_) rfl (by kernel_rfl) (by kernel_rfl) (by kernel_rfl) (fun _ _ _ h => h) HS2 ?_ ?_ ?_; rotate_left; rfl; focus (intro w hSw; (try dsimp only at hSw); go_simp; all_goals (with_reducible rfl)))
                  simp only [Act.put, List.setIfInBounds_toArray, List.set_cons_succ, List.set_cons_zero]
                  first
                    | (refine rg_skip 28 rfl (by kernel_rfl) (by kernel_rfl) (by kernel_rfl) (fun _ _ _ h => h) HS2 ?_ ?_; rfl)
                    | (refine rg_take 28 (v := ?_) rfl (by kernel_rfl) (by kernel_rfl) (by kernel_rfl) (fun _ _ _ h => h) HS2 ?_ ?_ ?_; rotate_left; rfl; focus (intro w hSw; (try dsimp only at hSw); go_simp; all_goals (with_reducible rfl)))
                  simp only [Act.put, List.setIfInBounds_toArray, List.set_cons_succ, List.set_cons_zero]
                  first
                    | (refine rg_skip 29 rfl (by kernel_rfl) (by kernel_rfl) (by kernel_rfl) (fun _ _ _ h => h) HS2 ?_ ?_; rfl)
                    | (refine rg_take 29 (v := ?_) rfl (by kernel_rfl) (by kernel_rfl) (by kernel_rfl) (fun _ _ _ h => h) HS2 ?_ ?_ ?_; rotate_left; rfl; focus (intro w hSw; (try dsimp only at hSw); go_simp; all_goals (with_reducible rfl)))
                  simp only [Act.put, List.setIfInBounds_toArray, List.set_cons_succ, List.set_cons_zero]
                  refine wpAnyH_done (by kernel_rfl) ?_ _
                  have hcx7 := HS2.2
                  have HREL7 := Lib.hid (HREL.out.drew.keep hk7)
                  clear hg1 hg2 HS HS2 hS6 hu hi hsl hone HB2 hcx hk7
                  go_wp2
                  go_roundw
                  case rel => exact ⟨k + 1, by omega, by go_num, HREL7.out⟩
                  case measure => simp [intOf]; omega
                · have hkn1 : decide (k < q) = true := by simpa using hkn
                  clear hkn
                  obtain ⟨ob, nb, hobn, hg2, hg3⟩ := two_bools s k hs
                  clear hs
                  have HSS := trivial
                  have HR := Lib.hid hrd
                  clear hrd hlt hsaid HD3
                  go_wp2_with fail
                  refine (read_calls _ h _ [97] k hrel.1 hn97).mono ?_
                  rintro e w4 ⟨he, hk4⟩
                  rw [HR.out] at he
                  dsimp only at he
                  subst he
                  have hrel4 := hrel.keep hk4
                  go_wp2_with (first
                    | ((with_reducible refine gd_alloc 28 ?_); refine wl_alloc_agg rfl _ rfl _ zero28 ?_; intro b1 w5 hb1 HB1 HK1; have hrel5 := hrel4.keep HK1)
                    | ((with_reducible refine gd_store 28 ?_); refine wl_store_agg rfl _ _ _ rfl b1 _ rfl _ _ HB1 (secA s) rfl (secA s) (store_secs _ _) (le_secs _ _) (info28s _) (secA_one _) ?_; intro w6 HB2 HK2)
                    | fail)
                  have hrel6 := hrel4.keptNew hrel5 hb1 HK2
                  clear HB1 hrel4 hrel5 hrel hk4 HK1 HK2 hb1
                  have hcx : w6.cell? ⟨b0, k, none⟩ = some (.bool true) := by rw [cell_of_block hrel6.2.1, bools_at (by have := hovl; omega), hov]
                  have HREL := Lib.hid hrel6
                  have hu := Try.underlying28
                  have hi := info28
                  have hsl : (secA s).toList.length = 64 := by rw [Array.length_toList, secA_size]
                  have hone : ∀ v ∈ (secA s).toList, v.oneCell' = true := fun v hv => (Array.all_eq_true_iff_forall_mem.1 (secA_one _)) v (Array.mem_toList_iff.1 hv)
                  have hS6 := range_of_block HB2
                  have hg1 : ∀ (x y : Operand) (W : World) (m : Int), (eqGuard BinOp.eql 28 x y (.agg (secA s)) (secV (sectorOf m))).run Try.prog W = .ok () W := fun x y W m => run_guard_sec W _ x y _ _
                  have hw100 : IntKind.i64.wrap (100 + (k : Int)) = 100 + k := i64_small _ (by omega) (by omega)
                  clear hrel6 hov HSS
                  have HS : (fun w' => w'.rangeAt b1 0 (secA s).toList ∧ w'.cell? ⟨b0, k, none⟩ = some (.bool true)) w6.drew := ⟨hS6, hcx⟩
                  refine wp_region_held_drew (S := (fun w' => w'.rangeAt b1 0 (secA s).toList ∧ w'.cell? ⟨b0, k, none⟩ = some (.bool true))) (by kernel_rfl) HS (fun _ => ?_)
                  first
                    | (refine rg_skip 0 rfl (by kernel_rfl) (by kernel_rfl) (by kernel_rfl) (fun _ _ _ h => h) HS ?_ ?_; rfl)
                    | (refine rg_take 0 (v := ?_) rfl (by kernel_rfl) (by kernel_rfl) (by kernel_rfl) (fun _ _ _ h => h) HS ?_ ?_ ?_; rotate_left; rfl; focus (intro w hSw; (try dsimp only at hSw); go_simp; all_goals (with_reducible rfl)))
                  simp only [Act.put, List.setIfInBounds_toArray, List.set_cons_succ, List.set_cons_zero]
                  first
                    | (refine rg_skip 1 rfl (by kernel_rfl) (by kernel_rfl) (by kernel_rfl) (fun _ _ _ h => h) HS ?_ ?_; rfl)
                    | (refine rg_take 1 (v := ?_) rfl (by kernel_rfl) (by kernel_rfl) (by kernel_rfl) (fun _ _ _ h => h) HS ?_ ?_ ?_; rotate_left; rfl; focus (intro w hSw; (try dsimp only at hSw); go_simp; all_goals (with_reducible rfl)))
                  simp only [Act.put, List.setIfInBounds_toArray, List.set_cons_succ, List.set_cons_zero]
                  first
                    | (refine rg_skip 2 rfl (by kernel_rfl) (by kernel_rfl) (by kernel_rfl) (fun _ _ _ h => h) HS ?_ ?_; rfl)
                    | (refine rg_take 2 (v := ?_) rfl (by kernel_rfl) (by kernel_rfl) (by kernel_rfl) (fun _ _ _ h => h) HS ?_ ?_ ?_; rotate_left; rfl; focus (intro w hSw; (try dsimp only at hSw); go_simp; all_goals (with_reducible rfl)))
                  simp only [Act.put, List.setIfInBounds_toArray, List.set_cons_succ, List.set_cons_zero]
                  first
                    | (refine rg_skip 3 rfl (by kernel_rfl) (by kernel_rfl) (by kernel_rfl) (fun _ _ _ h => h) HS ?_ ?_; rfl)
                    | (refine rg_take 3 (v := ?_) rfl (by kernel_rfl) (by kernel_rfl) (by kernel_rfl) (fun _ _ _ h => h) HS ?_ ?_ ?_; rotate_left; rfl; focus (intro w hSw; (try dsimp only at hSw); go_simp; all_goals (with_reducible rfl)))
                  simp only [Act.put, List.setIfInBounds_toArray, List.set_cons_succ, List.set_cons_zero]
                  first
                    | (refine rg_skip 4 rfl (by kernel_rfl) (by kernel_rfl) (by kernel_rfl) (fun _ _ _ h => h) HS ?_ ?_; rfl)
                    | (refine rg_take 4 (v := ?_) rfl (by kernel_rfl) (by kernel_rfl) (by kernel_rfl) (fun _ _ _ h => h) HS ?_ ?_ ?_; rotate_left; rfl; focus (intro w hSw; (try dsimp only at hSw); go_simp; all_goals (with_reducible rfl)))
                  simp only [Act.put, List.setIfInBounds_toArray, List.set_cons_succ, List.set_cons_zero]
                  first
                    | (refine rg_skip 5 rfl (by kernel_rfl) (by kernel_rfl) (by kernel_rfl) (fun _ _ _ h => h) HS ?_ ?_; rfl)
                    | (refine rg_take 5 (v := ?_) rfl (by kernel_rfl) (by kernel_rfl) (by kernel_rfl) (fun _ _ _ h => h) HS ?_ ?_ ?_; rotate_left; rfl; focus (intro w hSw; (try dsimp only at hSw); go_simp; all_goals (with_reducible rfl)))
                  simp only [Act.put, List.setIfInBounds_toArray, List.set_cons_succ, List.set_cons_zero]
                  first
                    | (refine rg_skip 6 rfl (by kernel_rfl) (by kernel_rfl) (by kernel_rfl) (fun _ _ _ h => h) HS ?_ ?_; rfl)
                    | (refine rg_take 6 (v := ?_) rfl (by kernel_rfl) (by kernel_rfl) (by kernel_rfl) (fun _ _ _ h => h) HS ?_ ?_ ?_; rotate_left; rfl; focus (intro w hSw; (try dsimp only at hSw); go_simp; all_goals (with_reducible rfl)))
                  simp only [Act.put, List.setIfInBounds_toArray, List.set_cons_succ, List.set_cons_zero]
                  first
                    | (refine rg_skip 7 rfl (by kernel_rfl) (by kernel_rfl) (by kernel_rfl) (fun _ _ _ h => h) HS ?_ ?_; rfl)
                    | (refine rg_take 7 (v := ?_) rfl (by kernel_rfl) (by kernel_rfl) (by kernel_rfl) (fun _ _ _ h => h) HS ?_ ?_ ?_; rotate_left; rfl; focus (intro w hSw; (try dsimp only at hSw); go_simp; all_goals (with_reducible rfl)))
                  simp only [Act.put, List.setIfInBounds_toArray, List.set_cons_succ, List.set_cons_zero]
                  refine rg_load 8 rfl (by kernel_rfl) (by kernel_rfl) (by kernel_rfl) (secA s) (fun _ _ _ h => h) HS (by rfl) b1 0 rfl (fun _ h => h.1) _ hu rfl (info28s s) ?_
                  simp only [Act.put, List.setIfInBounds_toArray, List.set_cons_succ, List.set_cons_zero]
                  first
                    | (refine rg_skip 9 rfl (by kernel_rfl) (by kernel_rfl) (by kernel_rfl) (fun _ _ _ h => h) HS ?_ ?_; rfl)
                    | (refine rg_take 9 (v := ?_) rfl (by kernel_rfl) (by kernel_rfl) (by kernel_rfl) (fun _ _ _ h => h) HS ?_ ?_ ?_; rotate_left; rfl; focus (intro w hSw; (try dsimp only at hSw); go_simp; all_goals (with_reducible rfl)))
                  simp only [Act.put, List.setIfInBounds_toArray, List.set_cons_succ, List.set_cons_zero]
                  first
                    | (refine rg_skip 13 rfl (by kernel_rfl) (by kernel_rfl) (by kernel_rfl) (fun _ _ _ h => h) HS ?_ ?_; rfl)
                    | (refine rg_take 13 (v := ?_) rfl (by kernel_rfl) (by kernel_rfl) (by kernel_rfl) (fun _ _ _ h => h) HS ?_ ?_ ?_; rotate_left; rfl; focus (intro w hSw; (try dsimp only at hSw); go_simp; all_goals (with_reducible rfl)))
                  simp only [Act.put, List.setIfInBounds_toArray, List.set_cons_succ, List.set_cons_zero]
                  first
                    | (refine rg_skip 14 rfl (by kernel_rfl) (by kernel_rfl) (by kernel_rfl) (fun _ _ _ h => h) HS ?_ ?_; rfl)
                    | (refine rg_take 14 (v := ?_) rfl (by kernel_rfl) (by kernel_rfl) (by kernel_rfl) (fun _ _ _ h => h) HS ?_ ?_ ?_; rotate_left; rfl; focus (intro w hSw; (try dsimp only at hSw); go_simp; all_goals (with_reducible rfl)))
                  simp only [Act.put, List.setIfInBounds_toArray, List.set_cons_succ, List.set_cons_zero]
                  refine rg_one 10 rfl (by kernel_rfl) (by rfl) ?_
                  refine rg_call 24 _ _ rfl _ Try.func24 (by kernel_rfl) (by kernel_rfl) [.int .i64 ((k : Int))] rfl (sector_calls _ ((k : Int)) (kOk_small (by omega))) ?_
                  rintro e w7 ⟨rfl, hk7⟩
                  have HS1 : (fun w' => w'.rangeAt b1 0 (secA s).toList ∧ w'.cell? ⟨b0, k, none⟩ = some (.bool true)) w7 := ⟨Keeps.range hk7 HS.1, Keeps.cell1 hk7 HS.2⟩
                  refine ⟨_, rfl, HS1, ?_⟩
                  simp only [Act.put, List.setIfInBounds_toArray, List.set_cons_succ, List.set_cons_zero]
                  first
                    | (refine rg_skip 11 rfl (by kernel_rfl) (by kernel_rfl) (by kernel_rfl) (fun _ _ _ h => h) HS1 ?_ ?_; rfl)
                    | (refine rg_take 11 (v := ?_) rfl (by kernel_rfl) (by kernel_rfl) (by kernel_rfl) (fun _ _ _ h => h) HS1 ?_ ?_ ?_; rotate_left; rfl; focus (intro w hSw; (try dsimp only at hSw); go_simp; all_goals (with_reducible rfl)))
                  simp only [Act.put, List.setIfInBounds_toArray, List.set_cons_succ, List.set_cons_zero]
                  first
                    | (refine rg_skip 12 rfl (by kernel_rfl) (by kernel_rfl) (by kernel_rfl) (fun _ _ _ h => h) HS1 ?_ ?_; rfl)
                    | (refine rg_take 12 (v := ?_) rfl (by kernel_rfl) (by kernel_rfl) (by kernel_rfl) (fun _ _ _ h => h) HS1 ?_ ?_ ?_; rotate_left; rfl; focus (intro w hSw; (try dsimp only at hSw); go_simp; all_goals (with_reducible rfl)))
                  simp only [Act.put, List.setIfInBounds_toArray, List.set_cons_succ, List.set_cons_zero]
                  first
                    | (refine rg_skip 15 rfl (by kernel_rfl) (by kernel_rfl) (by kernel_rfl) (fun _ _ _ h => h) HS1 ?_ ?_; rfl)
                    | (refine rg_take 15 (v := ?_) rfl (by kernel_rfl) (by kernel_rfl) (by kernel_rfl) (fun _ _ _ h => h) HS1 ?_ ?_ ?_; rotate_left; rfl; focus (intro w hSw; (try dsimp only at hSw); go_simp; all_goals (with_reducible rfl)))
                  simp only [Act.put, List.setIfInBounds_toArray, List.set_cons_succ, List.set_cons_zero]
                  first
                    | (refine rg_skip 16 rfl (by kernel_rfl) (by kernel_rfl) (by kernel_rfl) (fun _ _ _ h => h) HS1 ?_ ?_; rfl)
                    | (refine rg_take 16 (v := ?_) rfl (by kernel_rfl) (by kernel_rfl) (by kernel_rfl) (fun _ _ _ h => h) HS1 ?_ ?_ ?_; rotate_left; rfl; focus (intro w hSw; (try dsimp only at hSw); go_simp; all_goals (with_reducible rfl)))
                  simp only [Act.put, List.setIfInBounds_toArray, List.set_cons_succ, List.set_cons_zero]
                  first
                    | (refine rg_skip 17 rfl (by kernel_rfl) (by kernel_rfl) (by kernel_rfl) (fun _ _ _ h => h) HS1 ?_ ?_; rfl)
                    | (refine rg_take 17 (v := ?_) rfl (by kernel_rfl) (by kernel_rfl) (by kernel_rfl) (fun _ _ _ h => h) HS1 ?_ ?_ ?_; rotate_left; rfl; focus (intro w hSw; (try dsimp only at hSw); go_simp; all_goals (with_reducible rfl)))
                  simp only [Act.put, List.setIfInBounds_toArray, List.set_cons_succ, List.set_cons_zero]
                  first
                    | (refine rg_skip 18 rfl (by kernel_rfl) (by kernel_rfl) (by kernel_rfl) (fun _ _ _ h => h) HS1 ?_ ?_; rfl)
                    | (refine rg_take 18 (v := ?_) rfl (by kernel_rfl) (by kernel_rfl) (by kernel_rfl) (fun _ _ _ h => h) HS1 ?_ ?_ ?_; rotate_left; rfl; focus (intro w hSw; (try dsimp only at hSw); go_simp; all_goals (with_reducible rfl)))
                  simp only [Act.put, List.setIfInBounds_toArray, List.set_cons_succ, List.set_cons_zero]
                  first
                    | (refine rg_skip 19 rfl (by kernel_rfl) (by kernel_rfl) (by kernel_rfl) (fun _ _ _ h => h) HS1 ?_ ?_; rfl)
                    | (refine rg_take 19 (v := ?_) rfl (by kernel_rfl) (by kernel_rfl) (by kernel_rfl) (fun _ _ _ h => h) HS1 ?_ ?_ ?_; rotate_left; rfl; focus (intro w hSw; (try dsimp only at hSw); go_simp; all_goals (with_reducible rfl)))
                  simp only [Act.put, List.setIfInBounds_toArray, List.set_cons_succ, List.set_cons_zero]
                  first
                    | (refine rg_skip 20 rfl (by kernel_rfl) (by kernel_rfl) (by kernel_rfl) (fun _ _ _ h => h) HS1 ?_ ?_; rfl)
                    | (refine rg_take 20 (v := ?_) rfl (by kernel_rfl) (by kernel_rfl) (by kernel_rfl) (fun _ _ _ h => h) HS1 ?_ ?_ ?_; rotate_left; rfl; focus (intro w hSw; (try dsimp only at hSw); go_simp; all_goals (with_reducible rfl)))
                  simp only [Act.put, List.setIfInBounds_toArray, List.set_cons_succ, List.set_cons_zero]
                  first
                    | (refine rg_skip 21 rfl (by kernel_rfl) (by kernel_rfl) (by kernel_rfl) (fun _ _ _ h => h) HS1 ?_ ?_; rfl)
                    | (refine rg_take 21 (v := ?_) rfl (by kernel_rfl) (by kernel_rfl) (by kernel_rfl) (fun _ _ _ h => h) HS1 ?_ ?_ ?_; rotate_left; rfl; focus (intro w hSw; (try dsimp only at hSw); go_simp; all_goals (with_reducible rfl)))
                  simp only [Act.put, List.setIfInBounds_toArray, List.set_cons_succ, List.set_cons_zero]
                  refine rg_load 22 rfl (by kernel_rfl) (by kernel_rfl) (by kernel_rfl) (secA s) (fun _ _ _ h => h) HS1 (by rfl) b1 0 rfl (fun _ h => h.1) _ hu rfl (info28s s) ?_
                  simp only [Act.put, List.setIfInBounds_toArray, List.set_cons_succ, List.set_cons_zero]
                  first
                    | (refine rg_skip 23 rfl (by kernel_rfl) (by kernel_rfl) (by kernel_rfl) (fun _ _ _ h => h) HS1 ?_ ?_; rfl)
                    | (refine rg_take 23 (v := ?_) rfl (by kernel_rfl) (by kernel_rfl) (by kernel_rfl) (fun _ _ _ h => h) HS1 ?_ ?_ ?_; rotate_left; rfl; focus (intro w hSw; (try dsimp only at hSw); go_simp; all_goals (with_reducible rfl)))
                  simp only [Act.put, List.setIfInBounds_toArray, List.set_cons_succ, List.set_cons_zero]
                  first
                    | (refine rg_skip 24 rfl (by kernel_rfl) (by kernel_rfl) (by kernel_rfl) (fun _ _ _ h => h) HS1 ?_ ?_; rfl)
                    | (refine rg_take 24 (v := ?_) rfl (by kernel_rfl) (by kernel_rfl) (by kernel_rfl) (fun _ _ _ h => h) HS1 ?_ ?_ ?_; rotate_left; rfl; focus (intro w hSw; (try dsimp only at hSw); go_simp; all_goals (with_reducible rfl)))
                  simp only [Act.put, List.setIfInBounds_toArray, List.set_cons_succ, List.set_cons_zero]
                  refine rg_one 25 rfl (by kernel_rfl) (by rfl) ?_
                  refine rg_call 24 _ _ rfl _ Try.func24 (by kernel_rfl) (by kernel_rfl) [.int .i64 (100 + (k : Int))] rfl (sector_calls _ (100 + (k : Int)) (kOk_small (by omega))) ?_
                  rintro e w8 ⟨rfl, hk8⟩
                  have HS2 : (fun w' => w'.rangeAt b1 0 (secA s).toList ∧ w'.cell? ⟨b0, k, none⟩ = some (.bool true)) w8 := ⟨Keeps.range hk8 HS1.1, Keeps.cell1 hk8 HS1.2⟩
                  refine ⟨_, rfl, HS2, ?_⟩
                  simp only [Act.put, List.setIfInBounds_toArray, List.set_cons_succ, List.set_cons_zero]
                  first
                    | (refine rg_skip 26 rfl (by kernel_rfl) (by kernel_rfl) (by kernel_rfl) (fun _ _ _ h => h) HS2 ?_ ?_; rfl)
                    | (refine rg_take 26 (v := ?_) rfl (by kernel_rfl) (by kernel_rfl) (by kernel_rfl) (fun _ _ _ h => h) HS2 ?_ ?_ ?_; rotate_left; rfl; focus (intro w hSw; (try dsimp only at hSw); go_simp; all_goals (with_reducible rfl)))
                  simp only [Act.put, List.setIfInBounds_toArray, List.set_cons_succ, List.set_cons_zero]
                  first
                    | (refine rg_skip 27 rfl (by kernel_rfl) (by kernel_rfl) (by kernel_rfl) (fun _ _ _ h => h) HS2 ?_ ?_; rfl)
                    | (refine rg_take 27 (v := ?_) rfl (by kernel_rfl) (by kernel_rfl) (by kernel_rfl) (fun _ _ _ h => h) HS2 ?_ ?_ ?_; rotate_left; rfl; focus (intro w hSw; (try dsimp only at hSw); go_simp; all_goals (with_reducible rfl)))
                  simp only [Act.put, List.setIfInBounds_toArray, List.set_cons_succ, List.set_cons_zero]
                  first
                    | (refine rg_skip 28 rfl (by kernel_rfl) (by kernel_rfl) (by kernel_rfl) (fun _ _ _ h => h) HS2 ?_ ?_; rfl)
                    | (refine rg_take 28 (v := ?_) rfl (by kernel_rfl) (by kernel_rfl) (by kernel_rfl) (fun _ _ _ h => h) HS2 ?_ ?_ ?_; rotate_left; rfl; focus (intro w hSw; (try dsimp only at hSw); go_simp; all_goals (with_reducible rfl)))
                  simp only [Act.put, List.setIfInBounds_toArray, List.set_cons_succ, List.set_cons_zero]
                  first
                    | (refine rg_skip 29 rfl (by kernel_rfl) (by kernel_rfl) (by kernel_rfl) (fun _ _ _ h => h) HS2 ?_ ?_; rfl)
                    | (refine rg_take 29 (v := ?_) rfl (by kernel_rfl) (by kernel_rfl) (by kernel_rfl) (fun _ _ _ h => h) HS2 ?_ ?_ ?_; rotate_left; rfl; focus (intro w hSw; (try dsimp only at hSw); go_simp; all_goals (with_reducible rfl)))
                  simp only [Act.put, List.setIfInBounds_toArray, List.set_cons_succ, List.set_cons_zero]
                  refine wpAnyH_done (by kernel_rfl) ?_ _
                  have hcx7 := HS2.2
                  have HREL7 := Lib.hid ((HREL.out.drew.keep hk7).keep hk8)
                  clear hg1 hg2 hg3 HS HS1 HS2 hS6 hu hi hsl hone HB2 hcx hk7 hk8
                  cases ob <;> cases nb
                  · cases hobn
                  all_goals
                    go_wp2
                    go_roundw
                    case rel => exact ⟨k + 1, by omega, by go_num, HREL7.out⟩
                    case measure => simp [intOf]; omega
              · have hge : decide (k < z) = false := by simpa using hlt
                obtain rfl : k = z := by omega
                clear hlt
                go_wp2_with fail
                refine (len_calls _ h _ [97] hrel.1 hn97).mono ?_
                rintro e w' ⟨he, rfl⟩
                rw [HL.out] at he
                subst he
                go_wp2_with fail
                refine (awake7_calls _).mono ?_
                rintro e w11 ⟨rfl, hk11⟩
                go_wp2
                go_ret
                exact ⟨rfl, hrel.2.2.trans hk11⟩
end Go.Proofs.Ytadjcdfmppcpnaa
