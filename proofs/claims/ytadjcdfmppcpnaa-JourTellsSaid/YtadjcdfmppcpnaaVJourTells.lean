import Derived.Test.YtadjcdfmppcpnaaYW8a
import Derived.Test.YtadjcdfmppcpnaaQQ
import Derived.Test.YtadjcdfmppcpnaaYArgR
import Derived.Deep.CutBlock
import Derived.Deep.DeepCutAuto
/-! Layer 8: the walk of JourTells. -/
namespace Go.Proofs.Ytadjcdfmppcpnaa
open Go Go.RowKit Go.Maps Wb

theorem wrap_u64' (x : Int) : IntKind.u64.wrap x = x % 18446744073709551616 := by
  unfold IntKind.wrap
  simp [IntKind.signed, IntKind.bits]
theorem mask1' (x : Int) : bits BinOp.and IntKind.i64 x 1 = x % 2 := and_mask x 1 (by omega)
def TellRel (w : World) (h : DH) (q n fl : Nat) (wr : World) : Prop := ∃ L B m, m ≤ 8 * q ∧ TellJ L n B fl m ∧ LawD w wr h (devJ 20000 (-1) L)
def TellInR (w : World) (h : DH) (jb q k n fl : Nat) (wr : World) : Prop := ∃ L J B m, m ≤ 8 * q + k ∧ TellIn L J n B fl m k ∧ Law8 w wr h jb (devJ 20000 (-1) L) J
def TellApp (w : World) (h : DH) (jb : Nat) (L : FJ) (J : Jr) (n : Nat) (B : List Bt) (kd : Nat) (b : List UInt8) (bt : Nat) (wx : World) : Prop := ∃ L0 f l nx L' bv4, SpotJ L J L0 f l nx ∧ DoneJ 20000 (-1) L J n B kd b L0 f l nx (-1) L' ∧
  wx.heap[bt]? = some (.cells (btA (n + 1) kd bv4 f l.length) 94 (0, 0)) ∧ Law8 w wx h jb (devJ 20000 (-1) L') ⟨n + 1, f, nx, false⟩
def TellOut (w : World) (h : DH) (n : Nat) (wx : World) : Prop := ∃ L B, okJ L ∧ Tells (viewJ L) n B ∧ LawD w wx h (devJ 20000 (-1) L)

set_option maxRecDepth 100000 in
set_option maxHeartbeats 16000000 in
theorem jourTells_walk (w : World) (v : Value) (xs : List (List Int)) (hv : isRows w (fun g => g < w.heap.size) v xs) : Calls Try.prog 18 #[v] w (Quiet w (.bool true)) := by
  obtain ⟨a, cap, rfl, hl1, hl2, hx4⟩ := hv
  have hli : (xs.length : Int) ≤ 140737488351232 := by omega
  have HC : Hid (∀ (q : Nat), q < xs.length → ∃ (g o : Nat) (a2 : Option Addr) (row : List Int) (cap2 : Nat), a = some ⟨g, o, none⟩ ∧ g < w.heap.size ∧ w.cell? ⟨g, o + q, none⟩ = some (.slice a2 row.length cap2) ∧ row.length ≤ cap2 ∧ cap2 ≤ 9223372036854775807 ∧
      ∀ k, k < row.length → ∃ g2 o2 x, kOk x ∧ a2 = some ⟨g2, o2, none⟩ ∧ g2 < w.heap.size ∧ w.cell? ⟨g2, o2 + k, none⟩ = some (.int .i64 x)) := by
    intro q hq
    rcases hx4 with rfl | ⟨g, o, rfl, _, hg, hc⟩
    · simp at hq
    · obtain ⟨u, hu, a2, cap2, rfl, h1, h2, h3, h4⟩ := hc q _ (List.getElem?_eq_getElem hq)
      refine ⟨g, o, a2, xs[q], cap2, rfl, hg, hu, h1, h2, fun k hk => ?_⟩
      rcases h4 with h4 | ⟨g2, o2, rfl, _, hg2, hc2⟩
      · rw [h4] at hk; simp at hk
      · exact ⟨g2, o2, xs[q][k], h3 _ (List.getElem_mem _), rfl, hg2, hc2 k _ (List.getElem?_eq_getElem _)⟩
  clear hx4
  go_enter Try.func18, Try.ntmps18
  go_wp2_with fail
  refine new_any _ _ fun h w1 hd1 hk1 hS => ?_
  have hL1 : LawD w w1 h (devJ 20000 (-1) []) := LawD.start (by rw [← new_dev (by decide)]; exact hd1) hk1 hS
  have HREL0 : Hid (TellRel w h 0 0 0 w1) := Lib.hid ⟨[], [], 0, Nat.le_refl _, tell_new, hL1⟩
  clear hd1 hk1 hS hL1
  go_upto_block 0 with fail
  go_cut [4, 5] (fun v4 v5 wx => ∃ n fl : Nat, n ≤ 48 ∧ v4 = .int .u64 n ∧ v5 = .int .i64 fl ∧ Hid (TellOut w h n wx))
  case first =>
    as_aux_lemma =>
    go_wp2_with fail
    go_loopw [4, 5, 6] (fun v4 v5 i wr => ∃ q n fl : Nat, q ≤ 6 ∧ n ≤ 8 * q ∧ fl ≤ 8 * q ∧ i = .int .i64 q ∧ v4 = .int .u64 n ∧ v5 = .int .i64 fl ∧ Hid (TellRel w h q n fl wr)) (fun _ _ i _ => 6 - (intOf i).toNat)
    case atStart => exact ⟨0, 0, 0, Nat.zero_le _, Nat.le_refl _, Nat.le_refl _, rfl, rfl, rfl, HREL0⟩
    case round =>
      clear HREL0
      obtain ⟨q, n, fl, hq, hnq, hfq, rfl, rfl, rfl, hrel⟩ := hrel
      have hq0 : (0 : Int) ≤ q := by omega
      have hqi : (q : Int) ≤ 6 := by omega
      have hni : (n : Int) ≤ 48 := by omega
      have hn0 : (0 : Int) ≤ n := by omega
      have hfi : (fl : Int) ≤ 48 := by omega
      have hf0 : (0 : Int) ≤ fl := by omega
      by_cases hlt : q < xs.length ∧ q < 6
      · have hlt1 : decide (q < xs.length) = true := by simpa using hlt.1
        have hql : (q : Int) < xs.length := by omega
        have hq2 : (q : Int) < 6 := by omega
        have hlt2 : decide ((q : Int) < 6) = true := by simp; omega
        obtain ⟨g, o, a2, row, cap2, rfl, hg, hcw, hrl1, hrl2, hrow⟩ := HC.out q hlt.1
        obtain ⟨L, B, m, hm, htj, hLD⟩ := hrel.out
        have HQ := Lib.hid hlt.2
        have HTJ := Lib.hid htj
        have HM := Lib.hid hm
        have HNQ := Lib.hid (And.intro hnq hfq)
        have HROW := Lib.hid hrow
        have HCW := Lib.hid hcw
        have HG := Lib.hid hg
        obtain ⟨len, hlen⟩ : ∃ len, len = row.length := ⟨_, rfl⟩
        rw [← hlen] at HROW HCW hrl1
        have hleni : (len : Int) ≤ 9223372036854775807 := by omega
        have hopen := l8_open hLD htj.ok htj.tells (by have := htj.ok.len; omega)
        have HOPEN := Lib.hid hopen
        clear hlt hrel hm htj hnq hfq hrow hcw hg hlen hopen hLD
        go_wp2_with fail
        refine HOPEN.out.mono ?_
        rintro e w2 ⟨L2, J, jb, lv, hv, hse, hus, hlj, hf00, hnx, rfl, hL2, hbt, hjb, hk2⟩
        have HIN0 : Hid (TellInR w h jb q 0 n fl w2) := Lib.hid ⟨L2, J, B, m, HM.out, HTJ.out.opened hv hus hlj hf00 hnx, hL2⟩
        have HJS : Hid (isJr w2 jb h J ∧ J.seq = n ∧ J.file = 0) := Lib.hid ⟨hL2.jr, hlj.seq, hf00⟩
        obtain ⟨ad, cp, rfl⟩ := hbt.shape
        have hBl : B.length = n := HTJ.out.tells.len
        rw [hBl]
        clear hv hse hus hlj hf00 hnx hL2 hbt hjb hk2 HOPEN hBl HTJ HM
        go_wp2_with (first
          | (go_at_call 67; refine (jseq_calls _ h jb _ HJS.out.1).mono ?_; rintro e w' ⟨he, rfl⟩; rw [HJS.out.2.1] at he; subst he)
          | (go_at_call 68; refine (jfile_calls _ h jb _ HJS.out.1).mono ?_; rintro e w' ⟨he, rfl⟩; rw [HJS.out.2.2] at he; subst he)
          | fail)
        clear HJS
        go_loopw [4, 5, 9] (fun v4 v5 i wr => ∃ k n fl : Nat, k ≤ 8 ∧ n ≤ 8 * q + k ∧ fl ≤ 8 * q + k ∧ i = .int .i64 k ∧ v4 = .int .u64 n ∧ v5 = .int .i64 fl ∧ Hid (TellInR w h jb q k n fl wr)) (fun _ _ i _ => 8 - (intOf i).toNat)
        case atStart => exact ⟨0, n, fl, Nat.zero_le _, HNQ.out.1, HNQ.out.2, rfl, rfl, rfl, HIN0⟩
        case round =>
          clear HIN0 HNQ hni hn0 hfi hf0
          obtain ⟨k, n, fl, hk, hnk, hfk, rfl, rfl, rfl, hrel⟩ := hrel
          have hk0 : (0 : Int) ≤ k := by omega
          have hki : (k : Int) ≤ 8 := by omega
          have hni : (n : Int) ≤ 56 := by omega
          have hn0 : (0 : Int) ≤ n := by omega
          have hfi : (fl : Int) ≤ 56 := by omega
          have hf0 : (0 : Int) ≤ fl := by omega
          obtain ⟨L, J, B, m, hm, hin, hLx⟩ := hrel.out
          have hc1 : wr.cell? ⟨g, o + q, none⟩ = some (.slice a2 len cap2) := (hLx.law.keeps.cell (p := ⟨g, o + q, none⟩) HG.out id).trans HCW.out
          by_cases hlt : k < len ∧ k < 8
          · as_aux_lemma =>
            have hlt1 : decide (k < len) = true := by simpa using hlt.1
            have hkl : (k : Int) < len := by omega
            have hk8 : (k : Int) < 8 := by omega
            have hlt2 : decide ((k : Int) < 8) = true := by simp; omega
            obtain ⟨g2, o2, x, hx, rfl, hg2, hcx⟩ := HROW.out k hlt.1
            have HSF : Hid (∀ w' : World, Keeps w w' (fun _ => False) → w'.cell? ⟨g, o + q, none⟩ = some (.slice (some ⟨g2, o2, none⟩) len cap2) ∧ w'.cell? ⟨g2, o2 + k, none⟩ = some (.int .i64 x)) :=
              Lib.hid fun w' hkp => ⟨(hkp.cell (p := ⟨g, o + q, none⟩) HG.out id).trans HCW.out, (hkp.cell (p := ⟨g2, o2 + k, none⟩) hg2 id).trans hcx⟩
            have HS := HSF.out _ hLx.law.keeps.drew
            obtain ⟨b0, hb0, hb09⟩ : ∃ b : Nat, x / 4096 % 2 = b ∧ b < 2 := ⟨(x / 4096 % 2).toNat, by omega, by omega⟩
            obtain ⟨nn, hnn, hnn9⟩ : ∃ b : Nat, x % 1024 = b ∧ b < 1024 := ⟨(x % 1024).toNat, by omega, by omega⟩
            have hm1 : bits BinOp.and IntKind.i64 (x / 4096) 1 = (b0 : Int) := by rw [mask1', hb0]
            have hm2 : bits BinOp.and IntKind.i64 x 1023 = (nn : Int) := by rw [mask1023, hnn]
            obtain ⟨kd, hkd, hkd1, hkd2⟩ : ∃ kd : Nat, kd = 1 + b0 ∧ 1 ≤ kd ∧ kd ≤ 2 := ⟨_, rfl, by omega, by omega⟩
            have hwk : IntKind.i64.wrap (kd : Int) = (kd : Int) := i64_smallK _ (by omega) (by omega)
            have hwk1 : (1 + (b0 : Int)) = (kd : Int) := by omega
            have hnni : (nn : Int) < 1024 := by omega
            have hnn0 : (0 : Int) ≤ nn := by omega
            have HLx := hLx.drew
            have HIN := Lib.hid hin
            have HM := Lib.hid hm
            have HLT := Lib.hid hlt.2
            have HNK := Lib.hid (And.intro hnk hfk)
            have hm56 : m ≤ 56 := by omega
            clear hx hcx hg2 hin hm hlt hrel hb0 hnn hnk hfk hkd
            go_upto_region 14 with fail
            clear hLx hc1
            go_cut [10, 11] (fun v10 v11 wx => ∃ bt, v10 = .pointer (some ⟨bt, 0, none⟩) ∧ v11 = .int .i64 0 ∧ Hid (TellApp w h jb L J n B kd (octP nn k) bt wx))
            case first =>
              as_aux_lemma =>
              refine wp_region_held_drew (S := (fun (w' : World) => w'.cell? ⟨g, o + q, none⟩ = some (.slice (some ⟨g2, o2, none⟩) len cap2) ∧ w'.cell? ⟨g2, o2 + k, none⟩ = some (.int .i64 x))) (by kernel_rfl) HS (fun _ => ?_)
              first
                | (refine rg_skip 0 rfl (by kernel_rfl) (by kernel_rfl) (by kernel_rfl) (fun _ _ _ h => h) HS ?_ ?_; rfl)
                | (refine rg_take 0 (v := ?_) rfl (by kernel_rfl) (by kernel_rfl) (by kernel_rfl) (fun _ _ _ h => h) HS ?_ ?_ ?_; rotate_left; rfl; focus (intro w hSw; (try dsimp only at hSw); go_simp; all_goals (with_reducible rfl)))
              simp only [Act.put, List.setIfInBounds_toArray, List.set_cons_succ, List.set_cons_zero]
              first
                | (refine rg_skip 1 rfl (by kernel_rfl) (by kernel_rfl) (by kernel_rfl) (fun _ _ _ h => h) HS ?_ ?_; rfl)
                | (refine rg_take 1 (v := ?_) rfl (by kernel_rfl) (by kernel_rfl) (by kernel_rfl) (fun _ _ _ h => h) HS ?_ ?_ ?_; rotate_left; rfl; focus (intro w hSw; (try dsimp only at hSw); go_simp; all_goals (with_reducible rfl)))
              simp only [Act.put, List.setIfInBounds_toArray, List.set_cons_succ, List.set_cons_zero]
              first
                | (refine rg_skip 2 rfl (by kernel_rfl) (by kernel_rfl) (by kernel_rfl) (fun _ _ _ h => h) HS ?_ ?_; rfl)
                | (refine rg_take 2 (v := ?_) rfl (by kernel_rfl) (by kernel_rfl) (by kernel_rfl) (fun _ _ _ h => h) HS ?_ ?_ ?_; rotate_left; rfl; focus (intro w hSw; (try dsimp only at hSw); go_simp; all_goals (with_reducible rfl)))
              simp only [Act.put, List.setIfInBounds_toArray, List.set_cons_succ, List.set_cons_zero]
              first
                | (refine rg_skip 3 rfl (by kernel_rfl) (by kernel_rfl) (by kernel_rfl) (fun _ _ _ h => h) HS ?_ ?_; rfl)
                | (refine rg_take 3 (v := ?_) rfl (by kernel_rfl) (by kernel_rfl) (by kernel_rfl) (fun _ _ _ h => h) HS ?_ ?_ ?_; rotate_left; rfl; focus (intro w hSw; (try dsimp only at hSw); go_simp; all_goals (with_reducible rfl)))
              simp only [Act.put, List.setIfInBounds_toArray, List.set_cons_succ, List.set_cons_zero]
              first
                | (refine rg_skip 4 rfl (by kernel_rfl) (by kernel_rfl) (by kernel_rfl) (fun _ _ _ h => h) HS ?_ ?_; rfl)
                | (refine rg_take 4 (v := ?_) rfl (by kernel_rfl) (by kernel_rfl) (by kernel_rfl) (fun _ _ _ h => h) HS ?_ ?_ ?_; rotate_left; rfl; focus (intro w hSw; (try dsimp only at hSw); go_simp; all_goals (with_reducible rfl)))
              simp only [Act.put, List.setIfInBounds_toArray, List.set_cons_succ, List.set_cons_zero]
              first
                | (refine rg_skip 5 rfl (by kernel_rfl) (by kernel_rfl) (by kernel_rfl) (fun _ _ _ h => h) HS ?_ ?_; rfl)
                | (refine rg_take 5 (v := ?_) rfl (by kernel_rfl) (by kernel_rfl) (by kernel_rfl) (fun _ _ _ h => h) HS ?_ ?_ ?_; rotate_left; rfl; focus (intro w hSw; (try dsimp only at hSw); go_simp; all_goals (with_reducible rfl)))
              simp only [Act.put, List.setIfInBounds_toArray, List.set_cons_succ, List.set_cons_zero]
              first
                | (refine rg_skip 6 rfl (by kernel_rfl) (by kernel_rfl) (by kernel_rfl) (fun _ _ _ h => h) HS ?_ ?_; rfl)
                | (refine rg_take 6 (v := ?_) rfl (by kernel_rfl) (by kernel_rfl) (by kernel_rfl) (fun _ _ _ h => h) HS ?_ ?_ ?_; rotate_left; rfl; focus (intro w hSw; (try dsimp only at hSw); go_simp; all_goals (with_reducible rfl)))
              simp only [Act.put, List.setIfInBounds_toArray, List.set_cons_succ, List.set_cons_zero]
              first
                | (refine rg_skip 7 rfl (by kernel_rfl) (by kernel_rfl) (by kernel_rfl) (fun _ _ _ h => h) HS ?_ ?_; rfl)
                | (refine rg_take 7 (v := ?_) rfl (by kernel_rfl) (by kernel_rfl) (by kernel_rfl) (fun _ _ _ h => h) HS ?_ ?_ ?_; rotate_left; rfl; focus (intro w hSw; (try dsimp only at hSw); go_simp; all_goals (with_reducible rfl)))
              simp only [Act.put, List.setIfInBounds_toArray, List.set_cons_succ, List.set_cons_zero]
              first
                | (refine rg_skip 8 rfl (by kernel_rfl) (by kernel_rfl) (by kernel_rfl) (fun _ _ _ h => h) HS ?_ ?_; rfl)
                | (refine rg_take 8 (v := ?_) rfl (by kernel_rfl) (by kernel_rfl) (by kernel_rfl) (fun _ _ _ h => h) HS ?_ ?_ ?_; rotate_left; rfl; focus (intro w hSw; (try dsimp only at hSw); go_simp; all_goals (with_reducible rfl)))
              simp only [Act.put, List.setIfInBounds_toArray, List.set_cons_succ, List.set_cons_zero]
              first
                | (refine rg_skip 9 rfl (by kernel_rfl) (by kernel_rfl) (by kernel_rfl) (fun _ _ _ h => h) HS ?_ ?_; rfl)
                | (refine rg_take 9 (v := ?_) rfl (by kernel_rfl) (by kernel_rfl) (by kernel_rfl) (fun _ _ _ h => h) HS ?_ ?_ ?_; rotate_left; rfl; focus (intro w hSw; (try dsimp only at hSw); go_simp; all_goals (with_reducible rfl)))
              simp only [Act.put, List.setIfInBounds_toArray, List.set_cons_succ, List.set_cons_zero]
              first
                | (refine rg_skip 10 rfl (by kernel_rfl) (by kernel_rfl) (by kernel_rfl) (fun _ _ _ h => h) HS ?_ ?_; rfl)
                | (refine rg_take 10 (v := ?_) rfl (by kernel_rfl) (by kernel_rfl) (by kernel_rfl) (fun _ _ _ h => h) HS ?_ ?_ ?_; rotate_left; rfl; focus (intro w hSw; (try dsimp only at hSw); go_simp; all_goals (with_reducible rfl)))
              simp only [Act.put, List.setIfInBounds_toArray, List.set_cons_succ, List.set_cons_zero]
              first
                | (refine rg_skip 11 rfl (by kernel_rfl) (by kernel_rfl) (by kernel_rfl) (fun _ _ _ h => h) HS ?_ ?_; rfl)
                | (refine rg_take 11 (v := ?_) rfl (by kernel_rfl) (by kernel_rfl) (by kernel_rfl) (fun _ _ _ h => h) HS ?_ ?_ ?_; rotate_left; rfl; focus (intro w hSw; (try dsimp only at hSw); go_simp; all_goals (with_reducible rfl)))
              simp only [Act.put, List.setIfInBounds_toArray, List.set_cons_succ, List.set_cons_zero]
              first
                | (refine rg_skip 12 rfl (by kernel_rfl) (by kernel_rfl) (by kernel_rfl) (fun _ _ _ h => h) HS ?_ ?_; rfl)
                | (refine rg_take 12 (v := ?_) rfl (by kernel_rfl) (by kernel_rfl) (by kernel_rfl) (fun _ _ _ h => h) HS ?_ ?_ ?_; rotate_left; rfl; focus (intro w hSw; (try dsimp only at hSw); go_simp; all_goals (with_reducible rfl)))
              simp only [Act.put, List.setIfInBounds_toArray, List.set_cons_succ, List.set_cons_zero]
              first
                | (refine rg_skip 13 rfl (by kernel_rfl) (by kernel_rfl) (by kernel_rfl) (fun _ _ _ h => h) HS ?_ ?_; rfl)
                | (refine rg_take 13 (v := ?_) rfl (by kernel_rfl) (by kernel_rfl) (by kernel_rfl) (fun _ _ _ h => h) HS ?_ ?_ ?_; rotate_left; rfl; focus (intro w hSw; (try dsimp only at hSw); go_simp; all_goals (with_reducible rfl)))
              simp only [Act.put, List.setIfInBounds_toArray, List.set_cons_succ, List.set_cons_zero]
              first
                | (refine rg_skip 14 rfl (by kernel_rfl) (by kernel_rfl) (by kernel_rfl) (fun _ _ _ h => h) HS ?_ ?_; rfl)
                | (refine rg_take 14 (v := ?_) rfl (by kernel_rfl) (by kernel_rfl) (by kernel_rfl) (fun _ _ _ h => h) HS ?_ ?_ ?_; rotate_left; rfl; focus (intro w hSw; (try dsimp only at hSw); go_simp; all_goals (with_reducible rfl)))
              simp only [Act.put, List.setIfInBounds_toArray, List.set_cons_succ, List.set_cons_zero]
              first
                | (refine rg_skip 15 rfl (by kernel_rfl) (by kernel_rfl) (by kernel_rfl) (fun _ _ _ h => h) HS ?_ ?_; rfl)
                | (refine rg_take 15 (v := ?_) rfl (by kernel_rfl) (by kernel_rfl) (by kernel_rfl) (fun _ _ _ h => h) HS ?_ ?_ ?_; rotate_left; rfl; focus (intro w hSw; (try dsimp only at hSw); go_simp; all_goals (with_reducible rfl)))
              simp only [Act.put, List.setIfInBounds_toArray, List.set_cons_succ, List.set_cons_zero]
              first
                | (refine rg_skip 16 rfl (by kernel_rfl) (by kernel_rfl) (by kernel_rfl) (fun _ _ _ h => h) HS ?_ ?_; rfl)
                | (refine rg_take 16 (v := ?_) rfl (by kernel_rfl) (by kernel_rfl) (by kernel_rfl) (fun _ _ _ h => h) HS ?_ ?_ ?_; rotate_left; rfl; focus (intro w hSw; (try dsimp only at hSw); go_simp; all_goals (with_reducible rfl)))
              simp only [Act.put, List.setIfInBounds_toArray, List.set_cons_succ, List.set_cons_zero]
              first
                | (refine rg_skip 17 rfl (by kernel_rfl) (by kernel_rfl) (by kernel_rfl) (fun _ _ _ h => h) HS ?_ ?_; rfl)
                | (refine rg_take 17 (v := ?_) rfl (by kernel_rfl) (by kernel_rfl) (by kernel_rfl) (fun _ _ _ h => h) HS ?_ ?_ ?_; rotate_left; rfl; focus (intro w hSw; (try dsimp only at hSw); go_simp; all_goals (with_reducible rfl)))
              simp only [Act.put, List.setIfInBounds_toArray, List.set_cons_succ, List.set_cons_zero]
              first
                | (refine rg_skip 18 rfl (by kernel_rfl) (by kernel_rfl) (by kernel_rfl) (fun _ _ _ h => h) HS ?_ ?_; rfl)
                | (refine rg_take 18 (v := ?_) rfl (by kernel_rfl) (by kernel_rfl) (by kernel_rfl) (fun _ _ _ h => h) HS ?_ ?_ ?_; rotate_left; rfl; focus (intro w hSw; (try dsimp only at hSw); go_simp; all_goals (with_reducible rfl)))
              simp only [Act.put, List.setIfInBounds_toArray, List.set_cons_succ, List.set_cons_zero]
              first
                | (refine rg_skip 19 rfl (by kernel_rfl) (by kernel_rfl) (by kernel_rfl) (fun _ _ _ h => h) HS ?_ ?_; rfl)
                | (refine rg_take 19 (v := ?_) rfl (by kernel_rfl) (by kernel_rfl) (by kernel_rfl) (fun _ _ _ h => h) HS ?_ ?_ ?_; rotate_left; rfl; focus (intro w hSw; (try dsimp only at hSw); go_simp; all_goals (with_reducible rfl)))
              simp only [Act.put, List.setIfInBounds_toArray, List.set_cons_succ, List.set_cons_zero]
              refine rg_two 20 25 rfl rfl (by kernel_rfl) (by rfl) (by rfl) ?_ ?_
              · as_aux_lemma =>
                refine rg_call 60 _ _ rfl _ Try.func60 (by kernel_rfl) (by kernel_rfl) [.int .i64 nn, .int .i64 k] rfl (octets_calls _ nn k (by omega) (kOk_small (by omega))) ?_
                rintro e w3 ⟨bv, rfl, ho3, hk3⟩
                have HL3 := HLx.more hk3
                have hoff : ∀ g, bv.ownBlock = some g → ¬ h.S g ∧ g ≠ jb := fun g hg => HLx.off (ho3.blk g hg).1
                refine ⟨_, rfl, HSF.out _ HL3.law.keeps, ?_⟩
                simp only [Act.put, List.setIfInBounds_toArray, List.set_cons_succ, List.set_cons_zero]
                refine rg_two 21 25 rfl rfl (by kernel_rfl) (by rfl) (by rfl) ?_ ?_
                · as_aux_lemma =>
                  refine rg_call 59 _ _ rfl _ Try.func59 (by kernel_rfl) (by kernel_rfl) [.pointer (some ⟨jb, 0, none⟩), .int .i64 kd, bv] rfl (l8_append (kind := kd) (n := n) HL3 HIN.out.few.live (by have := HIN.out.few.next; omega) (by have := HIN.out.few.file; omega) ⟨hkd1, by omega, by rw [octP_len]; have := needN_22 hnn9; omega, by omega⟩ (by rw [octP_len]; have := needN_22 hnn9; have := HIN.out.used; omega) (by rw [octP_len]; omega) (isOwn.arg ho3) hoff) ?_
                  rintro e w4 ⟨L0, f, l, nx, L', bv4, hsp, hdn, rfl, HL4, hbo, hk4⟩
                  have o1 := own_one1 hbo
                  refine ⟨_, rfl, HSF.out _ HL4.law.keeps, ?_⟩
                  simp only [Act.put, List.setIfInBounds_toArray, List.set_cons_succ, List.set_cons_zero]
                  first
                    | (refine rg_skip 22 rfl (by kernel_rfl) (by kernel_rfl) (by kernel_rfl) (fun _ _ _ h => h) (HSF.out _ HL4.law.keeps) ?_ ?_; rfl)
                    | (refine rg_take 22 (v := ?_) rfl (by kernel_rfl) (by kernel_rfl) (by kernel_rfl) (fun _ _ _ h => h) (HSF.out _ HL4.law.keeps) ?_ ?_ ?_; rotate_left; rfl; focus (intro w hSw; (try dsimp only at hSw); go_simp; all_goals (with_reducible rfl)))
                  simp only [Act.put, List.setIfInBounds_toArray, List.set_cons_succ, List.set_cons_zero]
                  first
                    | (refine rg_skip 23 rfl (by kernel_rfl) (by kernel_rfl) (by kernel_rfl) (fun _ _ _ h => h) (HSF.out _ HL4.law.keeps) ?_ ?_; rfl)
                    | (refine rg_take 23 (v := ?_) rfl (by kernel_rfl) (by kernel_rfl) (by kernel_rfl) (fun _ _ _ h => h) (HSF.out _ HL4.law.keeps) ?_ ?_ ?_; rotate_left; rfl; focus (intro w hSw; (try dsimp only at hSw); go_simp; all_goals (with_reducible rfl)))
                  simp only [Act.put, List.setIfInBounds_toArray, List.set_cons_succ, List.set_cons_zero]
                  first
                    | (refine rg_skip 24 rfl (by kernel_rfl) (by kernel_rfl) (by kernel_rfl) (fun _ _ _ h => h) (HSF.out _ HL4.law.keeps) ?_ ?_; rfl)
                    | (refine rg_take 24 (v := ?_) rfl (by kernel_rfl) (by kernel_rfl) (by kernel_rfl) (fun _ _ _ h => h) (HSF.out _ HL4.law.keeps) ?_ ?_ ?_; rotate_left; rfl; focus (intro w hSw; (try dsimp only at hSw); go_simp; all_goals (with_reducible rfl)))
                  simp only [Act.put, List.setIfInBounds_toArray, List.set_cons_succ, List.set_cons_zero]
                  refine rg_one 25 rfl (by kernel_rfl) (by rfl) ?_
                  refine wp_alloc_aggJ 94 rfl _ zeroBt ?_
                  intro bt wA hbt HBtA hkA
                  have HLA := HL4.more hkA
                  have hbo9 := HL4.off hbt
                  have hbw : w.heap.size ≤ bt := Nat.le_trans HL4.law.keeps.size hbt
                  refine ⟨HSF.out _ HLA.law.keeps, ?_⟩
                  simp only [Act.put, List.setIfInBounds_toArray, List.set_cons_succ, List.set_cons_zero]
                  refine rg_one 26 rfl (by kernel_rfl) (by rfl) ?_
                  refine wp_store_agg 94 _ _ rfl bt 0 rfl _ _ HBtA (btA (n + 1) kd bv4 f l.length) rfl (btA (n + 1) kd bv4 f l.length) (store_bt _ _ _ _ _ _ _ _ _ _) (le_bt _ _ _ _ _ _ _ _ _ _) (infoBt _ _ _ _ _) (btA_one o1) ?_
                  intro w6 HB6 hk6
                  have HL6 := HLA.own hk6 (fun i hi => by rw [show i = bt from hi]; exact hbo9) (fun i hi e => absurd (show bt < w.heap.size by rw [← show i = bt from e]; exact hi) (Nat.not_lt.2 hbw))
                  refine ⟨HSF.out _ HL6.law.keeps, ?_⟩
                  simp only [Act.put, List.setIfInBounds_toArray, List.set_cons_succ, List.set_cons_zero]
                  first
                    | (refine rg_skip 27 rfl (by kernel_rfl) (by kernel_rfl) (by kernel_rfl) (fun _ _ _ h => h) (HSF.out _ HL6.law.keeps) ?_ ?_; rfl)
                    | (refine rg_take 27 (v := ?_) rfl (by kernel_rfl) (by kernel_rfl) (by kernel_rfl) (fun _ _ _ h => h) (HSF.out _ HL6.law.keeps) ?_ ?_ ?_; rotate_left; rfl; focus (intro w hSw; (try dsimp only at hSw); go_simp; all_goals (with_reducible rfl)))
                  simp only [Act.put, List.setIfInBounds_toArray, List.set_cons_succ, List.set_cons_zero]
                  refine wpAnyH_done (by kernel_rfl) ?_ _
                  go_step
                  go_step
                  go_meet
                  exact ⟨bt, rfl, rfl, Lib.hid ⟨L0, f, l, nx, L', bv4, hsp, hdn, HB6, HL6⟩⟩
                · as_aux_lemma =>
                  refine wp_alloc_aggJ 94 rfl _ zeroBt ?_
                  intro bt wA hbt HBtA hkA
                  have HLA := HL3.more hkA
                  have hbo9 := HL3.off hbt
                  have hbw : w.heap.size ≤ bt := Nat.le_trans HL3.law.keeps.size hbt
                  have hoA := ho3.new hkA
                  refine ⟨HSF.out _ HLA.law.keeps, ?_⟩
                  simp only [Act.put, List.setIfInBounds_toArray, List.set_cons_succ, List.set_cons_zero]
                  refine rg_one 21 rfl (by kernel_rfl) (by rfl) ?_
                  refine rg_call 59 _ _ rfl _ Try.func59 (by kernel_rfl) (by kernel_rfl) [.pointer (some ⟨jb, 0, none⟩), .int .i64 kd, bv] rfl (l8_append (kind := kd) (n := n) HLA HIN.out.few.live (by have := HIN.out.few.next; omega) (by have := HIN.out.few.file; omega) ⟨hkd1, by omega, by rw [octP_len]; have := needN_22 hnn9; omega, by omega⟩ (by rw [octP_len]; have := needN_22 hnn9; have := HIN.out.used; omega) (by rw [octP_len]; omega) (isOwn.arg hoA) hoff) ?_
                  rintro e w4 ⟨L0, f, l, nx, L', bv4, hsp, hdn, rfl, HL4, hbo, hk4⟩
                  have o1 := own_one1 hbo
                  have HBt4 := hk4.blk HBtA (fun hs => hs.elim hbo9.1 hbo9.2)
                  refine ⟨_, rfl, HSF.out _ HL4.law.keeps, ?_⟩
                  simp only [Act.put, List.setIfInBounds_toArray, List.set_cons_succ, List.set_cons_zero]
                  first
                    | (refine rg_skip 22 rfl (by kernel_rfl) (by kernel_rfl) (by kernel_rfl) (fun _ _ _ h => h) (HSF.out _ HL4.law.keeps) ?_ ?_; rfl)
                    | (refine rg_take 22 (v := ?_) rfl (by kernel_rfl) (by kernel_rfl) (by kernel_rfl) (fun _ _ _ h => h) (HSF.out _ HL4.law.keeps) ?_ ?_ ?_; rotate_left; rfl; focus (intro w hSw; (try dsimp only at hSw); go_simp; all_goals (with_reducible rfl)))
                  simp only [Act.put, List.setIfInBounds_toArray, List.set_cons_succ, List.set_cons_zero]
                  first
                    | (refine rg_skip 23 rfl (by kernel_rfl) (by kernel_rfl) (by kernel_rfl) (fun _ _ _ h => h) (HSF.out _ HL4.law.keeps) ?_ ?_; rfl)
                    | (refine rg_take 23 (v := ?_) rfl (by kernel_rfl) (by kernel_rfl) (by kernel_rfl) (fun _ _ _ h => h) (HSF.out _ HL4.law.keeps) ?_ ?_ ?_; rotate_left; rfl; focus (intro w hSw; (try dsimp only at hSw); go_simp; all_goals (with_reducible rfl)))
                  simp only [Act.put, List.setIfInBounds_toArray, List.set_cons_succ, List.set_cons_zero]
                  first
                    | (refine rg_skip 24 rfl (by kernel_rfl) (by kernel_rfl) (by kernel_rfl) (fun _ _ _ h => h) (HSF.out _ HL4.law.keeps) ?_ ?_; rfl)
                    | (refine rg_take 24 (v := ?_) rfl (by kernel_rfl) (by kernel_rfl) (by kernel_rfl) (fun _ _ _ h => h) (HSF.out _ HL4.law.keeps) ?_ ?_ ?_; rotate_left; rfl; focus (intro w hSw; (try dsimp only at hSw); go_simp; all_goals (with_reducible rfl)))
                  simp only [Act.put, List.setIfInBounds_toArray, List.set_cons_succ, List.set_cons_zero]
                  refine rg_one 26 rfl (by kernel_rfl) (by rfl) ?_
                  refine wp_store_agg 94 _ _ rfl bt 0 rfl _ _ HBt4 (btA (n + 1) kd bv4 f l.length) rfl (btA (n + 1) kd bv4 f l.length) (store_bt _ _ _ _ _ _ _ _ _ _) (le_bt _ _ _ _ _ _ _ _ _ _) (infoBt _ _ _ _ _) (btA_one o1) ?_
                  intro w6 HB6 hk6
                  have HL6 := HL4.own hk6 (fun i hi => by rw [show i = bt from hi]; exact hbo9) (fun i hi e => absurd (show bt < w.heap.size by rw [← show i = bt from e]; exact hi) (Nat.not_lt.2 hbw))
                  refine ⟨HSF.out _ HL6.law.keeps, ?_⟩
                  simp only [Act.put, List.setIfInBounds_toArray, List.set_cons_succ, List.set_cons_zero]
                  first
                    | (refine rg_skip 27 rfl (by kernel_rfl) (by kernel_rfl) (by kernel_rfl) (fun _ _ _ h => h) (HSF.out _ HL6.law.keeps) ?_ ?_; rfl)
                    | (refine rg_take 27 (v := ?_) rfl (by kernel_rfl) (by kernel_rfl) (by kernel_rfl) (fun _ _ _ h => h) (HSF.out _ HL6.law.keeps) ?_ ?_ ?_; rotate_left; rfl; focus (intro w hSw; (try dsimp only at hSw); go_simp; all_goals (with_reducible rfl)))
                  simp only [Act.put, List.setIfInBounds_toArray, List.set_cons_succ, List.set_cons_zero]
                  refine wpAnyH_done (by kernel_rfl) ?_ _
                  go_step
                  go_step
                  go_meet
                  exact ⟨bt, rfl, rfl, Lib.hid ⟨L0, f, l, nx, L', bv4, hsp, hdn, HB6, HL6⟩⟩
              · as_aux_lemma =>
                refine wp_alloc_aggJ 94 rfl _ zeroBt ?_
                intro bt wA hbt HBtA hkA
                have HLA := HLx.more hkA
                have hbo9 := HLx.off hbt
                have hbw : w.heap.size ≤ bt := Nat.le_trans HLx.law.keeps.size hbt
                refine ⟨HSF.out _ HLA.law.keeps, ?_⟩
                simp only [Act.put, List.setIfInBounds_toArray, List.set_cons_succ, List.set_cons_zero]
                refine rg_one 20 rfl (by kernel_rfl) (by rfl) ?_
                refine rg_call 60 _ _ rfl _ Try.func60 (by kernel_rfl) (by kernel_rfl) [.int .i64 nn, .int .i64 k] rfl (octets_calls _ nn k (by omega) (kOk_small (by omega))) ?_
                rintro e w3 ⟨bv, rfl, ho3, hk3⟩
                have HL3 := HLA.more hk3
                have hoff : ∀ g, bv.ownBlock = some g → ¬ h.S g ∧ g ≠ jb := fun g hg => HLA.off (ho3.blk g hg).1
                have HBt3 := hk3.blk HBtA id
                refine ⟨_, rfl, HSF.out _ HL3.law.keeps, ?_⟩
                simp only [Act.put, List.setIfInBounds_toArray, List.set_cons_succ, List.set_cons_zero]
                refine rg_one 21 rfl (by kernel_rfl) (by rfl) ?_
                refine rg_call 59 _ _ rfl _ Try.func59 (by kernel_rfl) (by kernel_rfl) [.pointer (some ⟨jb, 0, none⟩), .int .i64 kd, bv] rfl (l8_append (kind := kd) (n := n) HL3 HIN.out.few.live (by have := HIN.out.few.next; omega) (by have := HIN.out.few.file; omega) ⟨hkd1, by omega, by rw [octP_len]; have := needN_22 hnn9; omega, by omega⟩ (by rw [octP_len]; have := needN_22 hnn9; have := HIN.out.used; omega) (by rw [octP_len]; omega) (isOwn.arg ho3) hoff) ?_
                rintro e w4 ⟨L0, f, l, nx, L', bv4, hsp, hdn, rfl, HL4, hbo, hk4⟩
                have o1 := own_one1 hbo
                have HBt4 := hk4.blk HBt3 (fun hs => hs.elim hbo9.1 hbo9.2)
                refine ⟨_, rfl, HSF.out _ HL4.law.keeps, ?_⟩
                simp only [Act.put, List.setIfInBounds_toArray, List.set_cons_succ, List.set_cons_zero]
                first
                  | (refine rg_skip 22 rfl (by kernel_rfl) (by kernel_rfl) (by kernel_rfl) (fun _ _ _ h => h) (HSF.out _ HL4.law.keeps) ?_ ?_; rfl)
                  | (refine rg_take 22 (v := ?_) rfl (by kernel_rfl) (by kernel_rfl) (by kernel_rfl) (fun _ _ _ h => h) (HSF.out _ HL4.law.keeps) ?_ ?_ ?_; rotate_left; rfl; focus (intro w hSw; (try dsimp only at hSw); go_simp; all_goals (with_reducible rfl)))
                simp only [Act.put, List.setIfInBounds_toArray, List.set_cons_succ, List.set_cons_zero]
                first
                  | (refine rg_skip 23 rfl (by kernel_rfl) (by kernel_rfl) (by kernel_rfl) (fun _ _ _ h => h) (HSF.out _ HL4.law.keeps) ?_ ?_; rfl)
                  | (refine rg_take 23 (v := ?_) rfl (by kernel_rfl) (by kernel_rfl) (by kernel_rfl) (fun _ _ _ h => h) (HSF.out _ HL4.law.keeps) ?_ ?_ ?_; rotate_left; rfl; focus (intro w hSw; (try dsimp only at hSw); go_simp; all_goals (with_reducible rfl)))
                simp only [Act.put, List.setIfInBounds_toArray, List.set_cons_succ, List.set_cons_zero]
                first
                  | (refine rg_skip 24 rfl (by kernel_rfl) (by kernel_rfl) (by kernel_rfl) (fun _ _ _ h => h) (HSF.out _ HL4.law.keeps) ?_ ?_; rfl)
                  | (refine rg_take 24 (v := ?_) rfl (by kernel_rfl) (by kernel_rfl) (by kernel_rfl) (fun _ _ _ h => h) (HSF.out _ HL4.law.keeps) ?_ ?_ ?_; rotate_left; rfl; focus (intro w hSw; (try dsimp only at hSw); go_simp; all_goals (with_reducible rfl)))
                simp only [Act.put, List.setIfInBounds_toArray, List.set_cons_succ, List.set_cons_zero]
                refine rg_one 26 rfl (by kernel_rfl) (by rfl) ?_
                refine wp_store_agg 94 _ _ rfl bt 0 rfl _ _ HBt4 (btA (n + 1) kd bv4 f l.length) rfl (btA (n + 1) kd bv4 f l.length) (store_bt _ _ _ _ _ _ _ _ _ _) (le_bt _ _ _ _ _ _ _ _ _ _) (infoBt _ _ _ _ _) (btA_one o1) ?_
                intro w6 HB6 hk6
                have HL6 := HL4.own hk6 (fun i hi => by rw [show i = bt from hi]; exact hbo9) (fun i hi e => absurd (show bt < w.heap.size by rw [← show i = bt from e]; exact hi) (Nat.not_lt.2 hbw))
                refine ⟨HSF.out _ HL6.law.keeps, ?_⟩
                simp only [Act.put, List.setIfInBounds_toArray, List.set_cons_succ, List.set_cons_zero]
                first
                  | (refine rg_skip 27 rfl (by kernel_rfl) (by kernel_rfl) (by kernel_rfl) (fun _ _ _ h => h) (HSF.out _ HL6.law.keeps) ?_ ?_; rfl)
                  | (refine rg_take 27 (v := ?_) rfl (by kernel_rfl) (by kernel_rfl) (by kernel_rfl) (fun _ _ _ h => h) (HSF.out _ HL6.law.keeps) ?_ ?_ ?_; rotate_left; rfl; focus (intro w hSw; (try dsimp only at hSw); go_simp; all_goals (with_reducible rfl)))
                simp only [Act.put, List.setIfInBounds_toArray, List.set_cons_succ, List.set_cons_zero]
                refine wpAnyH_done (by kernel_rfl) ?_ _
                go_step
                go_step
                go_meet
                exact ⟨bt, rfl, rfl, Lib.hid ⟨L0, f, l, nx, L', bv4, hsp, hdn, HB6, HL6⟩⟩
            case rest =>
              as_aux_lemma =>
              obtain ⟨bt, rfl, rfl, happ⟩ := hcut
              obtain ⟨L0, f, l, nx, L', bv4, hsp, hdn, hbb, hL4⟩ := happ.out
              have c0 : wc.cell? ⟨bt, 0, none⟩ = some (.int .u64 ((n : Int) + 1)) := by rw [cell_of_block hbb]; rfl
              have c3 : wc.cell? ⟨bt, 3, none⟩ = some (.int .i64 f) := by rw [cell_of_block hbb]; rfl
              obtain ⟨hin2, hnew⟩ := HIN.out.append (by rw [octP_len]; exact needN_22 hnn9) hsp hdn
              have hfn : f ≤ 8 * q + (k + 1) := by have h9 : f ≤ m + 1 := hin2.few.file; have := HM.out; omega
              have hfi2 : (f : Int) ≤ 57 := by omega
              have hf20 : (0 : Int) ≤ f := by omega
              have HREL : Hid (TellInR w h jb q (k + 1) (n + 1) f wc) := Lib.hid ⟨_, _, _, m + 1, by have := HM.out; omega, hin2, hL4⟩
              have HFN := Lib.hid hfn
              clear hsp hdn hbb hL4 happ hin2 hfn HLx HS HSF
              by_cases hz : k = 0
              · have hzb : ((k : Int) == 0) = true := by subst hz; rfl
                have hlb : decide ((f : Int) ≤ (fl : Int)) = false := decide_eq_false (by have := hnew hz; omega)
                have hlb2 : decide (f ≤ fl) = false := decide_eq_false (by have := hnew hz; omega)
                clear hz hnew
                go_wp2_with fail
                go_roundw
                case rel => exact ⟨k + 1, n + 1, f, HLT.out, by have := HNK.out.1; omega, HFN.out, by go_num, by go_num, rfl, HREL⟩
                case measure => have := HLT.out; simp [intOf]; omega
              · have hzb : ((k : Int) == 0) = false := by rw [beq_eq_false_iff_ne]; omega
                clear hz hnew
                go_wp2_with fail
                go_roundw
                case rel => exact ⟨k + 1, n + 1, f, HLT.out, by have := HNK.out.1; omega, HFN.out, by go_num, by go_num, rfl, HREL⟩
                case measure => have := HLT.out; simp [intOf]; omega
          · as_aux_lemma =>
            have hout : (decide (k < len) = false) ∨ (decide (k < len) = true ∧ decide ((k : Int) < 8) = false) := by
              simp only [decide_eq_false_iff_not, decide_eq_true_eq]
              omega
            have HREL : Hid (TellRel w h (q + 1) n fl wr) := Lib.hid ⟨L, B, m, by omega, hin.out, hLx.law⟩
            have HNK := Lib.hid (And.intro hnk hfk)
            have HK8 := Lib.hid hk
            clear hlt hrel hm hin hLx hnk hfk
            rcases hout with h1 | ⟨h1, h2⟩
            all_goals
              go_wp2_with fail
              go_roundw
              case rel => exact ⟨q + 1, n, fl, HQ.out, by have := HNK.out.1; have := HK8.out; omega, by have := HNK.out.2; have := HK8.out; omega, by go_num, rfl, rfl, HREL⟩
              case measure => have := HQ.out; simp [intOf]; omega
      · as_aux_lemma =>
        have hout : (decide (q < xs.length) = false) ∨ (decide (q < xs.length) = true ∧ decide ((q : Int) < 6) = false) := by
          simp only [decide_eq_false_iff_not, decide_eq_true_eq]
          omega
        have HOUT : Hid (TellOut w h n wr) := by
          obtain ⟨L, B, m, hm, htj, hLD⟩ := hrel.out
          exact Lib.hid ⟨L, B, htj.ok, htj.tells, hLD⟩
        have HN : Hid (n ≤ 48) := Lib.hid (by omega)
        clear hlt hrel hnq hfq
        rcases hout with h1 | ⟨h1, h2⟩
        all_goals
          go_wp2_with fail
          go_meet
          exact ⟨n, fl, HN.out, rfl, rfl, HOUT⟩
  case rest =>
    as_aux_lemma =>
    clear HREL0 HC hl1 hl2 hli
    obtain ⟨n, fl, hn, rfl, rfl, hout⟩ := hcut
    obtain ⟨L, B, hok, htl, hLD⟩ := hout.out
    have hni : (n : Int) ≤ 48 := by omega
    have hn0 : (0 : Int) ≤ n := by omega
    have hscan := l8_scan hLD hok htl (by have := hok.len; omega)
    have HSCAN := Lib.hid hscan
    have HKL := Lib.hid hLD.keeps
    have HSEQ := Lib.hid htl.seq
    have HRISE := Lib.hid (htl.rise (view_rise hok))
    have HBL := Lib.hid htl.len
    clear hscan hout hok htl hLD
    go_wp2_with fail
    refine HSCAN.out.mono ?_
    rintro e w7 ⟨lv, rfl, hbt, hk7⟩
    have HBT := Lib.hid hbt
    have HK7 := Lib.hid (HKL.out.trans hk7)
    obtain ⟨ad, cp, rfl⟩ := hbt.shape
    rw [HBL.out] at HBT ⊢
    clear hbt hk7 HSCAN HKL
    go_wp2_with fail
    go_loopw [13] (fun i wr => ∃ q : Nat, q ≤ n ∧ i = .int .i64 q ∧ Hid (Keeps w7 wr (fun _ => False))) (fun i _ => n - (intOf i).toNat)
    case atStart => exact ⟨0, Nat.zero_le _, rfl, Lib.hid (Keeps.refl _ _)⟩
    case round =>
      obtain ⟨q, hq, rfl, hkr⟩ := hrel
      have hq0 : (0 : Int) ≤ q := by omega
      by_cases hlt : q < n
      · as_aux_lemma =>
        have hlb : decide (q < n) = true := by simpa using hlt
        have hq9 : (q : Int) < n := by omega
        have hx : B[q]? = some (B[q]'(by rw [HBL.out]; exact hlt)) := List.getElem?_eq_getElem _
        generalize B[q]'(by rw [HBL.out]; exact hlt) = x at hx
        have hsq := HSEQ.out q x hx
        obtain ⟨g, c1, bv, he1, _, _, hr1, _⟩ := (HBT.out.new hkr.out).row hx
        rw [HBL.out] at he1
        injection he1 with e1 e2 e3
        subst e1 e3
        clear e2
        have HLT := Lib.hid hlt
        by_cases hz : q = 0
        · as_aux_lemma =>
          have hzb : decide (0 < q) = false := by simp [hz]
          have hzb2 : decide ((0 : Int) < q) = false := by simp [hz]
          have hwq : IntKind.u64.wrap ((q : Int) + 1) = (q : Int) + 1 := by rw [wrap_u64']; omega
          have hwi : IntKind.i64.wrap ((q : Int) + 1) = (q : Int) + 1 := i64_smallK _ (by omega) (by omega)
          have HK := Lib.hid hkr.out.drew
          have HS : (fun (w' : World) => w'.cell? ⟨g, q * 5, none⟩ = some (.int .u64 ((q : Int) + 1))) wr.drew := by
            have := hr1 0 _ rfl
            rw [hsq] at this
            exact this
          clear hx hsq hr1 hlt hkr hz
          go_upto_region 23 with fail
          refine wp_region_held_drew (S := (fun (w' : World) => w'.cell? ⟨g, q * 5, none⟩ = some (.int .u64 ((q : Int) + 1)))) (by kernel_rfl) HS (fun _ => ?_)
          first
            | (refine rg_skip 0 rfl (by kernel_rfl) (by kernel_rfl) (by kernel_rfl) (fun _ _ _ h => h) HS ?_ ?_; rfl)
            | (refine rg_take 0 (v := ?_) rfl (by kernel_rfl) (by kernel_rfl) (by kernel_rfl) (fun _ _ _ h => h) HS ?_ ?_ ?_; rotate_left; rfl; focus (intro w hSw; (try dsimp only at hSw); go_simp; all_goals (with_reducible rfl)))
          simp only [Act.put, List.setIfInBounds_toArray, List.set_cons_succ, List.set_cons_zero]
          first
            | (refine rg_skip 1 rfl (by kernel_rfl) (by kernel_rfl) (by kernel_rfl) (fun _ _ _ h => h) HS ?_ ?_; rfl)
            | (refine rg_take 1 (v := ?_) rfl (by kernel_rfl) (by kernel_rfl) (by kernel_rfl) (fun _ _ _ h => h) HS ?_ ?_ ?_; rotate_left; rfl; focus (intro w hSw; (try dsimp only at hSw); go_simp; all_goals (with_reducible rfl)))
          simp only [Act.put, List.setIfInBounds_toArray, List.set_cons_succ, List.set_cons_zero]
          first
            | (refine rg_skip 2 rfl (by kernel_rfl) (by kernel_rfl) (by kernel_rfl) (fun _ _ _ h => h) HS ?_ ?_; rfl)
            | (refine rg_take 2 (v := ?_) rfl (by kernel_rfl) (by kernel_rfl) (by kernel_rfl) (fun _ _ _ h => h) HS ?_ ?_ ?_; rotate_left; rfl; focus (intro w hSw; (try dsimp only at hSw); go_simp; all_goals (with_reducible rfl)))
          simp only [Act.put, List.setIfInBounds_toArray, List.set_cons_succ, List.set_cons_zero]
          first
            | (refine rg_skip 3 rfl (by kernel_rfl) (by kernel_rfl) (by kernel_rfl) (fun _ _ _ h => h) HS ?_ ?_; rfl)
            | (refine rg_take 3 (v := ?_) rfl (by kernel_rfl) (by kernel_rfl) (by kernel_rfl) (fun _ _ _ h => h) HS ?_ ?_ ?_; rotate_left; rfl; focus (intro w hSw; (try dsimp only at hSw); go_simp; all_goals (with_reducible rfl)))
          simp only [Act.put, List.setIfInBounds_toArray, List.set_cons_succ, List.set_cons_zero]
          first
            | (refine rg_skip 4 rfl (by kernel_rfl) (by kernel_rfl) (by kernel_rfl) (fun _ _ _ h => h) HS ?_ ?_; rfl)
            | (refine rg_take 4 (v := ?_) rfl (by kernel_rfl) (by kernel_rfl) (by kernel_rfl) (fun _ _ _ h => h) HS ?_ ?_ ?_; rotate_left; rfl; focus (intro w hSw; (try dsimp only at hSw); go_simp; all_goals (with_reducible rfl)))
          simp only [Act.put, List.setIfInBounds_toArray, List.set_cons_succ, List.set_cons_zero]
          first
            | (refine rg_skip 5 rfl (by kernel_rfl) (by kernel_rfl) (by kernel_rfl) (fun _ _ _ h => h) HS ?_ ?_; rfl)
            | (refine rg_take 5 (v := ?_) rfl (by kernel_rfl) (by kernel_rfl) (by kernel_rfl) (fun _ _ _ h => h) HS ?_ ?_ ?_; rotate_left; rfl; focus (intro w hSw; (try dsimp only at hSw); go_simp; all_goals (with_reducible rfl)))
          simp only [Act.put, List.setIfInBounds_toArray, List.set_cons_succ, List.set_cons_zero]
          first
            | (refine rg_skip 6 rfl (by kernel_rfl) (by kernel_rfl) (by kernel_rfl) (fun _ _ _ h => h) HS ?_ ?_; rfl)
            | (refine rg_take 6 (v := ?_) rfl (by kernel_rfl) (by kernel_rfl) (by kernel_rfl) (fun _ _ _ h => h) HS ?_ ?_ ?_; rotate_left; rfl; focus (intro w hSw; (try dsimp only at hSw); go_simp; all_goals (with_reducible rfl)))
          simp only [Act.put, List.setIfInBounds_toArray, List.set_cons_succ, List.set_cons_zero]
          first
            | (refine rg_skip 7 rfl (by kernel_rfl) (by kernel_rfl) (by kernel_rfl) (fun _ _ _ h => h) HS ?_ ?_; rfl)
            | (refine rg_take 7 (v := ?_) rfl (by kernel_rfl) (by kernel_rfl) (by kernel_rfl) (fun _ _ _ h => h) HS ?_ ?_ ?_; rotate_left; rfl; focus (intro w hSw; (try dsimp only at hSw); go_simp; all_goals (with_reducible rfl)))
          simp only [Act.put, List.setIfInBounds_toArray, List.set_cons_succ, List.set_cons_zero]
          first
            | (refine rg_skip 8 rfl (by kernel_rfl) (by kernel_rfl) (by kernel_rfl) (fun _ _ _ h => h) HS ?_ ?_; rfl)
            | (refine rg_take 8 (v := ?_) rfl (by kernel_rfl) (by kernel_rfl) (by kernel_rfl) (fun _ _ _ h => h) HS ?_ ?_ ?_; rotate_left; rfl; focus (intro w hSw; (try dsimp only at hSw); go_simp; all_goals (with_reducible rfl)))
          simp only [Act.put, List.setIfInBounds_toArray, List.set_cons_succ, List.set_cons_zero]
          first
            | (refine rg_skip 9 rfl (by kernel_rfl) (by kernel_rfl) (by kernel_rfl) (fun _ _ _ h => h) HS ?_ ?_; rfl)
            | (refine rg_take 9 (v := ?_) rfl (by kernel_rfl) (by kernel_rfl) (by kernel_rfl) (fun _ _ _ h => h) HS ?_ ?_ ?_; rotate_left; rfl; focus (intro w hSw; (try dsimp only at hSw); go_simp; all_goals (with_reducible rfl)))
          simp only [Act.put, List.setIfInBounds_toArray, List.set_cons_succ, List.set_cons_zero]
          first
            | (refine rg_skip 10 rfl (by kernel_rfl) (by kernel_rfl) (by kernel_rfl) (fun _ _ _ h => h) HS ?_ ?_; rfl)
            | (refine rg_take 10 (v := ?_) rfl (by kernel_rfl) (by kernel_rfl) (by kernel_rfl) (fun _ _ _ h => h) HS ?_ ?_ ?_; rotate_left; rfl; focus (intro w hSw; (try dsimp only at hSw); go_simp; all_goals (with_reducible rfl)))
          simp only [Act.put, List.setIfInBounds_toArray, List.set_cons_succ, List.set_cons_zero]
          first
            | (refine rg_skip 11 rfl (by kernel_rfl) (by kernel_rfl) (by kernel_rfl) (fun _ _ _ h => h) HS ?_ ?_; rfl)
            | (refine rg_take 11 (v := ?_) rfl (by kernel_rfl) (by kernel_rfl) (by kernel_rfl) (fun _ _ _ h => h) HS ?_ ?_ ?_; rotate_left; rfl; focus (intro w hSw; (try dsimp only at hSw); go_simp; all_goals (with_reducible rfl)))
          simp only [Act.put, List.setIfInBounds_toArray, List.set_cons_succ, List.set_cons_zero]
          first
            | (refine rg_skip 12 rfl (by kernel_rfl) (by kernel_rfl) (by kernel_rfl) (fun _ _ _ h => h) HS ?_ ?_; rfl)
            | (refine rg_take 12 (v := ?_) rfl (by kernel_rfl) (by kernel_rfl) (by kernel_rfl) (fun _ _ _ h => h) HS ?_ ?_ ?_; rotate_left; rfl; focus (intro w hSw; (try dsimp only at hSw); go_simp; all_goals (with_reducible rfl)))
          simp only [Act.put, List.setIfInBounds_toArray, List.set_cons_succ, List.set_cons_zero]
          first
            | (refine rg_skip 13 rfl (by kernel_rfl) (by kernel_rfl) (by kernel_rfl) (fun _ _ _ h => h) HS ?_ ?_; rfl)
            | (refine rg_take 13 (v := ?_) rfl (by kernel_rfl) (by kernel_rfl) (by kernel_rfl) (fun _ _ _ h => h) HS ?_ ?_ ?_; rotate_left; rfl; focus (intro w hSw; (try dsimp only at hSw); go_simp; all_goals (with_reducible rfl)))
          simp only [Act.put, List.setIfInBounds_toArray, List.set_cons_succ, List.set_cons_zero]
          first
            | (refine rg_skip 14 rfl (by kernel_rfl) (by kernel_rfl) (by kernel_rfl) (fun _ _ _ h => h) HS ?_ ?_; rfl)
            | (refine rg_take 14 (v := ?_) rfl (by kernel_rfl) (by kernel_rfl) (by kernel_rfl) (fun _ _ _ h => h) HS ?_ ?_ ?_; rotate_left; rfl; focus (intro w hSw; (try dsimp only at hSw); go_simp; all_goals (with_reducible rfl)))
          simp only [Act.put, List.setIfInBounds_toArray, List.set_cons_succ, List.set_cons_zero]
          first
            | (refine rg_skip 15 rfl (by kernel_rfl) (by kernel_rfl) (by kernel_rfl) (fun _ _ _ h => h) HS ?_ ?_; rfl)
            | (refine rg_take 15 (v := ?_) rfl (by kernel_rfl) (by kernel_rfl) (by kernel_rfl) (fun _ _ _ h => h) HS ?_ ?_ ?_; rotate_left; rfl; focus (intro w hSw; (try dsimp only at hSw); go_simp; all_goals (with_reducible rfl)))
          simp only [Act.put, List.setIfInBounds_toArray, List.set_cons_succ, List.set_cons_zero]
          first
            | (refine rg_skip 16 rfl (by kernel_rfl) (by kernel_rfl) (by kernel_rfl) (fun _ _ _ h => h) HS ?_ ?_; rfl)
            | (refine rg_take 16 (v := ?_) rfl (by kernel_rfl) (by kernel_rfl) (by kernel_rfl) (fun _ _ _ h => h) HS ?_ ?_ ?_; rotate_left; rfl; focus (intro w hSw; (try dsimp only at hSw); go_simp; all_goals (with_reducible rfl)))
          simp only [Act.put, List.setIfInBounds_toArray, List.set_cons_succ, List.set_cons_zero]
          first
            | (refine rg_skip 17 rfl (by kernel_rfl) (by kernel_rfl) (by kernel_rfl) (fun _ _ _ h => h) HS ?_ ?_; rfl)
            | (refine rg_take 17 (v := ?_) rfl (by kernel_rfl) (by kernel_rfl) (by kernel_rfl) (fun _ _ _ h => h) HS ?_ ?_ ?_; rotate_left; rfl; focus (intro w hSw; (try dsimp only at hSw); go_simp; all_goals (with_reducible rfl)))
          simp only [Act.put, List.setIfInBounds_toArray, List.set_cons_succ, List.set_cons_zero]
          first
            | (refine rg_skip 18 rfl (by kernel_rfl) (by kernel_rfl) (by kernel_rfl) (fun _ _ _ h => h) HS ?_ ?_; rfl)
            | (refine rg_take 18 (v := ?_) rfl (by kernel_rfl) (by kernel_rfl) (by kernel_rfl) (fun _ _ _ h => h) HS ?_ ?_ ?_; rotate_left; rfl; focus (intro w hSw; (try dsimp only at hSw); go_simp; all_goals (with_reducible rfl)))
          simp only [Act.put, List.setIfInBounds_toArray, List.set_cons_succ, List.set_cons_zero]
          first
            | (refine rg_skip 19 rfl (by kernel_rfl) (by kernel_rfl) (by kernel_rfl) (fun _ _ _ h => h) HS ?_ ?_; rfl)
            | (refine rg_take 19 (v := ?_) rfl (by kernel_rfl) (by kernel_rfl) (by kernel_rfl) (fun _ _ _ h => h) HS ?_ ?_ ?_; rotate_left; rfl; focus (intro w hSw; (try dsimp only at hSw); go_simp; all_goals (with_reducible rfl)))
          simp only [Act.put, List.setIfInBounds_toArray, List.set_cons_succ, List.set_cons_zero]
          first
            | (refine rg_skip 20 rfl (by kernel_rfl) (by kernel_rfl) (by kernel_rfl) (fun _ _ _ h => h) HS ?_ ?_; rfl)
            | (refine rg_take 20 (v := ?_) rfl (by kernel_rfl) (by kernel_rfl) (by kernel_rfl) (fun _ _ _ h => h) HS ?_ ?_ ?_; rotate_left; rfl; focus (intro w hSw; (try dsimp only at hSw); go_simp; all_goals (with_reducible rfl)))
          simp only [Act.put, List.setIfInBounds_toArray, List.set_cons_succ, List.set_cons_zero]
          first
            | (refine rg_skip 21 rfl (by kernel_rfl) (by kernel_rfl) (by kernel_rfl) (fun _ _ _ h => h) HS ?_ ?_; rfl)
            | (refine rg_take 21 (v := ?_) rfl (by kernel_rfl) (by kernel_rfl) (by kernel_rfl) (fun _ _ _ h => h) HS ?_ ?_ ?_; rotate_left; rfl; focus (intro w hSw; (try dsimp only at hSw); go_simp; all_goals (with_reducible rfl)))
          simp only [Act.put, List.setIfInBounds_toArray, List.set_cons_succ, List.set_cons_zero]
          first
            | (refine rg_skip 22 rfl (by kernel_rfl) (by kernel_rfl) (by kernel_rfl) (fun _ _ _ h => h) HS ?_ ?_; rfl)
            | (refine rg_take 22 (v := ?_) rfl (by kernel_rfl) (by kernel_rfl) (by kernel_rfl) (fun _ _ _ h => h) HS ?_ ?_ ?_; rotate_left; rfl; focus (intro w hSw; (try dsimp only at hSw); go_simp; all_goals (with_reducible rfl)))
          simp only [Act.put, List.setIfInBounds_toArray, List.set_cons_succ, List.set_cons_zero]
          first
            | (refine rg_skip 23 rfl (by kernel_rfl) (by kernel_rfl) (by kernel_rfl) (fun _ _ _ h => h) HS ?_ ?_; rfl)
            | (refine rg_take 23 (v := ?_) rfl (by kernel_rfl) (by kernel_rfl) (by kernel_rfl) (fun _ _ _ h => h) HS ?_ ?_ ?_; rotate_left; rfl; focus (intro w hSw; (try dsimp only at hSw); go_simp; all_goals (with_reducible rfl)))
          simp only [Act.put, List.setIfInBounds_toArray, List.set_cons_succ, List.set_cons_zero]
          first
            | (refine rg_skip 24 rfl (by kernel_rfl) (by kernel_rfl) (by kernel_rfl) (fun _ _ _ h => h) HS ?_ ?_; rfl)
            | (refine rg_take 24 (v := ?_) rfl (by kernel_rfl) (by kernel_rfl) (by kernel_rfl) (fun _ _ _ h => h) HS ?_ ?_ ?_; rotate_left; rfl; focus (intro w hSw; (try dsimp only at hSw); go_simp; all_goals (with_reducible rfl)))
          simp only [Act.put, List.setIfInBounds_toArray, List.set_cons_succ, List.set_cons_zero]
          first
            | (refine rg_skip 25 rfl (by kernel_rfl) (by kernel_rfl) (by kernel_rfl) (fun _ _ _ h => h) HS ?_ ?_; rfl)
            | (refine rg_take 25 (v := ?_) rfl (by kernel_rfl) (by kernel_rfl) (by kernel_rfl) (fun _ _ _ h => h) HS ?_ ?_ ?_; rotate_left; rfl; focus (intro w hSw; (try dsimp only at hSw); go_simp; all_goals (with_reducible rfl)))
          simp only [Act.put, List.setIfInBounds_toArray, List.set_cons_succ, List.set_cons_zero]
          first
            | (refine rg_skip 26 rfl (by kernel_rfl) (by kernel_rfl) (by kernel_rfl) (fun _ _ _ h => h) HS ?_ ?_; rfl)
            | (refine rg_take 26 (v := ?_) rfl (by kernel_rfl) (by kernel_rfl) (by kernel_rfl) (fun _ _ _ h => h) HS ?_ ?_ ?_; rotate_left; rfl; focus (intro w hSw; (try dsimp only at hSw); go_simp; all_goals (with_reducible rfl)))
          simp only [Act.put, List.setIfInBounds_toArray, List.set_cons_succ, List.set_cons_zero]
          first
            | (refine rg_skip 27 rfl (by kernel_rfl) (by kernel_rfl) (by kernel_rfl) (fun _ _ _ h => h) HS ?_ ?_; rfl)
            | (refine rg_take 27 (v := ?_) rfl (by kernel_rfl) (by kernel_rfl) (by kernel_rfl) (fun _ _ _ h => h) HS ?_ ?_ ?_; rotate_left; rfl; focus (intro w hSw; (try dsimp only at hSw); go_simp; all_goals (with_reducible rfl)))
          simp only [Act.put, List.setIfInBounds_toArray, List.set_cons_succ, List.set_cons_zero]
          first
            | (refine rg_skip 28 rfl (by kernel_rfl) (by kernel_rfl) (by kernel_rfl) (fun _ _ _ h => h) HS ?_ ?_; rfl)
            | (refine rg_take 28 (v := ?_) rfl (by kernel_rfl) (by kernel_rfl) (by kernel_rfl) (fun _ _ _ h => h) HS ?_ ?_ ?_; rotate_left; rfl; focus (intro w hSw; (try dsimp only at hSw); go_simp; all_goals (with_reducible rfl)))
          simp only [Act.put, List.setIfInBounds_toArray, List.set_cons_succ, List.set_cons_zero]
          first
            | (refine rg_skip 29 rfl (by kernel_rfl) (by kernel_rfl) (by kernel_rfl) (fun _ _ _ h => h) HS ?_ ?_; rfl)
            | (refine rg_take 29 (v := ?_) rfl (by kernel_rfl) (by kernel_rfl) (by kernel_rfl) (fun _ _ _ h => h) HS ?_ ?_ ?_; rotate_left; rfl; focus (intro w hSw; (try dsimp only at hSw); go_simp; all_goals (with_reducible rfl)))
          simp only [Act.put, List.setIfInBounds_toArray, List.set_cons_succ, List.set_cons_zero]
          first
            | (refine rg_skip 30 rfl (by kernel_rfl) (by kernel_rfl) (by kernel_rfl) (fun _ _ _ h => h) HS ?_ ?_; rfl)
            | (refine rg_take 30 (v := ?_) rfl (by kernel_rfl) (by kernel_rfl) (by kernel_rfl) (fun _ _ _ h => h) HS ?_ ?_ ?_; rotate_left; rfl; focus (intro w hSw; (try dsimp only at hSw); go_simp; all_goals (with_reducible rfl)))
          simp only [Act.put, List.setIfInBounds_toArray, List.set_cons_succ, List.set_cons_zero]
          first
            | (refine rg_skip 31 rfl (by kernel_rfl) (by kernel_rfl) (by kernel_rfl) (fun _ _ _ h => h) HS ?_ ?_; rfl)
            | (refine rg_take 31 (v := ?_) rfl (by kernel_rfl) (by kernel_rfl) (by kernel_rfl) (fun _ _ _ h => h) HS ?_ ?_ ?_; rotate_left; rfl; focus (intro w hSw; (try dsimp only at hSw); go_simp; all_goals (with_reducible rfl)))
          simp only [Act.put, List.setIfInBounds_toArray, List.set_cons_succ, List.set_cons_zero]
          first
            | (refine rg_skip 32 rfl (by kernel_rfl) (by kernel_rfl) (by kernel_rfl) (fun _ _ _ h => h) HS ?_ ?_; rfl)
            | (refine rg_take 32 (v := ?_) rfl (by kernel_rfl) (by kernel_rfl) (by kernel_rfl) (fun _ _ _ h => h) HS ?_ ?_ ?_; rotate_left; rfl; focus (intro w hSw; (try dsimp only at hSw); go_simp; all_goals (with_reducible rfl)))
          simp only [Act.put, List.setIfInBounds_toArray, List.set_cons_succ, List.set_cons_zero]
          first
            | (refine rg_skip 33 rfl (by kernel_rfl) (by kernel_rfl) (by kernel_rfl) (fun _ _ _ h => h) HS ?_ ?_; rfl)
            | (refine rg_take 33 (v := ?_) rfl (by kernel_rfl) (by kernel_rfl) (by kernel_rfl) (fun _ _ _ h => h) HS ?_ ?_ ?_; rotate_left; rfl; focus (intro w hSw; (try dsimp only at hSw); go_simp; all_goals (with_reducible rfl)))
          simp only [Act.put, List.setIfInBounds_toArray, List.set_cons_succ, List.set_cons_zero]
          first
            | (refine rg_skip 34 rfl (by kernel_rfl) (by kernel_rfl) (by kernel_rfl) (fun _ _ _ h => h) HS ?_ ?_; rfl)
            | (refine rg_take 34 (v := ?_) rfl (by kernel_rfl) (by kernel_rfl) (by kernel_rfl) (fun _ _ _ h => h) HS ?_ ?_ ?_; rotate_left; rfl; focus (intro w hSw; (try dsimp only at hSw); go_simp; all_goals (with_reducible rfl)))
          simp only [Act.put, List.setIfInBounds_toArray, List.set_cons_succ, List.set_cons_zero]
          first
            | (refine rg_skip 35 rfl (by kernel_rfl) (by kernel_rfl) (by kernel_rfl) (fun _ _ _ h => h) HS ?_ ?_; rfl)
            | (refine rg_take 35 (v := ?_) rfl (by kernel_rfl) (by kernel_rfl) (by kernel_rfl) (fun _ _ _ h => h) HS ?_ ?_ ?_; rotate_left; rfl; focus (intro w hSw; (try dsimp only at hSw); go_simp; all_goals (with_reducible rfl)))
          simp only [Act.put, List.setIfInBounds_toArray, List.set_cons_succ, List.set_cons_zero]
          first
            | (refine rg_skip 36 rfl (by kernel_rfl) (by kernel_rfl) (by kernel_rfl) (fun _ _ _ h => h) HS ?_ ?_; rfl)
            | (refine rg_take 36 (v := ?_) rfl (by kernel_rfl) (by kernel_rfl) (by kernel_rfl) (fun _ _ _ h => h) HS ?_ ?_ ?_; rotate_left; rfl; focus (intro w hSw; (try dsimp only at hSw); go_simp; all_goals (with_reducible rfl)))
          simp only [Act.put, List.setIfInBounds_toArray, List.set_cons_succ, List.set_cons_zero]
          first
            | (refine rg_skip 37 rfl (by kernel_rfl) (by kernel_rfl) (by kernel_rfl) (fun _ _ _ h => h) HS ?_ ?_; rfl)
            | (refine rg_take 37 (v := ?_) rfl (by kernel_rfl) (by kernel_rfl) (by kernel_rfl) (fun _ _ _ h => h) HS ?_ ?_ ?_; rotate_left; rfl; focus (intro w hSw; (try dsimp only at hSw); go_simp; all_goals (with_reducible rfl)))
          simp only [Act.put, List.setIfInBounds_toArray, List.set_cons_succ, List.set_cons_zero]
          first
            | (refine rg_skip 38 rfl (by kernel_rfl) (by kernel_rfl) (by kernel_rfl) (fun _ _ _ h => h) HS ?_ ?_; rfl)
            | (refine rg_take 38 (v := ?_) rfl (by kernel_rfl) (by kernel_rfl) (by kernel_rfl) (fun _ _ _ h => h) HS ?_ ?_ ?_; rotate_left; rfl; focus (intro w hSw; (try dsimp only at hSw); go_simp; all_goals (with_reducible rfl)))
          simp only [Act.put, List.setIfInBounds_toArray, List.set_cons_succ, List.set_cons_zero]
          first
            | (refine rg_skip 39 rfl (by kernel_rfl) (by kernel_rfl) (by kernel_rfl) (fun _ _ _ h => h) HS ?_ ?_; rfl)
            | (refine rg_take 39 (v := ?_) rfl (by kernel_rfl) (by kernel_rfl) (by kernel_rfl) (fun _ _ _ h => h) HS ?_ ?_ ?_; rotate_left; rfl; focus (intro w hSw; (try dsimp only at hSw); go_simp; all_goals (with_reducible rfl)))
          simp only [Act.put, List.setIfInBounds_toArray, List.set_cons_succ, List.set_cons_zero]
          first
            | (refine rg_skip 40 rfl (by kernel_rfl) (by kernel_rfl) (by kernel_rfl) (fun _ _ _ h => h) HS ?_ ?_; rfl)
            | (refine rg_take 40 (v := ?_) rfl (by kernel_rfl) (by kernel_rfl) (by kernel_rfl) (fun _ _ _ h => h) HS ?_ ?_ ?_; rotate_left; rfl; focus (intro w hSw; (try dsimp only at hSw); go_simp; all_goals (with_reducible rfl)))
          simp only [Act.put, List.setIfInBounds_toArray, List.set_cons_succ, List.set_cons_zero]
          first
            | (refine rg_skip 41 rfl (by kernel_rfl) (by kernel_rfl) (by kernel_rfl) (fun _ _ _ h => h) HS ?_ ?_; rfl)
            | (refine rg_take 41 (v := ?_) rfl (by kernel_rfl) (by kernel_rfl) (by kernel_rfl) (fun _ _ _ h => h) HS ?_ ?_ ?_; rotate_left; rfl; focus (intro w hSw; (try dsimp only at hSw); go_simp; all_goals (with_reducible rfl)))
          simp only [Act.put, List.setIfInBounds_toArray, List.set_cons_succ, List.set_cons_zero]
          first
            | (refine rg_skip 42 rfl (by kernel_rfl) (by kernel_rfl) (by kernel_rfl) (fun _ _ _ h => h) HS ?_ ?_; rfl)
            | (refine rg_take 42 (v := ?_) rfl (by kernel_rfl) (by kernel_rfl) (by kernel_rfl) (fun _ _ _ h => h) HS ?_ ?_ ?_; rotate_left; rfl; focus (intro w hSw; (try dsimp only at hSw); go_simp; all_goals (with_reducible rfl)))
          simp only [Act.put, List.setIfInBounds_toArray, List.set_cons_succ, List.set_cons_zero]
          first
            | (refine rg_skip 43 rfl (by kernel_rfl) (by kernel_rfl) (by kernel_rfl) (fun _ _ _ h => h) HS ?_ ?_; rfl)
            | (refine rg_take 43 (v := ?_) rfl (by kernel_rfl) (by kernel_rfl) (by kernel_rfl) (fun _ _ _ h => h) HS ?_ ?_ ?_; rotate_left; rfl; focus (intro w hSw; (try dsimp only at hSw); go_simp; all_goals (with_reducible rfl)))
          simp only [Act.put, List.setIfInBounds_toArray, List.set_cons_succ, List.set_cons_zero]
          first
            | (refine rg_skip 44 rfl (by kernel_rfl) (by kernel_rfl) (by kernel_rfl) (fun _ _ _ h => h) HS ?_ ?_; rfl)
            | (refine rg_take 44 (v := ?_) rfl (by kernel_rfl) (by kernel_rfl) (by kernel_rfl) (fun _ _ _ h => h) HS ?_ ?_ ?_; rotate_left; rfl; focus (intro w hSw; (try dsimp only at hSw); go_simp; all_goals (with_reducible rfl)))
          simp only [Act.put, List.setIfInBounds_toArray, List.set_cons_succ, List.set_cons_zero]
          first
            | (refine rg_skip 45 rfl (by kernel_rfl) (by kernel_rfl) (by kernel_rfl) (fun _ _ _ h => h) HS ?_ ?_; rfl)
            | (refine rg_take 45 (v := ?_) rfl (by kernel_rfl) (by kernel_rfl) (by kernel_rfl) (fun _ _ _ h => h) HS ?_ ?_ ?_; rotate_left; rfl; focus (intro w hSw; (try dsimp only at hSw); go_simp; all_goals (with_reducible rfl)))
          simp only [Act.put, List.setIfInBounds_toArray, List.set_cons_succ, List.set_cons_zero]
          first
            | (refine rg_skip 46 rfl (by kernel_rfl) (by kernel_rfl) (by kernel_rfl) (fun _ _ _ h => h) HS ?_ ?_; rfl)
            | (refine rg_take 46 (v := ?_) rfl (by kernel_rfl) (by kernel_rfl) (by kernel_rfl) (fun _ _ _ h => h) HS ?_ ?_ ?_; rotate_left; rfl; focus (intro w hSw; (try dsimp only at hSw); go_simp; all_goals (with_reducible rfl)))
          simp only [Act.put, List.setIfInBounds_toArray, List.set_cons_succ, List.set_cons_zero]
          first
            | (refine rg_skip 47 rfl (by kernel_rfl) (by kernel_rfl) (by kernel_rfl) (fun _ _ _ h => h) HS ?_ ?_; rfl)
            | (refine rg_take 47 (v := ?_) rfl (by kernel_rfl) (by kernel_rfl) (by kernel_rfl) (fun _ _ _ h => h) HS ?_ ?_ ?_; rotate_left; rfl; focus (intro w hSw; (try dsimp only at hSw); go_simp; all_goals (with_reducible rfl)))
          simp only [Act.put, List.setIfInBounds_toArray, List.set_cons_succ, List.set_cons_zero]
          first
            | (refine rg_skip 48 rfl (by kernel_rfl) (by kernel_rfl) (by kernel_rfl) (fun _ _ _ h => h) HS ?_ ?_; rfl)
            | (refine rg_take 48 (v := ?_) rfl (by kernel_rfl) (by kernel_rfl) (by kernel_rfl) (fun _ _ _ h => h) HS ?_ ?_ ?_; rotate_left; rfl; focus (intro w hSw; (try dsimp only at hSw); go_simp; all_goals (with_reducible rfl)))
          simp only [Act.put, List.setIfInBounds_toArray, List.set_cons_succ, List.set_cons_zero]
          first
            | (refine rg_skip 49 rfl (by kernel_rfl) (by kernel_rfl) (by kernel_rfl) (fun _ _ _ h => h) HS ?_ ?_; rfl)
            | (refine rg_take 49 (v := ?_) rfl (by kernel_rfl) (by kernel_rfl) (by kernel_rfl) (fun _ _ _ h => h) HS ?_ ?_ ?_; rotate_left; rfl; focus (intro w hSw; (try dsimp only at hSw); go_simp; all_goals (with_reducible rfl)))
          simp only [Act.put, List.setIfInBounds_toArray, List.set_cons_succ, List.set_cons_zero]
          first
            | (refine rg_skip 50 rfl (by kernel_rfl) (by kernel_rfl) (by kernel_rfl) (fun _ _ _ h => h) HS ?_ ?_; rfl)
            | (refine rg_take 50 (v := ?_) rfl (by kernel_rfl) (by kernel_rfl) (by kernel_rfl) (fun _ _ _ h => h) HS ?_ ?_ ?_; rotate_left; rfl; focus (intro w hSw; (try dsimp only at hSw); go_simp; all_goals (with_reducible rfl)))
          simp only [Act.put, List.setIfInBounds_toArray, List.set_cons_succ, List.set_cons_zero]
          first
            | (refine rg_skip 51 rfl (by kernel_rfl) (by kernel_rfl) (by kernel_rfl) (fun _ _ _ h => h) HS ?_ ?_; rfl)
            | (refine rg_take 51 (v := ?_) rfl (by kernel_rfl) (by kernel_rfl) (by kernel_rfl) (fun _ _ _ h => h) HS ?_ ?_ ?_; rotate_left; rfl; focus (intro w hSw; (try dsimp only at hSw); go_simp; all_goals (with_reducible rfl)))
          simp only [Act.put, List.setIfInBounds_toArray, List.set_cons_succ, List.set_cons_zero]
          first
            | (refine rg_skip 52 rfl (by kernel_rfl) (by kernel_rfl) (by kernel_rfl) (fun _ _ _ h => h) HS ?_ ?_; rfl)
            | (refine rg_take 52 (v := ?_) rfl (by kernel_rfl) (by kernel_rfl) (by kernel_rfl) (fun _ _ _ h => h) HS ?_ ?_ ?_; rotate_left; rfl; focus (intro w hSw; (try dsimp only at hSw); go_simp; all_goals (with_reducible rfl)))
          simp only [Act.put, List.setIfInBounds_toArray, List.set_cons_succ, List.set_cons_zero]
          first
            | (refine rg_skip 53 rfl (by kernel_rfl) (by kernel_rfl) (by kernel_rfl) (fun _ _ _ h => h) HS ?_ ?_; rfl)
            | (refine rg_take 53 (v := ?_) rfl (by kernel_rfl) (by kernel_rfl) (by kernel_rfl) (fun _ _ _ h => h) HS ?_ ?_ ?_; rotate_left; rfl; focus (intro w hSw; (try dsimp only at hSw); go_simp; all_goals (with_reducible rfl)))
          simp only [Act.put, List.setIfInBounds_toArray, List.set_cons_succ, List.set_cons_zero]
          first
            | (refine rg_skip 54 rfl (by kernel_rfl) (by kernel_rfl) (by kernel_rfl) (fun _ _ _ h => h) HS ?_ ?_; rfl)
            | (refine rg_take 54 (v := ?_) rfl (by kernel_rfl) (by kernel_rfl) (by kernel_rfl) (fun _ _ _ h => h) HS ?_ ?_ ?_; rotate_left; rfl; focus (intro w hSw; (try dsimp only at hSw); go_simp; all_goals (with_reducible rfl)))
          simp only [Act.put, List.setIfInBounds_toArray, List.set_cons_succ, List.set_cons_zero]
          refine wpAnyH_done (by kernel_rfl) ?_ _
          clear HS
          go_wp2_with fail
          go_roundw
          case rel => exact ⟨q + 1, HLT.out, by go_num, HK⟩
          case measure => have := HLT.out; simp [intOf]; omega
        · obtain ⟨p, rfl⟩ : ∃ p, q = p + 1 := ⟨q - 1, by omega⟩
          have hzb : decide (0 < p + 1) = true := by simp
          have hy : B[p]? = some (B[p]'(by rw [HBL.out]; omega)) := List.getElem?_eq_getElem _
          generalize B[p]'(by rw [HBL.out]; omega) = y at hy
          have haft := rise_at HRISE.out hy hx
          obtain ⟨g', c1', bv', he1, _, _, hr2, _⟩ := (HBT.out.new hkr.out).row hy
          rw [HBL.out] at he1
          injection he1 with e1 e2 e3
          injection e1 with e1
          injection e1 with e1
          subst e1 e3
          clear e2
          have HK := Lib.hid hkr.out.drew
          have hp1 : ((p + 1 : Nat) : Int) = (p : Int) + 1 := by omega
          rw [hp1] at hq0 hq9 ⊢
          have hpi : (p : Int) < 48 := by omega
          have hp0 : (0 : Int) ≤ p := by omega
          have hpn : p < n := by omega
          have hzb2 : decide ((0 : Int) < (p : Int) + 1) = true := decide_eq_true (by omega)
          have hwq : IntKind.u64.wrap ((p : Int) + 1 + 1) = (p : Int) + 1 + 1 := by rw [wrap_u64']; omega
          have hwi : IntKind.i64.wrap ((p : Int) + 1 + 1) = (p : Int) + 1 + 1 := i64_smallK _ (by omega) (by omega)
          have hws : IntKind.i64.wrap (p : Int) = (p : Int) := i64_smallK _ (by omega) (by omega)
          have hS0 : wr.drew.cell? ⟨g, (p + 1) * 5, none⟩ = some (.int .u64 ((p : Int) + 1 + 1)) := by
            have := hr1 0 _ rfl
            rw [hsq] at this
            exact this
          have HS : (fun (w' : World) => w'.cell? ⟨g, (p + 1) * 5, none⟩ = some (.int .u64 ((p : Int) + 1 + 1)) ∧ w'.cell? ⟨g, (p + 1) * 5 + 3, none⟩ = some (.int .i64 x.file) ∧ w'.cell? ⟨g, (p + 1) * 5 + 4, none⟩ = some (.int .i64 x.pos) ∧ w'.cell? ⟨g, p * 5 + 3, none⟩ = some (.int .i64 y.file) ∧ w'.cell? ⟨g, p * 5 + 4, none⟩ = some (.int .i64 y.pos)) wr.drew :=
            ⟨hS0, hr1 3 _ rfl, hr1 4 _ rfl, hr2 3 _ rfl, hr2 4 _ rfl⟩
          have hcase : ((decide ((x.file : Int) < (y.file : Int)) = false ∧ decide (x.file < y.file) = false) ∧ (((y.file : Int) == (x.file : Int)) = false ∧ (y.file == x.file) = false)) ∨ ((decide ((x.file : Int) < (y.file : Int)) = false ∧ decide (x.file < y.file) = false) ∧ (((y.file : Int) == (x.file : Int)) = true ∧ (y.file == x.file) = true) ∧ (decide ((x.pos : Int) ≤ (y.pos : Int)) = false ∧ decide (x.pos ≤ y.pos) = false)) := by
            simp only [decide_eq_false_iff_not, beq_iff_eq, beq_eq_false_iff_ne, ne_eq]
            rcases haft with h1 | ⟨h1, h2⟩ <;> omega
          clear hx hy hsq hr1 hr2 hlt hkr hz hS0 haft hp1
          rcases hcase with ⟨⟨h1, h1'⟩, h2, h2'⟩ | ⟨⟨h1, h1'⟩, ⟨h2, h2'⟩, h3, h3'⟩
          all_goals
            as_aux_lemma =>
            go_upto_region 23 with fail
            refine wp_region_held_drew (S := (fun (w' : World) => w'.cell? ⟨g, (p + 1) * 5, none⟩ = some (.int .u64 ((p : Int) + 1 + 1)) ∧ w'.cell? ⟨g, (p + 1) * 5 + 3, none⟩ = some (.int .i64 x.file) ∧ w'.cell? ⟨g, (p + 1) * 5 + 4, none⟩ = some (.int .i64 x.pos) ∧ w'.cell? ⟨g, p * 5 + 3, none⟩ = some (.int .i64 y.file) ∧ w'.cell? ⟨g, p * 5 + 4, none⟩ = some (.int .i64 y.pos))) (by kernel_rfl) HS (fun _ => ?_)
            first
              | (refine rg_skip 0 rfl (by kernel_rfl) (by kernel_rfl) (by kernel_rfl) (fun _ _ _ h => h) HS ?_ ?_; rfl)
              | (refine rg_take 0 (v := ?_) rfl (by kernel_rfl) (by kernel_rfl) (by kernel_rfl) (fun _ _ _ h => h) HS ?_ ?_ ?_; rotate_left; rfl; focus (intro w hSw; (try dsimp only at hSw); go_simp; all_goals (with_reducible rfl)))
            simp only [Act.put, List.setIfInBounds_toArray, List.set_cons_succ, List.set_cons_zero]
            first
              | (refine rg_skip 1 rfl (by kernel_rfl) (by kernel_rfl) (by kernel_rfl) (fun _ _ _ h => h) HS ?_ ?_; rfl)
              | (refine rg_take 1 (v := ?_) rfl (by kernel_rfl) (by kernel_rfl) (by kernel_rfl) (fun _ _ _ h => h) HS ?_ ?_ ?_; rotate_left; rfl; focus (intro w hSw; (try dsimp only at hSw); go_simp; all_goals (with_reducible rfl)))
            simp only [Act.put, List.setIfInBounds_toArray, List.set_cons_succ, List.set_cons_zero]
            first
              | (refine rg_skip 2 rfl (by kernel_rfl) (by kernel_rfl) (by kernel_rfl) (fun _ _ _ h => h) HS ?_ ?_; rfl)
              | (refine rg_take 2 (v := ?_) rfl (by kernel_rfl) (by kernel_rfl) (by kernel_rfl) (fun _ _ _ h => h) HS ?_ ?_ ?_; rotate_left; rfl; focus (intro w hSw; (try dsimp only at hSw); go_simp; all_goals (with_reducible rfl)))
            simp only [Act.put, List.setIfInBounds_toArray, List.set_cons_succ, List.set_cons_zero]
            first
              | (refine rg_skip 3 rfl (by kernel_rfl) (by kernel_rfl) (by kernel_rfl) (fun _ _ _ h => h) HS ?_ ?_; rfl)
              | (refine rg_take 3 (v := ?_) rfl (by kernel_rfl) (by kernel_rfl) (by kernel_rfl) (fun _ _ _ h => h) HS ?_ ?_ ?_; rotate_left; rfl; focus (intro w hSw; (try dsimp only at hSw); go_simp; all_goals (with_reducible rfl)))
            simp only [Act.put, List.setIfInBounds_toArray, List.set_cons_succ, List.set_cons_zero]
            first
              | (refine rg_skip 4 rfl (by kernel_rfl) (by kernel_rfl) (by kernel_rfl) (fun _ _ _ h => h) HS ?_ ?_; rfl)
              | (refine rg_take 4 (v := ?_) rfl (by kernel_rfl) (by kernel_rfl) (by kernel_rfl) (fun _ _ _ h => h) HS ?_ ?_ ?_; rotate_left; rfl; focus (intro w hSw; (try dsimp only at hSw); go_simp; all_goals (with_reducible rfl)))
            simp only [Act.put, List.setIfInBounds_toArray, List.set_cons_succ, List.set_cons_zero]
            first
              | (refine rg_skip 5 rfl (by kernel_rfl) (by kernel_rfl) (by kernel_rfl) (fun _ _ _ h => h) HS ?_ ?_; rfl)
              | (refine rg_take 5 (v := ?_) rfl (by kernel_rfl) (by kernel_rfl) (by kernel_rfl) (fun _ _ _ h => h) HS ?_ ?_ ?_; rotate_left; rfl; focus (intro w hSw; (try dsimp only at hSw); go_simp; all_goals (with_reducible rfl)))
            simp only [Act.put, List.setIfInBounds_toArray, List.set_cons_succ, List.set_cons_zero]
            first
              | (refine rg_skip 6 rfl (by kernel_rfl) (by kernel_rfl) (by kernel_rfl) (fun _ _ _ h => h) HS ?_ ?_; rfl)
              | (refine rg_take 6 (v := ?_) rfl (by kernel_rfl) (by kernel_rfl) (by kernel_rfl) (fun _ _ _ h => h) HS ?_ ?_ ?_; rotate_left; rfl; focus (intro w hSw; (try dsimp only at hSw); go_simp; all_goals (with_reducible rfl)))
            simp only [Act.put, List.setIfInBounds_toArray, List.set_cons_succ, List.set_cons_zero]
            first
              | (refine rg_skip 7 rfl (by kernel_rfl) (by kernel_rfl) (by kernel_rfl) (fun _ _ _ h => h) HS ?_ ?_; rfl)
              | (refine rg_take 7 (v := ?_) rfl (by kernel_rfl) (by kernel_rfl) (by kernel_rfl) (fun _ _ _ h => h) HS ?_ ?_ ?_; rotate_left; rfl; focus (intro w hSw; (try dsimp only at hSw); go_simp; all_goals (with_reducible rfl)))
            simp only [Act.put, List.setIfInBounds_toArray, List.set_cons_succ, List.set_cons_zero]
            first
              | (refine rg_skip 8 rfl (by kernel_rfl) (by kernel_rfl) (by kernel_rfl) (fun _ _ _ h => h) HS ?_ ?_; rfl)
              | (refine rg_take 8 (v := ?_) rfl (by kernel_rfl) (by kernel_rfl) (by kernel_rfl) (fun _ _ _ h => h) HS ?_ ?_ ?_; rotate_left; rfl; focus (intro w hSw; (try dsimp only at hSw); go_simp; all_goals (with_reducible rfl)))
            simp only [Act.put, List.setIfInBounds_toArray, List.set_cons_succ, List.set_cons_zero]
            first
              | (refine rg_skip 9 rfl (by kernel_rfl) (by kernel_rfl) (by kernel_rfl) (fun _ _ _ h => h) HS ?_ ?_; rfl)
              | (refine rg_take 9 (v := ?_) rfl (by kernel_rfl) (by kernel_rfl) (by kernel_rfl) (fun _ _ _ h => h) HS ?_ ?_ ?_; rotate_left; rfl; focus (intro w hSw; (try dsimp only at hSw); go_simp; all_goals (with_reducible rfl)))
            simp only [Act.put, List.setIfInBounds_toArray, List.set_cons_succ, List.set_cons_zero]
            first
              | (refine rg_skip 10 rfl (by kernel_rfl) (by kernel_rfl) (by kernel_rfl) (fun _ _ _ h => h) HS ?_ ?_; rfl)
              | (refine rg_take 10 (v := ?_) rfl (by kernel_rfl) (by kernel_rfl) (by kernel_rfl) (fun _ _ _ h => h) HS ?_ ?_ ?_; rotate_left; rfl; focus (intro w hSw; (try dsimp only at hSw); go_simp; all_goals (with_reducible rfl)))
            simp only [Act.put, List.setIfInBounds_toArray, List.set_cons_succ, List.set_cons_zero]
            first
              | (refine rg_skip 11 rfl (by kernel_rfl) (by kernel_rfl) (by kernel_rfl) (fun _ _ _ h => h) HS ?_ ?_; rfl)
              | (refine rg_take 11 (v := ?_) rfl (by kernel_rfl) (by kernel_rfl) (by kernel_rfl) (fun _ _ _ h => h) HS ?_ ?_ ?_; rotate_left; rfl; focus (intro w hSw; (try dsimp only at hSw); go_simp; all_goals (with_reducible rfl)))
            simp only [Act.put, List.setIfInBounds_toArray, List.set_cons_succ, List.set_cons_zero]
            first
              | (refine rg_skip 12 rfl (by kernel_rfl) (by kernel_rfl) (by kernel_rfl) (fun _ _ _ h => h) HS ?_ ?_; rfl)
              | (refine rg_take 12 (v := ?_) rfl (by kernel_rfl) (by kernel_rfl) (by kernel_rfl) (fun _ _ _ h => h) HS ?_ ?_ ?_; rotate_left; rfl; focus (intro w hSw; (try dsimp only at hSw); go_simp; all_goals (with_reducible rfl)))
            simp only [Act.put, List.setIfInBounds_toArray, List.set_cons_succ, List.set_cons_zero]
            first
              | (refine rg_skip 13 rfl (by kernel_rfl) (by kernel_rfl) (by kernel_rfl) (fun _ _ _ h => h) HS ?_ ?_; rfl)
              | (refine rg_take 13 (v := ?_) rfl (by kernel_rfl) (by kernel_rfl) (by kernel_rfl) (fun _ _ _ h => h) HS ?_ ?_ ?_; rotate_left; rfl; focus (intro w hSw; (try dsimp only at hSw); go_simp; all_goals (with_reducible rfl)))
            simp only [Act.put, List.setIfInBounds_toArray, List.set_cons_succ, List.set_cons_zero]
            first
              | (refine rg_skip 14 rfl (by kernel_rfl) (by kernel_rfl) (by kernel_rfl) (fun _ _ _ h => h) HS ?_ ?_; rfl)
              | (refine rg_take 14 (v := ?_) rfl (by kernel_rfl) (by kernel_rfl) (by kernel_rfl) (fun _ _ _ h => h) HS ?_ ?_ ?_; rotate_left; rfl; focus (intro w hSw; (try dsimp only at hSw); go_simp; all_goals (with_reducible rfl)))
            simp only [Act.put, List.setIfInBounds_toArray, List.set_cons_succ, List.set_cons_zero]
            first
              | (refine rg_skip 15 rfl (by kernel_rfl) (by kernel_rfl) (by kernel_rfl) (fun _ _ _ h => h) HS ?_ ?_; rfl)
              | (refine rg_take 15 (v := ?_) rfl (by kernel_rfl) (by kernel_rfl) (by kernel_rfl) (fun _ _ _ h => h) HS ?_ ?_ ?_; rotate_left; rfl; focus (intro w hSw; (try dsimp only at hSw); go_simp; all_goals (with_reducible rfl)))
            simp only [Act.put, List.setIfInBounds_toArray, List.set_cons_succ, List.set_cons_zero]
            first
              | (refine rg_skip 16 rfl (by kernel_rfl) (by kernel_rfl) (by kernel_rfl) (fun _ _ _ h => h) HS ?_ ?_; rfl)
              | (refine rg_take 16 (v := ?_) rfl (by kernel_rfl) (by kernel_rfl) (by kernel_rfl) (fun _ _ _ h => h) HS ?_ ?_ ?_; rotate_left; rfl; focus (intro w hSw; (try dsimp only at hSw); go_simp; all_goals (with_reducible rfl)))
            simp only [Act.put, List.setIfInBounds_toArray, List.set_cons_succ, List.set_cons_zero]
            first
              | (refine rg_skip 17 rfl (by kernel_rfl) (by kernel_rfl) (by kernel_rfl) (fun _ _ _ h => h) HS ?_ ?_; rfl)
              | (refine rg_take 17 (v := ?_) rfl (by kernel_rfl) (by kernel_rfl) (by kernel_rfl) (fun _ _ _ h => h) HS ?_ ?_ ?_; rotate_left; rfl; focus (intro w hSw; (try dsimp only at hSw); go_simp; all_goals (with_reducible rfl)))
            simp only [Act.put, List.setIfInBounds_toArray, List.set_cons_succ, List.set_cons_zero]
            first
              | (refine rg_skip 18 rfl (by kernel_rfl) (by kernel_rfl) (by kernel_rfl) (fun _ _ _ h => h) HS ?_ ?_; rfl)
              | (refine rg_take 18 (v := ?_) rfl (by kernel_rfl) (by kernel_rfl) (by kernel_rfl) (fun _ _ _ h => h) HS ?_ ?_ ?_; rotate_left; rfl; focus (intro w hSw; (try dsimp only at hSw); go_simp; all_goals (with_reducible rfl)))
            simp only [Act.put, List.setIfInBounds_toArray, List.set_cons_succ, List.set_cons_zero]
            first
              | (refine rg_skip 19 rfl (by kernel_rfl) (by kernel_rfl) (by kernel_rfl) (fun _ _ _ h => h) HS ?_ ?_; rfl)
              | (refine rg_take 19 (v := ?_) rfl (by kernel_rfl) (by kernel_rfl) (by kernel_rfl) (fun _ _ _ h => h) HS ?_ ?_ ?_; rotate_left; rfl; focus (intro w hSw; (try dsimp only at hSw); go_simp; all_goals (with_reducible rfl)))
            simp only [Act.put, List.setIfInBounds_toArray, List.set_cons_succ, List.set_cons_zero]
            first
              | (refine rg_skip 20 rfl (by kernel_rfl) (by kernel_rfl) (by kernel_rfl) (fun _ _ _ h => h) HS ?_ ?_; rfl)
              | (refine rg_take 20 (v := ?_) rfl (by kernel_rfl) (by kernel_rfl) (by kernel_rfl) (fun _ _ _ h => h) HS ?_ ?_ ?_; rotate_left; rfl; focus (intro w hSw; (try dsimp only at hSw); go_simp; all_goals (with_reducible rfl)))
            simp only [Act.put, List.setIfInBounds_toArray, List.set_cons_succ, List.set_cons_zero]
            first
              | (refine rg_skip 21 rfl (by kernel_rfl) (by kernel_rfl) (by kernel_rfl) (fun _ _ _ h => h) HS ?_ ?_; rfl)
              | (refine rg_take 21 (v := ?_) rfl (by kernel_rfl) (by kernel_rfl) (by kernel_rfl) (fun _ _ _ h => h) HS ?_ ?_ ?_; rotate_left; rfl; focus (intro w hSw; (try dsimp only at hSw); go_simp; all_goals (with_reducible rfl)))
            simp only [Act.put, List.setIfInBounds_toArray, List.set_cons_succ, List.set_cons_zero]
            first
              | (refine rg_skip 22 rfl (by kernel_rfl) (by kernel_rfl) (by kernel_rfl) (fun _ _ _ h => h) HS ?_ ?_; rfl)
              | (refine rg_take 22 (v := ?_) rfl (by kernel_rfl) (by kernel_rfl) (by kernel_rfl) (fun _ _ _ h => h) HS ?_ ?_ ?_; rotate_left; rfl; focus (intro w hSw; (try dsimp only at hSw); go_simp; all_goals (with_reducible rfl)))
            simp only [Act.put, List.setIfInBounds_toArray, List.set_cons_succ, List.set_cons_zero]
            first
              | (refine rg_skip 23 rfl (by kernel_rfl) (by kernel_rfl) (by kernel_rfl) (fun _ _ _ h => h) HS ?_ ?_; rfl)
              | (refine rg_take 23 (v := ?_) rfl (by kernel_rfl) (by kernel_rfl) (by kernel_rfl) (fun _ _ _ h => h) HS ?_ ?_ ?_; rotate_left; rfl; focus (intro w hSw; (try dsimp only at hSw); go_simp; all_goals (with_reducible rfl)))
            simp only [Act.put, List.setIfInBounds_toArray, List.set_cons_succ, List.set_cons_zero]
            first
              | (refine rg_skip 24 rfl (by kernel_rfl) (by kernel_rfl) (by kernel_rfl) (fun _ _ _ h => h) HS ?_ ?_; rfl)
              | (refine rg_take 24 (v := ?_) rfl (by kernel_rfl) (by kernel_rfl) (by kernel_rfl) (fun _ _ _ h => h) HS ?_ ?_ ?_; rotate_left; rfl; focus (intro w hSw; (try dsimp only at hSw); go_simp; all_goals (with_reducible rfl)))
            simp only [Act.put, List.setIfInBounds_toArray, List.set_cons_succ, List.set_cons_zero]
            first
              | (refine rg_skip 25 rfl (by kernel_rfl) (by kernel_rfl) (by kernel_rfl) (fun _ _ _ h => h) HS ?_ ?_; rfl)
              | (refine rg_take 25 (v := ?_) rfl (by kernel_rfl) (by kernel_rfl) (by kernel_rfl) (fun _ _ _ h => h) HS ?_ ?_ ?_; rotate_left; rfl; focus (intro w hSw; (try dsimp only at hSw); go_simp; all_goals (with_reducible rfl)))
            simp only [Act.put, List.setIfInBounds_toArray, List.set_cons_succ, List.set_cons_zero]
            first
              | (refine rg_skip 26 rfl (by kernel_rfl) (by kernel_rfl) (by kernel_rfl) (fun _ _ _ h => h) HS ?_ ?_; rfl)
              | (refine rg_take 26 (v := ?_) rfl (by kernel_rfl) (by kernel_rfl) (by kernel_rfl) (fun _ _ _ h => h) HS ?_ ?_ ?_; rotate_left; rfl; focus (intro w hSw; (try dsimp only at hSw); go_simp; all_goals (with_reducible rfl)))
            simp only [Act.put, List.setIfInBounds_toArray, List.set_cons_succ, List.set_cons_zero]
            first
              | (refine rg_skip 27 rfl (by kernel_rfl) (by kernel_rfl) (by kernel_rfl) (fun _ _ _ h => h) HS ?_ ?_; rfl)
              | (refine rg_take 27 (v := ?_) rfl (by kernel_rfl) (by kernel_rfl) (by kernel_rfl) (fun _ _ _ h => h) HS ?_ ?_ ?_; rotate_left; rfl; focus (intro w hSw; (try dsimp only at hSw); go_simp; all_goals (with_reducible rfl)))
            simp only [Act.put, List.setIfInBounds_toArray, List.set_cons_succ, List.set_cons_zero]
            first
              | (refine rg_skip 28 rfl (by kernel_rfl) (by kernel_rfl) (by kernel_rfl) (fun _ _ _ h => h) HS ?_ ?_; rfl)
              | (refine rg_take 28 (v := ?_) rfl (by kernel_rfl) (by kernel_rfl) (by kernel_rfl) (fun _ _ _ h => h) HS ?_ ?_ ?_; rotate_left; rfl; focus (intro w hSw; (try dsimp only at hSw); go_simp; all_goals (with_reducible rfl)))
            simp only [Act.put, List.setIfInBounds_toArray, List.set_cons_succ, List.set_cons_zero]
            first
              | (refine rg_skip 29 rfl (by kernel_rfl) (by kernel_rfl) (by kernel_rfl) (fun _ _ _ h => h) HS ?_ ?_; rfl)
              | (refine rg_take 29 (v := ?_) rfl (by kernel_rfl) (by kernel_rfl) (by kernel_rfl) (fun _ _ _ h => h) HS ?_ ?_ ?_; rotate_left; rfl; focus (intro w hSw; (try dsimp only at hSw); go_simp; all_goals (with_reducible rfl)))
            simp only [Act.put, List.setIfInBounds_toArray, List.set_cons_succ, List.set_cons_zero]
            first
              | (refine rg_skip 30 rfl (by kernel_rfl) (by kernel_rfl) (by kernel_rfl) (fun _ _ _ h => h) HS ?_ ?_; rfl)
              | (refine rg_take 30 (v := ?_) rfl (by kernel_rfl) (by kernel_rfl) (by kernel_rfl) (fun _ _ _ h => h) HS ?_ ?_ ?_; rotate_left; rfl; focus (intro w hSw; (try dsimp only at hSw); go_simp; all_goals (with_reducible rfl)))
            simp only [Act.put, List.setIfInBounds_toArray, List.set_cons_succ, List.set_cons_zero]
            first
              | (refine rg_skip 31 rfl (by kernel_rfl) (by kernel_rfl) (by kernel_rfl) (fun _ _ _ h => h) HS ?_ ?_; rfl)
              | (refine rg_take 31 (v := ?_) rfl (by kernel_rfl) (by kernel_rfl) (by kernel_rfl) (fun _ _ _ h => h) HS ?_ ?_ ?_; rotate_left; rfl; focus (intro w hSw; (try dsimp only at hSw); go_simp; all_goals (with_reducible rfl)))
            simp only [Act.put, List.setIfInBounds_toArray, List.set_cons_succ, List.set_cons_zero]
            first
              | (refine rg_skip 32 rfl (by kernel_rfl) (by kernel_rfl) (by kernel_rfl) (fun _ _ _ h => h) HS ?_ ?_; rfl)
              | (refine rg_take 32 (v := ?_) rfl (by kernel_rfl) (by kernel_rfl) (by kernel_rfl) (fun _ _ _ h => h) HS ?_ ?_ ?_; rotate_left; rfl; focus (intro w hSw; (try dsimp only at hSw); go_simp; all_goals (with_reducible rfl)))
            simp only [Act.put, List.setIfInBounds_toArray, List.set_cons_succ, List.set_cons_zero]
            first
              | (refine rg_skip 33 rfl (by kernel_rfl) (by kernel_rfl) (by kernel_rfl) (fun _ _ _ h => h) HS ?_ ?_; rfl)
              | (refine rg_take 33 (v := ?_) rfl (by kernel_rfl) (by kernel_rfl) (by kernel_rfl) (fun _ _ _ h => h) HS ?_ ?_ ?_; rotate_left; rfl; focus (intro w hSw; (try dsimp only at hSw); go_simp; all_goals (with_reducible rfl)))
            simp only [Act.put, List.setIfInBounds_toArray, List.set_cons_succ, List.set_cons_zero]
            first
              | (refine rg_skip 34 rfl (by kernel_rfl) (by kernel_rfl) (by kernel_rfl) (fun _ _ _ h => h) HS ?_ ?_; rfl)
              | (refine rg_take 34 (v := ?_) rfl (by kernel_rfl) (by kernel_rfl) (by kernel_rfl) (fun _ _ _ h => h) HS ?_ ?_ ?_; rotate_left; rfl; focus (intro w hSw; (try dsimp only at hSw); go_simp; all_goals (with_reducible rfl)))
            simp only [Act.put, List.setIfInBounds_toArray, List.set_cons_succ, List.set_cons_zero]
            first
              | (refine rg_skip 35 rfl (by kernel_rfl) (by kernel_rfl) (by kernel_rfl) (fun _ _ _ h => h) HS ?_ ?_; rfl)
              | (refine rg_take 35 (v := ?_) rfl (by kernel_rfl) (by kernel_rfl) (by kernel_rfl) (fun _ _ _ h => h) HS ?_ ?_ ?_; rotate_left; rfl; focus (intro w hSw; (try dsimp only at hSw); go_simp; all_goals (with_reducible rfl)))
            simp only [Act.put, List.setIfInBounds_toArray, List.set_cons_succ, List.set_cons_zero]
            first
              | (refine rg_skip 36 rfl (by kernel_rfl) (by kernel_rfl) (by kernel_rfl) (fun _ _ _ h => h) HS ?_ ?_; rfl)
              | (refine rg_take 36 (v := ?_) rfl (by kernel_rfl) (by kernel_rfl) (by kernel_rfl) (fun _ _ _ h => h) HS ?_ ?_ ?_; rotate_left; rfl; focus (intro w hSw; (try dsimp only at hSw); go_simp; all_goals (with_reducible rfl)))
            simp only [Act.put, List.setIfInBounds_toArray, List.set_cons_succ, List.set_cons_zero]
            first
              | (refine rg_skip 37 rfl (by kernel_rfl) (by kernel_rfl) (by kernel_rfl) (fun _ _ _ h => h) HS ?_ ?_; rfl)
              | (refine rg_take 37 (v := ?_) rfl (by kernel_rfl) (by kernel_rfl) (by kernel_rfl) (fun _ _ _ h => h) HS ?_ ?_ ?_; rotate_left; rfl; focus (intro w hSw; (try dsimp only at hSw); go_simp; all_goals (with_reducible rfl)))
            simp only [Act.put, List.setIfInBounds_toArray, List.set_cons_succ, List.set_cons_zero]
            first
              | (refine rg_skip 38 rfl (by kernel_rfl) (by kernel_rfl) (by kernel_rfl) (fun _ _ _ h => h) HS ?_ ?_; rfl)
              | (refine rg_take 38 (v := ?_) rfl (by kernel_rfl) (by kernel_rfl) (by kernel_rfl) (fun _ _ _ h => h) HS ?_ ?_ ?_; rotate_left; rfl; focus (intro w hSw; (try dsimp only at hSw); go_simp; all_goals (with_reducible rfl)))
            simp only [Act.put, List.setIfInBounds_toArray, List.set_cons_succ, List.set_cons_zero]
            first
              | (refine rg_skip 39 rfl (by kernel_rfl) (by kernel_rfl) (by kernel_rfl) (fun _ _ _ h => h) HS ?_ ?_; rfl)
              | (refine rg_take 39 (v := ?_) rfl (by kernel_rfl) (by kernel_rfl) (by kernel_rfl) (fun _ _ _ h => h) HS ?_ ?_ ?_; rotate_left; rfl; focus (intro w hSw; (try dsimp only at hSw); go_simp; all_goals (with_reducible rfl)))
            simp only [Act.put, List.setIfInBounds_toArray, List.set_cons_succ, List.set_cons_zero]
            first
              | (refine rg_skip 40 rfl (by kernel_rfl) (by kernel_rfl) (by kernel_rfl) (fun _ _ _ h => h) HS ?_ ?_; rfl)
              | (refine rg_take 40 (v := ?_) rfl (by kernel_rfl) (by kernel_rfl) (by kernel_rfl) (fun _ _ _ h => h) HS ?_ ?_ ?_; rotate_left; rfl; focus (intro w hSw; (try dsimp only at hSw); go_simp; all_goals (with_reducible rfl)))
            simp only [Act.put, List.setIfInBounds_toArray, List.set_cons_succ, List.set_cons_zero]
            first
              | (refine rg_skip 41 rfl (by kernel_rfl) (by kernel_rfl) (by kernel_rfl) (fun _ _ _ h => h) HS ?_ ?_; rfl)
              | (refine rg_take 41 (v := ?_) rfl (by kernel_rfl) (by kernel_rfl) (by kernel_rfl) (fun _ _ _ h => h) HS ?_ ?_ ?_; rotate_left; rfl; focus (intro w hSw; (try dsimp only at hSw); go_simp; all_goals (with_reducible rfl)))
            simp only [Act.put, List.setIfInBounds_toArray, List.set_cons_succ, List.set_cons_zero]
            first
              | (refine rg_skip 42 rfl (by kernel_rfl) (by kernel_rfl) (by kernel_rfl) (fun _ _ _ h => h) HS ?_ ?_; rfl)
              | (refine rg_take 42 (v := ?_) rfl (by kernel_rfl) (by kernel_rfl) (by kernel_rfl) (fun _ _ _ h => h) HS ?_ ?_ ?_; rotate_left; rfl; focus (intro w hSw; (try dsimp only at hSw); go_simp; all_goals (with_reducible rfl)))
            simp only [Act.put, List.setIfInBounds_toArray, List.set_cons_succ, List.set_cons_zero]
            first
              | (refine rg_skip 43 rfl (by kernel_rfl) (by kernel_rfl) (by kernel_rfl) (fun _ _ _ h => h) HS ?_ ?_; rfl)
              | (refine rg_take 43 (v := ?_) rfl (by kernel_rfl) (by kernel_rfl) (by kernel_rfl) (fun _ _ _ h => h) HS ?_ ?_ ?_; rotate_left; rfl; focus (intro w hSw; (try dsimp only at hSw); go_simp; all_goals (with_reducible rfl)))
            simp only [Act.put, List.setIfInBounds_toArray, List.set_cons_succ, List.set_cons_zero]
            first
              | (refine rg_skip 44 rfl (by kernel_rfl) (by kernel_rfl) (by kernel_rfl) (fun _ _ _ h => h) HS ?_ ?_; rfl)
              | (refine rg_take 44 (v := ?_) rfl (by kernel_rfl) (by kernel_rfl) (by kernel_rfl) (fun _ _ _ h => h) HS ?_ ?_ ?_; rotate_left; rfl; focus (intro w hSw; (try dsimp only at hSw); go_simp; all_goals (with_reducible rfl)))
            simp only [Act.put, List.setIfInBounds_toArray, List.set_cons_succ, List.set_cons_zero]
            first
              | (refine rg_skip 45 rfl (by kernel_rfl) (by kernel_rfl) (by kernel_rfl) (fun _ _ _ h => h) HS ?_ ?_; rfl)
              | (refine rg_take 45 (v := ?_) rfl (by kernel_rfl) (by kernel_rfl) (by kernel_rfl) (fun _ _ _ h => h) HS ?_ ?_ ?_; rotate_left; rfl; focus (intro w hSw; (try dsimp only at hSw); go_simp; all_goals (with_reducible rfl)))
            simp only [Act.put, List.setIfInBounds_toArray, List.set_cons_succ, List.set_cons_zero]
            first
              | (refine rg_skip 46 rfl (by kernel_rfl) (by kernel_rfl) (by kernel_rfl) (fun _ _ _ h => h) HS ?_ ?_; rfl)
              | (refine rg_take 46 (v := ?_) rfl (by kernel_rfl) (by kernel_rfl) (by kernel_rfl) (fun _ _ _ h => h) HS ?_ ?_ ?_; rotate_left; rfl; focus (intro w hSw; (try dsimp only at hSw); go_simp; all_goals (with_reducible rfl)))
            simp only [Act.put, List.setIfInBounds_toArray, List.set_cons_succ, List.set_cons_zero]
            first
              | (refine rg_skip 47 rfl (by kernel_rfl) (by kernel_rfl) (by kernel_rfl) (fun _ _ _ h => h) HS ?_ ?_; rfl)
              | (refine rg_take 47 (v := ?_) rfl (by kernel_rfl) (by kernel_rfl) (by kernel_rfl) (fun _ _ _ h => h) HS ?_ ?_ ?_; rotate_left; rfl; focus (intro w hSw; (try dsimp only at hSw); go_simp; all_goals (with_reducible rfl)))
            simp only [Act.put, List.setIfInBounds_toArray, List.set_cons_succ, List.set_cons_zero]
            first
              | (refine rg_skip 48 rfl (by kernel_rfl) (by kernel_rfl) (by kernel_rfl) (fun _ _ _ h => h) HS ?_ ?_; rfl)
              | (refine rg_take 48 (v := ?_) rfl (by kernel_rfl) (by kernel_rfl) (by kernel_rfl) (fun _ _ _ h => h) HS ?_ ?_ ?_; rotate_left; rfl; focus (intro w hSw; (try dsimp only at hSw); go_simp; all_goals (with_reducible rfl)))
            simp only [Act.put, List.setIfInBounds_toArray, List.set_cons_succ, List.set_cons_zero]
            first
              | (refine rg_skip 49 rfl (by kernel_rfl) (by kernel_rfl) (by kernel_rfl) (fun _ _ _ h => h) HS ?_ ?_; rfl)
              | (refine rg_take 49 (v := ?_) rfl (by kernel_rfl) (by kernel_rfl) (by kernel_rfl) (fun _ _ _ h => h) HS ?_ ?_ ?_; rotate_left; rfl; focus (intro w hSw; (try dsimp only at hSw); go_simp; all_goals (with_reducible rfl)))
            simp only [Act.put, List.setIfInBounds_toArray, List.set_cons_succ, List.set_cons_zero]
            first
              | (refine rg_skip 50 rfl (by kernel_rfl) (by kernel_rfl) (by kernel_rfl) (fun _ _ _ h => h) HS ?_ ?_; rfl)
              | (refine rg_take 50 (v := ?_) rfl (by kernel_rfl) (by kernel_rfl) (by kernel_rfl) (fun _ _ _ h => h) HS ?_ ?_ ?_; rotate_left; rfl; focus (intro w hSw; (try dsimp only at hSw); go_simp; all_goals (with_reducible rfl)))
            simp only [Act.put, List.setIfInBounds_toArray, List.set_cons_succ, List.set_cons_zero]
            first
              | (refine rg_skip 51 rfl (by kernel_rfl) (by kernel_rfl) (by kernel_rfl) (fun _ _ _ h => h) HS ?_ ?_; rfl)
              | (refine rg_take 51 (v := ?_) rfl (by kernel_rfl) (by kernel_rfl) (by kernel_rfl) (fun _ _ _ h => h) HS ?_ ?_ ?_; rotate_left; rfl; focus (intro w hSw; (try dsimp only at hSw); go_simp; all_goals (with_reducible rfl)))
            simp only [Act.put, List.setIfInBounds_toArray, List.set_cons_succ, List.set_cons_zero]
            first
              | (refine rg_skip 52 rfl (by kernel_rfl) (by kernel_rfl) (by kernel_rfl) (fun _ _ _ h => h) HS ?_ ?_; rfl)
              | (refine rg_take 52 (v := ?_) rfl (by kernel_rfl) (by kernel_rfl) (by kernel_rfl) (fun _ _ _ h => h) HS ?_ ?_ ?_; rotate_left; rfl; focus (intro w hSw; (try dsimp only at hSw); go_simp; all_goals (with_reducible rfl)))
            simp only [Act.put, List.setIfInBounds_toArray, List.set_cons_succ, List.set_cons_zero]
            first
              | (refine rg_skip 53 rfl (by kernel_rfl) (by kernel_rfl) (by kernel_rfl) (fun _ _ _ h => h) HS ?_ ?_; rfl)
              | (refine rg_take 53 (v := ?_) rfl (by kernel_rfl) (by kernel_rfl) (by kernel_rfl) (fun _ _ _ h => h) HS ?_ ?_ ?_; rotate_left; rfl; focus (intro w hSw; (try dsimp only at hSw); go_simp; all_goals (with_reducible rfl)))
            simp only [Act.put, List.setIfInBounds_toArray, List.set_cons_succ, List.set_cons_zero]
            first
              | (refine rg_skip 54 rfl (by kernel_rfl) (by kernel_rfl) (by kernel_rfl) (fun _ _ _ h => h) HS ?_ ?_; rfl)
              | (refine rg_take 54 (v := ?_) rfl (by kernel_rfl) (by kernel_rfl) (by kernel_rfl) (fun _ _ _ h => h) HS ?_ ?_ ?_; rotate_left; rfl; focus (intro w hSw; (try dsimp only at hSw); go_simp; all_goals (with_reducible rfl)))
            simp only [Act.put, List.setIfInBounds_toArray, List.set_cons_succ, List.set_cons_zero]
            refine wpAnyH_done (by kernel_rfl) ?_ _
            clear HS
            go_wp2_with fail
            go_roundw
            case rel => exact ⟨p + 1 + 1, HLT.out, by go_num, HK⟩
            case measure => have := HLT.out; simp [intOf]; omega
      · as_aux_lemma =>
        have hlb : decide (q < n) = false := by simpa using hlt
        obtain rfl : q = n := by omega
        have HKR := Lib.hid (HK7.out.trans hkr.out)
        clear hlt hkr
        go_wp2_with (first
          | (go_at_call 61; refine (awake8_calls _).mono ?_; rintro e w8 ⟨rfl, hk8⟩)
          | fail)
        go_ret
        exact ⟨rfl, HKR.out.trans hk8⟩
end Go.Proofs.Ytadjcdfmppcpnaa
