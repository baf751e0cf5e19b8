import Derived.Test.YtadjcdfmppcpnaaYW9a
import Derived.Test.YtadjcdfmppcpnaaYP9f
import Derived.Test.YtadjcdfmppcpnaaArg
/-! Layer 9: the walk of PageRefuses. -/
namespace Go.Proofs.Ytadjcdfmppcpnaa
open Go Go.RowKit Go.Maps Wb

def RefCommitPost (w0 : World) (f : Nat) (dv : DH) (X : Nat → Prop) (ok : Bool) (e : Ending) (w2 : World) : Prop :=
  ∃ F2, e = .returned (.int .i64 (if ok = true then 0 else 1)) ∧ RefOk F2 ∧ (ok = false → F2.mt = mt1) ∧ Law9 w0 w2 f dv F2 X
theorem ref_commit {w0 w : World} {f : Nat} {dv : DH} {F : Pg} {X : Nat → Prop} {v : Value} {ids : List Int} {root count : Int} (h : Law9 w0 w f dv F X) (hr : RefOk F) (hmt : F.mt = mt1)
    (hv : isRd w v (intV ids)) (hg : ∀ g, v.ownBlock = some g → ids = [] ∨ ((X g ∨ g < w0.heap.size) ∧ g < w.heap.size)) (hl : ids.length ≤ 140737488351232) :
    Calls Try.prog 45 #[.pointer (some ⟨f, 0, none⟩), .int .i64 root, .int .i64 count, .int .u64 9, v] w (RefCommitPost w0 f dv X (goodB count ids ids.length && isB root ids ids.length)) := by
  have hr' := hr
  obtain ⟨ss, h1, h2, h3⟩ := hr'
  have hp : pagesOf F.d = 7 := by rw [h1.pages, h2]
  have hiff := refuse_iff hp root count ids
  cases hb : (goodB count ids ids.length && isB root ids ids.length) with
  | true =>
    have hc := hiff.2 hb
    obtain ⟨D', g1, g2, g3⟩ := hr.commit hc hmt
    refine (l_commit (mark := 9) h h1.dead hv hg hl hc (by rw [hmt]; decide) (by decide) g1 g2).mono ?_
    rintro e w2 ⟨rfl, hL, _⟩
    exact ⟨_, rfl, g3, (fun h => by cases h), hL⟩
  | false =>
    have hc : ¬ commitOk F root count ids := fun h => by rw [hiff.1 h] at hb; cases hb
    have hL := h
    obtain ⟨bu, fv, k1, _⟩ := h
    refine (commit_no w _ F k1 h1.dead root count 9 v ids hv hl hc).mono ?_
    rintro e w2 ⟨rfl, rfl⟩
    exact ⟨F, rfl, hr, fun _ => hmt, hL⟩
def RefPutPost (w0 : World) (ok : Bool) (e : Ending) (w2 : World) : Prop := ∃ p : Int, e = .returned (.tuple #[.int .i64 p, .int .i64 (if ok = true then 0 else 1)]) ∧ Keeps w0 w2 (fun _ => False)
theorem ref_put {w0 w w' : World} {f : Nat} {dv : DH} {F : Pg} {X : Nat → Prop} (h : Law9 w0 w f dv F X) (hr : RefOk F) (hk : Keeps w w' (fun _ => False)) {b n : Nat} (hb : w'.heap[b]? = some (.cells (Array.replicate n (.int .u8 0)) 5 (0, 0))) (hbw : w.heap.size ≤ b) (hn : n ≤ 1000) :
    Calls Try.prog 48 #[.pointer (some ⟨f, 0, none⟩), .slice (some ⟨b, 0, none⟩) n n] w' (RefPutPost w0 (decide (n ≤ 512))) := by
  obtain ⟨ss, h1, h2, h3⟩ := id hr
  by_cases h5 : n ≤ 512
  · have hrd : isRd w' (.slice (some ⟨b, 0, none⟩) n n) (octs (List.replicate n 0)) := by
      refine ⟨_, n, by rw [octs_len, List.length_replicate], by rw [octs_len, List.length_replicate]; exact Nat.le_refl _, fun j x hj => ⟨b, 0, rfl, lt_of_blk hb, ?_⟩⟩
      rw [cell_of_block hb, Nat.zero_add]
      have hjn := (List.getElem?_eq_some_iff.1 hj).1
      rw [octs_len, List.length_replicate] at hjn
      simp [octs, octV, hjn] at hj
      simp [hjn, hj]
    refine (l_put (bv := .slice (some ⟨b, 0, none⟩) n n) h h1.dead hk hrd (fun g hg => by
      simp only [Value.ownBlock, Option.some.injEq] at hg
      subst hg
      exact ⟨hbw, lt_of_blk hb⟩) (by rw [List.length_replicate]; exact h5) (by omega)).mono ?_
    rintro e w2 ⟨p, hp, he, hL, _⟩
    rw [hr.put _ hp] at he
    simp only [if_true] at he
    exact ⟨p, by rw [he]; simp [h5], hL.keeps⟩
  · have hK := h.keeps
    obtain ⟨bu, fv, k1, _⟩ := h
    refine (put_long w' _ F (k1.new hk) h1.dead _ n n (by omega) (by omega)).mono ?_
    rintro e w2 ⟨rfl, rfl⟩
    exact ⟨0, by simp [h5], hK.trans hk⟩

def RefRel (w : World) (f : Nat) (h : DH) (i : Nat) (wr : World) : Prop := ∃ F, RoomOk 500 (16 + 8 * i) i F ∧ Law9 w wr f h F (fun _ => False)
theorem drewN2 (w : World) (a b : Nat) : (w.drewN a).drewN b = w.drewN (a + b) := by simp [World.drewN, Nat.add_assoc]
set_option maxRecDepth 100000 in
set_option maxHeartbeats 16000000 in
theorem pageRefuses_walk (w : World) (v : Value) (ids : List Int) (hv : isInts w (fun g => g < w.heap.size) v ids) (root count long : Int) : Calls Try.prog 10 #[v, .int .i64 root, .int .i64 count, .int .i64 long] w (Quiet w (.bool true)) := by
  obtain ⟨D1, E1, E2, E3⟩ := room_start (m := 500) (by omega) (by omega)
  have H1 := Lib.hid E1
  have H2 := Lib.hid E2
  have H3 := Lib.hid E3
  obtain ⟨a, cap, rfl, hl1, hl2, hl3, hx4⟩ := hv
  have hli : (ids.length : Int) ≤ 140737488351232 := by omega
  have HC : Hid (∀ (q : Nat) x, ids[q]? = some x → ∃ g o, a = some ⟨g, o, none⟩ ∧ g < w.heap.size ∧ w.cell? ⟨g, o + q, none⟩ = some (.int .i64 x)) := by
    intro q x hq
    rcases hx4 with rfl | ⟨g, o, rfl, _, hg, hc⟩
    · simp at hq
    · exact ⟨g, o, rfl, hg, hc q x hq⟩
  have HRD : Hid (isRd w (.slice a ids.length cap) (intV ids)) := Lib.hid ⟨a, cap, by rw [intV_len], by rw [intV_len]; exact hl1, fun j x hj => by
    unfold intV at hj
    rw [List.getElem?_map] at hj
    cases hi : ids[j]? with
    | none => rw [hi] at hj; cases hj
    | some y =>
      rw [hi] at hj
      simp only [Option.map_some, Option.some.injEq] at hj
      subst hj
      exact HC.out j y hi⟩
  have HOB : Hid (∀ g, (Value.slice a ids.length cap).ownBlock = some g → ids = [] ∨ g < w.heap.size) := Lib.hid fun g hg => by
    rcases hx4 with h | ⟨g', o, rfl, _, hg', _⟩
    · exact .inl h
    · right
      simp only [Value.ownBlock, Option.some.injEq] at hg
      omega
  clear E1 E2 E3 hx4 hl3
  go_enter Try.func10, Try.ntmps10
  go_wp2_with fail
  refine new_any _ _ fun h w1 hd1 hk1 hS => ?_
  go_wp2_with fail
  refine l_open (w0 := w) (X := fun _ => False) hd1 (openE_files _) H1.out H2.out (fun _ h => h.elim) hS hk1 fun f w2 hL2 _ => ?_
  clear hd1 hk1 hS
  go_upto_block 0 with fail
  have HREL0 : Hid (RefRel w f h 0 w2) := Lib.hid ⟨_, H3.out, hL2⟩
  clear hL2
  go_cut [] (fun wx => Hid (RefRel w f h 5 wx))
  case first =>
    go_wp2_with fail
    go_loopw [12] (fun i wr => ∃ q : Nat, q ≤ 5 ∧ i = .int .i64 q ∧ Hid (RefRel w f h q wr)) (fun i _ => 5 - (intOf i).toNat)
    case atStart => exact ⟨0, Nat.zero_le _, rfl, HREL0⟩
    case round =>
      clear HREL0
      obtain ⟨q, hq, rfl, hrel⟩ := hrel
      have hq0 : (0 : Int) ≤ q := by omega
      by_cases hlt : q < 5
      · have hlb : decide (q < 5) = true := by simpa using hlt
        have hq9 : (q : Int) < 5 := by omega
        obtain ⟨F, hok, hL⟩ := hrel.out
        obtain ⟨F2, hput, hok2⟩ := room_put hok (fillL q) (by omega)
        have HPUT := Lib.hid hput
        have HLST : Hid (∀ r, isLeast F r → r = 2 + q) := Lib.hid fun r hr => room_least hok hr
        have HOK := Lib.hid hok
        have HREL2 : Hid (∀ wx, Law9 w wx f h F2 (fun _ => False) → RefRel w f h (q + 1) wx) := Lib.hid fun wx hx => ⟨F2, by have e : max (16 + 8 * q) (16 + 8 * q + 8) = 16 + 8 * (q + 1) := (by omega); rw [e] at hok2; exact hok2, hx⟩
        have HLT := Lib.hid hlt
        clear hput hok hok2 hrel hlt
        go_wp2_with fail
        refine (fill_calls _ q (kOk_small (by omega))).mono ?_
        rintro e w3 ⟨bv, rfl, ho3, hk3⟩
        go_wp2_with fail
        refine (l_put (b := fillL q) hL HOK.out.dead hk3 (isOwn.rd ho3) (own_new ho3) (fillL_le _) (by rw [fresh_len HOK.out]; omega)).mono ?_
        rintro e w4 ⟨p, hp, he, hL4, _⟩
        obtain rfl := HLST.out p hp
        rw [HPUT.out] at he hL4
        dsimp only at he hL4
        rw [if_pos rfl] at he
        subst he
        have HREL3 := Lib.hid (HREL2.out w4 hL4)
        clear hp hL4 ho3 hk3 hL
        go_wp2
        go_roundw
        case rel => exact ⟨q + 1, HLT.out, by go_num, HREL3⟩
        case measure => have := HLT.out; simp [intOf]; omega
      · have hlb : decide (q < 5) = false := by simpa using hlt
        obtain rfl : q = 5 := by omega
        clear hlt
        go_wp2_with fail
        go_meet
        exact hrel
  case rest =>
    clear HREL0
    obtain ⟨F0, hok0, hL0⟩ := hcut.out
    have HK0 := Lib.hid hL0.keeps
    have HCUT := Lib.hid (⟨hok0.ref, hok0.mt, hL0⟩ : RefOk F0 ∧ F0.mt = mt1 ∧ Law9 w wc f h F0 (fun _ => False))
    clear hcut hok0 hL0
    go_upto_region 13 with fail
    go_cut [15] (fun v15 wx => v15 = .bool (goodB count ids 0) ∧ wx = wc)
    case first =>
      by_cases hc0 : 0 ≤ count
      · by_cases hc1 : count ≤ 4611686018427387904
        · have HG : Hid (goodB count ids 0 = true) := Lib.hid (by unfold goodB; rw [decide_eq_true hc0, decide_eq_true hc1]; rfl)
          go_wp2_with fail
          go_meet
          exact ⟨by rw [HG.out], rfl⟩
        · have HG : Hid (goodB count ids 0 = false) := Lib.hid (by unfold goodB; rw [decide_eq_true hc0, decide_eq_false hc1]; rfl)
          go_wp2_with fail
          go_meet
          exact ⟨by rw [HG.out], rfl⟩
      · have HG : Hid (goodB count ids 0 = false) := Lib.hid (by unfold goodB; rw [decide_eq_false hc0]; rfl)
        go_wp2_with fail
        go_meet
        exact ⟨by rw [HG.out], rfl⟩
    case rest =>
      obtain ⟨rfl, rfl⟩ := hcut
      go_upto_region 15 with fail
      have hz : ((root == 0) : Bool) = isB root ids 0 := by
        unfold isB
        simp only [List.take_zero, List.not_mem_nil, decide_false, Bool.or_false]
        rw [Bool.eq_iff_iff]; simp
      rw [hz]
      clear hz
      go_upto_block 2 with fail
      go_cut [15, 16] (fun v15 v16 wx => v15 = .bool (goodB count ids ids.length) ∧ v16 = .bool (isB root ids ids.length) ∧ ∃ nq, wx = wc.drewN nq)
      case first =>
        go_wp2_with fail
        go_loopw [15, 16, 17] (fun v15 v16 i wr => ∃ k : Nat, k ≤ ids.length ∧ i = .int .i64 k ∧ v15 = .bool (goodB count ids k) ∧ v16 = .bool (isB root ids k) ∧ ∃ nq, wr = wc.drewN nq) (fun _ _ i _ => ids.length - (intOf i).toNat)
        case atStart => exact ⟨0, Nat.zero_le _, rfl, rfl, rfl, 0, rfl⟩
        case round =>
          obtain ⟨k, hk, rfl, rfl, rfl, nq, rfl⟩ := hrel
          have hk0 : (0 : Int) ≤ k := by omega
          by_cases hlt : k < ids.length
          · have hlb : decide (k < ids.length) = true := by simpa using hlt
            have hk9 : (k : Int) < ids.length := by omega
            obtain ⟨x, hx⟩ : ∃ x, ids[k]? = some x := ⟨_, List.getElem?_eq_getElem hlt⟩
            obtain ⟨g, o, rfl, hg, hcx⟩ := HC.out k x hx
            have hcx' : wc.cell? ⟨g, o + k, none⟩ = some (.int .i64 x) := (HK0.out.cell (p := ⟨g, o + k, none⟩) hg id).trans hcx
            have HG1 := Lib.hid (goodB_succ count ids k)
            have HI1 := Lib.hid (isB_succ (root := root) hx)
            have HX := Lib.hid hx
            have HLT := Lib.hid hlt
            generalize hb1 : goodB count ids k = b1 at *
            generalize hb2 : isB root ids k = b2 at *
            have HB1 := Lib.hid hb1
            have HB2 := Lib.hid hb2
            clear hx hcx hlt hb1 hb2
            go_upto_region 18 with fail
            go_cut [15] (fun v15 wx => v15 = .bool (goodB count ids (k + 1)) ∧ ∃ nq, wx = wc.drewN nq)
            case first =>
              cases b1 with
              | false =>
                have HGG : Hid (goodB count ids (k + 1) = false) := Lib.hid (by rw [HG1.out]; rfl)
                go_quiet (fail)
                go_wp2_with fail
                go_meet
                exact ⟨by rw [HGG.out], _, drewN2 _ _ _⟩
              | true =>
                have HCD : Hid (condR ids k = (decide (2 ≤ x) && (decide (x < 7) && (decide (k = 0) || (match ids[k - 1]? with | none => false | some y => decide (y < x)))))) := Lib.hid (by unfold condR; rw [HX.out]; rfl)
                by_cases h2 : 2 ≤ x
                · have h2b : decide (2 ≤ x) = true := decide_eq_true h2
                  by_cases h7 : x < 7
                  · have h7b : decide (x < 7) = true := decide_eq_true h7
                    by_cases h0 : k = 0
                    · have h0b : ((k : Int) == 0) = true := by simp [h0]
                      have HGG : Hid (goodB count ids (k + 1) = true) := Lib.hid (by rw [HG1.out, HCD.out, decide_eq_true h2, decide_eq_true h7, decide_eq_true h0]; rfl)
                      clear h0
                      go_quiet (fail)
                      go_wp2_with fail
                      go_meet
                      exact ⟨by rw [HGG.out], _, drewN2 _ _ _⟩
                    · have h0b : ((k : Int) == 0) = false := by simpa using h0
                      have hkp : (1 : Int) ≤ k := by omega
                      have hkm : (0 : Int) ≤ (k : Int) - 1 := by omega
                      have hkl : (k : Int) - 1 < ids.length := by omega
                      obtain ⟨y, hy⟩ : ∃ y, ids[k - 1]? = some y := ⟨_, List.getElem?_eq_getElem (by omega)⟩
                      obtain ⟨g', o', he', hg', hcy⟩ := HC.out (k - 1) y hy
                      cases he'
                      have hcy' : wc.cell? ⟨g, o + (k - 1), none⟩ = some (.int .i64 y) := (HK0.out.cell (p := ⟨g, o + (k - 1), none⟩) hg id).trans hcy
                      have HY := Lib.hid hy
                      have HGN : Hid (goodB count ids (k + 1) = decide (y < x)) := Lib.hid (by rw [HG1.out, HCD.out, HY.out, decide_eq_true h2, decide_eq_true h7, decide_eq_false h0]; simp)
                      by_cases hyx : y < x
                      · have hyb : decide (y < x) = true := decide_eq_true hyx
                        have HGG : Hid (goodB count ids (k + 1) = true) := Lib.hid (by rw [HGN.out, decide_eq_true hyx])
                        have htn : ((k : Int) - 1).toNat = k - 1 := by omega
                        have hwk : IntKind.i64.wrap ((k : Int) - 1) = (k : Int) - 1 := i64_smallK _ (by omega) (by omega)
                        clear h0 hy hcy
                        go_quiet (fail)
                        go_wp2_with fail
                        go_meet
                        exact ⟨by rw [HGG.out], _, drewN2 _ _ _⟩
                      · have hyb : decide (y < x) = false := decide_eq_false hyx
                        have HGG : Hid (goodB count ids (k + 1) = false) := Lib.hid (by rw [HGN.out, decide_eq_false hyx])
                        have htn : ((k : Int) - 1).toNat = k - 1 := by omega
                        have hwk : IntKind.i64.wrap ((k : Int) - 1) = (k : Int) - 1 := i64_smallK _ (by omega) (by omega)
                        clear h0 hy hcy hyx
                        go_quiet (fail)
                        go_wp2_with fail
                        go_meet
                        exact ⟨by rw [HGG.out], _, drewN2 _ _ _⟩
                  · have h7b : decide (x < 7) = false := decide_eq_false h7
                    have HGG : Hid (goodB count ids (k + 1) = false) := Lib.hid (by rw [HG1.out, HCD.out, decide_eq_false h7]; simp)
                    clear h7
                    go_quiet (fail)
                    go_wp2_with fail
                    go_meet
                    exact ⟨by rw [HGG.out], _, drewN2 _ _ _⟩
                · have h2b : decide (2 ≤ x) = false := decide_eq_false h2
                  have HGG : Hid (goodB count ids (k + 1) = false) := Lib.hid (by rw [HG1.out, HCD.out, decide_eq_false h2]; simp)
                  clear h2
                  go_quiet (fail)
                  go_wp2_with fail
                  go_meet
                  exact ⟨by rw [HGG.out], _, drewN2 _ _ _⟩
            case rest =>
              obtain ⟨rfl, nq2, rfl⟩ := hcut
              cases b2 with
              | true =>
                have HII : Hid (isB root ids (k + 1) = true) := Lib.hid (by rw [HI1.out]; rfl)
                go_wp2
                go_roundw
                case rel => exact ⟨k + 1, HLT.out, by go_num, rfl, by rw [HII.out], nq2, rfl⟩
                case measure => have := HLT.out; simp [intOf]; omega
              | false =>
                by_cases hxr : x = root
                · have hxb : (x == root) = true := by simpa using hxr
                  have HII : Hid (isB root ids (k + 1) = true) := Lib.hid (by rw [HI1.out, decide_eq_true hxr]; rfl)
                  clear hxr
                  go_wp2
                  go_roundw
                  case rel => exact ⟨k + 1, HLT.out, by go_num, rfl, by rw [HII.out], nq2, rfl⟩
                  case measure => have := HLT.out; simp [intOf]; omega
                · have hxb : (x == root) = false := by simpa using hxr
                  have HII : Hid (isB root ids (k + 1) = false) := Lib.hid (by rw [HI1.out, decide_eq_false hxr]; rfl)
                  clear hxr
                  go_wp2
                  go_roundw
                  case rel => exact ⟨k + 1, HLT.out, by go_num, rfl, by rw [HII.out], nq2, rfl⟩
                  case measure => have := HLT.out; simp [intOf]; omega
          · have hlb : decide (k < ids.length) = false := by simpa using hlt
            obtain rfl : k = ids.length := by omega
            clear hlt
            go_wp2_with fail
            go_meet
            exact ⟨rfl, rfl, nq, rfl⟩
      case rest =>
        obtain ⟨rfl, rfl, nq, rfl⟩ := hcut
        generalize hb1 : goodB count ids ids.length = b1 at *
        generalize hb2 : isB root ids ids.length = b2 at *
        have HB1 := Lib.hid hb1
        have HB2 := Lib.hid hb2
        obtain ⟨hr0, hm0, hL0⟩ := HCUT.out
        have hL1 : Law9 w (wc.drewN nq) f h F0 (fun _ => False) := hL0.new ((Keeps.refl wc _).drewN nq)
        have hv1 : isRd (wc.drewN nq) (.slice a ids.length cap) (intV ids) := isRd.new HRD.out (HK0.out.drewN nq)
        have hsz : w.heap.size ≤ (wc.drewN nq).heap.size := (HK0.out.drewN nq).size
        have HCM := Lib.hid (ref_commit (root := root) (count := count) hL1 hr0 hm0 hv1 (fun g hg => (HOB.out g hg).imp id (fun hh => ⟨.inr hh, Nat.lt_of_lt_of_le hh hsz⟩)) (by omega))
        generalize wc.drewN nq = wd at *
        clear hb1 hb2 hr0 hm0 hL0 hL1 hv1 hsz
        go_wp2_with fail
        refine HCM.out.mono ?_
        rintro e w3 ⟨F2, he, hr2, hm2, hL2⟩
        rw [HB1.out, HB2.out] at he hm2
        obtain ⟨z, hz⟩ : ∃ z : Int, z = if (b1 && b2) = true then 0 else 1 := ⟨_, rfl⟩
        rw [← hz] at he
        subst he
        have HZ := Lib.hid hz
        clear hz
        have HR2 := Lib.hid hr2
        clear hr2
        go_upto_region 21 with fail
        go_cut [131] (fun v131 wx => v131 = .bool false ∧ Law9 w wx f h F2 (fun _ => False))
        case first =>
          cases b1 <;> cases b2
          all_goals
            have hz := HZ.out
            simp at hz
            subst hz
          all_goals try
            have hmt := Lib.hid (hm2 rfl)
            clear hm2
            go_wp2_with (first
              | (go_at_call 46; refine (l_meta hL2).mono ?_; rintro e w8 ⟨he, hL8, _⟩; rw [hmt.out] at he; subst he)
              | ((with_reducible refine gd_bin 66 ?_); refine wl_bin (by rfl) _ _ _ _ _ rfl (.agg (metaA mt1)) (.agg (metaA mt1)) rfl rfl (.bool false) (fun W => run_guard_mt W _ _ _ _ _) (neq_mt mt1_good mt1_good _ (by simp)) ?_)
              | fail)
            go_meet
            exact ⟨rfl, hL8⟩
          clear hm2
          go_wp2_with fail
          go_meet
          exact ⟨rfl, hL2⟩
        case rest =>
          obtain ⟨rfl, hL3⟩ := hcut
          clear hL2 hm2
          obtain ⟨r, hr, hr9⟩ : ∃ r : Nat, long % 16 = r ∧ r < 16 := ⟨(long % 16).toNat, by omega, by omega⟩
          have hm : bits BinOp.and IntKind.i64 long 15 = (r : Int) := by rw [mask15, hr]
          have hri : (r : Int) < 16 := by omega
          have hr0 : (0 : Int) ≤ r := by omega
          have hn : (505 : Int) + r = ((505 + r : Nat) : Int) := by omega
          have HN := Lib.hid hn
          obtain ⟨D0, E0, E1⟩ := bad_start
          have HM0 := Lib.hid E0
          have HND0 := Lib.hid E1
          clear hr hn E0 E1
          go_wp2_with (first
            | (refine wl_make1 rfl _ _ _ rfl 5 _ 1 Try.underlying63 info_u8 rfl _ _ _ (505 + r) rfl rfl HN.out (by omega) (by unfold maxLen; omega) ?_; intro bb w4 hbb HB4 HK4)
            | fail)
          refine (ref_put hL3 HR2.out HK4 HB4 hbb (by omega)).mono ?_
          rintro e w5 ⟨p, rfl, hk5⟩
          have HK5 := Lib.hid hk5
          clear hL3 HK4 HB4 hbb hk5
          have hcase : (decide (505 + r ≤ 512) = true ∧ decide ((r : Int) ≤ 7) = true ∧ (r : Int) ≤ 7) ∨ (decide (505 + r ≤ 512) = false ∧ decide ((r : Int) ≤ 7) = false ∧ 7 < (r : Int)) := by
            by_cases h7 : r ≤ 7
            · exact .inl ⟨decide_eq_true (by omega), decide_eq_true (by omega), by omega⟩
            · exact .inr ⟨decide_eq_false (by omega), decide_eq_false (by omega), by omega⟩
          rcases hcase with ⟨h8, h10, h9⟩ | ⟨h8, h10, h9⟩
          all_goals
            rw [h8]
            clear h8
            go_wp2_with fail
            refine new_any _ _ fun h2 w6 hd6 hk6 hS6 => ?_
            have hn112 : nmOk [112] := nmOk_small (by decide)
            go_wp2_with fail
            refine (make_calls _ h2 _ [112] hd6 hn112).mono ?_
            rintro e w7 ⟨he, hd7, hk7⟩
            rw [HM0.out] at he hd7
            dsimp only at he hd7
            subst he
            have hN6 : Hid (∀ i, h2.S i → w5.heap.size ≤ i) := Lib.hid hS6
            have hK7 : Keeps w5 w7 (fun _ => False) := hk6.then hk7 (fun i hi hh => absurd (hS6 i hh) (Nat.not_le.2 hi))
            have HREL0 : Hid (∃ D, ND 100 (List.replicate 0 oneSec) D ∧ isDev w7 h2 D ∧ Keeps w5 w7 (fun _ => False)) := Lib.hid ⟨D0, HND0.out, hd7, hK7⟩
            clear hd6 hk6 hS6 hd7 hk7 hK7 hm
            go_wp2_with fail
            go_loopw [22] (fun i wr => ∃ q : Nat, q ≤ 16 ∧ i = .int .i64 q ∧ Hid (∃ D, ND 100 (List.replicate q oneSec) D ∧ isDev wr h2 D ∧ Keeps w5 wr (fun _ => False))) (fun i _ => 16 - (intOf i).toNat)
            case atStart => exact ⟨0, Nat.zero_le _, rfl, HREL0⟩
            case round =>
              clear HREL0
              obtain ⟨q, hq, rfl, hrel⟩ := hrel
              have hq0 : (0 : Int) ≤ q := by omega
              by_cases hlt : q < 16
              · have hlb : decide (q < 16) = true := by simpa using hlt
                have hq9 : (q : Int) < 16 := by omega
                obtain ⟨D, hND, hd, hk⟩ := hrel.out
                obtain ⟨D2, hw, hND2⟩ := bad_write hND (by omega)
                have HW := Lib.hid hw
                have HND2 := Lib.hid hND2
                have HLT := Lib.hid hlt
                clear hw hND hND2 hrel hlt
                go_wp2_with (first
                  | ((with_reducible refine gd_build 28 ?_); refine wl_buildL rfl _ _ rfl [(0, .int .u8 1)] rfl (.agg (secA oneSec)) (fun _ => by kernel_rfl) ?_)
                  | fail)
                refine (write_calls _ h2 D [112] q oneSec hd hn112).mono ?_
                rintro e w8 ⟨he, hd8, hk8⟩
                rw [HW.out] at he hd8
                dsimp only at he hd8
                subst he
                have HREL : Hid (∃ D, ND 100 (List.replicate (q + 1) oneSec) D ∧ isDev w8 h2 D ∧ Keeps w5 w8 (fun _ => False)) := Lib.hid ⟨D2, HND2.out, hd8, hk.then hk8 (fun i hi hh => absurd (hN6.out i hh) (Nat.not_le.2 hi))⟩
                clear hd8 hk8 hd hk
                go_wp2
                go_roundw
                case rel => exact ⟨q + 1, HLT.out, by go_num, HREL⟩
                case measure => have := HLT.out; simp [intOf]; omega
              · have hlb : decide (q < 16) = false := by simpa using hlt
                obtain rfl : q = 16 := by omega
                obtain ⟨D, hND, hd, hk⟩ := hrel.out
                obtain ⟨ho1, ho2⟩ := bad_open hND
                have HO1 := Lib.hid ho1
                have hfl : D.files.length ≤ 1000000 := by
                  have := nd_names hND
                  unfold Dv.names at this
                  have h1 := congrArg List.length this
                  simp at h1; omega
                clear hlt hrel ho1 ho2 hND
                go_wp2_with fail
                refine (open_calls _ h2 D hd hfl).mono ?_
                rintro e w8 (⟨hE, _⟩ | ⟨hE, he, hd8, hk8⟩)
                · exact absurd hE (by rw [HO1.out]; decide)
                · rw [HO1.out] at he
                  subst he
                  have hK8 := HK5.out.trans (hk.then hk8 (fun i hi hh => absurd (hN6.out i hh) (Nat.not_le.2 hi)))
                  clear hE hd8 hk8
                  go_wp2_with fail
                  refine (awake9_calls _).mono ?_
                  rintro e w9 ⟨rfl, hk9⟩
                  go_wp2
                  go_ret
                  exact ⟨rfl, hK8.trans hk9⟩
end Go.Proofs.Ytadjcdfmppcpnaa
