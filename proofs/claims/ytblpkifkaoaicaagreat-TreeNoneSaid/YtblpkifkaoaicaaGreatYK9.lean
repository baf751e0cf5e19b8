import Derived.Test.YtblpkifkaoaicaaGreatYK7
import Derived.Test.YtblpkifkaoaicaaGreatYPF
import Derived.Test.YtblpkifkaoaicaaGreatUn
/-! strings.Compare; package node: Find. -/
namespace Go.Proofs.YtblpkifkaoaicaaGreat
open Go Go.RowKit Go.Maps Wb

end Go.Proofs.YtblpkifkaoaicaaGreat
namespace Wb
open Go Go.RowKit
variable {P : Program} {w : World} {ops : Array Oper} {rest : List Oper} {o : Oper} {a : Act} {Q : Exit → Act → World → Prop}
theorem wl_load_rdW (hw : Region.wanted o (yielded ops a.tmps) = true) (ty : TypeId) (x : Operand) (hop : o.op = .load ty x) (g off : Nat) (hx : a.eval x = .pointer (some ⟨g, off, none⟩)) (V : Array Value) (hb : w.rangeAt g off V.toList) (d : TypeDesc) (hu : P.underlying ty = some d) (hd : d.isRow = true) (hi : (P.info? ty).map (·.size) = some V.size)
    (hK : wpList P ops Q rest (a.put o.dst (.agg V)) w) : wpList P ops Q (o :: rest) a w := by
  obtain ⟨dst, op, t, pos, after, g0⟩ := o
  refine wl_unguard hw ?_
  exact wpList_load_mid rfl ty x hop g off hx V.toList d (fun _ _ hj => hb _ _ hj) hu hd (by simpa using hi) (by simpa using hK)
end Wb
namespace Go.Proofs.YtblpkifkaoaicaaGreat
open Go Go.RowKit Go.Maps Wb
set_option maxRecDepth 100000 in
set_option maxHeartbeats 1000000 in
theorem compare_calls (w : World) (a b : Nm) : Calls Tryz.prog 79 #[.string (bs a), .string (bs b)] w fun e w' => e = .returned (.int .i64 (cmpN a b)) ∧ w = w' := by
  go_enter Tryz.func79, Tryz.ntmps79
  go_wp2
  rw [run_callFunc_extern Tryz.func142 (by kernel_rfl) (by kernel_rfl) (by kernel_rfl) (e := Extern.BytealgCompare.compare) (by kernel_rfl), Lib.run_compareString, bs_list, bs_list]
  simp only [Result.andThen]
  rw [Oper.upon_value]
  go_wp2
  go_ret
  exact ⟨rfl, rfl⟩
set_option maxRecDepth 100000 in
set_option maxHeartbeats 1000000 in
theorem findCmp_calls (w : World) (r : Rw) (k : Nm) : Calls Tryz.prog 78 #[.agg (rowA r), .string (bs k)] w (Quiet w (.int .i64 (cmpN r.key k))) := by
  go_enter Tryz.func78, Tryz.ntmps78
  go_wp2_with (first
    | ((with_reducible refine gd_box 70 ?_); refine wl_box_agg rfl _ _ rfl (rowA r) rfl ?_; intro br w2 hbr HBR HKR; have r0 : w2.cell? ⟨br, 0, none⟩ = some (.string (bs r.key)) := (by rw [cell_of_block HBR]; rfl))
    | fail)
  refine (compare_calls _ _ _).mono ?_
  rintro e w3 ⟨rfl, rfl⟩
  go_wp2
  go_ret
  exact ⟨rfl, HKR⟩
def BsR (ks : List Nm) (k : Nm) (i j : Nat) : Prop := (∀ (q : Nat) x, q < i → ks[q]? = some x → x < k) ∧ ∀ (q : Nat) x, j ≤ q → ks[q]? = some x → ¬ x < k
theorem key_at {l : List Rw} {j : Nat} {r : Rw} (h : l[j]? = some r) : (l.map (·.key))[j]? = some r.key := by rw [List.getElem?_map, h]; rfl
set_option maxRecDepth 100000 in
set_option maxHeartbeats 2000000 in
theorem bsearch_calls (w : World) (sv : Value) (l : List Rw) (k : Nm) (hs : isRdA w 3 sv (rowsA l)) (hsort : (l.map (·.key)).Pairwise (· < ·)) (hl : l.length ≤ 1000000) :
    Calls Tryz.prog 77 #[sv, .string (bs k), .func (.func 78) #[] #[]] w (Quiet w (.tuple #[.int .i64 (lowK (l.map (·.key)) k), .bool (hasK (l.map (·.key)) k)])) := by
  obtain ⟨ad, cap, rfl, hcap, hrd⟩ := hs
  rw [rowsA_len] at hcap ⊢
  have HRD := Lib.hid hrd
  have HSORT := Lib.hid hsort
  obtain ⟨n, hn⟩ : ∃ n, n = l.length := ⟨_, rfl⟩
  have HN := Lib.hid hn
  rw [← hn] at hl hcap ⊢
  have hli : (n : Int) ≤ 1000000 := by omega
  clear hrd hsort hn
  go_enter Tryz.func77, Tryz.ntmps77
  go_wp2_with fail
  go_loopw [9, 10] (fun vi vj wr => ∃ i j : Nat, i ≤ j ∧ j ≤ n ∧ vi = .int .i64 i ∧ vj = .int .i64 j ∧ Hid (BsR (l.map (·.key)) k i j ∧ Keeps w wr (fun _ => False))) (fun vi vj _ => (intOf vj).toNat - (intOf vi).toNat)
  case atStart => exact ⟨0, n, Nat.zero_le _, Nat.le_refl _, rfl, rfl, Lib.hid ⟨⟨fun q x h => absurd h (Nat.not_lt_zero _), fun q x h hx => by
    have h1 := (List.getElem?_eq_some_iff.1 hx).1
    rw [List.length_map, ← HN.out] at h1
    omega⟩, Keeps.refl _ _⟩⟩
  case round =>
    obtain ⟨i, j, hij, hjn, rfl, rfl, hrel⟩ := hrel
    by_cases hlt : i < j
    · as_aux_lemma =>
      obtain ⟨m, hm⟩ : ∃ m, m = (i + j) / 2 := ⟨_, rfl⟩
      have hmi : i ≤ m := by omega
      have hmj : m < j := by omega
      have hlb : decide ((i : Int) < (j : Int)) = true := by simp; omega
      have hlbn : decide (i < j) = true := by simp; omega
      obtain ⟨r, hr⟩ : ∃ r, l[m]? = some r := ⟨_, List.getElem?_eq_getElem (by have := HN.out; omega)⟩
      obtain ⟨g, off, rfl, _, hrg⟩ := HRD.out m _ (rowsA_at hr)
      have HRG := Lib.hid (Keeps.rangeK hrel.out.2 hrg)
      have HR := Lib.hid hr
      have hw1 : IntKind.i64.wrap ((i : Int) + (j : Int)) = (i : Int) + j := i64_smallK _ (by omega) (by omega)
      have hw2 : IntKind.u64.wrap ((i : Int) + (j : Int)) = (i : Int) + j := by rw [wrap_u64]; omega
      have hw3 : ((i : Int) + (j : Int)) / 2 = m := by omega
      have hw4 : IntKind.i64.wrap (m : Int) = m := i64_smallK _ (by omega) (by omega)
      have hm0 : (0 : Int) ≤ m := by omega
      have hmn : (m : Int) < n := by omega
      have hi0 : (0 : Int) ≤ i := by omega
      have hj0 : (0 : Int) ≤ j := by omega
      have hji : (j : Int) ≤ 1000000 := by omega
      have hii : (i : Int) ≤ 1000000 := by omega
      have HM := Lib.hid (And.intro hmi hmj)
      have HJN := Lib.hid hjn
      clear hm hr hlt hrg hmi hmj hjn
      go_wp2_with (first
        | ((with_reducible refine gd_load 70 ?_); go_loud (refine wl_load_rd rfl _ _ rfl g (off + m * 3) rfl (rowA r) HRG.out _ Tryz.underlying70 rfl (infoRw _) ?_))
        | fail)
      refine (findCmp_calls _ r k).mono ?_
      rintro e w2 ⟨rfl, hk2⟩
      have HK2 := Lib.hid (hrel.out.2.trans hk2)
      have HSP := Lib.hid (le_split HSORT.out (key_at HR.out) (k := k))
      have HB := Lib.hid hrel.out.1
      clear hk2 hrel
      rcases cmpN_cases r.key k with ⟨hc, hlt⟩ | ⟨hc, heq⟩ | ⟨hc, hgt⟩
      · rw [hc]
        have HREL : Hid (BsR (l.map (·.key)) k (m + 1) j) := Lib.hid ⟨HSP.out.1 hlt, HB.out.2⟩
        clear hc hlt
        go_wp2_with fail
        go_roundw
        case rel => exact ⟨m + 1, j, HM.out.2, HJN.out, by go_num, rfl, Lib.hid ⟨HREL.out, HK2.out⟩⟩
        case measure => have := HM.out; simp [intOf]; omega
      · rw [hc]
        have HREL : Hid (BsR (l.map (·.key)) k i m) := Lib.hid ⟨HB.out.1, HSP.out.2 (by rw [heq]; exact nm_irrefl k)⟩
        clear hc heq
        go_wp2_with fail
        go_roundw
        case rel => exact ⟨i, m, HM.out.1, by have := HM.out; have := HJN.out; omega, rfl, rfl, Lib.hid ⟨HREL.out, HK2.out⟩⟩
        case measure => have := HM.out; simp [intOf]; omega
      · rw [hc]
        have HREL : Hid (BsR (l.map (·.key)) k i m) := Lib.hid ⟨HB.out.1, HSP.out.2 (nm_asymm hgt)⟩
        clear hc hgt
        go_wp2_with fail
        go_roundw
        case rel => exact ⟨i, m, HM.out.1, by have := HM.out; have := HJN.out; omega, rfl, rfl, Lib.hid ⟨HREL.out, HK2.out⟩⟩
        case measure => have := HM.out; simp [intOf]; omega
    · as_aux_lemma =>
      obtain rfl : i = j := by omega
      have hlb : decide ((i : Int) < (i : Int)) = false := by simp
      have hlbn : decide (i < i) = false := by simp
      have HI := Lib.hid (lowK_is HSORT.out (by rw [List.length_map, ← HN.out]; exact hjn) hrel.out.1.1 hrel.out.1.2)
      have HKR := Lib.hid hrel.out.2
      clear hlt hij hrel
      rcases Nat.lt_or_eq_of_le hjn with hin | hin
      · as_aux_lemma =>
        have hib : decide ((i : Int) < (n : Int)) = true := by simp; omega
        have hibn : decide (i < n) = true := by simp; omega
        obtain ⟨r, hr⟩ : ∃ r, l[i]? = some r := ⟨_, List.getElem?_eq_getElem (by have := HN.out; omega)⟩
        obtain ⟨g, off, rfl, _, hrg⟩ := HRD.out i _ (rowsA_at hr)
        have HRG := Lib.hid (Keeps.rangeK HKR.out hrg)
        have HHAS := Lib.hid (hasK_at HSORT.out (k := k) (by rw [← HI.out]; exact key_at hr))
        have hi0 : (0 : Int) ≤ i := by omega
        have hin9 : (i : Int) < n := by omega
        clear hr hrg hin hjn
        go_wp2_with (first
          | ((with_reducible refine gd_loadW 70 ?_); go_loud (refine wl_load_rdW (by rfl) _ _ rfl g (off + i * 3) rfl (rowA r) HRG.out _ Tryz.underlying70 rfl (infoRw _) ?_))
          | fail)
        refine (findCmp_calls _ r k).mono ?_
        rintro e w2 ⟨rfl, hk2⟩
        have HK2 := Lib.hid (HKR.out.trans hk2)
        clear hk2
        rcases cmpN_cases r.key k with ⟨hc, hlt⟩ | ⟨hc, heq⟩ | ⟨hc, hgt⟩
        · rw [hc]
          have HE := Lib.hid (HHAS.out.trans (decide_eq_false (fun e => nm_irrefl k (by rw [e] at hlt; exact hlt))))
          clear hc hlt
          go_wp2_with fail
          go_ret2
          exact ⟨by rw [← HI.out, HE.out]; rfl, HK2.out⟩
        · rw [hc]
          have HE := Lib.hid (HHAS.out.trans (decide_eq_true heq))
          clear hc heq
          go_wp2_with fail
          go_ret2
          exact ⟨by rw [← HI.out, HE.out]; rfl, HK2.out⟩
        · rw [hc]
          have HE := Lib.hid (HHAS.out.trans (decide_eq_false (fun e => nm_irrefl k (by rw [e] at hgt; exact hgt))))
          clear hc hgt
          go_wp2_with fail
          go_ret2
          exact ⟨by rw [← HI.out, HE.out]; rfl, HK2.out⟩
      · as_aux_lemma =>
        have hib : decide ((i : Int) < (n : Int)) = false := by simp; omega
        have hibn : decide (i < n) = false := by simp; omega
        have HHAS := Lib.hid (hasK_end (ks := l.map (·.key)) (k := k) (by rw [← HI.out, List.length_map, ← HN.out]; exact hin))
        clear hin hjn
        go_wp2_with fail
        go_ret2
        exact ⟨by rw [← HI.out, HHAS.out]; rfl, HKR.out⟩
noncomputable def findI (leaf : Bool) (ks : List Nm) (k : Nm) : Nat := if leaf = true ∨ hasK ks k = true then lowK ks k else lowK ks k - 1
set_option maxRecDepth 100000 in
set_option maxHeartbeats 1000000 in
theorem find_calls (w : World) (leaf : Bool) (sv : Value) (l : List Rw) (k : Nm) (hs : isRdA w 3 sv (rowsA l)) (hsort : (l.map (·.key)).Pairwise (· < ·)) (hl : l.length ≤ 1000000) :
    Calls Tryz.prog 48 #[.agg (nodeA leaf sv), .string (bs k)] w (Quiet w (.tuple #[.int .i64 (findI leaf (l.map (·.key)) k), .bool (hasK (l.map (·.key)) k)])) := by
  have HS := Lib.hid hs
  have HSORT := Lib.hid hsort
  obtain ⟨ad, cap, rfl, hcap, hrd⟩ := hs
  obtain ⟨n, hn⟩ : ∃ n, n = (rowsA l).length := ⟨_, rfl⟩
  rw [← hn] at HS ⊢
  have hlow := lowK_le (l.map (·.key)) k
  rw [List.length_map] at hlow
  obtain ⟨i, hi⟩ : ∃ i, i = lowK (l.map (·.key)) k := ⟨_, rfl⟩
  obtain ⟨h, hh⟩ : ∃ h, h = hasK (l.map (·.key)) k := ⟨_, rfl⟩
  have hii : (i : Int) ≤ 1000000 := by omega
  have HC : Hid (∀ W, Keeps w W (fun _ => False) → Calls Tryz.prog 77 #[.slice ad n cap, .string (bs k), .func (.func 78) #[] #[]] W (Quiet W (.tuple #[.int .i64 i, .bool h]))) := Lib.hid fun W hk => by
    rw [hi, hh]
    exact bsearch_calls W _ l k (HS.out.new hk) HSORT.out hl
  have HF : Hid (findI leaf (l.map (·.key)) k = if leaf = true ∨ h = true then i else i - 1) := Lib.hid (by unfold findI; rw [hi, hh])
  obtain ⟨r, hr⟩ : ∃ r, r = findI leaf (l.map (·.key)) k := ⟨_, rfl⟩
  have HR := Lib.hid (hr.trans HF.out)
  rw [← hh, ← hr]
  clear hr hrd hcap hn hi hh hlow hsort
  go_enter Tryz.func48, Tryz.ntmps48
  go_wp2_with (first
    | ((with_reducible refine gd_box 108 ?_); refine wl_box_agg rfl _ _ rfl (nodeA leaf (.slice ad n cap)) rfl ?_; intro bn w1 hbn HBN HKN; have c0 : w1.cell? ⟨bn, 0, none⟩ = some (.bool leaf) := (by rw [cell_of_block HBN]; rfl); have c1 : w1.cell? ⟨bn, 1, none⟩ = some (.slice ad n cap) := (by rw [cell_of_block HBN]; rfl))
    | fail)
  refine (HC.out w1 HKN).mono ?_
  rintro e w2 ⟨rfl, hk2⟩
  have HK2 := Lib.hid (HKN.trans hk2)
  have d0 : w2.cell? ⟨bn, 0, none⟩ = some (.bool leaf) := Keeps.cellK hk2 c0
  have hi0 : (0 : Int) ≤ i := by omega
  clear hk2 c0 c1 HBN
  cases leaf
  · cases h
    · have hmx : max ((i : Int) - 1) 0 = ((i - 1 : Nat) : Int) := by omega
      have HMX := Lib.hid hmx
      clear hmx
      rcases Nat.eq_zero_or_pos i with rfl | hpos
      · go_wp2_with fail
        go_ret2
        exact ⟨by rw [HR.out]; rfl, HK2.out⟩
      · have hi1 : (1 : Int) ≤ i := by omega
        go_wp2_with fail
        go_ret2
        refine ⟨?_, HK2.out⟩
        rw [HR.out]
        show Ending.returned (.tuple #[.int .i64 (max ((i : Int) - 1) 0), .bool false]) = _
        rw [HMX.out]
        rfl
    · go_wp2_with fail
      go_ret2
      exact ⟨by rw [HR.out]; rfl, HK2.out⟩
  · cases h
    · go_wp2_with fail
      go_ret2
      exact ⟨by rw [HR.out]; rfl, HK2.out⟩
    · go_wp2_with fail
      go_ret2
      exact ⟨by rw [HR.out]; rfl, HK2.out⟩
end Go.Proofs.YtblpkifkaoaicaaGreat
