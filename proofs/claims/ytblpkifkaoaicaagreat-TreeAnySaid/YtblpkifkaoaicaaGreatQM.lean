/- Lemmas and contracts of functions, joined. -/
import Derived.Test.YtblpkifkaoaicaaGreatYK7
import Derived.Test.YtblpkifkaoaicaaGreatYPF
import Derived.Test.YtblpkifkaoaicaaGreatYUn
import Derived.Test.YtblpkifkaoaicaaGreatYSlC
import Derived.Test.YtblpkifkaoaicaaGreatYSlB
import Derived.Test.YtblpkifkaoaicaaGreatYSlD
import Derived.Lib.Overlaps
namespace Go.Proofs.YtblpkifkaoaicaaGreat
open Go Go.RowKit Go.Maps Wb

end Go.Proofs.YtblpkifkaoaicaaGreat
namespace Wb
open Go Go.RowKit
variable {P : Program} {w : World} {ops : Array Oper} {rest : List Oper} {o : Oper} {a : Act} {Q : Exit → Act → World → Prop}
theorem wl_load_rdW (hw : Region.wanted o (yielded ops a.tmps) = true) (ty : TypeId) (x : Operand) (hop : o.op = .load ty x) (g off : Nat) (hx : a.eval x = .pointer (some ⟨g, off, none⟩)) (V : Array Value) (hb : w.rangeAt g off V.toList) (d : TypeDesc) (hu : P.underlying ty = some d) (hd : d.isRow = true) (hi : (P.info? ty).map (·.size) = some V.size)
    (hK : wpList P ops Q rest (a.put o.dst (.agg V)) w) : wpList P ops Q (o :: rest) a w := by
  obtain ⟨dst, op, t, pos, after, g0⟩ := o
  refine wl_unguard hw ?_
  exact wpList_load_mid rfl ty x hop g off hx V.toList d (fun _ _ hj => hb _ _ hj) hu hd (by simpa using hi) (by simpa using hK)
end Wb
namespace Go.Proofs.YtblpkifkaoaicaaGreat
open Go Go.RowKit Go.Maps Wb
set_option maxRecDepth 100000 in
set_option maxHeartbeats 1000000 in
theorem compare_calls (w : World) (a b : Nm) : Calls Tryz.prog 79 #[.string (bs a), .string (bs b)] w fun e w' => e = .returned (.int .i64 (cmpN a b)) ∧ w = w' := by
  go_enter Tryz.func79, Tryz.ntmps79
  go_wp2
  rw [run_callFunc_extern Tryz.func142 (by kernel_rfl) (by kernel_rfl) (by kernel_rfl) (e := Extern.BytealgCompare.compare) (by kernel_rfl), Lib.run_compareString, bs_list, bs_list]
  simp only [Result.andThen]
  rw [Oper.upon_value]
  go_wp2
  go_ret
  exact ⟨rfl, rfl⟩
set_option maxRecDepth 100000 in
set_option maxHeartbeats 1000000 in
theorem findCmp_calls (w : World) (r : Rw) (k : Nm) : Calls Tryz.prog 78 #[.agg (rowA r), .string (bs k)] w (Quiet w (.int .i64 (cmpN r.key k))) := by
  go_enter Tryz.func78, Tryz.ntmps78
  go_wp2_with (first
    | ((with_reducible refine gd_box 70 ?_); refine wl_box_agg rfl _ _ rfl (rowA r) rfl ?_; intro br w2 hbr HBR HKR; have r0 : w2.cell? ⟨br, 0, none⟩ = some (.string (bs r.key)) := (by rw [cell_of_block HBR]; rfl))
    | fail)
  refine (compare_calls _ _ _).mono ?_
  rintro e w3 ⟨rfl, rfl⟩
  go_wp2
  go_ret
  exact ⟨rfl, HKR⟩
def BsR (ks : List Nm) (k : Nm) (i j : Nat) : Prop := (∀ (q : Nat) x, q < i → ks[q]? = some x → x < k) ∧ ∀ (q : Nat) x, j ≤ q → ks[q]? = some x → ¬ x < k
theorem key_at {l : List Rw} {j : Nat} {r : Rw} (h : l[j]? = some r) : (l.map (·.key))[j]? = some r.key := by rw [List.getElem?_map, h]; rfl
set_option maxRecDepth 100000 in
set_option maxHeartbeats 2000000 in
theorem bsearch_calls (w : World) (sv : Value) (l : List Rw) (k : Nm) (hs : isRdA w 3 sv (rowsA l)) (hsort : (l.map (·.key)).Pairwise (· < ·)) (hl : l.length ≤ 1000000) :
    Calls Tryz.prog 77 #[sv, .string (bs k), .func (.func 78) #[] #[]] w (Quiet w (.tuple #[.int .i64 (lowK (l.map (·.key)) k), .bool (hasK (l.map (·.key)) k)])) := by
  obtain ⟨ad, cap, rfl, hcap, hrd⟩ := hs
  rw [rowsA_len] at hcap ⊢
  have HRD := Lib.hid hrd
  have HSORT := Lib.hid hsort
  obtain ⟨n, hn⟩ : ∃ n, n = l.length := ⟨_, rfl⟩
  have HN := Lib.hid hn
  rw [← hn] at hl hcap ⊢
  have hli : (n : Int) ≤ 1000000 := by omega
  clear hrd hsort hn
  go_enter Tryz.func77, Tryz.ntmps77
  go_wp2_with fail
  go_loopw [9, 10] (fun vi vj wr => ∃ i j : Nat, i ≤ j ∧ j ≤ n ∧ vi = .int .i64 i ∧ vj = .int .i64 j ∧ Hid (BsR (l.map (·.key)) k i j ∧ Keeps w wr (fun _ => False))) (fun vi vj _ => (intOf vj).toNat - (intOf vi).toNat)
  case atStart => exact ⟨0, n, Nat.zero_le _, Nat.le_refl _, rfl, rfl, Lib.hid ⟨⟨fun q x h => absurd h (Nat.not_lt_zero _), fun q x h hx => by
    have h1 := (List.getElem?_eq_some_iff.1 hx).1
    rw [List.length_map, ← HN.out] at h1
    omega⟩, Keeps.refl _ _⟩⟩
  case round =>
    obtain ⟨i, j, hij, hjn, rfl, rfl, hrel⟩ := hrel
    by_cases hlt : i < j
    · as_aux_lemma =>
      obtain ⟨m, hm⟩ : ∃ m, m = (i + j) / 2 := ⟨_, rfl⟩
      have hmi : i ≤ m := by omega
      have hmj : m < j := by omega
      have hlb : decide ((i : Int) < (j : Int)) = true := by simp; omega
      have hlbn : decide (i < j) = true := by simp; omega
      obtain ⟨r, hr⟩ : ∃ r, l[m]? = some r := ⟨_, List.getElem?_eq_getElem (by have := HN.out; omega)⟩
      obtain ⟨g, off, rfl, _, hrg⟩ := HRD.out m _ (rowsA_at hr)
      have HRG := Lib.hid (Keeps.rangeK hrel.out.2 hrg)
      have HR := Lib.hid hr
      have hw1 : IntKind.i64.wrap ((i : Int) + (j : Int)) = (i : Int) + j := i64_smallK _ (by omega) (by omega)
      have hw2 : IntKind.u64.wrap ((i : Int) + (j : Int)) = (i : Int) + j := by rw [wrap_u64]; omega
      have hw3 : ((i : Int) + (j : Int)) / 2 = m := by omega
      have hw4 : IntKind.i64.wrap (m : Int) = m := i64_smallK _ (by omega) (by omega)
      have hm0 : (0 : Int) ≤ m := by omega
      have hmn : (m : Int) < n := by omega
      have hi0 : (0 : Int) ≤ i := by omega
      have hj0 : (0 : Int) ≤ j := by omega
      have hji : (j : Int) ≤ 1000000 := by omega
      have hii : (i : Int) ≤ 1000000 := by omega
      have HM := Lib.hid (And.intro hmi hmj)
      have HJN := Lib.hid hjn
      clear hm hr hlt hrg hmi hmj hjn
      go_wp2_with (first
        | ((with_reducible refine gd_load 70 ?_); go_loud (refine wl_load_rd rfl _ _ rfl g (off + m * 3) rfl (rowA r) HRG.out _ Tryz.underlying70 rfl (infoRw _) ?_))
        | fail)
      refine (findCmp_calls _ r k).mono ?_
      rintro e w2 ⟨rfl, hk2⟩
      have HK2 := Lib.hid (hrel.out.2.trans hk2)
      have HSP := Lib.hid (le_split HSORT.out (key_at HR.out) (k := k))
      have HB := Lib.hid hrel.out.1
      clear hk2 hrel
      rcases cmpN_cases r.key k with ⟨hc, hlt⟩ | ⟨hc, heq⟩ | ⟨hc, hgt⟩
      · rw [hc]
        have HREL : Hid (BsR (l.map (·.key)) k (m + 1) j) := Lib.hid ⟨HSP.out.1 hlt, HB.out.2⟩
        clear hc hlt
        go_wp2_with fail
        go_roundw
        case rel => exact ⟨m + 1, j, HM.out.2, HJN.out, by go_num, rfl, Lib.hid ⟨HREL.out, HK2.out⟩⟩
        case measure => have := HM.out; simp [intOf]; omega
      · rw [hc]
        have HREL : Hid (BsR (l.map (·.key)) k i m) := Lib.hid ⟨HB.out.1, HSP.out.2 (by rw [heq]; exact nm_irrefl k)⟩
        clear hc heq
        go_wp2_with fail
        go_roundw
        case rel => exact ⟨i, m, HM.out.1, by have := HM.out; have := HJN.out; omega, rfl, rfl, Lib.hid ⟨HREL.out, HK2.out⟩⟩
        case measure => have := HM.out; simp [intOf]; omega
      · rw [hc]
        have HREL : Hid (BsR (l.map (·.key)) k i m) := Lib.hid ⟨HB.out.1, HSP.out.2 (nm_asymm hgt)⟩
        clear hc hgt
        go_wp2_with fail
        go_roundw
        case rel => exact ⟨i, m, HM.out.1, by have := HM.out; have := HJN.out; omega, rfl, rfl, Lib.hid ⟨HREL.out, HK2.out⟩⟩
        case measure => have := HM.out; simp [intOf]; omega
    · as_aux_lemma =>
      obtain rfl : i = j := by omega
      have hlb : decide ((i : Int) < (i : Int)) = false := by simp
      have hlbn : decide (i < i) = false := by simp
      have HI := Lib.hid (lowK_is HSORT.out (by rw [List.length_map, ← HN.out]; exact hjn) hrel.out.1.1 hrel.out.1.2)
      have HKR := Lib.hid hrel.out.2
      clear hlt hij hrel
      rcases Nat.lt_or_eq_of_le hjn with hin | hin
      · as_aux_lemma =>
        have hib : decide ((i : Int) < (n : Int)) = true := by simp; omega
        have hibn : decide (i < n) = true := by simp; omega
        obtain ⟨r, hr⟩ : ∃ r, l[i]? = some r := ⟨_, List.getElem?_eq_getElem (by have := HN.out; omega)⟩
        obtain ⟨g, off, rfl, _, hrg⟩ := HRD.out i _ (rowsA_at hr)
        have HRG := Lib.hid (Keeps.rangeK HKR.out hrg)
        have HHAS := Lib.hid (hasK_at HSORT.out (k := k) (by rw [← HI.out]; exact key_at hr))
        have hi0 : (0 : Int) ≤ i := by omega
        have hin9 : (i : Int) < n := by omega
        clear hr hrg hin hjn
        go_wp2_with (first
          | ((with_reducible refine gd_loadW 70 ?_); go_loud (refine wl_load_rdW (by rfl) _ _ rfl g (off + i * 3) rfl (rowA r) HRG.out _ Tryz.underlying70 rfl (infoRw _) ?_))
          | fail)
        refine (findCmp_calls _ r k).mono ?_
        rintro e w2 ⟨rfl, hk2⟩
        have HK2 := Lib.hid (HKR.out.trans hk2)
        clear hk2
        rcases cmpN_cases r.key k with ⟨hc, hlt⟩ | ⟨hc, heq⟩ | ⟨hc, hgt⟩
        · rw [hc]
          have HE := Lib.hid (HHAS.out.trans (decide_eq_false (fun e => nm_irrefl k (by rw [e] at hlt; exact hlt))))
          clear hc hlt
          go_wp2_with fail
          go_ret2
          exact ⟨by rw [← HI.out, HE.out]; rfl, HK2.out⟩
        · rw [hc]
          have HE := Lib.hid (HHAS.out.trans (decide_eq_true heq))
          clear hc heq
          go_wp2_with fail
          go_ret2
          exact ⟨by rw [← HI.out, HE.out]; rfl, HK2.out⟩
        · rw [hc]
          have HE := Lib.hid (HHAS.out.trans (decide_eq_false (fun e => nm_irrefl k (by rw [e] at hgt; exact hgt))))
          clear hc hgt
          go_wp2_with fail
          go_ret2
          exact ⟨by rw [← HI.out, HE.out]; rfl, HK2.out⟩
      · as_aux_lemma =>
        have hib : decide ((i : Int) < (n : Int)) = false := by simp; omega
        have hibn : decide (i < n) = false := by simp; omega
        have HHAS := Lib.hid (hasK_end (ks := l.map (·.key)) (k := k) (by rw [← HI.out, List.length_map, ← HN.out]; exact hin))
        clear hin hjn
        go_wp2_with fail
        go_ret2
        exact ⟨by rw [← HI.out, HHAS.out]; rfl, HKR.out⟩
noncomputable def findI (leaf : Bool) (ks : List Nm) (k : Nm) : Nat := if leaf = true ∨ hasK ks k = true then lowK ks k else lowK ks k - 1
set_option maxRecDepth 100000 in
set_option maxHeartbeats 1000000 in
theorem find_calls (w : World) (leaf : Bool) (sv : Value) (l : List Rw) (k : Nm) (hs : isRdA w 3 sv (rowsA l)) (hsort : (l.map (·.key)).Pairwise (· < ·)) (hl : l.length ≤ 1000000) :
    Calls Tryz.prog 48 #[.agg (nodeA leaf sv), .string (bs k)] w (Quiet w (.tuple #[.int .i64 (findI leaf (l.map (·.key)) k), .bool (hasK (l.map (·.key)) k)])) := by
  have HS := Lib.hid hs
  have HSORT := Lib.hid hsort
  obtain ⟨ad, cap, rfl, hcap, hrd⟩ := hs
  obtain ⟨n, hn⟩ : ∃ n, n = (rowsA l).length := ⟨_, rfl⟩
  rw [← hn] at HS ⊢
  have hlow := lowK_le (l.map (·.key)) k
  rw [List.length_map] at hlow
  obtain ⟨i, hi⟩ : ∃ i, i = lowK (l.map (·.key)) k := ⟨_, rfl⟩
  obtain ⟨h, hh⟩ : ∃ h, h = hasK (l.map (·.key)) k := ⟨_, rfl⟩
  have hii : (i : Int) ≤ 1000000 := by omega
  have HC : Hid (∀ W, Keeps w W (fun _ => False) → Calls Tryz.prog 77 #[.slice ad n cap, .string (bs k), .func (.func 78) #[] #[]] W (Quiet W (.tuple #[.int .i64 i, .bool h]))) := Lib.hid fun W hk => by
    rw [hi, hh]
    exact bsearch_calls W _ l k (HS.out.new hk) HSORT.out hl
  have HF : Hid (findI leaf (l.map (·.key)) k = if leaf = true ∨ h = true then i else i - 1) := Lib.hid (by unfold findI; rw [hi, hh])
  obtain ⟨r, hr⟩ : ∃ r, r = findI leaf (l.map (·.key)) k := ⟨_, rfl⟩
  have HR := Lib.hid (hr.trans HF.out)
  rw [← hh, ← hr]
  clear hr hrd hcap hn hi hh hlow hsort
  go_enter Tryz.func48, Tryz.ntmps48
  go_wp2_with (first
    | ((with_reducible refine gd_box 108 ?_); refine wl_box_agg rfl _ _ rfl (nodeA leaf (.slice ad n cap)) rfl ?_; intro bn w1 hbn HBN HKN; have c0 : w1.cell? ⟨bn, 0, none⟩ = some (.bool leaf) := (by rw [cell_of_block HBN]; rfl); have c1 : w1.cell? ⟨bn, 1, none⟩ = some (.slice ad n cap) := (by rw [cell_of_block HBN]; rfl))
    | fail)
  refine (HC.out w1 HKN).mono ?_
  rintro e w2 ⟨rfl, hk2⟩
  have HK2 := Lib.hid (HKN.trans hk2)
  have d0 : w2.cell? ⟨bn, 0, none⟩ = some (.bool leaf) := Keeps.cellK hk2 c0
  have hi0 : (0 : Int) ≤ i := by omega
  clear hk2 c0 c1 HBN
  cases leaf
  · cases h
    · have hmx : max ((i : Int) - 1) 0 = ((i - 1 : Nat) : Int) := by omega
      have HMX := Lib.hid hmx
      clear hmx
      rcases Nat.eq_zero_or_pos i with rfl | hpos
      · go_wp2_with fail
        go_ret2
        exact ⟨by rw [HR.out]; rfl, HK2.out⟩
      · have hi1 : (1 : Int) ≤ i := by omega
        go_wp2_with fail
        go_ret2
        refine ⟨?_, HK2.out⟩
        rw [HR.out]
        show Ending.returned (.tuple #[.int .i64 (max ((i : Int) - 1) 0), .bool false]) = _
        rw [HMX.out]
        rfl
    · go_wp2_with fail
      go_ret2
      exact ⟨by rw [HR.out]; rfl, HK2.out⟩
  · cases h
    · go_wp2_with fail
      go_ret2
      exact ⟨by rw [HR.out]; rfl, HK2.out⟩
    · go_wp2_with fail
      go_ret2
      exact ⟨by rw [HR.out]; rfl, HK2.out⟩
end Go.Proofs.YtblpkifkaoaicaaGreat

namespace Go.Proofs.YtblpkifkaoaicaaGreat
open Go Go.RowKit Go.Maps Wb

theorem infoRwZ : (Tryz.prog.info? 70).map (fun i => (i.zero, i.size, i.bytes)) = some (some (.agg (rowA ⟨[], [], 0⟩)), 3, 40) := by kernel_rfl
theorem infoPtr : (Tryz.prog.info? 91).map (fun i => (i.zero, i.size, i.bytes)) = some (some (.pointer none), 1, 8) := by kernel_rfl
theorem rowsA_ones (l : List Rw) : ∀ r ∈ rowsA l, r.all (·.oneCell') = true := by
  intro r hr
  obtain ⟨x, _, rfl⟩ := List.mem_map.1 hr
  exact rowA_one x
theorem rowA_mem {u : Value} (hu : u ∈ (Value.agg (rowA ⟨[], [], 0⟩)).cells) : u.oneCell' = true := (Array.all_eq_true_iff_forall_mem.1 (rowA_one ⟨[], [], 0⟩)) u hu
def RowsPost (w : World) (l : List Rw) (e : Ending) (w' : World) : Prop := ∃ v, e = .returned v ∧ isOwnA w' w.heap.size 70 3 v (rowsA l) ∧ Keeps w w' (fun _ => False)
set_option maxRecDepth 100000 in
set_option maxHeartbeats 1000000 in
theorem cloneR_calls (w : World) (v : Value) (l : List Rw) (hv : isRdA w 3 v (rowsA l)) (hn : ∀ cap, v = .slice none 0 cap → cap = 0) (hl : l.length ≤ 1000000) :
    Calls Tryz.prog 70 #[v] w (RowsPost w l) := by
  have HV := Lib.hid hv
  obtain ⟨a, cap, rfl, hc1, hc3⟩ := hv
  have HN := Lib.hid hn
  have hlen : (rowsA l).length ≤ 1000000 := by rw [rowsA_len]; exact hl
  clear hn
  cases a with
  | none =>
    have hz : l = [] := by
      cases l with
      | nil => rfl
      | cons u r => obtain ⟨g, o, h, _⟩ := hc3 0 _ rfl; cases h
    subst hz
    clear hc3
    have hnl : ∀ (W : World), (binOp BinOp.eql 47 (.slice none (rowsA []).length cap) (.slice none 0 0)).run Tryz.prog W = .ok (.bool true) W := fun W => Go.Lib.run_eql_slice_nil (P := Tryz.prog) W 47 70 none (rowsA []).length cap 0 0 Tryz.underlying47
    go_enter Tryz.func70, Tryz.ntmps70
    go_wp2
    go_ret
    exact ⟨_, rfl, isOwnA_nil _ _ _ _, Keeps.refl _ _⟩
  | some ad =>
    clear hc3
    have hnl : ∀ (W : World), (binOp BinOp.eql 47 (.slice (some ad) (rowsA l).length cap) (.slice none 0 0)).run Tryz.prog W = .ok (.bool false) W := fun W => Go.Lib.run_eql_slice_nil (P := Tryz.prog) W 47 70 (some ad) (rowsA l).length cap 0 0 Tryz.underlying47
    go_enter Tryz.func70, Tryz.ntmps70
    go_wp2_with (first
      | (refine wl_sliceA0 rfl _ rfl 70 _ 3 40 Tryz.underlying47 infoRwZ ?_; intro b w1 hb HB HK)
      | (at_builtin; refine wl_appendRA rfl _ _ _ rfl 70 _ 3 40 Tryz.underlying47 infoRwZ rfl (by decide) w.heap.size _ [] rfl (isOwnA_empty HB hb) _ (rowsA l) rfl (HV.out.new HK) HN.out (rowsA_size l) (rowsA_ones l) (by simp [maxLen]; omega) (by simp; omega) HK.size ?_; intro v' w2 hap)
      | fail)
    go_ret
    exact ⟨_, rfl, hap.1, HK.then hap.2.1 (fun i hi he => by have e : b = i := Option.some.inj he; omega)⟩
def KidsPost (w : World) (vs : List Value) (e : Ending) (w' : World) : Prop := ∃ v, e = .returned v ∧ isOwn w' w.heap.size 91 v vs ∧ Keeps w w' (fun _ => False)
set_option maxRecDepth 100000 in
set_option maxHeartbeats 1000000 in
theorem cloneK_calls (w : World) (v : Value) (vs : List Value) (hv : isRd w v vs) (h1 : ∀ u ∈ vs, u.oneCell' = true) (hn : ∀ cap, v = .slice none 0 cap → cap = 0) (hl : vs.length ≤ 1000000) :
    Calls Tryz.prog 131 #[v] w (KidsPost w vs) := by
  have HV := Lib.hid hv
  have H1 := Lib.hid h1
  obtain ⟨a, cap, rfl, hc1, hc3⟩ := hv
  have HN := Lib.hid hn
  clear hn h1
  cases a with
  | none =>
    have hz : vs = [] := by
      cases vs with
      | nil => rfl
      | cons u r => obtain ⟨g, o, h, _⟩ := hc3 0 _ rfl; cases h
    subst hz
    clear hc3
    have hnl : ∀ (W : World) (n : Nat), (binOp BinOp.eql 94 (.slice none n cap) (.slice none 0 0)).run Tryz.prog W = .ok (.bool true) W := fun W n => Go.Lib.run_eql_slice_nil (P := Tryz.prog) W 94 91 none n cap 0 0 Tryz.underlying94
    go_enter Tryz.func131, Tryz.ntmps131
    go_wp2
    go_ret
    exact ⟨_, rfl, isOwn_nil _ _ _, Keeps.refl _ _⟩
  | some ad =>
    clear hc3
    have hnl : ∀ (W : World) (n : Nat), (binOp BinOp.eql 94 (.slice (some ad) n cap) (.slice none 0 0)).run Tryz.prog W = .ok (.bool false) W := fun W n => Go.Lib.run_eql_slice_nil (P := Tryz.prog) W 94 91 (some ad) n cap 0 0 Tryz.underlying94
    go_enter Tryz.func131, Tryz.ntmps131
    go_wp2_with (first
      | (refine wl_slice0 rfl _ rfl 91 _ 8 Tryz.underlying94 infoPtr ?_; intro b w1 hb HB HK)
      | (at_builtin; refine wl_appendN rfl _ _ _ rfl 91 _ 8 Tryz.underlying94 infoPtr rfl w.heap.size _ [] rfl (isOwn_made (vs := []) HB hb (by decide)) _ vs rfl (HV.out.new HK) HN.out H1.out (by simp [maxLen]; omega) (by simp; omega) HK.size ?_; intro v' w2 hap)
      | fail)
    go_ret
    exact ⟨_, rfl, hap.1, HK.then hap.2.1 (fun i hi he => by have e : b = i := Option.some.inj he; omega)⟩

set_option maxRecDepth 100000 in
set_option maxHeartbeats 1000000 in
theorem growR_calls (w : World) (n : Nat) (hn : n ≤ 1000000) : Calls Tryz.prog 128 #[.slice none 0 0, .int .i64 n] w (RowsPost w []) := by
  have hn0 : (0 : Int) ≤ n := by omega
  have hni : (n : Int) ≤ 1000000 := by omega
  have hneg : decide ((n : Int) < 0) = false := by simp
  rcases Nat.eq_zero_or_pos n with rfl | hpos
  · go_enter Tryz.func128, Tryz.ntmps128
    go_wp2
    go_ret
    exact ⟨_, rfl, isOwnA_nil _ _ _ _, Keeps.refl _ _⟩
  · have hgt : decide ((0 : Int) < (n : Int)) = true := by simp; omega
    have hgtn : decide (0 < n) = true := by simp; omega
    have H1 : Hid (n ≤ maxLen) := Lib.hid (by unfold maxLen; omega)
    have H2 : Hid (n * 40 ≤ 140737488355328) := Lib.hid (by omega)
    clear hpos
    go_enter Tryz.func128, Tryz.ntmps128
    go_wp2_with (first
      | (at_builtin; refine wl_appendZA rfl _ _ 47 3 rfl 70 _ 3 40 Tryz.underlying47 Tryz.underlying3 infoRwZ rfl (by decide) (fun u hu => rowA_mem hu) w.heap.size _ [] rfl (isOwnA_nil _ _ _ _) n _ rfl rfl (by simpa using H1.out) (by simpa using H2.out) (Nat.le_refl _) ?_; intro v' w2 hap; obtain ⟨ad, cp, hv, hcl⟩ : ∃ ad cp, v' = .slice ad n cp ∧ isOwnA w2 w.heap.size 70 3 (.slice ad 0 cp) [] := (by obtain ⟨ad, cp, hs⟩ := hap.1.shape; have hl : ([] ++ List.replicate n (Value.agg (rowA ⟨[], [], 0⟩)).cells).length = n := (by simp); rw [hl] at hs; refine ⟨ad, cp, hs, ?_⟩; have h9 := hap.1; rw [hs] at h9; simpa using h9.cut (k := 0) (Nat.zero_le _)); have HCL := Lib.hid hcl; have HAK := Lib.hid hap.2.1; clear hap hcl; subst hv)
      | fail)
    go_ret
    exact ⟨_, rfl, HCL.out, HAK.out.mono (fun i _ e => by cases e)⟩

set_option maxRecDepth 100000 in
set_option maxHeartbeats 1000000 in
theorem growK_calls (w : World) (n : Nat) (hn : n ≤ 1000000) : Calls Tryz.prog 129 #[.slice none 0 0, .int .i64 n] w (KidsPost w []) := by
  have hn0 : (0 : Int) ≤ n := by omega
  have hni : (n : Int) ≤ 1000000 := by omega
  have hneg : decide ((n : Int) < 0) = false := by simp
  rcases Nat.eq_zero_or_pos n with rfl | hpos
  · go_enter Tryz.func129, Tryz.ntmps129
    go_wp2
    go_ret
    exact ⟨_, rfl, isOwn_nil _ _ _, Keeps.refl _ _⟩
  · have hgt : decide ((0 : Int) < (n : Int)) = true := by simp; omega
    have hgtn : decide (0 < n) = true := by simp; omega
    have H1 : Hid (n ≤ maxLen) := Lib.hid (by unfold maxLen; omega)
    have H2 : Hid (n * 8 ≤ 140737488355328) := Lib.hid (by omega)
    clear hpos
    go_enter Tryz.func129, Tryz.ntmps129
    go_wp2_with (first
      | (at_builtin; refine wl_appendZ rfl _ _ 94 3 rfl 91 _ 8 Tryz.underlying94 Tryz.underlying3 infoPtr rfl rfl w.heap.size _ [] rfl (isOwn_nil _ _ _) n _ rfl rfl (by simpa using H1.out) (by simpa using H2.out) (Nat.le_refl _) ?_; intro v' w2 hap; obtain ⟨ad, cp, hv, hcl⟩ : ∃ ad cp, v' = .slice ad n cp ∧ isOwn w2 w.heap.size 91 (.slice ad 0 cp) [] := (by obtain ⟨ad, cp, hs⟩ := isOwn.shapeN hap.1; have hl : ([] ++ List.replicate n (Value.pointer none)).length = n := (by simp); rw [hl] at hs; refine ⟨ad, cp, hs, ?_⟩; have h9 := hap.1; rw [hs] at h9; simpa using isOwn.cut (k := 0) h9 (Nat.zero_le _)); have HCL := Lib.hid hcl; have HAK := Lib.hid hap.2.1; clear hap hcl; subst hv)
      | fail)
    go_ret
    exact ⟨_, rfl, HCL.out, HAK.out.mono (fun i _ e => by cases e)⟩

def PsROk (w : World) (ps : List (Value × List Rw)) : Prop := ∀ p ∈ ps, isRdA w 3 p.1 (rowsA p.2) ∧ (∀ cap, p.1 = .slice none 0 cap → cap = 0)
theorem PsROk.new {w w' : World} {ps : List (Value × List Rw)} (h : PsROk w ps) (hk : Keeps w w' (fun _ => False)) : PsROk w' ps := fun p hp => ⟨(h p hp).1.new hk, (h p hp).2⟩
set_option maxRecDepth 100000 in
set_option maxHeartbeats 2000000 in
theorem concatR_calls (w : World) (sv : Value) (ps : List (Value × List Rw)) (hs : isRd w sv (ps.map (·.1))) (hp : PsROk w ps) (hl : (ps.flatMap (·.2)).length ≤ 1000000) (hpl : ps.length ≤ 1000) :
    Calls Tryz.prog 94 #[sv] w (RowsPost w (ps.flatMap (·.2))) := by
  obtain ⟨ad, cap, rfl, hcap, hrd⟩ := hs
  rw [List.length_map] at hcap ⊢
  obtain ⟨m, hm⟩ : ∃ m, m = ps.length := ⟨_, rfl⟩
  have HM := Lib.hid hm
  rw [← hm] at hcap hpl ⊢
  have HRD : Hid (∀ (q : Nat) p, ps[q]? = some p → ∃ g o, ad = some ⟨g, o, none⟩ ∧ g < w.heap.size ∧ w.cell? ⟨g, o + q, none⟩ = some p.1) := Lib.hid fun q p hq => hrd q p.1 (by rw [List.getElem?_map, hq]; rfl)
  have HPS := Lib.hid hp
  have HL : Hid (∀ q, ((ps.take q).flatMap (·.2)).length ≤ 1000000) := Lib.hid fun q => by
    have h1 : (ps.flatMap (·.2)).length = ((ps.take q).flatMap (·.2)).length + ((ps.drop q).flatMap (·.2)).length := by
      rw [← List.length_append, ← List.flatMap_append, List.take_append_drop]
    omega
  have hmi : (m : Int) ≤ 1000 := by omega
  clear hrd hp hl hm
  go_enter Tryz.func94, Tryz.ntmps94
  go_wp2_with fail
  go_loop [3, 11] (fun v3 v11 => ∃ q s : Nat, q ≤ m ∧ s ≤ 1000000 ∧ v11 = .int .i64 q ∧ v3 = .int .i64 s ∧ Hid (s = ((ps.take q).flatMap (·.2)).length)) (fun _ v11 => m - (intOf v11).toNat)
  case atStart => exact ⟨0, 0, Nat.zero_le _, Nat.zero_le _, rfl, rfl, Lib.hid (by simp)⟩
  case round =>
    obtain ⟨q, s, hq, hs, rfl, rfl, hrel⟩ := hrel
    have hs0 : (0 : Int) ≤ s := by omega
    have hsi : (s : Int) ≤ 1000000 := by omega
    have hq0 : (0 : Int) ≤ q := by omega
    by_cases hlt : q < m
    · as_aux_lemma =>
      have hlb : decide ((q : Int) < (m : Int)) = true := by simp; omega
      have hlbn : decide (q < m) = true := by simp; omega
      have hqm : (q : Int) < m := by omega
      obtain ⟨p, hp⟩ : ∃ p, ps[q]? = some p := ⟨_, List.getElem?_eq_getElem (by have := HM.out; omega)⟩
      obtain ⟨g, o, rfl, _, hc⟩ := HRD.out q p hp
      have hpo := (HPS.out p (List.mem_of_getElem? hp)).1
      have HQ : Hid (s + p.2.length = ((ps.take (q + 1)).flatMap (·.2)).length) := Lib.hid (by rw [List.take_add_one, hp, List.flatMap_append, List.length_append, hrel.out]; simp)
      have hbd : s + p.2.length ≤ 1000000 := by rw [HQ.out]; exact HL.out _
      obtain ⟨pv, pl⟩ := p
      obtain ⟨a2, c2, hpv, _⟩ := hpo
      rw [rowsA_len] at hpv
      dsimp only at hpv hc hbd HQ
      subst hpv
      obtain ⟨k, hk⟩ : ∃ k, k = pl.length := ⟨_, rfl⟩
      rw [← hk] at hc hbd HQ
      have hbdi : (s : Int) + (k : Int) ≤ 1000000 := by omega
      have hk0 : (0 : Int) ≤ k := by omega
      have hneg : decide ((s : Int) + (k : Int) < 0) = false := by simp; omega
      have HLT := Lib.hid hlt
      have HBD := Lib.hid hbd
      clear hp hk hlt hbd hrel
      go_wp2_with fail
      go_round
      case rel => exact ⟨q + 1, s + k, HLT.out, HBD.out, by go_num, by go_num, HQ⟩
      case measure => have := HLT.out; simp [intOf]; omega
    · as_aux_lemma =>
      obtain rfl : q = m := by omega
      have hlb : decide ((q : Int) < (q : Int)) = false := by simp
      have hlbn : decide (q < q) = false := by simp
      clear hlt hrel
      go_wp2_with fail
      refine (growR_calls w s hs).mono ?_
      rintro e w1 ⟨v1, rfl, ho1, hk1⟩
      have HO1 := Lib.hid ho1
      have HK1 := Lib.hid hk1
      clear ho1 hk1
      go_wp2_with fail
      go_loopw [6, 27] (fun v6 v27 wr => ∃ i : Nat, i ≤ q ∧ v27 = .int .i64 i ∧ Hid (isOwnA wr w.heap.size 70 3 v6 (rowsA ((ps.take i).flatMap (·.2))) ∧ Keeps w wr (fun _ => False))) (fun _ v27 _ => q - (intOf v27).toNat)
      case atStart => exact ⟨0, Nat.zero_le _, rfl, Lib.hid ⟨by simpa using HO1.out, HK1.out⟩⟩
      case round =>
        obtain ⟨i, hi, rfl, hrel⟩ := hrel
        have hi0 : (0 : Int) ≤ i := by omega
        by_cases hlt : i < q
        · as_aux_lemma =>
          have hlb : decide ((i : Int) < (q : Int)) = true := by simp; omega
          have hlbn : decide (i < q) = true := by simp; omega
          have hiq : (i : Int) < q := by omega
          obtain ⟨p, hp⟩ : ∃ p, ps[i]? = some p := ⟨_, List.getElem?_eq_getElem (by have := HM.out; omega)⟩
          obtain ⟨g, o, rfl, hg, hc⟩ := HRD.out i p hp
          have hc1 := (hrel.out.2.cell (p := ⟨g, o + i, none⟩) hg (fun h => h)).trans hc
          have HPO := Lib.hid (HPS.out p (List.mem_of_getElem? hp))
          have HTK : Hid ((ps.take (i + 1)).flatMap (·.2) = (ps.take i).flatMap (·.2) ++ p.2) := Lib.hid (by rw [List.take_add_one, hp, List.flatMap_append]; simp)
          have HBD := HL.out (i + 1)
          rw [HTK.out, List.length_append] at HBD
          obtain ⟨pv, pl⟩ := p
          dsimp only at hc hc1 HPO HTK HBD
          obtain ⟨va, vc, rfl⟩ := hrel.out.1.shape
          obtain ⟨a2, c2, hpv, _⟩ := HPO.out.1
          (try dsimp only at hpv)
          subst hpv
          have HREL := Lib.hid hrel.out
          have HLT := Lib.hid hlt
          clear hp hlt hrel hc HO1 HK1
          
          go_wp2_with (first
            | (at_builtin; refine wl_appendRA rfl _ _ _ rfl 70 _ 3 40 Tryz.underlying47 infoRwZ rfl (by decide) w.heap.size (.slice va (rowsA ((ps.take i).flatMap (·.2))).length vc) (rowsA ((ps.take i).flatMap (·.2))) rfl HREL.out.1 (.slice a2 (rowsA pl).length c2) (rowsA pl) rfl (HPO.out.1.new HREL.out.2) HPO.out.2 (rowsA_size _) (rowsA_ones _) (by rw [rowsA_len, rowsA_len]; unfold maxLen; omega) (by rw [rowsA_len, rowsA_len]; omega) HREL.out.2.size ?_; intro v' w3 hap)
            | fail)
          go_roundw
          case rel => exact ⟨i + 1, HLT.out, by go_num, Lib.hid ⟨by rw [HTK.out, rowsA_app]; exact hap.1, HREL.out.2.then hap.2.1 (fun j hj e => by have := (HREL.out.1.blk j e).1; omega)⟩⟩
          case measure => have := HLT.out; simp [intOf]; omega
        · as_aux_lemma =>
          obtain rfl : i = q := by omega
          have hlb : decide ((i : Int) < (i : Int)) = false := by simp
          have hlbn : decide (i < i) = false := by simp
          have HALL : Hid (ps.take i = ps) := Lib.hid (by rw [HM.out, List.take_length])
          have HREL := hrel.out
          rw [HALL.out] at HREL
          have HREL2 := Lib.hid HREL
          clear HREL hrel hlt
          go_wp2_with fail
          go_ret
          exact ⟨_, rfl, HREL2.out.1, HREL2.out.2⟩

def PsKOk (w : World) (ps : List (Value × List Value)) : Prop := ∀ p ∈ ps, isRd w p.1 p.2 ∧ (∀ cap, p.1 = .slice none 0 cap → cap = 0) ∧ ∀ u ∈ p.2, u.oneCell' = true
theorem PsKOk.new {w w' : World} {ps : List (Value × List Value)} (h : PsKOk w ps) (hk : Keeps w w' (fun _ => False)) : PsKOk w' ps := fun p hp => ⟨(h p hp).1.new hk, (h p hp).2⟩
set_option maxRecDepth 100000 in
set_option maxHeartbeats 2000000 in
theorem concatK_calls (w : World) (sv : Value) (ps : List (Value × List Value)) (hs : isRd w sv (ps.map (·.1))) (hp : PsKOk w ps) (hl : (ps.flatMap (·.2)).length ≤ 1000000) (hpl : ps.length ≤ 1000) :
    Calls Tryz.prog 95 #[sv] w (KidsPost w (ps.flatMap (·.2))) := by
  obtain ⟨ad, cap, rfl, hcap, hrd⟩ := hs
  rw [List.length_map] at hcap ⊢
  obtain ⟨m, hm⟩ : ∃ m, m = ps.length := ⟨_, rfl⟩
  have HM := Lib.hid hm
  rw [← hm] at hcap hpl ⊢
  have HRD : Hid (∀ (q : Nat) p, ps[q]? = some p → ∃ g o, ad = some ⟨g, o, none⟩ ∧ g < w.heap.size ∧ w.cell? ⟨g, o + q, none⟩ = some p.1) := Lib.hid fun q p hq => hrd q p.1 (by rw [List.getElem?_map, hq]; rfl)
  have HPS := Lib.hid hp
  have HL : Hid (∀ q, ((ps.take q).flatMap (·.2)).length ≤ 1000000) := Lib.hid fun q => by
    have h1 : (ps.flatMap (·.2)).length = ((ps.take q).flatMap (·.2)).length + ((ps.drop q).flatMap (·.2)).length := by
      rw [← List.length_append, ← List.flatMap_append, List.take_append_drop]
    omega
  have hmi : (m : Int) ≤ 1000 := by omega
  clear hrd hp hl hm
  go_enter Tryz.func95, Tryz.ntmps95
  go_wp2_with fail
  go_loop [3, 11] (fun v3 v11 => ∃ q s : Nat, q ≤ m ∧ s ≤ 1000000 ∧ v11 = .int .i64 q ∧ v3 = .int .i64 s ∧ Hid (s = ((ps.take q).flatMap (·.2)).length)) (fun _ v11 => m - (intOf v11).toNat)
  case atStart => exact ⟨0, 0, Nat.zero_le _, Nat.zero_le _, rfl, rfl, Lib.hid (by simp)⟩
  case round =>
    obtain ⟨q, s, hq, hs, rfl, rfl, hrel⟩ := hrel
    have hs0 : (0 : Int) ≤ s := by omega
    have hsi : (s : Int) ≤ 1000000 := by omega
    have hq0 : (0 : Int) ≤ q := by omega
    by_cases hlt : q < m
    · as_aux_lemma =>
      have hlb : decide ((q : Int) < (m : Int)) = true := by simp; omega
      have hlbn : decide (q < m) = true := by simp; omega
      have hqm : (q : Int) < m := by omega
      obtain ⟨p, hp⟩ : ∃ p, ps[q]? = some p := ⟨_, List.getElem?_eq_getElem (by have := HM.out; omega)⟩
      obtain ⟨g, o, rfl, _, hc⟩ := HRD.out q p hp
      have hpo := (HPS.out p (List.mem_of_getElem? hp)).1
      have HQ : Hid (s + p.2.length = ((ps.take (q + 1)).flatMap (·.2)).length) := Lib.hid (by rw [List.take_add_one, hp, List.flatMap_append, List.length_append, hrel.out]; simp)
      have hbd : s + p.2.length ≤ 1000000 := by rw [HQ.out]; exact HL.out _
      obtain ⟨pv, pl⟩ := p
      obtain ⟨a2, c2, hpv, _⟩ := hpo
      
      dsimp only at hpv hc hbd HQ
      subst hpv
      obtain ⟨k, hk⟩ : ∃ k, k = pl.length := ⟨_, rfl⟩
      rw [← hk] at hc hbd HQ
      have hbdi : (s : Int) + (k : Int) ≤ 1000000 := by omega
      have hk0 : (0 : Int) ≤ k := by omega
      have hneg : decide ((s : Int) + (k : Int) < 0) = false := by simp; omega
      have HLT := Lib.hid hlt
      have HBD := Lib.hid hbd
      clear hp hk hlt hbd hrel
      go_wp2_with fail
      go_round
      case rel => exact ⟨q + 1, s + k, HLT.out, HBD.out, by go_num, by go_num, HQ⟩
      case measure => have := HLT.out; simp [intOf]; omega
    · as_aux_lemma =>
      obtain rfl : q = m := by omega
      have hlb : decide ((q : Int) < (q : Int)) = false := by simp
      have hlbn : decide (q < q) = false := by simp
      clear hlt hrel
      go_wp2_with fail
      refine (growK_calls w s hs).mono ?_
      rintro e w1 ⟨v1, rfl, ho1, hk1⟩
      have HO1 := Lib.hid ho1
      have HK1 := Lib.hid hk1
      clear ho1 hk1
      go_wp2_with fail
      go_loopw [6, 27] (fun v6 v27 wr => ∃ i : Nat, i ≤ q ∧ v27 = .int .i64 i ∧ Hid (isOwn wr w.heap.size 91 v6 ((ps.take i).flatMap (·.2)) ∧ Keeps w wr (fun _ => False))) (fun _ v27 _ => q - (intOf v27).toNat)
      case atStart => exact ⟨0, Nat.zero_le _, rfl, Lib.hid ⟨by simpa using HO1.out, HK1.out⟩⟩
      case round =>
        obtain ⟨i, hi, rfl, hrel⟩ := hrel
        have hi0 : (0 : Int) ≤ i := by omega
        by_cases hlt : i < q
        · as_aux_lemma =>
          have hlb : decide ((i : Int) < (q : Int)) = true := by simp; omega
          have hlbn : decide (i < q) = true := by simp; omega
          have hiq : (i : Int) < q := by omega
          obtain ⟨p, hp⟩ : ∃ p, ps[i]? = some p := ⟨_, List.getElem?_eq_getElem (by have := HM.out; omega)⟩
          obtain ⟨g, o, rfl, hg, hc⟩ := HRD.out i p hp
          have hc1 := (hrel.out.2.cell (p := ⟨g, o + i, none⟩) hg (fun h => h)).trans hc
          have HPO := Lib.hid (HPS.out p (List.mem_of_getElem? hp))
          have HTK : Hid ((ps.take (i + 1)).flatMap (·.2) = (ps.take i).flatMap (·.2) ++ p.2) := Lib.hid (by rw [List.take_add_one, hp, List.flatMap_append]; simp)
          have HBD := HL.out (i + 1)
          rw [HTK.out, List.length_append] at HBD
          obtain ⟨pv, pl⟩ := p
          dsimp only at hc hc1 HPO HTK HBD
          obtain ⟨va, vc, rfl⟩ := isOwn.shapeN hrel.out.1
          obtain ⟨a2, c2, hpv, _⟩ := HPO.out.1
          (try dsimp only at hpv)
          subst hpv
          have HREL := Lib.hid hrel.out
          have HLT := Lib.hid hlt
          clear hp hlt hrel hc HO1 HK1
          
          go_wp2_with (first
            | (at_builtin; refine wl_appendN rfl _ _ _ rfl 91 _ 8 Tryz.underlying94 infoPtr rfl w.heap.size (.slice va ((ps.take i).flatMap (·.2)).length vc) ((ps.take i).flatMap (·.2)) rfl HREL.out.1 (.slice a2 pl.length c2) pl rfl (HPO.out.1.new HREL.out.2) HPO.out.2.1 HPO.out.2.2 (by unfold maxLen; omega) (by omega) HREL.out.2.size ?_; intro v' w3 hap)
            | fail)
          go_roundw
          case rel => exact ⟨i + 1, HLT.out, by go_num, Lib.hid ⟨by rw [HTK.out]; exact hap.1, HREL.out.2.then hap.2.1 (fun j hj e => by have := (HREL.out.1.blk j e).1; omega)⟩⟩
          case measure => have := HLT.out; simp [intOf]; omega
        · as_aux_lemma =>
          obtain rfl : i = q := by omega
          have hlb : decide ((i : Int) < (i : Int)) = false := by simp
          have hlbn : decide (i < i) = false := by simp
          have HALL : Hid (ps.take i = ps) := Lib.hid (by rw [HM.out, List.take_length])
          have HREL := hrel.out
          rw [HALL.out] at HREL
          have HREL2 := Lib.hid HREL
          clear HREL hrel hlt
          go_wp2_with fail
          go_ret
          exact ⟨_, rfl, HREL2.out.1, HREL2.out.2⟩
end Go.Proofs.YtblpkifkaoaicaaGreat

namespace Go.Proofs.YtblpkifkaoaicaaGreat
open Go Go.RowKit Go.Maps Wb

def knA (id : Nat) (leaf : Bool) (rv kv : Value) : Array Value := #[.int .i64 id, .bool leaf, rv, kv]
def ptrV (b : Nat) : Value := .pointer (some ⟨b, 0, none⟩)
def isRows (w : World) (X : Nat → Prop) (v : Value) (l : List Rw) : Prop :=
  isRdA w 3 v (rowsA l) ∧ (∀ cap, v = .slice none 0 cap → cap = 0) ∧ ∀ g, v.ownBlock = some g → X g ∧ ∃ C, w.heap[g]? = some (.cells C 70 (0, 0))
def isKids (w : World) (X : Nat → Prop) (v : Value) (bs : List Nat) : Prop :=
  isRd w v (bs.map ptrV) ∧ (∀ cap, v = .slice none 0 cap → cap = 0) ∧ ∀ g, v.ownBlock = some g → X g ∧ ∃ C, w.heap[g]? = some (.cells C 91 (0, 0))
/-- What a call may change so that knots with a page stay: knots without one. -/
def Bare (w : World) (i : Nat) : Prop := ∃ leaf rv kv, w.heap[i]? = some (.cells (knA 0 leaf rv kv) 96 (0, 0))
def Knots (w : World) (i : Nat) : Prop := ∃ C, w.heap[i]? = some (.cells C 96 (0, 0))
theorem Bare.knots {w : World} {i : Nat} (h : Bare w i) : Knots w i := by obtain ⟨l, r, k, h⟩ := h; exact ⟨_, h⟩
theorem rowT_ne : (70 : TypeId) ≠ 96 := by decide
theorem kidT_ne : (91 : TypeId) ≠ 96 := by decide
/-- S is apart from X, or changes knots alone. -/
def Off (w : World) (X S : Nat → Prop) : Prop := ∀ i, S i → i < w.heap.size → ¬ X i ∨ Knots w i
theorem Off.new {w : World} {X : Nat → Prop} : Off w X (fun _ => False) := fun _ h => h.elim
theorem Off.apart {w : World} {X S : Nat → Prop} (h : ∀ i, S i → ¬ X i) : Off w X S := fun i hi _ => .inl (h i hi)
theorem Off.row {w : World} {X S : Nat → Prop} (h : Off w X S) {g : Nat} {C : Array Value} {t : TypeId} (hx : X g) (hg : w.heap[g]? = some (.cells C t (0, 0))) (ht : t ≠ 96) : ¬ S g := by
  intro hs
  rcases h g hs (lt_of_blk hg) with h1 | ⟨D, h1⟩
  · exact h1 hx
  · rw [hg] at h1
    injection h1 with h2
    injection h2 with _ h3
    exact ht h3
section
variable {w w' : World} {X S : Nat → Prop} {v : Value}
theorem isRows.kept {l : List Rw} (h : isRows w X v l) (hk : Keeps w w' S) (hS : Off w X S) : isRows w' X v l := by
  obtain ⟨h1, h2, h3⟩ := h
  have hn : ∀ g, v.ownBlock = some g → ¬ S g := fun g hg => by
    obtain ⟨hx, C, hC⟩ := h3 g hg
    exact hS.row hx hC rowT_ne
  refine ⟨h1.kept hk hn, h2, fun g hg => ?_⟩
  obtain ⟨hx, C, hC⟩ := h3 g hg
  exact ⟨hx, C, hk.blk hC (hn g hg)⟩
theorem isRows.new {l : List Rw} (h : isRows w X v l) (hk : Keeps w w' (fun _ => False)) : isRows w' X v l := h.kept hk Off.new
theorem isRows.mono {Y : Nat → Prop} {l : List Rw} (h : isRows w X v l) (hY : ∀ i, i < w.heap.size → X i → Y i) : isRows w Y v l :=
  ⟨h.1, h.2.1, fun g hg => by obtain ⟨hx, C, hC⟩ := h.2.2 g hg; exact ⟨hY g (lt_of_blk hC) hx, C, hC⟩⟩
theorem isRows_own {lo : Nat} {l : List Rw} (h : isOwnA w lo 70 3 v (rowsA l)) (hX : ∀ i, lo ≤ i → X i) : isRows w X v l := by
  refine ⟨h.rd, h.nilcap, fun g hg => ?_⟩
  refine ⟨hX g (h.blk g hg).1, ?_⟩
  rcases h.2.2 with ⟨rfl, _⟩ | ⟨g', cap, cur, rfl, h1, h2, _⟩
  · cases hg
  · cases hg; exact ⟨cur, h2⟩
theorem isKids.kept {l : List Nat} (h : isKids w X v l) (hk : Keeps w w' S) (hS : Off w X S) : isKids w' X v l := by
  obtain ⟨h1, h2, h3⟩ := h
  have hn : ∀ g, v.ownBlock = some g → ¬ S g := fun g hg => by
    obtain ⟨hx, C, hC⟩ := h3 g hg
    exact hS.row hx hC kidT_ne
  refine ⟨h1.kept hk hn, h2, fun g hg => ?_⟩
  obtain ⟨hx, C, hC⟩ := h3 g hg
  exact ⟨hx, C, hk.blk hC (hn g hg)⟩
theorem isKids.new {l : List Nat} (h : isKids w X v l) (hk : Keeps w w' (fun _ => False)) : isKids w' X v l := h.kept hk Off.new
theorem isKids.mono {Y : Nat → Prop} {l : List Nat} (h : isKids w X v l) (hY : ∀ i, i < w.heap.size → X i → Y i) : isKids w Y v l :=
  ⟨h.1, h.2.1, fun g hg => by obtain ⟨hx, C, hC⟩ := h.2.2 g hg; exact ⟨hY g (lt_of_blk hC) hx, C, hC⟩⟩
theorem isKids_own {lo : Nat} {l : List Nat} (h : isOwn w lo 91 v (l.map ptrV)) (hX : ∀ i, lo ≤ i → X i) : isKids w X v l := by
  refine ⟨h.rd, h.nilcap, fun g hg => ?_⟩
  refine ⟨hX g (h.blk g hg).1, ?_⟩
  rcases h.2 with ⟨rfl, _⟩ | ⟨g', cap, cur, rfl, h1, h2, _⟩
  · cases hg
  · cases hg; exact ⟨cur, h2⟩
theorem isKids_nil : isKids w X (.slice none 0 0) [] := ⟨⟨none, 0, rfl, Nat.le_refl _, fun j x hj => by cases hj⟩, (fun cap h => by injection h with _ _ h; exact h.symm), fun g hg => by cases hg⟩
end
/-- A knot as it lies in memory. -/
structure KN (w : World) (X : Nat → Prop) (b id : Nat) (leaf : Bool) (rs : List Rw) (ks : List Nat) : Prop where
  x : X b
  ex : ∃ rv kv, w.heap[b]? = some (.cells (knA id leaf rv kv) 96 (0, 0)) ∧ isRows w X rv rs ∧ isKids w X kv ks
def OffB (w : World) (X S : Nat → Prop) : Prop := ∀ i, S i → i < w.heap.size → ¬ X i ∨ Bare w i
theorem OffB.off {w : World} {X S : Nat → Prop} (h : OffB w X S) : Off w X S := fun i hi hl => (h i hi hl).imp id (fun h => h.knots)
section
variable {w w' : World} {X S Y : Nat → Prop} {b id : Nat} {leaf : Bool} {rs : List Rw} {ks : List Nat}
theorem KN.lt (h : KN w X b id leaf rs ks) : b < w.heap.size := by obtain ⟨rv, kv, h1, _⟩ := h.ex; exact lt_of_blk h1
theorem KN.kept (h : KN w X b id leaf rs ks) (hk : Keeps w w' S) (hS : Off w X S) (hb : ¬ S b) : KN w' X b id leaf rs ks := by
  obtain ⟨rv, kv, h1, h2, h3⟩ := h.ex
  exact ⟨h.x, rv, kv, hk.blk h1 hb, h2.kept hk hS, h3.kept hk hS⟩
theorem KN.mono (h : KN w X b id leaf rs ks) (hY : ∀ i, i < w.heap.size → X i → Y i) : KN w Y b id leaf rs ks := by
  obtain ⟨rv, kv, h1, h2, h3⟩ := h.ex
  exact ⟨hY b (lt_of_blk h1) h.x, rv, kv, h1, h2.mono hY, h3.mono hY⟩
theorem KN.off (h : KN w X b id leaf rs ks) (h0 : id ≠ 0) (hS : OffB w X S) : ¬ S b := by
  intro hs
  rcases hS b hs h.lt with h1 | ⟨l, r, k, h1⟩
  · exact h1 h.x
  · obtain ⟨rv, kv, h2, _⟩ := h.ex
    rw [h2] at h1
    injection h1 with h1
    injection h1 with h1
    have h3 := congrArg (fun a => a[0]?) h1
    simp [knA] at h3
    exact h0 h3
end

/-! ### rows of a node, as they lie there -/
def leafD : Nat → Bool
  | 0 => true
  | _ + 1 => false
def RsOk : {d : Nat} → List Rw → Wb.Rows d → Prop
  | 0, rs, l => rs = l.map fun r => ⟨keyR r, valR r, 0⟩
  | _ + 1, rs, l => rs.map (·.key) = l.map keyR ∧ ∀ r ∈ rs, r.val = []
theorem RsOk.keys {d : Nat} {rs : List Rw} {l : Wb.Rows d} (h : RsOk rs l) : rs.map (·.key) = l.map keyR := by
  cases d with
  | zero => rw [show rs = _ from h, List.map_map]; rfl
  | succ d => exact h.1
theorem RsOk.len {d : Nat} {rs : List Rw} {l : Wb.Rows d} (h : RsOk rs l) : rs.length = l.length := by
  have := congrArg List.length h.keys
  simpa using this
theorem RsOk.take {d : Nat} {rs : List Rw} {l : Wb.Rows d} (h : RsOk rs l) (n : Nat) : RsOk (rs.take n) (l.take n) := by
  cases d with
  | zero => show _ = _; rw [show rs = _ from h, List.map_take]
  | succ d => exact ⟨by rw [List.map_take, List.map_take, h.1], fun r hr => h.2 r (List.mem_of_mem_take hr)⟩
theorem RsOk.drop {d : Nat} {rs : List Rw} {l : Wb.Rows d} (h : RsOk rs l) (n : Nat) : RsOk (rs.drop n) (l.drop n) := by
  cases d with
  | zero => show _ = _; rw [show rs = _ from h, List.map_drop]
  | succ d => exact ⟨by rw [List.map_drop, List.map_drop, h.1], fun r hr => h.2 r (List.mem_of_mem_drop hr)⟩
theorem RsOk.app {d : Nat} {rs ss : List Rw} {l m : Wb.Rows d} (h : RsOk rs l) (k : RsOk ss m) : RsOk (rs ++ ss) (l ++ m) := by
  cases d with
  | zero => show _ = _; rw [show rs = _ from h, show ss = _ from k, List.map_append]
  | succ d => exact ⟨by rw [List.map_append, List.map_append, h.1, k.1], fun r hr => (List.mem_append.1 hr).elim (h.2 r) (k.2 r)⟩
theorem RsOk.nil {d : Nat} : RsOk [] ([] : Wb.Rows d) := by
  cases d with
  | zero => rfl
  | succ d => exact ⟨rfl, fun r h => by cases h⟩
theorem RsOk.size {d : Nat} {rs : List Rw} {l : Wb.Rows d} (h : RsOk rs l) : sizeN ⟨leafD d, rs⟩ = sizeR l := by
  unfold sizeN sizeR
  congr 2
  cases d with
  | zero =>
    rw [show rs = _ from h, List.map_map]
    apply List.map_congr_left
    intro r _
    rfl
  | succ d =>
    have e1 : rs.map (rowSz (leafD (d + 1))) = (rs.map (·.key)).map fun k => 5 + k.length := by
      rw [List.map_map]
      apply List.map_congr_left
      intro r _
      show rowSz false r = _
      unfold rowSz
      rw [if_neg (by simp)]
      rfl
    have e2 : l.map wt = (l.map keyR).map fun k => 5 + k.length := by
      rw [List.map_map]
      apply List.map_congr_left
      intro r _
      rfl
    show rs.map (rowSz (leafD (d + 1))) = _
    rw [e1, e2, h.1]

/-! ### a node, and all below it -/
def isK (w : World) (X : Nat → Prop) : (d : Nat) → Nd d → Nat → Prop
  | 0, n, b => ∃ rs, KN w X b n.1 true rs [] ∧ RsOk rs n.2
  | d + 1, n, b => ∃ rs ks, KN w X b n.1 false rs ks ∧ RsOk rs n.2 ∧ ks.length = n.2.length ∧ ∀ (i : Nat) r x, n.2[i]? = some r → ks[i]? = some x → isK w X d (kidR r) x
def isKs (w : World) (X : Nat → Prop) (d : Nat) (g : List (Nd d)) (bs : List Nat) : Prop := bs.length = g.length ∧ ∀ (i : Nat) n x, g[i]? = some n → bs[i]? = some x → isK w X d n x
/-- What lies behind a knot's kids. -/
def KsOk (w : World) (X : Nat → Prop) : {d : Nat} → Wb.Rows d → List Nat → Prop
  | 0, _, ks => ks = []
  | d + 1, l, ks => isKs w X d (l.map kidR) ks
theorem isK_iff {w : World} {X : Nat → Prop} {d : Nat} {n : Nd d} {b : Nat} : isK w X d n b ↔ ∃ rs ks, KN w X b n.1 (leafD d) rs ks ∧ RsOk rs n.2 ∧ KsOk w X n.2 ks := by
  cases d with
  | zero =>
    constructor
    · rintro ⟨rs, h1, h2⟩; exact ⟨rs, [], h1, h2, rfl⟩
    · rintro ⟨rs, ks, h1, h2, h3⟩
      have h3 : ks = [] := h3
      subst h3
      exact ⟨rs, h1, h2⟩
  | succ d =>
    constructor
    · rintro ⟨rs, ks, h1, h2, h3, h4⟩
      refine ⟨rs, ks, h1, h2, by simpa using h3, fun i n x hn hx => ?_⟩
      rw [List.getElem?_map] at hn
      rw [Option.map_eq_some_iff] at hn
      obtain ⟨r, hr, rfl⟩ := hn
      exact h4 i r x hr hx
    · rintro ⟨rs, ks, h1, h2, h3, h4⟩
      refine ⟨rs, ks, h1, h2, by simpa using h3, fun i r x hr hx => h4 i _ x ?_ hx⟩
      rw [List.getElem?_map, hr]; rfl
theorem isKs.nil {w : World} {X : Nat → Prop} {d : Nat} : isKs w X d [] [] := ⟨rfl, fun i n x h => by cases h⟩
theorem isKs.one {w : World} {X : Nat → Prop} {d : Nat} {n : Nd d} {b : Nat} (h : isK w X d n b) : isKs w X d [n] [b] := ⟨rfl, fun i m x hm hx => by
  cases i with
  | zero => simp at hm hx; subst hm; subst hx; exact h
  | succ i => simp at hm⟩
theorem isKs.app {w : World} {X : Nat → Prop} {d : Nat} {g g' : List (Nd d)} {bs bs' : List Nat} (h : isKs w X d g bs) (k : isKs w X d g' bs') : isKs w X d (g ++ g') (bs ++ bs') := by
  refine ⟨by rw [List.length_append, List.length_append, h.1, k.1], fun i n x hn hx => ?_⟩
  by_cases hi : i < g.length
  · rw [List.getElem?_append_left hi] at hn
    rw [List.getElem?_append_left (by rw [h.1]; exact hi)] at hx
    exact h.2 i n x hn hx
  · rw [List.getElem?_append_right (by omega)] at hn
    rw [List.getElem?_append_right (by rw [h.1]; omega), h.1] at hx
    exact k.2 _ n x hn hx
theorem isKs.take {w : World} {X : Nat → Prop} {d : Nat} {g : List (Nd d)} {bs : List Nat} (h : isKs w X d g bs) (q : Nat) : isKs w X d (g.take q) (bs.take q) := by
  refine ⟨by rw [List.length_take, List.length_take, h.1], fun i n x hn hx => ?_⟩
  rw [List.getElem?_take] at hn hx
  split at hn
  · rename_i hi
    rw [if_pos hi] at hx
    exact h.2 i n x hn hx
  · cases hn
theorem isKs.drop {w : World} {X : Nat → Prop} {d : Nat} {g : List (Nd d)} {bs : List Nat} (h : isKs w X d g bs) (q : Nat) : isKs w X d (g.drop q) (bs.drop q) := by
  refine ⟨by rw [List.length_drop, List.length_drop, h.1], fun i n x hn hx => ?_⟩
  rw [List.getElem?_drop] at hn hx
  exact h.2 _ n x hn hx
theorem isKs.at {w : World} {X : Nat → Prop} {d : Nat} {g : List (Nd d)} {bs : List Nat} (h : isKs w X d g bs) {i : Nat} {n : Nd d} (hn : g[i]? = some n) : ∃ x, bs[i]? = some x ∧ isK w X d n x := by
  have hi := (List.getElem?_eq_some_iff.1 hn).1
  have hx : bs[i]? = some (bs[i]'(by have := h.1; omega)) := List.getElem?_eq_getElem _
  exact ⟨_, hx, h.2 i n _ hn hx⟩
theorem KsOk.take {w : World} {X : Nat → Prop} {d : Nat} {l : Wb.Rows d} {ks : List Nat} (h : KsOk w X l ks) (q : Nat) : KsOk w X (l.take q) (ks.take q) := by
  cases d with
  | zero => show _ = _; rw [show ks = [] from h, List.take_nil]
  | succ d => show isKs _ _ _ _ _; rw [List.map_take]; exact isKs.take h q
theorem KsOk.drop {w : World} {X : Nat → Prop} {d : Nat} {l : Wb.Rows d} {ks : List Nat} (h : KsOk w X l ks) (q : Nat) : KsOk w X (l.drop q) (ks.drop q) := by
  cases d with
  | zero => show _ = _; rw [show ks = [] from h, List.drop_nil]
  | succ d => show isKs _ _ _ _ _; rw [List.map_drop]; exact isKs.drop h q
theorem KsOk.app {w : World} {X : Nat → Prop} {d : Nat} {l m : Wb.Rows d} {ks js : List Nat} (h : KsOk w X l ks) (k : KsOk w X m js) : KsOk w X (l ++ m) (ks ++ js) := by
  cases d with
  | zero => show _ = _; rw [show ks = [] from h, show js = [] from k]; rfl
  | succ d => show isKs _ _ _ _ _; rw [List.map_append]; exact isKs.app h k
/-! ### what stays -/
theorem isK.mono {w : World} {X Y : Nat → Prop} (hY : ∀ i, i < w.heap.size → X i → Y i) : ∀ {d : Nat} {n : Nd d} {b : Nat}, isK w X d n b → isK w Y d n b
  | 0, n, b, ⟨rs, h1, h2⟩ => ⟨rs, h1.mono hY, h2⟩
  | d + 1, n, b, ⟨rs, ks, h1, h2, h3, h4⟩ => ⟨rs, ks, h1.mono hY, h2, h3, fun i r x hr hx => (h4 i r x hr hx).mono hY⟩
theorem isK.kept {w w' : World} {X S : Nat → Prop} (hk : Keeps w w' S) (hS : ∀ i, S i → i < w.heap.size → ¬ X i) : ∀ {d : Nat} {n : Nd d} {b : Nat}, isK w X d n b → isK w' X d n b
  | 0, n, b, ⟨rs, h1, h2⟩ => ⟨rs, h1.kept hk (fun i hi hl => .inl (hS i hi hl)) (fun hb => hS b hb h1.lt h1.x), h2⟩
  | d + 1, n, b, ⟨rs, ks, h1, h2, h3, h4⟩ => ⟨rs, ks, h1.kept hk (fun i hi hl => .inl (hS i hi hl)) (fun hb => hS b hb h1.lt h1.x), h2, h3, fun i r x hr hx => (h4 i r x hr hx).kept hk hS⟩
theorem isK.new {w w' : World} {X : Nat → Prop} {d : Nat} {n : Nd d} {b : Nat} (h : isK w X d n b) (hk : Keeps w w' (fun _ => False)) : isK w' X d n b := h.kept hk (fun _ h _ => h.elim)
theorem isKs.new {w w' : World} {X : Nat → Prop} {d : Nat} {g : List (Nd d)} {bs : List Nat} (h : isKs w X d g bs) (hk : Keeps w w' (fun _ => False)) : isKs w' X d g bs := ⟨h.1, fun i n x hn hx => (h.2 i n x hn hx).new hk⟩
theorem KsOk.new {w w' : World} {X : Nat → Prop} {d : Nat} {l : Wb.Rows d} {ks : List Nat} (h : KsOk w X l ks) (hk : Keeps w w' (fun _ => False)) : KsOk w' X l ks := by
  cases d with
  | zero => exact h
  | succ d => exact isKs.new h hk
end Go.Proofs.YtblpkifkaoaicaaGreat

namespace Go.Proofs.YtblpkifkaoaicaaGreat
open Go Go.RowKit Go.Maps Wb

def lowRs : List Rw → Nm
  | [] => []
  | r :: _ => r.key
theorem lowRs_ok {d : Nat} {rs : List Rw} {l : Wb.Rows d} (h : RsOk rs l) : lowRs rs = lowest l := by
  have hk := h.keys
  cases rs with
  | nil => cases l with
    | nil => rfl
    | cons r t => simp at hk
  | cons r t => cases l with
    | nil => simp at hk
    | cons q s => simp at hk; exact hk.1
set_option maxRecDepth 100000 in
set_option maxHeartbeats 1000000 in
theorem lowest_calls (w : World) (X : Nat → Prop) (b id : Nat) (leaf : Bool) (rs : List Rw) (ks : List Nat) (h : KN w X b id leaf rs ks) : Calls Tryz.prog 72 #[.pointer (some ⟨b, 0, none⟩)] w fun e w' => e = .returned (.string (bs (lowRs rs))) ∧ w = w' := by
  obtain ⟨rv, kv, hb, hr, _⟩ := h.ex
  obtain ⟨⟨ad, cap, rfl, hcap, hrd⟩, _⟩ := hr
  have c2 : w.cell? ⟨b, 2, none⟩ = some (.slice ad (rowsA rs).length cap) := by rw [cell_of_block hb]; rfl
  cases rs with
  | nil =>
    clear hrd hb h
    go_enter Tryz.func72, Tryz.ntmps72
    go_wp2
    go_ret
    exact ⟨rfl, rfl⟩
  | cons r t =>
    obtain ⟨g, off, rfl, _, hrg⟩ := hrd 0 _ (rowsA_at (show (r :: t)[0]? = some r from rfl))
    have ck : w.cell? ⟨g, off, none⟩ = some (.string (bs r.key)) := by
      have := hrg 0 _ rfl
      simpa using this
    have hlen : (rowsA (r :: t)).length = t.length + 1 := by rw [rowsA_len]; rfl
    rw [hlen] at c2
    clear hrd hb h hrg hlen hcap
    have hz : ((t.length : Int) + 1 == 0) = false := by simp; omega
    have hz2 : (0 : Int) < (t.length : Int) + 1 := by omega
    go_enter Tryz.func72, Tryz.ntmps72
    go_wp2
    go_ret
    exact ⟨rfl, rfl⟩
theorem nodeA_one2 (leaf : Bool) (a : Option Addr) (n c : Nat) : (nodeA leaf (.slice a n c)).all (·.oneCell') = true := by
  simp [nodeA]
  simp [Value.oneCell']
theorem zeroNdX (w : World) : (zeroValue 108).run Tryz.prog w = .ok (.agg (nodeA false (.slice none 0 0))) w := by kernel_rfl
theorem buildNd2 (leaf : Bool) (a : Option Addr) (n c : Nat) (w : World) : (Instr.build 108 #[(0, .bool leaf), (1, .slice a n c)]).run Tryz.prog w = .ok (.agg (nodeA leaf (.slice a n c))) w := by kernel_rfl
set_option maxRecDepth 100000 in
set_option maxHeartbeats 1000000 in
theorem asNode_calls (w : World) (b id : Nat) (leaf : Bool) (a : Option Addr) (n c : Nat) (kv : Value) (hb : w.heap[b]? = some (.cells (knA id leaf (.slice a n c) kv) 96 (0, 0))) :
    Calls Tryz.prog 49 #[.pointer (some ⟨b, 0, none⟩)] w (Quiet w (.agg (nodeA leaf (.slice a n c)))) := by
  go_enter Tryz.func49, Tryz.ntmps49
  go_wp2_with (first
    | ((with_reducible refine gd_alloc 108 ?_); refine wl_alloc_agg rfl _ rfl _ zeroNdX ?_; intro br w1 hbr HBR HKR)
    | fail)
  have hb1 := HKR.blk hb (fun h => h)
  have c1 : w1.cell? ⟨b, 1, none⟩ = some (.bool leaf) := by rw [cell_of_block hb1]; rfl
  have c2 : w1.cell? ⟨b, 2, none⟩ = some (.slice a n c) := by rw [cell_of_block hb1]; rfl
  refine wp_region_still_tail 9 (by kernel_rfl) (by kernel_rfl) ?_
  simp only [List.take_succ_cons, List.take_zero, List.drop_succ_cons, List.drop_zero]
  iterate 8 still_step
  refine ws_build rfl _ [(0, _), (1, _)] rfl [(0, .bool leaf), (1, .slice a n c)] rfl _ (fun _ => buildNd2 _ _ _ _ _) ?_
  refine wpStill_nil ?_
  go_wp2_with (first
    | ((with_reducible refine gd_store 108 ?_); refine wl_store_agg rfl _ _ _ rfl br _ rfl _ _ HBR (nodeA leaf (.slice a n c)) rfl (nodeA leaf (.slice a n c)) (store_whole _ _ rfl) (Nat.le_refl 2) (infoNd _ _) (nodeA_one2 _ _ _ _) ?_; intro w2 HB2 HK2)
    | fail)
  refine bodyPost_ret (v := .agg (nodeA leaf (.slice a n c))) ?_ rfl ⟨rfl, ?_⟩
  · exact results_cell_row rfl _ _ br _ _ _ _ rfl HB2 Tryz.underlying108 rfl (infoNd _ _)
  · exact HKR.drew.then HK2 (fun i hi e => absurd hbr (by rw [← e]; exact Nat.not_le.2 hi))
set_option maxRecDepth 100000 in
set_option maxHeartbeats 1000000 in
theorem sizeOf_calls (w : World) (X : Nat → Prop) (b id : Nat) (leaf : Bool) (rs : List Rw) (ks : List Nat) (h : KN w X b id leaf rs ks) (hl : Shorts rs) : Calls Tryz.prog 96 #[.pointer (some ⟨b, 0, none⟩)] w (Quiet w (.int .i64 (sizeN ⟨leaf, rs⟩))) := by
  obtain ⟨rv, kv, hb, hr, _⟩ := h.ex
  have HR := Lib.hid hr
  obtain ⟨⟨ad, cap, rfl, hcap, hrd⟩, _⟩ := hr
  have HB := Lib.hid hb
  have HL := Lib.hid hl
  clear hrd hb h hl hcap
  go_enter Tryz.func96, Tryz.ntmps96
  go_wp2_with fail
  refine (asNode_calls w b id leaf _ _ _ kv HB.out).mono ?_
  rintro e w1 ⟨rfl, hk1⟩
  have HK1 := Lib.hid hk1
  clear hk1
  go_wp2_with fail
  refine (size_calls w1 leaf _ rs (HR.out.1.new HK1.out) HL.out).mono ?_
  rintro e w2 ⟨rfl, hk2⟩
  have HK2 := Lib.hid (HK1.out.trans hk2)
  clear hk2
  go_wp2_with fail
  go_ret
  exact ⟨rfl, HK2.out⟩
theorem infoRwS : (Tryz.prog.info? 70).map (·.size) = some 3 := by kernel_rfl
theorem infoPtrS : (Tryz.prog.info? 91).map (·.size) = some 1 := by kernel_rfl
theorem buildKn (leaf : Bool) (a : Option Addr) (n c : Nat) (w : World) : (Instr.build 96 #[(1, .bool leaf), (2, .slice a n c)]).run Tryz.prog w = .ok (.agg (knA 0 leaf (.slice a n c) (.slice none 0 0))) w := by kernel_rfl
theorem rowsA_part (rs : List Rw) (l h : Nat) : ((rowsA rs).take h).drop l = rowsA ((rs.take h).drop l) := by unfold rowsA; rw [List.map_drop, List.map_take]
theorem ptrs_part (ks : List Nat) (l h : Nat) : ((ks.map ptrV).take h).drop l = ((ks.take h).drop l).map ptrV := by rw [List.map_drop, List.map_take]
theorem ptrs_one (ks : List Nat) : ∀ u ∈ ks.map ptrV, u.oneCell' = true := by
  intro u hu
  obtain ⟨b, _, rfl⟩ := List.mem_map.1 hu
  rfl
theorem rd_nil {w : World} {sz n c : Nat} {rows : List (Array Value)} (h : isRdA w sz (.slice none n c) rows) : n = 0 := by
  obtain ⟨ad, cap, he, hc, hrd⟩ := h
  injection he with e1 e2 e3
  subst e1 e2
  cases rows with
  | nil => rfl
  | cons r t => obtain ⟨g, o, h, _⟩ := hrd 0 r rfl; cases h
theorem rd1_nil {w : World} {n c : Nat} {vs : List Value} (h : isRd w (.slice none n c) vs) : n = 0 := by
  obtain ⟨ad, cap, he, hc, hrd⟩ := h
  injection he with e1 e2 e3
  subst e1 e2
  cases vs with
  | nil => rfl
  | cons r t => obtain ⟨g, o, h, _⟩ := hrd 0 r rfl; cases h
/-- A new knot. -/
def NewK (w : World) (X : Nat → Prop) (leaf : Bool) (rs : List Rw) (ks : List Nat) (e : Ending) (w' : World) : Prop :=
  ∃ b, e = .returned (.pointer (some ⟨b, 0, none⟩)) ∧ KN w' X b 0 leaf rs ks ∧ w.heap.size ≤ b ∧ Keeps w w' (fun _ => False)
set_option maxRecDepth 100000 in
set_option maxHeartbeats 2000000 in
theorem part_calls (w : World) (X : Nat → Prop) (hX : ∀ i, w.heap.size ≤ i → X i) (b id : Nat) (leaf : Bool) (rs : List Rw) (ks : List Nat) (h : KN w X b id leaf rs ks) (l q : Nat) (h1 : l ≤ q) (h2 : q ≤ rs.length) (hl : rs.length ≤ 1000000) (hks : leaf = false → ks.length = rs.length) :
    Calls Tryz.prog 97 #[.pointer (some ⟨b, 0, none⟩), .int .i64 l, .int .i64 q] w (NewK w X leaf ((rs.take q).drop l) (if leaf = true then [] else (ks.take q).drop l)) := by
  obtain ⟨rv, kv, hb, hr, hk⟩ := h.ex
  have HR := Lib.hid hr
  have HK := Lib.hid hk
  obtain ⟨⟨ad, cap, rfl, hcap, hrd⟩, _⟩ := hr
  obtain ⟨⟨ad2, cap2, rfl, hcap2, hrd2⟩, _⟩ := hk
  have HB := Lib.hid hb
  have HX := Lib.hid hX
  have HKS := Lib.hid hks
  have e1 : (rowsA rs).length = rs.length := rowsA_len rs
  have e2 : (ks.map ptrV).length = ks.length := List.length_map _
  rw [e1] at HR HB hcap
  rw [e2] at HK HB hcap2
  have c1 : w.cell? ⟨b, 1, none⟩ = some (.bool leaf) := by rw [cell_of_block HB.out]; rfl
  have c2 : w.cell? ⟨b, 2, none⟩ = some (.slice ad rs.length cap) := by rw [cell_of_block HB.out]; rfl
  clear hrd hrd2 hb h hX hks e1 e2
  obtain ⟨n, hn⟩ : ∃ n, n = rs.length := ⟨_, rfl⟩
  have HN := Lib.hid hn
  rw [← hn] at HR HB c2 hcap hl h2
  clear hn
  obtain ⟨kz, hkz⟩ : ∃ kz, kz = (if leaf = true then [] else (ks.take q).drop l) := ⟨_, rfl⟩
  have HKZ := Lib.hid hkz
  rw [← hkz]
  clear hkz
  go_enter Tryz.func97, Tryz.ntmps97
  go_wp2_with fail
  have HS : (fun (w' : World) => w'.cell? ⟨b, 1, none⟩ = some (.bool leaf) ∧ w'.cell? ⟨b, 2, none⟩ = some (.slice ad n cap)) w.drew := ⟨c1, c2⟩
  have hrp := HR.out.1.cut h1 h2
  rw [rowsA_part] at hrp
  have HRP := Lib.hid hrp
  have HNC := Lib.hid (cut_nil (l := l) (sz := 3) (m := q - l) HR.out.2.1 (fun e => rd_nil (by rw [← e]; exact HR.out.1)))
  clear hrp
  refine wp_region_held_drew (S := (fun (w' : World) => w'.cell? ⟨b, 1, none⟩ = some (.bool leaf) ∧ w'.cell? ⟨b, 2, none⟩ = some (.slice ad n cap))) (by kernel_rfl) HS (fun _ => ?_)
  first | (refine rg_s 0 rfl (by kernel_rfl) (fun _ _ _ h => h) HS ?_ ?_; rfl) | (refine rg_t 0 (v := ?_) rfl (by kernel_rfl) (fun _ _ _ h => h) HS ?_ ?_ ?_; rotate_left; rfl; focus (intro w hSw; (try dsimp only at hSw); go_simp; all_goals (with_reducible rfl)))
  simp only [Act.put, l_a, l_s, l_z]
  first | (refine rg_s 1 rfl (by kernel_rfl) (fun _ _ _ h => h) HS ?_ ?_; rfl) | (refine rg_t 1 (v := ?_) rfl (by kernel_rfl) (fun _ _ _ h => h) HS ?_ ?_ ?_; rotate_left; rfl; focus (intro w hSw; (try dsimp only at hSw); go_simp; all_goals (with_reducible rfl)))
  simp only [Act.put, l_a, l_s, l_z]
  first | (refine rg_s 2 rfl (by kernel_rfl) (fun _ _ _ h => h) HS ?_ ?_; rfl) | (refine rg_t 2 (v := ?_) rfl (by kernel_rfl) (fun _ _ _ h => h) HS ?_ ?_ ?_; rotate_left; rfl; focus (intro w hSw; (try dsimp only at hSw); go_simp; all_goals (with_reducible rfl)))
  simp only [Act.put, l_a, l_s, l_z]
  first | (refine rg_s 3 rfl (by kernel_rfl) (fun _ _ _ h => h) HS ?_ ?_; rfl) | (refine rg_t 3 (v := ?_) rfl (by kernel_rfl) (fun _ _ _ h => h) HS ?_ ?_ ?_; rotate_left; rfl; focus (intro w hSw; (try dsimp only at hSw); go_simp; all_goals (with_reducible rfl)))
  simp only [Act.put, l_a, l_s, l_z]
  first | (refine rg_s 4 rfl (by kernel_rfl) (fun _ _ _ h => h) HS ?_ ?_; rfl) | (refine rg_t 4 (v := ?_) rfl (by kernel_rfl) (fun _ _ _ h => h) HS ?_ ?_ ?_; rotate_left; rfl; focus (intro w hSw; (try dsimp only at hSw); go_simp; all_goals (with_reducible rfl)))
  simp only [Act.put, l_a, l_s, l_z]
  first | (refine rg_s 5 rfl (by kernel_rfl) (fun _ _ _ h => h) HS ?_ ?_; rfl) | (refine rg_t 5 (v := ?_) rfl (by kernel_rfl) (fun _ _ _ h => h) HS ?_ ?_ ?_; rotate_left; rfl; focus (intro w hSw; (try dsimp only at hSw); go_simp; all_goals (with_reducible rfl)))
  simp only [Act.put, l_a, l_s, l_z]
  first | (refine rg_s 6 rfl (by kernel_rfl) (fun _ _ _ h => h) HS ?_ ?_; rfl) | (refine rg_t 6 (v := ?_) rfl (by kernel_rfl) (fun _ _ _ h => h) HS ?_ ?_ ?_; rotate_left; rfl; focus (intro w hSw; (try dsimp only at hSw); go_simp; all_goals (with_reducible rfl)))
  simp only [Act.put, l_a, l_s, l_z]
  first | (refine rg_s 7 rfl (by kernel_rfl) (fun _ _ _ h => h) HS ?_ ?_; rfl) | (refine rg_t 7 (v := ?_) rfl (by kernel_rfl) (fun _ _ _ h => h) HS ?_ ?_ ?_; rotate_left; rfl; focus (intro w hSw; (try dsimp only at hSw); go_simp; all_goals (with_reducible rfl)))
  simp only [Act.put, l_a, l_s, l_z]
  first | (refine rg_s 8 rfl (by kernel_rfl) (fun _ _ _ h => h) HS ?_ ?_; rfl) | (refine rg_t 8 (v := ?_) rfl (by kernel_rfl) (fun _ _ _ h => h) HS ?_ ?_ ?_; rotate_left; rfl; focus (intro w hSw; (try dsimp only at hSw); go_simp; all_goals (with_reducible rfl)))
  simp only [Act.put, l_a, l_s, l_z]
  first | (refine rg_s 9 rfl (by kernel_rfl) (fun _ _ _ h => h) HS ?_ ?_; rfl) | (refine rg_t 9 (v := ?_) rfl (by kernel_rfl) (fun _ _ _ h => h) HS ?_ ?_ ?_; rotate_left; rfl; focus (intro w hSw; (try dsimp only at hSw); go_simp; all_goals (with_reducible rfl)))
  simp only [Act.put, l_a, l_s, l_z]
  refine rg_cut 10 rfl (by kernel_rfl) (by kernel_rfl) (by kernel_rfl) 3 ad n cap l q _ (fun _ _ _ h => h) HS (by rfl) Tryz.underlying47 infoRwS rfl rfl rfl (.inl rfl) h1 (Nat.le_trans h2 hcap) ?_
  simp only [Act.put, l_a, l_s, l_z]
  refine rl_one 11 rfl (by kernel_rfl) ?_
  refine rl_call 70 _ _ (by rfl) _ Tryz.func70 (by kernel_rfl) (by kernel_rfl) [.slice (cutA ad cap l 3) (q - l) (cap - l)] rfl (cloneR_calls _ _ ((rs.take q).drop l) (isRdA.new HRP.out (Keeps.refl _ _).drew) HNC.out (by rw [List.length_drop, List.length_take]; omega)) ?_
  rintro e w1 ⟨v1, rfl, ho1, hk1⟩
  obtain ⟨a1, p1, rfl⟩ := ho1.shape
  have HO1 := Lib.hid ho1
  have HK1 := Lib.hid ((Keeps.refl w (fun _ => False)).drew.trans hk1)
  have HS1 : (fun (w' : World) => w'.cell? ⟨b, 1, none⟩ = some (.bool leaf) ∧ w'.cell? ⟨b, 2, none⟩ = some (.slice ad n cap)) w1 := ⟨Keeps.cellK hk1 c1, Keeps.cellK hk1 c2⟩
  refine ⟨_, rfl, HS1, ?_⟩
  simp only [Act.put, l_a, l_s, l_z]
  refine rg_build 12 [(1, _), (2, _)] rfl (by kernel_rfl) (by kernel_rfl) (by kernel_rfl) (.agg (knA 0 leaf (.slice a1 (rowsA ((rs.take q).drop l)).length p1) (.slice none 0 0))) (fun _ _ _ h => h) HS1 (by rfl) [(1, .bool leaf), (2, .slice a1 (rowsA ((rs.take q).drop l)).length p1)] rfl (fun _ => buildKn _ _ _ _ _) ?_
  simp only [Act.put, l_a, l_s, l_z]
  refine rl_one 13 rfl (by kernel_rfl) ?_
  refine wl_box_agg rfl _ _ rfl (knA 0 leaf (.slice a1 (rowsA ((rs.take q).drop l)).length p1) (.slice none 0 0)) rfl ?_
  intro bn w2 hbn HBN HKN
  refine till_nil ?_
  have HS2 : (fun (w' : World) => w'.cell? ⟨b, 1, none⟩ = some (.bool leaf) ∧ w'.cell? ⟨b, 2, none⟩ = some (.slice ad n cap)) w2 := ⟨Keeps.cellK HKN HS1.1, Keeps.cellK HKN HS1.2⟩
  refine ⟨HS2, ?_⟩
  simp only [Act.put, l_a, l_s, l_z]
  first | (refine rg_s 14 rfl (by kernel_rfl) (fun _ _ _ h => h) HS2 ?_ ?_; rfl) | (refine rg_t 14 (v := ?_) rfl (by kernel_rfl) (fun _ _ _ h => h) HS2 ?_ ?_ ?_; rotate_left; rfl; focus (intro w hSw; (try dsimp only at hSw); go_simp; all_goals (with_reducible rfl)))
  simp only [Act.put, l_a, l_s, l_z]
  refine wpAnyH_done (by kernel_rfl) ?_ _
  have HB2 := Keeps.blk HKN (Keeps.blk HK1.out HB.out (fun h => h)) (fun h => h)
  have d1 := HS2.1
  have d3 : w2.cell? ⟨b, 3, none⟩ = some (.slice ad2 ks.length cap2) := by rw [cell_of_block HB2]; rfl
  have f3 : w2.frozen? ⟨bn, 3, none⟩ = false := free_of_block HBN 3
  have s3 : w2.cell? ⟨bn, 3, none⟩ = some (.slice none 0 0) := by rw [cell_of_block HBN]; rfl
  have HKW : Hid (Keeps w w2 (fun _ => False)) := Lib.hid (HK1.out.trans HKN)
  have HRW : Hid (isRows w2 X (.slice a1 (rowsA ((rs.take q).drop l)).length p1) ((rs.take q).drop l)) := Lib.hid ((isRows_own HO1.out (fun i hi => HX.out i hi)).new HKN)
  have HBW : Hid (w.heap.size ≤ bn) := Lib.hid (Nat.le_trans HK1.out.size hbn)
  have HBNH := Lib.hid HBN
  clear HS HS1 HS2 c1 c2 HB2 HKN hbn HBN HO1 hk1 ho1
  cases leaf
  · as_aux_lemma =>
    have HKL := Lib.hid (HKS.out rfl)
    have HQ2 : Hid (q ≤ ks.length) := Lib.hid (by rw [HKL.out, ← HN.out]; exact h2)
    have HQ3 : Hid (q ≤ cap2) := Lib.hid (Nat.le_trans HQ2.out hcap2)
    clear HKS
    go_wp2_with (first
      | ((with_reducible refine wl_cut rfl _ 91 _ (some _) (some _) rfl Tryz.underlying94 1 infoPtrS ad2 ks.length cap2 rfl l q _ rfl rfl (.inl rfl) h1 HQ3.out ?_))
      | fail)
    have hkp := HK.out.1.cut (w := w) h1 HQ2.out
    rw [ptrs_part] at hkp
    have hnc := cut_nil (l := l) (sz := 1) (m := q - l) HK.out.2.1 (fun e => rd1_nil (by rw [← e]; exact HK.out.1))
    refine (cloneK_calls w2 _ (((ks.take q).drop l).map ptrV) (hkp.new HKW.out) (ptrs_one _) hnc (by rw [List.length_map, List.length_drop, List.length_take]; have := HKL.out; have := HN.out; omega)).mono ?_
    rintro e w3 ⟨v3, rfl, ho3, hk3⟩
    obtain ⟨a3, p3, rfl⟩ := isOwn.shapeN ho3
    have HBN3 := hk3.blk HBNH.out (fun h => h)
    have s33 : w3.cell? ⟨bn, 3, none⟩ = some (.slice none 0 0) := by rw [cell_of_block HBN3]; rfl
    have f33 : w3.frozen? ⟨bn, 3, none⟩ = false := free_of_block HBN3 3
    have HO3 := Lib.hid ho3
    have HK3 := Lib.hid hk3
    have HBN3H := Lib.hid HBN3
    clear HBN3 ho3 hk3 hkp hnc d1 d3 f3 s3
    obtain ⟨m3, hm3⟩ : ∃ m3, m3 = (((ks.take q).drop l).map ptrV).length := ⟨_, rfl⟩
    have HM3 := Lib.hid hm3
    rw [← hm3]
    clear hm3
    go_wp2_with fail
    go_ret
    rw [HM3.out]
    have hkc : Keeps w3 (w3.setCell ⟨bn, 3, none⟩ (.slice a3 (((ks.take q).drop l).map ptrV).length p3)) (· = bn) := keeps_cell w3 bn 3 _
    have hne : ∀ g, (Value.slice a3 (((ks.take q).drop l).map ptrV).length p3).ownBlock = some g → ¬ g = bn := fun g hg e => by
      have := (isOwn.blk HO3.out g hg).1
      have := lt_of_blk HBNH.out
      omega
    refine ⟨bn, rfl, ⟨HX.out _ HBW.out, .slice a1 (rowsA ((rs.take q).drop l)).length p1, .slice a3 (((ks.take q).drop l).map ptrV).length p3, (by have h9 := blk_setCell HBN3H.out 3 (.slice a3 (((ks.take q).drop l).map ptrV).length p3); simpa [knA] using h9), ?_, ?_⟩, HBW.out, ?_⟩
    · exact (HRW.out.new HK3.out).kept hkc (fun i e _ => .inr (by have e' : i = bn := e; subst e'; exact ⟨_, HBN3H.out⟩))
    · rw [HKZ.out]
      exact isKids_own (lo := w2.heap.size) (HO3.out.kept hkc hne) (fun i hi => HX.out i (Nat.le_trans HKW.out.size hi))
    · exact (HKW.out.trans HK3.out).then hkc (fun i hi e => by have := HBW.out; omega)
  · as_aux_lemma =>
    go_wp2_with fail
    go_ret
    exact ⟨bn, rfl, ⟨HX.out _ HBW.out, _, _, HBNH.out, HRW.out, by rw [HKZ.out]; exact isKids_nil⟩, HBW.out, HKW.out⟩
/-- A new node. -/
def NewN (w : World) (X : Nat → Prop) (d : Nat) (n : Nd d) (e : Ending) (w' : World) : Prop :=
  ∃ b, e = .returned (.pointer (some ⟨b, 0, none⟩)) ∧ isK w' X d n b ∧ w.heap.size ≤ b ∧ Keeps w w' (fun _ => False)
end Go.Proofs.YtblpkifkaoaicaaGreat

namespace Go.Proofs.YtblpkifkaoaicaaGreat
open Go Go.RowKit Go.Maps Wb

theorem infoSl : (Tryz.prog.info? 47).map (fun i => (i.zero, i.size, i.bytes)) = some (some (.slice none 0 0), 1, 24) := by kernel_rfl
theorem infoSk : (Tryz.prog.info? 94).map (fun i => (i.zero, i.size, i.bytes)) = some (some (.slice none 0 0), 1, 24) := by kernel_rfl
theorem buildRw1 (k : Nm) (w : World) : (Instr.build 70 #[(0, .string (bs k))]).run Tryz.prog w = .ok (.agg (rowA ⟨k, [], 0⟩)) w := by kernel_rfl
theorem buildKn2 (a a2 : Option Addr) (n c n2 c2 : Nat) (w : World) : (Instr.build 96 #[(2, .slice a n c), (3, .slice a2 n2 c2)]).run Tryz.prog w = .ok (.agg (knA 0 false (.slice a n c) (.slice a2 n2 c2))) w := by kernel_rfl
/-- Rows for kids. -/
def kRows {d : Nat} (key : Nm) (g : List (Nd d)) : List Rw := (keyed key g).map fun r => ⟨keyR r, [], 0⟩
theorem kRows_len {d : Nat} (key : Nm) (g : List (Nd d)) : (kRows key g).length = g.length := by unfold kRows; rw [List.length_map, keyed_len]
theorem kRows_ok {d : Nat} (key : Nm) (g : List (Nd d)) : RsOk (kRows key g) (keyed key g) := by
  refine ⟨?_, fun r hr => ?_⟩
  · unfold kRows; rw [List.map_map]; rfl
  · unfold kRows at hr
    obtain ⟨q, _, rfl⟩ := List.mem_map.1 hr
    rfl
theorem kRows_zero {d : Nat} {key : Nm} {g : List (Nd d)} (h : 0 < g.length) : (kRows key g)[0]? = some ⟨key, [], 0⟩ := by
  cases g with
  | nil => simp at h
  | cons n r => rfl
theorem kRows_succ {d : Nat} {key : Nm} {g : List (Nd d)} {q : Nat} {n : Nd d} (hq : 0 < q) (h : g[q]? = some n) : (kRows key g)[q]? = some ⟨lowest n.2, [], 0⟩ := by
  cases g with
  | nil => simp at h
  | cons m r =>
    obtain ⟨p, rfl⟩ : ∃ p, q = p + 1 := ⟨q - 1, by omega⟩
    unfold kRows keyed
    rw [List.map_cons, List.getElem?_cons_succ, List.map_map, List.getElem?_map]
    rw [List.getElem?_cons_succ] at h
    rw [h]
    rfl
def WithRel {d : Nat} (w : World) (key : Nm) (g : List (Nd d)) (q : Nat) (kk : Nm) (v : Value) (wr : World) : Prop :=
  isOwnA wr w.heap.size 70 3 v (rowsA ((kRows key g).take q)) ∧ Keeps w wr (fun _ => False) ∧ (q = 0 → kk = key)
theorem WithRel.step {d : Nat} {w wr w' : World} {key kk : Nm} {g : List (Nd d)} {q : Nat} {v v' : Value} (h : WithRel w key g q kk v wr) {k2 : Nm} (hr : (kRows key g)[q]? = some ⟨k2, [], 0⟩) (ho : isOwnA w' w.heap.size 70 3 v' (rowsA ((kRows key g).take q) ++ [rowA ⟨k2, [], 0⟩])) (hk : Keeps w w' (fun _ => False)) : WithRel w key g (q + 1) k2 v' w' :=
  ⟨by rw [List.take_add_one, hr, Option.toList_some, rowsA_app]; exact ho, hk, fun e => absurd e (by omega)⟩
set_option maxRecDepth 100000 in
set_option maxHeartbeats 4000000 in
theorem with_calls {d : Nat} (w : World) (X : Nat → Prop) (hX : ∀ i, w.heap.size ≤ i → X i) (n : Nd (d + 1)) (b : Nat) (h : isK w X (d + 1) n b) (l q : Nat) (hlq : l ≤ q) (hql : q ≤ n.2.length) (hn : n.2.length ≤ 1000) (g : List (Nd d)) (js : List Nat) (lv : Value) (hg : isKids w X lv js) (hgk : isKs w X d g js) (hgl : g.length ≤ 1000) (key : Nm) :
    Calls Tryz.prog 68 #[.pointer (some ⟨b, 0, none⟩), .int .i64 l, .int .i64 q, lv, .string (bs key)] w (NewN w X (d + 1) (0, withR n.2 l q g key)) := by
  obtain ⟨rs, ks, hkn, hrok, hkl, hkids⟩ := h
  obtain ⟨rv, kv, hb, hr, hk⟩ := hkn.ex
  have HR := Lib.hid hr
  have HK := Lib.hid hk
  have HG := Lib.hid hg
  have HGK := Lib.hid hgk
  obtain ⟨⟨ad, cap, rfl, hcap, hrd⟩, zza⟩ := hr
  obtain ⟨⟨ad2, cap2, rfl, hcap2, hrd2⟩, zzb⟩ := hk
  obtain ⟨⟨ad3, cap3, rfl, hcap3, hrd3⟩, zzc⟩ := hg
  clear zza zzb zzc
  have HB := Lib.hid hb
  have HX := Lib.hid hX
  have e1 : (rowsA rs).length = n.2.length := by rw [rowsA_len, hrok.len]
  have e2 : (ks.map ptrV).length = n.2.length := by rw [List.length_map, hkl]
  have e3 : (js.map ptrV).length = g.length := by rw [List.length_map, hgk.1]
  rw [e1] at HR HB hcap
  rw [e2] at HK HB hcap2
  rw [e3] at HG hcap3 ⊢
  have HRS : Hid (rs.length = n.2.length) := Lib.hid hrok.len
  have HKS : Hid (ks.length = n.2.length) := Lib.hid hkl
  have HJS : Hid (js.length = g.length) := Lib.hid hgk.1
  have HJC : Hid (∀ (i : Nat) x, js[i]? = some x → ∃ gg o, ad3 = some ⟨gg, o, none⟩ ∧ gg < w.heap.size ∧ w.cell? ⟨gg, o + i, none⟩ = some (.pointer (some ⟨x, 0, none⟩))) := Lib.hid fun i x hx => hrd3 i _ (by rw [List.getElem?_map, hx]; rfl)
  have HOUT : Hid (∀ (bz : Nat) (wz : World) (rv kv : Value), w.heap.size ≤ bz → Keeps w wz (fun _ => False) → wz.heap[bz]? = some (.cells (knA 0 false rv kv) 96 (0, 0)) → isRows wz X rv (rs.take l ++ kRows key g ++ rs.drop q) → isKids wz X kv (ks.take l ++ js ++ ks.drop q) → NewN w X (d + 1) (0, withR n.2 l q g key) (.returned (.pointer (some ⟨bz, 0, none⟩))) wz) := Lib.hid fun bz wz rv kv hbz hkz hbk hrz hkz2 => by
    refine ⟨bz, rfl, isK_iff.2 ⟨_, _, ⟨hX bz hbz, rv, kv, hbk, hrz, hkz2⟩, ?_, ?_⟩, hbz, hkz⟩
    · exact ((hrok.take l).app (kRows_ok key g)).app (hrok.drop q)
    · have hks : KsOk w X n.2 ks := ⟨by rw [List.length_map]; exact hkl, fun i m x hm hx => by
        rw [List.getElem?_map, Option.map_eq_some_iff] at hm
        obtain ⟨r, hr, rfl⟩ := hm
        exact hkids i r x hr hx⟩
      have hmid : KsOk w X (keyed key g) js := by
        show isKs w X d ((keyed key g).map kidR) js
        rw [keyed_kids]
        exact hgk
      exact (((hks.take l).app hmid).app (hks.drop q)).new hkz
  obtain ⟨N, hN⟩ : ∃ N, N = n.2.length := ⟨_, rfl⟩
  obtain ⟨M, hM⟩ : ∃ M, M = g.length := ⟨_, rfl⟩
  rw [← hN] at HR HB hcap HK hcap2 hql hn HRS HKS
  rw [← hM] at HG hcap3 hgl HJS ⊢
  have HM := Lib.hid hM
  have HLQ := Lib.hid (And.intro hlq hql)
  have hMi : (M : Int) ≤ 1000 := by omega
  have HNB : Hid (N ≤ 1000) := Lib.hid hn
  have HCP : Hid (N ≤ cap ∧ N ≤ cap2 ∧ M ≤ cap3) := Lib.hid ⟨hcap, hcap2, hcap3⟩
  clear hrd hrd2 hrd3 hb hkn hX hkids hkl hrok e1 e2 e3 hgk hN hM hlq hql hn hcap hcap2 hcap3
  go_enter Tryz.func68, Tryz.ntmps68
  go_wp2_with fail
  go_loopw [4, 11, 16] (fun v4 v11 v16 wr => ∃ i : Nat, i ≤ M ∧ v16 = .int .i64 i ∧ ∃ kk, v4 = .string (bs kk) ∧ Hid (WithRel w key g i kk v11 wr)) (fun _ _ v16 _ => M - (intOf v16).toNat)
  case atStart => exact ⟨0, Nat.zero_le _, rfl, key, rfl, Lib.hid ⟨isOwnA_nil _ _ _ _, Keeps.refl _ _, fun _ => rfl⟩⟩
  case round =>
    obtain ⟨i, hi, rfl, kk, rfl, hrel⟩ := hrel
    have hi0 : (0 : Int) ≤ i := by omega
    by_cases hlt : i < M
    · as_aux_lemma =>
      have hlb : decide ((i : Int) < (M : Int)) = true := by simp; omega
      have hlbn : decide (i < M) = true := by simp; omega
      have hiM : (i : Int) < M := by omega
      obtain ⟨m, hm⟩ : ∃ m, g[i]? = some m := ⟨_, List.getElem?_eq_getElem (by have := HM.out; omega)⟩
      obtain ⟨x, hx, hmk⟩ := HGK.out.at hm
      obtain ⟨gg, o, rfl, hgl2, hcx⟩ := HJC.out i x hx
      have hc1 := (hrel.out.2.1.cell (p := ⟨gg, o + i, none⟩) hgl2 (fun h => h)).trans hcx
      obtain ⟨va, vc, rfl⟩ := hrel.out.1.shape
      have hlen : (rowsA ((kRows key g).take i)).length = i := by rw [rowsA_len, List.length_take, kRows_len]; have := HM.out; omega
      rw [hlen] at hrel
      rw [hlen]
      have HREL := Lib.hid hrel.out
      have HLT := Lib.hid hlt
      have HMM := Lib.hid hm
      have HLEN := Lib.hid hlen
      have HMK := Lib.hid hmk
      clear hm hx hcx hlt hmk hrel hlen
      rcases Nat.eq_zero_or_pos i with hz | hpos
      · as_aux_lemma =>
        have hkk := HREL.out.2.2 hz
        subst hkk
        have HROW : Hid ((kRows kk g)[i]? = some ⟨kk, [], 0⟩) := Lib.hid (by rw [hz]; exact kRows_zero (key := kk) (g := g) (by have := HM.out; have := HLT.out; omega))
        have hgt : decide ((0 : Int) < (i : Int)) = false := by simp; omega
        have hgtn : decide (0 < i) = false := by simp; omega
        clear hz
        go_wp2_with (first
          | ((with_reducible refine gd_build 70 ?_); refine wl_buildL rfl _ _ rfl [(0, .string (bs kk))] rfl (.agg (rowA ⟨kk, [], 0⟩)) (fun _ => buildRw1 _ _) ?_)
          | (refine wl_sliceA1 rfl _ _ rfl 70 _ 3 40 Tryz.underlying47 infoRwZ (by decide) (by decide) (rowA ⟨kk, [], 0⟩) rfl rfl ?_; intro bb w2 hbb HBB HK2)
          | (at_builtin; refine wl_appendA rfl _ _ 47 rfl 70 _ 3 40 Tryz.underlying47 infoRwZ rfl (by decide) w.heap.size (.slice va i vc) (rowsA ((kRows kk g).take i)) rfl (HREL.out.1.new HK2) bb (rowA ⟨kk, [], 0⟩) rfl HBB rfl (rowA_one _) (by rw [HLEN.out]; unfold maxLen; omega) (by rw [HLEN.out]; omega) (Nat.le_trans HREL.out.2.1.size HK2.size) ?_; intro v' w3 hap)
          | fail)
        have HST : Hid (WithRel w kk g (i + 1) kk v' w3) := Lib.hid (HREL.out.step HROW.out hap.1 ((HREL.out.2.1.trans HK2).then hap.2.1 (fun j hj e => by have := (HREL.out.1.blk j e).1; omega)))
        go_roundw
        case rel => exact ⟨i + 1, HLT.out, by go_num, kk, rfl, HST⟩
        case measure => have := HLT.out; simp [intOf]; omega
      · as_aux_lemma =>
        have hgt : decide ((0 : Int) < (i : Int)) = true := by simp; omega
        have hgtn : decide (0 < i) = true := by simp; omega
        obtain ⟨rs2, ks2, hkn2, hrok2, _⟩ := isK_iff.1 (HMK.out.new HREL.out.2.1)
        have HLOW := lowest_calls wr X x m.1 (leafD d) rs2 ks2 hkn2
        rw [lowRs_ok hrok2] at HLOW
        have HROW := Lib.hid (kRows_succ (key := key) hpos HMM.out)
        have HLO := Lib.hid HLOW
        clear hkn2 hrok2 HLOW hpos
        go_wp2_with fail
        refine HLO.out.mono ?_
        rintro e w8 ⟨rfl, rfl⟩
        obtain ⟨kz, hkz⟩ : ∃ kz, kz = lowest m.2 := ⟨_, rfl⟩
        rw [← hkz] at HROW ⊢
        clear hkz HLO
        go_wp2_with (first
          | ((with_reducible refine gd_build 70 ?_); refine wl_buildL rfl _ _ rfl [(0, .string (bs kz))] rfl (.agg (rowA ⟨kz, [], 0⟩)) (fun _ => buildRw1 _ _) ?_)
          | (refine wl_sliceA1 rfl _ _ rfl 70 _ 3 40 Tryz.underlying47 infoRwZ (by decide) (by decide) (rowA ⟨kz, [], 0⟩) rfl rfl ?_; intro bb w2 hbb HBB HK2)
          | (at_builtin; refine wl_appendA rfl _ _ 47 rfl 70 _ 3 40 Tryz.underlying47 infoRwZ rfl (by decide) w.heap.size (.slice va i vc) (rowsA ((kRows key g).take i)) rfl (HREL.out.1.new HK2) bb (rowA ⟨kz, [], 0⟩) rfl HBB rfl (rowA_one _) (by rw [HLEN.out]; unfold maxLen; omega) (by rw [HLEN.out]; omega) (Nat.le_trans HREL.out.2.1.size HK2.size) ?_; intro v' w3 hap)
          | fail)
        have HST : Hid (WithRel w key g (i + 1) kz v' w3) := Lib.hid (HREL.out.step HROW.out hap.1 ((HREL.out.2.1.trans HK2).then hap.2.1 (fun j hj e => by have := (HREL.out.1.blk j e).1; omega)))
        go_roundw
        case rel => exact ⟨i + 1, HLT.out, by go_num, kz, rfl, HST⟩
        case measure => have := HLT.out; simp [intOf]; omega
    · as_aux_lemma =>
      obtain rfl : i = M := by omega
      have hlb : decide ((i : Int) < (i : Int)) = false := by simp
      have hlbn : decide (i < i) = false := by simp
      have HALL : Hid ((kRows key g).take i = kRows key g) := Lib.hid (by rw [List.take_of_length_le]; rw [kRows_len]; have := HM.out; omega)
      have HREL := hrel.out
      unfold WithRel at HREL
      rw [HALL.out] at HREL
      obtain ⟨ho, hkw, _⟩ := HREL
      obtain ⟨va, vc, rfl⟩ := ho.shape
      have hlen : (rowsA (kRows key g)).length = i := by rw [rowsA_len, kRows_len]; exact HM.out.symm
      rw [hlen] at ho hrel ⊢
      have HO := Lib.hid ho
      have HKW := Lib.hid hkw
      have HBR := hkw.blk HB.out (fun h => h)
      have HSF : Hid (∀ wX, Keeps wr wX (fun _ => False) → wX.cell? ⟨b, 2, none⟩ = some (.slice ad N cap) ∧ wX.cell? ⟨b, 3, none⟩ = some (.slice ad2 N cap2)) := Lib.hid fun wX hk => by
        have h9 := hk.blk HBR (fun h => h)
        exact ⟨by rw [cell_of_block h9]; rfl, by rw [cell_of_block h9]; rfl⟩
      have HA1 : Hid (isRdA wr 3 (.slice ad l cap) (rowsA (rs.take l))) := Lib.hid (by have h9 := (HR.out.1.new hkw).cutH (h := l) (Nat.le_trans HLQ.out.1 HLQ.out.2); rwa [show (rowsA rs).take l = rowsA (rs.take l) from (by unfold rowsA; rw [List.map_take])] at h9)
      have HA3 : Hid (isRdA wr 3 (.slice (cutA ad cap q 3) (N - q) (cap - q)) (rowsA (rs.drop q))) := Lib.hid (by have h9 := (HR.out.1.new hkw).cut (l := q) (h := N) HLQ.out.2 (Nat.le_refl _); rwa [rowsA_part, List.take_of_length_le (show rs.length ≤ N by have := HRS.out; omega)] at h9)
      have HN1 : Hid (∀ c, Value.slice ad l cap = .slice none 0 c → c = 0) := Lib.hid fun c e => by
        injection e with e1 e2 e3
        subst e1 e3
        exact HR.out.2.1 cap (by rw [rd_nil HR.out.1])
      have HN3 := Lib.hid (cut_nil (l := q) (sz := 3) (m := N - q) HR.out.2.1 (fun e => rd_nil (by rw [← e]; exact HR.out.1)))
      have HB1 : Hid (isRd wr (.slice ad2 l cap2) ((ks.take l).map ptrV)) := Lib.hid (by have h9 := (HK.out.1.new hkw).cutH (h := l) (Nat.le_trans HLQ.out.1 HLQ.out.2); rwa [← List.map_take] at h9)
      have HB3 : Hid (isRd wr (.slice (cutA ad2 cap2 q 1) (N - q) (cap2 - q)) ((ks.drop q).map ptrV)) := Lib.hid (by have h9 := (HK.out.1.new hkw).cut (l := q) (h := N) HLQ.out.2 (Nat.le_refl _); rwa [ptrs_part, List.take_of_length_le (show ks.length ≤ N by have := HKS.out; omega)] at h9)
      have HM1 : Hid (∀ c, Value.slice ad2 l cap2 = .slice none 0 c → c = 0) := Lib.hid fun c e => by
        injection e with e1 e2 e3
        subst e1 e3
        exact HK.out.2.1 cap2 (by rw [rd1_nil HK.out.1])
      have HM3 := Lib.hid (cut_nil (l := q) (sz := 1) (m := N - q) HK.out.2.1 (fun e => rd1_nil (by rw [← e]; exact HK.out.1)))
      have HGW : Hid (isKids wr X (.slice ad3 i cap3) js) := Lib.hid (HG.out.new hkw)
      have HPR : Hid (∀ wX, Keeps wr wX (fun _ => False) → PsROk wX [(.slice ad l cap, rs.take l), (.slice va i vc, kRows key g), (.slice (cutA ad cap q 3) (N - q) (cap - q), rs.drop q)]) := Lib.hid fun wX hk p hp => by
        simp only [List.mem_cons, List.not_mem_nil, or_false] at hp
        rcases hp with rfl | rfl | rfl
        · exact ⟨HA1.out.new hk, HN1.out⟩
        · exact ⟨HO.out.rd.new hk, HO.out.nilcap⟩
        · exact ⟨HA3.out.new hk, HN3.out⟩
      have HPK : Hid (∀ wX, Keeps wr wX (fun _ => False) → PsKOk wX [(.slice ad2 l cap2, (ks.take l).map ptrV), (.slice ad3 i cap3, js.map ptrV), (.slice (cutA ad2 cap2 q 1) (N - q) (cap2 - q), (ks.drop q).map ptrV)]) := Lib.hid fun wX hk p hp => by
        simp only [List.mem_cons, List.not_mem_nil, or_false] at hp
        rcases hp with rfl | rfl | rfl
        · exact ⟨HB1.out.new hk, HM1.out, ptrs_one _⟩
        · exact ⟨HGW.out.1.new hk, HGW.out.2.1, ptrs_one _⟩
        · exact ⟨HB3.out.new hk, HM3.out, ptrs_one _⟩
      have HTR : Hid (([(Value.slice ad l cap, rs.take l), (.slice va i vc, kRows key g), (.slice (cutA ad cap q 3) (N - q) (cap - q), rs.drop q)] : List (Value × List Rw)).flatMap (·.2) = rs.take l ++ kRows key g ++ rs.drop q) := Lib.hid (by simp)
      have HTK : Hid (([(Value.slice ad2 l cap2, (ks.take l).map ptrV), (.slice ad3 i cap3, js.map ptrV), (.slice (cutA ad2 cap2 q 1) (N - q) (cap2 - q), (ks.drop q).map ptrV)] : List (Value × List Value)).flatMap (·.2) = (ks.take l ++ js ++ ks.drop q).map ptrV) := Lib.hid (by simp [List.map_append])
      have HLR : Hid ((rs.take l ++ kRows key g ++ rs.drop q).length ≤ 1000000) := Lib.hid (by
        rw [List.length_append, List.length_append, kRows_len, List.length_take, List.length_drop]
        have := HRS.out; have := HNB.out; have := HM.out; omega)
      have HLK : Hid ((ks.take l ++ js ++ ks.drop q).length ≤ 1000000) := Lib.hid (by
        rw [List.length_append, List.length_append, List.length_take, List.length_drop]
        have := HKS.out; have := HNB.out; have := HM.out; have := HJS.out; omega)
      have HXX : Hid (∀ wX, Keeps wr wX (fun _ => False) → ∀ j, wX.heap.size ≤ j → X j) := Lib.hid fun wX hk j hj => HX.out j (Nat.le_trans (Nat.le_trans HKW.out.size hk.size) hj)
      have HQN : Hid (q ≤ N ∧ l ≤ N ∧ N ≤ cap ∧ N ≤ cap2) := Lib.hid (by have := HLQ.out; have := HCP.out; omega)
      have hlq0 : (0 : Int) ≤ l := by omega
      clear hlt hrel ho hkw HBR hlen HALL HG HGK HJC HA1 HA3 HN1 HN3 HB1 HB3 HM1 HM3 HR HK
      go_wp2_with fail
      have HK0 : Keeps wr wr.drew (fun _ => False) := (Keeps.refl wr _).drew
      refine wp_region_held_drew (S := (fun (w' : World) => w'.cell? ⟨b, 2, none⟩ = some (.slice ad N cap) ∧ w'.cell? ⟨b, 3, none⟩ = some (.slice ad2 N cap2))) (by kernel_rfl) (HSF.out _ HK0) (fun _ => ?_)
      refine rg_t 0 (v := ?_) rfl (by kernel_rfl) (fun _ _ _ h => h) (HSF.out _ HK0) ?_ ?_ ?_; rotate_left; rfl; focus (intro w hSw; (try dsimp only at hSw); go_simp; all_goals (with_reducible rfl))
      simp only [Act.put, l_a, l_s, l_z]
      refine rg_t 1 (v := ?_) rfl (by kernel_rfl) (fun _ _ _ h => h) (HSF.out _ HK0) ?_ ?_ ?_; rotate_left; rfl; focus (intro w hSw; (try dsimp only at hSw); go_simp; all_goals (with_reducible rfl))
      simp only [Act.put, l_a, l_s, l_z]
      refine rg_t 2 (v := ?_) rfl (by kernel_rfl) (fun _ _ _ h => h) (HSF.out _ HK0) ?_ ?_ ?_; rotate_left; rfl; focus (intro w hSw; (try dsimp only at hSw); go_simp; all_goals (with_reducible rfl))
      simp only [Act.put, l_a, l_s, l_z]
      refine rg_t 3 (v := ?_) rfl (by kernel_rfl) (fun _ _ _ h => h) (HSF.out _ HK0) ?_ ?_ ?_; rotate_left; rfl; focus (intro w hSw; (try dsimp only at hSw); go_simp; all_goals (with_reducible rfl))
      simp only [Act.put, l_a, l_s, l_z]
      refine rg_t 4 (v := ?_) rfl (by kernel_rfl) (fun _ _ _ h => h) (HSF.out _ HK0) ?_ ?_ ?_; rotate_left; rfl; focus (intro w hSw; (try dsimp only at hSw); go_simp; all_goals (with_reducible rfl))
      simp only [Act.put, l_a, l_s, l_z]
      refine rg_cutH 5 rfl (by kernel_rfl) (by kernel_rfl) (by kernel_rfl) 3 ad N cap l _ (fun _ _ _ h => h) (HSF.out _ HK0) (by rfl) Tryz.underlying47 infoRwS rfl rfl rfl (Nat.le_trans HQN.out.2.1 HQN.out.2.2.1) ?_
      simp only [Act.put, l_a, l_s, l_z]
      refine rg_t 6 (v := ?_) rfl (by kernel_rfl) (fun _ _ _ h => h) (HSF.out _ HK0) ?_ ?_ ?_; rotate_left; rfl; focus (intro w hSw; (try dsimp only at hSw); go_simp; all_goals (with_reducible rfl))
      simp only [Act.put, l_a, l_s, l_z]
      refine rg_t 7 (v := ?_) rfl (by kernel_rfl) (fun _ _ _ h => h) (HSF.out _ HK0) ?_ ?_ ?_; rotate_left; rfl; focus (intro w hSw; (try dsimp only at hSw); go_simp; all_goals (with_reducible rfl))
      simp only [Act.put, l_a, l_s, l_z]
      refine rg_t 8 (v := ?_) rfl (by kernel_rfl) (fun _ _ _ h => h) (HSF.out _ HK0) ?_ ?_ ?_; rotate_left; rfl; focus (intro w hSw; (try dsimp only at hSw); go_simp; all_goals (with_reducible rfl))
      simp only [Act.put, l_a, l_s, l_z]
      refine rg_t 9 (v := ?_) rfl (by kernel_rfl) (fun _ _ _ h => h) (HSF.out _ HK0) ?_ ?_ ?_; rotate_left; rfl; focus (intro w hSw; (try dsimp only at hSw); go_simp; all_goals (with_reducible rfl))
      simp only [Act.put, l_a, l_s, l_z]
      refine rg_t 10 (v := ?_) rfl (by kernel_rfl) (fun _ _ _ h => h) (HSF.out _ HK0) ?_ ?_ ?_; rotate_left; rfl; focus (intro w hSw; (try dsimp only at hSw); go_simp; all_goals (with_reducible rfl))
      simp only [Act.put, l_a, l_s, l_z]
      refine rg_t 11 (v := ?_) rfl (by kernel_rfl) (fun _ _ _ h => h) (HSF.out _ HK0) ?_ ?_ ?_; rotate_left; rfl; focus (intro w hSw; (try dsimp only at hSw); go_simp; all_goals (with_reducible rfl))
      simp only [Act.put, l_a, l_s, l_z]
      refine rg_cut 12 rfl (by kernel_rfl) (by kernel_rfl) (by kernel_rfl) 3 ad N cap q N _ (fun _ _ _ h => h) (HSF.out _ HK0) (by rfl) Tryz.underlying47 infoRwS rfl rfl rfl (.inr ⟨rfl, rfl⟩) HQN.out.1 HQN.out.2.2.1 ?_
      simp only [Act.put, l_a, l_s, l_z]
      refine rg_t 15 (v := ?_) rfl (by kernel_rfl) (fun _ _ _ h => h) (HSF.out _ HK0) ?_ ?_ ?_; rotate_left; rfl; focus (intro w hSw; (try dsimp only at hSw); go_simp; all_goals (with_reducible rfl))
      simp only [Act.put, l_a, l_s, l_z]
      refine rg_t 16 (v := ?_) rfl (by kernel_rfl) (fun _ _ _ h => h) (HSF.out _ HK0) ?_ ?_ ?_; rotate_left; rfl; focus (intro w hSw; (try dsimp only at hSw); go_simp; all_goals (with_reducible rfl))
      simp only [Act.put, l_a, l_s, l_z]
      refine rg_t 17 (v := ?_) rfl (by kernel_rfl) (fun _ _ _ h => h) (HSF.out _ HK0) ?_ ?_ ?_; rotate_left; rfl; focus (intro w hSw; (try dsimp only at hSw); go_simp; all_goals (with_reducible rfl))
      simp only [Act.put, l_a, l_s, l_z]
      refine rg_t 18 (v := ?_) rfl (by kernel_rfl) (fun _ _ _ h => h) (HSF.out _ HK0) ?_ ?_ ?_; rotate_left; rfl; focus (intro w hSw; (try dsimp only at hSw); go_simp; all_goals (with_reducible rfl))
      simp only [Act.put, l_a, l_s, l_z]
      refine rg_t 19 (v := ?_) rfl (by kernel_rfl) (fun _ _ _ h => h) (HSF.out _ HK0) ?_ ?_ ?_; rotate_left; rfl; focus (intro w hSw; (try dsimp only at hSw); go_simp; all_goals (with_reducible rfl))
      simp only [Act.put, l_a, l_s, l_z]
      refine rg_cutH 20 rfl (by kernel_rfl) (by kernel_rfl) (by kernel_rfl) 1 ad2 N cap2 l _ (fun _ _ _ h => h) (HSF.out _ HK0) (by rfl) Tryz.underlying94 infoPtrS rfl rfl rfl (Nat.le_trans HQN.out.2.1 HQN.out.2.2.2) ?_
      simp only [Act.put, l_a, l_s, l_z]
      refine rg_t 21 (v := ?_) rfl (by kernel_rfl) (fun _ _ _ h => h) (HSF.out _ HK0) ?_ ?_ ?_; rotate_left; rfl; focus (intro w hSw; (try dsimp only at hSw); go_simp; all_goals (with_reducible rfl))
      simp only [Act.put, l_a, l_s, l_z]
      refine rg_t 22 (v := ?_) rfl (by kernel_rfl) (fun _ _ _ h => h) (HSF.out _ HK0) ?_ ?_ ?_; rotate_left; rfl; focus (intro w hSw; (try dsimp only at hSw); go_simp; all_goals (with_reducible rfl))
      simp only [Act.put, l_a, l_s, l_z]
      refine rg_t 23 (v := ?_) rfl (by kernel_rfl) (fun _ _ _ h => h) (HSF.out _ HK0) ?_ ?_ ?_; rotate_left; rfl; focus (intro w hSw; (try dsimp only at hSw); go_simp; all_goals (with_reducible rfl))
      simp only [Act.put, l_a, l_s, l_z]
      refine rg_t 24 (v := ?_) rfl (by kernel_rfl) (fun _ _ _ h => h) (HSF.out _ HK0) ?_ ?_ ?_; rotate_left; rfl; focus (intro w hSw; (try dsimp only at hSw); go_simp; all_goals (with_reducible rfl))
      simp only [Act.put, l_a, l_s, l_z]
      refine rg_t 25 (v := ?_) rfl (by kernel_rfl) (fun _ _ _ h => h) (HSF.out _ HK0) ?_ ?_ ?_; rotate_left; rfl; focus (intro w hSw; (try dsimp only at hSw); go_simp; all_goals (with_reducible rfl))
      simp only [Act.put, l_a, l_s, l_z]
      refine rg_t 26 (v := ?_) rfl (by kernel_rfl) (fun _ _ _ h => h) (HSF.out _ HK0) ?_ ?_ ?_; rotate_left; rfl; focus (intro w hSw; (try dsimp only at hSw); go_simp; all_goals (with_reducible rfl))
      simp only [Act.put, l_a, l_s, l_z]
      refine rg_cut 27 rfl (by kernel_rfl) (by kernel_rfl) (by kernel_rfl) 1 ad2 N cap2 q N _ (fun _ _ _ h => h) (HSF.out _ HK0) (by rfl) Tryz.underlying94 infoPtrS rfl rfl rfl (.inr ⟨rfl, rfl⟩) HQN.out.1 HQN.out.2.2.2 ?_
      simp only [Act.put, l_a, l_s, l_z]
      refine rl_two 13 28 rfl rfl (by kernel_rfl) ?_ ?_
      · as_aux_lemma =>
        refine wl_unguard (by rfl) ?_
        refine wl_sliceVs rfl 205 [_, _, _] rfl 47 (.slice none 0 0) 24 Tryz.underlying205 infoSl rfl [.slice ad l cap, .slice va i vc, .slice (cutA ad cap q 3) (N - q) (cap - q)] rfl (fun v hv => by simp only [List.mem_cons, List.not_mem_nil, or_false] at hv; rcases hv with rfl | rfl | rfl <;> rfl) (by simp) (by simp) ?_
        intro b13 w13 hb13 HBB13 hk13
        refine till_nil ?_
        have HK13 := HK0.trans hk13
        refine ⟨HSF.out _ HK13, ?_⟩
        simp only [Act.put, l_a, l_s, l_z]
        refine rl_two 14 28 rfl rfl (by kernel_rfl) ?_ ?_
        · as_aux_lemma =>
          have hcon := concatR_calls w13 (.slice (some ⟨b13, 0, none⟩) 3 3) [(.slice ad l cap, rs.take l), (.slice va i vc, kRows key g), (.slice (cutA ad cap q 3) (N - q) (cap - q), rs.drop q)] (rd_made ((Keeps.refl _ (fun _ => False)).blk HBB13 (fun h => h))) (HPR.out _ HK13) (by rw [HTR.out]; exact HLR.out) (by simp)
          rw [HTR.out] at hcon
          refine rl_call 94 _ _ (by rfl) _ Tryz.func94 (by kernel_rfl) (by kernel_rfl) [.slice (some ⟨b13, 0, none⟩) 3 3] rfl hcon ?_
          rintro e w14 ⟨v14, rfl, ho14, hk14⟩
          obtain ⟨a14, c14, rfl⟩ := ho14.shape
          have HP14 := Lib.hid (isRows_own ho14 (HXX.out _ HK13))
          have HK14 := HK13.trans hk14
          clear hcon ho14
          refine ⟨_, rfl, HSF.out _ HK14, ?_⟩
          simp only [Act.put, l_a, l_s, l_z]
          refine rl_one 28 rfl (by kernel_rfl) ?_
          refine wl_unguard (by rfl) ?_
          refine wl_sliceVs rfl 207 [_, _, _] rfl 94 (.slice none 0 0) 24 Tryz.underlying207 infoSk rfl [.slice ad2 l cap2, .slice ad3 i cap3, .slice (cutA ad2 cap2 q 1) (N - q) (cap2 - q)] rfl (fun v hv => by simp only [List.mem_cons, List.not_mem_nil, or_false] at hv; rcases hv with rfl | rfl | rfl <;> rfl) (by simp) (by simp) ?_
          intro b28 w28 hb28 HBB28 hk28
          refine till_nil ?_
          have HK28 := HK14.trans hk28
          refine ⟨HSF.out _ HK28, ?_⟩
          simp only [Act.put, l_a, l_s, l_z]
          refine rl_one 29 rfl (by kernel_rfl) ?_
          have hcon := concatK_calls w28 (.slice (some ⟨b28, 0, none⟩) 3 3) [(.slice ad2 l cap2, (ks.take l).map ptrV), (.slice ad3 i cap3, js.map ptrV), (.slice (cutA ad2 cap2 q 1) (N - q) (cap2 - q), (ks.drop q).map ptrV)] (rd_made ((Keeps.refl _ (fun _ => False)).blk HBB28 (fun h => h))) (HPK.out _ HK28) (by rw [HTK.out]; rw [List.length_map]; exact HLK.out) (by simp)
          rw [HTK.out] at hcon
          refine rl_call 95 _ _ (by rfl) _ Tryz.func95 (by kernel_rfl) (by kernel_rfl) [.slice (some ⟨b28, 0, none⟩) 3 3] rfl hcon ?_
          rintro e w29 ⟨v29, rfl, ho29, hk29⟩
          obtain ⟨a29, c29, rfl⟩ := isOwn.shapeN ho29
          have HP29 := Lib.hid (isKids_own ho29 (HXX.out _ HK28))
          have HK29 := HK28.trans hk29
          clear hcon ho29
          refine ⟨_, rfl, HSF.out _ HK29, ?_⟩
          simp only [Act.put, l_a, l_s, l_z]
          refine rg_build 30 [(2, _), (3, _)] rfl (by kernel_rfl) (by kernel_rfl) (by kernel_rfl) (.agg (knA 0 false (.slice a14 (rowsA (rs.take l ++ kRows key g ++ rs.drop q)).length c14) (.slice a29 ((ks.take l ++ js ++ ks.drop q).map ptrV).length c29))) (fun _ _ _ h => h) (HSF.out _ HK29) (by rfl) [(2, .slice a14 (rowsA (rs.take l ++ kRows key g ++ rs.drop q)).length c14), (3, .slice a29 ((ks.take l ++ js ++ ks.drop q).map ptrV).length c29)] rfl (fun _ => buildKn2 _ _ _ _ _ _ _) ?_
          simp only [Act.put, l_a, l_s, l_z]
          refine rl_one 31 rfl (by kernel_rfl) ?_
          refine wl_unguard (by rfl) ?_
          refine wl_box_agg rfl _ _ rfl (knA 0 false (.slice a14 (rowsA (rs.take l ++ kRows key g ++ rs.drop q)).length c14) (.slice a29 ((ks.take l ++ js ++ ks.drop q).map ptrV).length c29)) rfl ?_
          intro b31 w31 hb31 HBB31 hk31
          refine till_nil ?_
          have hbz31 : w.heap.size ≤ b31 := Nat.le_trans (Nat.le_trans HKW.out.size HK29.size) hb31
          have HK31 := HK29.trans hk31
          refine ⟨HSF.out _ HK31, ?_⟩
          simp only [Act.put, l_a, l_s, l_z]
          refine rg_t 32 (v := ?_) rfl (by kernel_rfl) (fun _ _ _ h => h) (HSF.out _ HK31) ?_ ?_ ?_; rotate_left; rfl; focus (intro w hSw; (try dsimp only at hSw); go_simp; all_goals (with_reducible rfl))
          simp only [Act.put, l_a, l_s, l_z]
          refine wpAnyH_done (by kernel_rfl) ?_ _
          have HPOST := HOUT.out b31 w31 _ _ hbz31 (HKW.out.trans HK31) HBB31 (HP14.out.new ((hk28.trans hk29).trans hk31)) (HP29.out.new hk31)
          have HPO := Lib.hid HPOST
          clear HPOST
          go_wp2_with fail
          go_ret
          exact HPO.out
        · as_aux_lemma =>
          refine wl_unguard (by rfl) ?_
          refine wl_sliceVs rfl 207 [_, _, _] rfl 94 (.slice none 0 0) 24 Tryz.underlying207 infoSk rfl [.slice ad2 l cap2, .slice ad3 i cap3, .slice (cutA ad2 cap2 q 1) (N - q) (cap2 - q)] rfl (fun v hv => by simp only [List.mem_cons, List.not_mem_nil, or_false] at hv; rcases hv with rfl | rfl | rfl <;> rfl) (by simp) (by simp) ?_
          intro b28 w28 hb28 HBB28 hk28
          refine till_nil ?_
          have HK28 := HK13.trans hk28
          refine ⟨HSF.out _ HK28, ?_⟩
          simp only [Act.put, l_a, l_s, l_z]
          refine rl_one 14 rfl (by kernel_rfl) ?_
          have hcon := concatR_calls w28 (.slice (some ⟨b13, 0, none⟩) 3 3) [(.slice ad l cap, rs.take l), (.slice va i vc, kRows key g), (.slice (cutA ad cap q 3) (N - q) (cap - q), rs.drop q)] (rd_made (hk28.blk HBB13 (fun h => h))) (HPR.out _ HK28) (by rw [HTR.out]; exact HLR.out) (by simp)
          rw [HTR.out] at hcon
          refine rl_call 94 _ _ (by rfl) _ Tryz.func94 (by kernel_rfl) (by kernel_rfl) [.slice (some ⟨b13, 0, none⟩) 3 3] rfl hcon ?_
          rintro e w14 ⟨v14, rfl, ho14, hk14⟩
          obtain ⟨a14, c14, rfl⟩ := ho14.shape
          have HP14 := Lib.hid (isRows_own ho14 (HXX.out _ HK28))
          have HK14 := HK28.trans hk14
          clear hcon ho14
          refine ⟨_, rfl, HSF.out _ HK14, ?_⟩
          simp only [Act.put, l_a, l_s, l_z]
          refine rl_one 29 rfl (by kernel_rfl) ?_
          have hcon := concatK_calls w14 (.slice (some ⟨b28, 0, none⟩) 3 3) [(.slice ad2 l cap2, (ks.take l).map ptrV), (.slice ad3 i cap3, js.map ptrV), (.slice (cutA ad2 cap2 q 1) (N - q) (cap2 - q), (ks.drop q).map ptrV)] (rd_made (hk14.blk HBB28 (fun h => h))) (HPK.out _ HK14) (by rw [HTK.out]; rw [List.length_map]; exact HLK.out) (by simp)
          rw [HTK.out] at hcon
          refine rl_call 95 _ _ (by rfl) _ Tryz.func95 (by kernel_rfl) (by kernel_rfl) [.slice (some ⟨b28, 0, none⟩) 3 3] rfl hcon ?_
          rintro e w29 ⟨v29, rfl, ho29, hk29⟩
          obtain ⟨a29, c29, rfl⟩ := isOwn.shapeN ho29
          have HP29 := Lib.hid (isKids_own ho29 (HXX.out _ HK14))
          have HK29 := HK14.trans hk29
          clear hcon ho29
          refine ⟨_, rfl, HSF.out _ HK29, ?_⟩
          simp only [Act.put, l_a, l_s, l_z]
          refine rg_build 30 [(2, _), (3, _)] rfl (by kernel_rfl) (by kernel_rfl) (by kernel_rfl) (.agg (knA 0 false (.slice a14 (rowsA (rs.take l ++ kRows key g ++ rs.drop q)).length c14) (.slice a29 ((ks.take l ++ js ++ ks.drop q).map ptrV).length c29))) (fun _ _ _ h => h) (HSF.out _ HK29) (by rfl) [(2, .slice a14 (rowsA (rs.take l ++ kRows key g ++ rs.drop q)).length c14), (3, .slice a29 ((ks.take l ++ js ++ ks.drop q).map ptrV).length c29)] rfl (fun _ => buildKn2 _ _ _ _ _ _ _) ?_
          simp only [Act.put, l_a, l_s, l_z]
          refine rl_one 31 rfl (by kernel_rfl) ?_
          refine wl_unguard (by rfl) ?_
          refine wl_box_agg rfl _ _ rfl (knA 0 false (.slice a14 (rowsA (rs.take l ++ kRows key g ++ rs.drop q)).length c14) (.slice a29 ((ks.take l ++ js ++ ks.drop q).map ptrV).length c29)) rfl ?_
          intro b31 w31 hb31 HBB31 hk31
          refine till_nil ?_
          have hbz31 : w.heap.size ≤ b31 := Nat.le_trans (Nat.le_trans HKW.out.size HK29.size) hb31
          have HK31 := HK29.trans hk31
          refine ⟨HSF.out _ HK31, ?_⟩
          simp only [Act.put, l_a, l_s, l_z]
          refine rg_t 32 (v := ?_) rfl (by kernel_rfl) (fun _ _ _ h => h) (HSF.out _ HK31) ?_ ?_ ?_; rotate_left; rfl; focus (intro w hSw; (try dsimp only at hSw); go_simp; all_goals (with_reducible rfl))
          simp only [Act.put, l_a, l_s, l_z]
          refine wpAnyH_done (by kernel_rfl) ?_ _
          have HPOST := HOUT.out b31 w31 _ _ hbz31 (HKW.out.trans HK31) HBB31 (HP14.out.new (hk29.trans hk31)) (HP29.out.new hk31)
          have HPO := Lib.hid HPOST
          clear HPOST
          go_wp2_with fail
          go_ret
          exact HPO.out
      · as_aux_lemma =>
        refine wl_unguard (by rfl) ?_
        refine wl_sliceVs rfl 207 [_, _, _] rfl 94 (.slice none 0 0) 24 Tryz.underlying207 infoSk rfl [.slice ad2 l cap2, .slice ad3 i cap3, .slice (cutA ad2 cap2 q 1) (N - q) (cap2 - q)] rfl (fun v hv => by simp only [List.mem_cons, List.not_mem_nil, or_false] at hv; rcases hv with rfl | rfl | rfl <;> rfl) (by simp) (by simp) ?_
        intro b28 w28 hb28 HBB28 hk28
        refine till_nil ?_
        have HK28 := HK0.trans hk28
        refine ⟨HSF.out _ HK28, ?_⟩
        simp only [Act.put, l_a, l_s, l_z]
        refine rl_one 13 rfl (by kernel_rfl) ?_
        refine wl_unguard (by rfl) ?_
        refine wl_sliceVs rfl 205 [_, _, _] rfl 47 (.slice none 0 0) 24 Tryz.underlying205 infoSl rfl [.slice ad l cap, .slice va i vc, .slice (cutA ad cap q 3) (N - q) (cap - q)] rfl (fun v hv => by simp only [List.mem_cons, List.not_mem_nil, or_false] at hv; rcases hv with rfl | rfl | rfl <;> rfl) (by simp) (by simp) ?_
        intro b13 w13 hb13 HBB13 hk13
        refine till_nil ?_
        have HK13 := HK28.trans hk13
        refine ⟨HSF.out _ HK13, ?_⟩
        simp only [Act.put, l_a, l_s, l_z]
        refine rl_one 14 rfl (by kernel_rfl) ?_
        have hcon := concatR_calls w13 (.slice (some ⟨b13, 0, none⟩) 3 3) [(.slice ad l cap, rs.take l), (.slice va i vc, kRows key g), (.slice (cutA ad cap q 3) (N - q) (cap - q), rs.drop q)] (rd_made ((Keeps.refl _ (fun _ => False)).blk HBB13 (fun h => h))) (HPR.out _ HK13) (by rw [HTR.out]; exact HLR.out) (by simp)
        rw [HTR.out] at hcon
        refine rl_call 94 _ _ (by rfl) _ Tryz.func94 (by kernel_rfl) (by kernel_rfl) [.slice (some ⟨b13, 0, none⟩) 3 3] rfl hcon ?_
        rintro e w14 ⟨v14, rfl, ho14, hk14⟩
        obtain ⟨a14, c14, rfl⟩ := ho14.shape
        have HP14 := Lib.hid (isRows_own ho14 (HXX.out _ HK13))
        have HK14 := HK13.trans hk14
        clear hcon ho14
        refine ⟨_, rfl, HSF.out _ HK14, ?_⟩
        simp only [Act.put, l_a, l_s, l_z]
        refine rl_one 29 rfl (by kernel_rfl) ?_
        have hcon := concatK_calls w14 (.slice (some ⟨b28, 0, none⟩) 3 3) [(.slice ad2 l cap2, (ks.take l).map ptrV), (.slice ad3 i cap3, js.map ptrV), (.slice (cutA ad2 cap2 q 1) (N - q) (cap2 - q), (ks.drop q).map ptrV)] (rd_made ((hk13.trans hk14).blk HBB28 (fun h => h))) (HPK.out _ HK14) (by rw [HTK.out]; rw [List.length_map]; exact HLK.out) (by simp)
        rw [HTK.out] at hcon
        refine rl_call 95 _ _ (by rfl) _ Tryz.func95 (by kernel_rfl) (by kernel_rfl) [.slice (some ⟨b28, 0, none⟩) 3 3] rfl hcon ?_
        rintro e w29 ⟨v29, rfl, ho29, hk29⟩
        obtain ⟨a29, c29, rfl⟩ := isOwn.shapeN ho29
        have HP29 := Lib.hid (isKids_own ho29 (HXX.out _ HK14))
        have HK29 := HK14.trans hk29
        clear hcon ho29
        refine ⟨_, rfl, HSF.out _ HK29, ?_⟩
        simp only [Act.put, l_a, l_s, l_z]
        refine rg_build 30 [(2, _), (3, _)] rfl (by kernel_rfl) (by kernel_rfl) (by kernel_rfl) (.agg (knA 0 false (.slice a14 (rowsA (rs.take l ++ kRows key g ++ rs.drop q)).length c14) (.slice a29 ((ks.take l ++ js ++ ks.drop q).map ptrV).length c29))) (fun _ _ _ h => h) (HSF.out _ HK29) (by rfl) [(2, .slice a14 (rowsA (rs.take l ++ kRows key g ++ rs.drop q)).length c14), (3, .slice a29 ((ks.take l ++ js ++ ks.drop q).map ptrV).length c29)] rfl (fun _ => buildKn2 _ _ _ _ _ _ _) ?_
        simp only [Act.put, l_a, l_s, l_z]
        refine rl_one 31 rfl (by kernel_rfl) ?_
        refine wl_unguard (by rfl) ?_
        refine wl_box_agg rfl _ _ rfl (knA 0 false (.slice a14 (rowsA (rs.take l ++ kRows key g ++ rs.drop q)).length c14) (.slice a29 ((ks.take l ++ js ++ ks.drop q).map ptrV).length c29)) rfl ?_
        intro b31 w31 hb31 HBB31 hk31
        refine till_nil ?_
        have hbz31 : w.heap.size ≤ b31 := Nat.le_trans (Nat.le_trans HKW.out.size HK29.size) hb31
        have HK31 := HK29.trans hk31
        refine ⟨HSF.out _ HK31, ?_⟩
        simp only [Act.put, l_a, l_s, l_z]
        refine rg_t 32 (v := ?_) rfl (by kernel_rfl) (fun _ _ _ h => h) (HSF.out _ HK31) ?_ ?_ ?_; rotate_left; rfl; focus (intro w hSw; (try dsimp only at hSw); go_simp; all_goals (with_reducible rfl))
        simp only [Act.put, l_a, l_s, l_z]
        refine wpAnyH_done (by kernel_rfl) ?_ _
        have HPOST := HOUT.out b31 w31 _ _ hbz31 (HKW.out.trans HK31) HBB31 (HP14.out.new (hk29.trans hk31)) (HP29.out.new hk31)
        have HPO := Lib.hid HPOST
        clear HPOST
        go_wp2_with fail
        go_ret
        exact HPO.out
end Go.Proofs.YtblpkifkaoaicaaGreat

namespace Go.Proofs.YtblpkifkaoaicaaGreat
open Go Go.RowKit Go.Maps Wb

def ShortR {d : Nat} (l : Wb.Rows d) : Prop := l.length ≤ 1000 ∧ ∀ r ∈ l, wt r ≤ 1000
theorem ShortR.sub {d : Nat} {l m : Wb.Rows d} (h : ShortR l) (hs : m.Sublist l) : ShortR m := ⟨Nat.le_trans hs.length_le h.1, fun r hr => h.2 r (hs.subset hr)⟩
theorem ShortR.part {d : Nat} {l : Wb.Rows d} (h : ShortR l) (i j : Nat) : ShortR ((l.take j).drop i) := h.sub ((List.drop_sublist _ _).trans (List.take_sublist _ _))
theorem ShortR.rows {d : Nat} {rs : List Rw} {l : Wb.Rows d} (h : ShortR l) (hr : RsOk rs l) : Shorts rs := by
  refine ⟨by rw [hr.len]; exact Nat.le_trans h.1 (by omega), fun r hm => ?_⟩
  cases d with
  | zero =>
    rw [show rs = _ from hr] at hm
    obtain ⟨x, hx, rfl⟩ := List.mem_map.1 hm
    have := h.2 x hx
    have e : wt x = 2 + (keyR x).length + (valR x).length := rfl
    exact ⟨by show (keyR x).length ≤ 1000; omega, by show (valR x).length ≤ 1000; omega⟩
  | succ d =>
    have hk : r.key ∈ rs.map (·.key) := List.mem_map.2 ⟨r, hm, rfl⟩
    rw [hr.1] at hk
    obtain ⟨x, hx, hxe⟩ := List.mem_map.1 hk
    have := h.2 x hx
    have e : wt x = 5 + (keyR x).length := rfl
    rw [← hxe, hr.2 r hm]
    exact ⟨by omega, by simp⟩
theorem ShortR.size {d : Nat} {l : Wb.Rows d} (h : ShortR l) : sizeR l ≤ 1000003 := by
  have h1 : ∀ m : Wb.Rows d, (∀ r ∈ m, wt r ≤ 1000) → (m.map wt).sum ≤ 1000 * m.length := by
    intro m
    induction m with
    | nil => intro _; simp
    | cons r t ih =>
      intro hm
      have h2 := ih (fun x hx => hm x (by simp [hx]))
      have h3 := hm r (by simp)
      rw [List.map_cons, List.sum_cons, List.length_cons]
      omega
  have h2 := h1 l h.2
  have h3 := h.1
  unfold sizeR
  omega
set_option maxRecDepth 100000 in
theorem sizeOfN_calls {d : Nat} (w : World) (X : Nat → Prop) (n : Nd d) (b : Nat) (h : isK w X d n b) (hs : ShortR n.2) : Calls Tryz.prog 96 #[.pointer (some ⟨b, 0, none⟩)] w (Quiet w (.int .i64 (sizeR n.2))) := by
  obtain ⟨rs, ks, h1, h2, _⟩ := isK_iff.1 h
  have := sizeOf_calls w X b n.1 (leafD d) rs ks h1 (hs.rows h2)
  rw [h2.size] at this
  exact this
set_option maxRecDepth 100000 in
theorem partN_calls {d : Nat} (w : World) (X : Nat → Prop) (hX : ∀ i, w.heap.size ≤ i → X i) (n : Nd d) (b : Nat) (h : isK w X d n b) (l q : Nat) (h1 : l ≤ q) (h2 : q ≤ n.2.length) (hs : ShortR n.2) :
    Calls Tryz.prog 97 #[.pointer (some ⟨b, 0, none⟩), .int .i64 l, .int .i64 q] w (NewN w X d (0, (n.2.take q).drop l)) := by
  obtain ⟨rs, ks, k1, k2, k3⟩ := isK_iff.1 h
  have hlen := k2.len
  refine (part_calls w X hX b n.1 (leafD d) rs ks k1 l q h1 (by rw [hlen]; exact h2) (by rw [hlen]; exact Nat.le_trans hs.1 (by omega)) (fun e => ?_)).mono ?_
  · cases d with
    | zero => cases e
    | succ d =>
      rw [hlen]
      have := k3.1
      rwa [List.length_map] at this
  · rintro e w' ⟨b', rfl, a1, a2, a3⟩
    refine ⟨b', rfl, isK_iff.2 ⟨_, _, a1, (k2.take q).drop l, ?_⟩, a2, a3⟩
    cases d with
    | zero => rfl
    | succ d => exact ((KsOk.take k3 q).drop l).new a3
/-- Several nodes in a slice. -/
def KnotsPost (w : World) (X : Nat → Prop) (d : Nat) (g : List (Nd d)) (e : Ending) (w' : World) : Prop :=
  ∃ v js, e = .returned v ∧ isKids w' X v js ∧ isKs w' X d g js ∧ Keeps w w' (fun _ => False)
theorem isKids_made {w : World} {X : Nat → Prop} {b : Nat} {js : List Nat} (hb : w.heap[b]? = some (.cells (js.map ptrV).toArray 91 (0, 0))) (hX : X b) : isKids w X (.slice (some ⟨b, 0, none⟩) js.length js.length) js := by
  refine ⟨?_, fun c e => (by cases e), fun g hg => ?_⟩
  · have := rd_made hb
    rwa [List.length_map] at this
  · have e : b = g := Option.some.inj hg
    subst e
    exact ⟨hX, _, hb⟩
def SplRel {d : Nat} (w : World) (l : Wb.Rows d) (q at' best : Nat) (wr : World) : Prop := at' = (bestUp l q).1 ∧ best = (bestUp l q).2 ∧ Keeps w wr (fun _ => False)
set_option maxRecDepth 100000 in
set_option maxHeartbeats 4000000 in
theorem split_calls {d : Nat} (w : World) (X : Nat → Prop) (hX : ∀ i, w.heap.size ≤ i → X i) (l : Wb.Rows d) (b : Nat) (h : isK w X d (0, l) b) (hs : ShortR l) :
    Calls Tryz.prog 69 #[.pointer (some ⟨b, 0, none⟩)] w (KnotsPost w X d (fresh0 (splitR l))) := by
  have HX := Lib.hid hX
  have HK := Lib.hid h
  have HS := Lib.hid hs
  obtain ⟨rs, ks, hkn, hrok, _⟩ := isK_iff.1 h
  obtain ⟨rv, kv, hb, hr, _⟩ := hkn.ex
  obtain ⟨⟨ad, cap, rfl, hcap, hrd⟩, _⟩ := hr
  have e1 : (rowsA rs).length = l.length := by rw [rowsA_len, hrok.len]
  rw [e1] at hb hcap
  have HB := Lib.hid hb
  obtain ⟨N, hN⟩ : ∃ N, N = l.length := ⟨_, rfl⟩
  have HN := Lib.hid hN
  have hN9 : N ≤ 1000 := by rw [hN]; exact hs.1
  have hNi : (N : Int) ≤ 1000 := by omega
  rw [← hN] at HB hcap
  have HC2 : Hid (∀ wX, Keeps w wX (fun _ => False) → wX.cell? ⟨b, 2, none⟩ = some (.slice ad N cap)) := Lib.hid fun wX hk => by rw [cell_of_block (hk.blk HB.out (fun h => h))]; rfl
  obtain ⟨sz, hsz⟩ : ∃ sz, sz = sizeR l := ⟨_, rfl⟩
  have HSZ := Lib.hid hsz
  have hszb : sz ≤ 1000003 := by rw [hsz]; exact hs.size
  have hszi : (sz : Int) ≤ 1000003 := by omega
  have hsz0 : (0 : Int) ≤ sz := by omega
  have HSO : Hid (∀ wX, Keeps w wX (fun _ => False) → Calls Tryz.prog 96 #[.pointer (some ⟨b, 0, none⟩)] wX (Quiet wX (.int .i64 sz))) := Lib.hid fun wX hk => by
    rw [hsz]
    exact sizeOfN_calls wX X (0, l) b (HK.out.new hk) hs
  clear hb hrd hkn hrok h hX e1 hN hsz hs hcap
  by_cases hone : sz ≤ 512 ∨ N < 4
  · as_aux_lemma =>
    have HSP : Hid (splitR l = [l]) := Lib.hid (by unfold splitR; rw [← HSZ.out, ← HN.out, if_pos hone])
    have hcases : (decide ((sz : Int) ≤ 512) = true) ∨ (decide ((sz : Int) ≤ 512) = false ∧ decide ((N : Int) < 4) = true) := by
      by_cases h1 : sz ≤ 512
      · left; simp; omega
      · right; refine ⟨by simp; omega, by simp; omega⟩
    have HFIN : Hid (∀ (w1 : World) (bz : Nat), Keeps w w1 (fun _ => False) → w.heap.size ≤ bz → w1.heap[bz]? = some (.cells #[.pointer (some ⟨b, 0, none⟩)] 91 (0, 0)) → KnotsPost w X d (fresh0 (splitR l)) (.returned (.slice (some ⟨bz, 0, none⟩) 1 1)) w1) := Lib.hid fun w1 bz hk hbz hc => by
      rw [HSP.out]
      exact ⟨_, [b], rfl, isKids_made (js := [b]) hc (HX.out bz hbz), isKs.one (HK.out.new hk), hk⟩
    clear hone
    rcases hcases with h1 | ⟨h1, h2⟩
    · go_enter Tryz.func69, Tryz.ntmps69
      go_wp2_with fail
      refine (HSO.out w (Keeps.refl _ _)).mono ?_
      rintro e w1 ⟨rfl, hk1⟩
      go_wp2_with (first
        | (refine wl_slice1 rfl _ _ rfl 91 (.pointer none) 8 Tryz.underlying94 infoPtr rfl (.pointer (some ⟨b, 0, none⟩)) rfl rfl ?_; intro bz w2 hbz HBZ hk2)
        | fail)
      go_ret
      exact HFIN.out w2 bz (hk1.trans hk2) (Nat.le_trans hk1.size hbz) HBZ
    · go_enter Tryz.func69, Tryz.ntmps69
      go_wp2_with fail
      refine (HSO.out w (Keeps.refl _ _)).mono ?_
      rintro e w1 ⟨rfl, hk1⟩
      have c2 := HC2.out w1 hk1
      go_wp2_with (first
        | (refine wl_slice1 rfl _ _ rfl 91 (.pointer none) 8 Tryz.underlying94 infoPtr rfl (.pointer (some ⟨b, 0, none⟩)) rfl rfl ?_; intro bz w2 hbz HBZ hk2)
        | fail)
      go_ret
      exact HFIN.out w2 bz (hk1.trans hk2) (Nat.le_trans hk1.size hbz) HBZ
  · have h1 : decide ((sz : Int) ≤ 512) = false := by simp; omega
    have h2 : decide ((N : Int) < 4) = false := by simp; omega
    have hN4 : 4 ≤ N := by omega
    have hN4i : (4 : Int) ≤ N := by omega
    have HSP : Hid (splitR l = [l.take (bestAt l), l.drop (bestAt l)]) := Lib.hid (by unfold splitR; rw [← HSZ.out, ← HN.out, if_neg hone])
    clear hone
    go_enter Tryz.func69, Tryz.ntmps69
    go_wp2_with fail
    refine (HSO.out w (Keeps.refl _ _)).mono ?_
    rintro e w1 ⟨rfl, hk1⟩
    have HK1 := Lib.hid hk1
    have c2 := HC2.out w1 hk1
    clear hk1
    go_wp2_with fail
    refine (HSO.out w1 HK1.out).mono ?_
    rintro e w2 ⟨rfl, hk2⟩
    have HK2 := Lib.hid (HK1.out.trans hk2)
    clear hk2 c2 h1 h2
    go_wp2_with fail
    go_loopw [3, 4, 5] (fun v3 v4 v5 wr => ∃ q a s : Nat, 2 + q ≤ N - 1 ∧ a ≤ 1000 ∧ s ≤ 1000003 ∧ v5 = .int .i64 ((2 + q : Nat) : Int) ∧ v3 = .int .i64 a ∧ v4 = .int .i64 s ∧ Hid (SplRel w l q a s wr)) (fun _ _ v5 _ => N - (intOf v5).toNat)
    case atStart => exact ⟨0, 2, sz, by omega, by omega, hszb, rfl, rfl, rfl, Lib.hid ⟨rfl, HSZ.out, HK2.out⟩⟩
    case round =>
      obtain ⟨q, a, s, hq, ha, hsb, rfl, rfl, rfl, hrel⟩ := hrel
      obtain ⟨i, hi⟩ : ∃ i, i = 2 + q := ⟨_, rfl⟩
      have HI := Lib.hid hi
      rw [← hi] at hq ⊢
      have hi0 : (2 : Int) ≤ i := by omega
      have hiN : (i : Int) ≤ 1000 := by omega
      have c2 := HC2.out wr hrel.out.2.2
      have HKR := Lib.hid hrel.out.2.2
      by_cases hlt : i ≤ N - 2
      · as_aux_lemma =>
        have hle : decide ((i : Int) ≤ (N : Int) - 2) = true := by simp; omega
        have HLT := Lib.hid hlt
        have HA := Lib.hid (And.intro hrel.out.1 hrel.out.2.1)
        have hs0 : (0 : Int) ≤ s := by omega
        have hsi : (s : Int) ≤ 1000003 := by omega
        have HSA := ShortR.part HS.out 0 i
        have HSB := ShortR.part HS.out i N
        have HDT : Hid ((l.take N).drop i = l.drop i) := Lib.hid (by rw [HN.out, List.take_length])
        rw [List.drop_zero] at HSA
        rw [HDT.out] at HSB
        obtain ⟨x, hx⟩ : ∃ x, x = sizeR (l.take i) := ⟨_, rfl⟩
        obtain ⟨y, hy⟩ : ∃ y, y = sizeR (l.drop i) := ⟨_, rfl⟩
        have hxb : x ≤ 1000003 := by rw [hx]; exact HSA.size
        have hyb : y ≤ 1000003 := by rw [hy]; exact HSB.size
        have HXY := Lib.hid (And.intro hx hy)
        have HSH := Lib.hid (And.intro HSA HSB)
        have HSF : Hid (∀ wX, Keeps wr wX (fun _ => False) → wX.cell? ⟨b, 2, none⟩ = some (.slice ad N cap)) := Lib.hid fun wX hk => HC2.out wX (HKR.out.trans hk)
        have HPA : Hid (∀ wX, Keeps wr wX (fun _ => False) → Calls Tryz.prog 97 #[.pointer (some ⟨b, 0, none⟩), .int .i64 0, .int .i64 i] wX (NewN wX X d (0, l.take i))) := Lib.hid fun wX hk => by
          have h9 := partN_calls wX X (fun j hj => HX.out j (Nat.le_trans (HKR.out.trans hk).size hj)) (0, l) b (HK.out.new (HKR.out.trans hk)) 0 i (Nat.zero_le _) (by have := HLT.out; have := HN.out; show i ≤ l.length; omega) HS.out
          rwa [List.drop_zero] at h9
        have HPB : Hid (∀ wX, Keeps wr wX (fun _ => False) → Calls Tryz.prog 97 #[.pointer (some ⟨b, 0, none⟩), .int .i64 i, .int .i64 N] wX (NewN wX X d (0, l.drop i))) := Lib.hid fun wX hk => by
          have h9 := partN_calls wX X (fun j hj => HX.out j (Nat.le_trans (HKR.out.trans hk).size hj)) (0, l) b (HK.out.new (HKR.out.trans hk)) i N (by have := HLT.out; omega) (by have := HN.out; show N ≤ l.length; omega) HS.out
          rwa [HDT.out] at h9
        have HSX : Hid (∀ wX bx, isK wX X d (0, l.take i) bx → Calls Tryz.prog 96 #[.pointer (some ⟨bx, 0, none⟩)] wX (Quiet wX (.int .i64 x))) := Lib.hid fun wX bx hk => by rw [hx]; exact sizeOfN_calls wX X (0, l.take i) bx hk HSH.out.1
        have HSY : Hid (∀ wX bx, isK wX X d (0, l.drop i) bx → Calls Tryz.prog 96 #[.pointer (some ⟨bx, 0, none⟩)] wX (Quiet wX (.int .i64 y))) := Lib.hid fun wX bx hk => by rw [hy]; exact sizeOfN_calls wX X (0, l.drop i) bx hk HSH.out.2
        have hmx : max (x : Int) (y : Int) = ((max x y : Nat) : Int) := by omega
        have HMX := Lib.hid hmx
        clear HSA HSB hx hy hlt hrel hi hmx
        go_wp2_with fail
        have HK0 : Keeps wr wr.drew (fun _ => False) := (Keeps.refl wr _).drew
        refine wp_region_held_drew (S := (fun (w' : World) => w'.cell? ⟨b, 2, none⟩ = some (.slice ad N cap))) (by kernel_rfl) (HSF.out _ HK0) (fun _ => ?_)
        first | (refine rg_s 0 rfl (by kernel_rfl) (fun _ _ _ h => h) (HSF.out _ HK0) ?_ ?_; rfl) | (refine rg_t 0 (v := ?_) rfl (by kernel_rfl) (fun _ _ _ h => h) (HSF.out _ HK0) ?_ ?_ ?_; rotate_left; rfl; focus (intro w hSw; (try dsimp only at hSw); go_simp; all_goals (with_reducible rfl)))
        simp only [Act.put, l_a, l_s, l_z]
        first | (refine rg_s 1 rfl (by kernel_rfl) (fun _ _ _ h => h) (HSF.out _ HK0) ?_ ?_; rfl) | (refine rg_t 1 (v := ?_) rfl (by kernel_rfl) (fun _ _ _ h => h) (HSF.out _ HK0) ?_ ?_ ?_; rotate_left; rfl; focus (intro w hSw; (try dsimp only at hSw); go_simp; all_goals (with_reducible rfl)))
        simp only [Act.put, l_a, l_s, l_z]
        first | (refine rg_s 4 rfl (by kernel_rfl) (fun _ _ _ h => h) (HSF.out _ HK0) ?_ ?_; rfl) | (refine rg_t 4 (v := ?_) rfl (by kernel_rfl) (fun _ _ _ h => h) (HSF.out _ HK0) ?_ ?_ ?_; rotate_left; rfl; focus (intro w hSw; (try dsimp only at hSw); go_simp; all_goals (with_reducible rfl)))
        simp only [Act.put, l_a, l_s, l_z]
        first | (refine rg_s 5 rfl (by kernel_rfl) (fun _ _ _ h => h) (HSF.out _ HK0) ?_ ?_; rfl) | (refine rg_t 5 (v := ?_) rfl (by kernel_rfl) (fun _ _ _ h => h) (HSF.out _ HK0) ?_ ?_ ?_; rotate_left; rfl; focus (intro w hSw; (try dsimp only at hSw); go_simp; all_goals (with_reducible rfl)))
        simp only [Act.put, l_a, l_s, l_z]
        first | (refine rg_s 6 rfl (by kernel_rfl) (fun _ _ _ h => h) (HSF.out _ HK0) ?_ ?_; rfl) | (refine rg_t 6 (v := ?_) rfl (by kernel_rfl) (fun _ _ _ h => h) (HSF.out _ HK0) ?_ ?_ ?_; rotate_left; rfl; focus (intro w hSw; (try dsimp only at hSw); go_simp; all_goals (with_reducible rfl)))
        simp only [Act.put, l_a, l_s, l_z]
        first | (refine rg_s 7 rfl (by kernel_rfl) (fun _ _ _ h => h) (HSF.out _ HK0) ?_ ?_; rfl) | (refine rg_t 7 (v := ?_) rfl (by kernel_rfl) (fun _ _ _ h => h) (HSF.out _ HK0) ?_ ?_ ?_; rotate_left; rfl; focus (intro w hSw; (try dsimp only at hSw); go_simp; all_goals (with_reducible rfl)))
        simp only [Act.put, l_a, l_s, l_z]
        first | (refine rg_s 8 rfl (by kernel_rfl) (fun _ _ _ h => h) (HSF.out _ HK0) ?_ ?_; rfl) | (refine rg_t 8 (v := ?_) rfl (by kernel_rfl) (fun _ _ _ h => h) (HSF.out _ HK0) ?_ ?_ ?_; rotate_left; rfl; focus (intro w hSw; (try dsimp only at hSw); go_simp; all_goals (with_reducible rfl)))
        simp only [Act.put, l_a, l_s, l_z]
        first | (refine rg_s 9 rfl (by kernel_rfl) (fun _ _ _ h => h) (HSF.out _ HK0) ?_ ?_; rfl) | (refine rg_t 9 (v := ?_) rfl (by kernel_rfl) (fun _ _ _ h => h) (HSF.out _ HK0) ?_ ?_ ?_; rotate_left; rfl; focus (intro w hSw; (try dsimp only at hSw); go_simp; all_goals (with_reducible rfl)))
        simp only [Act.put, l_a, l_s, l_z]
        first | (refine rg_s 10 rfl (by kernel_rfl) (fun _ _ _ h => h) (HSF.out _ HK0) ?_ ?_; rfl) | (refine rg_t 10 (v := ?_) rfl (by kernel_rfl) (fun _ _ _ h => h) (HSF.out _ HK0) ?_ ?_ ?_; rotate_left; rfl; focus (intro w hSw; (try dsimp only at hSw); go_simp; all_goals (with_reducible rfl)))
        simp only [Act.put, l_a, l_s, l_z]
        refine rl_one 2 rfl (by kernel_rfl) ?_
        refine rl_call 97 _ _ (by rfl) _ Tryz.func97 (by kernel_rfl) (by kernel_rfl) [.pointer (some ⟨b, 0, none⟩), .int .i64 0, .int .i64 i] rfl (HPA.out _ HK0) ?_
        rintro e w2 ⟨b2, rfl, hp2, hb2, hk2⟩
        have HK2 := HK0.trans hk2
        refine ⟨_, rfl, HSF.out _ HK2, ?_⟩
        simp only [Act.put, l_a, l_s, l_z]
        refine rl_one 3 rfl (by kernel_rfl) ?_
        refine rl_call 96 _ _ (by rfl) _ Tryz.func96 (by kernel_rfl) (by kernel_rfl) [.pointer (some ⟨b2, 0, none⟩)] rfl (HSX.out _ _ (hp2.new (Keeps.refl _ (fun _ => False)))) ?_
        rintro e w3 ⟨rfl, hk3⟩
        have HK3 := HK2.trans hk3
        refine ⟨_, rfl, HSF.out _ HK3, ?_⟩
        simp only [Act.put, l_a, l_s, l_z]
        refine rl_one 11 rfl (by kernel_rfl) ?_
        refine rl_call 97 _ _ (by rfl) _ Tryz.func97 (by kernel_rfl) (by kernel_rfl) [.pointer (some ⟨b, 0, none⟩), .int .i64 i, .int .i64 N] rfl (HPB.out _ HK3) ?_
        rintro e w11 ⟨b11, rfl, hp11, hb11, hk11⟩
        have HK11 := HK3.trans hk11
        refine ⟨_, rfl, HSF.out _ HK11, ?_⟩
        simp only [Act.put, l_a, l_s, l_z]
        refine rl_one 12 rfl (by kernel_rfl) ?_
        refine rl_call 96 _ _ (by rfl) _ Tryz.func96 (by kernel_rfl) (by kernel_rfl) [.pointer (some ⟨b11, 0, none⟩)] rfl (HSY.out _ _ (hp11.new (Keeps.refl _ (fun _ => False)))) ?_
        rintro e w12 ⟨rfl, hk12⟩
        have HK12 := HK11.trans hk12
        refine ⟨_, rfl, HSF.out _ HK12, ?_⟩
        simp only [Act.put, l_a, l_s, l_z]
        first | (refine rg_s 13 rfl (by kernel_rfl) (fun _ _ _ h => h) (HSF.out _ HK12) ?_ ?_; rfl) | (refine rg_t 13 (v := ?_) rfl (by kernel_rfl) (fun _ _ _ h => h) (HSF.out _ HK12) ?_ ?_ ?_; rotate_left; rfl; focus (intro w hSw; (try dsimp only at hSw); go_simp; all_goals (with_reducible rfl)))
        simp only [Act.put, l_a, l_s, l_z]
        first | (refine rg_s 14 rfl (by kernel_rfl) (fun _ _ _ h => h) (HSF.out _ HK12) ?_ ?_; rfl) | (refine rg_t 14 (v := ?_) rfl (by kernel_rfl) (fun _ _ _ h => h) (HSF.out _ HK12) ?_ ?_ ?_; rotate_left; rfl; focus (intro w hSw; (try dsimp only at hSw); go_simp; all_goals (with_reducible rfl)))
        simp only [Act.put, l_a, l_s, l_z]
        refine wpAnyH_done (by kernel_rfl) ?_ _
        have HKE := Lib.hid (HKR.out.trans HK12)
        have HBU : Hid (bestUp l (q + 1) = if max x y < s then (i, max x y) else (a, s)) := Lib.hid (by
          rw [bestUp, ← HI.out, ← HXY.out.1, ← HXY.out.2, ← HA.out.2]
          split
          · rfl
          · rw [HA.out.1, HA.out.2])
        clear hk2 hk3 hk11 hk12 hp2 hp11 hb2 hb11 c2 HK2 HK3 HK11 HK12 HK0
        by_cases hbest : max x y < s
        · as_aux_lemma =>
          have hbb : decide (max (x : Int) (y : Int) < (s : Int)) = true := by simp; omega
          have HR : Hid (SplRel w l (q + 1) i (max x y) w12) := Lib.hid ⟨by rw [HBU.out, if_pos hbest], by rw [HBU.out, if_pos hbest], HKE.out⟩
          clear hbest
          go_wp2_with fail
          go_roundw
          case rel => exact ⟨q + 1, i, max x y, by have := HLT.out; have := HI.out; omega, by omega, by omega, by have := HI.out; rw [show 2 + (q + 1) = i + 1 by omega]; go_num, rfl, by rw [HMX.out], HR⟩
          case measure => have := HLT.out; have := HI.out; simp [intOf]; omega
        · as_aux_lemma =>
          have hbb : decide (max (x : Int) (y : Int) < (s : Int)) = false := by simp; omega
          have HR : Hid (SplRel w l (q + 1) a s w12) := Lib.hid ⟨by rw [HBU.out, if_neg hbest], by rw [HBU.out, if_neg hbest], HKE.out⟩
          clear hbest
          go_wp2_with fail
          go_roundw
          case rel => exact ⟨q + 1, a, s, by have := HLT.out; have := HI.out; omega, by omega, by omega, by have := HI.out; rw [show 2 + (q + 1) = i + 1 by omega]; go_num, rfl, rfl, HR⟩
          case measure => have := HLT.out; have := HI.out; simp [intOf]; omega
      · as_aux_lemma =>
        have hle : decide ((i : Int) ≤ (N : Int) - 2) = false := by simp; omega
        have HA : Hid (a = bestAt l) := Lib.hid (by rw [hrel.out.1]; unfold bestAt; rw [← HN.out]; congr 2; omega)
        have hbi := bestAt_in (l := l) (by rw [← HN.out]; exact hN4)
        rw [← HA.out, ← HN.out] at hbi
        have HBI := Lib.hid hbi
        have ha0 : (0 : Int) ≤ a := by omega
        have haN : (a : Int) ≤ N := by omega
        have HDT : Hid ((l.take N).drop a = l.drop a) := Lib.hid (by rw [HN.out, List.take_length])
        have HSF : Hid (∀ wX, Keeps wr wX (fun _ => False) → wX.cell? ⟨b, 2, none⟩ = some (.slice ad N cap)) := Lib.hid fun wX hk => HC2.out wX (HKR.out.trans hk)
        have HPA : Hid (∀ wX, Keeps wr wX (fun _ => False) → Calls Tryz.prog 97 #[.pointer (some ⟨b, 0, none⟩), .int .i64 0, .int .i64 a] wX (NewN wX X d (0, l.take a))) := Lib.hid fun wX hk => by
          have h9 := partN_calls wX X (fun j hj => HX.out j (Nat.le_trans (HKR.out.trans hk).size hj)) (0, l) b (HK.out.new (HKR.out.trans hk)) 0 a (Nat.zero_le _) (by have := HBI.out; have := HN.out; show a ≤ l.length; omega) HS.out
          rwa [List.drop_zero] at h9
        have HPB : Hid (∀ wX, Keeps wr wX (fun _ => False) → Calls Tryz.prog 97 #[.pointer (some ⟨b, 0, none⟩), .int .i64 a, .int .i64 N] wX (NewN wX X d (0, l.drop a))) := Lib.hid fun wX hk => by
          have h9 := partN_calls wX X (fun j hj => HX.out j (Nat.le_trans (HKR.out.trans hk).size hj)) (0, l) b (HK.out.new (HKR.out.trans hk)) a N (by have := HBI.out; omega) (by have := HN.out; show N ≤ l.length; omega) HS.out
          rwa [HDT.out] at h9
        clear hbi hlt hrel hi
        go_wp2_with fail
        have HK0 : Keeps wr wr.drew (fun _ => False) := (Keeps.refl wr _).drew
        refine wp_region_held_drew (S := (fun (w' : World) => w'.cell? ⟨b, 2, none⟩ = some (.slice ad N cap))) (by kernel_rfl) (HSF.out _ HK0) (fun _ => ?_)
        first | (refine rg_s 0 rfl (by kernel_rfl) (fun _ _ _ h => h) (HSF.out _ HK0) ?_ ?_; rfl) | (refine rg_t 0 (v := ?_) rfl (by kernel_rfl) (fun _ _ _ h => h) (HSF.out _ HK0) ?_ ?_ ?_; rotate_left; rfl; focus (intro w hSw; (try dsimp only at hSw); go_simp; all_goals (with_reducible rfl)))
        simp only [Act.put, l_a, l_s, l_z]
        first | (refine rg_s 1 rfl (by kernel_rfl) (fun _ _ _ h => h) (HSF.out _ HK0) ?_ ?_; rfl) | (refine rg_t 1 (v := ?_) rfl (by kernel_rfl) (fun _ _ _ h => h) (HSF.out _ HK0) ?_ ?_ ?_; rotate_left; rfl; focus (intro w hSw; (try dsimp only at hSw); go_simp; all_goals (with_reducible rfl)))
        simp only [Act.put, l_a, l_s, l_z]
        first | (refine rg_s 3 rfl (by kernel_rfl) (fun _ _ _ h => h) (HSF.out _ HK0) ?_ ?_; rfl) | (refine rg_t 3 (v := ?_) rfl (by kernel_rfl) (fun _ _ _ h => h) (HSF.out _ HK0) ?_ ?_ ?_; rotate_left; rfl; focus (intro w hSw; (try dsimp only at hSw); go_simp; all_goals (with_reducible rfl)))
        simp only [Act.put, l_a, l_s, l_z]
        first | (refine rg_s 4 rfl (by kernel_rfl) (fun _ _ _ h => h) (HSF.out _ HK0) ?_ ?_; rfl) | (refine rg_t 4 (v := ?_) rfl (by kernel_rfl) (fun _ _ _ h => h) (HSF.out _ HK0) ?_ ?_ ?_; rotate_left; rfl; focus (intro w hSw; (try dsimp only at hSw); go_simp; all_goals (with_reducible rfl)))
        simp only [Act.put, l_a, l_s, l_z]
        first | (refine rg_s 5 rfl (by kernel_rfl) (fun _ _ _ h => h) (HSF.out _ HK0) ?_ ?_; rfl) | (refine rg_t 5 (v := ?_) rfl (by kernel_rfl) (fun _ _ _ h => h) (HSF.out _ HK0) ?_ ?_ ?_; rotate_left; rfl; focus (intro w hSw; (try dsimp only at hSw); go_simp; all_goals (with_reducible rfl)))
        simp only [Act.put, l_a, l_s, l_z]
        first | (refine rg_s 6 rfl (by kernel_rfl) (fun _ _ _ h => h) (HSF.out _ HK0) ?_ ?_; rfl) | (refine rg_t 6 (v := ?_) rfl (by kernel_rfl) (fun _ _ _ h => h) (HSF.out _ HK0) ?_ ?_ ?_; rotate_left; rfl; focus (intro w hSw; (try dsimp only at hSw); go_simp; all_goals (with_reducible rfl)))
        simp only [Act.put, l_a, l_s, l_z]
        first | (refine rg_s 7 rfl (by kernel_rfl) (fun _ _ _ h => h) (HSF.out _ HK0) ?_ ?_; rfl) | (refine rg_t 7 (v := ?_) rfl (by kernel_rfl) (fun _ _ _ h => h) (HSF.out _ HK0) ?_ ?_ ?_; rotate_left; rfl; focus (intro w hSw; (try dsimp only at hSw); go_simp; all_goals (with_reducible rfl)))
        simp only [Act.put, l_a, l_s, l_z]
        first | (refine rg_s 8 rfl (by kernel_rfl) (fun _ _ _ h => h) (HSF.out _ HK0) ?_ ?_; rfl) | (refine rg_t 8 (v := ?_) rfl (by kernel_rfl) (fun _ _ _ h => h) (HSF.out _ HK0) ?_ ?_ ?_; rotate_left; rfl; focus (intro w hSw; (try dsimp only at hSw); go_simp; all_goals (with_reducible rfl)))
        simp only [Act.put, l_a, l_s, l_z]
        first | (refine rg_s 9 rfl (by kernel_rfl) (fun _ _ _ h => h) (HSF.out _ HK0) ?_ ?_; rfl) | (refine rg_t 9 (v := ?_) rfl (by kernel_rfl) (fun _ _ _ h => h) (HSF.out _ HK0) ?_ ?_ ?_; rotate_left; rfl; focus (intro w hSw; (try dsimp only at hSw); go_simp; all_goals (with_reducible rfl)))
        simp only [Act.put, l_a, l_s, l_z]
        refine rl_one 2 rfl (by kernel_rfl) ?_
        refine rl_call 97 _ _ (by rfl) _ Tryz.func97 (by kernel_rfl) (by kernel_rfl) [.pointer (some ⟨b, 0, none⟩), .int .i64 0, .int .i64 a] rfl (HPA.out _ HK0) ?_
        rintro e w2 ⟨b2, rfl, hp2, hb2, hk2⟩
        have HK2 := HK0.trans hk2
        refine ⟨_, rfl, HSF.out _ HK2, ?_⟩
        simp only [Act.put, l_a, l_s, l_z]
        refine rl_one 10 rfl (by kernel_rfl) ?_
        refine rl_call 97 _ _ (by rfl) _ Tryz.func97 (by kernel_rfl) (by kernel_rfl) [.pointer (some ⟨b, 0, none⟩), .int .i64 a, .int .i64 N] rfl (HPB.out _ HK2) ?_
        rintro e w10 ⟨b10, rfl, hp10, hb10, hk10⟩
        have HK10 := HK2.trans hk10
        refine ⟨_, rfl, HSF.out _ HK10, ?_⟩
        simp only [Act.put, l_a, l_s, l_z]
        refine rl_one 11 rfl (by kernel_rfl) ?_
        refine wl_unguard (by rfl) ?_
        refine wl_sliceVs rfl 94 [_, _] rfl 91 (.pointer none) 8 Tryz.underlying94 infoPtr rfl [.pointer (some ⟨b2, 0, none⟩), .pointer (some ⟨b10, 0, none⟩)] rfl (fun v hv => by simp only [List.mem_cons, List.not_mem_nil, or_false] at hv; rcases hv with rfl | rfl <;> rfl) (by simp) (by simp) ?_
        intro b11 w11 hb11 HBB11 hk11
        refine till_nil ?_
        have hbz11 : w.heap.size ≤ b11 := Nat.le_trans (Nat.le_trans HKR.out.size HK10.size) hb11
        have HK11 := HK10.trans hk11
        refine ⟨HSF.out _ HK11, ?_⟩
        simp only [Act.put, l_a, l_s, l_z]
        first | (refine rg_s 12 rfl (by kernel_rfl) (fun _ _ _ h => h) (HSF.out _ HK11) ?_ ?_; rfl) | (refine rg_t 12 (v := ?_) rfl (by kernel_rfl) (fun _ _ _ h => h) (HSF.out _ HK11) ?_ ?_ ?_; rotate_left; rfl; focus (intro w hSw; (try dsimp only at hSw); go_simp; all_goals (with_reducible rfl)))
        simp only [Act.put, l_a, l_s, l_z]
        refine wpAnyH_done (by kernel_rfl) ?_ _
        have HPO : Hid (KnotsPost w X d (fresh0 (splitR l)) (.returned (.slice (some ⟨b11, 0, none⟩) 2 2)) w11) := Lib.hid (by
          rw [HSP.out, ← HA.out]
          exact ⟨_, [b2, b10], rfl, isKids_made (js := [b2, b10]) HBB11 (HX.out b11 hbz11), (isKs.one (hp2.new (hk10.trans hk11))).app (isKs.one (hp10.new hk11)), HKR.out.trans HK11⟩)
        clear hp2 hp10 HBB11
        go_wp2_with fail
        go_ret
        exact HPO.out
end Go.Proofs.YtblpkifkaoaicaaGreat

namespace Wb
open Go
theorem splice_list (C : Array Value) (off : Nat) (V : List Value) : (Wb.splice C off V.toArray).toList = C.toList.take off ++ V ++ C.toList.drop (off + V.length) := by
  unfold Wb.splice
  simp [List.append_assoc]
theorem splice_len {C V : Array Value} {off : Nat} (h : off + V.size ≤ C.size) : (Wb.splice C off V).size = C.size := by
  unfold Wb.splice
  simp
  omega
theorem ins_new {C : Array Value} {p q : Nat} {F R D : List Value} (hF : C.toList.take p = F) (hp : F.length = p) (hq : p + R.length = q) (hC : q + D.length ≤ C.size) :
    (Wb.splice (Wb.splice C p R.toArray) q D.toArray).toList.take (q + D.length) = F ++ R ++ D := by
  rw [splice_list, splice_list, hF]
  have e1 : (F ++ R ++ C.toList.drop (p + R.length)).take q = F ++ R := by
    rw [List.take_append_of_le_length (by rw [List.length_append]; omega), List.take_of_length_le (by rw [List.length_append]; omega)]
  rw [e1, List.take_append_of_le_length (by simp only [List.length_append]; omega), List.take_of_length_le (by simp only [List.length_append]; omega)]
theorem ins_in {C : Array Value} {p q : Nat} {F R D : List Value} (hF : C.toList.take p = F) (hp : F.length = p) (hq : p + R.length = q) (hC : q + D.length ≤ C.size) :
    (Wb.splice (Wb.splice C q D.toArray) p R.toArray).toList.take (q + D.length) = F ++ R ++ D := by
  rw [splice_list, splice_list]
  have hlen : (C.toList.take q).length = q := by rw [List.length_take, Array.length_toList]; omega
  have e1 : (C.toList.take q ++ D ++ C.toList.drop (q + D.length)).take p = F := by
    rw [List.append_assoc, List.take_append_of_le_length (by omega), List.take_take, Nat.min_eq_left (by omega), hF]
  have e2 : (C.toList.take q ++ D ++ C.toList.drop (q + D.length)).drop (p + R.length) = D ++ C.toList.drop (q + D.length) := by
    rw [hq, List.append_assoc, List.drop_append_of_le_length (by omega), List.drop_eq_nil_of_le (by omega), List.nil_append]
  rw [e1, e2, ← List.append_assoc, List.take_append_of_le_length (by simp only [List.length_append]; omega), List.take_of_length_le (by simp only [List.length_append]; omega)]
end Wb
namespace Go.Proofs.YtblpkifkaoaicaaGreat
open Go Go.RowKit Go.Maps Wb

def InsPost (w : World) (lo : Nat) (v : Value) (l : List Rw) (e : Ending) (w' : World) : Prop := ∃ v', e = .returned v' ∧ isOwnA w' lo 70 3 v' (rowsA l) ∧ Keeps w w' (fun j => v.ownBlock = some j)
theorem rowsA_flat (l : List Rw) : (flatA (rowsA l)).length = l.length * 3 := by rw [flatA_len (rowsA_size l), rowsA_len]
theorem flat_take (l : List Rw) (i : Nat) : (flatA (rowsA l)).take (i * 3) = flatA (rowsA (l.take i)) := by
  rw [← flatA_take (rowsA_size l)]
  unfold rowsA
  rw [List.map_take]
theorem flat_row (r : Rw) : flatA (rowsA [r]) = (rowA r).toList := by simp [flatA, rowsA]
theorem flat_ins (l : List Rw) (i : Nat) (r : Rw) : flatA (rowsA (l.take i ++ r :: l.drop i)) = flatA (rowsA (l.take i)) ++ (rowA r).toList ++ flatA (rowsA (l.drop i)) := by
  rw [show l.take i ++ r :: l.drop i = l.take i ++ [r] ++ l.drop i by simp, rowsA_app, rowsA_app, flatA_app, flatA_app, flat_row]
theorem ins_len {l : List Rw} {i : Nat} (r : Rw) (h : i ≤ l.length) : (l.take i ++ r :: l.drop i).length = l.length + 1 := by simp; omega
set_option maxRecDepth 100000 in
set_option maxHeartbeats 4000000 in
theorem insertR_calls (w : World) (lo : Nat) (v : Value) (l : List Rw) (i : Nat) (r : Rw) (b : Nat) (hown : isOwnA w lo 70 3 v (rowsA l)) (hlo : lo ≤ w.heap.size) (hb : w.heap[b]? = some (.cells (rowA r) 70 (0, 0))) (hne : v.ownBlock ≠ some b) (hi : i ≤ l.length) (hl : l.length ≤ 1000) :
    Calls Tryz.prog 71 #[v, .int .i64 i, .slice (some ⟨b, 0, none⟩) 1 1] w (InsPost w lo v (l.take i ++ r :: l.drop i)) := by
  have hlen := rowsA_len l
  obtain ⟨n, hn⟩ : ∃ n, n = l.length := ⟨_, rfl⟩
  have HN := Lib.hid hn
  have hni : (n : Int) ≤ 1000 := by omega
  have hn0 : (0 : Int) ≤ n := by omega
  have hi0 : (0 : Int) ≤ i := by omega
  have hb1 : ∀ (wX : World), wX.heap[b]? = some (.cells (rowA r) 70 (0, 0)) → ∀ (j : Nat) x, ([rowA r] : List (Array Value))[j]? = some x → wX.rangeAt b (0 + j * 3) x.toList := fun wX hb j x hj => by
    cases j with
    | zero => simp at hj; subst hj; rw [Nat.zero_mul, Nat.add_zero]; exact range_blk hb
    | succ j => simp at hj
  have HB1 := Lib.hid hb1
  have hr1 : ∀ x ∈ ([rowA r] : List (Array Value)), x.size = 3 := fun x hx => by rw [List.mem_singleton.1 hx]; rfl
  have hr2 : ∀ x ∈ ([rowA r] : List (Array Value)), x.all (·.oneCell') = true := fun x hx => by rw [List.mem_singleton.1 hx]; exact rowA_one r
  have HR1 := Lib.hid hr1
  have HR2 := Lib.hid hr2
  have HB := Lib.hid hb
  have HLO := Lib.hid hlo
  have HOWN := Lib.hid hown
  rcases Nat.lt_or_eq_of_le hi with hin | hin
  · obtain ⟨g, c, cur, rfl, hgl, hg, hnc, hcm, hcs, htake⟩ : ∃ g c cur, v = .slice (some ⟨g, 0, none⟩) n c ∧ lo ≤ g ∧ w.heap[g]? = some (.cells cur 70 (0, 0)) ∧ n ≤ c ∧ c ≤ maxLen ∧ cur.size = c * 3 ∧ cur.toList.take (n * 3) = flatA (rowsA l) := by
      rcases hown.2.2 with ⟨_, h0⟩ | ⟨g, cap, cur, he, h1, h2, h3, h4, h5, h6⟩
      · omega
      · rw [hlen] at he h3 h6
        exact ⟨g, cap, cur, by rw [hn]; exact he, h1, h2, by rw [hn]; exact h3, h4, h5, by rw [hn]; exact h6⟩
    have hgb : g ≠ b := fun e => hne (by rw [e]; rfl)
    have HG := Lib.hid hg
    have HCUR := Lib.hid (And.intro hcs htake)
    have hF : Hid (cur.toList.take (i * 3) = flatA (rowsA (l.take i))) := Lib.hid (by rw [← flat_take l i, ← htake, List.take_take, Nat.min_eq_left (Nat.mul_le_mul_right _ (by omega))])
    have hFl : Hid ((flatA (rowsA (l.take i))).length = i * 3) := Lib.hid (by rw [rowsA_flat, List.length_take]; congr 1; omega)
    have hDl : Hid ((flatA (rowsA (l.drop i))).length = (n - i) * 3) := Lib.hid (by rw [rowsA_flat, List.length_drop, ← hn])
    have hRl : Hid ((rowA r).toList.length = 3) := Lib.hid rfl
    have hdrl : Hid ((rowsA (l.drop i)).length = n - i) := Lib.hid (by rw [rowsA_len, List.length_drop, ← hn])
    have hrd : Hid (∀ (wX : World), wX.heap[g]? = w.heap[g]? → ∀ (j : Nat) x, (rowsA (l.drop i))[j]? = some x → wX.rangeAt g (i * 3 + j * 3) x.toList) := Lib.hid fun wX hk j x hj => by
      have h1 : (rowsA l)[i + j]? = some x := by
        unfold rowsA at hj ⊢
        rw [List.map_drop, List.getElem?_drop] at hj
        exact hj
      obtain ⟨g', c', he, _, _, _, h2⟩ := hown.at h1
      cases he
      intro q y hq
      have h3 := h2 q y hq
      show wX.cell? ⟨g, i * 3 + j * 3 + q, none⟩ = some y
      unfold World.cell? at h3 ⊢
      rw [hk, show i * 3 + j * 3 + q = (i + j) * 3 + q by rw [Nat.add_mul]]
      exact h3
    have HLEN := Lib.hid (ins_len r hi)
    have hin9 : (i : Int) < n := by omega
    have hinN : i < n := by omega
    have hne2 : ((i : Int) == (n : Int)) = false := by simp; omega
    have hnci : (n : Int) ≤ c := by omega
    have hcm9 : (c : Int) ≤ 9223372036854775807 := by unfold maxLen at hcm; omega
    have HIN := Lib.hid (And.intro hinN hnc)
    have HNC9 := Lib.hid (And.intro hl (And.intro hcm hgl))
    clear hown hb hlo hb1 hr1 hr2 hlen hg hcs htake hi hin hn hl hcm hne
    by_cases hroom : n + 1 ≤ c
    · as_aux_lemma =>
      have hrb : decide ((c : Int) < (n : Int) + 1) = false := by simp; omega
      have hic : i + 1 < c := by omega
      have HIC := Lib.hid hic
      have hov : (callFunc 98 #[.slice (some ⟨b, 0, none⟩) 1 1, .slice (some ⟨g, (i + 1) * 3, none⟩) (n - i) (c - (i + 1))]).run Tryz.prog w = .ok (.value (.bool false)) w := by
        rw [run_callFunc_extern Tryz.func98 (by kernel_rfl) (by kernel_rfl) (by kernel_rfl) (e := Extern.SlicesOverlaps.overlaps #[47, 47] #[4]) (by kernel_rfl),
          Lib.run_overlaps_apart w 47 4 70 Tryz.underlying47 3 (fun W => by kernel_rfl) ⟨b, 0, none⟩ ⟨g, (i + 1) * 3, none⟩ 1 1 _ _ (fun e => hgb e.symm) 70 70 3 cur.size (by simp [World.shape?, HB.out]; rfl) (by simp [World.shape?, HG.out]) (by rw [HCUR.out.1]; omega) (free_of_block HB.out 0) (free_of_block HB.out 3)]
        rfl
      have HOV := Lib.hid hov
      clear hov
      have HFIN : Hid (∀ (w' : World), w'.heap[g]? = some (.cells (Wb.splice (Wb.splice cur ((i + 1) * 3) (flatA (rowsA (l.drop i))).toArray) (i * 3) (rowA r)) 70 (0, 0)) → Keeps w w' (· = g) → InsPost w lo (.slice (some ⟨g, 0, none⟩) n c) (l.take i ++ r :: l.drop i) (.returned (.slice (some ⟨g, 0, none⟩) (n + 1) c)) w') := Lib.hid fun w' hb' hk => by
        have hsz : (i + 1) * 3 + (flatA (rowsA (l.drop i))).length ≤ cur.size := by
          rw [hDl.out, HCUR.out.1, ← Nat.add_mul]
          exact Nat.mul_le_mul_right _ (by have := HIN.out; omega)
        have hin := ins_in (R := (rowA r).toList) (q := (i + 1) * 3) (D := flatA (rowsA (l.drop i))) hF.out hFl.out (by rw [hRl.out]; omega) hsz
        refine ⟨_, rfl, ⟨rowsA_size _, ?_⟩, hk.mono (fun j _ e => by rw [show j = g from e]; rfl)⟩
        refine ⟨by rw [flatA_len (rowsA_size _)], .inr ⟨g, c, _, ?_, HNC9.out.2.2, hb', ?_, HNC9.out.2.1, ?_, ?_⟩⟩
        · rw [rowsA_len, HLEN.out, ← HN.out]
        · rw [rowsA_len, HLEN.out, ← HN.out]; exact hroom
        · rw [splice_len, splice_len, HCUR.out.1]
          · simpa using hsz
          · rw [splice_len (by simpa using hsz)]
            show i * 3 + 3 ≤ cur.size
            rw [HCUR.out.1]
            have := Nat.mul_le_mul_right 3 (show i + 1 ≤ c by omega)
            omega
        · rw [rowsA_len, HLEN.out, ← HN.out, show (n + 1) * 3 = (i + 1) * 3 + (flatA (rowsA (l.drop i))).length by rw [hDl.out, ← Nat.add_mul]; congr 1; omega, flat_ins]
          have e9 : (rowA r).toList.toArray = rowA r := by simp
          rw [e9] at hin
          exact hin
      have HNC1 : Hid (n + 1 ≤ c) := Lib.hid hroom
      clear hroom hic
      have hw1 : (1 : Int) ≤ (n : Int) + 1 := by omega
      have hiP : ((i : Int) + 1) = ((i + 1 : Nat) : Int) := by omega
      have hnP : ((n : Int) + 1) = ((n + 1 : Nat) : Int) := by omega
      have HIP := Lib.hid hiP
      have HWI : Hid (IntKind.i64.wrap ((i : Int) + 1) = ((i + 1 : Nat) : Int)) := Lib.hid (by rw [i64_smallK _ (by omega) (by omega)]; omega)
      have HNP := Lib.hid hnP
      clear hiP hnP
      go_enter Tryz.func71, Tryz.ntmps71
      go_upto_region 2 with (first
        | (refine wl_cut rfl _ 70 _ (some _) none rfl Tryz.underlying47 3 infoRwS _ n c rfl i n _ rfl rfl (.inr ⟨rfl, rfl⟩) (Nat.le_of_lt HIN.out.1) HIN.out.2 ?_)
        | fail)
      go_upto_region 14 with (first
        | (refine wl_cutH rfl _ 70 _ (some _) rfl Tryz.underlying47 3 infoRwS _ n c rfl (n + 1) _ rfl HNP.out HNC1.out ?_)
        | fail)
      go_wp2_with (first
        | (refine wl_cut rfl _ 70 _ (some _) none rfl Tryz.underlying47 3 infoRwS _ (n + 1) c rfl (i + 1) (n + 1) _ rfl HIP.out (.inr ⟨rfl, rfl⟩) (by have := HIN.out; omega) HNC1.out ?_; rw [cutA_at (g := g) (off := 0) rfl HIC.out, Nat.zero_add, Nat.add_sub_add_right])
        | fail)
      rw [HOV.out]
      rw [Oper.upon_value]
      go_wp2_with fail
      refine wp_region_still_tail 8 (by kernel_rfl) (by kernel_rfl) ?_
      simp only [List.take_succ_cons, List.take_zero, List.drop_succ_cons, List.drop_zero]
      iterate 4 still_step
      refine ws_cut rfl _ 70 _ (some _) none rfl Tryz.underlying47 3 infoRwS _ (n + 1) c rfl (i + 1) (n + 1) _ rfl HWI.out (.inr ⟨rfl, rfl⟩) (by have := HIN.out; omega) HNC1.out ?_
      rw [cutA_at (g := g) (off := 0) rfl HIC.out, Nat.zero_add, Nat.add_sub_add_right]
      iterate 2 still_step
      refine ws_cut rfl _ 70 _ (some _) none rfl Tryz.underlying47 3 infoRwS _ (n + 1) c rfl i (n + 1) _ rfl rfl (.inr ⟨rfl, rfl⟩) (by have := HIN.out; omega) HNC1.out ?_
      rw [cutA_at (g := g) (off := 0) rfl (by have := HIC.out; omega), Nat.zero_add]
      refine wpStill_nil ?_
      have hsz : (i + 1) * 3 + (flatA (rowsA (l.drop i))).length ≤ cur.size := by
        rw [hDl.out, HCUR.out.1, ← Nat.add_mul]
        exact Nat.mul_le_mul_right _ (by have := HIN.out; have := HNC1.out; omega)
      have HSZ := Lib.hid hsz
      clear hsz
      go_wp2_with (first
        | (refine wl_copyB rfl _ _ 47 47 rfl 70 3 Tryz.underlying47 infoRwS (by decide) g ((i + 1) * 3) (n - i) (c - (i + 1)) rfl g (i * 3) (n + 1 - i) (c - i) rfl (rowsA (l.drop i)) (rowsA_size _) (hrd.out _ rfl) cur 70 HG.out (n - i) (by have := HIN.out; omega) hdrl.out (by have := HSZ.out; rw [hDl.out] at this; omega) (rowsA_ones _) ?_; intro w2 HG2 hk2; have HB2 := hk2.blk HB.out (fun e => hgb e.symm))
        | (refine wl_cut rfl _ 70 _ (some _) none rfl Tryz.underlying47 3 infoRwS _ (n + 1) c rfl i (n + 1) _ rfl rfl (.inr ⟨rfl, rfl⟩) (by have := HIN.out; omega) HNC1.out ?_; rw [cutA_at (g := g) (off := 0) rfl (by have := HIC.out; omega), Nat.zero_add])
        | (refine wl_copyB rfl _ _ 47 47 rfl 70 3 Tryz.underlying47 infoRwS (by decide) g (i * 3) (n + 1 - i) (c - i) rfl b 0 1 1 rfl [rowA r] HR1.out (HB1.out _ HB2) _ 70 HG2 1 (by have := HIN.out; omega) rfl (by rw [splice_len (by simpa using HSZ.out)]; have := HSZ.out; omega) HR2.out ?_; intro w3 HG3 hk3)
        | fail)
      have hpost := HFIN.out w3 (by rw [HG3]; congr 3) ((Keeps.refl w _).drew.trans (hk2.trans hk3))
      have HPO := Lib.hid hpost
      clear hpost HG3 HG2 HB2
      go_ret
      exact HPO.out
    · as_aux_lemma =>
      have hrb : decide ((c : Int) < (n : Int) + 1) = true := by simp; omega
      have HNR : Hid (c < n + 1) := Lib.hid (by omega)
      have hiP : ((i : Int) + 1) = ((i + 1 : Nat) : Int) := by omega
      have hkP : ((n : Int) + 1 - (i : Int)) = ((n + 1 - i : Nat) : Int) := by omega
      have HIP := Lib.hid hiP
      have HKP := Lib.hid hkP
      have HWI : Hid (IntKind.i64.wrap ((i : Int) + 1) = ((i + 1 : Nat) : Int)) := Lib.hid (by rw [i64_smallK _ (by omega) (by omega)]; omega)
      have HSUM : Hid (i + (n + 1 - i) = n + 1) := Lib.hid (by omega)
      have HOI : Hid (isOwnA w lo 70 3 (.slice (some ⟨g, 0, none⟩) i c) (rowsA (l.take i))) := Lib.hid (by have h9 := HOWN.out.cut (k := i) (Nat.le_of_lt HIN.out.1); rwa [show (rowsA l).take i = rowsA (l.take i) from (by unfold rowsA; rw [List.map_take])] at h9)
      have HB63 : Hid (i + (n + 1 - i) ≤ maxLen ∧ (i + (n + 1 - i)) * 40 ≤ 140737488355328) := Lib.hid (by rw [HSUM.out]; have := HNC9.out.1; have := HN.out; unfold maxLen; omega)
      have HFIN : Hid (∀ (B cap : Nat) (C : Array Value) (w' : World), w.heap.size ≤ B → n + 1 ≤ cap → cap ≤ maxLen → C.size = cap * 3 → C.toList.take (i * 3) = flatA (rowsA (l.take i)) → w'.heap[B]? = some (.cells (Wb.splice (Wb.splice C (i * 3) (rowA r)) ((i + 1) * 3) (flatA (rowsA (l.drop i))).toArray) 70 (0, 0)) → Keeps w w' (fun _ => False) → InsPost w lo (.slice (some ⟨g, 0, none⟩) n c) (l.take i ++ r :: l.drop i) (.returned (.slice (some ⟨B, 0, none⟩) (n + 1) cap)) w') := Lib.hid fun B cap C w' hB hcap hcm hC hCt hb' hk => by
        have hsz : (i + 1) * 3 + (flatA (rowsA (l.drop i))).length ≤ C.size := by
          rw [hDl.out, hC, ← Nat.add_mul]
          exact Nat.mul_le_mul_right _ (by have := HIN.out; omega)
        have hin := ins_new (R := (rowA r).toList) (q := (i + 1) * 3) (D := flatA (rowsA (l.drop i))) hCt hFl.out (by rw [hRl.out]; omega) hsz
        refine ⟨_, rfl, ⟨rowsA_size _, ?_⟩, hk.mono (fun _ _ h => h.elim)⟩
        refine ⟨by rw [flatA_len (rowsA_size _)], .inr ⟨B, cap, _, ?_, Nat.le_trans HLO.out hB, hb', ?_, hcm, ?_, ?_⟩⟩
        · rw [rowsA_len, HLEN.out, ← HN.out]
        · rw [rowsA_len, HLEN.out, ← HN.out]; exact hcap
        · have h3 : i * 3 + 3 ≤ C.size := by omega
          rw [splice_len, splice_len h3, hC]
          rw [splice_len h3]
          simpa using hsz
        · rw [rowsA_len, HLEN.out, ← HN.out, show (n + 1) * 3 = (i + 1) * 3 + (flatA (rowsA (l.drop i))).length by rw [hDl.out, ← Nat.add_mul]; congr 1; have := HIN.out; omega, flat_ins]
          have e9 : (rowA r).toList.toArray = rowA r := by simp
          rw [e9] at hin
          exact hin
      clear hroom hiP hkP
      go_enter Tryz.func71, Tryz.ntmps71
      go_upto_region 2 with (first
        | (refine wl_cut rfl _ 70 _ (some _) none rfl Tryz.underlying47 3 infoRwS _ n c rfl i n _ rfl rfl (.inr ⟨rfl, rfl⟩) (Nat.le_of_lt HIN.out.1) HIN.out.2 ?_)
        | fail)
      go_wp2_with (first
        | (refine wl_cutH rfl _ 70 _ (some _) rfl Tryz.underlying47 3 infoRwS _ n c rfl i _ rfl rfl (Nat.le_trans (Nat.le_of_lt HIN.out.1) HIN.out.2) ?_)
        | (at_builtin; refine wl_appendZN rfl _ _ 47 3 rfl 70 _ 3 40 Tryz.underlying47 Tryz.underlying3 infoRwZ rfl (by decide) lo g i c (rowsA (l.take i)) rfl HOI.out (n + 1 - i) _ rfl HKP.out (by rw [HSUM.out]; exact HNR.out) HB63.out.1 HB63.out.2 ?_; intro B cap C w1 hBs hcap hcm1 hC hCt HBB hk1; rw [HSUM.out] at hcap ⊢; rw [show flatA (rowsA (l.take i)) = flatA (rowsA (l.take i)) from rfl] at hCt; have hlen1 : i * 3 + 3 ≤ C.size := (by rw [hC]; have := HIN.out; omega); have HBk := hk1.blk HB.out (fun h => h))
        | (refine wl_cut rfl _ 70 _ (some _) none rfl Tryz.underlying47 3 infoRwS _ (n + 1) cap rfl i (n + 1) _ rfl rfl (.inr ⟨rfl, rfl⟩) (by have := HIN.out; omega) hcap ?_; rw [cutA_at (g := B) (off := 0) rfl (by have := HIN.out; omega), Nat.zero_add])
        | (refine wl_copyB rfl _ _ 47 47 rfl 70 3 Tryz.underlying47 infoRwS (by decide) B (i * 3) (n + 1 - i) (cap - i) rfl b 0 1 1 rfl [rowA r] HR1.out (HB1.out _ HBk) _ 70 HBB 1 (by have := HIN.out; omega) rfl (by omega) HR2.out ?_; intro w2 HBB2 hk2)
        | fail)
      refine wp_region_still_tail 8 (by kernel_rfl) (by kernel_rfl) ?_
      simp only [List.take_succ_cons, List.take_zero, List.drop_succ_cons, List.drop_zero]
      iterate 4 still_step
      refine ws_cut rfl _ 70 _ (some _) none rfl Tryz.underlying47 3 infoRwS _ (n + 1) cap rfl (i + 1) (n + 1) _ rfl HWI.out (.inr ⟨rfl, rfl⟩) (by have := HIN.out; omega) hcap ?_
      rw [cutA_at (g := B) (off := 0) rfl (by have := HIN.out; omega), Nat.zero_add, Nat.add_sub_add_right]
      iterate 2 still_step
      refine ws_cut rfl _ 70 _ (some _) none rfl Tryz.underlying47 3 infoRwS _ n c rfl i n _ rfl rfl (.inr ⟨rfl, rfl⟩) (Nat.le_of_lt HIN.out.1) HIN.out.2 ?_
      rw [cutA_at (g := g) (off := 0) rfl (by have := HIN.out; omega), Nat.zero_add]
      refine wpStill_nil ?_
      have hgB : g ≠ B := fun e => by have := lt_of_blk HG.out; omega
      have hgg : w2.heap[g]? = w.heap[g]? := by rw [hk2.block g (Nat.lt_of_lt_of_le (lt_of_blk HG.out) hk1.size) hgB, hk1.block g (lt_of_blk HG.out) (fun h => h)]
      have hs2 : (i + 1) * 3 + (n - i) * 3 ≤ (Wb.splice C (i * 3) (flatA [rowA r]).toArray).size := by
        rw [splice_len (by show i * 3 + 3 ≤ _; exact hlen1), hC, ← Nat.add_mul]
        exact Nat.mul_le_mul_right _ (by have := HIN.out; omega)
      go_wp2_with (first
        | (refine wl_copyB rfl _ _ 47 47 rfl 70 3 Tryz.underlying47 infoRwS (by decide) B ((i + 1) * 3) (n - i) (cap - (i + 1)) rfl g (i * 3) (n - i) (c - i) rfl (rowsA (l.drop i)) (rowsA_size _) (hrd.out _ hgg) _ 70 HBB2 (n - i) (by omega) hdrl.out hs2 (rowsA_ones _) ?_; intro w3 HBB3 hk3)
        | fail)
      have hpost := HFIN.out B cap C w3 hBs hcap hcm1 hC hCt (by rw [HBB3]; congr 3) ((hk1.then hk2 (fun j hj e => by omega)).drew.then hk3 (fun j hj e => by omega))
      have HPO := Lib.hid hpost
      clear hpost HBB3 HBB2 HBB hgg hs2
      go_ret
      exact HPO.out
  · as_aux_lemma =>
    obtain ⟨va, vc, rfl⟩ := hown.shape
    rw [hlen, ← hn] at hown HOWN ⊢
    have hie : ((i : Int) == (n : Int)) = true := by simp; omega
    have hall : Hid (rowsA l ++ [rowA r] = rowsA (l.take i ++ r :: l.drop i)) := Lib.hid (by
      rw [hin, List.take_length, List.drop_length, rowsA_app]; rfl)
    have hvc : n ≤ vc := by
      obtain ⟨ad, cap, he, hc, _⟩ := hown.rd
      injection he with e1 e2 e3
      rw [e3, hn, ← hlen]; exact hc
    have HVC := Lib.hid hvc
    have HIE : Hid (i = n) := Lib.hid (by omega)
    have HL9 : Hid ((rowsA l).length + 1 ≤ maxLen ∧ ((rowsA l).length + 1) * 40 ≤ 140737488355328) := Lib.hid (by rw [rowsA_len]; unfold maxLen; omega)
    clear hown hb hlo hb1 hr1 hr2 hlen hi hin hn hl hvc
    go_enter Tryz.func71, Tryz.ntmps71
    go_upto_region 2 with (first
      | (refine wl_cut rfl _ 70 _ (some _) none rfl Tryz.underlying47 3 infoRwS _ n vc rfl i n _ rfl rfl (.inr ⟨rfl, rfl⟩) (Nat.le_of_eq HIE.out) HVC.out ?_)
      | fail)
    go_wp2_with (first
      | (at_builtin; refine wl_appendA rfl _ _ 47 rfl 70 _ 3 40 Tryz.underlying47 infoRwZ rfl (by decide) lo (.slice va n vc) (rowsA l) rfl HOWN.out b (rowA r) rfl HB.out rfl (rowA_one _) HL9.out.1 HL9.out.2 HLO.out ?_; intro v' w3 hap)
      | fail)
    have HPO : Hid (InsPost w lo (.slice va n vc) (l.take i ++ r :: l.drop i) (.returned v') w3) := Lib.hid ⟨v', rfl, by rw [← hall.out]; exact hap.1, hap.2.1⟩
    clear hap
    go_ret
    exact HPO.out
end Go.Proofs.YtblpkifkaoaicaaGreat
