/- Lemmas and contracts of functions, joined. -/
import Derived.Test.YtblpkifkaoaicaaGreatYO2
import Derived.Test.YtblpkifkaoaicaaGreatQH
import Derived.Test.YtblpkifkaoaicaaGreatQU
import Derived.Test.YtblpkifkaoaicaaGreatYGd
import Derived.Test.YtblpkifkaoaicaaGreatYSlA
namespace Wb
open Go Go.RowKit Go.Maps Go.MapKept Go.ChangeMaps
variable {P : Program} {w w' : World} {ops : Array Oper} {rest : List Oper} {o : Oper} {a : Act} {Q : Exit → Act → World → Prop}
/-- A struct is loaded whose cells stand in a range that is read. -/
theorem wl_load_rd (hg : o.guard = none) (ty : TypeId) (x : Operand) (hop : o.op = .load ty x) (g off : Nat) (hx : a.eval x = .pointer (some ⟨g, off, none⟩)) (V : Array Value) (hb : w.rangeAt g off V.toList) (d : TypeDesc) (hu : P.underlying ty = some d) (hd : d.isRow = true) (hi : (P.info? ty).map (·.size) = some V.size)
    (hK : wpList P ops Q rest (a.put o.dst (.agg V)) w) : wpList P ops Q (o :: rest) a w :=
  wpList_load_mid hg ty x hop g off hx V.toList d (fun _ _ hj => hb _ _ hj) hu hd (by simpa using hi) (by simpa using hK)
end Wb
namespace Go.Proofs.YtblpkifkaoaicaaGreat
open Go Go.RowKit Go.Maps Wb

theorem keeps_new {a w w' : World} {b : Nat} (h : Keeps a w (fun _ => False)) (k : Keeps w w' (· = b)) (hb : a.heap.size ≤ b) : Keeps a w' (fun _ => False) :=
  h.then k fun i hi e => absurd hi (by rw [e]; exact Nat.not_lt.2 hb)
def rowC (k v : Value) (p : Int) : Array Value := #[k, v, .int .i64 p]
def rowA (r : Rw) : Array Value := rowC (.string (bs r.key)) (.string (bs r.val)) r.page
def rowsA (l : List Rw) : List (Array Value) := l.map rowA
theorem rowsA_len (l : List Rw) : (rowsA l).length = l.length := by simp [rowsA]
theorem rowsA_at {l : List Rw} {j : Nat} {r : Rw} (h : l[j]? = some r) : (rowsA l)[j]? = some (rowA r) := by simp [rowsA, h]
theorem rowsA_app (l m : List Rw) : rowsA (l ++ m) = rowsA l ++ rowsA m := by simp [rowsA]
theorem rowsA_size (l : List Rw) : ∀ r ∈ rowsA l, r.size = 3 := by
  intro r hr
  obtain ⟨x, _, rfl⟩ := List.mem_map.1 hr
  rfl
theorem zeroRw (w : World) : (zeroValue 70).run Tryz.prog w = .ok (.agg (rowA ⟨[], [], 0⟩)) w := by kernel_rfl
theorem infoRw (r : Rw) : (Tryz.prog.info? 70).map (·.size) = some (rowA r).size := by
  have : (Tryz.prog.info? 70).map (·.size) = some 3 := by kernel_rfl
  exact this
theorem rowA_one (r : Rw) : (rowA r).all (·.oneCell') = true := by
  simp [rowA, rowC]
  simp [Value.oneCell']
theorem store_rw (r s : Rw) : Wb.splice (rowA r) 0 (rowA s) = rowA s := store_whole _ _ rfl
theorem le_rw (r s : Rw) : 0 + (rowA r).size ≤ (rowA s).size := by simp [rowA, rowC]
def nodeA (leaf : Bool) (sv : Value) : Array Value := #[.bool leaf, sv]
theorem infoNd (leaf : Bool) (sv : Value) : (Tryz.prog.info? 108).map (·.size) = some (nodeA leaf sv).size := by
  have : (Tryz.prog.info? 108).map (·.size) = some 2 := by kernel_rfl
  exact this

set_option maxRecDepth 100000 in
set_option maxHeartbeats 1000000 in
theorem rowSize_calls (w : World) (leaf : Bool) (sv : Value) (r : Rw) (hk : r.key.length ≤ 1000000) (hv : r.val.length ≤ 1000000) :
    Calls Tryz.prog 148 #[.agg (nodeA leaf sv), .agg (rowA r)] w (Quiet w (.int .i64 (rowSz leaf r))) := by
  obtain ⟨k, hkk⟩ : ∃ k, k = r.key.length := ⟨_, rfl⟩
  obtain ⟨v, hvv⟩ : ∃ v, v = r.val.length := ⟨_, rfl⟩
  have hks : ((bs r.key).size : Int) = k := by rw [bs_size, hkk]
  have hvs : ((bs r.val).size : Int) = v := by rw [bs_size, hvv]
  have hk9 : (k : Int) ≤ 1000000 := by omega
  have hv9 : (v : Int) ≤ 1000000 := by omega
  have hk0 : (0 : Int) ≤ k := by omega
  have hv0 : (0 : Int) ≤ v := by omega
  have HRS : Hid (rowSz leaf r = if leaf = true then 2 + k + v else 5 + k) := Lib.hid (by rw [rowSz, hkk, hvv])
  clear hk hv hkk hvv
  go_enter Tryz.func148, Tryz.ntmps148
  go_wp2_with (first
    | ((with_reducible refine gd_box 108 ?_); refine wl_box_agg rfl _ _ rfl (nodeA leaf sv) rfl ?_; intro bn w1 hbn HBN HKN)
    | ((with_reducible refine gd_box 70 ?_); refine wl_box_agg rfl _ _ rfl (rowA r) rfl ?_; intro br w2 hbr HBR HKR; have HBN2 := (Keeps.blk HKR HBN id); have c0 : w2.cell? ⟨bn, 0, none⟩ = some (.bool leaf) := (by rw [cell_of_block HBN2]; rfl); have r0 : w2.cell? ⟨br, 0, none⟩ = some (.string (bs r.key)) := (by rw [cell_of_block HBR]; rfl); have r1 : w2.cell? ⟨br, 1, none⟩ = some (.string (bs r.val)) := (by rw [cell_of_block HBR]; rfl))
    | fail)
  all_goals
    rename_i hleaf
    go_ret
    refine ⟨?_, HKN.trans HKR⟩
    rw [HRS.out, hleaf]
    simp
set_option maxRecDepth 100000 in
set_option maxHeartbeats 1000000 in
theorem good_calls (w : World) (leaf : Bool) (sv : Value) (r : Rw) (hk : r.key.length ≤ 1000000) (hv : r.val.length ≤ 1000000) :
    Calls Tryz.prog 147 #[.agg (nodeA leaf sv), .agg (rowA r)] w (Quiet w (.bool (goodN leaf r))) := by
  obtain ⟨k, hkk⟩ : ∃ k, k = r.key.length := ⟨_, rfl⟩
  obtain ⟨v, hvv⟩ : ∃ v, v = r.val.length := ⟨_, rfl⟩
  have hks : ((bs r.key).size : Int) = k := by rw [bs_size, hkk]
  have hvs : ((bs r.val).size : Int) = v := by rw [bs_size, hvv]
  have hk9 : (k : Int) ≤ 1000000 := by omega
  have hv9 : (v : Int) ≤ 1000000 := by omega
  have hk0 : (0 : Int) ≤ k := by omega
  have hv0 : (0 : Int) ≤ v := by omega
  clear hk hv
  go_enter Tryz.func147, Tryz.ntmps147
  go_wp2_with (first
    | ((with_reducible refine gd_box 108 ?_); refine wl_box_agg rfl _ _ rfl (nodeA leaf sv) rfl ?_; intro bn w1 hbn HBN HKN)
    | ((with_reducible refine gd_box 70 ?_); refine wl_box_agg rfl _ _ rfl (rowA r) rfl ?_; intro br w2 hbr HBR HKR; have HBN2 := (Keeps.blk HKR HBN id); have c0 : w2.cell? ⟨bn, 0, none⟩ = some (.bool leaf) := (by rw [cell_of_block HBN2]; rfl); have r0 : w2.cell? ⟨br, 0, none⟩ = some (.string (bs r.key)) := (by rw [cell_of_block HBR]; rfl); have r1 : w2.cell? ⟨br, 1, none⟩ = some (.string (bs r.val)) := (by rw [cell_of_block HBR]; rfl); have r2 : w2.cell? ⟨br, 2, none⟩ = some (.int .i64 r.page) := (by rw [cell_of_block HBR]; rfl))
    | fail)
  all_goals
    go_ret
    refine ⟨?_, HKN.trans HKR⟩
    clear HBN HBR HBN2 c0 r0 r1 r2 HKN HKR hbn hbr
    simp_all [goodN, bs_toList]
    all_goals (first | done | omega | (rw [Bool.eq_iff_iff]; simp; omega))
end Go.Proofs.YtblpkifkaoaicaaGreat

namespace Go.Proofs.YtblpkifkaoaicaaGreat
open Go Go.RowKit Go.Maps Wb

def sizeTo (leaf : Bool) (l : List Rw) (q : Nat) : Nat := 3 + ((l.take q).map (rowSz leaf)).sum
theorem sizeTo_zero (leaf : Bool) (l : List Rw) : sizeTo leaf l 0 = 3 := by simp [sizeTo]
theorem sizeTo_succ {leaf : Bool} {l : List Rw} {q : Nat} {r : Rw} (h : l[q]? = some r) : sizeTo leaf l (q + 1) = sizeTo leaf l q + rowSz leaf r := by
  unfold sizeTo
  rw [List.take_add_one, h]
  simp
  omega
theorem sizeTo_all (leaf : Bool) (l : List Rw) : sizeTo leaf l l.length = sizeN ⟨leaf, l⟩ := by simp [sizeTo, sizeN]
/-- Rows none of whose texts is long. -/
def Shorts (l : List Rw) : Prop := l.length ≤ 1000000 ∧ ∀ r ∈ l, r.key.length ≤ 1000 ∧ r.val.length ≤ 1000
theorem rowSz_le {leaf : Bool} {r : Rw} (h : r.key.length ≤ 1000 ∧ r.val.length ≤ 1000) : rowSz leaf r ≤ 2002 := by
  unfold rowSz
  split <;> omega
theorem sizeTo_le {leaf : Bool} {l : List Rw} (h : Shorts l) : ∀ q, q ≤ l.length → sizeTo leaf l q ≤ 3 + 2002 * q
  | 0, _ => by rw [sizeTo_zero]; omega
  | q + 1, hq => by
    obtain ⟨r, hr⟩ : ∃ r, l[q]? = some r := ⟨_, List.getElem?_eq_getElem (by omega)⟩
    rw [sizeTo_succ hr]
    have := sizeTo_le (leaf := leaf) h q (by omega)
    have := rowSz_le (leaf := leaf) (h.2 r (List.mem_of_getElem? hr))
    omega
set_option maxRecDepth 100000 in
set_option maxHeartbeats 2000000 in
theorem size_calls (w : World) (leaf : Bool) (sv : Value) (l : List Rw) (hs : isRdA w 3 sv (rowsA l)) (hl : Shorts l) :
    Calls Tryz.prog 130 #[.agg (nodeA leaf sv)] w (Quiet w (.int .i64 (sizeN ⟨leaf, l⟩))) := by
  obtain ⟨ad, cap, rfl, hcap, hrd⟩ := hs
  rw [rowsA_len] at hcap ⊢
  have HRD := Lib.hid hrd
  have HL := Lib.hid hl
  have hli : (l.length : Int) ≤ 1000000 := by have := hl.1; omega
  have HALL := Lib.hid (sizeTo_all leaf l)
  obtain ⟨n, hn⟩ : ∃ n, n = l.length := ⟨_, rfl⟩
  have HN := Lib.hid hn
  rw [← hn] at hli hcap HALL ⊢
  clear hrd hl hn
  go_enter Tryz.func130, Tryz.ntmps130
  go_wp2_with (first
    | ((with_reducible refine gd_box 108 ?_); refine wl_box_agg rfl _ _ rfl (nodeA leaf (.slice ad n cap)) rfl ?_; intro bn w1 hbn HBN HKN; have c0 : w1.cell? ⟨bn, 0, none⟩ = some (.bool leaf) := (by rw [cell_of_block HBN]; rfl); have c1 : w1.cell? ⟨bn, 1, none⟩ = some (.slice ad n cap) := (by rw [cell_of_block HBN]; rfl))
    | fail)
  go_loopw [3, 9] (fun s i wr => ∃ q : Nat, q ≤ n ∧ i = .int .i64 q ∧ s = .int .i64 (sizeTo leaf l q : Nat) ∧ Hid (Keeps w1 wr (fun _ => False))) (fun _ i _ => n - (intOf i).toNat)
  case atStart => exact ⟨0, Nat.zero_le _, rfl, by rw [sizeTo_zero]; rfl, Lib.hid (Keeps.refl _ _)⟩
  case round =>
    obtain ⟨q, hq, rfl, rfl, hrel⟩ := hrel
    have hq0 : (0 : Int) ≤ q := by omega
    have hqi : (q : Int) ≤ 1000000 := by omega
    obtain ⟨sz, hsz⟩ : ∃ sz, sz = sizeTo leaf l q := ⟨_, rfl⟩
    have HSZ := Lib.hid hsz
    have hszb : sz ≤ 3 + 2002 * q := by rw [hsz]; exact sizeTo_le HL.out q (by have := HN.out; omega)
    have hszi : (sz : Int) ≤ 3000000000 := by omega
    have hsz0 : (0 : Int) ≤ sz := by omega
    rw [← hsz]
    clear hsz
    by_cases hlt : q < n
    · as_aux_lemma =>
      have hlb : decide ((q : Int) < (n : Int)) = true := by simp; omega
      have hqn : (q : Int) < n := by omega
      obtain ⟨r, hr⟩ : ∃ r, l[q]? = some r := ⟨_, List.getElem?_eq_getElem (by have := HN.out; omega)⟩
      obtain ⟨g, o, rfl, _, hrg⟩ := HRD.out q _ (rowsA_at hr)
      have HR := Lib.hid hr
      have HRG := Lib.hid (Keeps.rangeK (HKN.trans hrel.out) hrg)
      have hsr := HL.out.2 r (List.mem_of_getElem? hr)
      have hrs := rowSz_le (leaf := leaf) hsr
      have hrsi : (rowSz leaf r : Int) ≤ 2002 := by omega
      have hrs0 : (0 : Int) ≤ rowSz leaf r := by omega
      have HLT := Lib.hid (Nat.succ_le_of_lt hlt)
      clear hr hlt hrg
      go_wp2_with (first
        | ((with_reducible refine gd_load 70 ?_); refine wl_load_rd rfl _ _ rfl g (o + q * 3) rfl (rowA r) HRG.out _ Tryz.underlying70 rfl (infoRw _) ?_)
        | ((with_reducible refine gd_alloc 70 ?_); refine wl_alloc_agg rfl _ rfl _ zeroRw ?_; intro b5 w5 hb5 HB5 HK5)
        | ((with_reducible refine gd_store 70 ?_); refine wl_store_agg rfl _ _ _ rfl b5 _ rfl _ _ HB5 (rowA r) rfl (rowA r) (store_rw _ _) (le_rw _ _) (infoRw _) (rowA_one _) ?_; intro w6 HB6 HK6; have HK56 := keeps_new HK5 HK6 hb5; have HBN6 := Keeps.blk HK56 (Keeps.blk hrel.out HBN id) id)
        | ((with_reducible refine gd_load 70 ?_); refine wl_load_agg rfl _ _ rfl b5 0 rfl _ _ _ HB6 (rowA r) (extract_all _) _ Tryz.underlying70 rfl (infoRw _) ?_)
        | ((with_reducible refine gd_load 108 ?_); refine wl_load_agg rfl _ _ rfl bn 0 rfl _ _ _ HBN6 (nodeA leaf (.slice (some ⟨g, o, none⟩) n cap)) (extract_all _) _ Tryz.underlying108 rfl (infoNd _ _) ?_)
        | fail)
      refine (rowSize_calls _ leaf _ r (by omega) (by omega)).mono ?_
      rintro e w7 ⟨rfl, hk7⟩
      go_wp2
      go_roundw
      case rel => exact ⟨q + 1, HLT.out, by go_num, by rw [sizeTo_succ HR.out, ← HSZ.out]; go_num, Lib.hid (hrel.out.trans (HK56.trans hk7))⟩
      case measure => have := HLT.out; simp [intOf]; omega
    · as_aux_lemma =>
      have hqq : q = n := by omega
      subst hqq
      have HQ := HSZ.out
      rw [HALL.out] at HQ
      subst HQ
      go_wp2
      go_ret
      exact ⟨rfl, HKN.trans hrel.out⟩
end Go.Proofs.YtblpkifkaoaicaaGreat
