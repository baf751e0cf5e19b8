import Derived.Test.YtblpkifkaoaicaaGreatYK2
import Derived.Test.YtblpkifkaoaicaaGreatGd
import Derived.Test.YtblpkifkaoaicaaGreatSlA
/-! Package node: a row, a node in memory; rowSize, good. -/
namespace Wb
open Go Go.RowKit Go.Maps Go.MapKept Go.ChangeMaps
variable {P : Program} {w w' : World} {ops : Array Oper} {rest : List Oper} {o : Oper} {a : Act} {Q : Exit → Act → World → Prop}
/-- A struct is loaded whose cells stand in a range that is read. -/
theorem wl_load_rd (hg : o.guard = none) (ty : TypeId) (x : Operand) (hop : o.op = .load ty x) (g off : Nat) (hx : a.eval x = .pointer (some ⟨g, off, none⟩)) (V : Array Value) (hb : w.rangeAt g off V.toList) (d : TypeDesc) (hu : P.underlying ty = some d) (hd : d.isRow = true) (hi : (P.info? ty).map (·.size) = some V.size)
    (hK : wpList P ops Q rest (a.put o.dst (.agg V)) w) : wpList P ops Q (o :: rest) a w :=
  wpList_load_mid hg ty x hop g off hx V.toList d (fun _ _ hj => hb _ _ hj) hu hd (by simpa using hi) (by simpa using hK)
end Wb
namespace Go.Proofs.YtblpkifkaoaicaaGreat
open Go Go.RowKit Go.Maps Wb

theorem keeps_new {a w w' : World} {b : Nat} (h : Keeps a w (fun _ => False)) (k : Keeps w w' (· = b)) (hb : a.heap.size ≤ b) : Keeps a w' (fun _ => False) :=
  h.then k fun i hi e => absurd hi (by rw [e]; exact Nat.not_lt.2 hb)
def rowC (k v : Value) (p : Int) : Array Value := #[k, v, .int .i64 p]
def rowA (r : Rw) : Array Value := rowC (.string (bs r.key)) (.string (bs r.val)) r.page
def rowsA (l : List Rw) : List (Array Value) := l.map rowA
theorem rowsA_len (l : List Rw) : (rowsA l).length = l.length := by simp [rowsA]
theorem rowsA_at {l : List Rw} {j : Nat} {r : Rw} (h : l[j]? = some r) : (rowsA l)[j]? = some (rowA r) := by simp [rowsA, h]
theorem rowsA_app (l m : List Rw) : rowsA (l ++ m) = rowsA l ++ rowsA m := by simp [rowsA]
theorem rowsA_size (l : List Rw) : ∀ r ∈ rowsA l, r.size = 3 := by
  intro r hr
  obtain ⟨x, _, rfl⟩ := List.mem_map.1 hr
  rfl
theorem zeroRw (w : World) : (zeroValue 70).run Tryz.prog w = .ok (.agg (rowA ⟨[], [], 0⟩)) w := by kernel_rfl
theorem infoRw (r : Rw) : (Tryz.prog.info? 70).map (·.size) = some (rowA r).size := by
  have : (Tryz.prog.info? 70).map (·.size) = some 3 := by kernel_rfl
  exact this
theorem rowA_one (r : Rw) : (rowA r).all (·.oneCell') = true := by
  simp [rowA, rowC]
  simp [Value.oneCell']
theorem store_rw (r s : Rw) : Wb.splice (rowA r) 0 (rowA s) = rowA s := store_whole _ _ rfl
theorem le_rw (r s : Rw) : 0 + (rowA r).size ≤ (rowA s).size := by simp [rowA, rowC]
def nodeA (leaf : Bool) (sv : Value) : Array Value := #[.bool leaf, sv]
theorem infoNd (leaf : Bool) (sv : Value) : (Tryz.prog.info? 108).map (·.size) = some (nodeA leaf sv).size := by
  have : (Tryz.prog.info? 108).map (·.size) = some 2 := by kernel_rfl
  exact this

set_option maxRecDepth 100000 in
set_option maxHeartbeats 1000000 in
theorem rowSize_calls (w : World) (leaf : Bool) (sv : Value) (r : Rw) (hk : r.key.length ≤ 1000000) (hv : r.val.length ≤ 1000000) :
    Calls Tryz.prog 148 #[.agg (nodeA leaf sv), .agg (rowA r)] w (Quiet w (.int .i64 (rowSz leaf r))) := by
  obtain ⟨k, hkk⟩ : ∃ k, k = r.key.length := ⟨_, rfl⟩
  obtain ⟨v, hvv⟩ : ∃ v, v = r.val.length := ⟨_, rfl⟩
  have hks : ((bs r.key).size : Int) = k := by rw [bs_size, hkk]
  have hvs : ((bs r.val).size : Int) = v := by rw [bs_size, hvv]
  have hk9 : (k : Int) ≤ 1000000 := by omega
  have hv9 : (v : Int) ≤ 1000000 := by omega
  have hk0 : (0 : Int) ≤ k := by omega
  have hv0 : (0 : Int) ≤ v := by omega
  have HRS : Hid (rowSz leaf r = if leaf = true then 2 + k + v else 5 + k) := Lib.hid (by rw [rowSz, hkk, hvv])
  clear hk hv hkk hvv
  go_enter Tryz.func148, Tryz.ntmps148
  go_wp2_with (first
    | ((with_reducible refine gd_box 108 ?_); refine wl_box_agg rfl _ _ rfl (nodeA leaf sv) rfl ?_; intro bn w1 hbn HBN HKN)
    | ((with_reducible refine gd_box 70 ?_); refine wl_box_agg rfl _ _ rfl (rowA r) rfl ?_; intro br w2 hbr HBR HKR; have HBN2 := (Keeps.blk HKR HBN id); have c0 : w2.cell? ⟨bn, 0, none⟩ = some (.bool leaf) := (by rw [cell_of_block HBN2]; rfl); have r0 : w2.cell? ⟨br, 0, none⟩ = some (.string (bs r.key)) := (by rw [cell_of_block HBR]; rfl); have r1 : w2.cell? ⟨br, 1, none⟩ = some (.string (bs r.val)) := (by rw [cell_of_block HBR]; rfl))
    | fail)
  all_goals
    rename_i hleaf
    go_ret
    refine ⟨?_, HKN.trans HKR⟩
    rw [HRS.out, hleaf]
    simp
set_option maxRecDepth 100000 in
set_option maxHeartbeats 1000000 in
theorem good_calls (w : World) (leaf : Bool) (sv : Value) (r : Rw) (hk : r.key.length ≤ 1000000) (hv : r.val.length ≤ 1000000) :
    Calls Tryz.prog 147 #[.agg (nodeA leaf sv), .agg (rowA r)] w (Quiet w (.bool (goodN leaf r))) := by
  obtain ⟨k, hkk⟩ : ∃ k, k = r.key.length := ⟨_, rfl⟩
  obtain ⟨v, hvv⟩ : ∃ v, v = r.val.length := ⟨_, rfl⟩
  have hks : ((bs r.key).size : Int) = k := by rw [bs_size, hkk]
  have hvs : ((bs r.val).size : Int) = v := by rw [bs_size, hvv]
  have hk9 : (k : Int) ≤ 1000000 := by omega
  have hv9 : (v : Int) ≤ 1000000 := by omega
  have hk0 : (0 : Int) ≤ k := by omega
  have hv0 : (0 : Int) ≤ v := by omega
  clear hk hv
  go_enter Tryz.func147, Tryz.ntmps147
  go_wp2_with (first
    | ((with_reducible refine gd_box 108 ?_); refine wl_box_agg rfl _ _ rfl (nodeA leaf sv) rfl ?_; intro bn w1 hbn HBN HKN)
    | ((with_reducible refine gd_box 70 ?_); refine wl_box_agg rfl _ _ rfl (rowA r) rfl ?_; intro br w2 hbr HBR HKR; have HBN2 := (Keeps.blk HKR HBN id); have c0 : w2.cell? ⟨bn, 0, none⟩ = some (.bool leaf) := (by rw [cell_of_block HBN2]; rfl); have r0 : w2.cell? ⟨br, 0, none⟩ = some (.string (bs r.key)) := (by rw [cell_of_block HBR]; rfl); have r1 : w2.cell? ⟨br, 1, none⟩ = some (.string (bs r.val)) := (by rw [cell_of_block HBR]; rfl); have r2 : w2.cell? ⟨br, 2, none⟩ = some (.int .i64 r.page) := (by rw [cell_of_block HBR]; rfl))
    | fail)
  all_goals
    go_ret
    refine ⟨?_, HKN.trans HKR⟩
    clear HBN HBR HBN2 c0 r0 r1 r2 HKN HKR hbn hbr
    simp_all [goodN, bs_toList]
    all_goals (first | done | omega | (rw [Bool.eq_iff_iff]; simp; omega))
end Go.Proofs.YtblpkifkaoaicaaGreat
