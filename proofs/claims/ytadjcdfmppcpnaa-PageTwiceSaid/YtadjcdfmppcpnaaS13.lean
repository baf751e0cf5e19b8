import Derived.Test.YtadjcdfmppcpnaaS12
import Derived.Test.YtadjcdfmppcpnaaReg
import Derived.Test.YtadjcdfmppcpnaaRegB
import Derived.Laws.Externs
import Derived.Shelf.SlMaps.Clone
/-! Package sect: Copy. -/
namespace Go.Proofs.Ytadjcdfmppcpnaa
open Go Go.RowKit Go.Maps Wb

theorem wp_store_one {P : Program} {w : World} {o : Oper} {a : Act} {Q : Exit → Act → World → Prop} {K : Act → World → Prop} (ty : TypeId) (x y : Operand) (hop : o.op = .store ty x y) (g off : Nat) (hx : a.eval x = .pointer (some ⟨g, off, none⟩)) (C : Array Value) (t : TypeId) (hb : w.heap[g]? = some (.cells C t (0, 0)))
    (v : Value) (hy : a.eval y = v) (hv : v.cells = #[v]) (h1 : v.oneCell' = true) (hi : (P.info? ty).map (·.size) = some 1) (hle : off < C.size)
    (hK : ∀ w', w'.heap[g]? = some (.cells (C.setIfInBounds off v) t (0, 0)) → Keeps w w' (· = g) → K (a.put o.dst undef) w') : o.wp P a w K Q := by
  have hs := run_storeCells_at (P := P) g off t [v] 0 C w hb (by simp; omega) (fun u hu => by rw [List.mem_singleton.1 hu]; exact h1)
  have hC : (C.toList.take off ++ [v] ++ C.toList.drop (off + [v].length)).toArray = C.setIfInBounds off v := by
    apply Array.toList_inj.1
    rw [Array.toList_setIfInBounds, List.set_eq_take_append_cons_drop, if_pos (by simpa using hle)]
    simp
  have hw : (storeVar ty ⟨g, off, none⟩ v).run P w = .ok () (w.setRow g (C.setIfInBounds off v)) := by
    cases hq : P.info? ty with
    | none => simp [hq] at hi
    | some i =>
      have hsz : i.size = 1 := by simpa [hq] using hi
      simp only [Nat.add_zero, hC] at hs
      have hso : (Go.sizeOf ty).run P w = .ok 1 w := by simp [Go.sizeOf, typeInfo, hq, hsz]
      have hvs : v.cells.size = 1 := by rw [hv]; rfl
      simp only [storeVar, Sem.run_bind, hso, Result.andThen_ok, hv, ne_eq]
      simpa using hs
  unfold Oper.wp execOp
  simp only [hop, hx, hy, Instr.storeAt, Instr.sureAddr, Sem.run_bind, Sem.run_pure, Result.andThen_ok, hw]
  exact hK _ (setRow_heap w g C _ t (0, 0) hb) ((Keeps.refl w (· = g)).setRow (fun _ => rfl) _)

set_option maxRecDepth 100000 in
set_option maxHeartbeats 2000000 in
theorem cloneL_calls (w : World) (b : Nat) (es : Array MapEntry) (clock : Nat) (hb : w.heap[b]? = some (.map es clock)) :
    Calls Try.prog 84 #[.map (some b)] w fun e w' => e = .returned (.map (some w.heap.size)) ∧ w' = w.alloc (.map es clock) := by
  have hq := fun w => run_eql_map_nil_sl (P := Try.prog) w 110 _ _ (some b) Try.underlying110
  go_enter Try.func84, Try.ntmps84
  go_wp2
  rw [run_callFunc_extern Try.func104 (by kernel_rfl) (by kernel_rfl) (by kernel_rfl) (e := Extern.MapsClone.clone) (by kernel_rfl), run_maps_clone_sl w 110 hb]
  simp only [Result.andThen]
  rw [Oper.upon_value]
  go_wp2
  rw [run_typeAssert_map_sl _ 110 _ _ _ _ Try.underlying110]
  simp only [Result.andThen]
  rw [Oper.upon_value]
  go_wp2
  go_ret
  exact ⟨rfl, rfl⟩
set_option maxRecDepth 100000 in
set_option maxHeartbeats 2000000 in
theorem cloneC_calls (w : World) (b : Nat) (es : Array MapEntry) (clock : Nat) (hb : w.heap[b]? = some (.map es clock)) :
    Calls Try.prog 85 #[.map (some b)] w fun e w' => e = .returned (.map (some w.heap.size)) ∧ w' = w.alloc (.map es clock) := by
  have hq := fun w => run_eql_map_nil_sl (P := Try.prog) w 111 _ _ (some b) Try.underlying111
  go_enter Try.func85, Try.ntmps85
  go_wp2
  rw [run_callFunc_extern Try.func104 (by kernel_rfl) (by kernel_rfl) (by kernel_rfl) (e := Extern.MapsClone.clone) (by kernel_rfl), run_maps_clone_sl w 111 hb]
  simp only [Result.andThen]
  rw [Oper.upon_value]
  go_wp2
  rw [run_typeAssert_map_sl _ 111 _ _ _ _ Try.underlying111]
  simp only [Result.andThen]
  rw [Oper.upon_value]
  go_wp2
  go_ret
  exact ⟨rfl, rfl⟩
/-- A copy of a map's block is a map that holds the same. -/
theorem isMap.copied {P : Program} {k : TypeId} {w w' : World} {b b' : Nat} {f : Value → Option Value} (h : isMap P k w b f) {es : Array MapEntry} {clock : Nat} (hb : w.heap[b]? = some (.map es clock)) (hb' : w'.heap[b']? = some (.map es clock)) : isMap P k w' b' f := by
  obtain ⟨es2, c2, h1, h2⟩ := h
  rw [hb] at h1
  cases h1
  exact ⟨es, clock, hb', h2⟩
def CopyPost (w : World) (D : Dv) (e : Ending) (w' : World) : Prop := ∃ h' : DH, e = .returned (.pointer (some ⟨h'.p, 0, none⟩)) ∧ isDev w' h' D ∧ (∀ i, h'.S i → w.heap.size ≤ i) ∧ Keeps w w' (fun _ => False)
theorem zeroDev (w : World) : (zeroValue 113).run Try.prog w = .ok (.agg #[.int .i64 0, .int .i64 0, .int .i64 0, .map none, .map none]) w := by kernel_rfl
theorem infoDev : (Try.prog.info? 113).map (·.size) = some 5 := by kernel_rfl
theorem infoDev2 (D : Dv) (h : DH) : (Try.prog.info? 113).map (·.size) = some (fldA D h).size := infoDev
theorem fldA_one (D : Dv) (h : DH) : (fldA D h).all (·.oneCell') = true := by simp [fldA, Value.oneCell']
theorem fldA_le (D : Dv) (h : DH) : 0 + (fldA D h).size ≤ (#[Value.int .i64 0, .int .i64 0, .int .i64 0, .map none, .map none] : Array Value).size := by simp [fldA]
theorem fldA_store (D : Dv) (h : DH) : Wb.splice (#[Value.int .i64 0, .int .i64 0, .int .i64 0, .map none, .map none] : Array Value) 0 (fldA D h) = fldA D h := store_whole _ _ rfl
theorem fldA_whole (D : Dv) (h : DH) : (fldA D h).extract 0 (0 + (fldA D h).size) = fldA D h := rfl
theorem infoMapL : (Try.prog.info? 110).map (·.size) = some 1 := by kernel_rfl
theorem infoMapC : (Try.prog.info? 111).map (·.size) = some 1 := by kernel_rfl

set_option maxRecDepth 100000 in
set_option maxHeartbeats 4000000 in
theorem copy_calls (w : World) (h : DH) (D : Dv) (hd : isDev w h D) : Calls Try.prog 43 #[.pointer (some ⟨h.p, 0, none⟩)] w (CopyPost w D) := by
  have hfd := hd.fld
  have HD := Lib.hid hd
  clear hd
  go_enter Try.func43, Try.ntmps43
  go_wp2_with (first
    | ((with_reducible refine gd_load 113 ?_); refine wl_load_agg rfl _ _ rfl h.p 0 rfl _ _ _ hfd (fldA D h) (fldA_whole D h) _ Try.underlying113 rfl (infoDev2 D h) ?_)
    | ((with_reducible refine gd_alloc 113 ?_); refine wl_alloc_agg rfl _ rfl _ zeroDev ?_; intro bn w1 hbn HB1 HK1)
    | ((with_reducible refine gd_store 113 ?_); refine wl_store_agg rfl _ _ _ rfl bn 0 rfl _ _ HB1 (fldA D h) rfl (fldA D h) (fldA_store D h) (fldA_le D h) (infoDev2 D h) (fldA_one D h) ?_; intro w2 HB2 HK2)
    | fail)
  have hk2 : Keeps w w2 (fun _ => False) := HK1.then HK2 (fun i hi e => absurd hbn (by rw [← show i = bn from e]; exact Nat.not_le.2 hi))
  have hd2 := HD.out.new hk2
  have hS : (fun (w' : World) => w'.cell? ⟨h.p, 3, none⟩ = some (.map (some h.bl)) ∧ w'.cell? ⟨h.p, 4, none⟩ = some (.map (some h.bc))) w2.drew := ⟨hd2.c3, hd2.c4⟩
  obtain ⟨es, cl, hbl, _⟩ := id hd2.long
  obtain ⟨es2, cl2, hbc, _⟩ := id hd2.cells
  refine wp_region_held_drew (S := (fun (w' : World) => w'.cell? ⟨h.p, 3, none⟩ = some (.map (some h.bl)) ∧ w'.cell? ⟨h.p, 4, none⟩ = some (.map (some h.bc)))) (by kernel_rfl) hS (fun _ => ?_)
  first
    | (refine rg_skip 0 rfl (by kernel_rfl) (by kernel_rfl) (by kernel_rfl) (fun _ _ _ h => h) hS ?_ ?_; rfl)
    | (refine rg_take 0 (v := ?_) rfl (by kernel_rfl) (by kernel_rfl) (by kernel_rfl) (fun _ _ _ h => h) hS ?_ ?_ ?_; rotate_left; rfl; focus (intro w hSw; (try dsimp only at hSw); go_simp; all_goals (with_reducible rfl)))
  simp only [Act.put, List.setIfInBounds_toArray, List.set_cons_succ, List.set_cons_zero]
  first
    | (refine rg_skip 1 rfl (by kernel_rfl) (by kernel_rfl) (by kernel_rfl) (fun _ _ _ h => h) hS ?_ ?_; rfl)
    | (refine rg_take 1 (v := ?_) rfl (by kernel_rfl) (by kernel_rfl) (by kernel_rfl) (fun _ _ _ h => h) hS ?_ ?_ ?_; rotate_left; rfl; focus (intro w hSw; (try dsimp only at hSw); go_simp; all_goals (with_reducible rfl)))
  simp only [Act.put, List.setIfInBounds_toArray, List.set_cons_succ, List.set_cons_zero]
  first
    | (refine rg_skip 2 rfl (by kernel_rfl) (by kernel_rfl) (by kernel_rfl) (fun _ _ _ h => h) hS ?_ ?_; rfl)
    | (refine rg_take 2 (v := ?_) rfl (by kernel_rfl) (by kernel_rfl) (by kernel_rfl) (fun _ _ _ h => h) hS ?_ ?_ ?_; rotate_left; rfl; focus (intro w hSw; (try dsimp only at hSw); go_simp; all_goals (with_reducible rfl)))
  simp only [Act.put, List.setIfInBounds_toArray, List.set_cons_succ, List.set_cons_zero]
  first
    | (refine rg_skip 3 rfl (by kernel_rfl) (by kernel_rfl) (by kernel_rfl) (fun _ _ _ h => h) hS ?_ ?_; rfl)
    | (refine rg_take 3 (v := ?_) rfl (by kernel_rfl) (by kernel_rfl) (by kernel_rfl) (fun _ _ _ h => h) hS ?_ ?_ ?_; rotate_left; rfl; focus (intro w hSw; (try dsimp only at hSw); go_simp; all_goals (with_reducible rfl)))
  simp only [Act.put, List.setIfInBounds_toArray, List.set_cons_succ, List.set_cons_zero]
  first
    | (refine rg_skip 5 rfl (by kernel_rfl) (by kernel_rfl) (by kernel_rfl) (fun _ _ _ h => h) hS ?_ ?_; rfl)
    | (refine rg_take 5 (v := ?_) rfl (by kernel_rfl) (by kernel_rfl) (by kernel_rfl) (fun _ _ _ h => h) hS ?_ ?_ ?_; rotate_left; rfl; focus (intro w hSw; (try dsimp only at hSw); go_simp; all_goals (with_reducible rfl)))
  simp only [Act.put, List.setIfInBounds_toArray, List.set_cons_succ, List.set_cons_zero]
  first
    | (refine rg_skip 6 rfl (by kernel_rfl) (by kernel_rfl) (by kernel_rfl) (fun _ _ _ h => h) hS ?_ ?_; rfl)
    | (refine rg_take 6 (v := ?_) rfl (by kernel_rfl) (by kernel_rfl) (by kernel_rfl) (fun _ _ _ h => h) hS ?_ ?_ ?_; rotate_left; rfl; focus (intro w hSw; (try dsimp only at hSw); go_simp; all_goals (with_reducible rfl)))
  simp only [Act.put, List.setIfInBounds_toArray, List.set_cons_succ, List.set_cons_zero]
  first
    | (refine rg_skip 7 rfl (by kernel_rfl) (by kernel_rfl) (by kernel_rfl) (fun _ _ _ h => h) hS ?_ ?_; rfl)
    | (refine rg_take 7 (v := ?_) rfl (by kernel_rfl) (by kernel_rfl) (by kernel_rfl) (fun _ _ _ h => h) hS ?_ ?_ ?_; rotate_left; rfl; focus (intro w hSw; (try dsimp only at hSw); go_simp; all_goals (with_reducible rfl)))
  simp only [Act.put, List.setIfInBounds_toArray, List.set_cons_succ, List.set_cons_zero]
  first
    | (refine rg_skip 8 rfl (by kernel_rfl) (by kernel_rfl) (by kernel_rfl) (fun _ _ _ h => h) hS ?_ ?_; rfl)
    | (refine rg_take 8 (v := ?_) rfl (by kernel_rfl) (by kernel_rfl) (by kernel_rfl) (fun _ _ _ h => h) hS ?_ ?_ ?_; rotate_left; rfl; focus (intro w hSw; (try dsimp only at hSw); go_simp; all_goals (with_reducible rfl)))
  simp only [Act.put, List.setIfInBounds_toArray, List.set_cons_succ, List.set_cons_zero]
  refine rg_one 4 rfl (by kernel_rfl) (by rfl) ?_
  refine rg_call 84 _ _ rfl _ Try.func84 (by kernel_rfl) (by kernel_rfl) [.map (some h.bl)] rfl (cloneL_calls w2.drew h.bl es cl hbl) ?_
  rintro e w3 ⟨rfl, hw3⟩
  have HB3 : w3.heap[w2.drew.heap.size]? = some (.map es cl) := by rw [hw3]; exact (Go.MapKept.heap_alloc w2.drew _).1
  have hk3 : Keeps w2.drew w3 (fun _ => False) := by rw [hw3]; exact (Keeps.refl w2.drew _).alloc _
  have hs3 : w3.heap.size = w2.drew.heap.size + 1 := by rw [hw3]; simp
  clear hw3
  obtain ⟨g1, hg1⟩ : ∃ g1, g1 = w2.drew.heap.size := ⟨_, rfl⟩
  rw [← hg1] at HB3 hs3 ⊢
  have hS3 : (fun (w' : World) => w'.cell? ⟨h.p, 3, none⟩ = some (.map (some h.bl)) ∧ w'.cell? ⟨h.p, 4, none⟩ = some (.map (some h.bc))) w3 := ⟨Keeps.cellK hk3 hS.1, Keeps.cellK hk3 hS.2⟩
  refine ⟨_, rfl, hS3, ?_⟩
  simp only [Act.put, List.setIfInBounds_toArray, List.set_cons_succ, List.set_cons_zero]
  refine rg_one 9 rfl (by kernel_rfl) (by rfl) ?_
  refine rg_call 85 _ _ rfl _ Try.func85 (by kernel_rfl) (by kernel_rfl) [.map (some h.bc)] rfl (cloneC_calls w3 h.bc es2 cl2 (hk3.blk hbc id)) ?_
  rintro e w4 ⟨rfl, hw4⟩
  have HB4 : w4.heap[w3.heap.size]? = some (.map es2 cl2) := by rw [hw4]; exact (Go.MapKept.heap_alloc w3 _).1
  have hk4 : Keeps w3 w4 (fun _ => False) := by rw [hw4]; exact (Keeps.refl w3 _).alloc _
  clear hw4
  obtain ⟨g2, hg2⟩ : ∃ g2, g2 = w3.heap.size := ⟨_, rfl⟩
  rw [← hg2] at HB4 ⊢
  have hS4 : (fun (w' : World) => w'.cell? ⟨h.p, 3, none⟩ = some (.map (some h.bl)) ∧ w'.cell? ⟨h.p, 4, none⟩ = some (.map (some h.bc))) w4 := ⟨Keeps.cellK hk4 hS3.1, Keeps.cellK hk4 hS3.2⟩
  refine ⟨_, rfl, hS4, ?_⟩
  simp only [Act.put, List.setIfInBounds_toArray, List.set_cons_succ, List.set_cons_zero]
  have HBN4 : w4.heap[bn]? = some (.cells (fldA D h) 113 (0, 0)) := hk4.blk (hk3.blk HB2 id) id
  have hnp : ¬ h.p = bn := fun e => absurd (lt_of_blk HD.out.fld) (by rw [e]; exact Nat.not_lt.2 hbn)
  first
    | (refine rg_skip 10 rfl (by kernel_rfl) (by kernel_rfl) (by kernel_rfl) (fun _ _ _ h => h) hS4 ?_ ?_; rfl)
    | (refine rg_take 10 (v := ?_) rfl (by kernel_rfl) (by kernel_rfl) (by kernel_rfl) (fun _ _ _ h => h) hS4 ?_ ?_ ?_; rotate_left; rfl; focus (intro w hSw; (try dsimp only at hSw); go_simp; all_goals (with_reducible rfl)))
  simp only [Act.put, List.setIfInBounds_toArray, List.set_cons_succ, List.set_cons_zero]
  refine rg_one 11 rfl (by kernel_rfl) (by rfl) ?_
  refine wp_store_one 110 _ _ rfl bn 3 rfl _ _ HBN4 (.map (some g1)) rfl rfl rfl infoMapL (by simp [fldA]) ?_
  intro w5 HB5 hk5
  have hS5 : (fun (w' : World) => w'.cell? ⟨h.p, 3, none⟩ = some (.map (some h.bl)) ∧ w'.cell? ⟨h.p, 4, none⟩ = some (.map (some h.bc))) w5 := ⟨(hk5.cell (p := ⟨h.p, 3, none⟩) (cell_ltK hS4.1) hnp).trans hS4.1, (hk5.cell (p := ⟨h.p, 4, none⟩) (cell_ltK hS4.2) hnp).trans hS4.2⟩
  refine ⟨hS5, ?_⟩
  simp only [Act.put, List.setIfInBounds_toArray, List.set_cons_succ, List.set_cons_zero]
  first
    | (refine rg_skip 12 rfl (by kernel_rfl) (by kernel_rfl) (by kernel_rfl) (fun _ _ _ h => h) hS5 ?_ ?_; rfl)
    | (refine rg_take 12 (v := ?_) rfl (by kernel_rfl) (by kernel_rfl) (by kernel_rfl) (fun _ _ _ h => h) hS5 ?_ ?_ ?_; rotate_left; rfl; focus (intro w hSw; (try dsimp only at hSw); go_simp; all_goals (with_reducible rfl)))
  simp only [Act.put, List.setIfInBounds_toArray, List.set_cons_succ, List.set_cons_zero]
  refine rg_one 13 rfl (by kernel_rfl) (by rfl) ?_
  refine wp_store_one 111 _ _ rfl bn 4 rfl _ _ HB5 (.map (some g2)) rfl rfl rfl infoMapC (by simp [fldA]) ?_
  intro w6 HB6 hk6
  have hS6 : (fun (w' : World) => w'.cell? ⟨h.p, 3, none⟩ = some (.map (some h.bl)) ∧ w'.cell? ⟨h.p, 4, none⟩ = some (.map (some h.bc))) w6 := ⟨(hk6.cell (p := ⟨h.p, 3, none⟩) (cell_ltK hS5.1) hnp).trans hS5.1, (hk6.cell (p := ⟨h.p, 4, none⟩) (cell_ltK hS5.2) hnp).trans hS5.2⟩
  refine ⟨hS6, ?_⟩
  simp only [Act.put, List.setIfInBounds_toArray, List.set_cons_succ, List.set_cons_zero]
  refine wpAnyH_done (by kernel_rfl) ?_ _
  have hsz2 : w.heap.size ≤ w2.heap.size := hk2.size
  have hbn2 : bn < w2.heap.size := lt_of_blk HB2
  have hg1' : g1 = w2.heap.size := hg1
  have hg2' : g2 = g1 + 1 := by rw [hg2, hs3]
  have hk24 : Keeps w2 w4 (fun _ => False) := ((Keeps.refl w2 _).drew.trans hk3).trans hk4
  have hk26 : Keeps w4 w6 (· = bn) := hk5.trans hk6
  have hbn' : w.heap.size ≤ bn := hbn
  go_wp2
  go_ret
  refine ⟨⟨bn, g1, g2⟩, rfl, ⟨?_, ?_, ?_, HD.out.wf, ?_⟩, ?_, ?_⟩
  · exact HB6
  · exact isMap.copied hd2.long hbl (hk26.blk (hk4.blk HB3 id) (by show ¬ g1 = bn; omega))
  · exact isMap.copied hd2.cells hbc (hk26.blk HB4 (by show ¬ g2 = bn; omega))
  · show g1 ≠ g2; omega
  · rintro i (h1 | h1 | h1)
    · rw [h1]; exact hbn'
    · rw [h1]; show w.heap.size ≤ g1; omega
    · rw [h1]; show w.heap.size ≤ g2; omega
  · exact (hk2.trans hk24).then hk26 (fun i hi e => absurd hbn' (by rw [← show i = bn from e]; exact Nat.not_le.2 hi))
end Go.Proofs.Ytadjcdfmppcpnaa
