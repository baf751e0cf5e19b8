import Derived.Test.YtblpkifkaoaicaaGreatYS2
/-! Package sect: Write. -/
namespace Go.Proofs.YtblpkifkaoaicaaGreat
open Go Go.RowKit Go.Maps Wb

theorem info28s (s : Sec) : (Tryz.prog.info? 62).map (·.size) = some (secA s).size := by rw [secA_size]; exact info28
theorem info65c (c : Wb.Cell) : (Tryz.prog.info? 130).map (·.size) = some (cellA c).size := by rw [cellA_size]; exact info65
theorem zero65 (w : World) : (zeroValue 130).run Tryz.prog w = .ok (.agg (cellA Wb.Cell.zero)) w := by kernel_rfl
theorem zero28 (w : World) : (zeroValue 62).run Tryz.prog w = .ok (.agg (secA Sec.zero)) w := by kernel_rfl

theorem extract_all (A : Array Value) : A.extract 0 (0 + A.size) = A := by simp

theorem isDev.wrote {w w2 : World} {h : DH} {D : Dv} {n : Nm} {l : List Wb.Cell} {k : Nat} {c : Wb.Cell} (hd : isDev w h D) (hf : fget D.files n = some l) (hk : k < l.length)
    (hm : isMap Tryz.prog 128 w2 h.bc (upd (cellF D.files) (whereV n k) (some (cellV c)))) (hk2 : Keeps w w2 (· = h.bc)) :
    isDev w2 h { D with files := fset D.files n (l.set k c) } := by
  have hu : used (fset D.files n (l.set k c)) = used D.files := by
    have := used_fset hd.wf.sorted n (l.set k c)
    rw [hf] at this
    simp at this
    omega
  refine ⟨?_, ?_, ?_, ⟨hd.wf.most, hd.wf.fuse, hd.wf.fuse', sorted_fset hd.wf.sorted _ _, by rw [hu]; exact hd.wf.used, nm_fset hd.wf.nm hf _⟩, hd.ne⟩
  · have := hk2.blk hd.fld hd.pc
    simpa [fldA, hu] using this
  · rw [longF_fset_same _ _ _ _ hf (by simp)]; exact hd.long.kept hk2 hd.ne
  · have := cellF_fset_one D.files n l k c hf (by omega)
    rw [if_neg (by omega)] at this
    rw [this]; exact hm

set_option maxRecDepth 100000 in
set_option maxHeartbeats 400000 in
theorem write_no (w : World) (h : DH) (D : Dv) (n : Nm) (k : Int) (s : Sec) (hd : isDev w h D) (hn : nmOk n) (ht : D.thr n ≠ 0) :
    Calls Tryz.prog 32 #[.pointer (some ⟨h.p, 0, none⟩), .string (bs n), .int .i64 k, .agg (secA s)] w (DevPost h w (.int .i64 (D.write n k s).2) (D.write n k s).1) := by
  have hr : D.write n k s = (D, D.thr n) := by simp [Dv.write, ht]
  have HR := Lib.hid hr
  have hb1 : (D.thr n == 0) = false := by simp [ht]
  have hb2 : (D.thr n != 0) = true := by simp [ht]
  clear hr ht
  go_enter Tryz.func32, Tryz.ntmps32
  go_wp2_with (first
    | ((with_reducible refine gd_box 62 ?_); refine wl_box_agg rfl _ _ rfl _ rfl ?_; intro b0 w1 hb0 HB0 HK0)
    | (go_at_call 60; refine (there_calls _ h D n (hd.new HK0) hn).mono ?_; rintro e w' ⟨rfl, rfl⟩))
  go_ret
  exact post_of HR.out (hd.new HK0) (HK0.mono fun _ _ => False.elim)

set_option maxRecDepth 100000 in
set_option maxHeartbeats 1000000 in
theorem write_set (w : World) (h : DH) (D : Dv) (n : Nm) (k : Nat) (s : Sec) (l : List Wb.Cell) (c : Wb.Cell) (hd : isDev w h D) (hn : nmOk n) (ht : D.thr n = 0) (hl : fget D.files n = some l) (hk : l[k]? = some c) :
    Calls Tryz.prog 32 #[.pointer (some ⟨h.p, 0, none⟩), .string (bs n), .int .i64 k, .agg (secA s)] w (DevPost h w (.int .i64 (D.write n k s).2) (D.write n k s).1) := by
  have hkl : k < l.length := (List.getElem?_eq_some_iff.1 hk).1
  have hlen : l.length ≤ 100000 := Nat.le_trans (used_le hl) (Nat.le_trans hd.wf.used hd.wf.most)
  have hr : D.write n k s = ({ D with files := fset D.files n (l.set k (c.write s)) }.done, 0) := by
    have hm : l.modify k (fun x => x.write s) = l.set k (c.write s) := by
      apply List.ext_getElem?
      intro i
      rw [List.getElem?_modify, List.getElem?_set]
      by_cases e : k = i
      · subst e; rw [hk]; simp [hkl]
      · simp [e]
    simp only [Dv.write, Dv.len, Dv.cells, hl, ht, Option.getD_some]
    rw [if_neg (by simp), if_neg (by omega), if_neg (by omega), Int.toNat_natCast, hm]
  have HR := Lib.hid hr
  have HT := Lib.hid ht
  have HF : Hid (longF D.files (.string (bs n)) = some (.int .i64 l.length)) := by unfold Hid; rw [longF_at, hl]; rfl
  have HC : Hid (cellF D.files (whereV n k) = some (.agg (cellA c))) := by unfold Hid; rw [cellF_at, hl, Option.bind_some, hk]; rfl
  have HL0 := Lib.hid hl
  have HN := Lib.hid hn
  have hkw : KeyOk Tryz.prog 128 (whereV n k) := keyOkW hn (by unfold kOk; omega)
  have hks : KeyOk Tryz.prog 9 (.string (bs n)) := keyOkS hn
  have HKL := Lib.hid hkl
  have g1 : decide (k < l.length) = true := by simpa using hkl
  have g2 : decide (l.length < k) = false := by simp; omega
  have g3 : ((k : Int) == (l.length : Int)) = false := by simp; omega
  clear hr ht hl hk hn hlen
  go_enter Tryz.func32, Tryz.ntmps32
  go_wp2_with (first
    | ((with_reducible refine gd_box 62 ?_); refine wl_box_agg rfl _ _ rfl _ rfl ?_; intro b0 w1 hb0 HB0 HK0; have hd1 := hd.new HK0; have c3 := hd1.c3)
    | (go_at_call 60; refine (there_calls _ h D n hd1 HN.out).mono ?_; rintro e w' ⟨he, rfl⟩; rw [HT.out] at he; subst he)
    | (at_lookup; refine wl_look_at rfl _ _ _ rfl _ keyedS Tryz.underlying110 _ zeroI hd1.long rfl _ rfl hks _ HF.out ?_))
  go_quiet (fail)
  have hd2 := hd1.drewN nq
  have HB2 : (w1.drewN nq).heap[b0]? = some (.cells (secA s) 62 (0, 0)) := HB0
  have HK2 := HK0.drewN nq
  clear hd1 HB0 HK0
  generalize w1.drewN nq = w2 at *
  have c4 := hd2.c4
  go_wp2_with (first
    | (at_lookup; refine wl_look_at rfl _ _ _ rfl _ keyedW Tryz.underlying111 _ zero65 hd2.cells rfl _ rfl hkw _ HC.out ?_)
    | ((with_reducible refine gd_alloc 130 ?_); refine wl_alloc_agg rfl _ rfl _ zero65 ?_; intro b1 w3 hb1 HB3 HK3; have HB4 := HK3.blk HB2 id; have hd3 := hd2.new HK3)
    | ((with_reducible refine gd_store 130 ?_); refine wl_store_agg rfl _ _ _ rfl b1 _ rfl _ _ HB3 _ rfl (cellA c) (store_whole _ _ (by rw [cellA_size, cellA_size])) (by simp [cellA_size]) (info65c c) (cellA_one c) ?_; intro w4 HB5 HK4; have hne : b0 ≠ b1 := (fun e => absurd (lt_of_blk HB2) (by rw [e]; omega)); have HB6 := HK4.blk HB4 hne; have hd4 := hd3.keptNew hd2 hb1 HK4)
    | ((with_reducible refine gd_load 62 ?_); refine wl_load_agg rfl _ _ rfl b0 _ rfl _ _ _ HB6 (secA s) (extract_all _) _ Tryz.underlying62 rfl (info28s s) ?_)
    | ((with_reducible refine gd_store 62 ?_); refine wl_store_agg rfl _ _ _ rfl b1 _ rfl _ _ HB5 _ rfl (cellA { c with now := s }) (splice_now c s) (by simp [cellA_size, secA_size]) (info28s s) (secA_one s) ?_; intro w5 HB7 HK5; have hd5 := hd4.keptNew hd2 hb1 HK5; have c128 := (cell_of_block HB7 128).trans (get128 _); have c131 := (cell_of_block HB7 131).trans (get131 _); have f128 := free_of_block HB7 128; have f131 := free_of_block HB7 131)
    | fail)
  have HB8 : ((w5.setCell ⟨b1, 128, none⟩ (.bool false)).setCell ⟨b1, 131, none⟩ (.bool true)).heap[b1]? = some (.cells (cellA (c.write s)) 130 (0, 0)) := by
    rw [blk_setCell (blk_setCell HB7 128 (.bool false)) 131 (.bool true), set128, set131]; rfl
  have HK8 := keeps_cells2 w5 b1 128 131 (.bool false) (.bool true)
  have hd6 := hd5.keptNew hd2 hb1 HK8
  have hlt : w.heap.size ≤ b1 := Nat.le_trans HK2.size hb1
  have HK6 : Keeps w ((w5.setCell ⟨b1, 128, none⟩ (.bool false)).setCell ⟨b1, 131, none⟩ (.bool true)) (fun _ => False) :=
    ((((HK2.trans HK3).then HK4 (fun i hi e => absurd hlt (by omega))).then HK5 (fun i hi e => absurd hlt (by omega))).then HK8 (fun i hi e => absurd hlt (by omega)))
  clear hd5 HB7 HK8 c128 c131 f128 f131
  generalize (w5.setCell ⟨b1, 128, none⟩ (.bool false)).setCell ⟨b1, 131, none⟩ (.bool true) = w6 at *
  have c4 := hd6.c4
  refine wp_region_still_tail 8 (by kernel_rfl) (by kernel_rfl) ?_
  simp only [List.take_succ_cons, List.take_zero, List.drop_succ_cons, List.drop_zero]
  iterate 7 still_step
  refine ws_load_agg rfl _ _ rfl b1 _ rfl _ _ _ HB8 (cellA (c.write s)) (extract_all _) _ Tryz.underlying130 rfl (info65c _) ?_
  refine wpStill_nil ?_
  have hd7 : isDev { w6 with drawn := w6.drawn + 1 } h D := hd6.drew
  have HK7 : Keeps w { w6 with drawn := w6.drawn + 1 } (fun _ => False) := HK6.drew
  generalize { w6 with drawn := w6.drawn + 1 } = w7 at *
  go_wp2_with (first
    | (at_mapUpdate; refine wl_store rfl _ _ _ _ rfl _ keyedW Tryz.underlying111 hd7.cells rfl _ _ rfl rfl hkw ?_; intro w8 hm8 HK8; have hd8 := hd7.wrote HL0.out HKL.out hm8 HK8)
    | (go_at_call 50; refine (done_calls _ h _ hd8).mono ?_; rintro e w9 ⟨rfl, hd9, HK9⟩)
    | fail)
  go_ret
  exact post_of HR.out hd9 (((HK7.mono (fun _ _ => False.elim)).then HK8 (fun i _ e => .inr (.inr e))).trans HK9)

theorem isDev.app {w : World} {h : DH} {D : Dv} {n : Nm} {l : List Wb.Cell} {c : Wb.Cell} {w0 : World} (hd : isDev w0 h D) (hf : fget D.files n = some l) (hroom : used D.files < D.most)
    (hp : Parts w h ((fldA D h).setIfInBounds 1 (.int .i64 (used D.files + 1))) (upd (longF D.files) (.string (bs n)) (some (.int .i64 (l.length + 1)))) (upd (cellF D.files) (whereV n l.length) (some (cellV c)))) :
    isDev w h { D with files := fset D.files n (l ++ [c]) } := by
  have hu : used (fset D.files n (l ++ [c])) = used D.files + 1 := by
    have := used_fset hd.wf.sorted n (l ++ [c])
    rw [hf] at this
    simp at this
    omega
  refine ⟨?_, ?_, ?_, ⟨hd.wf.most, hd.wf.fuse, hd.wf.fuse', sorted_fset hd.wf.sorted _ _, by rw [hu]; exact hroom, nm_fset hd.wf.nm hf _⟩, hd.ne⟩
  · have := hp.fld
    simpa [fldA, hu] using this
  · have := hp.long
    rw [longF_fset]
    simpa [lenV] using this
  · have := cellF_fset_one D.files n l l.length c hf (by omega)
    rw [if_pos rfl] at this
    rw [this]; exact hp.cells

set_option maxRecDepth 100000 in
set_option maxHeartbeats 1000000 in
theorem write_app (w : World) (h : DH) (D : Dv) (n : Nm) (k : Nat) (s : Sec) (l : List Wb.Cell) (hd : isDev w h D) (hn : nmOk n) (ht : D.thr n = 0) (hl : fget D.files n = some l) (hk : k = l.length) (hroom : used D.files < D.most) :
    Calls Tryz.prog 32 #[.pointer (some ⟨h.p, 0, none⟩), .string (bs n), .int .i64 k, .agg (secA s)] w (DevPost h w (.int .i64 (D.write n k s).2) (D.write n k s).1) := by
  have hu1 : used D.files ≤ 100000 := Nat.le_trans hd.wf.used hd.wf.most
  have hlen : k ≤ 100000 := by have := used_le hl; omega
  have hr : D.write n k s = ({ D with files := fset D.files n (l ++ [Wb.Cell.zero.write s]) }.done, 0) := by
    simp only [Dv.write, Dv.len, Dv.cells, hl, ht, Option.getD_some]
    rw [if_neg (by simp), if_neg (by omega), if_pos (by omega), if_neg (by omega)]
  have HR := Lib.hid hr
  have HT := Lib.hid ht
  have HF : Hid (longF D.files (.string (bs n)) = some (.int .i64 k)) := by unfold Hid; rw [longF_at, hl, hk]; rfl
  have HC : Hid (cellF D.files (whereV n k) = none) := by unfold Hid; rw [cellF_at, hl, Option.bind_some, List.getElem?_eq_none (by omega)]; rfl
  have HL0 := Lib.hid hl
  have HN := Lib.hid hn
  have hkw : KeyOk Tryz.prog 128 (whereV n k) := keyOkW hn (by unfold kOk; omega)
  have hks : KeyOk Tryz.prog 9 (.string (bs n)) := keyOkS hn
  have HKE := Lib.hid hk
  have HRM := Lib.hid hroom
  have g2 : decide (k < k) = false := by simp
  have g4 : decide (D.most ≤ used D.files) = false := by simp; omega
  have c0' := hd.c0
  clear hr ht hl hk hn hroom
  go_enter Tryz.func32, Tryz.ntmps32
  go_wp2_with (first
    | ((with_reducible refine gd_box 62 ?_); refine wl_box_agg rfl _ _ rfl _ rfl ?_; intro b0 w1 hb0 HB0 HK0; have hd1 := hd.new HK0; have c3 := hd1.c3; have c1 := hd1.c1; have c0 := hd1.c0)
    | (go_at_call 60; refine (there_calls _ h D n hd1 HN.out).mono ?_; rintro e w' ⟨he, rfl⟩; rw [HT.out] at he; subst he)
    | (at_lookup; refine wl_look_at rfl _ _ _ rfl _ keyedS Tryz.underlying110 _ zeroI hd1.long rfl _ rfl hks _ HF.out ?_))
  go_quiet (fail)
  have hd2 := hd1.drewN nq
  have HB2 : (w1.drewN nq).heap[b0]? = some (.cells (secA s) 62 (0, 0)) := HB0
  have HK2 := HK0.drewN nq
  clear hd1 HB0 HK0 c0 c1 c3 c0'
  generalize w1.drewN nq = w2 at *
  have c3 := hd2.c3
  have hp2 := hd2.parts
  have hne := hd2.ne
  go_wp2_with (first
    | (at_mapUpdate; refine wl_store rfl _ _ _ _ rfl _ keyedS Tryz.underlying110 hd2.long rfl (.string (bs n)) (.int .i64 (k + 1)) rfl rfl hks ?_; intro w3 hm3 HK3; have hp3 := hp2.setLong HK3 hm3 hne; have c1 : w3.cell? ⟨h.p, 1, none⟩ = some (.int .i64 (used D.files)) := hp3.c 1 _ rfl; have c4 : w3.cell? ⟨h.p, 4, none⟩ = some (.map (some h.bc)) := hp3.c 4 _ rfl; have f1 := hp3.fr 1)
    | (at_lookup; refine wl_look_no rfl _ _ _ rfl _ keyedW Tryz.underlying111 _ zero65 (hp3.setFld 1 _).cells rfl _ rfl hkw HC.out ?_)
    | ((with_reducible refine gd_alloc 130 ?_); refine wl_alloc_agg rfl _ rfl _ zero65 ?_; intro b1 w4 hb1 HB4 HK4; have hp4 := (hp3.setFld 1 _).new HK4; have ne1 : b0 ≠ h.bl := (fun e => absurd hd.long.lt (by rw [← e]; omega)); have ne2 : b0 ≠ h.p := (fun e => absurd (lt_of_blk hd.fld) (by rw [← e]; omega)); have HB5 := HK4.blk ((keeps_cell w3 h.p 1 _).blk (HK3.blk HB2 ne1) ne2) id)
    | ((with_reducible refine gd_store 130 ?_); refine wl_store_agg rfl _ _ _ rfl b1 _ rfl _ _ HB4 _ rfl (cellA Wb.Cell.zero) (store_whole _ _ rfl) (Nat.le_of_eq (Nat.zero_add _)) (info65c _) (cellA_one _) ?_; intro w5 HB6 HK5; have ne3 : b0 ≠ b1 := ne_new ((keeps_cell w3 h.p 1 _).blk (HK3.blk HB2 ne1) ne2) hb1; have HB7 := HK5.blk HB5 ne3; have hp5 := hp4.keptNew (hp3.setFld 1 _) hb1 HK5)
    | ((with_reducible refine gd_load 62 ?_); refine wl_load_agg rfl _ _ rfl b0 _ rfl _ _ _ HB7 (secA s) (extract_all _) _ Tryz.underlying62 rfl (info28s s) ?_)
    | ((with_reducible refine gd_store 62 ?_); refine wl_store_agg rfl _ _ _ rfl b1 _ rfl _ _ HB6 _ rfl (cellA { Wb.Cell.zero with now := s }) (splice_now _ s) (by simp [cellA_size, secA_size]) (info28s s) (secA_one s) ?_; intro w6 HB8 HK6; have hp6 := hp5.keptNew (hp3.setFld 1 _) hb1 HK6; have c128 := (cell_of_block HB8 128).trans (get128 _); have c131 := (cell_of_block HB8 131).trans (get131 _); have f128 := free_of_block HB8 128; have f131 := free_of_block HB8 131)
    | fail)
  have HB9 : ((w6.setCell ⟨b1, 128, none⟩ (.bool false)).setCell ⟨b1, 131, none⟩ (.bool true)).heap[b1]? = some (.cells (cellA (Wb.Cell.zero.write s)) 130 (0, 0)) := by
    rw [blk_setCell (blk_setCell HB8 128 (.bool false)) 131 (.bool true), set128, set131]; rfl
  have HK9 := keeps_cells2 w6 b1 128 131 (.bool false) (.bool true)
  have hp7 := hp6.keptNew (hp3.setFld 1 _) hb1 HK9
  have HK3' : Keeps w (w3.setCell ⟨h.p, 1, none⟩ (.int .i64 (↑(used D.files) + 1))) h.S := (((HK2.mono (fun _ _ => False.elim)).then HK3 (fun i _ e => .inr (.inl e))).then (keeps_cell w3 h.p 1 _) (fun i _ e => .inl e))
  have hlt : w.heap.size ≤ b1 := Nat.le_trans HK3'.size hb1
  have HK8 : Keeps w ((w6.setCell ⟨b1, 128, none⟩ (.bool false)).setCell ⟨b1, 131, none⟩ (.bool true)) h.S :=
    ((((HK3'.then HK4 (fun _ _ => False.elim)).then HK5 (fun i hi e => absurd hlt (by omega))).then HK6 (fun i hi e => absurd hlt (by omega))).then HK9 (fun i hi e => absurd hlt (by omega)))
  clear hp6 hp5 HB8 HK9 c128 c131 f128 f131 c1 c4 f1
  generalize (w6.setCell ⟨b1, 128, none⟩ (.bool false)).setCell ⟨b1, 131, none⟩ (.bool true) = w7 at *
  have c4 : w7.cell? ⟨h.p, 4, none⟩ = some (.map (some h.bc)) := hp7.c 4 _ rfl
  refine wp_region_still_tail 8 (by kernel_rfl) (by kernel_rfl) ?_
  simp only [List.take_succ_cons, List.take_zero, List.drop_succ_cons, List.drop_zero]
  iterate 7 still_step
  refine ws_load_agg rfl _ _ rfl b1 _ rfl _ _ _ HB9 (cellA (Wb.Cell.zero.write s)) (extract_all _) _ Tryz.underlying130 rfl (info65c _) ?_
  refine wpStill_nil ?_
  have hp8 : Parts { w7 with drawn := w7.drawn + 1 } h _ _ _ := hp7.drew
  have HK9 : Keeps w { w7 with drawn := w7.drawn + 1 } h.S := HK8.drew
  generalize { w7 with drawn := w7.drawn + 1 } = w8 at *
  go_wp2_with (first
    | (at_mapUpdate; refine wl_store rfl _ _ _ _ rfl _ keyedW Tryz.underlying111 hp8.cells rfl (whereV n k) (cellV (Wb.Cell.zero.write s)) rfl rfl hkw ?_; intro w9 hm9 HK10; have hd9 := hd.app HL0.out HRM.out (by have := hp8.setCells HK10 hm9 hne; rw [HKE.out] at this; exact this))
    | (go_at_call 50; refine (done_calls _ h _ hd9).mono ?_; rintro e w10 ⟨rfl, hd10, HK11⟩)
    | fail)
  go_ret
  exact post_of HR.out hd10 ((HK9.then HK10 (fun i _ e => .inr (.inr e))).trans HK11)

set_option maxRecDepth 100000 in
set_option maxHeartbeats 1000000 in
theorem write_arg (w : World) (h : DH) (D : Dv) (n : Nm) (k : Int) (s : Sec) (l : List Wb.Cell) (hd : isDev w h D) (hn : nmOk n) (ht : D.thr n = 0) (hl : fget D.files n = some l) (hk : k < 0 ∨ l.length < k) :
    Calls Tryz.prog 32 #[.pointer (some ⟨h.p, 0, none⟩), .string (bs n), .int .i64 k, .agg (secA s)] w (DevPost h w (.int .i64 (D.write n k s).2) (D.write n k s).1) := by
  have hr : D.write n k s = (D, 1) := by
    simp only [Dv.write, Dv.len, Dv.cells, hl, ht, Option.getD_some]
    rw [if_neg (by simp), if_pos hk]
  have HR := Lib.hid hr
  have HT := Lib.hid ht
  have HF : Hid (longF D.files (.string (bs n)) = some (.int .i64 l.length)) := by unfold Hid; rw [longF_at, hl]; rfl
  have HN := Lib.hid hn
  have hks : KeyOk Tryz.prog 9 (.string (bs n)) := keyOkS hn
  clear hr ht hl hn
  by_cases hk0 : k < 0
  · clear hk
    go_enter Tryz.func32, Tryz.ntmps32
    go_wp2_with (first
      | ((with_reducible refine gd_box 62 ?_); refine wl_box_agg rfl _ _ rfl _ rfl ?_; intro b0 w1 hb0 HB0 HK0; have hd1 := hd.new HK0; have c3 := hd1.c3; have c1 := hd1.c1; have c0 := hd1.c0)
      | (go_at_call 60; refine (there_calls _ h D n hd1 HN.out).mono ?_; rintro e w' ⟨he, rfl⟩; rw [HT.out] at he; subst he)
      | (at_lookup; refine wl_look_at rfl _ _ _ rfl _ keyedS Tryz.underlying110 _ zeroI hd1.long rfl _ rfl hks _ HF.out ?_))
    go_ret
    exact post_of HR.out hd1 (HK0.mono fun _ _ => False.elim)
  · have hk1 : (l.length : Int) < k := hk.resolve_left hk0
    clear hk
    go_enter Tryz.func32, Tryz.ntmps32
    go_wp2_with (first
      | ((with_reducible refine gd_box 62 ?_); refine wl_box_agg rfl _ _ rfl _ rfl ?_; intro b0 w1 hb0 HB0 HK0; have hd1 := hd.new HK0; have c3 := hd1.c3; have c1 := hd1.c1; have c0 := hd1.c0)
      | (go_at_call 60; refine (there_calls _ h D n hd1 HN.out).mono ?_; rintro e w' ⟨he, rfl⟩; rw [HT.out] at he; subst he)
      | (at_lookup; refine wl_look_at rfl _ _ _ rfl _ keyedS Tryz.underlying110 _ zeroI hd1.long rfl _ rfl hks _ HF.out ?_))
    go_ret
    exact post_of HR.out hd1 (HK0.mono fun _ _ => False.elim)

set_option maxRecDepth 100000 in
set_option maxHeartbeats 1000000 in
theorem write_full (w : World) (h : DH) (D : Dv) (n : Nm) (k : Nat) (s : Sec) (l : List Wb.Cell) (hd : isDev w h D) (hn : nmOk n) (ht : D.thr n = 0) (hl : fget D.files n = some l) (hk : k = l.length) (hroom : D.most ≤ used D.files) :
    Calls Tryz.prog 32 #[.pointer (some ⟨h.p, 0, none⟩), .string (bs n), .int .i64 k, .agg (secA s)] w (DevPost h w (.int .i64 (D.write n k s).2) (D.write n k s).1) := by
  have hr : D.write n k s = (D, 6) := by
    simp only [Dv.write, Dv.len, Dv.cells, hl, ht, Option.getD_some]
    rw [if_neg (by simp), if_neg (by omega), if_pos (by omega), if_pos hroom]
  have HR := Lib.hid hr
  have HT := Lib.hid ht
  have HF : Hid (longF D.files (.string (bs n)) = some (.int .i64 k)) := by unfold Hid; rw [longF_at, hl, hk]; rfl
  have HN := Lib.hid hn
  have hks : KeyOk Tryz.prog 9 (.string (bs n)) := keyOkS hn
  have g2 : decide (k < k) = false := by simp
  have g4 : decide (D.most ≤ used D.files) = true := by simp; omega
  clear hr ht hl hk hn hroom
  go_enter Tryz.func32, Tryz.ntmps32
  go_wp2_with (first
    | ((with_reducible refine gd_box 62 ?_); refine wl_box_agg rfl _ _ rfl _ rfl ?_; intro b0 w1 hb0 HB0 HK0; have hd1 := hd.new HK0; have c3 := hd1.c3; have c1 := hd1.c1; have c0 := hd1.c0)
    | (go_at_call 60; refine (there_calls _ h D n hd1 HN.out).mono ?_; rintro e w' ⟨he, rfl⟩; rw [HT.out] at he; subst he)
    | (at_lookup; refine wl_look_at rfl _ _ _ rfl _ keyedS Tryz.underlying110 _ zeroI hd1.long rfl _ rfl hks _ HF.out ?_))
  go_quiet (fail)
  go_wp2
  go_ret
  exact post_of HR.out (hd1.drewN _) ((HK0.mono fun _ _ => False.elim).drewN _)

theorem write_calls (w : World) (h : DH) (D : Dv) (n : Nm) (k : Int) (s : Sec) (hd : isDev w h D) (hn : nmOk n) :
    Calls Tryz.prog 32 #[.pointer (some ⟨h.p, 0, none⟩), .string (bs n), .int .i64 k, .agg (secA s)] w (DevPost h w (.int .i64 (D.write n k s).2) (D.write n k s).1) := by
  by_cases ht : D.thr n = 0
  · cases hl : fget D.files n with
    | none => simp [Dv.thr, hl] at ht; split at ht <;> cases ht
    | some l =>
      by_cases hk : k < 0 ∨ (l.length : Int) < k
      · exact write_arg w h D n k s l hd hn ht hl hk
      · obtain ⟨q, rfl⟩ := Int.eq_ofNat_of_zero_le (show 0 ≤ k by omega)
        by_cases e : q = l.length
        · by_cases hr : D.most ≤ used D.files
          · exact write_full w h D n q s l hd hn ht hl e hr
          · exact write_app w h D n q s l hd hn ht hl e (by omega)
        · exact write_set w h D n q s l _ hd hn ht hl (List.getElem?_eq_getElem (by omega))
  · exact write_no w h D n k s hd hn ht
end Go.Proofs.YtblpkifkaoaicaaGreat
