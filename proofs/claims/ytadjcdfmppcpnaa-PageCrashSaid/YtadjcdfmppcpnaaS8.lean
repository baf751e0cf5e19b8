import Derived.Test.YtadjcdfmppcpnaaS7
/-! Package sect: Sync. -/
namespace Go.Proofs.Ytadjcdfmppcpnaa
open Go Go.RowKit Go.Maps Wb

def syncC (c : Wb.Cell) : Wb.Cell := if c.fresh then c.lasts else c
def syncL (l : List Wb.Cell) (q : Nat) : List Wb.Cell := (l.take q).map syncC ++ l.drop q
theorem syncL_len (l : List Wb.Cell) {q : Nat} (h : q ≤ l.length) : (syncL l q).length = l.length := by simp [syncL]; omega
theorem syncL_zero (l : List Wb.Cell) : syncL l 0 = l := by simp [syncL]
theorem syncL_all (l : List Wb.Cell) : syncL l l.length = l.map syncC := by simp [syncL]
theorem syncL_at {l : List Wb.Cell} {q : Nat} {c : Wb.Cell} (h : l[q]? = some c) : (syncL l q)[q]? = some c := by
  obtain ⟨hq, rfl⟩ := List.getElem?_eq_some_iff.1 h
  unfold syncL
  rw [List.getElem?_append_right (by simp; omega)]
  simp [Nat.min_eq_left (Nat.le_of_lt hq), hq]
theorem syncL_succ {l : List Wb.Cell} {q : Nat} {c : Wb.Cell} (h : l[q]? = some c) : syncL l (q + 1) = (syncL l q).set q (syncC c) := by
  obtain ⟨hq, rfl⟩ := List.getElem?_eq_some_iff.1 h
  unfold syncL
  rw [List.take_succ_eq_append_getElem hq, List.map_append, List.set_append_right _ _ (by simp; omega)]
  rw [show q - ((l.take q).map syncC).length = 0 by simp; omega, List.drop_eq_getElem_cons hq]
  simp only [List.set_cons_zero, List.append_assoc, List.map_cons, List.map_nil, List.singleton_append]
theorem syncL_skip {l : List Wb.Cell} {q : Nat} {c : Wb.Cell} (h : l[q]? = some c) (hc : c.fresh = false) : syncL l (q + 1) = syncL l q := by
  rw [syncL_succ h]
  have : syncC c = c := by simp [syncC, hc]
  rw [this]
  apply List.ext_getElem?
  intro i
  rw [List.getElem?_set]
  have h1 := syncL_at h
  split
  · rename_i e; subst e
    have hq := (List.getElem?_eq_some_iff.1 h1).1
    rw [if_pos hq, h1]
  · rfl

theorem cellF_set {fs : Files} {n : Nm} {l : List Wb.Cell} {q : Nat} {c : Wb.Cell} (hq : q < l.length) :
    upd (cellF (fset fs n l)) (whereV n q) (some (cellV c)) = cellF (fset fs n (l.set q c)) := by
  have := cellF_fset_one (fset fs n l) n l q c (fget_fset_same _ _ _) (by omega)
  rw [if_neg (by omega), fset_fset] at this
  exact this.symm

theorem longF_set {fs : Files} {n : Nm} {l l' : List Wb.Cell} (h : fget fs n = some l) (hl : l'.length = l.length) : longF (fset fs n l') = longF fs := longF_fset_same _ _ _ _ h hl
theorem cellF_same {fs : Files} {n : Nm} {l : List Wb.Cell} (h : fget fs n = some l) : cellF (fset fs n l) = cellF fs := by
  funext v
  unfold cellF
  cases hv : decW v with
  | none => rfl
  | some x =>
    by_cases e : x.1 = n
    · simp [e, fget_fset_same, h]
    · simp [fget_fset_other _ _ e]

/-- A file has other cells, as many. -/
theorem isDev.recelled {w0 w : World} {h : DH} {D : Dv} {n : Nm} {l l' : List Wb.Cell} (hd : isDev w0 h D) (hf : fget D.files n = some l) (hl : l'.length = l.length)
    (hp : Parts w h (fldA D h) (longF D.files) (cellF (fset D.files n l'))) : isDev w h { D with files := fset D.files n l' } := by
  have hu : used (fset D.files n l') = used D.files := by
    have := used_fset hd.wf.sorted n l'
    rw [hf] at this
    simp at this
    omega
  refine ⟨?_, ?_, hp.cells, ⟨hd.wf.most, hd.wf.fuse, hd.wf.fuse', sorted_fset hd.wf.sorted _ _, by show used _ ≤ _; rw [hu]; exact hd.wf.used, nm_fset hd.wf.nm hf _⟩, hd.ne⟩
  · have := hp.fld
    simpa [fldA, hu] using this
  · rw [longF_fset_same _ _ _ _ hf hl]; exact hp.long

theorem buildW (n : Nm) (k : Int) (w : World) : (Instr.build 119 #[(0, .string (bs n)), (1, .int .i64 k)]).run Try.prog w = .ok (whereV n k) w := by kernel_rfl
theorem load_map (p : Addr) (b : Nat) (w : World) (h : w.cell? p = some (.map (some b))) : (Instr.loadAt 111 (.pointer (some p))).run Try.prog w = .ok (.map (some b)) w := by
  go_simp

def SyncRel (w : World) (h : DH) (D : Dv) (n : Nm) (l : List Wb.Cell) (q : Nat) (wr : World) : Prop :=
  Parts wr h (fldA D h) (longF D.files) (cellF (fset D.files n (syncL l q))) ∧ Keeps w wr h.S

set_option maxRecDepth 100000 in
set_option maxHeartbeats 1000000 in
theorem sync_some (w : World) (h : DH) (D : Dv) (n : Nm) (l : List Wb.Cell) (hd : isDev w h D) (hn : nmOk n) (ht : D.thr n = 0) (hl : fget D.files n = some l) :
    Calls Try.prog 29 #[.pointer (some ⟨h.p, 0, none⟩), .string (bs n)] w (DevPost h w (.int .i64 (D.sync n).2) (D.sync n).1) := by
  have hu1 : used D.files ≤ 100000 := Nat.le_trans hd.wf.used hd.wf.most
  have hlu := used_le hl
  have hlen : l.length ≤ 100000 := by omega
  have hr : D.sync n = ({ D with files := fset D.files n (l.map syncC) }.done, 0) := by
    have : (fun (c : Wb.Cell) => if c.fresh = true then c.lasts else c) = syncC := rfl
    simp [Dv.sync, ht, Dv.cells, hl, this]
  have HR := Lib.hid hr
  have HT := Lib.hid ht
  have HF : Hid (longF D.files (.string (bs n)) = some (.int .i64 l.length)) := by unfold Hid; rw [longF_at, hl]; rfl
  have HL0 := Lib.hid hl
  have HN := Lib.hid hn
  have hks : KeyOk Try.prog 9 (.string (bs n)) := keyOkS hn
  have hne := hd.ne
  have c3 := hd.c3
  clear hr ht hl hn
  go_enter Try.func29, Try.ntmps29
  go_wp2_with (first
    | (go_at_call 71; refine (there_calls _ h D n hd HN.out).mono ?_; rintro e w' ⟨he, rfl⟩; rw [HT.out] at he; subst he)
    | (at_lookup; refine wl_look_at rfl _ _ _ rfl _ keyedS Try.underlying110 _ zeroI hd.long rfl _ rfl hks _ HF.out ?_))
  go_loopw [20] (fun i wr => ∃ q : Nat, q ≤ l.length ∧ i = .int .i64 q ∧ SyncRel w h D n l q wr) (fun i _ => l.length - (intOf i).toNat)
  case atStart => exact ⟨0, Nat.zero_le _, rfl, by unfold SyncRel; rw [syncL_zero, cellF_same HL0.out]; exact ⟨hd.parts, Keeps.refl _ _⟩⟩
  case round =>
    obtain ⟨q, hq, rfl, hp, hk⟩ := hrel
    by_cases hlt : q < l.length
    · have hkw : KeyOk Try.prog 119 (whereV n q) := keyOkW HN.out (by unfold kOk; omega)
      have c4 : wr.cell? ⟨h.p, 4, none⟩ = some (.map (some h.bc)) := hp.c 4 _ rfl
      have hlt' : decide (q < l.length) = true := by simpa using hlt
      have hq9 : (q : Int) ≤ 100000 := by omega
      obtain ⟨c, hc⟩ : ∃ c, l[q]? = some c := ⟨_, List.getElem?_eq_getElem hlt⟩
      have HCQ := Lib.hid hc
      have HC : Hid (cellF (fset D.files n (syncL l q)) (whereV n q) = some (.agg (cellA c))) := by
        unfold Hid; rw [cellF_at, fget_fset_same, Option.bind_some, syncL_at hc]; rfl
      have HLQ : Hid (q < (syncL l q).length) := by unfold Hid; rw [syncL_len l hq]; exact hlt
      clear hc
      cases hfr : c.fresh with
      | false =>
        go_wp2_with (first
          | (at_lookup; refine wl_look_at rfl _ _ _ rfl _ keyedW Try.underlying111 _ zero65 hp.cells rfl _ rfl hkw _ HC.out ?_)
          | ((with_reducible refine gd_alloc 117 ?_); refine wl_alloc_agg rfl _ rfl _ zero65 ?_; intro b1 w3 hb1 HB3 HK3; have hp3 := hp.new HK3)
          | ((with_reducible refine gd_store 117 ?_); refine wl_store_agg rfl _ _ _ rfl b1 _ rfl _ _ HB3 _ rfl (cellA c) (store_cells _ _) (le_cells _ _) (info65c c) (cellA_one c) ?_; intro w4 HB5 HK4; have hp4 := hp3.keptNew hp hb1 HK4; have c131 := ((cell_of_block HB5 131).trans (get131 _)).trans (by rw [hfr]))
          | fail)
        go_roundw
        case rel => exact ⟨q + 1, by omega, by go_num, by rw [syncL_skip HCQ.out hfr]; exact hp4, (hk.then HK3 (fun _ _ => False.elim)).then HK4 (fun i hi e => absurd (Nat.le_trans hk.size hb1) (by omega))⟩
        case measure => simp [intOf]; omega
      | true =>
        go_wp2_with (first
          | (at_lookup; refine wl_look_at rfl _ _ _ rfl _ keyedW Try.underlying111 _ zero65 hp.cells rfl _ rfl hkw _ HC.out ?_)
          | ((with_reducible refine gd_alloc 117 ?_); refine wl_alloc_agg rfl _ rfl _ zero65 ?_; intro b1 w3 hb1 HB3 HK3; have hp3 := hp.new HK3)
          | ((with_reducible refine gd_store 117 ?_); refine wl_store_agg rfl _ _ _ rfl b1 _ rfl _ _ HB3 _ rfl (cellA c) (store_cells _ _) (le_cells _ _) (info65c c) (cellA_one c) ?_; intro w4 HB5 HK4; have hp4 := hp3.keptNew hp hb1 HK4; have c131 := ((cell_of_block HB5 131).trans (get131 _)).trans (by rw [hfr]))
          | fail)
        have HS0 : (∃ g, Parts w4.drew h (fldA D h) (longF D.files) g) ∧ w4.drew.heap[b1]? = some (.cells (cellA c) 117 (0, 0)) := ⟨⟨_, hp4.drew⟩, HB5⟩
        refine wp_region_held (S := fun w' => (∃ g, Parts w' h (fldA D h) (longF D.files) g) ∧ w'.heap[b1]? = some (.cells (cellA c) 117 (0, 0))) (by kernel_rfl) ?_
        refine ya_take 0 rfl (by kernel_rfl) (by kernel_rfl) (by kernel_rfl) (fun _ _ _ h => h) HS0 (yi_pure rfl (.pointer (some ⟨h.p, 0, none⟩)) (fun _ => rfl)) ?_
        simp only [List.setIfInBounds_toArray, List.set_cons_succ, List.set_cons_zero]
        refine ya_take 1 rfl (by kernel_rfl) (by kernel_rfl) (by kernel_rfl) (fun _ _ _ h => h) HS0 (yi_pure rfl (.pointer (some ⟨h.p, 0, none⟩)) (fun _ => rfl)) ?_
        simp only [List.setIfInBounds_toArray, List.set_cons_succ, List.set_cons_zero]
        refine ya_take 2 rfl (by kernel_rfl) (by kernel_rfl) (by kernel_rfl) (fun _ _ _ h => h) HS0 (yi_pure rfl (.pointer (some ⟨h.p, 4, none⟩)) (fun _ => rfl)) ?_
        simp only [List.setIfInBounds_toArray, List.set_cons_succ, List.set_cons_zero]
        refine ya_take 3 rfl (by kernel_rfl) (by kernel_rfl) (by kernel_rfl) (fun _ _ _ h => h) HS0 (yi_load rfl _ _ rfl _ rfl (.map (some h.bc)) (fun _ h => h.1.elim fun _ h => h.c 4 _ rfl) (load_map _ _)) ?_
        simp only [List.setIfInBounds_toArray, List.set_cons_succ, List.set_cons_zero]
        refine ya_take 4 rfl (by kernel_rfl) (by kernel_rfl) (by kernel_rfl) (fun _ _ _ h => h) HS0 (yi_pure rfl (.string (bs n)) (fun _ => rfl)) ?_
        simp only [List.setIfInBounds_toArray, List.set_cons_succ, List.set_cons_zero]
        refine ya_take 5 rfl (by kernel_rfl) (by kernel_rfl) (by kernel_rfl) (fun _ _ _ h => h) HS0 (yi_pure rfl (.int .i64 q) (fun _ => rfl)) ?_
        simp only [List.setIfInBounds_toArray, List.set_cons_succ, List.set_cons_zero]
        refine ya_take 6 rfl (by kernel_rfl) (by kernel_rfl) (by kernel_rfl) (fun _ _ _ h => h) HS0 (yi_build rfl _ _ rfl [(0, .string (bs n)), (1, .int .i64 q)] rfl (whereV n q) (buildW n q)) ?_
        simp only [List.setIfInBounds_toArray, List.set_cons_succ, List.set_cons_zero]
        refine ya_take 7 rfl (by kernel_rfl) (by kernel_rfl) (by kernel_rfl) (fun _ _ _ h => h) HS0 (yi_load_agg rfl _ _ rfl b1 0 rfl _ _ _ (fun _ h => h.2) (cellA c) (extract_all _) _ Try.underlying117 rfl (info65c _)) ?_
        simp only [List.setIfInBounds_toArray, List.set_cons_succ, List.set_cons_zero]
        refine ya_one 8 rfl (by kernel_rfl) ((wp_call 73 _ _ rfl _ Try.func73 (by kernel_rfl) (by kernel_rfl) [.agg (cellA c)] rfl (lasts_calls _ c) ?_))
        rintro e w5 ⟨rfl, HK5⟩
        have hp5 := hp4.drew.new HK5
        refine ⟨_, rfl, ⟨⟨_, hp5⟩, HK5.blk HB5 id⟩, ?_⟩
        simp only [Act.put, List.setIfInBounds_toArray, List.set_cons_succ, List.set_cons_zero]
        have hbc : b1 ≠ h.bc := fun e => absurd hp.cells.lt (by rw [← e]; omega)
        refine ya_one 9 rfl (by kernel_rfl) ((wp_mapset _ _ _ _ rfl _ keyedW Try.underlying111 hp5.cells rfl (whereV n q) (cellV c.lasts) rfl rfl hkw ?_))
        intro w6 hm6 HK6
        have hp6 := hp5.setCells HK6 hm6 hne
        have HK7 : Keeps w w6 h.S := ((((hk.then HK3 (fun _ _ => False.elim)).then HK4 (fun i hi e => absurd (Nat.le_trans hk.size hb1) (by omega))).drew.then HK5 (fun _ _ => False.elim)).then HK6 (fun i _ e => .inr (.inr e)))
        refine ⟨⟨⟨_, hp6⟩, HK6.blk (HK5.blk HB5 id) hbc⟩, wpAnyH_done (by kernel_rfl) ?_ _⟩
        go_wp2
        go_roundw
        case rel => exact ⟨q + 1, by omega, by go_num, by rw [syncL_succ HCQ.out, show syncC c = c.lasts by simp [syncC, hfr], ← cellF_set HLQ.out]; exact hp6, HK7⟩
        case measure => simp [intOf]; omega
    · have hge : decide (q < l.length) = false := by simpa using hlt
      obtain rfl : q = l.length := by omega
      clear hlt
      have hd2 : isDev wr h { D with files := fset D.files n (l.map syncC) } := hd.recelled HL0.out (by simp) (by rw [← syncL_all]; exact hp)
      go_wp2_with (first
        | (go_at_call 70; refine (done_calls _ h _ hd2).mono ?_; rintro e w3 ⟨rfl, hd3, HK3⟩)
        | fail)
      go_ret
      exact post_of HR.out hd3 (hk.trans HK3)

set_option maxRecDepth 100000 in
set_option maxHeartbeats 1000000 in
theorem sync_calls (w : World) (h : DH) (D : Dv) (n : Nm) (hd : isDev w h D) (hn : nmOk n) :
    Calls Try.prog 29 #[.pointer (some ⟨h.p, 0, none⟩), .string (bs n)] w (DevPost h w (.int .i64 (D.sync n).2) (D.sync n).1) := by
  by_cases ht : D.thr n = 0
  · cases hl : fget D.files n with
    | none => simp [Dv.thr, hl] at ht; split at ht <;> cases ht
    | some l => exact sync_some w h D n l hd hn ht hl
  · have hr : D.sync n = (D, D.thr n) := by simp [Dv.sync, ht]
    have HR := Lib.hid hr
    have hb1 : (D.thr n == 0) = false := by simp [ht]
    have hb2 : (D.thr n != 0) = true := by simp [ht]
    clear hr ht
    go_enter Try.func29, Try.ntmps29
    go_wp2_with (go_at_call 71; refine (there_calls _ h D n hd hn).mono ?_; rintro e w' ⟨rfl, rfl⟩)
    go_ret
    exact post_of HR.out hd (Keeps.refl _ _)
end Go.Proofs.Ytadjcdfmppcpnaa
