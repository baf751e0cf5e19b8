/- Lemmas and contracts of functions, joined. -/
import Derived.Test.YtblpkifkaoaicaaGreatYS3
import Derived.Deep.RegionHeld3
namespace Go.Proofs.YtblpkifkaoaicaaGreat
open Go Go.RowKit Go.Maps Wb

theorem len_calls (w : World) (h : DH) (D : Dv) (n : Nm) (hd : isDev w h D) (hn : nmOk n) :
    Calls Tryz.prog 29 #[.pointer (some ⟨h.p, 0, none⟩), .string (bs n)] w fun e w' => e = .returned (.int .i64 (D.len n)) ∧ w = w' := by
  have c3 := hd.c3
  have HL := hd.long
  cases hf : fget D.files n with
  | none =>
    have hr : D.len n = 0 := by simp [Dv.len, Dv.cells, hf]
    have HF : Hid (longF D.files (.string (bs n)) = none) := by unfold Hid; rw [longF_at, hf]; rfl
    have HR := Lib.hid hr
    clear hr hf
    go_enter Tryz.func29, Tryz.ntmps29
    go_wp2_with (at_lookup; refine wl_look_no rfl _ _ _ rfl _ keyedS Tryz.underlying110 _ zeroI HL rfl _ rfl (keyOkS hn) HF.out ?_)
    go_ret
    exact ⟨by rw [HR.out]; rfl, rfl⟩
  | some l =>
    have hr : D.len n = l.length := by simp [Dv.len, Dv.cells, hf]
    have HF : Hid (longF D.files (.string (bs n)) = some (.int .i64 l.length)) := by unfold Hid; rw [longF_at, hf]; rfl
    have HR := Lib.hid hr
    clear hr hf
    go_enter Tryz.func29, Tryz.ntmps29
    go_wp2_with (at_lookup; refine wl_look_at rfl _ _ _ rfl _ keyedS Tryz.underlying110 _ zeroI HL rfl _ rfl (keyOkS hn) _ HF.out ?_)
    go_ret
    exact ⟨by rw [HR.out]; rfl, rfl⟩

/-- A call that makes memory, and changes none. -/
def Quiet (w : World) (v : Value) (e : Ending) (w' : World) : Prop := e = .returned v ∧ Keeps w w' (fun _ => False)

theorem range_of_block {w : World} {b : Nat} {A : Array Value} {t : TypeId} {z : Nat × Nat} (h : w.heap[b]? = some (.cells A t z)) : w.rangeAt b 0 A.toList := fun j v hv => by
  rw [cell_of_block h]; simpa using hv
theorem zeroBuild (w : World) : (Instr.build 62 #[]).run Tryz.prog w = .ok (.agg (secA Sec.zero)) w := by kernel_rfl
theorem keeps_cells3 (w : World) (b i j k : Nat) (u v x : Value) : Keeps w (((w.setCell ⟨b, i, none⟩ u).setCell ⟨b, j, none⟩ v).setCell ⟨b, k, none⟩ x) (· = b) :=
  (keeps_cells2 w b i j u v).setCell (fun _ => rfl) _
theorem lasts_blk {w : World} {b : Nat} {t : TypeId} (c : Wb.Cell) (h : w.heap[b]? = some (.cells (cellA { c with last := c.now }) t (0, 0))) :
    (((w.setCell ⟨b, 129, none⟩ (.bool c.nowBad)).setCell ⟨b, 130, none⟩ (.bool true)).setCell ⟨b, 131, none⟩ (.bool false)).heap[b]? = some (.cells (cellA c.lasts) t (0, 0)) := by
  rw [blk_setCell (blk_setCell (blk_setCell h 129 _) 130 _) 131 _, set129, set130, set131]; rfl

set_option maxRecDepth 100000 in
set_option maxHeartbeats 1000000 in
theorem lasts_calls (w : World) (c : Wb.Cell) : Calls Tryz.prog 67 #[.agg (cellA c)] w (Quiet w (cellV c.lasts)) := by
  go_enter Tryz.func67, Tryz.ntmps67
  go_wp2_with (first
    | ((with_reducible refine gd_box 130 ?_); refine wl_box_agg rfl _ _ rfl _ rfl ?_; intro b0 w1 hb0 HB0 HK0)
    | ((with_reducible refine gd_alloc 130 ?_); refine wl_alloc_agg rfl _ rfl _ zero65 ?_; intro b1 w2 hb1 HB1 HK1; have HB2 := HK1.blk HB0 id; have ne1 := ne_new HB0 hb1; have c128 := (cell_of_block HB2 128).trans (get128 _))
    | ((with_reducible refine gd_load 62 ?_); refine wl_load_agg rfl _ _ rfl b0 _ rfl _ _ _ HB2 (secA c.now) (extract_now c) _ Tryz.underlying62 rfl (info28s c.now) ?_)
    | ((with_reducible refine gd_store 62 ?_); refine wl_store_agg rfl _ _ _ rfl b0 _ rfl _ _ HB2 (secA c.now) rfl (cellA { c with last := c.now }) (splice_last c _) (by simp [cellA_size, secA_size]) (info28s _) (secA_one _) ?_; intro w3 HB3 HK3; have HB4 := HK3.blk HB1 ne1.symm; have c129 := (cell_of_block HB3 129).trans (get129 _); have c130 := (cell_of_block HB3 130).trans (get130 _); have c131 := (cell_of_block HB3 131).trans (get131 _); have f129 := free_of_block HB3 129; have f130 := free_of_block HB3 130; have f131 := free_of_block HB3 131; have HB5 := lasts_blk c HB3; have HK5 := keeps_cells3 w3 b0 129 130 131 (.bool c.nowBad) (.bool true) (.bool false); have HB6 := HK5.blk HB4 ne1.symm)
    | ((with_reducible refine gd_load 130 ?_); refine wl_load_agg rfl _ _ rfl b0 _ rfl _ _ _ HB5 (cellA c.lasts) (extract_all _) _ Tryz.underlying130 rfl (info65c _) ?_)
    | ((with_reducible refine gd_store 130 ?_); refine wl_store_agg rfl _ _ _ rfl b1 _ rfl _ _ HB6 (cellA c.lasts) rfl (cellA c.lasts) (store_whole _ _ (by rw [cellA_size, cellA_size])) (by simp [cellA_size]) (info65c _) (cellA_one _) ?_; intro w7 HB7 HK7)
    | fail)
  refine bodyPost_ret (v := cellV c.lasts) ?_ rfl ⟨rfl, ?_⟩
  · exact results_cell_row rfl _ _ b1 _ _ _ _ rfl HB7 Tryz.underlying130 rfl (info65c _)
  · have h0 : w.heap.size ≤ b1 := Nat.le_trans HK0.size hb1
    exact ((((HK0.trans HK1).then HK3 (fun i hi e => absurd hb0 (by omega))).then HK5 (fun i hi e => absurd hb0 (by omega))).then HK7 (fun i hi e => absurd h0 (by omega)))

theorem results_two {fn : Func} {p q : Tmp} {ty : TypeId} (h : fn.results = #[.cell p ty, .tmp q]) (tmps : Array Value) (w : World) (g : Nat) (t : TypeId) (cs : Array Value) (fr : Nat × Nat) (v : Value)
    (hp : tmps.getD p undef = .pointer (some ⟨g, 0, none⟩)) (hq : tmps.getD q undef = v) (hg : w.heap[g]? = some (.cells cs t fr)) (d : TypeDesc)
    (hu : Tryz.prog.underlying ty = some d) (hd : d.isRow = true) (hi : (Tryz.prog.info? ty).map (·.size) = some cs.size) :
    (results fn tmps).run Tryz.prog w = .ok (.tuple #[.agg cs, v]) w := by
  have hp' : tmps[p]?.getD undef = .pointer (some ⟨g, 0, none⟩) := by simpa using hp
  have hq' : tmps[q]?.getD undef = v := by simpa using hq
  have hl : (loadVar ty ⟨g, 0, none⟩).run Tryz.prog w = .ok (.agg cs) w := by
    have := run_load_agg (P := Tryz.prog) (w := w) ty g 0 cs t fr hg cs (extract_all _) d hu hd hi
    simpa [Instr.loadAt, Instr.sureAddr] using this
  simp [results, h, hp', hq', asAddr, hl]

end Go.Proofs.YtblpkifkaoaicaaGreat

namespace Go.Proofs.YtblpkifkaoaicaaGreat
open Go Go.RowKit Go.Maps Wb

theorem store_secs (A B : Sec) : Wb.splice (secA A) 0 (secA B) = secA B := store_whole _ _ (by rw [secA_size, secA_size])
theorem le_secs (A B : Sec) : 0 + (secA B).size ≤ (secA A).size := by rw [secA_size, secA_size]; omega
theorem le_cells (A B : Wb.Cell) : 0 + (cellA B).size ≤ (cellA A).size := by rw [cellA_size, cellA_size]; omega
theorem store_cells (A B : Wb.Cell) : Wb.splice (cellA A) 0 (cellA B) = cellA B := store_whole _ _ (by rw [cellA_size, cellA_size])
def secV (s : Sec) : Value := .agg (secA s)

set_option maxRecDepth 100000 in
set_option maxHeartbeats 1000000 in
theorem read_calls (w : World) (h : DH) (D : Dv) (n : Nm) (k : Int) (hd : isDev w h D) (hn : nmOk n) :
    Calls Tryz.prog 31 #[.pointer (some ⟨h.p, 0, none⟩), .string (bs n), .int .i64 k] w (Quiet w (.tuple #[secV (D.read n k).1, .int .i64 (D.read n k).2])) := by
  have hks : KeyOk Tryz.prog 9 (.string (bs n)) := keyOkS hn
  cases hf : fget D.files n with
  | none =>
    have HF : Hid (longF D.files (.string (bs n)) = none) := by unfold Hid; rw [longF_at, hf]; rfl
    have HR : Hid (D.read n k = (Sec.zero, 10)) := by unfold Hid Dv.read; rw [hf]
    clear hf
    go_enter Tryz.func31, Tryz.ntmps31
    go_wp2_with (first
      | ((with_reducible refine gd_alloc 62 ?_); refine wl_alloc_agg rfl _ rfl _ zero28 ?_; intro b0 w1 hb0 HB0 HK0; have hd1 := hd.new HK0; have c3 := hd1.c3)
      | (at_lookup; refine wl_ok_no rfl _ _ _ rfl _ keyedS Tryz.underlying110 _ zeroI hd1.long rfl _ rfl hks HF.out ?_)
      | ((with_reducible refine gd_build 62 ?_); refine wl_build0 rfl _ rfl _ zeroBuild ?_)
      | ((with_reducible refine gd_store 62 ?_); refine wl_store_agg rfl _ _ _ rfl b0 _ rfl _ _ HB0 (secA Sec.zero) rfl (secA Sec.zero) (store_secs _ _) (le_secs _ _) (info28s _) (secA_one _) ?_; intro w2 HB1 HK1)
      | fail)
    refine bodyPost_ret (v := .tuple #[secV Sec.zero, .int .i64 10]) ?_ rfl ⟨by rw [HR.out], ?_⟩
    · exact results_two rfl _ _ b0 _ _ _ _ rfl rfl HB1 _ Tryz.underlying62 rfl (info28s _)
    · exact HK0.then HK1 (fun i hi e => absurd hb0 (by omega))
  | some l =>
    have HF : Hid (longF D.files (.string (bs n)) = some (.int .i64 l.length)) := by unfold Hid; rw [longF_at, hf]; rfl
    by_cases hk : k < 0 ∨ (l.length : Int) ≤ k
    · have HR : Hid (D.read n k = (Sec.zero, 1)) := by unfold Hid Dv.read; rw [hf]; simp only []; rw [if_pos hk]
      clear hf
      by_cases hk0 : k < 0
      · clear hk
        go_enter Tryz.func31, Tryz.ntmps31
        go_wp2_with (first
          | ((with_reducible refine gd_alloc 62 ?_); refine wl_alloc_agg rfl _ rfl _ zero28 ?_; intro b0 w1 hb0 HB0 HK0; have hd1 := hd.new HK0; have c3 := hd1.c3)
          | (at_lookup; refine wl_ok_at rfl _ _ _ rfl _ keyedS Tryz.underlying110 _ zeroI hd1.long rfl _ rfl hks _ HF.out ?_)
          | ((with_reducible refine gd_build 62 ?_); refine wl_build0 rfl _ rfl _ zeroBuild ?_)
          | ((with_reducible refine gd_store 62 ?_); refine wl_store_agg rfl _ _ _ rfl b0 _ rfl _ _ HB0 (secA Sec.zero) rfl (secA Sec.zero) (store_secs _ _) (le_secs _ _) (info28s _) (secA_one _) ?_; intro w2 HB1 HK1)
          | fail)
        refine bodyPost_ret (v := .tuple #[secV Sec.zero, .int .i64 1]) ?_ rfl ⟨by rw [HR.out], ?_⟩
        · exact results_two rfl _ _ b0 _ _ _ _ rfl rfl HB1 _ Tryz.underlying62 rfl (info28s _)
        · exact HK0.then HK1 (fun i hi e => absurd hb0 (by omega))
      · have hk1 : (l.length : Int) ≤ k := hk.resolve_left hk0
        clear hk
        go_enter Tryz.func31, Tryz.ntmps31
        go_wp2_with (first
          | ((with_reducible refine gd_alloc 62 ?_); refine wl_alloc_agg rfl _ rfl _ zero28 ?_; intro b0 w1 hb0 HB0 HK0; have hd1 := hd.new HK0; have c3 := hd1.c3)
          | (at_lookup; refine wl_ok_at rfl _ _ _ rfl _ keyedS Tryz.underlying110 _ zeroI hd1.long rfl _ rfl hks _ HF.out ?_)
          | ((with_reducible refine gd_build 62 ?_); refine wl_build0 rfl _ rfl _ zeroBuild ?_)
          | ((with_reducible refine gd_store 62 ?_); refine wl_store_agg rfl _ _ _ rfl b0 _ rfl _ _ HB0 (secA Sec.zero) rfl (secA Sec.zero) (store_secs _ _) (le_secs _ _) (info28s _) (secA_one _) ?_; intro w2 HB1 HK1)
          | fail)
        refine bodyPost_ret (v := .tuple #[secV Sec.zero, .int .i64 1]) ?_ rfl ⟨by rw [HR.out], ?_⟩
        · exact results_two rfl _ _ b0 _ _ _ _ rfl rfl HB1 _ Tryz.underlying62 rfl (info28s _)
        · exact HK0.then HK1 (fun i hi e => absurd hb0 (by omega))
    · obtain ⟨q, rfl⟩ := Int.eq_ofNat_of_zero_le (show 0 ≤ k by omega)
      have hq : q < l.length := by omega
      obtain ⟨c, hc⟩ : ∃ c, l[q]? = some c := ⟨_, List.getElem?_eq_getElem hq⟩
      have HC : Hid (cellF D.files (whereV n q) = some (.agg (cellA c))) := by unfold Hid; rw [cellF_at, hf, Option.bind_some, hc]; rfl
      have hlen : l.length ≤ 100000 := Nat.le_trans (used_le hf) (Nat.le_trans hd.wf.used hd.wf.most)
      have hkw : KeyOk Tryz.prog 128 (whereV n q) := keyOkW hn (by unfold kOk; omega)
      have HR : Hid (D.read n q = if c.nowBad = true then (Sec.zero, 7) else (c.now, 0)) := by unfold Hid Dv.read; rw [hf]; simp only []; rw [if_neg hk, Int.toNat_natCast, hc]
      clear hf hk hc hlen
      cases hb : c.nowBad with
      | true =>
        have HR2 : Hid (D.read n q = (Sec.zero, 7)) := by unfold Hid; rw [HR.out, hb]; rfl
        go_enter Tryz.func31, Tryz.ntmps31
        go_wp2_with (first
          | ((with_reducible refine gd_alloc 62 ?_); refine wl_alloc_agg rfl _ rfl _ zero28 ?_; intro b0 w1 hb0 HB0 HK0; have hd1 := hd.new HK0; have c3 := hd1.c3; have c4 := hd1.c4)
          | (at_lookup; refine wl_ok_at rfl _ _ _ rfl _ keyedS Tryz.underlying110 _ zeroI hd1.long rfl _ rfl hks _ HF.out ?_)
          | (at_lookup; refine wl_look_at rfl _ _ _ rfl _ keyedW Tryz.underlying111 _ zero65 hd1.cells rfl _ rfl hkw _ HC.out ?_)
          | ((with_reducible refine gd_alloc 130 ?_); refine wl_alloc_agg rfl _ rfl _ zero65 ?_; intro b1 w2 hb1 HB1 HK1; have HB2 := HK1.blk HB0 id; have ne1 := ne_new HB0 hb1)
          | ((with_reducible refine gd_store 130 ?_); refine wl_store_agg rfl _ _ _ rfl b1 _ rfl _ _ HB1 _ rfl (cellA c) (store_cells _ _) (le_cells _ _) (info65c c) (cellA_one c) ?_; intro w3 HB3 HK3; have HB4 := HK3.blk HB2 ne1; have c128 := ((cell_of_block HB3 128).trans (get128 _)).trans (by rw [hb]))
          | ((with_reducible refine gd_build 62 ?_); refine wl_build0 rfl _ rfl _ zeroBuild ?_)
          | ((with_reducible refine gd_store 62 ?_); refine wl_store_agg rfl _ _ _ rfl b0 _ rfl _ _ HB4 (secA Sec.zero) rfl (secA Sec.zero) (store_secs _ _) (le_secs _ _) (info28s _) (secA_one _) ?_; intro w4 HB5 HK5)
          | fail)
        refine bodyPost_ret (v := .tuple #[secV Sec.zero, .int .i64 7]) ?_ rfl ⟨by rw [HR2.out], ?_⟩
        · exact results_two rfl _ _ b0 _ _ _ _ rfl rfl HB5 _ Tryz.underlying62 rfl (info28s _)
        · have h1 : w.heap.size ≤ b1 := Nat.le_trans HK0.size hb1
          exact (((HK0.trans HK1).then HK3 (fun i hi e => absurd h1 (by omega))).then HK5 (fun i hi e => absurd hb0 (by omega)))
      | false =>
        have HR2 : Hid (D.read n q = (c.now, 0)) := by unfold Hid; rw [HR.out, hb]; rfl
        go_enter Tryz.func31, Tryz.ntmps31
        go_wp2_with (first
          | ((with_reducible refine gd_alloc 62 ?_); refine wl_alloc_agg rfl _ rfl _ zero28 ?_; intro b0 w1 hb0 HB0 HK0; have hd1 := hd.new HK0; have c3 := hd1.c3; have c4 := hd1.c4)
          | (at_lookup; refine wl_ok_at rfl _ _ _ rfl _ keyedS Tryz.underlying110 _ zeroI hd1.long rfl _ rfl hks _ HF.out ?_)
          | (at_lookup; refine wl_look_at rfl _ _ _ rfl _ keyedW Tryz.underlying111 _ zero65 hd1.cells rfl _ rfl hkw _ HC.out ?_)
          | ((with_reducible refine gd_alloc 130 ?_); refine wl_alloc_agg rfl _ rfl _ zero65 ?_; intro b1 w2 hb1 HB1 HK1; have HB2 := HK1.blk HB0 id; have ne1 := ne_new HB0 hb1)
          | ((with_reducible refine gd_store 130 ?_); refine wl_store_agg rfl _ _ _ rfl b1 _ rfl _ _ HB1 _ rfl (cellA c) (store_cells _ _) (le_cells _ _) (info65c c) (cellA_one c) ?_; intro w3 HB3 HK3; have HB4 := HK3.blk HB2 ne1; have c128 := ((cell_of_block HB3 128).trans (get128 _)).trans (by rw [hb]))
          | ((with_reducible refine gd_load 62 ?_); refine wl_load_agg rfl _ _ rfl b1 _ rfl _ _ _ HB3 (secA c.now) (extract_now c) _ Tryz.underlying62 rfl (info28s c.now) ?_)
          | ((with_reducible refine gd_store 62 ?_); refine wl_store_agg rfl _ _ _ rfl b0 _ rfl _ _ HB4 (secA c.now) rfl (secA c.now) (store_secs _ _) (le_secs _ _) (info28s _) (secA_one _) ?_; intro w4 HB5 HK5)
          | fail)
        refine bodyPost_ret (v := .tuple #[secV c.now, .int .i64 0]) ?_ rfl ⟨by rw [HR2.out], ?_⟩
        · exact results_two rfl _ _ b0 _ _ _ _ rfl rfl HB5 _ Tryz.underlying62 rfl (info28s _)
        · have h1 : w.heap.size ≤ b1 := Nat.le_trans HK0.size hb1
          exact (((HK0.trans HK1).then HK3 (fun i hi e => absurd h1 (by omega))).then HK5 (fun i hi e => absurd hb0 (by omega)))
end Go.Proofs.YtblpkifkaoaicaaGreat

namespace Go.Proofs.YtblpkifkaoaicaaGreat
open Go Go.RowKit Go.Maps Wb

def NewPost (m : Int) (w : World) (e : Ending) (w' : World) : Prop :=
  ∃ h : DH, e = .returned (.pointer (some ⟨h.p, 0, none⟩)) ∧ isDev w' h (Dv.new m) ∧ Keeps w w' (fun _ => False) ∧ ∀ i, h.S i → w.heap.size ≤ i

theorem longF_nil : longF [] = fun _ => none := by funext v; unfold longF; cases decS v <;> rfl
theorem cellF_nil : cellF [] = fun _ => none := by funext v; unfold cellF; cases decW v <;> rfl

theorem new_at (w : World) (m x : Int) (hx : x = min (max m 0) 100000) :
    NewPost m w (.returned (.pointer (some ⟨w.heap.size + 1 + 1, 0, none⟩))) (((w.alloc (.map #[] 0)).alloc (.map #[] 0)).alloc (.cells #[.int .i64 x, .int .i64 0, .int .i64 (-1), .map (some w.heap.size), .map (some (w.heap.size + 1))] 113)) := by
  have h1 : isMap Tryz.prog 9 (w.alloc (.map #[] 0)) w.heap.size (fun _ => none) := isMap_made _ _ _
  have h2 : isMap Tryz.prog 128 ((w.alloc (.map #[] 0)).alloc (.map #[] 0)) (w.heap.size + 1) (fun _ => none) := by
    have := isMap_made Tryz.prog 128 (w.alloc (.map #[] 0))
    simpa using this
  refine ⟨⟨w.heap.size + 1 + 1, w.heap.size, w.heap.size + 1⟩, rfl, ⟨?_, ?_, ?_, ?_, ?_⟩, ?_, ?_⟩
  · have := (MapKept.heap_alloc ((w.alloc (.map #[] 0)).alloc (.map #[] 0)) (.cells #[.int .i64 x, .int .i64 0, .int .i64 (-1), .map (some w.heap.size), .map (some (w.heap.size + 1))] 113)).1
    have e : ((Dv.new m).most : Int) = x := by simp [Dv.new]; omega
    simp only [fldA, e]
    simpa [Dv.new, used] using this
  · show isMap _ _ _ _ (longF [])
    rw [longF_nil]; exact (h1.alloc _).alloc _
  · show isMap _ _ _ _ (cellF [])
    rw [cellF_nil]; exact h2.alloc _
  · exact ⟨by simp [Dv.new]; omega, by simp [Dv.new], by simp [Dv.new], by simp [Dv.new, sorted], by simp [Dv.new, used], by simp [Dv.new]⟩
  · show w.heap.size ≠ w.heap.size + 1; omega
  · exact (((Keeps.refl w _).alloc _).alloc _).alloc _
  · rintro i (rfl | rfl | rfl) <;> simp <;> omega

set_option maxRecDepth 100000 in
set_option maxHeartbeats 1000000 in
theorem new_calls (w : World) (m : Int) : Calls Tryz.prog 23 #[.int .i64 m] w (NewPost m w) := by
  have hmm := @run_makeMap Tryz.prog
  by_cases h1 : m < 0
  · have HN := Lib.hid (new_at w m 0 (by omega))
    go_enter Tryz.func23, Tryz.ntmps23
    go_wp2
    go_ret
    exact HN.out
  · by_cases h2 : 100000 < m
    · have HN := Lib.hid (new_at w m 100000 (by omega))
      have h1' : 0 ≤ m := by omega
      clear h1
      go_enter Tryz.func23, Tryz.ntmps23
      go_wp2
      all_goals first
        | (go_ret; exact HN.out)
        | (exfalso; have : m ≤ 100000 := by assumption
           omega)
    · have HN := Lib.hid (new_at w m m (by omega))
      have h1' : 0 ≤ m := by omega
      have h2' : m ≤ 100000 := by omega
      clear h1 h2
      go_enter Tryz.func23, Tryz.ntmps23
      go_wp2
      go_ret
      exact HN.out
end Go.Proofs.YtblpkifkaoaicaaGreat

namespace Go.Proofs.YtblpkifkaoaicaaGreat
open Go Go.RowKit Go.Maps Wb

end Go.Proofs.YtblpkifkaoaicaaGreat

namespace Go.Proofs.YtblpkifkaoaicaaGreat
open Go Go.RowKit Go.Maps Wb

def syncC (c : Wb.Cell) : Wb.Cell := if c.fresh then c.lasts else c
def syncL (l : List Wb.Cell) (q : Nat) : List Wb.Cell := (l.take q).map syncC ++ l.drop q
theorem syncL_len (l : List Wb.Cell) {q : Nat} (h : q ≤ l.length) : (syncL l q).length = l.length := by simp [syncL]; omega
theorem syncL_zero (l : List Wb.Cell) : syncL l 0 = l := by simp [syncL]
theorem syncL_all (l : List Wb.Cell) : syncL l l.length = l.map syncC := by simp [syncL]
theorem syncL_at {l : List Wb.Cell} {q : Nat} {c : Wb.Cell} (h : l[q]? = some c) : (syncL l q)[q]? = some c := by
  obtain ⟨hq, rfl⟩ := List.getElem?_eq_some_iff.1 h
  unfold syncL
  rw [List.getElem?_append_right (by simp; omega)]
  simp [Nat.min_eq_left (Nat.le_of_lt hq), hq]
theorem syncL_succ {l : List Wb.Cell} {q : Nat} {c : Wb.Cell} (h : l[q]? = some c) : syncL l (q + 1) = (syncL l q).set q (syncC c) := by
  obtain ⟨hq, rfl⟩ := List.getElem?_eq_some_iff.1 h
  unfold syncL
  rw [List.take_succ_eq_append_getElem hq, List.map_append, List.set_append_right _ _ (by simp; omega)]
  rw [show q - ((l.take q).map syncC).length = 0 by simp; omega, List.drop_eq_getElem_cons hq]
  simp only [List.set_cons_zero, List.append_assoc, List.map_cons, List.map_nil, List.singleton_append]
theorem syncL_skip {l : List Wb.Cell} {q : Nat} {c : Wb.Cell} (h : l[q]? = some c) (hc : c.fresh = false) : syncL l (q + 1) = syncL l q := by
  rw [syncL_succ h]
  have : syncC c = c := by simp [syncC, hc]
  rw [this]
  apply List.ext_getElem?
  intro i
  rw [List.getElem?_set]
  have h1 := syncL_at h
  split
  · rename_i e; subst e
    have hq := (List.getElem?_eq_some_iff.1 h1).1
    rw [if_pos hq, h1]
  · rfl

theorem cellF_set {fs : Files} {n : Nm} {l : List Wb.Cell} {q : Nat} {c : Wb.Cell} (hq : q < l.length) :
    upd (cellF (fset fs n l)) (whereV n q) (some (cellV c)) = cellF (fset fs n (l.set q c)) := by
  have := cellF_fset_one (fset fs n l) n l q c (fget_fset_same _ _ _) (by omega)
  rw [if_neg (by omega), fset_fset] at this
  exact this.symm

theorem cellF_same {fs : Files} {n : Nm} {l : List Wb.Cell} (h : fget fs n = some l) : cellF (fset fs n l) = cellF fs := by
  funext v
  unfold cellF
  cases hv : decW v with
  | none => rfl
  | some x =>
    by_cases e : x.1 = n
    · simp [e, fget_fset_same, h]
    · simp [fget_fset_other _ _ e]

/-- A file has other cells, as many. -/
theorem isDev.recelled {w0 w : World} {h : DH} {D : Dv} {n : Nm} {l l' : List Wb.Cell} (hd : isDev w0 h D) (hf : fget D.files n = some l) (hl : l'.length = l.length)
    (hp : Parts w h (fldA D h) (longF D.files) (cellF (fset D.files n l'))) : isDev w h { D with files := fset D.files n l' } := by
  have hu : used (fset D.files n l') = used D.files := by
    have := used_fset hd.wf.sorted n l'
    rw [hf] at this
    simp at this
    omega
  refine ⟨?_, ?_, hp.cells, ⟨hd.wf.most, hd.wf.fuse, hd.wf.fuse', sorted_fset hd.wf.sorted _ _, by show used _ ≤ _; rw [hu]; exact hd.wf.used, nm_fset hd.wf.nm hf _⟩, hd.ne⟩
  · have := hp.fld
    simpa [fldA, hu] using this
  · rw [longF_fset_same _ _ _ _ hf hl]; exact hp.long

theorem buildW (n : Nm) (k : Int) (w : World) : (Instr.build 128 #[(0, .string (bs n)), (1, .int .i64 k)]).run Tryz.prog w = .ok (whereV n k) w := by kernel_rfl
theorem load_map (p : Addr) (b : Nat) (w : World) (h : w.cell? p = some (.map (some b))) : (Instr.loadAt 111 (.pointer (some p))).run Tryz.prog w = .ok (.map (some b)) w := by
  go_simp

def SyncRel (w : World) (h : DH) (D : Dv) (n : Nm) (l : List Wb.Cell) (q : Nat) (wr : World) : Prop :=
  Parts wr h (fldA D h) (longF D.files) (cellF (fset D.files n (syncL l q))) ∧ Keeps w wr h.S

set_option maxRecDepth 100000 in
set_option maxHeartbeats 1000000 in
theorem sync_some (w : World) (h : DH) (D : Dv) (n : Nm) (l : List Wb.Cell) (hd : isDev w h D) (hn : nmOk n) (ht : D.thr n = 0) (hl : fget D.files n = some l) :
    Calls Tryz.prog 54 #[.pointer (some ⟨h.p, 0, none⟩), .string (bs n)] w (DevPost h w (.int .i64 (D.sync n).2) (D.sync n).1) := by
  have hu1 : used D.files ≤ 100000 := Nat.le_trans hd.wf.used hd.wf.most
  have hlu := used_le hl
  have hlen : l.length ≤ 100000 := by omega
  have hr : D.sync n = ({ D with files := fset D.files n (l.map syncC) }.done, 0) := by
    have : (fun (c : Wb.Cell) => if c.fresh = true then c.lasts else c) = syncC := rfl
    simp [Dv.sync, ht, Dv.cells, hl, this]
  have HR := Lib.hid hr
  have HT := Lib.hid ht
  have HF : Hid (longF D.files (.string (bs n)) = some (.int .i64 l.length)) := by unfold Hid; rw [longF_at, hl]; rfl
  have HL0 := Lib.hid hl
  have HN := Lib.hid hn
  have hks : KeyOk Tryz.prog 9 (.string (bs n)) := keyOkS hn
  have hne := hd.ne
  have c3 := hd.c3
  clear hr ht hl hn
  go_enter Tryz.func54, Tryz.ntmps54
  go_wp2_with (first
    | (go_at_call 60; refine (there_calls _ h D n hd HN.out).mono ?_; rintro e w' ⟨he, rfl⟩; rw [HT.out] at he; subst he)
    | (at_lookup; refine wl_look_at rfl _ _ _ rfl _ keyedS Tryz.underlying110 _ zeroI hd.long rfl _ rfl hks _ HF.out ?_))
  go_loopw [20] (fun i wr => ∃ q : Nat, q ≤ l.length ∧ i = .int .i64 q ∧ SyncRel w h D n l q wr) (fun i _ => l.length - (intOf i).toNat)
  case atStart => exact ⟨0, Nat.zero_le _, rfl, by unfold SyncRel; rw [syncL_zero, cellF_same HL0.out]; exact ⟨hd.parts, Keeps.refl _ _⟩⟩
  case round =>
    obtain ⟨q, hq, rfl, hp, hk⟩ := hrel
    by_cases hlt : q < l.length
    · have hkw : KeyOk Tryz.prog 128 (whereV n q) := keyOkW HN.out (by unfold kOk; omega)
      have c4 : wr.cell? ⟨h.p, 4, none⟩ = some (.map (some h.bc)) := hp.c 4 _ rfl
      have hlt' : decide (q < l.length) = true := by simpa using hlt
      have hq9 : (q : Int) ≤ 100000 := by omega
      obtain ⟨c, hc⟩ : ∃ c, l[q]? = some c := ⟨_, List.getElem?_eq_getElem hlt⟩
      have HCQ := Lib.hid hc
      have HC : Hid (cellF (fset D.files n (syncL l q)) (whereV n q) = some (.agg (cellA c))) := by
        unfold Hid; rw [cellF_at, fget_fset_same, Option.bind_some, syncL_at hc]; rfl
      have HLQ : Hid (q < (syncL l q).length) := by unfold Hid; rw [syncL_len l hq]; exact hlt
      clear hc
      cases hfr : c.fresh with
      | false =>
        go_wp2_with (first
          | (at_lookup; refine wl_look_at rfl _ _ _ rfl _ keyedW Tryz.underlying111 _ zero65 hp.cells rfl _ rfl hkw _ HC.out ?_)
          | ((with_reducible refine gd_alloc 130 ?_); refine wl_alloc_agg rfl _ rfl _ zero65 ?_; intro b1 w3 hb1 HB3 HK3; have hp3 := hp.new HK3)
          | ((with_reducible refine gd_store 130 ?_); refine wl_store_agg rfl _ _ _ rfl b1 _ rfl _ _ HB3 _ rfl (cellA c) (store_cells _ _) (le_cells _ _) (info65c c) (cellA_one c) ?_; intro w4 HB5 HK4; have hp4 := hp3.keptNew hp hb1 HK4; have c131 := ((cell_of_block HB5 131).trans (get131 _)).trans (by rw [hfr]))
          | fail)
        go_roundw
        case rel => exact ⟨q + 1, by omega, by go_num, by rw [syncL_skip HCQ.out hfr]; exact hp4, (hk.then HK3 (fun _ _ => False.elim)).then HK4 (fun i hi e => absurd (Nat.le_trans hk.size hb1) (by omega))⟩
        case measure => simp [intOf]; omega
      | true =>
        go_wp2_with (first
          | (at_lookup; refine wl_look_at rfl _ _ _ rfl _ keyedW Tryz.underlying111 _ zero65 hp.cells rfl _ rfl hkw _ HC.out ?_)
          | ((with_reducible refine gd_alloc 130 ?_); refine wl_alloc_agg rfl _ rfl _ zero65 ?_; intro b1 w3 hb1 HB3 HK3; have hp3 := hp.new HK3)
          | ((with_reducible refine gd_store 130 ?_); refine wl_store_agg rfl _ _ _ rfl b1 _ rfl _ _ HB3 _ rfl (cellA c) (store_cells _ _) (le_cells _ _) (info65c c) (cellA_one c) ?_; intro w4 HB5 HK4; have hp4 := hp3.keptNew hp hb1 HK4; have c131 := ((cell_of_block HB5 131).trans (get131 _)).trans (by rw [hfr]))
          | fail)
        have HS0 : (∃ g, Parts w4.drew h (fldA D h) (longF D.files) g) ∧ w4.drew.heap[b1]? = some (.cells (cellA c) 130 (0, 0)) := ⟨⟨_, hp4.drew⟩, HB5⟩
        refine wp_region_held (S := fun w' => (∃ g, Parts w' h (fldA D h) (longF D.files) g) ∧ w'.heap[b1]? = some (.cells (cellA c) 130 (0, 0))) (by kernel_rfl) ?_
        refine ya_take 0 rfl (by kernel_rfl) (by kernel_rfl) (by kernel_rfl) (fun _ _ _ h => h) HS0 (yi_pure rfl (.pointer (some ⟨h.p, 0, none⟩)) (fun _ => rfl)) ?_
        simp only [l_a, l_s, l_z]
        refine ya_take 1 rfl (by kernel_rfl) (by kernel_rfl) (by kernel_rfl) (fun _ _ _ h => h) HS0 (yi_pure rfl (.pointer (some ⟨h.p, 0, none⟩)) (fun _ => rfl)) ?_
        simp only [l_a, l_s, l_z]
        refine ya_take 2 rfl (by kernel_rfl) (by kernel_rfl) (by kernel_rfl) (fun _ _ _ h => h) HS0 (yi_pure rfl (.pointer (some ⟨h.p, 4, none⟩)) (fun _ => rfl)) ?_
        simp only [l_a, l_s, l_z]
        refine ya_take 3 rfl (by kernel_rfl) (by kernel_rfl) (by kernel_rfl) (fun _ _ _ h => h) HS0 (yi_load rfl _ _ rfl _ rfl (.map (some h.bc)) (fun _ h => h.1.elim fun _ h => h.c 4 _ rfl) (load_map _ _)) ?_
        simp only [l_a, l_s, l_z]
        refine ya_take 4 rfl (by kernel_rfl) (by kernel_rfl) (by kernel_rfl) (fun _ _ _ h => h) HS0 (yi_pure rfl (.string (bs n)) (fun _ => rfl)) ?_
        simp only [l_a, l_s, l_z]
        refine ya_take 5 rfl (by kernel_rfl) (by kernel_rfl) (by kernel_rfl) (fun _ _ _ h => h) HS0 (yi_pure rfl (.int .i64 q) (fun _ => rfl)) ?_
        simp only [l_a, l_s, l_z]
        refine ya_take 6 rfl (by kernel_rfl) (by kernel_rfl) (by kernel_rfl) (fun _ _ _ h => h) HS0 (yi_build rfl _ _ rfl [(0, .string (bs n)), (1, .int .i64 q)] rfl (whereV n q) (buildW n q)) ?_
        simp only [l_a, l_s, l_z]
        refine ya_take 7 rfl (by kernel_rfl) (by kernel_rfl) (by kernel_rfl) (fun _ _ _ h => h) HS0 (yi_load_agg rfl _ _ rfl b1 0 rfl _ _ _ (fun _ h => h.2) (cellA c) (extract_all _) _ Tryz.underlying130 rfl (info65c _)) ?_
        simp only [l_a, l_s, l_z]
        refine ya_one 8 rfl (by kernel_rfl) ((wp_call 67 _ _ rfl _ Tryz.func67 (by kernel_rfl) (by kernel_rfl) [.agg (cellA c)] rfl (lasts_calls _ c) ?_))
        rintro e w5 ⟨rfl, HK5⟩
        have hp5 := hp4.drew.new HK5
        refine ⟨_, rfl, ⟨⟨_, hp5⟩, HK5.blk HB5 id⟩, ?_⟩
        simp only [Act.put, l_a, l_s, l_z]
        have hbc : b1 ≠ h.bc := fun e => absurd hp.cells.lt (by rw [← e]; omega)
        refine ya_one 9 rfl (by kernel_rfl) ((wp_mapset _ _ _ _ rfl _ keyedW Tryz.underlying111 hp5.cells rfl (whereV n q) (cellV c.lasts) rfl rfl hkw ?_))
        intro w6 hm6 HK6
        have hp6 := hp5.setCells HK6 hm6 hne
        have HK7 : Keeps w w6 h.S := ((((hk.then HK3 (fun _ _ => False.elim)).then HK4 (fun i hi e => absurd (Nat.le_trans hk.size hb1) (by omega))).drew.then HK5 (fun _ _ => False.elim)).then HK6 (fun i _ e => .inr (.inr e)))
        refine ⟨⟨⟨_, hp6⟩, HK6.blk (HK5.blk HB5 id) hbc⟩, wpAnyH_done (by kernel_rfl) ?_ _⟩
        go_wp2
        go_roundw
        case rel => exact ⟨q + 1, by omega, by go_num, by rw [syncL_succ HCQ.out, show syncC c = c.lasts by simp [syncC, hfr], ← cellF_set HLQ.out]; exact hp6, HK7⟩
        case measure => simp [intOf]; omega
    · have hge : decide (q < l.length) = false := by simpa using hlt
      obtain rfl : q = l.length := by omega
      clear hlt
      have hd2 : isDev wr h { D with files := fset D.files n (l.map syncC) } := hd.recelled HL0.out (by simp) (by rw [← syncL_all]; exact hp)
      go_wp2_with (first
        | (go_at_call 50; refine (done_calls _ h _ hd2).mono ?_; rintro e w3 ⟨rfl, hd3, HK3⟩)
        | fail)
      go_ret
      exact post_of HR.out hd3 (hk.trans HK3)

set_option maxRecDepth 100000 in
set_option maxHeartbeats 1000000 in
theorem sync_calls (w : World) (h : DH) (D : Dv) (n : Nm) (hd : isDev w h D) (hn : nmOk n) :
    Calls Tryz.prog 54 #[.pointer (some ⟨h.p, 0, none⟩), .string (bs n)] w (DevPost h w (.int .i64 (D.sync n).2) (D.sync n).1) := by
  by_cases ht : D.thr n = 0
  · cases hl : fget D.files n with
    | none => simp [Dv.thr, hl] at ht; split at ht <;> cases ht
    | some l => exact sync_some w h D n l hd hn ht hl
  · have hr : D.sync n = (D, D.thr n) := by simp [Dv.sync, ht]
    have HR := Lib.hid hr
    have hb1 : (D.thr n == 0) = false := by simp [ht]
    have hb2 : (D.thr n != 0) = true := by simp [ht]
    clear hr ht
    go_enter Tryz.func54, Tryz.ntmps54
    go_wp2_with (go_at_call 60; refine (there_calls _ h D n hd hn).mono ?_; rintro e w' ⟨rfl, rfl⟩)
    go_ret
    exact post_of HR.out hd (Keeps.refl _ _)
end Go.Proofs.YtblpkifkaoaicaaGreat

namespace Go.Proofs.YtblpkifkaoaicaaGreat
open Go Go.RowKit Go.Maps Wb

theorem mapM_of {α β : Type} {l : List α} {f : α → Option β} {g : α → β} (h : ∀ x ∈ l, f x = some (g x)) : l.mapM f = some (l.map g) := by
  induction l with
  | nil => rfl
  | cons a r ih =>
    rw [List.mapM_cons, h a (by simp), ih (fun x hx => h x (by simp [hx]))]
    rfl
theorem keyTypeSec : Tryz.prog.keyType 62 = true := by kernel_rfl
theorem cellsSec : Tryz.prog.cellsOf 62 = 64 := by kernel_rfl
theorem cellsU8 : Tryz.prog.cellsOf 5 = 1 := by kernel_rfl
theorem formedSec (s : Sec) : (secV s).formed Tryz.prog 62 = true := by
  simp [Value.formed, secV, Tryz.underlying62, cellsSec, secA_size]
theorem keyOkSec (s : Sec) : KeyOk Tryz.prog 62 (secV s) := by
  obtain ⟨m, hm⟩ := typesS
  refine ⟨.string (keyBytes ((List.range 64).map fun i => [Lit.int .u8 ((s.1.getD i 0).toNat : Int)]).flatten), ?_⟩
  unfold keyOf
  simp only [Tryz.underlying62, keyTypeSec, formedSec, Bool.and_self, if_true, hm]
  unfold Program.keyLits
  simp only [Tryz.underlying62]
  rw [if_pos (by rw [cellsSec]; simp [secV, Value.cells, secA, s.2])]
  rw [mapM_of (g := fun i => [Lit.int .u8 ((s.1.getD i 0).toNat : Int)])]
  · rfl
  · intro i hi
    have hi : i < 64 := by simpa using hi
    have hl : i < s.1.length := by rw [s.2]; exact hi
    have hc : ((secV s).cells.toList.drop (i * Tryz.prog.cellsOf 5)).take (Tryz.prog.cellsOf 5) = [.int .u8 ((s.1.getD i 0).toNat : Int)] := by
      rw [cellsU8, Nat.mul_one]
      simp only [secV, Value.cells, secA, List.toList_toArray]
      rw [List.drop_eq_getElem_cons (by simpa using hl)]
      simp [List.getD, hl]
    rw [hc]
    unfold Program.keyLits
    have hw : (Lit.int .u8 ((s.1.getD i 0).toNat : Int)).wf = true := by
      have := (s.1.getD i 0).toNat_lt
      generalize (s.1.getD i 0).toNat = c at *
      simp [Lit.wf, IntKind.min, IntKind.max, IntKind.signed, IntKind.bits]; omega
    simp only [Tryz.underlying5]
    simp only [hw, and_self, if_true]
theorem keyedSec : Keyed Tryz.prog 62 :=
  Keyed.of_law (deep_law_gate Tryz.laidOut (of_decide_eq_true (by kernel_rfl)) (of_decide_eq_true (by kernel_rfl)) keyTypeSec (by rw [Tryz.underlying62]))
theorem secV_inj {s t : Sec} (h : secV s = secV t) : s = t := by
  apply Subtype.ext
  have h1 : (secA s).toList = (secA t).toList := by
    simp only [secV, Value.agg.injEq] at h
    rw [h]
  simp only [secA, List.toList_toArray] at h1
  exact (List.map_inj_right (fun a b hab => by
    simp only [Value.int.injEq, true_and] at hab
    exact UInt8.toNat_inj.1 (by omega))).1 h1
theorem run_equal_sec (w : World) (s t : Sec) : (Op.equal 62 (secV s) (secV t)).run Tryz.prog w = .ok (decide (s = t)) w := by
  obtain ⟨ls, hs⟩ := keyOkSec s
  obtain ⟨lt, ht⟩ := keyOkSec t
  obtain ⟨r, hr, hi⟩ := Go.run_equal_deep (m := 3) w (by decide) (k := 62) (by kernel_rfl) (by rw [Tryz.underlying62]) hs ht
  rw [hr]
  by_cases h : s = t
  · subst h
    rw [hs] at ht
    cases ht
    rw [hi.2 rfl]; simp
  · have : r = false := by
      cases r with
      | false => rfl
      | true => exact absurd (secV_inj (keyedSec.inj hs (by rw [hi.1 rfl]; exact ht))) h
    rw [this]; simp [h]
theorem run_eql_sec (w : World) (s t : Sec) : (binOp BinOp.eql 62 (secV s) (secV t)).run Tryz.prog w = .ok (.bool (decide (s = t))) w := by
  show (binOp BinOp.eql 62 (.agg (secA s)) (.agg (secA t))).run Tryz.prog w = _
  unfold binOp
  simp only
  have := run_equal_sec w s t
  unfold secV at this
  rw [Sem.run_bind, this]; rfl
theorem run_guard_sec (w : World) (op : BinOp) (x y : Operand) (s t : Sec) : (eqGuard op 62 x y (secV s) (secV t)).run Tryz.prog w = .ok () w := by
  unfold eqGuard secV
  cases op <;> simp [Sem.run_bind]
end Go.Proofs.YtblpkifkaoaicaaGreat
