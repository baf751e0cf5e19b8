import Derived.Test.YtadjcdfmppcpnaaS3
import Derived.Deep.RegionHeld3
/-! Package sect: Read, lasts, fallen, Fuse, Len, Used, Most, New. -/
namespace Go.Proofs.Ytadjcdfmppcpnaa
open Go Go.RowKit Go.Maps Wb

theorem fuse_calls (w : World) (h : DH) (D : Dv) (n : Int) (hd : isDev w h D) (hn : kOk n) :
    Calls Try.prog 33 #[.pointer (some ⟨h.p, 0, none⟩), .int .i64 n] w (DevPost h w (.tuple #[]) (D.setFuse n)) := by
  have f2 := hd.fr 2
  have c2 := hd.c2
  by_cases hm : n < -1
  · have HD : Hid (isDev (w.setCell ⟨h.p, 2, none⟩ (.int .i64 (-1))) h (D.setFuse n)) := by
      unfold Dv.setFuse; rw [Int.max_eq_right (by omega)]; exact hd.setFuse (-1) (by omega) (by omega)
    go_enter Try.func33, Try.ntmps33
    go_wp2
    go_end0
    exact ⟨rfl, HD.out, keeps_p _ _ _ _⟩
  · have HD : Hid (isDev (w.setCell ⟨h.p, 2, none⟩ (.int .i64 n)) h (D.setFuse n)) := by
      unfold Dv.setFuse; rw [Int.max_eq_left (by omega)]; exact hd.setFuse n (by omega) hn.2
    have hm' : -1 ≤ n := by omega
    clear hm
    go_enter Try.func33, Try.ntmps33
    go_wp2
    go_end0
    exact ⟨rfl, HD.out, keeps_p _ _ _ _⟩

theorem used_calls (w : World) (h : DH) (D : Dv) (hd : isDev w h D) :
    Calls Try.prog 32 #[.pointer (some ⟨h.p, 0, none⟩)] w fun e w' => e = .returned (.int .i64 (used D.files)) ∧ w = w' := by
  have c1 := hd.c1
  go_enter Try.func32, Try.ntmps32
  go_wp2
  go_ret
  exact ⟨rfl, rfl⟩

theorem most_calls (w : World) (h : DH) (D : Dv) (hd : isDev w h D) :
    Calls Try.prog 74 #[.pointer (some ⟨h.p, 0, none⟩)] w fun e w' => e = .returned (.int .i64 D.most) ∧ w = w' := by
  have c1 := hd.c0
  go_enter Try.func74, Try.ntmps74
  go_wp2
  go_ret
  exact ⟨rfl, rfl⟩

theorem len_calls (w : World) (h : DH) (D : Dv) (n : Nm) (hd : isDev w h D) (hn : nmOk n) :
    Calls Try.prog 26 #[.pointer (some ⟨h.p, 0, none⟩), .string (bs n)] w fun e w' => e = .returned (.int .i64 (D.len n)) ∧ w = w' := by
  have c3 := hd.c3
  have HL := hd.long
  cases hf : fget D.files n with
  | none =>
    have hr : D.len n = 0 := by simp [Dv.len, Dv.cells, hf]
    have HF : Hid (longF D.files (.string (bs n)) = none) := by unfold Hid; rw [longF_at, hf]; rfl
    have HR := Lib.hid hr
    clear hr hf
    go_enter Try.func26, Try.ntmps26
    go_wp2_with (at_lookup; refine wl_look_no rfl _ _ _ rfl _ keyedS Try.underlying110 _ zeroI HL rfl _ rfl (keyOkS hn) HF.out ?_)
    go_ret
    exact ⟨by rw [HR.out]; rfl, rfl⟩
  | some l =>
    have hr : D.len n = l.length := by simp [Dv.len, Dv.cells, hf]
    have HF : Hid (longF D.files (.string (bs n)) = some (.int .i64 l.length)) := by unfold Hid; rw [longF_at, hf]; rfl
    have HR := Lib.hid hr
    clear hr hf
    go_enter Try.func26, Try.ntmps26
    go_wp2_with (at_lookup; refine wl_look_at rfl _ _ _ rfl _ keyedS Try.underlying110 _ zeroI HL rfl _ rfl (keyOkS hn) _ HF.out ?_)
    go_ret
    exact ⟨by rw [HR.out]; rfl, rfl⟩

/-- A call that makes memory, and changes none. -/
def Quiet (w : World) (v : Value) (e : Ending) (w' : World) : Prop := e = .returned v ∧ Keeps w w' (fun _ => False)

theorem range_of_block {w : World} {b : Nat} {A : Array Value} {t : TypeId} {z : Nat × Nat} (h : w.heap[b]? = some (.cells A t z)) : w.rangeAt b 0 A.toList := fun j v hv => by
  rw [cell_of_block h]; simpa using hv
theorem there_of_block {w : World} {b : Nat} {A : Array Value} {t : TypeId} (h : w.heap[b]? = some (.cells A t (0, 0))) : w.there b 0 A.size := fun j hj => by
  rw [cell_of_block h, free_of_block h]; simpa using hj
theorem load_bool (p : Addr) (b : Bool) (w : World) (h : w.cell? p = some (.bool b)) : (Instr.loadAt 4 (.pointer (some p))).run Try.prog w = .ok (.bool b) w := by
  go_simp
theorem zeroBuild (w : World) : (Instr.build 28 #[]).run Try.prog w = .ok (.agg (secA Sec.zero)) w := by kernel_rfl
theorem bad_blk {w : World} {b : Nat} {t : TypeId} (c : Wb.Cell) (h : w.heap[b]? = some (.cells (cellA { c with now := Sec.zero }) t (0, 0))) :
    (w.setCell ⟨b, 128, none⟩ (.bool true)).heap[b]? = some (.cells (cellA { c with now := Sec.zero, nowBad := true }) t (0, 0)) := by
  rw [blk_setCell h 128 _, set128]
theorem keeps_cells3 (w : World) (b i j k : Nat) (u v x : Value) : Keeps w (((w.setCell ⟨b, i, none⟩ u).setCell ⟨b, j, none⟩ v).setCell ⟨b, k, none⟩ x) (· = b) :=
  (keeps_cells2 w b i j u v).setCell (fun _ => rfl) _
theorem lasts_blk {w : World} {b : Nat} {t : TypeId} (c : Wb.Cell) (h : w.heap[b]? = some (.cells (cellA { c with last := c.now }) t (0, 0))) :
    (((w.setCell ⟨b, 129, none⟩ (.bool c.nowBad)).setCell ⟨b, 130, none⟩ (.bool true)).setCell ⟨b, 131, none⟩ (.bool false)).heap[b]? = some (.cells (cellA c.lasts) t (0, 0)) := by
  rw [blk_setCell (blk_setCell (blk_setCell h 129 _) 130 _) 131 _, set129, set130, set131]; rfl

set_option maxRecDepth 100000 in
set_option maxHeartbeats 1000000 in
theorem lasts_calls (w : World) (c : Wb.Cell) : Calls Try.prog 73 #[.agg (cellA c)] w (Quiet w (cellV c.lasts)) := by
  go_enter Try.func73, Try.ntmps73
  go_wp2_with (first
    | ((with_reducible refine gd_box 117 ?_); refine wl_box_agg rfl _ _ rfl _ rfl ?_; intro b0 w1 hb0 HB0 HK0)
    | ((with_reducible refine gd_alloc 117 ?_); refine wl_alloc_agg rfl _ rfl _ zero65 ?_; intro b1 w2 hb1 HB1 HK1; have HB2 := HK1.blk HB0 id; have ne1 := ne_new HB0 hb1; have c128 := (cell_of_block HB2 128).trans (get128 _))
    | ((with_reducible refine gd_load 28 ?_); refine wl_load_agg rfl _ _ rfl b0 _ rfl _ _ _ HB2 (secA c.now) (extract_now c) _ Try.underlying28 rfl (info28s c.now) ?_)
    | ((with_reducible refine gd_store 28 ?_); refine wl_store_agg rfl _ _ _ rfl b0 _ rfl _ _ HB2 (secA c.now) rfl (cellA { c with last := c.now }) (splice_last c _) (by simp [cellA_size, secA_size]) (info28s _) (secA_one _) ?_; intro w3 HB3 HK3; have HB4 := HK3.blk HB1 ne1.symm; have c129 := (cell_of_block HB3 129).trans (get129 _); have c130 := (cell_of_block HB3 130).trans (get130 _); have c131 := (cell_of_block HB3 131).trans (get131 _); have f129 := free_of_block HB3 129; have f130 := free_of_block HB3 130; have f131 := free_of_block HB3 131; have HB5 := lasts_blk c HB3; have HK5 := keeps_cells3 w3 b0 129 130 131 (.bool c.nowBad) (.bool true) (.bool false); have HB6 := HK5.blk HB4 ne1.symm)
    | ((with_reducible refine gd_load 117 ?_); refine wl_load_agg rfl _ _ rfl b0 _ rfl _ _ _ HB5 (cellA c.lasts) (extract_all _) _ Try.underlying117 rfl (info65c _) ?_)
    | ((with_reducible refine gd_store 117 ?_); refine wl_store_agg rfl _ _ _ rfl b1 _ rfl _ _ HB6 (cellA c.lasts) rfl (cellA c.lasts) (store_whole _ _ (by rw [cellA_size, cellA_size])) (by simp [cellA_size]) (info65c _) (cellA_one _) ?_; intro w7 HB7 HK7)
    | fail)
  refine bodyPost_ret (v := cellV c.lasts) ?_ rfl ⟨rfl, ?_⟩
  · exact results_cell_row rfl _ _ b1 _ _ _ _ rfl HB7 Try.underlying117 rfl (info65c _)
  · have h0 : w.heap.size ≤ b1 := Nat.le_trans HK0.size hb1
    exact ((((HK0.trans HK1).then HK3 (fun i hi e => absurd hb0 (by omega))).then HK5 (fun i hi e => absurd hb0 (by omega))).then HK7 (fun i hi e => absurd h0 (by omega)))

theorem extract_last (c : Wb.Cell) : (cellA c).extract 64 (64 + (secA c.last).size) = secA c.last := by
  apply Array.toList_inj.1
  rw [Array.toList_extract, cellA_list, secA_size]
  simp only [List.extract]
  rw [List.drop_append, secA_len, List.drop_eq_nil_of_le (by rw [secA_len]; omega), List.nil_append, Nat.sub_self, List.drop_zero,
    List.take_append_of_le_length (by rw [secA_len]; omega), List.take_of_length_le (by rw [secA_len]; omega)]

theorem results_two {fn : Func} {p q : Tmp} {ty : TypeId} (h : fn.results = #[.cell p ty, .tmp q]) (tmps : Array Value) (w : World) (g : Nat) (t : TypeId) (cs : Array Value) (fr : Nat × Nat) (v : Value)
    (hp : tmps.getD p undef = .pointer (some ⟨g, 0, none⟩)) (hq : tmps.getD q undef = v) (hg : w.heap[g]? = some (.cells cs t fr)) (d : TypeDesc)
    (hu : Try.prog.underlying ty = some d) (hd : d.isRow = true) (hi : (Try.prog.info? ty).map (·.size) = some cs.size) :
    (results fn tmps).run Try.prog w = .ok (.tuple #[.agg cs, v]) w := by
  have hp' : tmps[p]?.getD undef = .pointer (some ⟨g, 0, none⟩) := by simpa using hp
  have hq' : tmps[q]?.getD undef = v := by simpa using hq
  have hl : (loadVar ty ⟨g, 0, none⟩).run Try.prog w = .ok (.agg cs) w := by
    have := run_load_agg (P := Try.prog) (w := w) ty g 0 cs t fr hg cs (extract_all _) d hu hd hi
    simpa [Instr.loadAt, Instr.sureAddr] using this
  simp [results, h, hp', hq', asAddr, hl]

set_option maxRecDepth 100000 in
set_option maxHeartbeats 1000000 in
theorem fallen_calls (w : World) (c : Wb.Cell) (way : Int) : Calls Try.prog 72 #[.agg (cellA c), .int .i64 way] w (Quiet w (.tuple #[cellV (fallC c way).1, .bool (fallC c way).2])) := by
  by_cases h0 : way = 0
  · have HR : Hid (fallC c way = ({ c with now := c.last, nowBad := c.lastBad }, c.there)) := by unfold Hid fallC; rw [if_pos h0]
    have g0 : (way == 0) = true := by simp [h0]
    clear h0
    go_enter Try.func72, Try.ntmps72
    go_wp2_with (first
      | ((with_reducible refine gd_box 117 ?_); refine wl_box_agg rfl _ _ rfl _ rfl ?_; intro b0 w1 hb0 HB0 HK0)
      | ((with_reducible refine gd_alloc 117 ?_); refine wl_alloc_agg rfl _ rfl _ zero65 ?_; intro b1 w2 hb1 HB1 HK1; have HB2 := HK1.blk HB0 id; have ne1 := ne_new HB0 hb1; have c129 := (cell_of_block HB2 129).trans (get129 _))
      | ((with_reducible refine gd_load 28 ?_); refine wl_load_agg rfl _ _ rfl b0 _ rfl _ _ _ HB2 (secA c.last) (extract_last c) _ Try.underlying28 rfl (info28s c.last) ?_)
      | ((with_reducible refine gd_store 28 ?_); refine wl_store_agg rfl _ _ _ rfl b0 _ rfl _ _ HB2 (secA c.last) rfl (cellA { c with now := c.last }) (splice_now c _) (by simp [cellA_size, secA_size]) (info28s _) (secA_one _) ?_; intro w3 HB3 HK3; have HB4 := HK3.blk HB1 ne1.symm; have c128 := (cell_of_block HB3 128).trans (get128 _); have f128 := free_of_block HB3 128)
      | fail)
    have HB5 : (w3.setCell ⟨b0, 128, none⟩ (.bool c.lastBad)).heap[b0]? = some (.cells (cellA { c with now := c.last, nowBad := c.lastBad }) 117 (0, 0)) := by
      rw [blk_setCell HB3 128 _, set128]
    have HK5 := keeps_cell w3 b0 128 (.bool c.lastBad)
    have HB6 := HK5.blk HB4 ne1.symm
    clear c128 f128 c129
    generalize w3.setCell ⟨b0, 128, none⟩ (.bool c.lastBad) = w4 at *
    have c130 := (cell_of_block HB5 130).trans (get130 _)
    refine wp_region_held (S := fun w' => w'.heap[b0]? = some (.cells (cellA { c with now := c.last, nowBad := c.lastBad }) 117 (0, 0))) (by kernel_rfl) ?_
    refine wpAnyH_take (i := 0) rfl (by kernel_rfl) (by kernel_rfl) (by kernel_rfl) (fun _ _ _ h => h) (yi_load_agg rfl _ _ rfl b0 0 rfl _ _ _ (fun _ h => h) (cellA _) (extract_all _) _ Try.underlying117 rfl (info65c _)) HB5 ?_
    refine wpAnyH_take (i := 1) rfl (by kernel_rfl) (by kernel_rfl) (by kernel_rfl) (fun _ _ _ h => h) (yi_pure rfl (.pointer (some ⟨b0, 130, none⟩)) (fun _ => rfl)) HB5 ?_
    refine wpAnyH_take (i := 2) rfl (by kernel_rfl) (by kernel_rfl) (by kernel_rfl) (fun _ _ _ h => h) (yi_load rfl _ _ rfl _ rfl (.bool c.there) (fun _ h => (cell_of_block h 130).trans (get130 _)) (load_bool _ _)) HB5 ?_
    refine wpAnyH_all (rs := [3]) (by kernel_rfl) (by simp) (fun i hi => ?_)
    obtain rfl : i = 3 := by simpa using hi
    refine wo_of_wp rfl rfl (wp_store_agg _ _ _ rfl b1 0 rfl _ _ HB6 (cellA { c with now := c.last, nowBad := c.lastBad }) rfl (cellA { c with now := c.last, nowBad := c.lastBad }) (store_whole _ _ (by rw [cellA_size, cellA_size])) (by simp [cellA_size]) (info65c _) (cellA_one _) (fun w7 HB7 HK7 => ⟨HK7.blk HB5 ne1, ?_⟩))
    refine wpAnyH_take (i := 4) rfl (by kernel_rfl) (by kernel_rfl) (by kernel_rfl) (fun _ _ _ h => h) (yi_pure rfl (.bool c.there) (fun _ => rfl)) (HK7.blk HB5 ne1) ?_
    refine wpAnyH_done (by kernel_rfl) ?_ _
    go_wp2
    refine bodyPost_ret (v := .tuple #[cellV { c with now := c.last, nowBad := c.lastBad }, .bool c.there]) ?_ rfl ⟨by rw [HR.out], ?_⟩
    · exact results_two rfl _ _ b1 _ _ _ _ rfl rfl HB7 _ Try.underlying117 rfl (info65c _)
    · have h0 : w.heap.size ≤ b1 := Nat.le_trans HK0.size hb1
      exact ((((HK0.trans HK1).then HK3 (fun i hi e => absurd hb0 (by omega))).then HK5 (fun i hi e => absurd hb0 (by omega))).drew.then HK7 (fun i hi e => absurd h0 (by omega)))
  · by_cases h1 : way = 1
    · have HR : Hid (fallC c way = (c, true)) := by unfold Hid fallC; rw [if_neg h0, if_pos h1]
      have g0 : (way == 0) = false := by simp [h0]
      have g1 : (way == 1) = true := by simp [h1]
      clear h0 h1
      go_enter Try.func72, Try.ntmps72
      go_wp2_with (first
        | ((with_reducible refine gd_box 117 ?_); refine wl_box_agg rfl _ _ rfl _ rfl ?_; intro b0 w1 hb0 HB0 HK0)
        | ((with_reducible refine gd_alloc 117 ?_); refine wl_alloc_agg rfl _ rfl _ zero65 ?_; intro b1 w2 hb1 HB1 HK1; have HB2 := HK1.blk HB0 id; have ne1 := ne_new HB0 hb1)
        | ((with_reducible refine gd_load 117 ?_); refine wl_load_agg rfl _ _ rfl b0 _ rfl _ _ _ HB2 (cellA c) (extract_all _) _ Try.underlying117 rfl (info65c _) ?_)
        | ((with_reducible refine gd_store 117 ?_); refine wl_store_agg rfl _ _ _ rfl b1 _ rfl _ _ HB1 (cellA c) rfl (cellA c) (store_whole _ _ (by rw [cellA_size, cellA_size])) (by simp [cellA_size]) (info65c _) (cellA_one _) ?_; intro w7 HB7 HK7)
        | fail)
      refine bodyPost_ret (v := .tuple #[cellV c, .bool true]) ?_ rfl ⟨by rw [HR.out], ?_⟩
      · exact results_two rfl _ _ b1 _ _ _ _ rfl rfl HB7 _ Try.underlying117 rfl (info65c _)
      · have h0 : w.heap.size ≤ b1 := Nat.le_trans HK0.size hb1
        exact ((HK0.trans HK1).then HK7 (fun i hi e => absurd h0 (by omega)))
    · have HR : Hid (fallC c way = ({ c with now := Sec.zero, nowBad := true }, true)) := by unfold Hid fallC; rw [if_neg h0, if_neg h1]
      have g0 : (way == 0) = false := by simp [h0]
      have g1 : (way == 1) = false := by simp [h1]
      clear h0 h1
      have hbuild : ∀ w, (Instr.build 28 #[]).run Try.prog w = .ok (.agg (secA Sec.zero)) w := fun _ => by kernel_rfl
      go_enter Try.func72, Try.ntmps72
      go_wp2_with (first
        | ((with_reducible refine gd_box 117 ?_); refine wl_box_agg rfl _ _ rfl _ rfl ?_; intro b0 w1 hb0 HB0 HK0)
        | ((with_reducible refine gd_alloc 117 ?_); refine wl_alloc_agg rfl _ rfl _ zero65 ?_; intro b1 w2 hb1 HB1 HK1; have HB2 := HK1.blk HB0 id; have ne1 := ne_new HB0 hb1)
        | ((with_reducible refine gd_build 28 ?_); refine wl_build0 rfl _ rfl _ zeroBuild ?_)
        | ((with_reducible refine gd_store 28 ?_); refine wl_store_agg rfl _ _ _ rfl b0 _ rfl _ _ HB2 (secA Sec.zero) rfl (cellA { c with now := Sec.zero }) (splice_now c _) (by simp [cellA_size, secA_size]) (info28s _) (secA_one _) ?_; intro w3 HB3 HK3; have HB4 := HK3.blk HB1 ne1.symm; have c128 := (cell_of_block HB3 128).trans (get128 _); have f128 := free_of_block HB3 128; have HB5 := bad_blk c HB3; have HK5 := keeps_cell w3 b0 128 (.bool true); have HB6 := HK5.blk HB4 ne1.symm)
        | ((with_reducible refine gd_load 117 ?_); refine wl_load_agg rfl _ _ rfl b0 _ rfl _ _ _ HB5 (cellA _) (extract_all _) _ Try.underlying117 rfl (info65c _) ?_)
        | ((with_reducible refine gd_store 117 ?_); refine wl_store_agg rfl _ _ _ rfl b1 _ rfl _ _ HB6 (cellA { c with now := Sec.zero, nowBad := true }) rfl (cellA { c with now := Sec.zero, nowBad := true }) (store_whole _ _ (by rw [cellA_size, cellA_size])) (by simp [cellA_size]) (info65c _) (cellA_one _) ?_; intro w7 HB7 HK7)
        | fail)
      refine bodyPost_ret (v := .tuple #[cellV { c with now := Sec.zero, nowBad := true }, .bool true]) ?_ rfl ⟨by rw [HR.out], ?_⟩
      · exact results_two rfl _ _ b1 _ _ _ _ rfl rfl HB7 _ Try.underlying117 rfl (info65c _)
      · have h0 : w.heap.size ≤ b1 := Nat.le_trans HK0.size hb1
        exact ((((HK0.trans HK1).then HK3 (fun i hi e => absurd hb0 (by omega))).then HK5 (fun i hi e => absurd hb0 (by omega))).then HK7 (fun i hi e => absurd h0 (by omega)))
end Go.Proofs.Ytadjcdfmppcpnaa
