import Derived.Test.YtadjcdfmppcpnaaS4
/-! Package sect: Read, New. -/
namespace Go.Proofs.Ytadjcdfmppcpnaa
open Go Go.RowKit Go.Maps Wb

theorem store_secs (A B : Sec) : Wb.splice (secA A) 0 (secA B) = secA B := store_whole _ _ (by rw [secA_size, secA_size])
theorem le_secs (A B : Sec) : 0 + (secA B).size ≤ (secA A).size := by rw [secA_size, secA_size]; omega
theorem le_cells (A B : Wb.Cell) : 0 + (cellA B).size ≤ (cellA A).size := by rw [cellA_size, cellA_size]; omega
theorem store_cells (A B : Wb.Cell) : Wb.splice (cellA A) 0 (cellA B) = cellA B := store_whole _ _ (by rw [cellA_size, cellA_size])
def secV (s : Sec) : Value := .agg (secA s)

set_option maxRecDepth 100000 in
set_option maxHeartbeats 1000000 in
theorem read_calls (w : World) (h : DH) (D : Dv) (n : Nm) (k : Int) (hd : isDev w h D) (hn : nmOk n) :
    Calls Try.prog 27 #[.pointer (some ⟨h.p, 0, none⟩), .string (bs n), .int .i64 k] w (Quiet w (.tuple #[secV (D.read n k).1, .int .i64 (D.read n k).2])) := by
  have hks : KeyOk Try.prog 9 (.string (bs n)) := keyOkS hn
  cases hf : fget D.files n with
  | none =>
    have HF : Hid (longF D.files (.string (bs n)) = none) := by unfold Hid; rw [longF_at, hf]; rfl
    have HR : Hid (D.read n k = (Sec.zero, 10)) := by unfold Hid Dv.read; rw [hf]
    clear hf
    go_enter Try.func27, Try.ntmps27
    go_wp2_with (first
      | ((with_reducible refine gd_alloc 28 ?_); refine wl_alloc_agg rfl _ rfl _ zero28 ?_; intro b0 w1 hb0 HB0 HK0; have hd1 := hd.new HK0; have c3 := hd1.c3)
      | (at_lookup; refine wl_ok_no rfl _ _ _ rfl _ keyedS Try.underlying110 _ zeroI hd1.long rfl _ rfl hks HF.out ?_)
      | ((with_reducible refine gd_build 28 ?_); refine wl_build0 rfl _ rfl _ zeroBuild ?_)
      | ((with_reducible refine gd_store 28 ?_); refine wl_store_agg rfl _ _ _ rfl b0 _ rfl _ _ HB0 (secA Sec.zero) rfl (secA Sec.zero) (store_secs _ _) (le_secs _ _) (info28s _) (secA_one _) ?_; intro w2 HB1 HK1)
      | fail)
    refine bodyPost_ret (v := .tuple #[secV Sec.zero, .int .i64 10]) ?_ rfl ⟨by rw [HR.out], ?_⟩
    · exact results_two rfl _ _ b0 _ _ _ _ rfl rfl HB1 _ Try.underlying28 rfl (info28s _)
    · exact HK0.then HK1 (fun i hi e => absurd hb0 (by omega))
  | some l =>
    have HF : Hid (longF D.files (.string (bs n)) = some (.int .i64 l.length)) := by unfold Hid; rw [longF_at, hf]; rfl
    by_cases hk : k < 0 ∨ (l.length : Int) ≤ k
    · have HR : Hid (D.read n k = (Sec.zero, 1)) := by unfold Hid Dv.read; rw [hf]; simp only []; rw [if_pos hk]
      clear hf
      by_cases hk0 : k < 0
      · clear hk
        go_enter Try.func27, Try.ntmps27
        go_wp2_with (first
          | ((with_reducible refine gd_alloc 28 ?_); refine wl_alloc_agg rfl _ rfl _ zero28 ?_; intro b0 w1 hb0 HB0 HK0; have hd1 := hd.new HK0; have c3 := hd1.c3)
          | (at_lookup; refine wl_ok_at rfl _ _ _ rfl _ keyedS Try.underlying110 _ zeroI hd1.long rfl _ rfl hks _ HF.out ?_)
          | ((with_reducible refine gd_build 28 ?_); refine wl_build0 rfl _ rfl _ zeroBuild ?_)
          | ((with_reducible refine gd_store 28 ?_); refine wl_store_agg rfl _ _ _ rfl b0 _ rfl _ _ HB0 (secA Sec.zero) rfl (secA Sec.zero) (store_secs _ _) (le_secs _ _) (info28s _) (secA_one _) ?_; intro w2 HB1 HK1)
          | fail)
        refine bodyPost_ret (v := .tuple #[secV Sec.zero, .int .i64 1]) ?_ rfl ⟨by rw [HR.out], ?_⟩
        · exact results_two rfl _ _ b0 _ _ _ _ rfl rfl HB1 _ Try.underlying28 rfl (info28s _)
        · exact HK0.then HK1 (fun i hi e => absurd hb0 (by omega))
      · have hk1 : (l.length : Int) ≤ k := hk.resolve_left hk0
        clear hk
        go_enter Try.func27, Try.ntmps27
        go_wp2_with (first
          | ((with_reducible refine gd_alloc 28 ?_); refine wl_alloc_agg rfl _ rfl _ zero28 ?_; intro b0 w1 hb0 HB0 HK0; have hd1 := hd.new HK0; have c3 := hd1.c3)
          | (at_lookup; refine wl_ok_at rfl _ _ _ rfl _ keyedS Try.underlying110 _ zeroI hd1.long rfl _ rfl hks _ HF.out ?_)
          | ((with_reducible refine gd_build 28 ?_); refine wl_build0 rfl _ rfl _ zeroBuild ?_)
          | ((with_reducible refine gd_store 28 ?_); refine wl_store_agg rfl _ _ _ rfl b0 _ rfl _ _ HB0 (secA Sec.zero) rfl (secA Sec.zero) (store_secs _ _) (le_secs _ _) (info28s _) (secA_one _) ?_; intro w2 HB1 HK1)
          | fail)
        refine bodyPost_ret (v := .tuple #[secV Sec.zero, .int .i64 1]) ?_ rfl ⟨by rw [HR.out], ?_⟩
        · exact results_two rfl _ _ b0 _ _ _ _ rfl rfl HB1 _ Try.underlying28 rfl (info28s _)
        · exact HK0.then HK1 (fun i hi e => absurd hb0 (by omega))
    · obtain ⟨q, rfl⟩ := Int.eq_ofNat_of_zero_le (show 0 ≤ k by omega)
      have hq : q < l.length := by omega
      obtain ⟨c, hc⟩ : ∃ c, l[q]? = some c := ⟨_, List.getElem?_eq_getElem hq⟩
      have HC : Hid (cellF D.files (whereV n q) = some (.agg (cellA c))) := by unfold Hid; rw [cellF_at, hf, Option.bind_some, hc]; rfl
      have hlen : l.length ≤ 100000 := Nat.le_trans (used_le hf) (Nat.le_trans hd.wf.used hd.wf.most)
      have hkw : KeyOk Try.prog 119 (whereV n q) := keyOkW hn (by unfold kOk; omega)
      have HR : Hid (D.read n q = if c.nowBad = true then (Sec.zero, 7) else (c.now, 0)) := by unfold Hid Dv.read; rw [hf]; simp only []; rw [if_neg hk, Int.toNat_natCast, hc]
      clear hf hk hc hlen
      cases hb : c.nowBad with
      | true =>
        have HR2 : Hid (D.read n q = (Sec.zero, 7)) := by unfold Hid; rw [HR.out, hb]; rfl
        go_enter Try.func27, Try.ntmps27
        go_wp2_with (first
          | ((with_reducible refine gd_alloc 28 ?_); refine wl_alloc_agg rfl _ rfl _ zero28 ?_; intro b0 w1 hb0 HB0 HK0; have hd1 := hd.new HK0; have c3 := hd1.c3; have c4 := hd1.c4)
          | (at_lookup; refine wl_ok_at rfl _ _ _ rfl _ keyedS Try.underlying110 _ zeroI hd1.long rfl _ rfl hks _ HF.out ?_)
          | (at_lookup; refine wl_look_at rfl _ _ _ rfl _ keyedW Try.underlying111 _ zero65 hd1.cells rfl _ rfl hkw _ HC.out ?_)
          | ((with_reducible refine gd_alloc 117 ?_); refine wl_alloc_agg rfl _ rfl _ zero65 ?_; intro b1 w2 hb1 HB1 HK1; have HB2 := HK1.blk HB0 id; have ne1 := ne_new HB0 hb1)
          | ((with_reducible refine gd_store 117 ?_); refine wl_store_agg rfl _ _ _ rfl b1 _ rfl _ _ HB1 _ rfl (cellA c) (store_cells _ _) (le_cells _ _) (info65c c) (cellA_one c) ?_; intro w3 HB3 HK3; have HB4 := HK3.blk HB2 ne1; have c128 := ((cell_of_block HB3 128).trans (get128 _)).trans (by rw [hb]))
          | ((with_reducible refine gd_build 28 ?_); refine wl_build0 rfl _ rfl _ zeroBuild ?_)
          | ((with_reducible refine gd_store 28 ?_); refine wl_store_agg rfl _ _ _ rfl b0 _ rfl _ _ HB4 (secA Sec.zero) rfl (secA Sec.zero) (store_secs _ _) (le_secs _ _) (info28s _) (secA_one _) ?_; intro w4 HB5 HK5)
          | fail)
        refine bodyPost_ret (v := .tuple #[secV Sec.zero, .int .i64 7]) ?_ rfl ⟨by rw [HR2.out], ?_⟩
        · exact results_two rfl _ _ b0 _ _ _ _ rfl rfl HB5 _ Try.underlying28 rfl (info28s _)
        · have h1 : w.heap.size ≤ b1 := Nat.le_trans HK0.size hb1
          exact (((HK0.trans HK1).then HK3 (fun i hi e => absurd h1 (by omega))).then HK5 (fun i hi e => absurd hb0 (by omega)))
      | false =>
        have HR2 : Hid (D.read n q = (c.now, 0)) := by unfold Hid; rw [HR.out, hb]; rfl
        go_enter Try.func27, Try.ntmps27
        go_wp2_with (first
          | ((with_reducible refine gd_alloc 28 ?_); refine wl_alloc_agg rfl _ rfl _ zero28 ?_; intro b0 w1 hb0 HB0 HK0; have hd1 := hd.new HK0; have c3 := hd1.c3; have c4 := hd1.c4)
          | (at_lookup; refine wl_ok_at rfl _ _ _ rfl _ keyedS Try.underlying110 _ zeroI hd1.long rfl _ rfl hks _ HF.out ?_)
          | (at_lookup; refine wl_look_at rfl _ _ _ rfl _ keyedW Try.underlying111 _ zero65 hd1.cells rfl _ rfl hkw _ HC.out ?_)
          | ((with_reducible refine gd_alloc 117 ?_); refine wl_alloc_agg rfl _ rfl _ zero65 ?_; intro b1 w2 hb1 HB1 HK1; have HB2 := HK1.blk HB0 id; have ne1 := ne_new HB0 hb1)
          | ((with_reducible refine gd_store 117 ?_); refine wl_store_agg rfl _ _ _ rfl b1 _ rfl _ _ HB1 _ rfl (cellA c) (store_cells _ _) (le_cells _ _) (info65c c) (cellA_one c) ?_; intro w3 HB3 HK3; have HB4 := HK3.blk HB2 ne1; have c128 := ((cell_of_block HB3 128).trans (get128 _)).trans (by rw [hb]))
          | ((with_reducible refine gd_load 28 ?_); refine wl_load_agg rfl _ _ rfl b1 _ rfl _ _ _ HB3 (secA c.now) (extract_now c) _ Try.underlying28 rfl (info28s c.now) ?_)
          | ((with_reducible refine gd_store 28 ?_); refine wl_store_agg rfl _ _ _ rfl b0 _ rfl _ _ HB4 (secA c.now) rfl (secA c.now) (store_secs _ _) (le_secs _ _) (info28s _) (secA_one _) ?_; intro w4 HB5 HK5)
          | fail)
        refine bodyPost_ret (v := .tuple #[secV c.now, .int .i64 0]) ?_ rfl ⟨by rw [HR2.out], ?_⟩
        · exact results_two rfl _ _ b0 _ _ _ _ rfl rfl HB5 _ Try.underlying28 rfl (info28s _)
        · have h1 : w.heap.size ≤ b1 := Nat.le_trans HK0.size hb1
          exact (((HK0.trans HK1).then HK3 (fun i hi e => absurd h1 (by omega))).then HK5 (fun i hi e => absurd hb0 (by omega)))
end Go.Proofs.Ytadjcdfmppcpnaa
