import Derived.Test.YtblpkifkaoaicaaGreatYS1
/-! Package sect: the contracts of what has no loop. -/
namespace Go.Proofs.YtblpkifkaoaicaaGreat
open Go Go.RowKit Go.Maps Wb

theorem cell_of_block {w : World} {b : Nat} {a : Array Value} {t : TypeId} {z : Nat × Nat} (h : w.heap[b]? = some (.cells a t z)) (i : Nat) : w.cell? ⟨b, i, none⟩ = a[i]? := by
  simp [World.cell?, h]
theorem free_of_block {w : World} {b : Nat} {a : Array Value} {t : TypeId} (h : w.heap[b]? = some (.cells a t (0, 0))) (i : Nat) : w.frozen? ⟨b, i, none⟩ = false := by
  simp [World.frozen?, h]
theorem blk_setCell {w : World} {b : Nat} {a : Array Value} {t : TypeId} {z : Nat × Nat} (h : w.heap[b]? = some (.cells a t z)) (i : Nat) (v : Value) :
    (w.setCell ⟨b, i, none⟩ v).heap[b]? = some (.cells (a.setIfInBounds i v) t z) := by
  simp [World.setCell, Array.getElem?_modify, h]

theorem keeps_cell (w : World) (b i : Nat) (u : Value) : Keeps w (w.setCell ⟨b, i, none⟩ u) (· = b) := (Keeps.refl w (· = b)).setCell (fun _ => rfl) _
/-- Two single cells of a block are written. -/
theorem keeps_cells2 (w : World) (b i j : Nat) (u v : Value) : Keeps w ((w.setCell ⟨b, i, none⟩ u).setCell ⟨b, j, none⟩ v) (· = b) :=
  ((Keeps.refl w (· = b)).setCell (fun _ => rfl) _).setCell (fun _ => rfl) _

section
variable {w w' : World} {h : DH} {D : Dv} (hd : isDev w h D)
include hd
theorem isDev.c0 : w.cell? ⟨h.p, 0, none⟩ = some (.int .i64 D.most) := by rw [cell_of_block hd.fld]; rfl
theorem isDev.c1 : w.cell? ⟨h.p, 1, none⟩ = some (.int .i64 (used D.files)) := by rw [cell_of_block hd.fld]; rfl
theorem isDev.c2 : w.cell? ⟨h.p, 2, none⟩ = some (.int .i64 D.fuse) := by rw [cell_of_block hd.fld]; rfl
theorem isDev.c3 : w.cell? ⟨h.p, 3, none⟩ = some (.map (some h.bl)) := by rw [cell_of_block hd.fld]; rfl
theorem isDev.c4 : w.cell? ⟨h.p, 4, none⟩ = some (.map (some h.bc)) := by rw [cell_of_block hd.fld]; rfl
theorem isDev.fr (i : Nat) : w.frozen? ⟨h.p, i, none⟩ = false := free_of_block hd.fld i
theorem isDev.pl : h.p ≠ h.bl := by
  obtain ⟨_, _, hb, _⟩ := hd.long
  intro e
  have := hd.fld
  rw [e, hb] at this
  cases this
theorem isDev.pc : h.p ≠ h.bc := by
  obtain ⟨_, _, hb, _⟩ := hd.cells
  intro e
  have := hd.fld
  rw [e, hb] at this
  cases this
theorem isDev.kept {S : Nat → Prop} (hk : Keeps w w' S) (hp : ¬ S h.p) (hl : ¬ S h.bl) (hc : ¬ S h.bc) : isDev w' h D :=
  ⟨hk.blk hd.fld hp, hd.long.kept hk hl, hd.cells.kept hk hc, hd.wf, hd.ne⟩
theorem isDev.apart {S : Nat → Prop} (hk : Keeps w w' S) (hS : ∀ i, S i → ¬ h.S i) : isDev w' h D :=
  hd.kept hk (fun s => hS _ s (.inl rfl)) (fun s => hS _ s (.inr (.inl rfl))) (fun s => hS _ s (.inr (.inr rfl)))
theorem isDev.new (hk : Keeps w w' (fun _ => False)) : isDev w' h D := hd.kept hk id id id
theorem isDev.keptNew {w2 : World} {D2 : Dv} (hd2 : isDev w2 h D2) {b : Nat} (hb : w2.heap.size ≤ b) (hk : Keeps w w' (· = b)) : isDev w' h D :=
  hd.kept hk (fun e => absurd (lt_of_blk hd2.fld) (by rw [e]; omega)) (fun e => absurd hd2.long.lt (by rw [e]; omega)) (fun e => absurd hd2.cells.lt (by rw [e]; omega))
theorem isDev.drewN (n : Nat) : isDev (w.drewN n) h D := ⟨hd.fld, hd.long, hd.cells, hd.wf, hd.ne⟩
theorem isDev.drew : isDev w.drew h D := ⟨hd.fld, hd.long, hd.cells, hd.wf, hd.ne⟩
theorem isDev.lt {i : Nat} (hi : h.S i) : i < w.heap.size := by
  rcases hi with rfl | rfl | rfl
  · exact lt_of_blk hd.fld
  · exact hd.long.lt
  · exact hd.cells.lt
theorem isDev.setFuse (n : Int) (h1 : -1 ≤ n) (h2 : n ≤ 9223372036854775807) : isDev (w.setCell ⟨h.p, 2, none⟩ (.int .i64 n)) h { D with fuse := n } := by
  have hk : Keeps w (w.setCell ⟨h.p, 2, none⟩ (.int .i64 n)) (· = h.p) := (Keeps.refl w (· = h.p)).setCell (fun _ => rfl) _
  refine ⟨?_, hd.long.kept hk hd.pl.symm, hd.cells.kept hk hd.pc.symm, ⟨hd.wf.most, h1, h2, hd.wf.sorted, hd.wf.used, hd.wf.nm⟩, hd.ne⟩
  rw [blk_setCell hd.fld]
  rfl
end

/-- A device in the midst of a change: its fields, its maps. -/
structure Parts (w : World) (h : DH) (A : Array Value) (f g : Value → Option Value) : Prop where
  fld : w.heap[h.p]? = some (.cells A 113 (0, 0))
  long : isMap Tryz.prog 9 w h.bl f
  cells : isMap Tryz.prog 128 w h.bc g
theorem isDev.parts {w : World} {h : DH} {D : Dv} (hd : isDev w h D) : Parts w h (fldA D h) (longF D.files) (cellF D.files) := ⟨hd.fld, hd.long, hd.cells⟩
section
variable {w w' : World} {h : DH} {A : Array Value} {f g : Value → Option Value} (hd : Parts w h A f g)
include hd
theorem Parts.pl : h.p ≠ h.bl := by
  obtain ⟨_, _, hb, _⟩ := hd.long
  intro e
  have := hd.fld
  rw [e, hb] at this
  cases this
theorem Parts.pc : h.p ≠ h.bc := by
  obtain ⟨_, _, hb, _⟩ := hd.cells
  intro e
  have := hd.fld
  rw [e, hb] at this
  cases this
theorem Parts.kept {S : Nat → Prop} (hk : Keeps w w' S) (hp : ¬ S h.p) (hl : ¬ S h.bl) (hc : ¬ S h.bc) : Parts w' h A f g :=
  ⟨hk.blk hd.fld hp, hd.long.kept hk hl, hd.cells.kept hk hc⟩
theorem Parts.new (hk : Keeps w w' (fun _ => False)) : Parts w' h A f g := hd.kept hk id id id
theorem Parts.keptNew {w2 : World} {A2 : Array Value} {f2 g2 : Value → Option Value} (hd2 : Parts w2 h A2 f2 g2) {b : Nat} (hb : w2.heap.size ≤ b) (hk : Keeps w w' (· = b)) : Parts w' h A f g :=
  hd.kept hk (fun e => absurd (lt_of_blk hd2.fld) (by rw [e]; omega)) (fun e => absurd hd2.long.lt (by rw [e]; omega)) (fun e => absurd hd2.cells.lt (by rw [e]; omega))
theorem Parts.drewN (n : Nat) : Parts (w.drewN n) h A f g := ⟨hd.fld, hd.long, hd.cells⟩
theorem Parts.drew : Parts w.drew h A f g := ⟨hd.fld, hd.long, hd.cells⟩
theorem Parts.setLong {f' : Value → Option Value} (hk : Keeps w w' (· = h.bl)) (hm : isMap Tryz.prog 9 w' h.bl f') (hne : h.bl ≠ h.bc) : Parts w' h A f' g :=
  ⟨hk.blk hd.fld hd.pl, hm, hd.cells.kept hk hne.symm⟩
theorem Parts.setCells {g' : Value → Option Value} (hk : Keeps w w' (· = h.bc)) (hm : isMap Tryz.prog 128 w' h.bc g') (hne : h.bl ≠ h.bc) : Parts w' h A f g' :=
  ⟨hk.blk hd.fld hd.pc, hd.long.kept hk hne, hm⟩
theorem Parts.setFld (i : Nat) (v : Value) : Parts (w.setCell ⟨h.p, i, none⟩ v) h (A.setIfInBounds i v) f g :=
  have hk : Keeps w (w.setCell ⟨h.p, i, none⟩ v) (· = h.p) := (Keeps.refl w (· = h.p)).setCell (fun _ => rfl) _
  ⟨blk_setCell hd.fld i v, hd.long.kept hk hd.pl.symm, hd.cells.kept hk hd.pc.symm⟩
theorem Parts.fr (i : Nat) : w.frozen? ⟨h.p, i, none⟩ = false := free_of_block hd.fld i
theorem Parts.c (i : Nat) (v : Value) (hv : A[i]? = some v) : w.cell? ⟨h.p, i, none⟩ = some v := (cell_of_block hd.fld i).trans hv
end

theorem keeps_p (w : World) (h : DH) (i : Nat) (v : Value) : Keeps w (w.setCell ⟨h.p, i, none⟩ v) h.S := (Keeps.refl w h.S).setCell (fun _ => .inl rfl) _

set_option maxRecDepth 100000 in
set_option maxHeartbeats 400000 in
theorem done_calls (w : World) (h : DH) (D : Dv) (hd : isDev w h D) :
    Calls Tryz.prog 50 #[.pointer (some ⟨h.p, 0, none⟩)] w (DevPost h w (.int .i64 0) D.done) := by
  have c2 := hd.c2
  have f2 := hd.fr 2
  have w1 := hd.wf.fuse
  have w2 := Lib.hid hd.wf.fuse'
  by_cases hp : 0 < D.fuse
  · have hu : 0 ≤ D.fuse - 1 := by omega
    have hx : D.fuse - 1 ≤ 9223372036854775807 := by have := w2.out; omega
    have HR : Hid (D.done = { D with fuse := D.fuse - 1 }) := by unfold Hid Dv.done; rw [if_pos hp]
    have HD := Lib.hid (hd.setFuse (D.fuse - 1) (by omega) hx)
    have hx' : D.fuse ≤ 9223372036854775807 := w2.out
    clear hd hu hx
    go_enter Tryz.func50, Tryz.ntmps50
    go_wp2
    go_ret
    exact ⟨rfl, by rw [HR.out]; exact HD.out, keeps_p _ _ _ _⟩
  · have HR : Hid (D.done = D) := by unfold Hid Dv.done; rw [if_neg hp]
    go_enter Tryz.func50, Tryz.ntmps50
    go_wp2
    go_ret
    exact ⟨rfl, by rw [HR.out]; exact hd, Keeps.refl _ _⟩

set_option maxRecDepth 100000 in
set_option maxHeartbeats 400000 in
theorem there_calls (w : World) (h : DH) (D : Dv) (n : Nm) (hd : isDev w h D) (hn : nmOk n) :
    Calls Tryz.prog 60 #[.pointer (some ⟨h.p, 0, none⟩), .string (bs n)] w fun e w' => e = .returned (.int .i64 (D.thr n)) ∧ w = w' := by
  have c2 := hd.c2
  have c3 := hd.c3
  have HL := hd.long
  by_cases h0 : D.fuse = 0
  · have hz : (D.fuse == 0) = true := by simp [h0]
    have hr : D.thr n = 8 := by simp [Dv.thr, h0]
    have HR := Lib.hid hr
    clear hr h0
    go_enter Tryz.func60, Tryz.ntmps60
    go_wp2
    go_ret
    exact ⟨by rw [HR.out]; rfl, rfl⟩
  · have hz : (D.fuse == 0) = false := by simp [h0]
    cases hf : fget D.files n with
    | none =>
      have hr : D.thr n = 10 := by simp [Dv.thr, h0, hf]
      have HF : Hid (longF D.files (.string (bs n)) = none) := by unfold Hid; rw [longF_at, hf]; rfl
      have HR := Lib.hid hr
      clear hr h0 hf
      go_enter Tryz.func60, Tryz.ntmps60
      go_wp2_with (first | (at_lookup; refine wl_ok_no rfl _ _ _ rfl _ keyedS Tryz.underlying110 _ zeroI HL rfl _ rfl (keyOkS hn) HF.out ?_) | go_in)
      go_ret
      exact ⟨by rw [HR.out]; rfl, rfl⟩
    | some l =>
      have hr : D.thr n = 0 := by simp [Dv.thr, h0, hf]
      have HF : Hid (longF D.files (.string (bs n)) = some (lenV l)) := by unfold Hid; rw [longF_at, hf]; rfl
      have HR := Lib.hid hr
      clear hr h0 hf
      go_enter Tryz.func60, Tryz.ntmps60
      go_wp2_with (first | (at_lookup; refine wl_ok_at rfl _ _ _ rfl _ keyedS Tryz.underlying110 _ zeroI HL rfl _ rfl (keyOkS hn) _ HF.out ?_) | go_in)
      go_ret
      exact ⟨by rw [HR.out]; rfl, rfl⟩

theorem len20 {n : Nm} (h : (bs n).toList.isEmpty = false ∧ ((bs n).size : Int) ≤ 20) : n.length ≤ 20 := by
  have := h.2
  rw [bs_size] at this
  omega
theorem isDev.made {w w1 : World} {h : DH} {D : Dv} {n : Nm} (hd : isDev w h D) (hln : n.length ≤ 20) (hf : fget D.files n = none) (hm : isMap Tryz.prog 9 w1 h.bl (upd (longF D.files) (.string (bs n)) (some (.int .i64 0)))) (hk : Keeps w w1 (· = h.bl)) :
    isDev w1 h { D with files := fset D.files n [] } := by
  have hu : used (fset D.files n []) = used D.files := by
    have := used_fset hd.wf.sorted n []
    rw [hf] at this
    simpa using this
  refine ⟨?_, ?_, ?_, ⟨hd.wf.most, hd.wf.fuse, hd.wf.fuse', sorted_fset hd.wf.sorted _ _, by rw [hu]; exact hd.wf.used, nm_fset_new hd.wf.nm hln _⟩, hd.ne⟩
  · have := hk.blk hd.fld hd.pl
    simpa [fldA, hu] using this
  · rw [longF_fset]; exact hm
  · rw [cellF_fset_nil _ _ hf]; exact hd.cells.kept hk hd.ne.symm

set_option maxRecDepth 100000 in
set_option maxHeartbeats 400000 in
theorem make_calls (w : World) (h : DH) (D : Dv) (n : Nm) (hd : isDev w h D) (hn : nmOk n) :
    Calls Tryz.prog 24 #[.pointer (some ⟨h.p, 0, none⟩), .string (bs n)] w (DevPost h w (.int .i64 (D.make n).2) (D.make n).1) := by
  have c2 := hd.c2
  have c3 := hd.c3
  have HL := hd.long
  by_cases h0 : D.fuse = 0
  · have hz : (D.fuse == 0) = true := by simp [h0]
    have hr : D.make n = (D, 8) := by simp [Dv.make, h0]
    have HR := Lib.hid hr
    clear hr h0
    cases hf : fget D.files n with
    | none =>
      have HF : Hid (longF D.files (.string (bs n)) = none) := by unfold Hid; rw [longF_at, hf]; rfl
      clear hf
      go_enter Tryz.func24, Tryz.ntmps24
      go_wp2_with (first | (at_lookup; refine wl_ok_no rfl _ _ _ rfl _ keyedS Tryz.underlying110 _ zeroI HL rfl _ rfl (keyOkS hn) HF.out ?_) | fail)
      go_ret
      exact post_of HR.out hd (Keeps.refl _ _)
    | some l =>
      have HF : Hid (longF D.files (.string (bs n)) = some (lenV l)) := by unfold Hid; rw [longF_at, hf]; rfl
      clear hf
      go_enter Tryz.func24, Tryz.ntmps24
      go_wp2_with (first | (at_lookup; refine wl_ok_at rfl _ _ _ rfl _ keyedS Tryz.underlying110 _ zeroI HL rfl _ rfl (keyOkS hn) _ HF.out ?_) | fail)
      go_ret
      exact post_of HR.out hd (Keeps.refl _ _)
  · have hz : (D.fuse == 0) = false := by simp [h0]
    cases hf : fget D.files n with
    | none =>
      have HF : Hid (longF D.files (.string (bs n)) = none) := by unfold Hid; rw [longF_at, hf]; rfl
      have HR1 : (n = [] ∨ 20 < n.length) → Hid (D.make n = (D, 1)) := fun h1 => by unfold Hid Dv.make; rw [if_neg h0, if_pos h1]
      have HR2 : ¬ (n = [] ∨ 20 < n.length) → Hid (D.make n = ({ D with files := fset D.files n [] }.done, 0)) := fun h1 => by unfold Hid Dv.make; rw [if_neg h0, if_neg h1, hf]; rfl
      have HR1' := Lib.hid HR1
      have HR2' := Lib.hid HR2
      have HF0 := Lib.hid hf
      clear HR1 HR2 h0 hf
      go_enter Tryz.func24, Tryz.ntmps24
      go_wp2_with (first
        | (at_lookup; refine wl_ok_no rfl _ _ _ rfl _ keyedS Tryz.underlying110 _ zeroI HL rfl _ rfl (keyOkS hn) HF.out ?_)
        | (at_mapUpdate; refine wl_store rfl _ _ _ _ rfl _ keyedS Tryz.underlying110 HL rfl _ _ rfl rfl (keyOkS hn) ?_; intro w1 hm1 hk1)
        | (go_at_call 50; have hb20 : (bs n).toList.isEmpty = false ∧ ((bs n).size : Int) ≤ 20 := (by assumption); refine (done_calls _ h _ (hd.made (len20 hb20) HF0.out hm1 hk1)).mono ?_; rintro e w2 ⟨rfl, hd2, hk2⟩))
      · have hb : (bs n).toList = [] := by assumption
        go_ret
        exact post_of (HR1'.out (.inl (by rw [← bs_toList n]; exact hb))).out hd (Keeps.refl _ _)
      · have hb : (bs n).toList.isEmpty = true ∨ 20 < ((bs n).size : Int) := by assumption
        go_ret
        exact post_of (HR1'.out (by rw [bs_toList, bs_size] at hb; rcases hb with h1 | h1
                                    · exact .inl (List.isEmpty_iff.1 h1)
                                    · exact .inr (by omega))).out hd (Keeps.refl _ _)
      · have hb : (bs n).toList.isEmpty = false ∧ ((bs n).size : Int) ≤ 20 := by assumption
        go_ret
        exact post_of (HR2'.out (by rw [bs_toList, bs_size] at hb; rintro (h1 | h1)
                                    · rw [h1] at hb; exact absurd hb.1 (by decide)
                                    · omega)).out hd2 (((Keeps.refl w h.S).then hk1 (fun i _ e => .inr (.inl e))).trans hk2)
    | some l =>
      have HF : Hid (longF D.files (.string (bs n)) = some (lenV l)) := by unfold Hid; rw [longF_at, hf]; rfl
      have HR1 : (n = [] ∨ 20 < n.length) → Hid (D.make n = (D, 1)) := fun h1 => by unfold Hid Dv.make; rw [if_neg h0, if_pos h1]
      have HR2 : ¬ (n = [] ∨ 20 < n.length) → Hid (D.make n = (D, 9)) := fun h1 => by unfold Hid Dv.make; rw [if_neg h0, if_neg h1, hf]; rfl
      have HR1' := Lib.hid HR1
      have HR2' := Lib.hid HR2
      clear HR1 HR2 h0 hf
      go_enter Tryz.func24, Tryz.ntmps24
      go_wp2_with (first | (at_lookup; refine wl_ok_at rfl _ _ _ rfl _ keyedS Tryz.underlying110 _ zeroI HL rfl _ rfl (keyOkS hn) _ HF.out ?_) | fail)
      · have hb : (bs n).toList = [] := by assumption
        go_ret
        exact post_of (HR1'.out (.inl (by rw [← bs_toList n]; exact hb))).out hd (Keeps.refl _ _)
      · have hb : (bs n).toList.isEmpty = true ∨ 20 < ((bs n).size : Int) := by assumption
        go_ret
        exact post_of (HR1'.out (by rw [bs_toList, bs_size] at hb; rcases hb with h1 | h1
                                    · exact .inl (List.isEmpty_iff.1 h1)
                                    · exact .inr (by omega))).out hd (Keeps.refl _ _)
      · have hb : (bs n).toList.isEmpty = false ∧ ((bs n).size : Int) ≤ 20 := by assumption
        go_ret
        exact post_of (HR2'.out (by rw [bs_toList, bs_size] at hb; rintro (h1 | h1)
                                    · rw [h1] at hb; exact absurd hb.1 (by decide)
                                    · omega)).out hd (Keeps.refl _ _)
end Go.Proofs.YtblpkifkaoaicaaGreat
