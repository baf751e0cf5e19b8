import Derived.Test.YtadjcdfmppcpnaaYG5
import Derived.Deep.CutBlock
import Derived.Deep.DeepCutAuto
/-! Package page: Keep, Drop. -/
namespace Go.Proofs.Ytadjcdfmppcpnaa
open Go Go.RowKit Go.Maps Wb

theorem isRd.kept2 {w w' : World} {S : Nat → Prop} {v : Value} {vs : List Value} (h : isRd w v vs) (hk : Keeps w w' S) (hS : ∀ g, v.ownBlock = some g → vs = [] ∨ ¬ S g) : isRd w' v vs := by
  obtain ⟨a, cap, rfl, h0, h⟩ := h
  refine ⟨a, cap, rfl, h0, fun j x hj => ?_⟩
  obtain ⟨g, o, rfl, h1, h2⟩ := h j x hj
  refine ⟨g, o, rfl, Nat.lt_of_lt_of_le h1 hk.size, (hk.cell (p := ⟨g, o + j, none⟩) h1 ?_).trans h2⟩
  rcases hS g rfl with h | h
  · rw [h] at hj; cases hj
  · exact h
/-- What a call on a file leaves. -/
def FilePost (w : World) (H : FH) (FF : Pg) (r : Value) (e : Ending) (w' : World) : Prop :=
  ∃ H', e = .returned r ∧ isFile w' H' FF ∧ H'.f = H.f ∧ H'.dev = H.dev ∧ H'.lo = H.lo ∧ Keeps w w' H.S ∧ ∀ i, H'.S i → H.S i ∨ w.heap.size ≤ i

theorem usedF_put (u : Nat → Bool) (k : Nat) : usedF (fun j => u j || decide (j = k)) = upd (usedF u) (.int .i64 k) (some (.int .i64 1)) := by
  funext v
  by_cases e : v = .int .i64 k
  · subst e
    rw [upd_same]
    have h0 : (0 : Int) ≤ k := by omega
    simp [usedF, h0]
  · rw [upd_other _ _ e]
    unfold usedF
    split
    · rename_i j
      by_cases h0 : 0 ≤ j
      · have : ¬ j.toNat = k := fun h => e (by rw [← h, Int.toNat_of_nonneg h0])
        simp [this]
      · simp [h0]
    · rfl
theorem usedF_del (u : Nat → Bool) (k : Nat) : usedF (fun j => u j && !decide (j = k)) = upd (usedF u) (.int .i64 k) none := by
  funext v
  by_cases e : v = .int .i64 k
  · subst e
    rw [upd_same]
    simp [usedF]
  · rw [upd_other _ _ e]
    unfold usedF
    split
    · rename_i j
      by_cases h0 : 0 ≤ j
      · have : ¬ j.toNat = k := fun h => e (by rw [← h, Int.toNat_of_nonneg h0])
        simp [this]
      · simp [h0]
    · rfl
theorem usedF_none : usedF (fun _ => false) = fun _ => none := by
  funext v
  unfold usedF
  split
  · simp
  · rfl
/-- The block with its map turned. -/
theorem isFile.setMap {w w' : World} {H : FH} {F : Pg} {u : Nat → Bool} (hf : isFile w H F) (hk : Keeps w w' (· = H.bu)) (hm : isMap Try.prog 3 w' H.bu (usedF u)) : isFile w' H { F with used := u } :=
  ⟨hk.blk hf.blk hf.nfu, hf.dev.apart hk (fun i h h2 => hf.nud (by rw [← h]; exact h2)), hm, hf.fresh.kept hk (fun g hg h => hf.nvu (by rw [hg, h])), hf.mok, hf.nfd, hf.nfu, hf.nud, hf.nvf, hf.nvu, hf.nvd, hf.frs⟩
theorem FH.bu_S (H : FH) : ∀ i, i = H.bu → H.S i := fun _ h => .inr (.inr (.inl h))

/-- The file's block at first: no pages in use, none new. -/
def cleanH (H : FH) (bm : Nat) : FH := { H with bu := bm, fv := .slice none 0 0 }
theorem isFile.cleaned {w w1 : World} {H : FH} {F : Pg} {bm : Nat} (hf : isFile w H F) (hb : w.heap.size ≤ bm) (hm : isMap Try.prog 3 w1 bm (fun _ => none)) (hk : Keeps w w1 (fun _ => False)) :
    isFile ((w1.setCell ⟨H.f, 5, none⟩ (.map (some bm))).setCell ⟨H.f, 6, none⟩ (.slice none 0 0)) (cleanH H bm) { F with used := fun _ => false, fresh := [] } ∧
    Keeps w ((w1.setCell ⟨H.f, 5, none⟩ (.map (some bm))).setCell ⟨H.f, 6, none⟩ (.slice none 0 0)) H.S := by
  have hlt : H.f < w.heap.size := lt_of_blk hf.blk
  have hk2 := keeps_cells2 w1 H.f 5 6 (.map (some bm)) (.slice none 0 0)
  have hf1 := hf.new hk
  have hbm : bm ≠ H.f := by omega
  refine ⟨⟨?_, hf1.dev.apart hk2 (fun i h h2 => hf.nfd (by rw [← h]; exact h2)), ?_, isOwn_nil _ _ _, hf.mok, hf.nfd, ?_, ?_, by simp [cleanH, Value.ownBlock], by simp [cleanH, Value.ownBlock], (by intro i h; cases h), (by intro k h; cases h)⟩, ?_⟩
  · exact (blk_setCell (blk_setCell hf1.blk 5 _) 6 _).trans rfl
  · rw [show usedF ({ F with used := fun _ => false, fresh := [] } : Pg).used = fun _ => none from usedF_none]
    exact hm.kept hk2 hbm
  · exact fun h => hbm h.symm
  · intro h
    have := hf.dev.lt h
    show False
    simp only [cleanH] at this
    omega
  · exact (hk.mono (T := H.S) (fun _ _ h => h.elim)).then hk2 (fun i _ h => .inl h)

set_option maxRecDepth 100000 in
set_option maxHeartbeats 2000000 in
theorem keep_no (w : World) (H : FH) (F : Pg) (hf : isFile w H F) (v : Value) (l : List Int) (hv : isRd w v (intV l)) (hl : l.length ≤ 140737488351232) (hr : risingB F l = false) :
    Calls Try.prog 57 #[.pointer (some ⟨H.f, 0, none⟩), v] w fun e w' => e = .returned (.int .i64 1) ∧ w = w' := by
  have HR := Lib.hid hr
  clear hr
  go_enter Try.func57, Try.ntmps57
  go_wp2_with fail
  refine (rising_calls _ H F hf v l hv hl).mono ?_
  rintro e w' ⟨he, rfl⟩
  rw [HR.out] at he
  subst he
  go_wp2
  go_ret
  exact ⟨rfl, rfl⟩

def KeepRel (w : World) (H : FH) (bm : Nat) (F : Pg) (l : List Int) (v : Value) (q : Nat) (wr : World) : Prop :=
  isFile wr (cleanH H bm) { F with used := keptU (l.take q), fresh := [] } ∧ isRd wr v (intV l) ∧ Keeps w wr H.S

set_option maxRecDepth 100000 in
set_option maxHeartbeats 4000000 in
theorem keep_yes (w : World) (H : FH) (F : Pg) (hf : isFile w H F) (v : Value) (l : List Int) (hv : isRd w v (intV l)) (hvs : ∀ g, v.ownBlock = some g → l = [] ∨ (¬ H.S g ∧ g < w.heap.size)) (hl : l.length ≤ 140737488351232) (hr : risingB F l = true) :
    Calls Try.prog 57 #[.pointer (some ⟨H.f, 0, none⟩), v] w (FilePost w H (keepP F l) (.int .i64 0)) := by
  have HR := Lib.hid hr
  have hris : Rising F l := by
    apply Classical.byContradiction
    intro h
    rw [risingB_false h] at hr; cases hr
  have HRIS := Lib.hid hris
  obtain ⟨a, cap, rfl, hc1, hc3⟩ := id hv
  rw [intV_len] at hv hvs hc1 ⊢
  have HV := Lib.hid hv
  have HF := Lib.hid hf
  have HVS := Lib.hid hvs
  have hli : (l.length : Int) ≤ 140737488351232 := by omega
  clear hr hris hvs hc3
  go_enter Try.func57, Try.ntmps57
  go_wp2_with fail
  refine (rising_calls _ H F hf _ l hv hl).mono ?_
  rintro e w' ⟨he, rfl⟩
  rw [HR.out] at he
  subst he
  clear hf hv
  go_upto_region 4 with (first
    | ((with_reducible refine gd_makeMap 143 ?_); refine wl_makeMap rfl _ rfl 3 ?_; intro bm w2 hbm hm2 hk2; have c5 := (HF.out.new hk2).c5; have c6 := (HF.out.new hk2).c6; have f5 := (HF.out.new hk2).fr 5; have f6 := (HF.out.new hk2).fr 6)
    | fail)
  obtain ⟨hcl, hkc⟩ := HF.out.cleaned hbm hm2 hk2
  generalize (w2.setCell ⟨H.f, 5, none⟩ (.map (some bm))).setCell ⟨H.f, 6, none⟩ (.slice none 0 0) = w3 at *
  have hrel0 : KeepRel w H bm F l (.slice a l.length cap) 0 w3 := by
    refine ⟨?_, isRd.kept2 HV.out hkc (fun g hg => (HVS.out g hg).imp (fun h => by rw [h]; rfl) (fun h => h.1)), hkc⟩
    have : keptU (l.take 0) = fun _ => false := by funext j; simp [keptU]
    rw [this]
    exact hcl
  have HREL0 := Lib.hid hrel0
  have hbw := Lib.hid hbm
  clear hrel0 hcl hkc hm2 hk2 c5 c6 f5 f6 hbm
  go_wp2_with fail
  go_loopw [20] (fun i wr => ∃ q : Nat, q ≤ l.length ∧ i = .int .i64 q ∧ Hid (KeepRel w H bm F l (.slice a l.length cap) q wr)) (fun i _ => l.length - (intOf i).toNat)
  case atStart => exact ⟨0, Nat.zero_le _, rfl, HREL0⟩
  case round =>
    clear HREL0
    obtain ⟨q, hq, rfl, hrel⟩ := hrel
    have hq0 : (0 : Int) ≤ q := by omega
    by_cases hlt : q < l.length
    · have hlb : decide (q < l.length) = true := by simpa using hlt
      have hq9 : (q : Int) < l.length := by omega
      obtain ⟨hfr, hvr, hkr⟩ := hrel.out
      obtain ⟨x, hx⟩ : ∃ x, l[q]? = some x := ⟨_, List.getElem?_eq_getElem hlt⟩
      obtain ⟨a', cap', he', _, h3⟩ := id hvr
      simp only [Value.slice.injEq] at he'
      obtain ⟨rfl, h9, rfl⟩ := he'
      clear h9
      obtain ⟨g, o, rfl, hglt, hc⟩ := h3 q _ (intV_at hx)
      have hxs := isPg_small (HRIS.out q x hx).1 HF.out.dev.wf
      obtain ⟨k, rfl⟩ : ∃ k : Nat, x = k := ⟨x.toNat, by omega⟩
      have hk0 : (0 : Int) ≤ k := by omega
      have hks := keyOkI (k := (k : Int)) (by unfold kOk; omega)
      have c5 : wr.cell? ⟨H.f, 5, none⟩ = some (.map (some bm)) := hfr.c5
      have HX := Lib.hid hx
      have HFR := Lib.hid hfr
      have HK := Lib.hid hkr
      have hgS := (HVS.out g rfl).resolve_left (fun h => by rw [h] at hlt; simp at hlt)
      clear hx hxs h3 hfr hkr hrel
      go_wp2_with (first
        | (at_mapUpdate; refine wl_store rfl _ _ _ _ rfl _ keyedI Try.underlying143 HFR.out.used rfl (.int .i64 k) (.int .i64 1) rfl rfl hks ?_; intro w4 hm4 hk4)
        | fail)
      have hrel2 : KeepRel w H bm F l (.slice (some ⟨g, o, none⟩) l.length cap) (q + 1) w4 := by
        have hm5 : isMap Try.prog 3 w4 bm (usedF (keptU (l.take (q + 1)))) := by
          rw [keptU_succ HX.out, usedF_put]
          exact hm4
        have hf5 := HFR.out.setMap hk4 hm5
        refine ⟨hf5, ?_, HK.out.then hk4 (fun i hi e => absurd hbw.out (by have e2 : i = bm := e; omega))⟩
        refine hvr.kept hk4 (fun g' hg' e => ?_)
        cases hg'
        have := hgS.2
        have := hbw.out
        have : g = bm := e
        omega
      have HREL := Lib.hid hrel2
      clear hrel2 hm4 hk4
      go_roundw
      case rel => exact ⟨q + 1, by omega, by go_num, HREL⟩
      case measure => simp [intOf]; omega
    · have hlb : decide (q < l.length) = false := by simpa using hlt
      obtain rfl : q = l.length := by omega
      clear hlt
      go_wp2
      go_ret
      obtain ⟨hfr, hvr, hkr⟩ := hrel.out
      rw [List.take_length] at hfr
      refine ⟨_, rfl, hfr, rfl, rfl, rfl, hkr, ?_⟩
      rintro i (h | h | h | h)
      · exact .inl (.inl h)
      · exact .inl (.inr (.inl h))
      · right
        have := hbw.out
        simp only [cleanH] at h
        omega
      · cases h

theorem intsV_at {l : List Nat} {k : Nat} {c : Nat} (h : l[k]? = some c) : (intsV l)[k]? = some (.int .i64 c) := by simp [intsV, h]

def DropRel9 (w : World) (H : FH) (F : Pg) (q : Nat) (wr : World) : Prop := isFile wr H { F with used := dropU F q } ∧ Keeps w wr H.S

set_option maxRecDepth 100000 in
set_option maxHeartbeats 4000000 in
theorem drop9_calls (w : World) (H : FH) (F : Pg) (hf : isFile w H F) (hl : F.fresh.length ≤ 140737488351232) :
    Calls Try.prog 52 #[.pointer (some ⟨H.f, 0, none⟩)] w (FilePost w H (dropP F) (.tuple #[])) := by
  have HF := Lib.hid hf
  obtain ⟨a, cap, hfv, hc1, hc3⟩ := hf.fresh.rd
  rw [intsV_len] at hfv hc1
  have c6 : w.cell? ⟨H.f, 6, none⟩ = some (.slice a F.fresh.length cap) := by rw [← hfv]; exact hf.c6
  have HFV := Lib.hid hfv
  have hli : (F.fresh.length : Int) ≤ 140737488351232 := by omega
  have HREL0 : Hid (DropRel9 w H F 0 w) := Lib.hid ⟨by rw [dropU_zero]; exact hf, Keeps.refl _ _⟩
  clear hfv hc3 hf
  go_enter Try.func52, Try.ntmps52
  go_wp2_with fail
  go_loopw [9] (fun i wr => ∃ q : Nat, q ≤ F.fresh.length ∧ i = .int .i64 q ∧ Hid (DropRel9 w H F q wr)) (fun i _ => F.fresh.length - (intOf i).toNat)
  case atStart => exact ⟨0, Nat.zero_le _, rfl, HREL0⟩
  case round =>
    clear HREL0 c6
    obtain ⟨q, hq, rfl, hrel⟩ := hrel
    have hq0 : (0 : Int) ≤ q := by omega
    by_cases hlt : q < F.fresh.length
    · have hlb : decide (q < F.fresh.length) = true := by simpa using hlt
      have hq9 : (q : Int) < F.fresh.length := by omega
      obtain ⟨hfr, hkr⟩ := hrel.out
      obtain ⟨k, hx⟩ : ∃ k, F.fresh[q]? = some k := ⟨_, List.getElem?_eq_getElem hlt⟩
      have hks : k ≤ 1000000 := HF.out.frs k (List.mem_of_getElem? hx)
      obtain ⟨a', cap', he', _, h3⟩ := hfr.fresh.rd
      have h4 := HFV.out.symm.trans he'
      simp only [Value.slice.injEq] at h4
      obtain ⟨rfl, h9, rfl⟩ := h4
      obtain ⟨g, o, rfl, hglt, hc⟩ := h3 q _ (intsV_at hx)
      have hk0 : (0 : Int) ≤ k := by omega
      have hks2 := keyOkI (k := (k : Int)) (by unfold kOk; omega)
      have c5 : wr.cell? ⟨H.f, 5, none⟩ = some (.map (some H.bu)) := hfr.c5
      have HX := Lib.hid hx
      have HFR := Lib.hid hfr
      have HK := Lib.hid hkr
      clear hx h3 hfr hkr hrel h9 he'
      go_wp2_with (first
        | (at_delete; refine wl_delete rfl _ _ _ rfl _ keyedI Try.underlying143 HFR.out.used rfl (.int .i64 k) rfl hks2 ?_; intro w4 hm4 hk4)
        | fail)
      have hrel2 : DropRel9 w H F (q + 1) w4 := by
        refine ⟨HFR.out.setMap hk4 (u := dropU F (q + 1)) (by rw [dropU_succ HX.out, usedF_del]; exact hm4), HK.out.trans (hk4.mono (fun i _ e => H.bu_S i e))⟩
      have HREL := Lib.hid hrel2
      clear hrel2 hm4 hk4
      go_roundw
      case rel => exact ⟨q + 1, by omega, by go_num, HREL⟩
      case measure => simp [intOf]; omega
    · have hlb : decide (q < F.fresh.length) = false := by simpa using hlt
      obtain rfl : q = F.fresh.length := by omega
      obtain ⟨hfr, hkr⟩ := hrel.out
      have c6 := hfr.c6
      have f6 := hfr.fr 6
      have HFR := Lib.hid hfr
      clear hlt hfr
      go_wp2
      go_end0
      have hkc := keeps_cell wr H.f 6 (.slice none 0 0)
      have hfr := HFR.out
      refine ⟨{ H with fv := .slice none 0 0 }, rfl, ⟨(blk_setCell hfr.blk 6 _).trans rfl, hfr.dev.apart hkc (fun i h h2 => hfr.nfd (by rw [← h]; exact h2)), ?_, isOwn_nil _ _ _, hfr.mok, hfr.nfd, hfr.nfu, hfr.nud, by simp [Value.ownBlock], by simp [Value.ownBlock], (by intro i h; cases h), (by intro k h; cases h)⟩, rfl, rfl, rfl, hkr.then hkc (fun i _ h => .inl h), ?_⟩
      · rw [← dropU_all]
        exact hfr.used.kept hkc (fun h => hfr.nfu h.symm)
      · rintro i (h | h | h | h)
        · exact .inl (.inl h)
        · exact .inl (.inr (.inl h))
        · exact .inl (.inr (.inr (.inl h)))
        · cases h
end Go.Proofs.Ytadjcdfmppcpnaa
