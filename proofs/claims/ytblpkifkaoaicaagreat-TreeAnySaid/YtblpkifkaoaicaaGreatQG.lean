/- Lemmas and contracts of functions, joined. -/
import Derived.Test.YtblpkifkaoaicaaGreatQH
import Derived.Deep.CutBlock
import Derived.Test.YtblpkifkaoaicaaGreatYMapLen
import Derived.Deep.DeepCutAuto
import Derived.Test.YtblpkifkaoaicaaGreatQP
import Derived.Test.YtblpkifkaoaicaaGreatYMk
import Derived.Test.YtblpkifkaoaicaaGreatYMsk
namespace Go.Proofs.YtblpkifkaoaicaaGreat
open Go Go.RowKit Go.Maps Wb

def LeastPost (w : World) (F : Pg) (e : Ending) (w' : World) : Prop := ∃ r : Nat, isLeast F r ∧ r ≤ pagesOf F.d + 2 ∧ e = .returned (.int .i64 r) ∧ w = w'
set_option maxRecDepth 100000 in
set_option maxHeartbeats 2000000 in
theorem least_calls (w : World) (H : FH) (F : Pg) (hf : isFile w H F) : Calls Tryz.prog 135 #[.pointer (some ⟨H.f, 0, none⟩)] w (LeastPost w F) := by
  have c5 := hf.c5
  have hn := pages_small hf.dev.wf
  have HM := Lib.hid hf.used
  have HN := Lib.hid hn
  go_enter Tryz.func135, Tryz.ntmps135
  go_wp2_with fail
  go_loop [3] (fun v => ∃ k : Nat, v = .int .i64 k ∧ Hid (LeastRel F k)) (fun v => pagesOf F.d + 2 - (intOf v).toNat)
  case atStart => exact ⟨2, rfl, Lib.hid ⟨Nat.le_refl _, fun j h1 h2 => by omega⟩⟩
  case round =>
    obtain ⟨k, rfl, hrel⟩ := hrel
    have hk2 := hrel.out.le
    have hk0 : (0 : Int) ≤ k := by omega
    have hk9 : (k : Int) ≤ 20000 := by omega
    by_cases hlt : k < pagesOf F.d
    · have hlb : decide (k < pagesOf F.d) = true := by simpa using hlt
      cases hu : F.used k with
      | true =>
        have hlk := used_look HM.out k (by omega) 1 (by rw [hu]; rfl)
        have hrel2 : LeastRel F (k + 1) := ⟨by have := hrel.out.1; omega, fun j h1 h2 => by
          rcases Nat.lt_or_ge j k with h | h
          · exact hrel.out.2 j h1 h
          · obtain rfl : j = k := by omega
            exact ⟨hlt, hu⟩⟩
        have HREL := Lib.hid hrel2
        clear hrel2 hu
        go_wp2_with (go_at_call 57; refine (flen_calls _ H F hf).mono ?_; rintro e w' ⟨rfl, rfl⟩)
        exact ⟨⟨k + 1, by go_num, HREL⟩, by simp [intOf]; omega⟩
      | false =>
        have hlk := used_look HM.out k (by omega) 0 (by rw [hu]; rfl)
        have HU := Lib.hid hu
        clear hu
        go_wp2_with (go_at_call 57; refine (flen_calls _ H F hf).mono ?_; rintro e w' ⟨rfl, rfl⟩)
        go_ret
        exact ⟨k, ⟨hrel.out.1, hrel.out.2, .inr HU.out⟩, hk2, rfl, rfl⟩
    · have hlb : decide (k < pagesOf F.d) = false := by simpa using hlt
      go_wp2_with (go_at_call 57; refine (flen_calls _ H F hf).mono ?_; rintro e w' ⟨rfl, rfl⟩)
      go_ret
      exact ⟨k, ⟨hrel.out.1, hrel.out.2, .inl (by omega)⟩, hk2, rfl, rfl⟩

theorem intsV_len (l : List Nat) : (intsV l).length = l.length := by simp [intsV]
theorem info_int : (Tryz.prog.info? 3).map (fun i => (i.zero, i.size, i.bytes)) = some (some (.int .i64 0), 1, 8) := by kernel_rfl
end Go.Proofs.YtblpkifkaoaicaaGreat

namespace Go.Proofs.YtblpkifkaoaicaaGreat
open Go Go.RowKit Go.Maps Wb

def intV (l : List Int) : List Value := l.map fun (k : Int) => Value.int .i64 k
theorem intV_len (l : List Int) : (intV l).length = l.length := by simp [intV]
theorem intV_at {l : List Int} {k : Nat} {c : Int} (h : l[k]? = some c) : (intV l)[k]? = some (.int .i64 c) := by simp [intV, h]
set_option maxRecDepth 100000 in
set_option maxHeartbeats 2000000 in
theorem rising_calls (w : World) (H : FH) (F : Pg) (hf : isFile w H F) (v : Value) (l : List Int) (hv : isRd w v (intV l)) (hl : l.length ≤ 140737488351232) :
    Calls Tryz.prog 91 #[.pointer (some ⟨H.f, 0, none⟩), v] w fun e w' => e = .returned (.bool (risingB F l)) ∧ w = w' := by
  obtain ⟨a, cap, rfl, hc1, hc3⟩ := hv
  have HC : Hid (∀ (k : Nat) c, l[k]? = some c → ∃ g o, a = some ⟨g, o, none⟩ ∧ w.cell? ⟨g, o + k, none⟩ = some (.int .i64 c)) := by
    intro k c hk
    obtain ⟨g, o, h1, _, h2⟩ := hc3 k _ (intV_at hk)
    exact ⟨g, o, h1, h2⟩
  rw [intV_len] at hc1 ⊢
  have hli : (l.length : Int) ≤ 140737488351232 := by omega
  clear hc3
  go_enter Tryz.func91, Tryz.ntmps91
  go_wp2_with fail
  go_loop [9] (fun i => ∃ k : Nat, k ≤ l.length ∧ i = .int .i64 k ∧ Hid (RisingTo F l k)) (fun i => l.length - (intOf i).toNat)
  case atStart => exact ⟨0, Nat.zero_le _, rfl, Lib.hid (fun j x h => by omega)⟩
  case round =>
    obtain ⟨k, hk, rfl, hrel⟩ := hrel
    have hk0 : (0 : Int) ≤ k := by omega
    by_cases hlt : k < l.length
    · have hlb : decide (k < l.length) = true := by simpa using hlt
      have hk9 : (k : Int) < l.length := by omega
      obtain ⟨x, hx⟩ : ∃ x, l[k]? = some x := ⟨_, List.getElem?_eq_getElem hlt⟩
      obtain ⟨g, o, rfl, hc⟩ := HC.out k x hx
      cases hp : isPg F x with
      | false =>
        have HR : Hid (risingB F l = false) := by
          unfold Hid
          exact risingB_false (fun h => by have := (h k x hx).1; rw [hp] at this; cases this)
        have HP := Lib.hid hp
        clear hp hx
        go_wp2_with (go_at_call 64; refine (is_calls _ H F hf x).mono ?_; rintro e w' ⟨he, rfl⟩; rw [HP.out] at he; subst he)
        go_ret
        exact ⟨by rw [HR.out]; rfl, rfl⟩
      | true =>
        rcases Nat.eq_zero_or_pos k with hk1 | hk1
        · have hgt : decide (0 < k) = false := decide_eq_false (by omega)
          have hrel2 : RisingTo F l (k + 1) := fun j y hj hy => by
            obtain rfl : j = k := by omega
            rw [hx] at hy; cases hy
            exact ⟨hp, fun z h => by omega⟩
          have HREL := Lib.hid hrel2
          have HP := Lib.hid hp
          clear hrel2 hp hx hk1
          go_wp2_with (go_at_call 64; refine (is_calls _ H F hf x).mono ?_; rintro e w' ⟨he, rfl⟩; rw [HP.out] at he; subst he)
          exact ⟨⟨k + 1, by omega, by go_num, HREL⟩, by simp [intOf]; omega⟩
        · have hgt : decide (0 < k) = true := decide_eq_true hk1
          have hki : (1 : Int) ≤ k := by omega
          have hkm : (0 : Int) ≤ (k : Int) - 1 := by omega
          have hkl : (k : Int) - 1 < l.length := by omega
          have htn : ((k : Int) - 1).toNat = k - 1 := by omega
          obtain ⟨y, hy⟩ : ∃ y, l[k - 1]? = some y := ⟨_, List.getElem?_eq_getElem (by omega)⟩
          obtain ⟨g', o', he', hc'⟩ := HC.out (k - 1) y hy
          cases he'
          by_cases hyx : y < x
          · have hrel2 : RisingTo F l (k + 1) := fun j z hj hz => by
              rcases Nat.lt_or_ge j k with h | h
              · exact hrel.out j z h hz
              · obtain rfl : j = k := by omega
                rw [hx] at hz; cases hz
                refine ⟨hp, fun u _ hu => ?_⟩
                rw [hy] at hu; cases hu
                exact hyx
            have HREL := Lib.hid hrel2
            have HP := Lib.hid hp
            clear hrel2 hp hx hy
            go_wp2_with (go_at_call 64; refine (is_calls _ H F hf x).mono ?_; rintro e w' ⟨he, rfl⟩; rw [HP.out] at he; subst he)
            exact ⟨⟨k + 1, by omega, by go_num, HREL⟩, by simp [intOf]; omega⟩
          · have HR : Hid (risingB F l = false) := by
              unfold Hid
              exact risingB_false (fun h => hyx ((h k x hx).2 y hk1 hy))
            have hyx' : x ≤ y := by omega
            have HP := Lib.hid hp
            clear hp hx hy hyx
            go_wp2_with (go_at_call 64; refine (is_calls _ H F hf x).mono ?_; rintro e w' ⟨he, rfl⟩; rw [HP.out] at he; subst he)
            go_ret
            exact ⟨by rw [HR.out]; rfl, rfl⟩
    · have hlb : decide (k < l.length) = false := by simpa using hlt
      obtain rfl : k = l.length := by omega
      have HR : Hid (risingB F l = true) := by
        unfold Hid
        exact risingB_true (fun j x hj => hrel.out j x (List.getElem?_eq_some_iff.1 hj).1 hj)
      clear hlt
      go_wp2
      go_ret
      exact ⟨by rw [HR.out]; rfl, rfl⟩

theorem file_meta (F : Pg) (H : FH) : (fileA F H).extract 1 (1 + (metaA F.mt).size) = metaA F.mt := rfl
set_option maxRecDepth 100000 in
set_option maxHeartbeats 1000000 in
theorem meta_calls (w : World) (H : FH) (F : Pg) (hf : isFile w H F) : Calls Tryz.prog 61 #[.pointer (some ⟨H.f, 0, none⟩)] w (Quiet w (.agg (metaA F.mt))) := by
  have hb := hf.blk
  go_enter Tryz.func61, Tryz.ntmps61
  go_wp2_with (first
    | ((with_reducible refine gd_alloc 119 ?_); refine wl_alloc_agg rfl _ rfl _ zeroM ?_; intro br w1 hbr HBR HKR; have hb1 := HKR.blk hb (by simp))
    | ((with_reducible refine gd_load 119 ?_); refine wl_load_agg rfl _ _ rfl H.f 1 rfl _ _ _ hb1 (metaA F.mt) (file_meta F H) _ Tryz.underlying119 rfl (infoMs _) ?_)
    | ((with_reducible refine gd_store 119 ?_); refine wl_store_agg rfl _ _ _ rfl br _ rfl _ _ HBR (metaA F.mt) rfl (metaA F.mt) (store_meta _ _) (Nat.le_refl 4) (infoMs _) (metaA_one _) ?_; intro w2 HB2 HK2)
    | fail)
  refine bodyPost_ret (v := .agg (metaA F.mt)) ?_ rfl ⟨rfl, ?_⟩
  · exact results_cell_row rfl _ _ br _ _ _ _ rfl HB2 Tryz.underlying119 rfl (infoMs _)
  · exact HKR.then HK2 (fun i hi e => absurd hbr (by rw [← e]; exact Nat.not_le.2 hi))
end Go.Proofs.YtblpkifkaoaicaaGreat

namespace Go.Proofs.YtblpkifkaoaicaaGreat
open Go Go.RowKit Go.Maps Wb

theorem isRd.kept2 {w w' : World} {S : Nat → Prop} {v : Value} {vs : List Value} (h : isRd w v vs) (hk : Keeps w w' S) (hS : ∀ g, v.ownBlock = some g → vs = [] ∨ ¬ S g) : isRd w' v vs := by
  obtain ⟨a, cap, rfl, h0, h⟩ := h
  refine ⟨a, cap, rfl, h0, fun j x hj => ?_⟩
  obtain ⟨g, o, rfl, h1, h2⟩ := h j x hj
  refine ⟨g, o, rfl, Nat.lt_of_lt_of_le h1 hk.size, (hk.cell (p := ⟨g, o + j, none⟩) h1 ?_).trans h2⟩
  rcases hS g rfl with h | h
  · rw [h] at hj; cases hj
  · exact h
/-- What a call on a file leaves. -/
def FilePost (w : World) (H : FH) (FF : Pg) (r : Value) (e : Ending) (w' : World) : Prop :=
  ∃ H', e = .returned r ∧ isFile w' H' FF ∧ H'.f = H.f ∧ H'.dev = H.dev ∧ H'.lo = H.lo ∧ Keeps w w' H.S ∧ ∀ i, H'.S i → H.S i ∨ w.heap.size ≤ i

theorem usedF_put (u : Nat → Bool) (k : Nat) : usedF (fun j => u j || decide (j = k)) = upd (usedF u) (.int .i64 k) (some (.int .i64 1)) := by
  funext v
  by_cases e : v = .int .i64 k
  · subst e
    rw [upd_same]
    have h0 : (0 : Int) ≤ k := by omega
    simp [usedF, h0]
  · rw [upd_other _ _ e]
    unfold usedF
    split
    · rename_i j
      by_cases h0 : 0 ≤ j
      · have : ¬ j.toNat = k := fun h => e (by rw [← h, Int.toNat_of_nonneg h0])
        simp [this]
      · simp [h0]
    · rfl
theorem usedF_del (u : Nat → Bool) (k : Nat) : usedF (fun j => u j && !decide (j = k)) = upd (usedF u) (.int .i64 k) none := by
  funext v
  by_cases e : v = .int .i64 k
  · subst e
    rw [upd_same]
    simp [usedF]
  · rw [upd_other _ _ e]
    unfold usedF
    split
    · rename_i j
      by_cases h0 : 0 ≤ j
      · have : ¬ j.toNat = k := fun h => e (by rw [← h, Int.toNat_of_nonneg h0])
        simp [this]
      · simp [h0]
    · rfl
theorem usedF_none : usedF (fun _ => false) = fun _ => none := by
  funext v
  unfold usedF
  split
  · simp
  · rfl
/-- The block with its map turned. -/
theorem isFile.setMap {w w' : World} {H : FH} {F : Pg} {u : Nat → Bool} (hf : isFile w H F) (hk : Keeps w w' (· = H.bu)) (hm : isMap Tryz.prog 3 w' H.bu (usedF u)) : isFile w' H { F with used := u } :=
  ⟨hk.blk hf.blk hf.nfu, hf.dev.apart hk (fun i h h2 => hf.nud (by rw [← h]; exact h2)), hm, hf.fresh.kept hk (fun g hg h => hf.nvu (by rw [hg, h])), hf.mok, hf.nfd, hf.nfu, hf.nud, hf.nvf, hf.nvu, hf.nvd, hf.frs⟩
theorem FH.bu_S (H : FH) : ∀ i, i = H.bu → H.S i := fun _ h => .inr (.inr (.inl h))

/-- The file's block at first: no pages in use, none new. -/
def cleanH (H : FH) (bm : Nat) : FH := { H with bu := bm, fv := .slice none 0 0 }
theorem isFile.cleaned {w w1 : World} {H : FH} {F : Pg} {bm : Nat} (hf : isFile w H F) (hb : w.heap.size ≤ bm) (hm : isMap Tryz.prog 3 w1 bm (fun _ => none)) (hk : Keeps w w1 (fun _ => False)) :
    isFile ((w1.setCell ⟨H.f, 5, none⟩ (.map (some bm))).setCell ⟨H.f, 6, none⟩ (.slice none 0 0)) (cleanH H bm) { F with used := fun _ => false, fresh := [] } ∧
    Keeps w ((w1.setCell ⟨H.f, 5, none⟩ (.map (some bm))).setCell ⟨H.f, 6, none⟩ (.slice none 0 0)) H.S := by
  have hlt : H.f < w.heap.size := lt_of_blk hf.blk
  have hk2 := keeps_cells2 w1 H.f 5 6 (.map (some bm)) (.slice none 0 0)
  have hf1 := hf.new hk
  have hbm : bm ≠ H.f := by omega
  refine ⟨⟨?_, hf1.dev.apart hk2 (fun i h h2 => hf.nfd (by rw [← h]; exact h2)), ?_, isOwn_nil _ _ _, hf.mok, hf.nfd, ?_, ?_, by simp [cleanH, Value.ownBlock], by simp [cleanH, Value.ownBlock], (by intro i h; cases h), (by intro k h; cases h)⟩, ?_⟩
  · exact (blk_setCell (blk_setCell hf1.blk 5 _) 6 _).trans rfl
  · rw [show usedF ({ F with used := fun _ => false, fresh := [] } : Pg).used = fun _ => none from usedF_none]
    exact hm.kept hk2 hbm
  · exact fun h => hbm h.symm
  · intro h
    have := hf.dev.lt h
    show False
    simp only [cleanH] at this
    omega
  · exact (hk.mono (T := H.S) (fun _ _ h => h.elim)).then hk2 (fun i _ h => .inl h)

def KeepRel (w : World) (H : FH) (bm : Nat) (F : Pg) (l : List Int) (v : Value) (q : Nat) (wr : World) : Prop :=
  isFile wr (cleanH H bm) { F with used := keptU (l.take q), fresh := [] } ∧ isRd wr v (intV l) ∧ Keeps w wr H.S

set_option maxRecDepth 100000 in
set_option maxHeartbeats 4000000 in
theorem keep_yes (w : World) (H : FH) (F : Pg) (hf : isFile w H F) (v : Value) (l : List Int) (hv : isRd w v (intV l)) (hvs : ∀ g, v.ownBlock = some g → l = [] ∨ (¬ H.S g ∧ g < w.heap.size)) (hl : l.length ≤ 140737488351232) (hr : risingB F l = true) :
    Calls Tryz.prog 63 #[.pointer (some ⟨H.f, 0, none⟩), v] w (FilePost w H (keepP F l) (.int .i64 0)) := by
  have HR := Lib.hid hr
  have hris : Rising F l := by
    apply Classical.byContradiction
    intro h
    rw [risingB_false h] at hr; cases hr
  have HRIS := Lib.hid hris
  obtain ⟨a, cap, rfl, hc1, hc3⟩ := id hv
  rw [intV_len] at hv hvs hc1 ⊢
  have HV := Lib.hid hv
  have HF := Lib.hid hf
  have HVS := Lib.hid hvs
  have hli : (l.length : Int) ≤ 140737488351232 := by omega
  clear hr hris hvs hc3
  go_enter Tryz.func63, Tryz.ntmps63
  go_wp2_with fail
  refine (rising_calls _ H F hf _ l hv hl).mono ?_
  rintro e w' ⟨he, rfl⟩
  rw [HR.out] at he
  subst he
  clear hf hv
  go_upto_region 4 with (first
    | ((with_reducible refine gd_makeMap 117 ?_); refine wl_makeMap rfl _ rfl 3 ?_; intro bm w2 hbm hm2 hk2; have c5 := (HF.out.new hk2).c5; have c6 := (HF.out.new hk2).c6; have f5 := (HF.out.new hk2).fr 5; have f6 := (HF.out.new hk2).fr 6)
    | fail)
  obtain ⟨hcl, hkc⟩ := HF.out.cleaned hbm hm2 hk2
  generalize (w2.setCell ⟨H.f, 5, none⟩ (.map (some bm))).setCell ⟨H.f, 6, none⟩ (.slice none 0 0) = w3 at *
  have hrel0 : KeepRel w H bm F l (.slice a l.length cap) 0 w3 := by
    refine ⟨?_, isRd.kept2 HV.out hkc (fun g hg => (HVS.out g hg).imp (fun h => by rw [h]; rfl) (fun h => h.1)), hkc⟩
    have : keptU (l.take 0) = fun _ => false := by funext j; simp [keptU]
    rw [this]
    exact hcl
  have HREL0 := Lib.hid hrel0
  have hbw := Lib.hid hbm
  clear hrel0 hcl hkc hm2 hk2 c5 c6 f5 f6 hbm
  go_wp2_with fail
  go_loopw [20] (fun i wr => ∃ q : Nat, q ≤ l.length ∧ i = .int .i64 q ∧ Hid (KeepRel w H bm F l (.slice a l.length cap) q wr)) (fun i _ => l.length - (intOf i).toNat)
  case atStart => exact ⟨0, Nat.zero_le _, rfl, HREL0⟩
  case round =>
    clear HREL0
    obtain ⟨q, hq, rfl, hrel⟩ := hrel
    have hq0 : (0 : Int) ≤ q := by omega
    by_cases hlt : q < l.length
    · have hlb : decide (q < l.length) = true := by simpa using hlt
      have hq9 : (q : Int) < l.length := by omega
      obtain ⟨hfr, hvr, hkr⟩ := hrel.out
      obtain ⟨x, hx⟩ : ∃ x, l[q]? = some x := ⟨_, List.getElem?_eq_getElem hlt⟩
      obtain ⟨a', cap', he', _, h3⟩ := id hvr
      simp only [Value.slice.injEq] at he'
      obtain ⟨rfl, h9, rfl⟩ := he'
      clear h9
      obtain ⟨g, o, rfl, hglt, hc⟩ := h3 q _ (intV_at hx)
      have hxs := isPg_small (HRIS.out q x hx).1 HF.out.dev.wf
      obtain ⟨k, rfl⟩ : ∃ k : Nat, x = k := ⟨x.toNat, by omega⟩
      have hk0 : (0 : Int) ≤ k := by omega
      have hks := keyOkI (k := (k : Int)) (by unfold kOk; omega)
      have c5 : wr.cell? ⟨H.f, 5, none⟩ = some (.map (some bm)) := hfr.c5
      have HX := Lib.hid hx
      have HFR := Lib.hid hfr
      have HK := Lib.hid hkr
      have hgS := (HVS.out g rfl).resolve_left (fun h => by rw [h] at hlt; simp at hlt)
      clear hx hxs h3 hfr hkr hrel
      go_wp2_with (first
        | (at_mapUpdate; refine wl_store rfl _ _ _ _ rfl _ keyedI Tryz.underlying117 HFR.out.used rfl (.int .i64 k) (.int .i64 1) rfl rfl hks ?_; intro w4 hm4 hk4)
        | fail)
      have hrel2 : KeepRel w H bm F l (.slice (some ⟨g, o, none⟩) l.length cap) (q + 1) w4 := by
        have hm5 : isMap Tryz.prog 3 w4 bm (usedF (keptU (l.take (q + 1)))) := by
          rw [keptU_succ HX.out, usedF_put]
          exact hm4
        have hf5 := HFR.out.setMap hk4 hm5
        refine ⟨hf5, ?_, HK.out.then hk4 (fun i hi e => absurd hbw.out (by have e2 : i = bm := e; omega))⟩
        refine hvr.kept hk4 (fun g' hg' e => ?_)
        cases hg'
        have := hgS.2
        have := hbw.out
        have : g = bm := e
        omega
      have HREL := Lib.hid hrel2
      clear hrel2 hm4 hk4
      go_roundw
      case rel => exact ⟨q + 1, by omega, by go_num, HREL⟩
      case measure => simp [intOf]; omega
    · have hlb : decide (q < l.length) = false := by simpa using hlt
      obtain rfl : q = l.length := by omega
      clear hlt
      go_wp2
      go_ret
      obtain ⟨hfr, hvr, hkr⟩ := hrel.out
      rw [List.take_length] at hfr
      refine ⟨_, rfl, hfr, rfl, rfl, rfl, hkr, ?_⟩
      rintro i (h | h | h | h)
      · exact .inl (.inl h)
      · exact .inl (.inr (.inl h))
      · right
        have := hbw.out
        simp only [cleanH] at h
        omega
      · cases h

theorem intsV_at {l : List Nat} {k : Nat} {c : Nat} (h : l[k]? = some c) : (intsV l)[k]? = some (.int .i64 c) := by simp [intsV, h]

def DropRel9 (w : World) (H : FH) (F : Pg) (q : Nat) (wr : World) : Prop := isFile wr H { F with used := dropU F q } ∧ Keeps w wr H.S

set_option maxRecDepth 100000 in
set_option maxHeartbeats 4000000 in
theorem drop9_calls (w : World) (H : FH) (F : Pg) (hf : isFile w H F) (hl : F.fresh.length ≤ 140737488351232) :
    Calls Tryz.prog 44 #[.pointer (some ⟨H.f, 0, none⟩)] w (FilePost w H (dropP F) (.tuple #[])) := by
  have HF := Lib.hid hf
  obtain ⟨a, cap, hfv, hc1, hc3⟩ := hf.fresh.rd
  rw [intsV_len] at hfv hc1
  have c6 : w.cell? ⟨H.f, 6, none⟩ = some (.slice a F.fresh.length cap) := by rw [← hfv]; exact hf.c6
  have HFV := Lib.hid hfv
  have hli : (F.fresh.length : Int) ≤ 140737488351232 := by omega
  have HREL0 : Hid (DropRel9 w H F 0 w) := Lib.hid ⟨by rw [dropU_zero]; exact hf, Keeps.refl _ _⟩
  clear hfv hc3 hf
  go_enter Tryz.func44, Tryz.ntmps44
  go_wp2_with fail
  go_loopw [9] (fun i wr => ∃ q : Nat, q ≤ F.fresh.length ∧ i = .int .i64 q ∧ Hid (DropRel9 w H F q wr)) (fun i _ => F.fresh.length - (intOf i).toNat)
  case atStart => exact ⟨0, Nat.zero_le _, rfl, HREL0⟩
  case round =>
    clear HREL0 c6
    obtain ⟨q, hq, rfl, hrel⟩ := hrel
    have hq0 : (0 : Int) ≤ q := by omega
    by_cases hlt : q < F.fresh.length
    · have hlb : decide (q < F.fresh.length) = true := by simpa using hlt
      have hq9 : (q : Int) < F.fresh.length := by omega
      obtain ⟨hfr, hkr⟩ := hrel.out
      obtain ⟨k, hx⟩ : ∃ k, F.fresh[q]? = some k := ⟨_, List.getElem?_eq_getElem hlt⟩
      have hks : k ≤ 1000000 := HF.out.frs k (List.mem_of_getElem? hx)
      obtain ⟨a', cap', he', _, h3⟩ := hfr.fresh.rd
      have h4 := HFV.out.symm.trans he'
      simp only [Value.slice.injEq] at h4
      obtain ⟨rfl, h9, rfl⟩ := h4
      obtain ⟨g, o, rfl, hglt, hc⟩ := h3 q _ (intsV_at hx)
      have hk0 : (0 : Int) ≤ k := by omega
      have hks2 := keyOkI (k := (k : Int)) (by unfold kOk; omega)
      have c5 : wr.cell? ⟨H.f, 5, none⟩ = some (.map (some H.bu)) := hfr.c5
      have HX := Lib.hid hx
      have HFR := Lib.hid hfr
      have HK := Lib.hid hkr
      clear hx h3 hfr hkr hrel h9 he'
      go_wp2_with (first
        | (at_delete; refine wl_delete rfl _ _ _ rfl _ keyedI Tryz.underlying117 HFR.out.used rfl (.int .i64 k) rfl hks2 ?_; intro w4 hm4 hk4)
        | fail)
      have hrel2 : DropRel9 w H F (q + 1) w4 := by
        refine ⟨HFR.out.setMap hk4 (u := dropU F (q + 1)) (by rw [dropU_succ HX.out, usedF_del]; exact hm4), HK.out.trans (hk4.mono (fun i _ e => H.bu_S i e))⟩
      have HREL := Lib.hid hrel2
      clear hrel2 hm4 hk4
      go_roundw
      case rel => exact ⟨q + 1, by omega, by go_num, HREL⟩
      case measure => simp [intOf]; omega
    · have hlb : decide (q < F.fresh.length) = false := by simpa using hlt
      obtain rfl : q = F.fresh.length := by omega
      obtain ⟨hfr, hkr⟩ := hrel.out
      have c6 := hfr.c6
      have f6 := hfr.fr 6
      have HFR := Lib.hid hfr
      clear hlt hfr
      go_wp2
      go_end0
      have hkc := keeps_cell wr H.f 6 (.slice none 0 0)
      have hfr := HFR.out
      refine ⟨{ H with fv := .slice none 0 0 }, rfl, ⟨(blk_setCell hfr.blk 6 _).trans rfl, hfr.dev.apart hkc (fun i h h2 => hfr.nfd (by rw [← h]; exact h2)), ?_, isOwn_nil _ _ _, hfr.mok, hfr.nfd, hfr.nfu, hfr.nud, by simp [Value.ownBlock], by simp [Value.ownBlock], (by intro i h; cases h), (by intro k h; cases h)⟩, rfl, rfl, rfl, hkr.then hkc (fun i _ h => .inl h), ?_⟩
      · rw [← dropU_all]
        exact hfr.used.kept hkc (fun h => hfr.nfu h.symm)
      · rintro i (h | h | h | h)
        · exact .inl (.inl h)
        · exact .inl (.inr (.inl h))
        · exact .inl (.inr (.inr (.inl h)))
        · cases h
end Go.Proofs.YtblpkifkaoaicaaGreat

namespace Go.Proofs.YtblpkifkaoaicaaGreat
open Go Go.RowKit Go.Maps Wb

end Go.Proofs.YtblpkifkaoaicaaGreat

namespace Go.Proofs.YtblpkifkaoaicaaGreat
open Go Go.RowKit Go.Maps Wb

theorem isFile.setDev {w w' : World} {H : FH} {F : Pg} {D' : Dv} (hf : isFile w H F) (hk : Keeps w w' H.dev.S) (hd : isDev w' H.dev D') : isFile w' H { F with d := D' } :=
  ⟨hk.blk hf.blk hf.nfd, hd, hf.used.kept hk hf.nud, hf.fresh.kept hk (fun g hg h => hf.nvd g hg h), hf.mok, hf.nfd, hf.nfu, hf.nud, hf.nvf, hf.nvu, hf.nvd, hf.frs⟩
theorem FH.dev_S (H : FH) : ∀ i, H.dev.S i → H.S i := fun _ h => .inr (.inl h)
def WrPost (w : World) (H : FH) (F : Pg) (r : Dv × Int) (e : Ending) (w' : World) : Prop := e = .returned (.int .i64 r.2) ∧ isFile w' H { F with d := r.1 } ∧ Keeps w w' H.dev.S
theorem wr_post {w w' : World} {H : FH} {F : Pg} {R : Dv × Int} {D' : Dv} {r : Int} (hR : R = (D', r)) (hf : isFile w' H { F with d := D' }) (hk : Keeps w w' H.dev.S) : WrPost w H F R (.returned (.int .i64 r)) w' := by
  subst hR; exact ⟨rfl, hf, hk⟩

set_option maxRecDepth 100000 in
set_option maxHeartbeats 4000000 in
theorem write9_calls (w : World) (H : FH) (F : Pg) (hf : isFile w H F) (m : Mt) (hm : m.ok) : Calls Tryz.prog 101 #[.pointer (some ⟨H.f, 0, none⟩), .agg (metaA m)] w (WrPost w H F (wrMeta F.d m)) := by
  have hn : nmOk [112] := nmOk_small (by decide)
  obtain ⟨D1, e1, hs⟩ : ∃ D1 e1, F.d.sync [112] = (D1, e1) := ⟨_, _, rfl⟩
  obtain ⟨p, hp⟩ : ∃ p, p = m.gen % 2 := ⟨_, rfl⟩
  have hp2 : (p : Int) < 2 := by omega
  have hp0 : (0 : Int) ≤ p := by omega
  have HP := Lib.hid hp
  have HMO := Lib.hid hm
  have HS := Lib.hid hs
  have HF := Lib.hid hf
  clear hf hm
  by_cases h1 : e1 = 0
  · subst h1
    obtain ⟨D2, e2, hw⟩ : ∃ D2 e2, D1.write [112] ((p : Int) * 8) (metaS m) = (D2, e2) := ⟨_, _, rfl⟩
    have HW := Lib.hid hw
    have hw8 : IntKind.i64.wrap ((p : Int) * 8) = (p : Int) * 8 := i64_smallK _ (by omega) (by omega)
    have HW8 := Lib.hid hw8
    have hwm : wrMeta F.d m = if e2 = 0 then D2.sync [112] else (D2, e2) := by
      unfold wrMeta
      rw [hs]
      simp only [if_true]
      rw [← hp, hw]
    have HWM := Lib.hid hwm
    clear hwm hw hs hp hw8
    go_enter Tryz.func101, Tryz.ntmps101
    go_wp2_with (first
      | ((with_reducible refine gd_box 119 ?_); refine wl_box_agg rfl _ _ rfl (metaA m) rfl ?_; intro bm w1 hbm HBM HKM; have hf1 := HF.out.new HKM; have c0 := hf1.c0)
      | fail)
    go_wp2_with fail
    refine (sync_calls _ H.dev F.d [112] hf1.dev hn).mono ?_
    rintro e w2 ⟨he, hd2, hk2⟩
    rw [HS.out] at he hd2
    dsimp only at he hd2
    subst he
    have hf2 := hf1.setDev hk2 hd2
    have hnb : ¬ H.dev.S bm := fun h => absurd (HF.out.dev.lt h) (Nat.not_lt.2 hbm)
    have HB2 := hk2.blk HBM hnb
    have hK2 := (HKM.mono (T := H.dev.S) (fun _ _ h => h.elim)).trans hk2
    clear c0 hf1 HBM HKM hk2
    go_wp2_with fail
    have hrg : ∀ i v, (metaA m)[i]? = some v → w2.cell? ⟨bm, i, none⟩ = some v := fun i v hv => (cell_of_block HB2 i).trans hv
    have hS : (fun (w' : World) => w'.cell? ⟨H.f, 0, none⟩ = some (.pointer (some ⟨H.dev.p, 0, none⟩)) ∧ w'.cell? ⟨bm, 0, none⟩ = some (.int .u64 m.gen) ∧ w'.rangeAt bm 0 (metaA m).toList) w2.drew :=
      ⟨hf2.c0, hrg 0 _ rfl, fun j v hj => by have := hrg j v (by simpa using hj); simpa using this⟩
    have HFC : H.f < w2.drew.heap.size := lt_of_blk hf2.blk
    refine wp_region_held_drew (S := (fun (w' : World) => w'.cell? ⟨H.f, 0, none⟩ = some (.pointer (some ⟨H.dev.p, 0, none⟩)) ∧ w'.cell? ⟨bm, 0, none⟩ = some (.int .u64 m.gen) ∧ w'.rangeAt bm 0 (metaA m).toList)) (by kernel_rfl) hS (fun _ => ?_)
    first | (refine rg_s 0 rfl (by kernel_rfl) (fun _ _ _ h => h) hS ?_ ?_; rfl) | (refine rg_t 0 (v := ?_) rfl (by kernel_rfl) (fun _ _ _ h => h) hS ?_ ?_ ?_; rotate_left; rfl; focus (intro w hSw; (try dsimp only at hSw); go_simp; all_goals (with_reducible rfl)))
    simp only [Act.put, l_a, l_s, l_z]
    first | (refine rg_s 1 rfl (by kernel_rfl) (fun _ _ _ h => h) hS ?_ ?_; rfl) | (refine rg_t 1 (v := ?_) rfl (by kernel_rfl) (fun _ _ _ h => h) hS ?_ ?_ ?_; rotate_left; rfl; focus (intro w hSw; (try dsimp only at hSw); go_simp; all_goals (with_reducible rfl)))
    simp only [Act.put, l_a, l_s, l_z]
    first | (refine rg_s 2 rfl (by kernel_rfl) (fun _ _ _ h => h) hS ?_ ?_; rfl) | (refine rg_t 2 (v := ?_) rfl (by kernel_rfl) (fun _ _ _ h => h) hS ?_ ?_ ?_; rotate_left; rfl; focus (intro w hSw; (try dsimp only at hSw); go_simp; all_goals (with_reducible rfl)))
    simp only [Act.put, l_a, l_s, l_z]
    first | (refine rg_s 3 rfl (by kernel_rfl) (fun _ _ _ h => h) hS ?_ ?_; rfl) | (refine rg_t 3 (v := ?_) rfl (by kernel_rfl) (fun _ _ _ h => h) hS ?_ ?_ ?_; rotate_left; rfl; focus (intro w hSw; (try dsimp only at hSw); go_simp; all_goals (with_reducible rfl)))
    simp only [Act.put, l_a, l_s, l_z]
    first | (refine rg_s 4 rfl (by kernel_rfl) (fun _ _ _ h => h) hS ?_ ?_; rfl) | (refine rg_t 4 (v := ?_) rfl (by kernel_rfl) (fun _ _ _ h => h) hS ?_ ?_ ?_; rotate_left; rfl; focus (intro w hSw; (try dsimp only at hSw); go_simp; all_goals (with_reducible rfl)))
    simp only [Act.put, l_a, l_s, l_z]
    first | (refine rg_s 5 rfl (by kernel_rfl) (fun _ _ _ h => h) hS ?_ ?_; rfl) | (refine rg_t 5 (v := ?_) rfl (by kernel_rfl) (fun _ _ _ h => h) hS ?_ ?_ ?_; rotate_left; rfl; focus (intro w hSw; (try dsimp only at hSw); go_simp; all_goals (with_reducible rfl)))
    simp only [Act.put, l_a, l_s, l_z]
    refine rg_load 8 rfl (by kernel_rfl) (by kernel_rfl) (by kernel_rfl) (metaA m) (fun _ _ _ h => h) hS (by rfl) bm 0 rfl (fun _ h => h.2.2) _ Tryz.underlying119 rfl (infoMs _) ?_
    simp only [Act.put, l_a, l_s, l_z]
    refine rg_one 6 rfl (by kernel_rfl) (by rfl) ?_
    refine rg_call 83 _ _ rfl _ Tryz.func83 (by kernel_rfl) (by kernel_rfl) [.int .u64 m.gen] rfl (slot_calls _ m.gen) ?_
    rintro e wa ⟨he, rfl⟩
    rw [← HP.out] at he
    subst he
    refine ⟨_, rfl, hS, ?_⟩
    simp only [Act.put, l_a, l_s, l_z]
    first | (refine rg_s 7 rfl (by kernel_rfl) (fun _ _ _ h => h) hS ?_ ?_; rfl) | (refine rg_t 7 (v := ?_) rfl (by kernel_rfl) (fun _ _ _ h => h) hS ?_ ?_ ?_; rotate_left; rfl; focus (intro w hSw; (try dsimp only at hSw); go_simp; all_goals (with_reducible rfl)))
    simp only [Act.put, l_a, l_s, l_z]
    rw [HW8.out]
    refine rg_one 9 rfl (by kernel_rfl) (by rfl) ?_
    refine rg_call 84 _ _ rfl _ Tryz.func84 (by kernel_rfl) (by kernel_rfl) [.agg (metaA m)] rfl (sector9_calls _ m HMO.out) ?_
    rintro e w3 ⟨rfl, hk3⟩
    have hS3 : (fun (w' : World) => w'.cell? ⟨H.f, 0, none⟩ = some (.pointer (some ⟨H.dev.p, 0, none⟩)) ∧ w'.cell? ⟨bm, 0, none⟩ = some (.int .u64 m.gen) ∧ w'.rangeAt bm 0 (metaA m).toList) w3 := ⟨Keeps.cellK hk3 hS.1, Keeps.cellK hk3 hS.2.1, Keeps.rangeK hk3 hS.2.2⟩
    refine ⟨_, rfl, hS3, ?_⟩
    simp only [Act.put, l_a, l_s, l_z]
    have hf3 := hf2.drew.new hk3
    refine rg_one 10 rfl (by kernel_rfl) (by rfl) ?_
    refine rg_call 32 _ _ rfl _ Tryz.func32 (by kernel_rfl) (by kernel_rfl) [.pointer (some ⟨H.dev.p, 0, none⟩), .string (bs [112]), .int .i64 ((p : Int) * 8), secV (metaS m)] rfl (write_calls _ H.dev D1 [112] ((p : Int) * 8) (metaS m) hf3.dev hn) ?_
    rintro e w4 ⟨he, hd4, hk4⟩
    rw [HW.out] at he hd4
    dsimp only at he hd4
    subst he
    have hf4 := hf3.setDev hk4 hd4
    have hS4 : (fun (w' : World) => w'.cell? ⟨H.f, 0, none⟩ = some (.pointer (some ⟨H.dev.p, 0, none⟩)) ∧ w'.cell? ⟨bm, 0, none⟩ = some (.int .u64 m.gen) ∧ w'.rangeAt bm 0 (metaA m).toList) w4 :=
      ⟨hf4.c0, (hk4.cell (p := ⟨bm, 0, none⟩) (cell_ltK hS3.2.1) hnb).trans hS3.2.1, fun j v hj => (hk4.cell (p := ⟨bm, 0 + j, none⟩) (cell_ltK (hS3.2.2 j v hj)) hnb).trans (hS3.2.2 j v hj)⟩
    refine ⟨_, rfl, hS4, ?_⟩
    simp only [Act.put, l_a, l_s, l_z]
    first | (refine rg_s 11 rfl (by kernel_rfl) (fun _ _ _ h => h) hS4 ?_ ?_; rfl) | (refine rg_t 11 (v := ?_) rfl (by kernel_rfl) (fun _ _ _ h => h) hS4 ?_ ?_ ?_; rotate_left; rfl; focus (intro w hSw; (try dsimp only at hSw); go_simp; all_goals (with_reducible rfl)))
    simp only [Act.put, l_a, l_s, l_z]
    refine wpAnyH_done (by kernel_rfl) ?_ _
    have hK4 := ((hK2.drew).trans (hk3.mono (T := H.dev.S) (fun _ _ h => h.elim))).trans hk4
    clear hS hS3 hS4 hrg hf2 hf3 hk3 hk4 hK2 HB2 hd2
    have c0 := hf4.c0
    by_cases h2 : e2 = 0
    · subst h2
      obtain ⟨D3, e3, hs3⟩ : ∃ D3 e3, D2.sync [112] = (D3, e3) := ⟨_, _, rfl⟩
      have HS3 := Lib.hid hs3
      have HR : Hid (wrMeta F.d m = (D3, e3)) := by unfold Hid; rw [HWM.out, if_pos rfl, hs3]
      clear hs3
      go_wp2_with fail
      refine (sync_calls _ H.dev D2 [112] hf4.dev hn).mono ?_
      rintro e w5 ⟨he, hd5, hk5⟩
      rw [HS3.out] at he hd5
      dsimp only at he hd5
      subst he
      go_wp2
      go_ret
      exact wr_post HR.out (hf4.setDev hk5 hd5) (hK4.trans hk5)
    · have he1 : (e2 == 0) = false := by simpa using h2
      have he2 : (e2 != 0) = true := by simpa using h2
      have HR : Hid (wrMeta F.d m = (D2, e2)) := by unfold Hid; rw [HWM.out, if_neg h2]
      clear h2
      go_wp2
      go_ret
      exact wr_post HR.out hf4 hK4
  · have he1 : (e1 == 0) = false := by simpa using h1
    have he2 : (e1 != 0) = true := by simpa using h1
    have HR : Hid (wrMeta F.d m = (D1, e1)) := by unfold Hid wrMeta; rw [hs]; simp only; rw [if_neg h1]
    clear hs hp h1
    go_enter Tryz.func101, Tryz.ntmps101
    go_wp2_with (first
      | ((with_reducible refine gd_box 119 ?_); refine wl_box_agg rfl _ _ rfl (metaA m) rfl ?_; intro bm w1 hbm HBM HKM; have hf1 := HF.out.new HKM; have c0 := hf1.c0)
      | fail)
    go_wp2_with fail
    refine (sync_calls _ H.dev F.d [112] hf1.dev hn).mono ?_
    rintro e w2 ⟨he, hd2, hk2⟩
    rw [HS.out] at he hd2
    dsimp only at he hd2
    subst he
    go_wp2
    go_ret
    exact wr_post HR.out (hf1.setDev hk2 hd2) ((HKM.mono (T := H.dev.S) (fun _ _ h => h.elim)).trans hk2)
end Go.Proofs.YtblpkifkaoaicaaGreat

namespace Go.Proofs.YtblpkifkaoaicaaGreat
open Go Go.RowKit Go.Maps Wb

theorem sec_pad (l : List UInt8) : Wb.splice (secA Sec.zero) 0 ((octs l).take (min l.length 64)).toArray = secA (padS l) := by
  apply Array.toList_inj.1
  have h1 : (octs l).take (min l.length 64) = octs (l.take 64) := by
    unfold octs
    rw [← List.map_take]
    congr 1
    rw [List.take_eq_take_iff]; omega
  rw [h1]
  unfold Wb.splice padS
  have hl : (octs (l.take 64)).length = min 64 l.length := by rw [octs_len, List.length_take]
  have hz : (secA Sec.zero).toList = octs (List.replicate 64 0) := octs_secA _
  have e64 : 64 - min 64 l.length = 64 - l.length := by omega
  simp only [List.size_toArray, hl, List.take_zero, List.nil_append, Nat.zero_add, hz]
  rw [octs_secA, octs_app]
  have hd : (octs (List.replicate 64 0)).drop (min 64 l.length) = octs (List.replicate (64 - l.length) 0) := by
    unfold octs
    rw [← List.map_drop, List.drop_replicate, e64]
  rw [hd]
theorem isRd.drew {w : World} {v : Value} {vs : List Value} (h : isRd w v vs) : isRd w.drew v vs := h
theorem isRd_drop {w : World} {g o n cap k : Nat} {vs : List Value} (h : isRd w (.slice (some ⟨g, o, none⟩) n cap) vs) (hk : k ≤ vs.length) : isRd w (.slice (some ((⟨g, o, none⟩ : Addr).add k)) (n - k) (cap - k)) (vs.drop k) := by
  obtain ⟨a, cap', he, hc, h3⟩ := h
  simp only [Value.slice.injEq] at he
  obtain ⟨rfl, rfl, rfl⟩ := he
  have ha : (⟨g, o, none⟩ : Addr).add k = ⟨g, o + k, none⟩ := by unfold Addr.add; split <;> simp_all
  refine ⟨_, cap - k, by rw [List.length_drop], by rw [List.length_drop]; omega, fun j x hj => ?_⟩
  rw [List.getElem?_drop] at hj
  obtain ⟨g', o', he, h4, h5⟩ := h3 _ _ hj
  cases he
  exact ⟨g, o + k, by rw [ha], h4, by rw [Nat.add_assoc]; exact h5⟩
theorem isOwn.shape {w : World} {lo : Nat} {e : TypeId} {v : Value} {vs : List Value} (h : isOwn w lo e v vs) : ∃ a n c, v = .slice a n c := by
  rcases h.2 with ⟨rfl, _⟩ | ⟨g, cap, cur, rfl, _⟩
  · exact ⟨_, _, _, rfl⟩
  · exact ⟨_, _, _, rfl⟩
theorem isFile.append {wB wC : World} {H : FH} {F : Pg} (hf : isFile wB H F) {k : Nat} (hk : k ≤ 1000000) {v' : Value} (hap : Appended wB H.lo 3 H.fv (intsV F.fresh ++ [.int .i64 k]) v' wC) :
    isFile (wC.setCell ⟨H.f, 6, none⟩ v') { H with fv := v' } { F with fresh := F.fresh ++ [k] } ∧ Keeps wB (wC.setCell ⟨H.f, 6, none⟩ v') H.S ∧ ∀ i, FH.S { H with fv := v' } i → H.S i ∨ wB.heap.size ≤ i := by
  obtain ⟨h1, h2, h3⟩ := hap
  have hkc := keeps_cell wC H.f 6 v'
  have hb : wC.heap[H.f]? = some (.cells (fileA F H) 121 (0, 0)) := h2.blk hf.blk hf.nvf
  have hnew : ∀ i, v'.ownBlock = some i → H.fv.ownBlock = some i ∨ i = wB.heap.size := by
    intro i hi
    rcases h3 with h | h
    · exact .inl (h ▸ hi)
    · right; rw [h] at hi; simpa using hi.symm
  have hv : v'.ownBlock ≠ some H.f := fun h => by
    rcases hnew _ h with h | h
    · exact hf.nvf h
    · exact absurd (lt_of_blk hf.blk) (by omega)
  refine ⟨⟨(blk_setCell hb 6 _).trans rfl, ?_, ?_, ?_, hf.mok, hf.nfd, hf.nfu, hf.nud, hv, ?_, ?_, ?_⟩, ?_, ?_⟩
  · exact (hf.dev.apart h2 (fun i h h4 => hf.nvd i h h4)).apart hkc (fun i h h4 => hf.nfd (by rw [← h]; exact h4))
  · exact (hf.used.kept h2 hf.nvu).kept hkc (fun h => hf.nfu h.symm)
  · have : intsV (F.fresh ++ [k]) = intsV F.fresh ++ [.int .i64 k] := by simp [intsV]
    show isOwn _ _ _ _ (intsV (F.fresh ++ [k]))
    rw [this]
    exact isOwn.kept h1 hkc (fun g hg e => hv (by rw [hg, e]))
  · intro h
    rcases hnew _ h with h | h
    · exact hf.nvu h
    · exact absurd hf.used.lt (by simp only at h; omega)
  · intro i h h4
    rcases hnew _ h with h | h
    · exact hf.nvd i h h4
    · exact absurd (hf.dev.lt h4) (by omega)
  · intro j hj
    rcases List.mem_append.1 hj with h | h
    · exact hf.frs j h
    · rw [List.mem_singleton.1 h]; exact hk
  · exact (h2.mono (T := H.S) (fun i _ h => .inr (.inr (.inr h)))).then hkc (fun i _ h => .inl h)
  · rintro i (h | h | h | h)
    · exact .inl (.inl h)
    · exact .inl (.inr (.inl h))
    · exact .inl (.inr (.inr (.inl h)))
    · rcases hnew _ h with h | h
      · exact .inl (.inr (.inr (.inr h)))
      · exact .inr (by omega)
def PutRel (w : World) (H : FH) (F : Pg) (b : List UInt8) (bv : Value) (id q : Nat) (wr : World) : Prop :=
  ∃ D, wrUp F.d (id * 8) (pageSec b) q = (D, 0) ∧ isFile wr H { F with d := D } ∧ isRd wr bv (octs b) ∧ Keeps w wr H.dev.S
def PutPost (w : World) (H : FH) (F : Pg) (b : List UInt8) (e : Ending) (w' : World) : Prop :=
  ∃ id, isLeast F id ∧ FilePost w H (putP F b id).1 (.tuple #[.int .i64 (if (putP F b id).2 = 0 then (id : Int) else 0), .int .i64 (putP F b id).2]) e w'
theorem zeroSec_take (l : List UInt8) (h : l = []) : padS l = Sec.zero := by subst h; rfl

set_option maxRecDepth 100000 in
set_option maxHeartbeats 8000000 in
theorem put_calls (w : World) (H : FH) (F : Pg) (hf : isFile w H F) (hdead : F.dead = false) (bv : Value) (b : List UInt8) (hb : isRd w bv (octs b)) (hbs : ∀ g, bv.ownBlock = some g → ¬ H.S g ∧ g < w.heap.size) (hbl : b.length ≤ 512)
    (hfl : F.fresh.length ≤ 1000000) (hlo : H.lo ≤ w.heap.size) : Calls Tryz.prog 103 #[.pointer (some ⟨H.f, 0, none⟩), bv] w (PutPost w H F b) := by
  have hn : nmOk [112] := nmOk_small (by decide)
  obtain ⟨a, cap, rfl, hc1, hc3⟩ := id hb
  rw [octs_len] at hb hbs hc1 ⊢
  have c7 := hf.c7
  rw [hdead] at c7
  have hbi : (b.length : Int) ≤ 512 := by omega
  have HF := Lib.hid hf
  have HB := Lib.hid hb
  have HBS := Lib.hid hbs
  have HPG := Lib.hid (pages_small hf.dev.wf)
  clear hdead hf hb hbs hc3
  go_enter Tryz.func103, Tryz.ntmps103
  go_wp2_with fail
  refine (least_calls _ H F HF.out).mono ?_
  rintro e w' ⟨pg, hid, hle, rfl, rfl⟩
  have HID := Lib.hid hid
  have hi0 : (0 : Int) ≤ pg := by omega
  have hi9 : (pg : Int) ≤ 20000 := by have := HPG.out; omega
  have HREL0 : Hid (PutRel w H F b (.slice a b.length cap) pg 0 w) := Lib.hid ⟨F.d, rfl, HF.out, HB.out, Keeps.refl _ _⟩
  clear hid hle c7
  go_wp2_with fail
  go_loopw [21] (fun i wr => ∃ q : Nat, q ≤ 8 ∧ i = .int .i64 q ∧ Hid (PutRel w H F b (.slice a b.length cap) pg q wr)) (fun i _ => 8 - (intOf i).toNat)
  case atStart => exact ⟨0, Nat.zero_le _, rfl, HREL0⟩
  case round =>
    clear HREL0
    obtain ⟨q, hq, rfl, hrel⟩ := hrel
    have hq0 : (0 : Int) ≤ q := by omega
    by_cases hlt : q < 8
    · have hlb : decide (q < 8) = true := by simpa using hlt
      have hq9 : (q : Int) < 8 := by omega
      obtain ⟨D, hD, hfr, hbr, hkr⟩ := hrel.out
      obtain ⟨D2, e2, hw⟩ : ∃ D2 e2, D.write [112] ((pg : Int) * 8 + q) (pageSec b q) = (D2, e2) := ⟨_, _, rfl⟩
      have hw2 : wrUp F.d (pg * 8) (pageSec b) (q + 1) = (D2, e2) := by
        rw [wrUp_step hD, ← hw]
        congr 1
      have HW := Lib.hid hw
      have HW2 := Lib.hid hw2
      have HFR := Lib.hid hfr
      have HBR := Lib.hid hbr
      have HKR := Lib.hid hkr
      clear hw hw2 hD hfr hbr hkr hrel
      have w64 : IntKind.i64.wrap ((q : Int) * 64) = (q : Int) * 64 := i64_smallK _ (by omega) (by omega)
      have w8 : IntKind.i64.wrap ((pg : Int) * 8) = (pg : Int) * 8 := i64_smallK _ (by omega) (by omega)
      have w8q : IntKind.i64.wrap ((pg : Int) * 8 + q) = (pg : Int) * 8 + q := i64_smallK _ (by omega) (by omega)
      have W64 := Lib.hid w64
      have W8 := Lib.hid w8
      have W8Q := Lib.hid w8q
      clear w64 w8 w8q
      by_cases hlen : 64 * q < b.length
      · have hlb2 : (q : Int) * 64 < b.length := by omega
        go_wp2_with (first
          | ((with_reducible refine gd_alloc 62 ?_); refine wl_alloc_agg rfl _ rfl _ zero28 ?_; intro b8 w3 hb8 HB8 HK8)
          | fail)
        obtain ⟨a', cap', he', hcc, h3⟩ := isRd.drew (HBR.out.new HK8)
        simp only [Value.slice.injEq] at he'
        obtain ⟨rfl, h9, rfl⟩ := he'
        clear h9
        rw [octs_len] at hcc
        obtain ⟨g, o, rfl, hgl, hcell⟩ := h3 (64 * q) _ (octs_at (List.getElem?_eq_getElem hlen))
        have hne : ¬ cap = q * 64 := by omega
        have hq64 : (0 : Int) ≤ (q : Int) * 64 := by omega
        have hq64' : (q : Int) * 64 ≤ b.length := by omega
        have htn : ((q : Int) * 64).toNat = q * 64 := by omega
        have w64 := W64.out
        refine wp_region_still_tail 5 (by kernel_rfl) (by kernel_rfl) ?_
        simp only [List.take_succ_cons, List.take_zero, List.drop_succ_cons, List.drop_zero]
        iterate 5 still_step
        refine wpStill_nil ?_
        clear w64 htn
        have hrd : isRd w3.drew (.slice (some ⟨g, o + q * 64, none⟩) (b.length - q * 64) (cap - q * 64)) (octs (b.drop (64 * q))) := by
          have h := isRd_drop (isRd.drew (HBR.out.new HK8)) (k := 64 * q) (by rw [octs_len]; omega)
          rw [Go.WideShapes.add_plain] at h
          rw [Nat.mul_comm q 64]
          unfold octs at h ⊢
          rw [List.map_drop]
          exact h
        have HRD := Lib.hid hrd
        have hn64 : min (b.length - 64 * q) 64 = min (octs (b.drop (64 * q))).length 64 := by rw [octs_len, List.length_drop]
        have HN64 := Lib.hid hn64
        have HSEC : Hid (Wb.splice (secA Sec.zero) 0 ((octs (b.drop (64 * q))).take (min (b.length - 64 * q) 64)).toArray = secA (pageSec b q)) := by
          have := sec_pad (b.drop (64 * q))
          rw [List.length_drop] at this
          exact Lib.hid this
        clear hrd hn64 h3 hcell
        have hb3 : w3.drew.heap[b8]? = some (.cells (secA Sec.zero) 62 (0, 0)) := HB8
        go_wp2_with (first
          | (refine wl_copy rfl _ _ _ _ rfl 5 Tryz.underlying36 (by kernel_rfl) b8 0 64 64 rfl _ rfl (octs (b.drop (64 * q))) HRD.out _ _ hb3 (min (b.length - 64 * q) 64) HN64.out (by rw [secA_size]; omega) (octs_one _) ?_; intro w5 hb5 hk5; rw [HSEC.out] at hb5)
          | fail)
        have hK5 : Keeps wr w5 (fun _ => False) := (HK8.drew).then hk5 (fun i hi e => absurd hb8 (by rw [← show i = b8 from e]; exact Nat.not_le.2 hi))
        have hf5 := HFR.out.new hK5
        have c0 := hf5.c0
        clear hb3 hk5 HB8 HK8 HN64 HRD HSEC
        refine wp_region_still_tail 9 (by kernel_rfl) (by kernel_rfl) ?_
        simp only [List.take_succ_cons, List.take_zero, List.drop_succ_cons, List.drop_zero]
        iterate 8 still_step
        rw [W8.out, W8Q.out]
        refine ws_load_agg rfl _ _ rfl b8 0 rfl _ _ _ hb5 (secA (pageSec b q)) (extract_all _) _ Tryz.underlying62 rfl (info28s _) ?_
        refine wpStill_nil ?_
        have hf6 := hf5.drew
        go_wp2_with fail
        refine (write_calls _ H.dev D [112] _ (pageSec b q) hf6.dev hn).mono ?_
        rintro e w6 ⟨he, hd6, hk6⟩
        rw [HW.out] at he hd6
        dsimp only at he hd6
        subst he
        have hf7 := hf6.setDev hk6 hd6
        have hK7 := ((HKR.out.trans (hK5.mono (T := H.dev.S) (fun _ _ h => h.elim))).drew).trans hk6
        have hb7 := (isRd.drew (HBR.out.new hK5)).kept hk6 (fun g hg h => (HBS.out g hg).1 (.inr (.inl h)))
        clear hf5 hf6 c0 hb5 hd6 hk6 hK5 hb8
        by_cases h2 : e2 = 0
        · subst h2
          have HREL : Hid (PutRel w H F b _ pg (q + 1) w6) := Lib.hid ⟨D2, HW2.out, hf7, hb7, hK7⟩
          clear hf7 hb7 hK7
          go_wp2
          go_roundw
          case rel => exact ⟨q + 1, by omega, by go_num, HREL⟩
          case measure => simp [intOf]; omega
        · have he1 : (e2 == 0) = false := by simpa using h2
          have he2 : (e2 != 0) = true := by simpa using h2
          have hP : putP F b pg = ({ F with d := D2 }, e2) := by
            have h5 := wrUp_bad (D := F.d) (b := pg * 8) (f := pageSec b) (q := q + 1) (by rw [HW2.out]; exact h2) (7 - q)
            rw [show q + 1 + (7 - q) = 8 by omega, HW2.out] at h5
            unfold putP
            rw [h5]
            simp only
            rw [if_neg h2]
          have HP := Lib.hid hP
          have H2 := Lib.hid h2
          clear h2 hP
          go_wp2
          go_ret2
          exact ⟨pg, HID.out, H, by rw [HP.out]; simp only; rw [if_neg H2.out]; rfl, by rw [HP.out]; exact hf7, rfl, rfl, rfl, hK7.mono (fun i _ h => H.dev_S i h), fun i h => .inl h⟩
      · have hlb2 : ¬ (q : Int) * 64 < b.length := by omega
        have hq64 : (b.length : Int) ≤ (q : Int) * 64 := by omega
        have hz : pageSec b q = Sec.zero := zeroSec_take _ (List.drop_eq_nil_of_le (by omega))
        go_wp2_with (first
          | ((with_reducible refine gd_alloc 62 ?_); refine wl_alloc_agg rfl _ rfl _ zero28 ?_; intro b8 w5 hb8 hb5 hK5)
          | fail)
        rw [← hz] at hb5
        have hf5 := HFR.out.new hK5
        have c0 := hf5.c0
        clear hz
        refine wp_region_still_tail 9 (by kernel_rfl) (by kernel_rfl) ?_
        simp only [List.take_succ_cons, List.take_zero, List.drop_succ_cons, List.drop_zero]
        iterate 8 still_step
        rw [W8.out, W8Q.out]
        refine ws_load_agg rfl _ _ rfl b8 0 rfl _ _ _ hb5 (secA (pageSec b q)) (extract_all _) _ Tryz.underlying62 rfl (info28s _) ?_
        refine wpStill_nil ?_
        have hf6 := hf5.drew
        go_wp2_with fail
        refine (write_calls _ H.dev D [112] _ (pageSec b q) hf6.dev hn).mono ?_
        rintro e w6 ⟨he, hd6, hk6⟩
        rw [HW.out] at he hd6
        dsimp only at he hd6
        subst he
        have hf7 := hf6.setDev hk6 hd6
        have hK7 := ((HKR.out.trans (hK5.mono (T := H.dev.S) (fun _ _ h => h.elim))).drew).trans hk6
        have hb7 := (isRd.drew (HBR.out.new hK5)).kept hk6 (fun g hg h => (HBS.out g hg).1 (.inr (.inl h)))
        clear hf5 hf6 c0 hb5 hd6 hk6 hK5 hb8
        by_cases h2 : e2 = 0
        · subst h2
          have HREL : Hid (PutRel w H F b _ pg (q + 1) w6) := Lib.hid ⟨D2, HW2.out, hf7, hb7, hK7⟩
          clear hf7 hb7 hK7
          go_wp2
          go_roundw
          case rel => exact ⟨q + 1, by omega, by go_num, HREL⟩
          case measure => simp [intOf]; omega
        · have he1 : (e2 == 0) = false := by simpa using h2
          have he2 : (e2 != 0) = true := by simpa using h2
          have hP : putP F b pg = ({ F with d := D2 }, e2) := by
            have h5 := wrUp_bad (D := F.d) (b := pg * 8) (f := pageSec b) (q := q + 1) (by rw [HW2.out]; exact h2) (7 - q)
            rw [show q + 1 + (7 - q) = 8 by omega, HW2.out] at h5
            unfold putP
            rw [h5]
            simp only
            rw [if_neg h2]
          have HP := Lib.hid hP
          have H2 := Lib.hid h2
          clear h2 hP
          go_wp2
          go_ret2
          exact ⟨pg, HID.out, H, by rw [HP.out]; simp only; rw [if_neg H2.out]; rfl, by rw [HP.out]; exact hf7, rfl, rfl, rfl, hK7.mono (fun i _ h => H.dev_S i h), fun i h => .inl h⟩
    · have hlb : decide (q < 8) = false := by simpa using hlt
      obtain rfl : q = 8 := by omega
      obtain ⟨D, hD, hfr, hbr, hkr⟩ := hrel.out
      have hP : putP F b pg = ({ F with d := D, used := fun j => F.used j || decide (j = pg), fresh := F.fresh ++ [pg] }, 0) := by unfold putP; rw [hD]; rfl
      have HP := Lib.hid hP
      have HFR := Lib.hid hfr
      have HKR := Lib.hid hkr
      have c5 := hfr.c5
      have hks := keyOkI (k := (pg : Int)) (by unfold kOk; omega)
      have hl1 : (intsV F.fresh).length + 1 ≤ maxLen := by rw [intsV_len]; simp only [maxLen]; omega
      have hl2 : ((intsV F.fresh).length + 1) * 8 ≤ 140737488355328 := by rw [intsV_len]; omega
      have HLO := Lib.hid (Nat.le_trans hlo hkr.size)
      clear hlt hD hfr hbr hkr hrel hP
      go_upto_region 17 with (first
        | (at_mapUpdate; refine wl_store rfl _ _ _ _ rfl _ keyedI Tryz.underlying117 HFR.out.used rfl (.int .i64 pg) (.int .i64 1) rfl rfl hks ?_; intro w4 hm4 hk4)
        | fail)
      rw [← usedF_put] at hm4
      have hf4 := HFR.out.setMap hk4 hm4
      have hK4 := (HKR.out.mono (T := H.S) (fun i _ h => H.dev_S i h)).trans (hk4.mono (T := H.S) (fun i _ h => H.bu_S i h))
      have HF4 := Lib.hid hf4
      have HLO4 := Lib.hid (Nat.le_trans HLO.out hk4.size)
      have c6 := hf4.c6
      clear hm4 hk4 hf4 c5
      go_wp2_with (first
        | (refine wl_slice1 rfl _ _ rfl 3 _ 8 Tryz.underlying22 info_int rfl (.int .i64 pg) rfl rfl ?_; intro bb w5 hbb HB5 HK5)
        | (at_builtin; refine wl_appendN rfl _ _ _ rfl 3 _ 8 Tryz.underlying22 info_int rfl H.lo _ (intsV F.fresh) rfl ((HF4.out.new HK5).fresh) _ [.int .i64 pg] rfl (isVals_one (ok := fun _ => True) HB5 trivial).rd (fun _ h => by cases h) (by simp; rfl) hl1 hl2 (Nat.le_trans HLO4.out HK5.size) ?_; intro v' w6 hap; obtain ⟨va, vn, vc, rfl⟩ := isOwn.shape hap.1; have c66 := (hap.2.1.cell (p := ⟨H.f, 6, none⟩) (lt_of_blk (HF4.out.new HK5).blk) (HF4.out.new HK5).nvf).trans (HF4.out.new HK5).c6; have f66 := (hap.2.1.frozen (p := ⟨H.f, 6, none⟩) (lt_of_blk (HF4.out.new HK5).blk) (HF4.out.new HK5).nvf).trans ((HF4.out.new HK5).fr 6))
        | fail)
      go_ret2
      obtain ⟨g1, g2, g3⟩ := (HF4.out.new HK5).append (by omega) hap
      refine ⟨pg, HID.out, { H with fv := .slice va vn vc }, by rw [HP.out]; rfl, by rw [HP.out]; exact g1, rfl, rfl, rfl, (hK4.trans (HK5.mono (fun _ _ h => h.elim))).trans g2, fun i h => ?_⟩
      rcases g3 i h with h | h
      · exact .inl h
      · exact .inr (Nat.le_trans (hK4.trans (HK5.mono (T := H.S) (fun _ _ h => h.elim))).size h)
end Go.Proofs.YtblpkifkaoaicaaGreat

namespace Go.Proofs.YtblpkifkaoaicaaGreat
open Go Go.RowKit Go.Maps Wb

def IndexPost (w : World) (p : Prop) (e : Ending) (w' : World) : Prop := ∃ r : Int, e = .returned (.int .i64 r) ∧ (0 ≤ r ↔ p) ∧ w = w'
def NotIn {α : Type} (x : α) (l : List α) (k : Nat) : Prop := ∀ j y, j < k → l[j]? = some y → y ≠ x
theorem NotIn.step {α : Type} {x y : α} {l : List α} {k : Nat} (h : NotIn x l k) (hk : l[k]? = some y) (hne : y ≠ x) : NotIn x l (k + 1) := fun j z hj hz => by
  rcases Nat.lt_or_ge j k with h1 | h1
  · exact h j z h1 hz
  · obtain rfl : j = k := by omega
    rw [hk] at hz; cases hz; exact hne
theorem NotIn.all {α : Type} {x : α} {l : List α} (h : NotIn x l l.length) : ¬ x ∈ l := fun hm => by
  obtain ⟨j, hj⟩ := List.mem_iff_getElem?.1 hm
  exact h j x (List.getElem?_eq_some_iff.1 hj).1 hj rfl

set_option maxRecDepth 100000 in
set_option maxHeartbeats 1000000 in
theorem indexI_calls (w : World) (v : Value) (l : List Int) (x : Int) (hv : isRd w v (intV l)) (hl : l.length ≤ 140737488351232) :
    Calls Tryz.prog 133 #[v, .int .i64 x] w (IndexPost w (x ∈ l)) := by
  obtain ⟨a, cap, rfl, hc1, hc3⟩ := hv
  have HC : Hid (∀ (k : Nat) c, l[k]? = some c → ∃ g o, a = some ⟨g, o, none⟩ ∧ w.cell? ⟨g, o + k, none⟩ = some (.int .i64 c)) := by
    intro k c hk
    obtain ⟨g, o, h1, _, h2⟩ := hc3 k _ (intV_at hk)
    exact ⟨g, o, h1, h2⟩
  rw [intV_len] at hc1 ⊢
  have hli : (l.length : Int) ≤ 140737488351232 := by omega
  clear hc3
  go_enter Tryz.func133, Tryz.ntmps133
  go_wp2_with fail
  go_loop [8] (fun i => ∃ k : Nat, k ≤ l.length ∧ i = .int .i64 k ∧ Hid (NotIn x l k)) (fun i => l.length - (intOf i).toNat)
  case atStart => exact ⟨0, Nat.zero_le _, rfl, Lib.hid (fun j y h => by omega)⟩
  case round =>
    obtain ⟨k, hk, rfl, hrel⟩ := hrel
    have hk0 : (0 : Int) ≤ k := by omega
    by_cases hlt : k < l.length
    · have hlt' : decide (k < l.length) = true := by simpa using hlt
      have hk9 : (k : Int) < l.length := by omega
      obtain ⟨g, o, rfl, hc⟩ := HC.out k l[k] (List.getElem?_eq_getElem hlt)
      have hkk : l[k]? = some l[k] := List.getElem?_eq_getElem hlt
      generalize l[k] = c at *
      by_cases hx : c = x
      · subst hx
        have hm : c ∈ l := List.mem_of_getElem? hkk
        have HM := Lib.hid hm
        clear hm hkk
        go_wp2
        go_ret
        exact ⟨k, rfl, ⟨fun _ => HM.out, fun _ => by omega⟩, rfl⟩
      · have he : (x == c) = false := by simpa using fun h : x = c => hx h.symm
        have HREL := Lib.hid (hrel.out.step hkk hx)
        clear hkk hx hrel
        go_wp2
        exact ⟨⟨k + 1, by omega, by go_num, HREL⟩, by simp [intOf]; omega⟩
    · have hge : decide (k < l.length) = false := by simpa using hlt
      obtain rfl : k = l.length := by omega
      have HN := Lib.hid hrel.out.all
      clear hlt
      go_wp2
      go_ret
      exact ⟨-1, rfl, ⟨fun h => by omega, fun h => absurd h HN.out⟩, rfl⟩
open Classical in
noncomputable def memB (p : Prop) : Bool := decide p
theorem memB_true {p : Prop} (h : p) : memB p = true := by unfold memB; simpa using h
theorem memB_false {p : Prop} (h : ¬ p) : memB p = false := by unfold memB; simpa using h
set_option maxHeartbeats 1000000 in
theorem containsI_calls (w : World) (v : Value) (l : List Int) (x : Int) (hv : isRd w v (intV l)) (hl : l.length ≤ 140737488351232) :
    Calls Tryz.prog 100 #[v, .int .i64 x] w fun e w' => e = .returned (.bool (memB (x ∈ l))) ∧ w = w' := by
  obtain ⟨a, cap, rfl, _⟩ := id hv
  go_enter Tryz.func100, Tryz.ntmps100
  go_wp2_with fail
  refine (indexI_calls _ _ l x hv hl).mono ?_
  rintro e w' ⟨r, rfl, hr, rfl⟩
  by_cases h0 : 0 ≤ r
  · have HM := Lib.hid (memB_true (hr.1 h0))
    clear hr
    go_wp2
    go_ret
    exact ⟨by rw [HM.out]; simp, rfl⟩
  · have HM := Lib.hid (memB_false (fun h => h0 (hr.2 h)))
    clear hr
    go_wp2
    go_ret
    exact ⟨by rw [HM.out]; simp [h0], rfl⟩

set_option maxRecDepth 100000 in
set_option maxHeartbeats 1000000 in
theorem indexS_calls (w : World) (v : Value) (l : List Nm) (x : Nm) (lo : Nat) (hv : isStrs w lo v l) (hl : l.length ≤ 140737488351232) :
    Calls Tryz.prog 80 #[v, .string (bs x)] w (IndexPost w (x ∈ l)) := by
  obtain ⟨a, cap, rfl, hc3⟩ := hv
  have HC : Hid (∀ (k : Nat) c, l[k]? = some c → ∃ g, a = some ⟨g, 0, none⟩ ∧ w.cell? ⟨g, k, none⟩ = some (.string (bs c))) := by
    intro k c hk
    rcases hc3 with rfl | ⟨g, rfl, _, _, h⟩
    · simp at hk
    · exact ⟨g, rfl, h k c hk⟩
  have hli : (l.length : Int) ≤ 140737488351232 := by omega
  clear hc3
  go_enter Tryz.func80, Tryz.ntmps80
  go_wp2_with fail
  go_loop [8] (fun i => ∃ k : Nat, k ≤ l.length ∧ i = .int .i64 k ∧ Hid (NotIn x l k)) (fun i => l.length - (intOf i).toNat)
  case atStart => exact ⟨0, Nat.zero_le _, rfl, Lib.hid (fun j y h => by omega)⟩
  case round =>
    obtain ⟨k, hk, rfl, hrel⟩ := hrel
    have hk0 : (0 : Int) ≤ k := by omega
    by_cases hlt : k < l.length
    · have hlt' : decide (k < l.length) = true := by simpa using hlt
      have hk9 : (k : Int) < l.length := by omega
      obtain ⟨g, rfl, hc⟩ := HC.out k l[k] (List.getElem?_eq_getElem hlt)
      have hkk : l[k]? = some l[k] := List.getElem?_eq_getElem hlt
      generalize l[k] = c at *
      by_cases hx : c = x
      · subst hx
        have hm : c ∈ l := List.mem_of_getElem? hkk
        have HM := Lib.hid hm
        clear hm hkk
        go_wp2
        go_ret
        exact ⟨k, rfl, ⟨fun _ => HM.out, fun _ => by omega⟩, rfl⟩
      · have he : ((bs x).toList == (bs c).toList) = false := by rw [bs_toList, bs_toList]; simpa using fun h : x = c => hx h.symm
        have HREL := Lib.hid (hrel.out.step hkk hx)
        clear hkk hx hrel
        go_wp2
        exact ⟨⟨k + 1, by omega, by go_num, HREL⟩, by simp [intOf]; omega⟩
    · have hge : decide (k < l.length) = false := by simpa using hlt
      obtain rfl : k = l.length := by omega
      have HN := Lib.hid hrel.out.all
      clear hlt
      go_wp2
      go_ret
      exact ⟨-1, rfl, ⟨fun h => by omega, fun h => absurd h HN.out⟩, rfl⟩
set_option maxHeartbeats 1000000 in
theorem containsS_calls (w : World) (v : Value) (l : List Nm) (x : Nm) (lo : Nat) (hv : isStrs w lo v l) (hl : l.length ≤ 140737488351232) :
    Calls Tryz.prog 51 #[v, .string (bs x)] w fun e w' => e = .returned (.bool (memB (x ∈ l))) ∧ w = w' := by
  obtain ⟨a, cap, rfl, _⟩ := id hv
  go_enter Tryz.func51, Tryz.ntmps51
  go_wp2_with fail
  refine (indexS_calls _ _ l x lo hv hl).mono ?_
  rintro e w' ⟨r, rfl, hr, rfl⟩
  by_cases h0 : 0 ≤ r
  · have HM := Lib.hid (memB_true (hr.1 h0))
    clear hr
    go_wp2
    go_ret
    exact ⟨by rw [HM.out]; simp, rfl⟩
  · have HM := Lib.hid (memB_false (fun h => h0 (hr.2 h)))
    clear hr
    go_wp2
    go_ret
    exact ⟨by rw [HM.out]; simp [h0], rfl⟩
end Go.Proofs.YtblpkifkaoaicaaGreat

namespace Go.Proofs.YtblpkifkaoaicaaGreat
open Go Go.RowKit Go.Maps Wb

def BeginRel (w : World) (h : DH) (D : Dv) (b4 q : Nat) (wr : World) : Prop :=
  ∃ D', wrUp D 0 beginSec q = (D', 0) ∧ isDev wr h D' ∧ wr.heap[b4]? = some (.cells (metaA mt1) 119 (0, 0)) ∧ Keeps w wr h.S
theorem mt1_good : mt1.ok := (mt1_ok 0).ok
theorem buildM1 (w : World) : (Instr.build 119 #[(0, .int .u64 1)]).run Tryz.prog w = .ok (.agg (metaA mt1)) w := by kernel_rfl

set_option maxRecDepth 100000 in
set_option maxHeartbeats 4000000 in
theorem begin_calls (w : World) (h : DH) (D : Dv) (hd : isDev w h D) : Calls Tryz.prog 53 #[.pointer (some ⟨h.p, 0, none⟩)] w (DevPost h w (.int .i64 (begunD D).2) (begunD D).1) := by
  have hn : nmOk [112] := nmOk_small (by decide)
  obtain ⟨D1, e1, hm⟩ : ∃ D1 e1, D.make [112] = (D1, e1) := ⟨_, _, rfl⟩
  have HM := Lib.hid hm
  by_cases h1 : e1 = 0
  · subst h1
    have HBG : Hid (begunD D = wrUp D1 0 beginSec 16) := by unfold Hid begunD; rw [hm]; rfl
    clear hm
    go_enter Tryz.func53, Tryz.ntmps53
    go_wp2_with fail
    refine (make_calls _ h D [112] hd hn).mono ?_
    rintro e w1 ⟨he, hd1, hk1⟩
    rw [HM.out] at he hd1
    dsimp only at he hd1
    subst he
    clear hd
    go_upto_region 5 with (first
      | ((with_reducible refine gd_build 119 ?_); refine wl_buildL rfl _ _ rfl [(0, .int .u64 1)] rfl (.agg (metaA mt1)) buildM1 ?_)
      | ((with_reducible refine gd_alloc 119 ?_); refine wl_alloc_agg rfl _ rfl _ zeroM ?_; intro b4 w2 hb4 HB2 HK2)
      | ((with_reducible refine gd_store 119 ?_); refine wl_store_agg rfl _ _ _ rfl b4 _ rfl _ _ HB2 (metaA mt1) rfl (metaA mt1) (store_meta _ _) (Nat.le_refl 4) (infoMs _) (metaA_one _) ?_; intro w3 HB3 HK3)
      | fail)
    have hK3 : Keeps w1 w3 (fun _ => False) := HK2.then HK3 (fun i hi e => absurd hb4 (by rw [← show i = b4 from e]; exact Nat.not_le.2 hi))
    have HREL0 : Hid (BeginRel w h D1 b4 0 w3) := Lib.hid ⟨D1, rfl, hd1.new hK3, HB3, hk1.trans (hK3.mono (fun _ _ h => h.elim))⟩
    have HNB : Hid (¬ h.S b4) := Lib.hid (fun h => absurd (hd1.lt h) (Nat.not_lt.2 hb4))
    clear hd1 hk1 HB2 HK2 HB3 HK3 hK3 hb4
    go_wp2_with fail
    go_loopw [14] (fun i wr => ∃ q : Nat, q ≤ 16 ∧ i = .int .i64 q ∧ Hid (BeginRel w h D1 b4 q wr)) (fun i _ => 16 - (intOf i).toNat)
    case atStart => exact ⟨0, Nat.zero_le _, rfl, HREL0⟩
    case round =>
      clear HREL0
      obtain ⟨q, hq, rfl, hrel⟩ := hrel
      have hq0 : (0 : Int) ≤ q := by omega
      by_cases hlt : q < 16
      · have hlb : decide (q < 16) = true := by simpa using hlt
        have hq9 : (q : Int) < 16 := by omega
        obtain ⟨D2, hD, hdr, hbr, hkr⟩ := hrel.out
        obtain ⟨D3, e3, hw⟩ : ∃ D3 e3, D2.write [112] q (beginSec q) = (D3, e3) := ⟨_, _, rfl⟩
        have hw2 : wrUp D1 0 beginSec (q + 1) = (D3, e3) := by
          rw [wrUp_step hD, ← hw]
          congr 1
          simp
        have HW := Lib.hid hw
        have HW2 := Lib.hid hw2
        have HKR := Lib.hid hkr
        have c4 : wr.cell? ⟨b4, 0, none⟩ = some (.int .u64 1) := by rw [cell_of_block hbr]; rfl
        have HDR := Lib.hid hdr
        have HBR := Lib.hid hbr
        clear hw hw2 hD hkr hrel hdr hbr
        by_cases h8 : q = 8
        · subst h8
          have hbs : beginSec 8 = metaS mt1 := rfl
          rw [hbs] at HW
          go_wp2_with (first
            | ((with_reducible refine gd_alloc 62 ?_); refine wl_alloc_agg rfl _ rfl _ zero28 ?_; intro b8 w3 hb8 HB8 HK8; have c4 : w3.cell? ⟨b4, 0, none⟩ = some (.int .u64 1) := (by rw [cell_of_block (HK8.blk HBR.out id)]; rfl))
            | (go_at_call 83; refine (slot_calls _ 1).mono ?_; rintro e w' ⟨rfl, rfl⟩)
            | ((with_reducible refine gd_load 119 ?_); refine wl_load_agg rfl _ _ rfl b4 0 rfl _ _ _ (HK8.blk HBR.out id) (metaA mt1) rfl _ Tryz.underlying119 rfl (infoMs _) ?_)
            | (go_at_call 84; refine (sector9_calls _ mt1 mt1_good).mono ?_; rintro e w4 ⟨rfl, HK4⟩; have HB4 := HK4.blk HB8 id)
            | ((with_reducible refine gd_store 62 ?_); refine wl_store_agg rfl _ _ _ rfl b8 _ rfl _ _ HB4 (secA (metaS mt1)) rfl (secA (metaS mt1)) (store_secs _ _) (le_secs _ _) (info28s _) (secA_one _) ?_; intro w5 HB5 HK5)
            | ((with_reducible refine gd_load 62 ?_); refine wl_load_agg rfl _ _ rfl b8 0 rfl _ _ _ HB5 (secA (metaS mt1)) (extract_all _) _ Tryz.underlying62 rfl (info28s _) ?_)
            | fail)
          have HKL : Hid (Keeps wr w5 (fun _ => False)) := Lib.hid ((HK8.trans HK4).then HK5 (fun i hi e => absurd hb8 (by rw [← show i = b8 from e]; exact Nat.not_le.2 hi)))
          have HW1 : Hid (D2.write [112] 8 (metaS mt1) = (D3, e3)) := HW
          clear HK8 HK4 HK5 HB8 HB4 HB5 hb8 c4 HW
          have HW := HW1
          refine (write_calls _ h D2 [112] 8 (metaS mt1) (HDR.out.new HKL.out) hn).mono ?_
          rintro e w6 ⟨he, hd6, hk6⟩
          rw [HW.out] at he hd6
          dsimp only at he hd6
          subst he
          have hb6 := hk6.blk (HKL.out.blk HBR.out id) HNB.out
          have hK6 := (HKR.out.trans (HKL.out.mono (T := h.S) (fun _ _ h => h.elim))).trans hk6
          by_cases h2 : e3 = 0
          · subst h2
            have HREL : Hid (BeginRel w h D1 b4 (8 + 1) w6) := Lib.hid ⟨D3, HW2.out, hd6, hb6, hK6⟩
            clear hd6 hb6 hK6 hk6
            go_wp2
            go_roundw
            case rel => exact ⟨8 + 1, by omega, by go_num, HREL⟩
            case measure => simp [intOf]
          · have he1 : (e3 == 0) = false := by simpa using h2
            have he2 : (e3 != 0) = true := by simpa using h2
            have hP : begunD D = (D3, e3) := by
              have h5 := wrUp_bad (D := D1) (b := 0) (f := beginSec) (q := 8 + 1) (by rw [HW2.out]; exact h2) (15 - 8)
              rw [show 8 + 1 + (15 - 8) = 16 by omega, HW2.out] at h5
              rw [HBG.out, h5]
            have HP := Lib.hid hP
            clear h2 hP
            go_wp2
            go_ret
            exact post_of HP.out hd6 hK6
        · have hq8 : ((q : Int) == 8) = false := by simpa using (by omega : ¬ (q : Int) = 8)
          have hbs : beginSec q = Sec.zero := by unfold beginSec; rw [if_neg h8]
          rw [hbs] at HW
          go_wp2_with (first
            | ((with_reducible refine gd_alloc 62 ?_); refine wl_alloc_agg rfl _ rfl _ zero28 ?_; intro b8 w3 hb8 HB8 HK8; have c4 : w3.cell? ⟨b4, 0, none⟩ = some (.int .u64 1) := (by rw [cell_of_block (HK8.blk HBR.out id)]; rfl))
            | (go_at_call 83; refine (slot_calls _ 1).mono ?_; rintro e w' ⟨rfl, rfl⟩)
            | ((with_reducible refine gd_load 62 ?_); refine wl_load_agg rfl _ _ rfl b8 0 rfl _ _ _ HB8 (secA Sec.zero) (extract_all _) _ Tryz.underlying62 rfl (info28s _) ?_)
            | fail)
          have HKL := Lib.hid HK8
          clear HK8 HB8 hb8 c4
          refine (write_calls _ h D2 [112] q Sec.zero (HDR.out.new HKL.out) hn).mono ?_
          rintro e w6 ⟨he, hd6, hk6⟩
          rw [HW.out] at he hd6
          dsimp only at he hd6
          subst he
          have hb6 := hk6.blk (HKL.out.blk HBR.out id) HNB.out
          have hK6 := (HKR.out.trans (HKL.out.mono (T := h.S) (fun _ _ h => h.elim))).trans hk6
          by_cases h2 : e3 = 0
          · subst h2
            have HREL : Hid (BeginRel w h D1 b4 (q + 1) w6) := Lib.hid ⟨D3, HW2.out, hd6, hb6, hK6⟩
            clear hd6 hb6 hK6 hk6
            go_wp2
            go_roundw
            case rel => exact ⟨q + 1, by omega, by go_num, HREL⟩
            case measure => simp [intOf]; omega
          · have he1 : (e3 == 0) = false := by simpa using h2
            have he2 : (e3 != 0) = true := by simpa using h2
            have hP : begunD D = (D3, e3) := by
              have h5 := wrUp_bad (D := D1) (b := 0) (f := beginSec) (q := q + 1) (by rw [HW2.out]; exact h2) (15 - q)
              rw [show q + 1 + (15 - q) = 16 by omega, HW2.out] at h5
              rw [HBG.out, h5]
            have HP := Lib.hid hP
            clear h2 hP
            go_wp2
            go_ret
            exact post_of HP.out hd6 hK6
      · have hlb : decide (q < 16) = false := by simpa using hlt
        obtain rfl : q = 16 := by omega
        obtain ⟨D2, hD, hdr, hbr, hkr⟩ := hrel.out
        have HP : Hid (begunD D = (D2, 0)) := by unfold Hid; rw [HBG.out, hD]
        clear hlt hD hbr hrel
        go_wp2
        go_ret
        exact post_of HP.out hdr hkr
  · have he1 : (e1 == 0) = false := by simpa using h1
    have he2 : (e1 != 0) = true := by simpa using h1
    have HBG : Hid (begunD D = (D1, e1)) := by unfold Hid begunD; rw [hm]; simp only; rw [if_neg h1]
    clear hm h1
    go_enter Tryz.func53, Tryz.ntmps53
    go_wp2_with fail
    refine (make_calls _ h D [112] hd hn).mono ?_
    rintro e w1 ⟨he, hd1, hk1⟩
    rw [HM.out] at he hd1
    dsimp only at he hd1
    subst he
    go_wp2
    go_ret
    exact post_of HBG.out hd1 hk1
end Go.Proofs.YtblpkifkaoaicaaGreat

namespace Go.Proofs.YtblpkifkaoaicaaGreat
open Go Go.RowKit Go.Maps Wb

/-- The best meta ahead of page k's. -/
def mtK (D : Dv) (k : Nat) : Mt := if k = 0 then mt0 else if k = 1 then betterMt mt0 (metaAt (D.read [112] 0) 0 (pagesOf D)) else bestMt D
theorem mtK_succ (D : Dv) {k : Nat} (hk : k < 2) : mtK D (k + 1) = betterMt (mtK D k) (metaAt (D.read [112] ((k : Int) * 8)) k (pagesOf D)) := by
  rcases Nat.lt_or_ge k 1 with h | h
  · obtain rfl : k = 0 := by omega
    rfl
  · obtain rfl : k = 1 := by omega
    rfl
theorem mt0_ok : mt0.ok := ⟨by decide, by decide, by decide, by decide⟩
theorem metaAt_ok (r : Sec × Int) (pg long : Nat) : (metaAt r pg long).1.ok := by
  unfold metaAt
  split
  · rename_i h; exact metaP_ok h.2.2
  · exact mt0_ok
def OpenPost (w : World) (h : DH) (D : Dv) (e : Ending) (w' : World) : Prop :=
  (openE D = 0 ∧ ∃ H, e = .returned (.tuple #[.pointer (some ⟨H.f, 0, none⟩), .int .i64 0]) ∧ isFile w' H (openP (openD D).1) ∧ H.dev = h ∧ H.lo = 0 ∧ (∀ i, H.S i → h.S i ∨ w.heap.size ≤ i) ∧ Keeps w w' h.S) ∨
  (openE D ≠ 0 ∧ e = .returned (.tuple #[.pointer none, .int .i64 (openE D)]) ∧ isDev w' h (openD D).1 ∧ Keeps w w' h.S)
theorem open_bad {w w' : World} {h : DH} {D D' : Dv} {r : Int} (hR : openD D = (D', r)) (hr : r ≠ 0) (hd : isDev w' h D') (hk : Keeps w w' h.S) : OpenPost w h D (.returned (.tuple #[.pointer none, .int .i64 r])) w' := by
  have : openE D = r := by unfold openE; rw [hR]; simp [hr]
  right
  rw [this, hR]
  exact ⟨hr, rfl, hd, hk⟩
/-- The new file's block. -/
def rawP (D : Dv) (m : Mt) (u : Nat → Bool) : Pg := ⟨D, m, u, [], false⟩
def rawH (h : DH) (bf bm : Nat) : FH := ⟨bf, h, bm, .slice none 0 0, 0⟩
theorem raw_file {w w1 w2 : World} {h : DH} {D : Dv} {bm bf : Nat} (hd : isDev w h D) (hbm : w.heap.size ≤ bm) (hm : isMap Tryz.prog 3 w1 bm (fun _ => none)) (hk1 : Keeps w w1 (fun _ => False)) (hbf : w1.heap.size ≤ bf)
    (hb : w2.heap[bf]? = some (.cells (fileA (rawP D mt0 (fun _ => false)) (rawH h bf bm)) 121 (0, 0))) (hk2 : Keeps w1 w2 (fun _ => False)) : isFile w2 (rawH h bf bm) (rawP D mt0 (fun _ => false)) := by
  have hl := hm.lt
  refine ⟨hb, hd.new (hk1.trans hk2), ?_, isOwn_nil _ _ _, mt0_ok, ?_, ?_, ?_, by simp [rawH, Value.ownBlock], by simp [rawH, Value.ownBlock], (by intro i h; cases h), (by intro k h; cases h)⟩
  · rw [show usedF (rawP D mt0 fun _ => false).used = fun _ => none from usedF_none]
    exact isMap.kept hm hk2 id
  · intro h2
    have := hd.lt h2
    have := hk1.size
    simp only [rawH] at *
    omega
  · simp only [rawH]; omega
  · intro h2
    have := hd.lt h2
    simp only [rawH] at *
    omega
theorem raw_len {w : World} {h : DH} {bf bm : Nat} {D : Dv} {m : Mt} {u : Nat → Bool} (hf : isFile w (rawH h bf bm) (rawP D m u)) : Calls Tryz.prog 57 #[.pointer (some ⟨bf, 0, none⟩)] w fun e w' => e = .returned (.int .i64 (pagesOf D)) ∧ w = w' := flen_calls _ _ _ hf
theorem file_setMeta (F : Pg) (H : FH) (m : Mt) : Wb.splice (fileA F H) 1 (metaA m) = fileA { F with mt := m } H := rfl
theorem le_fileMeta (F : Pg) (H : FH) (m : Mt) : 1 + (metaA m).size ≤ (fileA F H).size := by simp [metaA, fileA]
theorem isFile.setMeta {w w' : World} {H : FH} {F : Pg} {m : Mt} (hf : isFile w H F) (hm : m.ok) (hb : w'.heap[H.f]? = some (.cells (fileA { F with mt := m } H) 121 (0, 0))) (hk : Keeps w w' (· = H.f)) : isFile w' H { F with mt := m } :=
  ⟨hb, hf.dev.apart hk (fun i h h2 => hf.nfd (by rw [← h]; exact h2)), hf.used.kept hk (fun h => hf.nfu h.symm), hf.fresh.kept hk (fun g hg h => hf.nvf (by rw [hg, h])), hm, hf.nfd, hf.nfu, hf.nud, hf.nvf, hf.nvu, hf.nvd, hf.frs⟩
def Open1 (w : World) (h : DH) (D : Dv) (wx : World) : Prop := isDev wx h D ∧ Keeps w wx h.S
def OpenRel (w : World) (h : DH) (D : Dv) (bf bm k : Nat) (wr : World) : Prop := isFile wr (rawH h bf bm) (rawP D (mtK D k) (fun _ => false)) ∧ Keeps w wr h.S
def usedTo (k j : Nat) : Bool := decide (2 ≤ j ∧ j < k)
theorem usedTo_succ {k : Nat} (h : 2 ≤ k) : usedTo (k + 1) = fun j => usedTo k j || decide (j = k) := by
  funext j
  unfold usedTo
  rw [Bool.eq_iff_iff]
  simp only [Bool.or_eq_true, decide_eq_true_eq]
  omega
theorem usedTo_two : usedTo 2 = fun _ => false := by funext j; unfold usedTo; simp
def OpenRel2 (w : World) (h : DH) (D : Dv) (bf bm k : Nat) (wr : World) : Prop := isFile wr (rawH h bf bm) (rawP D (bestMt D) (usedTo k)) ∧ Keeps w wr h.S

set_option maxRecDepth 100000 in
set_option maxHeartbeats 8000000 in
theorem open_calls (w : World) (h : DH) (D : Dv) (hd : isDev w h D) (hfl : D.files.length ≤ 1000000) : Calls Tryz.prog 25 #[.pointer (some ⟨h.p, 0, none⟩)] w (OpenPost w h D) := by
  have hn : nmOk [112] := nmOk_small (by decide)
  have hnl : D.names.length ≤ 140737488351232 := by unfold Dv.names; rw [List.length_map]; omega
  obtain ⟨D0, e0, hD0⟩ : ∃ D0 e0, (if [112] ∈ D.names then (D, 0) else begunD D) = (D0, e0) := ⟨_, _, rfl⟩
  have HD0 := Lib.hid hD0
  have HDV := Lib.hid hd
  clear hD0 hd
  go_enter Tryz.func25, Tryz.ntmps25
  go_wp2_with fail
  refine (names_calls _ h D HDV.out hfl).mono ?_
  rintro e w1 ⟨v, rfl, hst, hk1⟩
  go_wp2_with fail
  refine (containsS_calls _ v D.names [112] _ hst hnl).mono ?_
  rintro e w' ⟨he, rfl⟩
  have hd1 := HDV.out.new hk1
  have hK1 := hk1.mono (T := h.S) (fun _ _ h => h.elim)
  generalize hbA : memB ([112] ∈ D.names) = bA at he
  have HBA := Lib.hid hbA
  subst he
  clear hst hk1 hbA
  go_upto_if 14 with fail
  go_cut [] (fun wx => Open1 w h D0 wx ∧ e0 = 0)
  case first =>
    cases bA with
    | true =>
      have HA : Hid (D = D0 ∧ e0 = 0) := by
        have h1 := HD0.out
        have h2 := HBA.out
        by_cases hA : [112] ∈ D.names
        · rw [if_pos hA] at h1
          cases h1
          exact Lib.hid ⟨rfl, rfl⟩
        · rw [memB_false hA] at h2; cases h2
      obtain ⟨rfl, he0⟩ := HA.out
      go_wp2_with fail
      go_meet
      exact ⟨⟨hd1, hK1⟩, he0⟩
    | false =>
      have HA : Hid (begunD D = (D0, e0) ∧ ¬ [112] ∈ D.names) := by
        have h1 := HD0.out
        have h2 := HBA.out
        by_cases hA : [112] ∈ D.names
        · rw [memB_true hA] at h2; cases h2
        · rw [if_neg hA] at h1
          exact Lib.hid ⟨h1, hA⟩
      go_wp2_with fail
      refine (begin_calls _ h D hd1).mono ?_
      rintro e w2 ⟨he, hd2, hk2⟩
      rw [HA.out.1] at he hd2
      dsimp only at he hd2
      subst he
      by_cases h0 : e0 = 0
      · subst h0
        go_wp2_with fail
        go_meet
        exact ⟨⟨hd2, hK1.trans hk2⟩, trivial⟩
      · have he1 : (e0 == 0) = false := by simpa using h0
        have he2 : (e0 != 0) = true := by simpa using h0
        have HO : Hid (openD D = (D0, e0) ∧ e0 ≠ 0) := by
          refine Lib.hid ⟨?_, h0⟩
          unfold openD
          rw [if_neg HA.out.2, HA.out.1]
          simp only
          rw [if_neg h0]
        clear h0
        go_wp2
        go_ret2
        exact open_bad HO.out.1 HO.out.2 hd2 (hK1.trans hk2)
  case rest =>
    obtain ⟨⟨hd2, hK2⟩, rfl⟩ := hcut
    have HO : Hid (openD D = D0.sync [112]) := by
      have h1 := HD0.out
      unfold Hid openD
      by_cases hA : [112] ∈ D.names
      · rw [if_pos hA] at h1 ⊢
        cases h1; rfl
      · rw [if_neg hA] at h1 ⊢
        rw [h1]; rfl
    obtain ⟨D1, e1, hs⟩ : ∃ D1 e1, D0.sync [112] = (D1, e1) := ⟨_, _, rfl⟩
    have HS := Lib.hid hs
    have HO1 : Hid (openD D = (D1, e1)) := by unfold Hid; rw [HO.out, hs]
    clear hs HDV hd1 hK1
    go_wp2_with fail
    refine (sync_calls _ h D0 [112] hd2 hn).mono ?_
    rintro e w3 ⟨he, hd3, hk3⟩
    rw [HS.out] at he hd3
    dsimp only at he hd3
    subst he
    by_cases h1 : e1 = 0
    · subst h1
      have hK3 := hK2.trans hk3
      clear hd2 hK2 hk3
      go_upto_region 9 with (first
        | ((with_reducible refine gd_makeMap 117 ?_); refine wl_makeMap rfl _ rfl 3 ?_; intro bm w4 hbm HM4 hk4)
        | ((with_reducible refine gd_build 121 ?_); refine wl_buildL rfl _ _ rfl [(0, .pointer (some ⟨h.p, 0, none⟩)), (2, .map (some bm))] rfl (.agg (fileA (rawP D1 mt0 (fun _ => false)) (rawH h 0 bm))) (fun _ => by kernel_rfl) ?_)
        | ((with_reducible refine gd_box 121 ?_); refine wl_box_agg rfl _ _ rfl (fileA (rawP D1 mt0 (fun _ => false)) (rawH h 0 bm)) rfl ?_; intro bf w5 hbf HB5 hk5)
        | fail)
      have hf5 := raw_file hd3 hbm HM4 hk4 hbf HB5 hk5
      have hK5 := hK3.trans ((hk4.trans hk5).mono (T := h.S) (fun _ _ h => h.elim))
      have HNEW : Hid (w.heap.size ≤ bm ∧ w.heap.size ≤ bf) := Lib.hid ⟨Nat.le_trans hK3.size hbm, Nat.le_trans (Nat.le_trans hK3.size hk4.size) hbf⟩
      have HREL0 : Hid (OpenRel w h D1 bf bm 0 w5) := Lib.hid ⟨hf5, hK5⟩
      clear hd3 hbm HM4 hk4 hbf HB5 hk5 hf5 hK5 hK3
      go_upto_block 0 with fail
      go_cut [] (fun wx => Hid (OpenRel w h D1 bf bm 2 wx))
      case first =>
        go_wp2_with fail
        go_loopw [29] (fun i wr => ∃ q : Nat, q ≤ 2 ∧ i = .int .i64 q ∧ Hid (OpenRel w h D1 bf bm q wr)) (fun i _ => 2 - (intOf i).toNat)
        case atStart => exact ⟨0, Nat.zero_le _, rfl, HREL0⟩
        case round =>
          clear HREL0
          obtain ⟨q, hq, rfl, hrel⟩ := hrel
          have hq0 : (0 : Int) ≤ q := by omega
          by_cases hlt : q < 2
          · have hlb : decide (q < 2) = true := by simpa using hlt
            have hq9 : (q : Int) < 2 := by omega
            have hmk := mtK_succ D1 hlt
            have hmo := metaAt_ok (D1.read [112] ((q : Int) * 8)) q (pagesOf D1)
            obtain ⟨m1, ok1, hr⟩ : ∃ m1 ok1, metaAt (D1.read [112] ((q : Int) * 8)) q (pagesOf D1) = (m1, ok1) := ⟨_, _, rfl⟩
            rw [hr] at hmk hmo
            have HR := Lib.hid hr
            have HMK := Lib.hid hmk
            have HMO : Hid m1.ok := Lib.hid hmo
            have HREL := hrel
            have HQ := Lib.hid hlt
            clear hr hmk hmo hlt hrel
            obtain ⟨hfr, hkr⟩ := HREL.out
            go_wp2_with fail
            refine (pages_calls _ h D1 hfr.dev).mono ?_
            rintro e w' ⟨rfl, rfl⟩
            go_wp2_with fail
            refine (metaAt_calls _ h D1 q (pagesOf D1) hfr.dev HQ.out).mono ?_
            rintro e w6 ⟨he, hk6⟩
            rw [HR.out] at he
            dsimp only at he
            subst he
            have HF6 := Lib.hid (hfr.new hk6)
            go_upto_region 13 with (first
              | ((with_reducible refine gd_alloc 119 ?_); refine wl_alloc_agg rfl _ rfl _ zeroM ?_; intro b8 w7 hb8 HB7 HK7)
              | ((with_reducible refine gd_store 119 ?_); refine wl_store_agg rfl _ _ _ rfl b8 _ rfl _ _ HB7 (metaA m1) rfl (metaA m1) (store_meta _ _) (Nat.le_refl 4) (infoMs _) (metaA_one _) ?_; intro w8 HB8 HK8)
              | fail)
            have hk8 : Keeps wr w8 (fun _ => False) := (hk6.trans HK7).then HK8 (fun i hi e => absurd (Nat.le_trans hk6.size hb8) (by rw [← show i = b8 from e]; exact Nat.not_le.2 hi))
            have hf8 := hfr.new hk8
            have HK := Lib.hid (hkr.trans (hk8.mono (T := h.S) (fun _ _ h => h.elim)))
            have c8 : w8.cell? ⟨b8, 0, none⟩ = some (.int .u64 m1.gen) := by rw [cell_of_block HB8]; rfl
            have c1 : w8.cell? ⟨bf, 1, none⟩ = some (.int .u64 (mtK D1 q).gen) := hf8.c1
            have hne : ¬ b8 = bf := fun e => absurd (lt_of_blk HF6.out.blk) (by show ¬ bf < _; omega)
            have HF8 := Lib.hid hf8
            have HB8' := Lib.hid HB8
            have g1 : (0 : Int) ≤ m1.gen := by omega
            have g2 : (0 : Int) ≤ (mtK D1 q).gen := by omega
            clear HB7 HK7 HB8 HK8 hk6 hk8 hfr hkr HREL hf8 hb8
            cases ok1 with
            | false =>
              have HMT : Hid (mtK D1 (q + 1) = mtK D1 q) := by unfold Hid; rw [HMK.out]; unfold betterMt; rw [if_neg (fun h => by cases h.1)]
              have HREL : Hid (∀ n, OpenRel w h D1 bf bm (q + 1) (w8.drewN n)) := Lib.hid fun n => ⟨by rw [HMT.out]; exact HF8.out.drewN n, HK.out.drewN n⟩
              go_quiet (fail)
              go_wp2
              go_roundw
              case rel => exact ⟨q + 1, by have := HQ.out; omega, by go_num, Lib.hid (HREL.out _)⟩
              case measure => have := HQ.out; simp [intOf]; omega
            | true =>
              by_cases hg : (mtK D1 q).gen < m1.gen
              · have hgb : decide ((mtK D1 q).gen < m1.gen) = true := by simpa using hg
                have HMT : Hid (mtK D1 (q + 1) = m1) := by unfold Hid; rw [HMK.out]; unfold betterMt; rw [if_pos ⟨rfl, hg⟩]
                clear hg
                go_quiet (fail)
                go_wp2_with (first
                  | ((with_reducible refine gd_load 119 ?_); refine wl_load_agg rfl _ _ rfl b8 0 rfl _ _ _ HB8'.out (metaA m1) rfl _ Tryz.underlying119 rfl (infoMs _) ?_)
                  | ((with_reducible refine gd_store 119 ?_); refine wl_store_agg rfl _ _ _ rfl bf 1 rfl _ _ HF8.out.blk (metaA m1) rfl _ (file_setMeta _ _ _) (le_fileMeta _ _ _) (infoMs _) (metaA_one _) ?_; intro w9 HB9 HK9)
                  | fail)
                have HREL : Hid (OpenRel w h D1 bf bm (q + 1) w9) := by
                  have hk9 : Keeps w8 w9 (· = bf) := ((Keeps.refl w8 _).drewN _).trans HK9
                  refine Lib.hid ⟨?_, HK.out.then hk9 (fun i hi e => absurd HNEW.out.2 (by rw [← show i = bf from e]; exact Nat.not_le.2 hi))⟩
                  rw [HMT.out]
                  exact HF8.out.setMeta HMO.out HB9 hk9
                clear HB9 HK9
                go_roundw
                case rel => exact ⟨q + 1, by have := HQ.out; omega, by go_num, HREL⟩
                case measure => have := HQ.out; simp [intOf]; omega
              · have hgb : decide ((mtK D1 q).gen < m1.gen) = false := by simpa using hg
                have HMT : Hid (mtK D1 (q + 1) = mtK D1 q) := by unfold Hid; rw [HMK.out]; unfold betterMt; rw [if_neg (fun h => hg h.2)]
                clear hg
                have HREL : Hid (∀ n, OpenRel w h D1 bf bm (q + 1) (w8.drewN n)) := Lib.hid fun n => ⟨by rw [HMT.out]; exact HF8.out.drewN n, HK.out.drewN n⟩
                go_quiet (fail)
                go_wp2
                go_roundw
                case rel => exact ⟨q + 1, by have := HQ.out; omega, by go_num, Lib.hid (HREL.out _)⟩
                case measure => have := HQ.out; simp [intOf]; omega
          · have hlb : decide (q < 2) = false := by simpa using hlt
            obtain rfl : q = 2 := by omega
            clear hlt
            go_wp2_with fail
            go_meet
            exact hrel
      case rest =>
        clear HREL0
        obtain ⟨hfr, hkr⟩ := hcut.out
        have hmt : mtK D1 2 = bestMt D1 := rfl
        rw [hmt] at hfr
        have HF := Lib.hid hfr
        have HK := Lib.hid hkr
        have c1 : wc.cell? ⟨bf, 1, none⟩ = some (.int .u64 (bestMt D1).gen) := hfr.c1
        have HPS : Hid (pagesOf D1 ≤ 12500) := Lib.hid (pages_small hfr.dev.wf)
        clear hfr hkr hmt
        have HOE : Hid (openE D = if (bestMt D1).gen = 0 ∨ pagesOf D1 < 2 then 12 else 0) := by unfold Hid openE; rw [HO1.out]; simp
        by_cases hg : (bestMt D1).gen = 0
        · have hgb : (((bestMt D1).gen : Int) == 0) = true := by simp [hg]
          have HE : Hid (openE D = 12) := by unfold Hid; rw [HOE.out, if_pos (.inl hg)]
          clear hg
          go_wp2
          go_ret2
          exact .inr ⟨by rw [HE.out]; decide, by rw [HE.out]; rfl, by rw [HO1.out]; exact HF.out.dev, HK.out⟩
        · have hgb : (((bestMt D1).gen : Int) == 0) = false := by simp [hg]
          by_cases hp : pagesOf D1 < 2
          · have hpb : (pagesOf D1 : Int) < 2 := by omega
            have HE : Hid (openE D = 12) := by unfold Hid; rw [HOE.out, if_pos (.inr hp)]
            clear hg hp
            go_wp2_with (go_at_call 57; refine (raw_len HF.out).mono ?_; rintro e w' ⟨rfl, rfl⟩)
            go_ret2
            exact .inr ⟨by rw [HE.out]; decide, by rw [HE.out]; rfl, by rw [HO1.out]; exact HF.out.dev, HK.out⟩
          · have hpb : (2 : Int) ≤ pagesOf D1 := by omega
            have HE : Hid (openE D = 0) := by unfold Hid; rw [HOE.out, if_neg (by rintro (h | h); exact hg h; exact hp h)]
            have HREL0 : Hid (OpenRel2 w h D1 bf bm 2 wc) := Lib.hid ⟨by rw [usedTo_two]; exact HF.out, HK.out⟩
            clear hg hp
            go_wp2_with (go_at_call 57; refine (raw_len HF.out).mono ?_; rintro e w' ⟨rfl, rfl⟩)
            go_loopw [10] (fun i wr => ∃ k : Nat, 2 ≤ k ∧ k ≤ pagesOf D1 ∧ i = .int .i64 k ∧ Hid (OpenRel2 w h D1 bf bm k wr)) (fun i _ => pagesOf D1 - (intOf i).toNat)
            case atStart => exact ⟨2, Nat.le_refl _, by omega, rfl, HREL0⟩
            case round =>
              clear HREL0 c1 HF HK
              obtain ⟨k, hk2, hkp, rfl, hrel⟩ := hrel
              have hk0 : (0 : Int) ≤ k := by omega
              have hk9 : (k : Int) ≤ 20000 := by have := HPS.out; omega
              obtain ⟨hfr, hkr⟩ := hrel.out
              have c5 : wr.cell? ⟨bf, 5, none⟩ = some (.map (some bm)) := hfr.c5
              have HF := Lib.hid hfr
              have HK := Lib.hid hkr
              by_cases hlt : k < pagesOf D1
              · have hlb : decide (k < pagesOf D1) = true := by simpa using hlt
                have hks := keyOkI (k := (k : Int)) (by unfold kOk; omega)
                have HLT := Lib.hid hlt
                clear hrel hfr hkr hlt
                go_wp2_with (first
                  | (go_at_call 57; refine (raw_len HF.out).mono ?_; rintro e w' ⟨rfl, rfl⟩)
                  | (at_mapUpdate; refine wl_store rfl _ _ _ _ rfl _ keyedI Tryz.underlying117 HF.out.used rfl (.int .i64 k) (.int .i64 1) rfl rfl hks ?_; intro w4 hm4 hk4)
                  | fail)
                have HREL : Hid (OpenRel2 w h D1 bf bm (k + 1) w4) := by
                  have hm : isMap Tryz.prog 3 w4 bm (usedF (usedTo (k + 1))) := by
                    rw [usedTo_succ hk2, usedF_put]; exact hm4
                  refine Lib.hid ⟨HF.out.setMap hk4 hm, HK.out.then hk4 (fun i hi e => absurd HNEW.out.1 (by rw [← show i = bm from e]; exact Nat.not_le.2 hi))⟩
                clear hm4 hk4
                go_roundw
                case rel => exact ⟨k + 1, by omega, HLT.out, by go_num, HREL⟩
                case measure => have := HLT.out; simp [intOf]; omega
              · have hlb : decide (k < pagesOf D1) = false := by simpa using hlt
                obtain rfl : k = pagesOf D1 := by omega
                clear hrel hfr hkr hlt
                go_wp2_with (go_at_call 57; refine (raw_len HF.out).mono ?_; rintro e w' ⟨rfl, rfl⟩)
                go_ret2
                refine .inl ⟨HE.out, rawH h bf bm, rfl, by rw [HO1.out]; exact HF.out, rfl, rfl, ?_, HK.out⟩
                rintro i (h1 | h1 | h1 | h1)
                · right; rw [h1]; exact HNEW.out.2
                · exact .inl h1
                · right; rw [h1]; exact HNEW.out.1
                · cases h1
    · have he1 : (e1 == 0) = false := by simpa using h1
      have he2 : (e1 != 0) = true := by simpa using h1
      have H1 := Lib.hid h1
      clear h1
      go_wp2
      go_ret2
      exact open_bad HO1.out H1.out hd3 (hK2.trans hk3)
end Go.Proofs.YtblpkifkaoaicaaGreat

namespace Go.Proofs.YtblpkifkaoaicaaGreat
open Go Go.RowKit Go.Maps Wb

/-- What a commit that is asked rightly comes to. -/
def CommitPost (w : World) (H : FH) (F : Pg) (m : Mt) (ids : List Int) (r : Dv × Int) (e : Ending) (w' : World) : Prop :=
  if r.2 = 0 then FilePost w H (keepP { F with d := r.1, mt := m } ids) (.int .i64 0) e w' else FilePost w H { F with d := r.1, dead := true } (.int .i64 r.2) e w'

set_option maxRecDepth 100000 in
set_option maxHeartbeats 8000000 in
theorem commit_yes (w : World) (H : FH) (F : Pg) (hf : isFile w H F) (hdead : F.dead = false) (root count : Int) (mark : Nat) (v : Value) (ids : List Int) (hv : isRd w v (intV ids)) (hvs : ∀ g, v.ownBlock = some g → ids = [] ∨ (¬ H.S g ∧ g < w.heap.size)) (hl : ids.length ≤ 140737488351232)
    (hok : commitOk F root count ids) (hg : F.mt.gen + 1 < 2 ^ 64) (hmk : mark < 2 ^ 64) (hpg : (wrMeta F.d (nextMt F root count mark)).2 = 0 → pagesOf (wrMeta F.d (nextMt F root count mark)).1 = pagesOf F.d) :
    Calls Tryz.prog 73 #[.pointer (some ⟨H.f, 0, none⟩), .int .i64 root, .int .i64 count, .int .u64 mark, v] w (CommitPost w H F (nextMt F root count mark) ids (wrMeta F.d (nextMt F root count mark))) := by
  have hmo := (next_ok (mark := mark) hok (pages_small hf.dev.wf) hg hmk).ok
  have hris := hok.1
  have hr0 : 0 ≤ root := by
    rcases hok.2.1 with h | h
    · omega
    · have := rising_mem hok.1 h; omega
  have hc0 := hok.2.2.1
  have hc1 := hok.2.2.2
  obtain ⟨m, hm⟩ : ∃ m, nextMt F root count mark = m := ⟨_, rfl⟩
  have hm1 : m.gen = F.mt.gen + 1 := by rw [← hm]; rfl
  have hm2 : (m.root : Int) = root := by rw [← hm]; exact Int.toNat_of_nonneg hr0
  have hm3 : (m.count : Int) = count := by rw [← hm]; exact Int.toNat_of_nonneg hc0
  have hm4 : m.mark = mark := by rw [← hm]; rfl
  rw [hm] at hmo hpg ⊢
  obtain ⟨D', r, hw⟩ : ∃ D' r, wrMeta F.d m = (D', r) := ⟨_, _, rfl⟩
  rw [hw] at hpg ⊢
  obtain ⟨a, cap, rfl, _⟩ := id hv
  have c7 := hf.c7
  rw [hdead] at c7
  have c1 := hf.c1
  have hgw : ((F.mt.gen : Int) == 18446744073709551615) = false := by simp; omega
  have HGW := Lib.hid hgw
  have HR := Lib.hid (risingB_true hris)
  have HRIS := Lib.hid hris
  have HMB : Hid (root ≠ 0 → memB (root ∈ ids) = true) := Lib.hid fun h => memB_true (hok.2.1.resolve_left h)
  have HF := Lib.hid hf
  have HV := Lib.hid hv
  have HVS := Lib.hid hvs
  have HPG := Lib.hid hpg
  have HMO := Lib.hid hmo
  have HW := Lib.hid hw
  have HM1 := Lib.hid hm1
  have HM2 := Lib.hid hm2
  have HM3 := Lib.hid hm3
  have HM4 := Lib.hid hm4
  have HG := Lib.hid hg
  have g0 : (0 : Int) ≤ F.mt.gen := by omega
  clear hgw hris hok hf hv hvs hpg hmo hw hm1 hm2 hm3 hm4 hm hg hmk hdead
  go_enter Tryz.func73, Tryz.ntmps73
  go_upto_block 0 with fail
  go_cut [] (fun wx => wx = w)
  case first =>
    have hgw := HGW.out
    by_cases hz : root = 0
    · have hzb : (root != 0) = false := by simpa using hz
      have HZ := Lib.hid hz
      clear hz
      go_wp2_with (go_at_call 91; refine (rising_calls _ H F HF.out _ ids HV.out hl).mono ?_; rintro e w' ⟨he, rfl⟩; rw [HR.out] at he; subst he)
      go_meet
      rfl
    · have hzb : (root != 0) = true := by simpa using hz
      have HM := Lib.hid (HMB.out hz)
      clear hz
      go_wp2_with (first
        | (go_at_call 91; refine (rising_calls _ H F HF.out _ ids HV.out hl).mono ?_; rintro e w' ⟨he, rfl⟩; rw [HR.out] at he; subst he)
        | (go_at_call 100; refine (containsI_calls _ _ ids root HV.out hl).mono ?_; rintro e w' ⟨he, rfl⟩; rw [HM.out] at he; subst he))
      go_meet
      rfl
  case rest =>
    subst hcut
    go_upto_region 8 with fail
    have hval : (#[Value.int .u64 (IntKind.u64.wrap ((F.mt.gen : Int) + 1)), .int .i64 root, .int .i64 count, .int .u64 mark] : Array Value) = metaA m := by
      unfold metaA
      rw [HM1.out, HM2.out, HM3.out, HM4.out, wrap_u64]
      have : ((F.mt.gen : Int) + 1) % 18446744073709551616 = ((F.mt.gen + 1 : Nat) : Int) := by have := HG.out; omega
      rw [this]
    rw [hval]
    obtain ⟨w2, hw2⟩ : ∃ w2, w2 = wc.alloc (.cells (metaA m) 119) := ⟨_, rfl⟩
    rw [← hw2]
    have HB2 : w2.heap[wc.heap.size]? = some (.cells (metaA m) 119 (0, 0)) := by rw [hw2]; exact (Go.MapKept.heap_alloc wc _).1
    have hk2 : Keeps wc w2 (fun _ => False) := by rw [hw2]; exact (Keeps.refl wc _).alloc _
    have hbm : wc.heap.size ≤ wc.heap.size := Nat.le_refl _
    generalize hbmm : wc.heap.size = bm at HB2 ⊢
    have HBM : Hid (wc.heap.size ≤ bm) := Lib.hid (by omega)
    clear hval hw2 hbm hbmm
    have hf2 := HF.out.new hk2
    go_wp2_with (first
      | ((with_reducible refine gd_load 119 ?_); refine wl_load_agg rfl _ _ rfl bm 0 rfl _ _ _ HB2 (metaA m) rfl _ Tryz.underlying119 rfl (infoMs _) ?_)
      | fail)
    refine (write9_calls _ H F hf2 m HMO.out).mono ?_
    rintro e w3 ⟨he, hf3, hk3⟩
    rw [HW.out] at he hf3
    dsimp only at he hf3
    subst he
    have hnb : ¬ H.dev.S bm := fun h => absurd (HF.out.dev.lt h) (Nat.not_lt.2 HBM.out)
    have HB3 := hk3.blk HB2 hnb
    have hK3 := (hk2.mono (T := H.dev.S) (fun _ _ h => h.elim)).trans hk3
    clear hk2 hk3 HB2 hf2
    have HF3 := Lib.hid hf3
    have HK3 := Lib.hid hK3
    have c7' := hf3.c7
    have f7' := hf3.fr 7
    clear hf3 hK3
    by_cases h0 : r = 0
    · subst h0
      go_wp2_with (first
        | ((with_reducible refine gd_load 119 ?_); refine wl_load_agg rfl _ _ rfl bm 0 rfl _ _ _ HB3 (metaA m) rfl _ Tryz.underlying119 rfl (infoMs _) ?_)
        | ((with_reducible refine gd_store 119 ?_); refine wl_store_agg rfl _ _ _ rfl H.f 1 rfl _ _ HF3.out.blk (metaA m) rfl _ (file_setMeta _ _ _) (le_fileMeta _ _ _) (infoMs _) (metaA_one _) ?_; intro w4 HB4 HK4)
        | fail)
      have hf4 := HF3.out.setMeta HMO.out HB4 HK4
      have hK4 := (HK3.out.mono (T := H.S) (fun i _ h => H.dev_S i h)).trans (HK4.mono (T := H.S) (fun i _ h => .inl h))
      have hris4 : Rising { F with d := D', mt := m } ids := rising_pages (by exact HPG.out trivial) HRIS.out
      have hv4 := isRd.kept2 HV.out hK4 (fun g hg => (HVS.out g hg).imp (fun h => by rw [h]; rfl) (fun h => h.1))
      refine (keep_yes _ H _ hf4 _ ids hv4 (fun g hg => (HVS.out g hg).imp id (fun h => ⟨h.1, Nat.lt_of_lt_of_le h.2 hK4.size⟩)) hl (risingB_true hris4)).mono ?_
      rintro e w5 ⟨H', rfl, a1, a2, a3, a4, a5, a6⟩
      go_wp2
      go_ret
      show CommitPost _ _ _ _ _ (D', 0) _ _
      unfold CommitPost
      rw [if_pos rfl]
      exact ⟨H', rfl, a1, a2, a3, a4, hK4.trans a5, fun i hi => (a6 i hi).imp id (fun h => Nat.le_trans hK4.size h)⟩
    · have he1 : (r == 0) = false := by simpa using h0
      have he2 : (r != 0) = true := by simpa using h0
      have H0 := Lib.hid h0
      clear h0
      go_wp2
      go_ret
      show CommitPost _ _ _ _ _ (D', r) _ _
      unfold CommitPost
      rw [if_neg H0.out]
      have hkc := keeps_cell w3 H.f 7 (.bool true)
      refine ⟨H, rfl, ⟨(blk_setCell HF3.out.blk 7 _).trans rfl, HF3.out.dev.apart hkc (fun i h h2 => HF3.out.nfd (by rw [← h]; exact h2)), HF3.out.used.kept hkc (fun h => HF3.out.nfu h.symm), HF3.out.fresh.kept hkc (fun g hg h => HF3.out.nvf (by rw [hg, h])), HF3.out.mok, HF3.out.nfd, HF3.out.nfu, HF3.out.nud, HF3.out.nvf, HF3.out.nvu, HF3.out.nvd, HF3.out.frs⟩, rfl, rfl, rfl, ?_, fun i h => .inl h⟩
      exact (HK3.out.mono (T := H.S) (fun i _ h => H.dev_S i h)).trans (hkc.mono (T := H.S) (fun i _ h => .inl h))
end Go.Proofs.YtblpkifkaoaicaaGreat

namespace Go.Proofs.YtblpkifkaoaicaaGreat
open Go Go.RowKit Go.Maps Wb

end Go.Proofs.YtblpkifkaoaicaaGreat
