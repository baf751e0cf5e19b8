import Derived.Test.YtadjcdfmppcpnaaW7c
import Derived.Test.YtadjcdfmppcpnaaP7e
import Derived.Test.YtadjcdfmppcpnaaMapLen
import Derived.Test.YtadjcdfmppcpnaaReg
import Derived.Deep.CutBlock
import Derived.Deep.DeepCutAuto
import Derived.Sort.Walk0
/-! Layer 7: the walk of SectDrops. -/
namespace Go.Proofs.Ytadjcdfmppcpnaa
open Go Go.RowKit Go.Maps Wb

def haveF (fs : Files) (v : Value) : Option Value := (decS v).bind fun n => (fget fs n).map fun _ => .bool true
theorem haveF_at (fs : Files) (n : Nm) : haveF fs (.string (bs n)) = (fget fs n).map fun _ => .bool true := by simp [haveF, decS_iff.2 rfl]
theorem haveF_nil : haveF [] = fun _ => none := by funext v; unfold haveF; cases decS v <;> rfl
theorem haveF_fset (fs : Files) (n : Nm) (l : List Wb.Cell) : haveF (fset fs n l) = upd (haveF fs) (.string (bs n)) (some (.bool true)) := by
  funext v
  by_cases e : v = .string (bs n)
  · subst e; rw [upd_same, haveF_at, fget_fset_same]; rfl
  · rw [upd_other _ _ e]
    unfold haveF
    cases hv : decS v with
    | none => rfl
    | some m =>
      have : m ≠ n := fun h => e (by rw [← h]; exact decS_iff.1 hv)
      simp [fget_fset_other _ _ this]
theorem haveF_same (fs : Files) (n : Nm) (h : (fget fs n).isSome = true) : upd (haveF fs) (.string (bs n)) (some (.bool true)) = haveF fs := by
  obtain ⟨l, hl⟩ := Option.isSome_iff_exists.1 h
  funext v
  by_cases e : v = .string (bs n)
  · subst e; rw [upd_same, haveF_at, hl]; rfl
  · rw [upd_other _ _ e]
theorem haveF_fdel {fs : Files} (hs : sorted fs) (n : Nm) : haveF (fdel fs n) = upd (haveF fs) (.string (bs n)) none := by
  funext v
  by_cases e : v = .string (bs n)
  · subst e; rw [upd_same, haveF_at, fget_fdel_same hs]; rfl
  · rw [upd_other _ _ e]
    unfold haveF
    cases hv : decS v with
    | none => rfl
    | some m =>
      have : m ≠ n := fun h => e (by rw [← h]; exact decS_iff.1 hv)
      simp [fget_fdel_other _ this]
theorem haveF_gone (fs : Files) (n : Nm) (h : (fget fs n).isSome = false) : upd (haveF fs) (.string (bs n)) none = haveF fs := by
  funext v
  by_cases e : v = .string (bs n)
  · subst e; rw [upd_same, haveF_at]
    cases hf : fget fs n with
    | none => rfl
    | some l => rw [hf] at h; cases h
  · rw [upd_other _ _ e]
theorem zeroB (w : World) : (zeroValue 4).run Try.prog w = .ok (.bool false) w := by kernel_rfl
theorem have_look {w : World} {bm : Nat} {fs : Files} (hm : isMap Try.prog 9 w bm (haveF fs)) {n : Nm} (hn : nmOk n) (b : Bool) (hb : (fget fs n).isSome = b) :
    (Instr.lookup 39 (.map (some bm)) (.string (bs n)) false).run Try.prog w = .ok (.bool b) w := by
  rw [hm.look keyedS Try.underlying39 (zeroB _) (keyOkS hn) false, haveF_at]
  subst hb
  cases fget fs n <;> rfl
theorem have_keys {fs : Files} (hs : sorted fs) : (fs.map fun a => Value.string (bs a.1)).Nodup ∧ ∀ v, v ∈ fs.map (fun a => Value.string (bs a.1)) ↔ (haveF fs v).isSome = true := by
  constructor
  · have := names_nodup hs
    unfold List.Nodup at *
    rw [List.pairwise_map] at *
    refine this.imp fun {a b} h e => h ?_
    simp only [Value.string.injEq] at e
    exact bs_inj e
  · intro v
    rw [List.mem_map]
    constructor
    · rintro ⟨a, ha, rfl⟩
      rw [haveF_at, fget_of_mem hs (n := a.1) (v := a.2) ha]; rfl
    · intro h
      unfold haveF at h
      cases hv : decS v with
      | none => rw [hv] at h; cases h
      | some n =>
        rw [hv] at h
        cases hf : fget fs n with
        | none => simp [hf] at h
        | some l => exact ⟨(n, l), fget_mem hf, (decS_iff.1 hv).symm⟩

def DropsRel (w : World) (h : DH) (bm : Nat) (i : Nat) (wr : World) : Prop := ∃ D, DropsOk D i ∧ isDev wr h D ∧ isMap Try.prog 9 wr bm (haveF D.files) ∧ Keeps w wr (fun _ => False)
def DropsRel3 (w : World) (h : DH) (bm : Nat) (D : Dv) (na : Option Addr) (wr : World) : Prop :=
  isDev wr h D ∧ isMap Try.prog 9 wr bm (haveF D.files) ∧ (∀ (j : Nat) n, D.names[j]? = some n → ∃ g, na = some ⟨g, 0, none⟩ ∧ wr.cell? ⟨g, j, none⟩ = some (.string (bs n))) ∧ Keeps w wr (fun _ => False)
theorem DropsRel3.drew {w : World} {h : DH} {bm : Nat} {D : Dv} {na : Option Addr} {wr : World} (hr : DropsRel3 w h bm D na wr) : DropsRel3 w h bm D na wr.drew := ⟨hr.1.drew, hr.2.1.drew, hr.2.2.1, hr.2.2.2.drew⟩
theorem less_of {m n : Nm} (h : m < n) : Op.bytesLess (bs m).toList (bs n).toList = true := by rw [bs_toList, bs_toList, bytesLess_eq]; simpa using h
theorem nil_ints (w : World) (ok : Nat → Prop) : isInts w ok (.slice none 0 0) [] := ⟨none, 0, rfl, Nat.le_refl _, by omega, by simp, .inl rfl⟩
theorem len40 {x : Nm} (h : ¬ (40 : Int) < ((bs x).size : Int)) : nmOk x := by rw [bs_size] at h; unfold nmOk; omega

set_option maxRecDepth 100000 in
set_option maxHeartbeats 8000000 in
theorem sectDrops_walk (w : World) (v : Value) (xs : List Nm) (hx : isTexts w (fun g => g < w.heap.size) v xs) (v2 : Value) (ys : List Int) (hy : isInts w (fun g => g < w.heap.size) v2 ys) :
    Calls Try.prog 5 #[v, v2] w (Quiet w (.bool true)) := by
  obtain ⟨a, cap, rfl, hl1, hl2, hl3, hx4⟩ := hx
  obtain ⟨a2, cap2, rfl, hy1, hy2, hy3, hy4⟩ := hy
  have hxl : (xs.length : Int) ≤ 140737488351232 := by omega
  have hyl : (ys.length : Int) ≤ 140737488351232 := by omega
  have HC : Hid (∀ (q : Nat), q < xs.length → ∃ g o x, nmOk x ∧ a = some ⟨g, o, none⟩ ∧ g < w.heap.size ∧ w.cell? ⟨g, o + q, none⟩ = some (.string (bs x))) := by
    intro q hq
    rcases hx4 with rfl | ⟨g, o, rfl, _, hg, hc⟩
    · simp at hq
    · exact ⟨g, o, xs[q]'hq, hl3 _ (List.getElem_mem _), rfl, hg, hc q _ (List.getElem?_eq_getElem _)⟩
  have HC2 : Hid (∀ (q : Nat), q < ys.length → ∃ g o x, kOk x ∧ a2 = some ⟨g, o, none⟩ ∧ g < w.heap.size ∧ w.cell? ⟨g, o + q, none⟩ = some (.int .i64 x)) := by
    intro q hq
    rcases hy4 with rfl | ⟨g, o, rfl, _, hg, hc⟩
    · simp at hq
    · exact ⟨g, o, ys[q]'hq, hy3 _ (List.getElem_mem _), rfl, hg, hc q _ (List.getElem?_eq_getElem _)⟩
  clear hx4 hy4 hl3 hy3
  go_enter Try.func5, Try.ntmps5
  go_wp2_with fail
  refine new_any _ _ fun h w1 hd0 hk0 hS => ?_
  have hN : ∀ i, i < w.heap.size → h.S i → False := fun i hi hs => absurd (hS i hs) (Nat.not_le.2 hi)
  have hNH := Lib.hid hN
  clear hN
  go_upto_block 0 with (first
    | ((with_reducible refine gd_makeMap 39 ?_); refine wl_makeMap rfl _ rfl 9 ?_; intro bm w2 hbm hm2 hk2)
    | fail)
  have hrel0 : DropsRel w h bm 0 w2 := ⟨_, drops_start 50 0, hd0.new hk2, by rw [show (Dv.new 50).files = [] from rfl, haveF_nil]; exact hm2, hk0.trans hk2⟩
  have hbs : Hid (¬ h.S bm) := Lib.hid (fun hs => absurd (hd0.lt hs) (Nat.not_lt.2 hbm))
  have hbl : w.heap.size ≤ bm := Nat.le_trans hk0.size hbm
  clear hd0 hk0 hS hm2 hk2 hbm
  go_cut [7] (fun v7 wx => DropsRel w h bm 20 wx)
  case first =>
    go_wp2_with fail
    go_loopw [7] (fun i wr => ∃ q : Nat, q ≤ 20 ∧ i = .int .i64 q ∧ DropsRel w h bm q wr) (fun i _ => 20 - (intOf i).toNat)
    case atStart => exact ⟨0, Nat.zero_le _, rfl, hrel0⟩
    case round =>
      clear hrel0 HC2
      obtain ⟨q, hq, rfl, hrel⟩ := hrel
      have hq0 : (0 : Int) ≤ q := by omega
      have hq9 : (q : Int) ≤ 20 := by omega
      by_cases hlt : q < xs.length ∧ q < 20
      · have hlt1 : decide (q < xs.length) = true := by simpa using hlt.1
        have hql : (q : Int) < xs.length := by omega
        have hq2 : (q : Int) < 20 := by omega
        have hlt2 : decide ((q : Int) < 20) = true := by simp; omega
        obtain ⟨g, o, x, hnx0, rfl, hg, hcw⟩ := HC.out q hlt.1
        obtain ⟨D, hD, hd, hm, hk⟩ := hrel
        have hc1 : wr.cell? ⟨g, o + q, none⟩ = some (.string (bs x)) := (hk.cell (p := ⟨g, o + q, none⟩) hg id).trans hcw
        clear hlt HC hnx0
        by_cases h40 : (40 : Int) < ((bs x).size : Int)
        · go_wp2_with fail
          refine (awake7_calls _).mono ?_
          rintro e w11 ⟨rfl, hk11⟩
          go_wp2
          go_ret
          exact ⟨rfl, hk.trans hk11⟩
        · have hnx := len40 h40
          have hz0 : (bs x).size = x.length := bs_size x
          have HZ := Lib.hid hz0
          have hks := keyOkS hnx
          by_cases hgood : (1 : Int) ≤ ((bs x).size : Int) ∧ ((bs x).size : Int) ≤ 20
          · have hg1 : (1 : Int) ≤ ((bs x).size : Int) := hgood.1
            have hg2 : ((bs x).size : Int) ≤ 20 := hgood.2
            have hng : ¬ (x = [] ∨ 20 < x.length) := by
              rintro (h1 | h1)
              · have : x.length = 0 := by rw [h1]; rfl
                omega
              · omega
            clear hgood hz0
            cases hf : (fget D.files x).isSome with
            | true =>
              have HM := Lib.hid (drops_make_there hD hng hf)
              go_wp2_with fail
              refine (make_calls _ h _ x hd hnx).mono ?_
              rintro e w3 ⟨he, hd3, hk3⟩
              rw [HM.out] at he hd3
              dsimp only at he hd3
              subst he
              have hm3 := hm.kept hk3 hbs.out
              have hK3 := hk.then hk3 hNH.out
              have hc3 : w3.cell? ⟨g, o + q, none⟩ = some (.string (bs x)) := (hK3.cell (p := ⟨g, o + q, none⟩) hg id).trans hcw
              have hlk := have_look hm3 hnx true hf
              have HF := Lib.hid hf
              clear hf hk3
              go_wp2_with (first
                | (at_mapUpdate; refine wl_store rfl _ _ _ _ rfl _ keyedS Try.underlying39 hm3 rfl (.string (bs x)) (.bool true) rfl rfl hks ?_; intro w4 hm4 hk4)
                | fail)
              rw [haveF_same _ _ HF.out] at hm4
              have hd4 := hd3.apart hk4 (fun i e => by rw [e]; exact hbs.out)
              have hK4 := hK3.then hk4 (fun i hi e => absurd hbl (by rw [← e]; exact Nat.not_le.2 hi))
              go_roundw
              case rel => exact ⟨q + 1, by omega, by go_num, D, hD.mono (by omega), hd4, hm4, hK4⟩
              case measure => simp [intOf]; omega
            | false =>
              obtain ⟨D', hmk, hD', hfl⟩ := drops_make_new hD hng hf
              have HM := Lib.hid hmk
              have HFL := Lib.hid hfl
              clear hmk hfl
              go_wp2_with fail
              refine (make_calls _ h _ x hd hnx).mono ?_
              rintro e w3 ⟨he, hd3, hk3⟩
              rw [HM.out] at he hd3
              dsimp only at he hd3
              subst he
              have hm3 := hm.kept hk3 hbs.out
              have hK3 := hk.then hk3 hNH.out
              have hc3 : w3.cell? ⟨g, o + q, none⟩ = some (.string (bs x)) := (hK3.cell (p := ⟨g, o + q, none⟩) hg id).trans hcw
              have hlk := have_look hm3 hnx false hf
              clear hf hk3
              go_wp2_with (first
                | (at_mapUpdate; refine wl_store rfl _ _ _ _ rfl _ keyedS Try.underlying39 hm3 rfl (.string (bs x)) (.bool true) rfl rfl hks ?_; intro w4 hm4 hk4)
                | fail)
              rw [← haveF_fset _ _ [], ← HFL.out] at hm4
              have hd4 := hd3.apart hk4 (fun i e => by rw [e]; exact hbs.out)
              have hK4 := hK3.then hk4 (fun i hi e => absurd hbl (by rw [← e]; exact Nat.not_le.2 hi))
              go_roundw
              case rel => exact ⟨q + 1, by omega, by go_num, D', hD', hd4, hm4, hK4⟩
              case measure => simp [intOf]; omega
          · have hbad : x = [] ∨ 20 < x.length := by
              rcases Nat.eq_zero_or_pos x.length with h0 | h0
              · exact .inl (List.eq_nil_of_length_eq_zero h0)
              · right; omega
            have HM := Lib.hid (drops_make_bad hD hbad)
            have hsz : ((bs x).size : Int) < 1 ∨ ((1 : Int) ≤ ((bs x).size : Int) ∧ (20 : Int) < ((bs x).size : Int)) := by omega
            clear hbad hgood hz0
            rcases hsz with hs1 | ⟨hs1, hs2⟩
            all_goals
              go_wp2_with fail
              refine (make_calls _ h _ x hd hnx).mono ?_
              rintro e w3 ⟨he, hd3, hk3⟩
              rw [HM.out] at he hd3
              dsimp only at he hd3
              subst he
              have hm3 := hm.kept hk3 hbs.out
              have hK3 := hk.then hk3 hNH.out
              clear hk3
              go_wp2
              go_roundw
              case rel => exact ⟨q + 1, by omega, by go_num, D, hD.mono (by omega), hd3, hm3, hK3⟩
              case measure => simp [intOf]; omega
      · have hout : (decide (q < xs.length) = false ∧ True) ∨ (decide (q < xs.length) = true ∧ decide ((q : Int) < 20) = false) := by
          rcases Nat.lt_or_ge q xs.length with h1 | h1
          · right; simp; omega
          · left; simp; omega
        have hend : DropsRel w h bm 20 wr := by
          obtain ⟨D, hD, hr⟩ := hrel
          exact ⟨D, hD.mono hq, hr⟩
        clear hlt hrel
        rcases hout with ⟨h1, h2⟩ | ⟨h1, h2⟩
        all_goals
          go_wp2_with fail
          go_meet
          exact hend
  case rest =>
    clear hrel0
    go_upto_block 2 with fail
    go_cut [10] (fun v10 wx => DropsRel w h bm 20 wx)
    case first =>
      go_wp2_with fail
      go_loopw [10] (fun i wr => ∃ q : Nat, q ≤ 20 ∧ i = .int .i64 q ∧ DropsRel w h bm 20 wr) (fun i _ => 20 - (intOf i).toNat)
      case atStart => exact ⟨0, Nat.zero_le _, rfl, hcut⟩
      case round =>
        clear hcut
        obtain ⟨q, hq, rfl, hrel⟩ := hrel
        have hq0 : (0 : Int) ≤ q := by omega
        have hq9 : (q : Int) ≤ 20 := by omega
        by_cases hlt : q < ys.length ∧ q < 20 ∧ 0 < xs.length
        · have hlt1 : decide (q < ys.length) = true := by simpa using hlt.1
          have hql : (q : Int) < ys.length := by omega
          have hq2 : (q : Int) < 20 := by omega
          have hlt2 : decide ((q : Int) < 20) = true := by simp; omega
          have hxp : (0 : Int) < xs.length := by omega
          have hlt3 : decide (0 < xs.length) = true := by simpa using hlt.2.2
          obtain ⟨g2, o2, y, hyk, rfl, hg2, hcw2⟩ := HC2.out q hlt.1
          obtain ⟨D, hD, hd, hm, hk⟩ := hrel
          obtain ⟨e, he, he2⟩ : ∃ e : Nat, y % 256 = e ∧ e < 256 := ⟨(y % 256).toNat, by omega, by omega⟩
          have hm2 : bits BinOp.and IntKind.i64 y 255 = e := by rw [mask255, he]
          obtain ⟨k, hkk, hkl⟩ : ∃ k : Nat, (e : Int).tmod (xs.length : Int) = k ∧ k < xs.length := by
            refine ⟨e % xs.length, ?_, Nat.mod_lt e hlt.2.2⟩
            rw [Int.tmod_eq_emod_of_nonneg (by omega)]
            exact (Int.natCast_emod e xs.length).symm
          obtain ⟨g, o, x, hnx, rfl, hg, hcw⟩ := HC.out k hkl
          have hk0 : (0 : Int) ≤ k := by omega
          have hk9 : (k : Int) < xs.length := by omega
          have hnz : ((xs.length : Int) == 0) = false := by rw [beq_eq_false_iff_ne]; omega
          have hc1 : wr.cell? ⟨g, o + k, none⟩ = some (.string (bs x)) := (hk.cell (p := ⟨g, o + k, none⟩) hg id).trans hcw
          have hc2 : wr.cell? ⟨g2, o2 + q, none⟩ = some (.int .i64 y) := (hk.cell (p := ⟨g2, o2 + q, none⟩) hg2 id).trans hcw2
          have hks := keyOkS hnx
          have hy1 : -9223372036854775808 ≤ y := hyk.1
          have hy2 : y ≤ 9223372036854775807 := hyk.2
          have he0 : (0 : Int) ≤ e := by omega
          have he9 : (e : Int) < 256 := by omega
          clear hlt HC HC2 he hyk he2
          go_wp2_with fail
          cases hf : (fget D.files x).isSome with
          | true =>
            obtain ⟨D', hdr, hD', hfl⟩ := drops_drop_yes hD hf
            have HM := Lib.hid hdr
            have HFL := Lib.hid hfl
            have HSO := Lib.hid hD.2.1
            have HL : (Instr.lookup 39 (.map (some bm)) (.string (bs x)) false).run Try.prog wr.drew = .ok (.bool true) wr.drew := have_look hm.drew hnx true hf
            clear hdr hfl
            refine wp_region_held_drew (S := fun w' => (Instr.lookup 39 (.map (some bm)) (.string (bs x)) false).run Try.prog w' = .ok (.bool true) w') (by kernel_rfl) HL (fun _ => ?_)
            first
              | (refine rg_skip 0 rfl (by kernel_rfl) (by kernel_rfl) (by kernel_rfl) (fun _ _ _ h => h) HL ?_ ?_; rfl)
              | (refine rg_take 0 (v := ?_) rfl (by kernel_rfl) (by kernel_rfl) (by kernel_rfl) (fun _ _ _ h => h) HL ?_ ?_ ?_; rotate_left; rfl; focus (intro w hSw; (try dsimp only at hSw); go_simp; all_goals (with_reducible rfl)))
            simp only [Act.put, List.setIfInBounds_toArray, List.set_cons_succ, List.set_cons_zero]
            first
              | (refine rg_skip 1 rfl (by kernel_rfl) (by kernel_rfl) (by kernel_rfl) (fun _ _ _ h => h) HL ?_ ?_; rfl)
              | (refine rg_take 1 (v := ?_) rfl (by kernel_rfl) (by kernel_rfl) (by kernel_rfl) (fun _ _ _ h => h) HL ?_ ?_ ?_; rotate_left; rfl; focus (intro w hSw; (try dsimp only at hSw); go_simp; all_goals (with_reducible rfl)))
            simp only [Act.put, List.setIfInBounds_toArray, List.set_cons_succ, List.set_cons_zero]
            first
              | (refine rg_skip 4 rfl (by kernel_rfl) (by kernel_rfl) (by kernel_rfl) (fun _ _ _ h => h) HL ?_ ?_; rfl)
              | (refine rg_take 4 (v := ?_) rfl (by kernel_rfl) (by kernel_rfl) (by kernel_rfl) (fun _ _ _ h => h) HL ?_ ?_ ?_; rotate_left; rfl; focus (intro w hSw; (try dsimp only at hSw); go_simp; all_goals (with_reducible rfl)))
            simp only [Act.put, List.setIfInBounds_toArray, List.set_cons_succ, List.set_cons_zero]
            first
              | (refine rg_skip 5 rfl (by kernel_rfl) (by kernel_rfl) (by kernel_rfl) (fun _ _ _ h => h) HL ?_ ?_; rfl)
              | (refine rg_take 5 (v := ?_) rfl (by kernel_rfl) (by kernel_rfl) (by kernel_rfl) (fun _ _ _ h => h) HL ?_ ?_ ?_; rotate_left; rfl; focus (intro w hSw; (try dsimp only at hSw); go_simp; all_goals (with_reducible rfl)))
            simp only [Act.put, List.setIfInBounds_toArray, List.set_cons_succ, List.set_cons_zero]
            first
              | (refine rg_skip 6 rfl (by kernel_rfl) (by kernel_rfl) (by kernel_rfl) (fun _ _ _ h => h) HL ?_ ?_; rfl)
              | (refine rg_take 6 (v := ?_) rfl (by kernel_rfl) (by kernel_rfl) (by kernel_rfl) (fun _ _ _ h => h) HL ?_ ?_ ?_; rotate_left; rfl; focus (intro w hSw; (try dsimp only at hSw); go_simp; all_goals (with_reducible rfl)))
            simp only [Act.put, List.setIfInBounds_toArray, List.set_cons_succ, List.set_cons_zero]
            refine rg_one 2 rfl (by kernel_rfl) (by rfl) ?_
            refine rg_call 30 _ _ rfl _ Try.func30 (by kernel_rfl) (by kernel_rfl) [.pointer (some ⟨h.p, 0, none⟩), .string (bs x)] rfl (drop_calls _ h D x hd.drew hnx) ?_
            rintro e3 w3 ⟨he3, hd3, hk3⟩
            rw [HM.out] at he3 hd3
            dsimp only at he3 hd3
            subst he3
            have hm3 := hm.drew.kept hk3 hbs.out
            have hK3 := (hk.drew).then hk3 hNH.out
            have HL2 := have_look hm3 hnx true hf
            refine ⟨_, rfl, HL2, ?_⟩
            simp only [Act.put, List.setIfInBounds_toArray, List.set_cons_succ, List.set_cons_zero]
            first
              | (refine rg_skip 3 rfl (by kernel_rfl) (by kernel_rfl) (by kernel_rfl) (fun _ _ _ h => h) HL2 ?_ ?_; rfl)
              | (refine rg_take 3 (v := ?_) rfl (by kernel_rfl) (by kernel_rfl) (by kernel_rfl) (fun _ _ _ h => h) HL2 ?_ ?_ ?_; rotate_left; rfl; focus (intro w hSw; (try dsimp only at hSw); go_simp; all_goals (with_reducible rfl)))
            simp only [Act.put, List.setIfInBounds_toArray, List.set_cons_succ, List.set_cons_zero]
            first
              | (refine rg_skip 7 rfl (by kernel_rfl) (by kernel_rfl) (by kernel_rfl) (fun _ _ _ h => h) HL2 ?_ ?_; rfl)
              | (refine rg_take 7 (v := ?_) rfl (by kernel_rfl) (by kernel_rfl) (by kernel_rfl) (fun _ _ _ h => h) HL2 ?_ ?_ ?_; rotate_left; rfl; focus (intro w hSw; (try dsimp only at hSw); go_simp; all_goals (with_reducible rfl)))
            simp only [Act.put, List.setIfInBounds_toArray, List.set_cons_succ, List.set_cons_zero]
            refine wpAnyH_done (by kernel_rfl) ?_ _
            clear HL HL2 hf hk3 hd
            go_wp2_with (first
              | (at_delete; refine wl_delete rfl _ _ _ rfl _ keyedS Try.underlying39 hm3 rfl (.string (bs x)) rfl hks ?_; intro w4 hm4 hk4)
              | fail)
            rw [← haveF_fdel HSO.out, ← HFL.out] at hm4
            have hd4 := hd3.apart hk4 (fun i e => by rw [e]; exact hbs.out)
            have hK4 := hK3.then hk4 (fun i hi e => absurd hbl (by rw [← e]; exact Nat.not_le.2 hi))
            go_roundw
            case rel => exact ⟨q + 1, by omega, by go_num, D', hD', hd4, hm4, hK4⟩
            case measure => simp [intOf]; omega
          | false =>
            have HM := Lib.hid (drops_drop_no hD hf)
            have HL : (Instr.lookup 39 (.map (some bm)) (.string (bs x)) false).run Try.prog wr.drew = .ok (.bool false) wr.drew := have_look hm.drew hnx false hf
            refine wp_region_held_drew (S := fun w' => (Instr.lookup 39 (.map (some bm)) (.string (bs x)) false).run Try.prog w' = .ok (.bool false) w') (by kernel_rfl) HL (fun _ => ?_)
            first
              | (refine rg_skip 0 rfl (by kernel_rfl) (by kernel_rfl) (by kernel_rfl) (fun _ _ _ h => h) HL ?_ ?_; rfl)
              | (refine rg_take 0 (v := ?_) rfl (by kernel_rfl) (by kernel_rfl) (by kernel_rfl) (fun _ _ _ h => h) HL ?_ ?_ ?_; rotate_left; rfl; focus (intro w hSw; (try dsimp only at hSw); go_simp; all_goals (with_reducible rfl)))
            simp only [Act.put, List.setIfInBounds_toArray, List.set_cons_succ, List.set_cons_zero]
            first
              | (refine rg_skip 1 rfl (by kernel_rfl) (by kernel_rfl) (by kernel_rfl) (fun _ _ _ h => h) HL ?_ ?_; rfl)
              | (refine rg_take 1 (v := ?_) rfl (by kernel_rfl) (by kernel_rfl) (by kernel_rfl) (fun _ _ _ h => h) HL ?_ ?_ ?_; rotate_left; rfl; focus (intro w hSw; (try dsimp only at hSw); go_simp; all_goals (with_reducible rfl)))
            simp only [Act.put, List.setIfInBounds_toArray, List.set_cons_succ, List.set_cons_zero]
            first
              | (refine rg_skip 4 rfl (by kernel_rfl) (by kernel_rfl) (by kernel_rfl) (fun _ _ _ h => h) HL ?_ ?_; rfl)
              | (refine rg_take 4 (v := ?_) rfl (by kernel_rfl) (by kernel_rfl) (by kernel_rfl) (fun _ _ _ h => h) HL ?_ ?_ ?_; rotate_left; rfl; focus (intro w hSw; (try dsimp only at hSw); go_simp; all_goals (with_reducible rfl)))
            simp only [Act.put, List.setIfInBounds_toArray, List.set_cons_succ, List.set_cons_zero]
            first
              | (refine rg_skip 5 rfl (by kernel_rfl) (by kernel_rfl) (by kernel_rfl) (fun _ _ _ h => h) HL ?_ ?_; rfl)
              | (refine rg_take 5 (v := ?_) rfl (by kernel_rfl) (by kernel_rfl) (by kernel_rfl) (fun _ _ _ h => h) HL ?_ ?_ ?_; rotate_left; rfl; focus (intro w hSw; (try dsimp only at hSw); go_simp; all_goals (with_reducible rfl)))
            simp only [Act.put, List.setIfInBounds_toArray, List.set_cons_succ, List.set_cons_zero]
            first
              | (refine rg_skip 6 rfl (by kernel_rfl) (by kernel_rfl) (by kernel_rfl) (fun _ _ _ h => h) HL ?_ ?_; rfl)
              | (refine rg_take 6 (v := ?_) rfl (by kernel_rfl) (by kernel_rfl) (by kernel_rfl) (fun _ _ _ h => h) HL ?_ ?_ ?_; rotate_left; rfl; focus (intro w hSw; (try dsimp only at hSw); go_simp; all_goals (with_reducible rfl)))
            simp only [Act.put, List.setIfInBounds_toArray, List.set_cons_succ, List.set_cons_zero]
            refine rg_one 2 rfl (by kernel_rfl) (by rfl) ?_
            refine rg_call 30 _ _ rfl _ Try.func30 (by kernel_rfl) (by kernel_rfl) [.pointer (some ⟨h.p, 0, none⟩), .string (bs x)] rfl (drop_calls _ h D x hd.drew hnx) ?_
            rintro e3 w3 ⟨he3, hd3, hk3⟩
            rw [HM.out] at he3 hd3
            dsimp only at he3 hd3
            subst he3
            have hm3 := hm.drew.kept hk3 hbs.out
            have hK3 := (hk.drew).then hk3 hNH.out
            have HL2 := have_look hm3 hnx false hf
            have HF := Lib.hid hf
            refine ⟨_, rfl, HL2, ?_⟩
            simp only [Act.put, List.setIfInBounds_toArray, List.set_cons_succ, List.set_cons_zero]
            first
              | (refine rg_skip 3 rfl (by kernel_rfl) (by kernel_rfl) (by kernel_rfl) (fun _ _ _ h => h) HL2 ?_ ?_; rfl)
              | (refine rg_take 3 (v := ?_) rfl (by kernel_rfl) (by kernel_rfl) (by kernel_rfl) (fun _ _ _ h => h) HL2 ?_ ?_ ?_; rotate_left; rfl; focus (intro w hSw; (try dsimp only at hSw); go_simp; all_goals (with_reducible rfl)))
            simp only [Act.put, List.setIfInBounds_toArray, List.set_cons_succ, List.set_cons_zero]
            first
              | (refine rg_skip 7 rfl (by kernel_rfl) (by kernel_rfl) (by kernel_rfl) (fun _ _ _ h => h) HL2 ?_ ?_; rfl)
              | (refine rg_take 7 (v := ?_) rfl (by kernel_rfl) (by kernel_rfl) (by kernel_rfl) (fun _ _ _ h => h) HL2 ?_ ?_ ?_; rotate_left; rfl; focus (intro w hSw; (try dsimp only at hSw); go_simp; all_goals (with_reducible rfl)))
            simp only [Act.put, List.setIfInBounds_toArray, List.set_cons_succ, List.set_cons_zero]
            refine wpAnyH_done (by kernel_rfl) ?_ _
            clear HL HL2 hf hk3 hd
            go_wp2_with (first
              | (at_delete; refine wl_delete rfl _ _ _ rfl _ keyedS Try.underlying39 hm3 rfl (.string (bs x)) rfl hks ?_; intro w4 hm4 hk4)
              | fail)
            rw [haveF_gone _ _ HF.out] at hm4
            have hd4 := hd3.apart hk4 (fun i e => by rw [e]; exact hbs.out)
            have hK4 := hK3.then hk4 (fun i hi e => absurd hbl (by rw [← e]; exact Nat.not_le.2 hi))
            go_roundw
            case rel => exact ⟨q + 1, by omega, by go_num, D, hD, hd4, hm4, hK4⟩
            case measure => simp [intOf]; omega
        · have hout : (decide (q < ys.length) = false) ∨ (decide (q < ys.length) = true ∧ decide ((q : Int) < 20) = false) ∨ (decide (q < ys.length) = true ∧ decide ((q : Int) < 20) = true ∧ decide (0 < xs.length) = false) := by
            rcases Nat.lt_or_ge q ys.length with h1 | h1
            · right
              rcases Nat.lt_or_ge q 20 with h2 | h2
              · right; exact ⟨decide_eq_true (by omega), decide_eq_true (by omega), decide_eq_false (by omega)⟩
              · left; exact ⟨decide_eq_true (by omega), decide_eq_false (by omega)⟩
            · left; exact decide_eq_false (by omega)
          clear hlt
          have HREL := Lib.hid hrel
          clear hrel
          rcases hout with h1 | ⟨h1, h2⟩ | ⟨h1, h2, h3⟩
          all_goals
            go_wp2_with fail
            go_meet
            exact HREL.out
    case rest =>
      clear HC HC2
      obtain ⟨D, hD, hd, hm, hk⟩ := hcut
      have hnf : D.files.length ≤ 20 := hD.2.2.2
      have HCR := Lib.hid (drops_crash hD)
      have HU := Lib.hid (drops_used hD)
      have HLEN : Hid (∀ n, D.len n = 0) := Lib.hid (fun n => drops_len hD n)
      have HSO := Lib.hid hD.2.1
      clear hD
      go_wp2_with fail
      refine (crash_calls _ h D [] _ hd (by omega) (nil_ints _ _)).mono ?_
      rintro e w3 ⟨he, hd3, hk3⟩
      rw [HCR.out] at hd3
      subst he
      have hm3 := hm.kept hk3 hbs.out
      have hK3 := hk.then hk3 hNH.out
      clear hk3 hd hm hk
      go_wp2_with fail
      refine (names_calls _ h D hd3 (by omega)).mono ?_
      rintro e w4 ⟨nv, rfl, ⟨na, ncap, rfl, hstr⟩, hk4⟩
      have hrel0 : DropsRel3 w h bm D na w4 := by
        refine ⟨hd3.new hk4, hm3.kept hk4 id, fun j n hj => ?_, hK3.trans hk4⟩
        rcases hstr with h0 | ⟨g, h0, _, _, h1⟩
        · rw [h0] at hj; cases hj
        · exact ⟨g, h0, h1 j n hj⟩
      have HR0 := Lib.hid hrel0
      have hN9 : D.names.length = D.files.length := by simp [Dv.names]
      have HN9 := Lib.hid hN9
      clear hstr hk4 hm3 hK3 hd3 hrel0 hN9
      have hN20 : D.names.length ≤ 20 := by rw [HN9.out]; exact hnf
      obtain ⟨N, hN⟩ : ∃ N, N = D.names.length := ⟨_, rfl⟩
      rw [← hN] at hN20 ⊢
      have HN := Lib.hid hN
      clear hN
      go_wp2_with fail
      go_loopw [13] (fun i wr => ∃ q : Nat, q ≤ N ∧ i = .int .i64 q ∧ DropsRel3 w h bm D na wr) (fun i _ => N - (intOf i).toNat)
      case atStart => exact ⟨0, Nat.zero_le _, rfl, HR0.out⟩
      case round =>
        clear HR0
        obtain ⟨q, hq, rfl, hrel⟩ := hrel
        have hq0 : (0 : Int) ≤ q := by omega
        have hq9 : (q : Int) ≤ 20 := by omega
        by_cases hlt : q < N
        · have hlt1 : decide (q < N) = true := by simpa using hlt
          have hql : (q : Int) < N := by omega
          obtain ⟨n, hn⟩ : ∃ n, D.names[q]? = some n := ⟨_, List.getElem?_eq_getElem (by rw [← HN.out]; exact hlt)⟩
          obtain ⟨g, hna, hcell⟩ := hrel.2.2.1 q n hn
          subst hna
          have hsome := names_at HSO.out hn
          have hnn : nmOk n := by
            obtain ⟨l, hl⟩ := Option.isSome_iff_exists.1 hsome
            exact nmOk_small (Nat.le_trans (hrel.1.wf.nm _ (fget_mem hl)) (by decide))
          by_cases hq1 : q = 0
          · have hgt : decide (0 < q) = false := decide_eq_false (by omega)
            clear hlt hq1 hn
            go_wp2_with fail
            have HS : (fun w' => (Instr.lookup 39 (.map (some bm)) (.string (bs n)) false).run Try.prog w' = .ok (.bool true) w' ∧ w'.cell? ⟨g, q, none⟩ = some (.string (bs n))) wr.drew := ⟨have_look hrel.2.1.drew hnn true hsome, hcell⟩
            refine wp_region_held_drew (S := (fun w' => (Instr.lookup 39 (.map (some bm)) (.string (bs n)) false).run Try.prog w' = .ok (.bool true) w' ∧ w'.cell? ⟨g, q, none⟩ = some (.string (bs n)))) (by kernel_rfl) HS (fun _ => ?_)
            first
              | (refine rg_skip 0 rfl (by kernel_rfl) (by kernel_rfl) (by kernel_rfl) (fun _ _ _ h => h) HS ?_ ?_; rfl)
              | (refine rg_take 0 (v := ?_) rfl (by kernel_rfl) (by kernel_rfl) (by kernel_rfl) (fun _ _ _ h => h) HS ?_ ?_ ?_; rotate_left; rfl; focus (intro w hSw; (try dsimp only at hSw); go_simp; all_goals (with_reducible rfl)))
            simp only [Act.put, List.setIfInBounds_toArray, List.set_cons_succ, List.set_cons_zero]
            first
              | (refine rg_skip 1 rfl (by kernel_rfl) (by kernel_rfl) (by kernel_rfl) (fun _ _ _ h => h) HS ?_ ?_; rfl)
              | (refine rg_take 1 (v := ?_) rfl (by kernel_rfl) (by kernel_rfl) (by kernel_rfl) (fun _ _ _ h => h) HS ?_ ?_ ?_; rotate_left; rfl; focus (intro w hSw; (try dsimp only at hSw); go_simp; all_goals (with_reducible rfl)))
            simp only [Act.put, List.setIfInBounds_toArray, List.set_cons_succ, List.set_cons_zero]
            first
              | (refine rg_skip 2 rfl (by kernel_rfl) (by kernel_rfl) (by kernel_rfl) (fun _ _ _ h => h) HS ?_ ?_; rfl)
              | (refine rg_take 2 (v := ?_) rfl (by kernel_rfl) (by kernel_rfl) (by kernel_rfl) (fun _ _ _ h => h) HS ?_ ?_ ?_; rotate_left; rfl; focus (intro w hSw; (try dsimp only at hSw); go_simp; all_goals (with_reducible rfl)))
            simp only [Act.put, List.setIfInBounds_toArray, List.set_cons_succ, List.set_cons_zero]
            first
              | (refine rg_skip 3 rfl (by kernel_rfl) (by kernel_rfl) (by kernel_rfl) (fun _ _ _ h => h) HS ?_ ?_; rfl)
              | (refine rg_take 3 (v := ?_) rfl (by kernel_rfl) (by kernel_rfl) (by kernel_rfl) (fun _ _ _ h => h) HS ?_ ?_ ?_; rotate_left; rfl; focus (intro w hSw; (try dsimp only at hSw); go_simp; all_goals (with_reducible rfl)))
            simp only [Act.put, List.setIfInBounds_toArray, List.set_cons_succ, List.set_cons_zero]
            first
              | (refine rg_skip 4 rfl (by kernel_rfl) (by kernel_rfl) (by kernel_rfl) (fun _ _ _ h => h) HS ?_ ?_; rfl)
              | (refine rg_take 4 (v := ?_) rfl (by kernel_rfl) (by kernel_rfl) (by kernel_rfl) (fun _ _ _ h => h) HS ?_ ?_ ?_; rotate_left; rfl; focus (intro w hSw; (try dsimp only at hSw); go_simp; all_goals (with_reducible rfl)))
            simp only [Act.put, List.setIfInBounds_toArray, List.set_cons_succ, List.set_cons_zero]
            first
              | (refine rg_skip 5 rfl (by kernel_rfl) (by kernel_rfl) (by kernel_rfl) (fun _ _ _ h => h) HS ?_ ?_; rfl)
              | (refine rg_take 5 (v := ?_) rfl (by kernel_rfl) (by kernel_rfl) (by kernel_rfl) (fun _ _ _ h => h) HS ?_ ?_ ?_; rotate_left; rfl; focus (intro w hSw; (try dsimp only at hSw); go_simp; all_goals (with_reducible rfl)))
            simp only [Act.put, List.setIfInBounds_toArray, List.set_cons_succ, List.set_cons_zero]
            first
              | (refine rg_skip 6 rfl (by kernel_rfl) (by kernel_rfl) (by kernel_rfl) (fun _ _ _ h => h) HS ?_ ?_; rfl)
              | (refine rg_take 6 (v := ?_) rfl (by kernel_rfl) (by kernel_rfl) (by kernel_rfl) (fun _ _ _ h => h) HS ?_ ?_ ?_; rotate_left; rfl; focus (intro w hSw; (try dsimp only at hSw); go_simp; all_goals (with_reducible rfl)))
            simp only [Act.put, List.setIfInBounds_toArray, List.set_cons_succ, List.set_cons_zero]
            first
              | (refine rg_skip 7 rfl (by kernel_rfl) (by kernel_rfl) (by kernel_rfl) (fun _ _ _ h => h) HS ?_ ?_; rfl)
              | (refine rg_take 7 (v := ?_) rfl (by kernel_rfl) (by kernel_rfl) (by kernel_rfl) (fun _ _ _ h => h) HS ?_ ?_ ?_; rotate_left; rfl; focus (intro w hSw; (try dsimp only at hSw); go_simp; all_goals (with_reducible rfl)))
            simp only [Act.put, List.setIfInBounds_toArray, List.set_cons_succ, List.set_cons_zero]
            first
              | (refine rg_skip 8 rfl (by kernel_rfl) (by kernel_rfl) (by kernel_rfl) (fun _ _ _ h => h) HS ?_ ?_; rfl)
              | (refine rg_take 8 (v := ?_) rfl (by kernel_rfl) (by kernel_rfl) (by kernel_rfl) (fun _ _ _ h => h) HS ?_ ?_ ?_; rotate_left; rfl; focus (intro w hSw; (try dsimp only at hSw); go_simp; all_goals (with_reducible rfl)))
            simp only [Act.put, List.setIfInBounds_toArray, List.set_cons_succ, List.set_cons_zero]
            first
              | (refine rg_skip 9 rfl (by kernel_rfl) (by kernel_rfl) (by kernel_rfl) (fun _ _ _ h => h) HS ?_ ?_; rfl)
              | (refine rg_take 9 (v := ?_) rfl (by kernel_rfl) (by kernel_rfl) (by kernel_rfl) (fun _ _ _ h => h) HS ?_ ?_ ?_; rotate_left; rfl; focus (intro w hSw; (try dsimp only at hSw); go_simp; all_goals (with_reducible rfl)))
            simp only [Act.put, List.setIfInBounds_toArray, List.set_cons_succ, List.set_cons_zero]
            first
              | (refine rg_skip 10 rfl (by kernel_rfl) (by kernel_rfl) (by kernel_rfl) (fun _ _ _ h => h) HS ?_ ?_; rfl)
              | (refine rg_take 10 (v := ?_) rfl (by kernel_rfl) (by kernel_rfl) (by kernel_rfl) (fun _ _ _ h => h) HS ?_ ?_ ?_; rotate_left; rfl; focus (intro w hSw; (try dsimp only at hSw); go_simp; all_goals (with_reducible rfl)))
            simp only [Act.put, List.setIfInBounds_toArray, List.set_cons_succ, List.set_cons_zero]
            first
              | (refine rg_skip 11 rfl (by kernel_rfl) (by kernel_rfl) (by kernel_rfl) (fun _ _ _ h => h) HS ?_ ?_; rfl)
              | (refine rg_take 11 (v := ?_) rfl (by kernel_rfl) (by kernel_rfl) (by kernel_rfl) (fun _ _ _ h => h) HS ?_ ?_ ?_; rotate_left; rfl; focus (intro w hSw; (try dsimp only at hSw); go_simp; all_goals (with_reducible rfl)))
            simp only [Act.put, List.setIfInBounds_toArray, List.set_cons_succ, List.set_cons_zero]
            first
              | (refine rg_skip 12 rfl (by kernel_rfl) (by kernel_rfl) (by kernel_rfl) (fun _ _ _ h => h) HS ?_ ?_; rfl)
              | (refine rg_take 12 (v := ?_) rfl (by kernel_rfl) (by kernel_rfl) (by kernel_rfl) (fun _ _ _ h => h) HS ?_ ?_ ?_; rotate_left; rfl; focus (intro w hSw; (try dsimp only at hSw); go_simp; all_goals (with_reducible rfl)))
            simp only [Act.put, List.setIfInBounds_toArray, List.set_cons_succ, List.set_cons_zero]
            first
              | (refine rg_skip 13 rfl (by kernel_rfl) (by kernel_rfl) (by kernel_rfl) (fun _ _ _ h => h) HS ?_ ?_; rfl)
              | (refine rg_take 13 (v := ?_) rfl (by kernel_rfl) (by kernel_rfl) (by kernel_rfl) (fun _ _ _ h => h) HS ?_ ?_ ?_; rotate_left; rfl; focus (intro w hSw; (try dsimp only at hSw); go_simp; all_goals (with_reducible rfl)))
            simp only [Act.put, List.setIfInBounds_toArray, List.set_cons_succ, List.set_cons_zero]
            first
              | (refine rg_skip 14 rfl (by kernel_rfl) (by kernel_rfl) (by kernel_rfl) (fun _ _ _ h => h) HS ?_ ?_; rfl)
              | (refine rg_take 14 (v := ?_) rfl (by kernel_rfl) (by kernel_rfl) (by kernel_rfl) (fun _ _ _ h => h) HS ?_ ?_ ?_; rotate_left; rfl; focus (intro w hSw; (try dsimp only at hSw); go_simp; all_goals (with_reducible rfl)))
            simp only [Act.put, List.setIfInBounds_toArray, List.set_cons_succ, List.set_cons_zero]
            first
              | (refine rg_skip 15 rfl (by kernel_rfl) (by kernel_rfl) (by kernel_rfl) (fun _ _ _ h => h) HS ?_ ?_; rfl)
              | (refine rg_take 15 (v := ?_) rfl (by kernel_rfl) (by kernel_rfl) (by kernel_rfl) (fun _ _ _ h => h) HS ?_ ?_ ?_; rotate_left; rfl; focus (intro w hSw; (try dsimp only at hSw); go_simp; all_goals (with_reducible rfl)))
            simp only [Act.put, List.setIfInBounds_toArray, List.set_cons_succ, List.set_cons_zero]
            first
              | (refine rg_skip 16 rfl (by kernel_rfl) (by kernel_rfl) (by kernel_rfl) (fun _ _ _ h => h) HS ?_ ?_; rfl)
              | (refine rg_take 16 (v := ?_) rfl (by kernel_rfl) (by kernel_rfl) (by kernel_rfl) (fun _ _ _ h => h) HS ?_ ?_ ?_; rotate_left; rfl; focus (intro w hSw; (try dsimp only at hSw); go_simp; all_goals (with_reducible rfl)))
            simp only [Act.put, List.setIfInBounds_toArray, List.set_cons_succ, List.set_cons_zero]
            first
              | (refine rg_skip 17 rfl (by kernel_rfl) (by kernel_rfl) (by kernel_rfl) (fun _ _ _ h => h) HS ?_ ?_; rfl)
              | (refine rg_take 17 (v := ?_) rfl (by kernel_rfl) (by kernel_rfl) (by kernel_rfl) (fun _ _ _ h => h) HS ?_ ?_ ?_; rotate_left; rfl; focus (intro w hSw; (try dsimp only at hSw); go_simp; all_goals (with_reducible rfl)))
            simp only [Act.put, List.setIfInBounds_toArray, List.set_cons_succ, List.set_cons_zero]
            first
              | (refine rg_skip 18 rfl (by kernel_rfl) (by kernel_rfl) (by kernel_rfl) (fun _ _ _ h => h) HS ?_ ?_; rfl)
              | (refine rg_take 18 (v := ?_) rfl (by kernel_rfl) (by kernel_rfl) (by kernel_rfl) (fun _ _ _ h => h) HS ?_ ?_ ?_; rotate_left; rfl; focus (intro w hSw; (try dsimp only at hSw); go_simp; all_goals (with_reducible rfl)))
            simp only [Act.put, List.setIfInBounds_toArray, List.set_cons_succ, List.set_cons_zero]
            first
              | (refine rg_skip 19 rfl (by kernel_rfl) (by kernel_rfl) (by kernel_rfl) (fun _ _ _ h => h) HS ?_ ?_; rfl)
              | (refine rg_take 19 (v := ?_) rfl (by kernel_rfl) (by kernel_rfl) (by kernel_rfl) (fun _ _ _ h => h) HS ?_ ?_ ?_; rotate_left; rfl; focus (intro w hSw; (try dsimp only at hSw); go_simp; all_goals (with_reducible rfl)))
            simp only [Act.put, List.setIfInBounds_toArray, List.set_cons_succ, List.set_cons_zero]
            first
              | (refine rg_skip 20 rfl (by kernel_rfl) (by kernel_rfl) (by kernel_rfl) (fun _ _ _ h => h) HS ?_ ?_; rfl)
              | (refine rg_take 20 (v := ?_) rfl (by kernel_rfl) (by kernel_rfl) (by kernel_rfl) (fun _ _ _ h => h) HS ?_ ?_ ?_; rotate_left; rfl; focus (intro w hSw; (try dsimp only at hSw); go_simp; all_goals (with_reducible rfl)))
            simp only [Act.put, List.setIfInBounds_toArray, List.set_cons_succ, List.set_cons_zero]
            first
              | (refine rg_skip 21 rfl (by kernel_rfl) (by kernel_rfl) (by kernel_rfl) (fun _ _ _ h => h) HS ?_ ?_; rfl)
              | (refine rg_take 21 (v := ?_) rfl (by kernel_rfl) (by kernel_rfl) (by kernel_rfl) (fun _ _ _ h => h) HS ?_ ?_ ?_; rotate_left; rfl; focus (intro w hSw; (try dsimp only at hSw); go_simp; all_goals (with_reducible rfl)))
            simp only [Act.put, List.setIfInBounds_toArray, List.set_cons_succ, List.set_cons_zero]
            first
              | (refine rg_skip 22 rfl (by kernel_rfl) (by kernel_rfl) (by kernel_rfl) (fun _ _ _ h => h) HS ?_ ?_; rfl)
              | (refine rg_take 22 (v := ?_) rfl (by kernel_rfl) (by kernel_rfl) (by kernel_rfl) (fun _ _ _ h => h) HS ?_ ?_ ?_; rotate_left; rfl; focus (intro w hSw; (try dsimp only at hSw); go_simp; all_goals (with_reducible rfl)))
            simp only [Act.put, List.setIfInBounds_toArray, List.set_cons_succ, List.set_cons_zero]
            first
              | (refine rg_skip 23 rfl (by kernel_rfl) (by kernel_rfl) (by kernel_rfl) (fun _ _ _ h => h) HS ?_ ?_; rfl)
              | (refine rg_take 23 (v := ?_) rfl (by kernel_rfl) (by kernel_rfl) (by kernel_rfl) (fun _ _ _ h => h) HS ?_ ?_ ?_; rotate_left; rfl; focus (intro w hSw; (try dsimp only at hSw); go_simp; all_goals (with_reducible rfl)))
            simp only [Act.put, List.setIfInBounds_toArray, List.set_cons_succ, List.set_cons_zero]
            first
              | (refine rg_skip 24 rfl (by kernel_rfl) (by kernel_rfl) (by kernel_rfl) (fun _ _ _ h => h) HS ?_ ?_; rfl)
              | (refine rg_take 24 (v := ?_) rfl (by kernel_rfl) (by kernel_rfl) (by kernel_rfl) (fun _ _ _ h => h) HS ?_ ?_ ?_; rotate_left; rfl; focus (intro w hSw; (try dsimp only at hSw); go_simp; all_goals (with_reducible rfl)))
            simp only [Act.put, List.setIfInBounds_toArray, List.set_cons_succ, List.set_cons_zero]
            first
              | (refine rg_skip 25 rfl (by kernel_rfl) (by kernel_rfl) (by kernel_rfl) (fun _ _ _ h => h) HS ?_ ?_; rfl)
              | (refine rg_take 25 (v := ?_) rfl (by kernel_rfl) (by kernel_rfl) (by kernel_rfl) (fun _ _ _ h => h) HS ?_ ?_ ?_; rotate_left; rfl; focus (intro w hSw; (try dsimp only at hSw); go_simp; all_goals (with_reducible rfl)))
            simp only [Act.put, List.setIfInBounds_toArray, List.set_cons_succ, List.set_cons_zero]
            first
              | (refine rg_skip 26 rfl (by kernel_rfl) (by kernel_rfl) (by kernel_rfl) (fun _ _ _ h => h) HS ?_ ?_; rfl)
              | (refine rg_take 26 (v := ?_) rfl (by kernel_rfl) (by kernel_rfl) (by kernel_rfl) (fun _ _ _ h => h) HS ?_ ?_ ?_; rotate_left; rfl; focus (intro w hSw; (try dsimp only at hSw); go_simp; all_goals (with_reducible rfl)))
            simp only [Act.put, List.setIfInBounds_toArray, List.set_cons_succ, List.set_cons_zero]
            first
              | (refine rg_skip 27 rfl (by kernel_rfl) (by kernel_rfl) (by kernel_rfl) (fun _ _ _ h => h) HS ?_ ?_; rfl)
              | (refine rg_take 27 (v := ?_) rfl (by kernel_rfl) (by kernel_rfl) (by kernel_rfl) (fun _ _ _ h => h) HS ?_ ?_ ?_; rotate_left; rfl; focus (intro w hSw; (try dsimp only at hSw); go_simp; all_goals (with_reducible rfl)))
            simp only [Act.put, List.setIfInBounds_toArray, List.set_cons_succ, List.set_cons_zero]
            first
              | (refine rg_skip 28 rfl (by kernel_rfl) (by kernel_rfl) (by kernel_rfl) (fun _ _ _ h => h) HS ?_ ?_; rfl)
              | (refine rg_take 28 (v := ?_) rfl (by kernel_rfl) (by kernel_rfl) (by kernel_rfl) (fun _ _ _ h => h) HS ?_ ?_ ?_; rotate_left; rfl; focus (intro w hSw; (try dsimp only at hSw); go_simp; all_goals (with_reducible rfl)))
            simp only [Act.put, List.setIfInBounds_toArray, List.set_cons_succ, List.set_cons_zero]
            refine rg_one 29 rfl (by kernel_rfl) (by rfl) ?_
            refine rg_call 26 _ _ rfl _ Try.func26 (by kernel_rfl) (by kernel_rfl) [.pointer (some ⟨h.p, 0, none⟩), .string (bs n)] rfl (len_calls _ h D n hrel.1.drew hnn) ?_
            rintro e3 w3 ⟨he3, rfl⟩
            rw [HLEN.out, show ((0 : Nat) : Int) = 0 from rfl] at he3
            subst he3
            refine ⟨_, rfl, HS, ?_⟩
            simp only [Act.put, List.setIfInBounds_toArray, List.set_cons_succ, List.set_cons_zero]
            first
              | (refine rg_skip 30 rfl (by kernel_rfl) (by kernel_rfl) (by kernel_rfl) (fun _ _ _ h => h) HS ?_ ?_; rfl)
              | (refine rg_take 30 (v := ?_) rfl (by kernel_rfl) (by kernel_rfl) (by kernel_rfl) (fun _ _ _ h => h) HS ?_ ?_ ?_; rotate_left; rfl; focus (intro w hSw; (try dsimp only at hSw); go_simp; all_goals (with_reducible rfl)))
            simp only [Act.put, List.setIfInBounds_toArray, List.set_cons_succ, List.set_cons_zero]
            first
              | (refine rg_skip 31 rfl (by kernel_rfl) (by kernel_rfl) (by kernel_rfl) (fun _ _ _ h => h) HS ?_ ?_; rfl)
              | (refine rg_take 31 (v := ?_) rfl (by kernel_rfl) (by kernel_rfl) (by kernel_rfl) (fun _ _ _ h => h) HS ?_ ?_ ?_; rotate_left; rfl; focus (intro w hSw; (try dsimp only at hSw); go_simp; all_goals (with_reducible rfl)))
            simp only [Act.put, List.setIfInBounds_toArray, List.set_cons_succ, List.set_cons_zero]
            refine wpAnyH_done (by kernel_rfl) ?_ _
            have HREL := Lib.hid hrel.drew
            clear HS hrel
            go_wp2
            go_roundw
            case rel => exact ⟨q + 1, by omega, by go_num, HREL.out⟩
            case measure => simp [intOf]; omega
          · have hgt : decide (0 < q) = true := decide_eq_true (by omega)
            have hqp : (0 : Int) < q := by omega
            obtain ⟨m, hm⟩ : ∃ m, D.names[q - 1]? = some m := ⟨_, List.getElem?_eq_getElem (by rw [← HN.out]; omega)⟩
            obtain ⟨g', hna', hcell'⟩ := hrel.2.2.1 (q - 1) m hm
            cases hna'
            have hless := less_of (names_rise HSO.out hm (by rw [show q - 1 + 1 = q by omega]; exact hn))
            have hw1 : IntKind.i64.wrap ((q : Int) - 1) = q - 1 := i64_small _ (by omega) (by omega)
            have hq1' : (0 : Int) ≤ (q : Int) - 1 := by omega
            have hq1'' : (1 : Int) ≤ (q : Int) := by omega
            have hq2' : (q : Int) - 1 < N := by omega
            have htn : ((q : Int) - 1).toNat = q - 1 := by omega
            clear hlt hq1 hn hm
            go_wp2_with fail
            have HS : (fun w' => (Instr.lookup 39 (.map (some bm)) (.string (bs n)) false).run Try.prog w' = .ok (.bool true) w' ∧ w'.cell? ⟨g, q, none⟩ = some (.string (bs n)) ∧ w'.cell? ⟨g, q - 1, none⟩ = some (.string (bs m))) wr.drew := ⟨have_look hrel.2.1.drew hnn true hsome, hcell, hcell'⟩
            refine wp_region_held_drew (S := (fun w' => (Instr.lookup 39 (.map (some bm)) (.string (bs n)) false).run Try.prog w' = .ok (.bool true) w' ∧ w'.cell? ⟨g, q, none⟩ = some (.string (bs n)) ∧ w'.cell? ⟨g, q - 1, none⟩ = some (.string (bs m)))) (by kernel_rfl) HS (fun _ => ?_)
            first
              | (refine rg_skip 0 rfl (by kernel_rfl) (by kernel_rfl) (by kernel_rfl) (fun _ _ _ h => h) HS ?_ ?_; rfl)
              | (refine rg_take 0 (v := ?_) rfl (by kernel_rfl) (by kernel_rfl) (by kernel_rfl) (fun _ _ _ h => h) HS ?_ ?_ ?_; rotate_left; rfl; focus (intro w hSw; (try dsimp only at hSw); go_simp; all_goals (with_reducible rfl)))
            simp only [Act.put, List.setIfInBounds_toArray, List.set_cons_succ, List.set_cons_zero]
            first
              | (refine rg_skip 1 rfl (by kernel_rfl) (by kernel_rfl) (by kernel_rfl) (fun _ _ _ h => h) HS ?_ ?_; rfl)
              | (refine rg_take 1 (v := ?_) rfl (by kernel_rfl) (by kernel_rfl) (by kernel_rfl) (fun _ _ _ h => h) HS ?_ ?_ ?_; rotate_left; rfl; focus (intro w hSw; (try dsimp only at hSw); go_simp; all_goals (with_reducible rfl)))
            simp only [Act.put, List.setIfInBounds_toArray, List.set_cons_succ, List.set_cons_zero]
            first
              | (refine rg_skip 2 rfl (by kernel_rfl) (by kernel_rfl) (by kernel_rfl) (fun _ _ _ h => h) HS ?_ ?_; rfl)
              | (refine rg_take 2 (v := ?_) rfl (by kernel_rfl) (by kernel_rfl) (by kernel_rfl) (fun _ _ _ h => h) HS ?_ ?_ ?_; rotate_left; rfl; focus (intro w hSw; (try dsimp only at hSw); go_simp; all_goals (with_reducible rfl)))
            simp only [Act.put, List.setIfInBounds_toArray, List.set_cons_succ, List.set_cons_zero]
            first
              | (refine rg_skip 3 rfl (by kernel_rfl) (by kernel_rfl) (by kernel_rfl) (fun _ _ _ h => h) HS ?_ ?_; rfl)
              | (refine rg_take 3 (v := ?_) rfl (by kernel_rfl) (by kernel_rfl) (by kernel_rfl) (fun _ _ _ h => h) HS ?_ ?_ ?_; rotate_left; rfl; focus (intro w hSw; (try dsimp only at hSw); go_simp; all_goals (with_reducible rfl)))
            simp only [Act.put, List.setIfInBounds_toArray, List.set_cons_succ, List.set_cons_zero]
            first
              | (refine rg_skip 4 rfl (by kernel_rfl) (by kernel_rfl) (by kernel_rfl) (fun _ _ _ h => h) HS ?_ ?_; rfl)
              | (refine rg_take 4 (v := ?_) rfl (by kernel_rfl) (by kernel_rfl) (by kernel_rfl) (fun _ _ _ h => h) HS ?_ ?_ ?_; rotate_left; rfl; focus (intro w hSw; (try dsimp only at hSw); go_simp; all_goals (with_reducible rfl)))
            simp only [Act.put, List.setIfInBounds_toArray, List.set_cons_succ, List.set_cons_zero]
            first
              | (refine rg_skip 5 rfl (by kernel_rfl) (by kernel_rfl) (by kernel_rfl) (fun _ _ _ h => h) HS ?_ ?_; rfl)
              | (refine rg_take 5 (v := ?_) rfl (by kernel_rfl) (by kernel_rfl) (by kernel_rfl) (fun _ _ _ h => h) HS ?_ ?_ ?_; rotate_left; rfl; focus (intro w hSw; (try dsimp only at hSw); go_simp; all_goals (with_reducible rfl)))
            simp only [Act.put, List.setIfInBounds_toArray, List.set_cons_succ, List.set_cons_zero]
            first
              | (refine rg_skip 6 rfl (by kernel_rfl) (by kernel_rfl) (by kernel_rfl) (fun _ _ _ h => h) HS ?_ ?_; rfl)
              | (refine rg_take 6 (v := ?_) rfl (by kernel_rfl) (by kernel_rfl) (by kernel_rfl) (fun _ _ _ h => h) HS ?_ ?_ ?_; rotate_left; rfl; focus (intro w hSw; (try dsimp only at hSw); go_simp; all_goals (with_reducible rfl)))
            simp only [Act.put, List.setIfInBounds_toArray, List.set_cons_succ, List.set_cons_zero]
            first
              | (refine rg_skip 7 rfl (by kernel_rfl) (by kernel_rfl) (by kernel_rfl) (fun _ _ _ h => h) HS ?_ ?_; rfl)
              | (refine rg_take 7 (v := ?_) rfl (by kernel_rfl) (by kernel_rfl) (by kernel_rfl) (fun _ _ _ h => h) HS ?_ ?_ ?_; rotate_left; rfl; focus (intro w hSw; (try dsimp only at hSw); go_simp; all_goals (with_reducible rfl)))
            simp only [Act.put, List.setIfInBounds_toArray, List.set_cons_succ, List.set_cons_zero]
            first
              | (refine rg_skip 8 rfl (by kernel_rfl) (by kernel_rfl) (by kernel_rfl) (fun _ _ _ h => h) HS ?_ ?_; rfl)
              | (refine rg_take 8 (v := ?_) rfl (by kernel_rfl) (by kernel_rfl) (by kernel_rfl) (fun _ _ _ h => h) HS ?_ ?_ ?_; rotate_left; rfl; focus (intro w hSw; (try dsimp only at hSw); go_simp; all_goals (with_reducible rfl)))
            simp only [Act.put, List.setIfInBounds_toArray, List.set_cons_succ, List.set_cons_zero]
            first
              | (refine rg_skip 9 rfl (by kernel_rfl) (by kernel_rfl) (by kernel_rfl) (fun _ _ _ h => h) HS ?_ ?_; rfl)
              | (refine rg_take 9 (v := ?_) rfl (by kernel_rfl) (by kernel_rfl) (by kernel_rfl) (fun _ _ _ h => h) HS ?_ ?_ ?_; rotate_left; rfl; focus (intro w hSw; (try dsimp only at hSw); go_simp; all_goals (with_reducible rfl)))
            simp only [Act.put, List.setIfInBounds_toArray, List.set_cons_succ, List.set_cons_zero]
            first
              | (refine rg_skip 10 rfl (by kernel_rfl) (by kernel_rfl) (by kernel_rfl) (fun _ _ _ h => h) HS ?_ ?_; rfl)
              | (refine rg_take 10 (v := ?_) rfl (by kernel_rfl) (by kernel_rfl) (by kernel_rfl) (fun _ _ _ h => h) HS ?_ ?_ ?_; rotate_left; rfl; focus (intro w hSw; (try dsimp only at hSw); go_simp; all_goals (with_reducible rfl)))
            simp only [Act.put, List.setIfInBounds_toArray, List.set_cons_succ, List.set_cons_zero]
            first
              | (refine rg_skip 11 rfl (by kernel_rfl) (by kernel_rfl) (by kernel_rfl) (fun _ _ _ h => h) HS ?_ ?_; rfl)
              | (refine rg_take 11 (v := ?_) rfl (by kernel_rfl) (by kernel_rfl) (by kernel_rfl) (fun _ _ _ h => h) HS ?_ ?_ ?_; rotate_left; rfl; focus (intro w hSw; (try dsimp only at hSw); go_simp; all_goals (with_reducible rfl)))
            simp only [Act.put, List.setIfInBounds_toArray, List.set_cons_succ, List.set_cons_zero]
            first
              | (refine rg_skip 12 rfl (by kernel_rfl) (by kernel_rfl) (by kernel_rfl) (fun _ _ _ h => h) HS ?_ ?_; rfl)
              | (refine rg_take 12 (v := ?_) rfl (by kernel_rfl) (by kernel_rfl) (by kernel_rfl) (fun _ _ _ h => h) HS ?_ ?_ ?_; rotate_left; rfl; focus (intro w hSw; (try dsimp only at hSw); go_simp; all_goals (with_reducible rfl)))
            simp only [Act.put, List.setIfInBounds_toArray, List.set_cons_succ, List.set_cons_zero]
            first
              | (refine rg_skip 13 rfl (by kernel_rfl) (by kernel_rfl) (by kernel_rfl) (fun _ _ _ h => h) HS ?_ ?_; rfl)
              | (refine rg_take 13 (v := ?_) rfl (by kernel_rfl) (by kernel_rfl) (by kernel_rfl) (fun _ _ _ h => h) HS ?_ ?_ ?_; rotate_left; rfl; focus (intro w hSw; (try dsimp only at hSw); go_simp; all_goals (with_reducible rfl)))
            simp only [Act.put, List.setIfInBounds_toArray, List.set_cons_succ, List.set_cons_zero]
            first
              | (refine rg_skip 14 rfl (by kernel_rfl) (by kernel_rfl) (by kernel_rfl) (fun _ _ _ h => h) HS ?_ ?_; rfl)
              | (refine rg_take 14 (v := ?_) rfl (by kernel_rfl) (by kernel_rfl) (by kernel_rfl) (fun _ _ _ h => h) HS ?_ ?_ ?_; rotate_left; rfl; focus (intro w hSw; (try dsimp only at hSw); go_simp; all_goals (with_reducible rfl)))
            simp only [Act.put, List.setIfInBounds_toArray, List.set_cons_succ, List.set_cons_zero]
            first
              | (refine rg_skip 15 rfl (by kernel_rfl) (by kernel_rfl) (by kernel_rfl) (fun _ _ _ h => h) HS ?_ ?_; rfl)
              | (refine rg_take 15 (v := ?_) rfl (by kernel_rfl) (by kernel_rfl) (by kernel_rfl) (fun _ _ _ h => h) HS ?_ ?_ ?_; rotate_left; rfl; focus (intro w hSw; (try dsimp only at hSw); go_simp; all_goals (with_reducible rfl)))
            simp only [Act.put, List.setIfInBounds_toArray, List.set_cons_succ, List.set_cons_zero]
            first
              | (refine rg_skip 16 rfl (by kernel_rfl) (by kernel_rfl) (by kernel_rfl) (fun _ _ _ h => h) HS ?_ ?_; rfl)
              | (refine rg_take 16 (v := ?_) rfl (by kernel_rfl) (by kernel_rfl) (by kernel_rfl) (fun _ _ _ h => h) HS ?_ ?_ ?_; rotate_left; rfl; focus (intro w hSw; (try dsimp only at hSw); go_simp; all_goals (with_reducible rfl)))
            simp only [Act.put, List.setIfInBounds_toArray, List.set_cons_succ, List.set_cons_zero]
            first
              | (refine rg_skip 17 rfl (by kernel_rfl) (by kernel_rfl) (by kernel_rfl) (fun _ _ _ h => h) HS ?_ ?_; rfl)
              | (refine rg_take 17 (v := ?_) rfl (by kernel_rfl) (by kernel_rfl) (by kernel_rfl) (fun _ _ _ h => h) HS ?_ ?_ ?_; rotate_left; rfl; focus (intro w hSw; (try dsimp only at hSw); go_simp; all_goals (with_reducible rfl)))
            simp only [Act.put, List.setIfInBounds_toArray, List.set_cons_succ, List.set_cons_zero]
            first
              | (refine rg_skip 18 rfl (by kernel_rfl) (by kernel_rfl) (by kernel_rfl) (fun _ _ _ h => h) HS ?_ ?_; rfl)
              | (refine rg_take 18 (v := ?_) rfl (by kernel_rfl) (by kernel_rfl) (by kernel_rfl) (fun _ _ _ h => h) HS ?_ ?_ ?_; rotate_left; rfl; focus (intro w hSw; (try dsimp only at hSw); go_simp; all_goals (with_reducible rfl)))
            simp only [Act.put, List.setIfInBounds_toArray, List.set_cons_succ, List.set_cons_zero]
            first
              | (refine rg_skip 19 rfl (by kernel_rfl) (by kernel_rfl) (by kernel_rfl) (fun _ _ _ h => h) HS ?_ ?_; rfl)
              | (refine rg_take 19 (v := ?_) rfl (by kernel_rfl) (by kernel_rfl) (by kernel_rfl) (fun _ _ _ h => h) HS ?_ ?_ ?_; rotate_left; rfl; focus (intro w hSw; (try dsimp only at hSw); go_simp; all_goals (with_reducible rfl)))
            simp only [Act.put, List.setIfInBounds_toArray, List.set_cons_succ, List.set_cons_zero]
            first
              | (refine rg_skip 20 rfl (by kernel_rfl) (by kernel_rfl) (by kernel_rfl) (fun _ _ _ h => h) HS ?_ ?_; rfl)
              | (refine rg_take 20 (v := ?_) rfl (by kernel_rfl) (by kernel_rfl) (by kernel_rfl) (fun _ _ _ h => h) HS ?_ ?_ ?_; rotate_left; rfl; focus (intro w hSw; (try dsimp only at hSw); go_simp; all_goals (with_reducible rfl)))
            simp only [Act.put, List.setIfInBounds_toArray, List.set_cons_succ, List.set_cons_zero]
            first
              | (refine rg_skip 21 rfl (by kernel_rfl) (by kernel_rfl) (by kernel_rfl) (fun _ _ _ h => h) HS ?_ ?_; rfl)
              | (refine rg_take 21 (v := ?_) rfl (by kernel_rfl) (by kernel_rfl) (by kernel_rfl) (fun _ _ _ h => h) HS ?_ ?_ ?_; rotate_left; rfl; focus (intro w hSw; (try dsimp only at hSw); go_simp; all_goals (with_reducible rfl)))
            simp only [Act.put, List.setIfInBounds_toArray, List.set_cons_succ, List.set_cons_zero]
            first
              | (refine rg_skip 22 rfl (by kernel_rfl) (by kernel_rfl) (by kernel_rfl) (fun _ _ _ h => h) HS ?_ ?_; rfl)
              | (refine rg_take 22 (v := ?_) rfl (by kernel_rfl) (by kernel_rfl) (by kernel_rfl) (fun _ _ _ h => h) HS ?_ ?_ ?_; rotate_left; rfl; focus (intro w hSw; (try dsimp only at hSw); go_simp; all_goals (with_reducible rfl)))
            simp only [Act.put, List.setIfInBounds_toArray, List.set_cons_succ, List.set_cons_zero]
            first
              | (refine rg_skip 23 rfl (by kernel_rfl) (by kernel_rfl) (by kernel_rfl) (fun _ _ _ h => h) HS ?_ ?_; rfl)
              | (refine rg_take 23 (v := ?_) rfl (by kernel_rfl) (by kernel_rfl) (by kernel_rfl) (fun _ _ _ h => h) HS ?_ ?_ ?_; rotate_left; rfl; focus (intro w hSw; (try dsimp only at hSw); go_simp; all_goals (with_reducible rfl)))
            simp only [Act.put, List.setIfInBounds_toArray, List.set_cons_succ, List.set_cons_zero]
            first
              | (refine rg_skip 24 rfl (by kernel_rfl) (by kernel_rfl) (by kernel_rfl) (fun _ _ _ h => h) HS ?_ ?_; rfl)
              | (refine rg_take 24 (v := ?_) rfl (by kernel_rfl) (by kernel_rfl) (by kernel_rfl) (fun _ _ _ h => h) HS ?_ ?_ ?_; rotate_left; rfl; focus (intro w hSw; (try dsimp only at hSw); go_simp; all_goals (with_reducible rfl)))
            simp only [Act.put, List.setIfInBounds_toArray, List.set_cons_succ, List.set_cons_zero]
            first
              | (refine rg_skip 25 rfl (by kernel_rfl) (by kernel_rfl) (by kernel_rfl) (fun _ _ _ h => h) HS ?_ ?_; rfl)
              | (refine rg_take 25 (v := ?_) rfl (by kernel_rfl) (by kernel_rfl) (by kernel_rfl) (fun _ _ _ h => h) HS ?_ ?_ ?_; rotate_left; rfl; focus (intro w hSw; (try dsimp only at hSw); go_simp; all_goals (with_reducible rfl)))
            simp only [Act.put, List.setIfInBounds_toArray, List.set_cons_succ, List.set_cons_zero]
            first
              | (refine rg_skip 26 rfl (by kernel_rfl) (by kernel_rfl) (by kernel_rfl) (fun _ _ _ h => h) HS ?_ ?_; rfl)
              | (refine rg_take 26 (v := ?_) rfl (by kernel_rfl) (by kernel_rfl) (by kernel_rfl) (fun _ _ _ h => h) HS ?_ ?_ ?_; rotate_left; rfl; focus (intro w hSw; (try dsimp only at hSw); go_simp; all_goals (with_reducible rfl)))
            simp only [Act.put, List.setIfInBounds_toArray, List.set_cons_succ, List.set_cons_zero]
            first
              | (refine rg_skip 27 rfl (by kernel_rfl) (by kernel_rfl) (by kernel_rfl) (fun _ _ _ h => h) HS ?_ ?_; rfl)
              | (refine rg_take 27 (v := ?_) rfl (by kernel_rfl) (by kernel_rfl) (by kernel_rfl) (fun _ _ _ h => h) HS ?_ ?_ ?_; rotate_left; rfl; focus (intro w hSw; (try dsimp only at hSw); go_simp; all_goals (with_reducible rfl)))
            simp only [Act.put, List.setIfInBounds_toArray, List.set_cons_succ, List.set_cons_zero]
            first
              | (refine rg_skip 28 rfl (by kernel_rfl) (by kernel_rfl) (by kernel_rfl) (fun _ _ _ h => h) HS ?_ ?_; rfl)
              | (refine rg_take 28 (v := ?_) rfl (by kernel_rfl) (by kernel_rfl) (by kernel_rfl) (fun _ _ _ h => h) HS ?_ ?_ ?_; rotate_left; rfl; focus (intro w hSw; (try dsimp only at hSw); go_simp; all_goals (with_reducible rfl)))
            simp only [Act.put, List.setIfInBounds_toArray, List.set_cons_succ, List.set_cons_zero]
            refine rg_one 29 rfl (by kernel_rfl) (by rfl) ?_
            refine rg_call 26 _ _ rfl _ Try.func26 (by kernel_rfl) (by kernel_rfl) [.pointer (some ⟨h.p, 0, none⟩), .string (bs n)] rfl (len_calls _ h D n hrel.1.drew hnn) ?_
            rintro e3 w3 ⟨he3, rfl⟩
            rw [HLEN.out, show ((0 : Nat) : Int) = 0 from rfl] at he3
            subst he3
            refine ⟨_, rfl, HS, ?_⟩
            simp only [Act.put, List.setIfInBounds_toArray, List.set_cons_succ, List.set_cons_zero]
            first
              | (refine rg_skip 30 rfl (by kernel_rfl) (by kernel_rfl) (by kernel_rfl) (fun _ _ _ h => h) HS ?_ ?_; rfl)
              | (refine rg_take 30 (v := ?_) rfl (by kernel_rfl) (by kernel_rfl) (by kernel_rfl) (fun _ _ _ h => h) HS ?_ ?_ ?_; rotate_left; rfl; focus (intro w hSw; (try dsimp only at hSw); go_simp; all_goals (with_reducible rfl)))
            simp only [Act.put, List.setIfInBounds_toArray, List.set_cons_succ, List.set_cons_zero]
            first
              | (refine rg_skip 31 rfl (by kernel_rfl) (by kernel_rfl) (by kernel_rfl) (fun _ _ _ h => h) HS ?_ ?_; rfl)
              | (refine rg_take 31 (v := ?_) rfl (by kernel_rfl) (by kernel_rfl) (by kernel_rfl) (fun _ _ _ h => h) HS ?_ ?_ ?_; rotate_left; rfl; focus (intro w hSw; (try dsimp only at hSw); go_simp; all_goals (with_reducible rfl)))
            simp only [Act.put, List.setIfInBounds_toArray, List.set_cons_succ, List.set_cons_zero]
            refine wpAnyH_done (by kernel_rfl) ?_ _
            have HREL := Lib.hid hrel.drew
            clear HS hrel
            go_wp2
            go_roundw
            case rel => exact ⟨q + 1, by omega, by go_num, HREL.out⟩
            case measure => simp [intOf]; omega
        · have hge : decide (q < N) = false := by simpa using hlt
          obtain rfl : q = N := by omega
          clear hlt
          have hkeys := have_keys HSO.out
          have HKEYS := Lib.hid hkeys
          clear hkeys
          have hlen : (D.files.map fun a => Value.string (bs a.1)).length = q := by rw [HN.out, HN9.out, List.length_map]
          have HLL := Lib.hid hlen
          clear hlen
          go_wp2_with (first
            | (refine wl_len rfl _ _ rfl _ Try.underlying39 hrel.2.1 rfl _ HKEYS.out.1 HKEYS.out.2 q HLL.out ?_)
            | fail)
          refine (used_calls _ h D hrel.1).mono ?_
          rintro e w5 ⟨he, rfl⟩
          rw [HU.out, show ((0 : Nat) : Int) = 0 from rfl] at he
          subst he
          go_wp2_with fail
          refine (awake7_calls _).mono ?_
          rintro e w11 ⟨rfl, hk11⟩
          go_wp2
          go_ret
          exact ⟨rfl, hrel.2.2.2.trans hk11⟩
end Go.Proofs.Ytadjcdfmppcpnaa
