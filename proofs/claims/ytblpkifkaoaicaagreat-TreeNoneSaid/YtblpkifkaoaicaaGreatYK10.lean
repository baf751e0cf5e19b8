import Derived.Test.YtblpkifkaoaicaaGreatYK7
import Derived.Test.YtblpkifkaoaicaaGreatSlC
/-! The library's slices.Clone, Grow, Concat of rows and of knots. -/
namespace Go.Proofs.YtblpkifkaoaicaaGreat
open Go Go.RowKit Go.Maps Wb

theorem infoRwZ : (Tryz.prog.info? 70).map (fun i => (i.zero, i.size, i.bytes)) = some (some (.agg (rowA ⟨[], [], 0⟩)), 3, 40) := by kernel_rfl
theorem infoPtr : (Tryz.prog.info? 91).map (fun i => (i.zero, i.size, i.bytes)) = some (some (.pointer none), 1, 8) := by kernel_rfl
theorem rowsA_ones (l : List Rw) : ∀ r ∈ rowsA l, r.all (·.oneCell') = true := by
  intro r hr
  obtain ⟨x, _, rfl⟩ := List.mem_map.1 hr
  exact rowA_one x
theorem rowA_mem {u : Value} (hu : u ∈ (Value.agg (rowA ⟨[], [], 0⟩)).cells) : u.oneCell' = true := (Array.all_eq_true_iff_forall_mem.1 (rowA_one ⟨[], [], 0⟩)) u hu
def RowsPost (w : World) (l : List Rw) (e : Ending) (w' : World) : Prop := ∃ v, e = .returned v ∧ isOwnA w' w.heap.size 70 3 v (rowsA l) ∧ Keeps w w' (fun _ => False)
set_option maxRecDepth 100000 in
set_option maxHeartbeats 1000000 in
theorem cloneR_calls (w : World) (v : Value) (l : List Rw) (hv : isRdA w 3 v (rowsA l)) (hn : ∀ cap, v = .slice none 0 cap → cap = 0) (hl : l.length ≤ 1000000) :
    Calls Tryz.prog 70 #[v] w (RowsPost w l) := by
  have HV := Lib.hid hv
  obtain ⟨a, cap, rfl, hc1, hc3⟩ := hv
  have HN := Lib.hid hn
  have hlen : (rowsA l).length ≤ 1000000 := by rw [rowsA_len]; exact hl
  clear hn
  cases a with
  | none =>
    have hz : l = [] := by
      cases l with
      | nil => rfl
      | cons u r => obtain ⟨g, o, h, _⟩ := hc3 0 _ rfl; cases h
    subst hz
    clear hc3
    have hnl : ∀ (W : World), (binOp BinOp.eql 47 (.slice none (rowsA []).length cap) (.slice none 0 0)).run Tryz.prog W = .ok (.bool true) W := fun W => Go.Lib.run_eql_slice_nil (P := Tryz.prog) W 47 70 none (rowsA []).length cap 0 0 Tryz.underlying47
    go_enter Tryz.func70, Tryz.ntmps70
    go_wp2
    go_ret
    exact ⟨_, rfl, isOwnA_nil _ _ _ _, Keeps.refl _ _⟩
  | some ad =>
    clear hc3
    have hnl : ∀ (W : World), (binOp BinOp.eql 47 (.slice (some ad) (rowsA l).length cap) (.slice none 0 0)).run Tryz.prog W = .ok (.bool false) W := fun W => Go.Lib.run_eql_slice_nil (P := Tryz.prog) W 47 70 (some ad) (rowsA l).length cap 0 0 Tryz.underlying47
    go_enter Tryz.func70, Tryz.ntmps70
    go_wp2_with (first
      | (refine wl_sliceA0 rfl _ rfl 70 _ 3 40 Tryz.underlying47 infoRwZ ?_; intro b w1 hb HB HK)
      | (at_builtin; refine wl_appendRA rfl _ _ _ rfl 70 _ 3 40 Tryz.underlying47 infoRwZ rfl (by decide) w.heap.size _ [] rfl (isOwnA_empty HB hb) _ (rowsA l) rfl (HV.out.new HK) HN.out (rowsA_size l) (rowsA_ones l) (by simp [maxLen]; omega) (by simp; omega) HK.size ?_; intro v' w2 hap)
      | fail)
    go_ret
    exact ⟨_, rfl, hap.1, HK.then hap.2.1 (fun i hi he => by have e : b = i := Option.some.inj he; omega)⟩
def KidsPost (w : World) (vs : List Value) (e : Ending) (w' : World) : Prop := ∃ v, e = .returned v ∧ isOwn w' w.heap.size 91 v vs ∧ Keeps w w' (fun _ => False)
set_option maxRecDepth 100000 in
set_option maxHeartbeats 1000000 in
theorem cloneK_calls (w : World) (v : Value) (vs : List Value) (hv : isRd w v vs) (h1 : ∀ u ∈ vs, u.oneCell' = true) (hn : ∀ cap, v = .slice none 0 cap → cap = 0) (hl : vs.length ≤ 1000000) :
    Calls Tryz.prog 131 #[v] w (KidsPost w vs) := by
  have HV := Lib.hid hv
  have H1 := Lib.hid h1
  obtain ⟨a, cap, rfl, hc1, hc3⟩ := hv
  have HN := Lib.hid hn
  clear hn h1
  cases a with
  | none =>
    have hz : vs = [] := by
      cases vs with
      | nil => rfl
      | cons u r => obtain ⟨g, o, h, _⟩ := hc3 0 _ rfl; cases h
    subst hz
    clear hc3
    have hnl : ∀ (W : World) (n : Nat), (binOp BinOp.eql 94 (.slice none n cap) (.slice none 0 0)).run Tryz.prog W = .ok (.bool true) W := fun W n => Go.Lib.run_eql_slice_nil (P := Tryz.prog) W 94 91 none n cap 0 0 Tryz.underlying94
    go_enter Tryz.func131, Tryz.ntmps131
    go_wp2
    go_ret
    exact ⟨_, rfl, isOwn_nil _ _ _, Keeps.refl _ _⟩
  | some ad =>
    clear hc3
    have hnl : ∀ (W : World) (n : Nat), (binOp BinOp.eql 94 (.slice (some ad) n cap) (.slice none 0 0)).run Tryz.prog W = .ok (.bool false) W := fun W n => Go.Lib.run_eql_slice_nil (P := Tryz.prog) W 94 91 (some ad) n cap 0 0 Tryz.underlying94
    go_enter Tryz.func131, Tryz.ntmps131
    go_wp2_with (first
      | (refine wl_slice0 rfl _ rfl 91 _ 8 Tryz.underlying94 infoPtr ?_; intro b w1 hb HB HK)
      | (at_builtin; refine wl_appendN rfl _ _ _ rfl 91 _ 8 Tryz.underlying94 infoPtr rfl w.heap.size _ [] rfl (isOwn_made (vs := []) HB hb (by decide)) _ vs rfl (HV.out.new HK) HN.out H1.out (by simp [maxLen]; omega) (by simp; omega) HK.size ?_; intro v' w2 hap)
      | fail)
    go_ret
    exact ⟨_, rfl, hap.1, HK.then hap.2.1 (fun i hi he => by have e : b = i := Option.some.inj he; omega)⟩

set_option maxRecDepth 100000 in
set_option maxHeartbeats 1000000 in
theorem growR_calls (w : World) (n : Nat) (hn : n ≤ 1000000) : Calls Tryz.prog 128 #[.slice none 0 0, .int .i64 n] w (RowsPost w []) := by
  have hn0 : (0 : Int) ≤ n := by omega
  have hni : (n : Int) ≤ 1000000 := by omega
  have hneg : decide ((n : Int) < 0) = false := by simp
  rcases Nat.eq_zero_or_pos n with rfl | hpos
  · go_enter Tryz.func128, Tryz.ntmps128
    go_wp2
    go_ret
    exact ⟨_, rfl, isOwnA_nil _ _ _ _, Keeps.refl _ _⟩
  · have hgt : decide ((0 : Int) < (n : Int)) = true := by simp; omega
    have hgtn : decide (0 < n) = true := by simp; omega
    have H1 : Hid (n ≤ maxLen) := Lib.hid (by unfold maxLen; omega)
    have H2 : Hid (n * 40 ≤ 140737488355328) := Lib.hid (by omega)
    clear hpos
    go_enter Tryz.func128, Tryz.ntmps128
    go_wp2_with (first
      | (at_builtin; refine wl_appendZA rfl _ _ 47 3 rfl 70 _ 3 40 Tryz.underlying47 Tryz.underlying3 infoRwZ rfl (by decide) (fun u hu => rowA_mem hu) w.heap.size _ [] rfl (isOwnA_nil _ _ _ _) n _ rfl rfl (by simpa using H1.out) (by simpa using H2.out) (Nat.le_refl _) ?_; intro v' w2 hap; obtain ⟨ad, cp, hv, hcl⟩ : ∃ ad cp, v' = .slice ad n cp ∧ isOwnA w2 w.heap.size 70 3 (.slice ad 0 cp) [] := (by obtain ⟨ad, cp, hs⟩ := hap.1.shape; have hl : ([] ++ List.replicate n (Value.agg (rowA ⟨[], [], 0⟩)).cells).length = n := (by simp); rw [hl] at hs; refine ⟨ad, cp, hs, ?_⟩; have h9 := hap.1; rw [hs] at h9; simpa using h9.cut (k := 0) (Nat.zero_le _)); have HCL := Lib.hid hcl; have HAK := Lib.hid hap.2.1; clear hap hcl; subst hv)
      | fail)
    go_ret
    exact ⟨_, rfl, HCL.out, HAK.out.mono (fun i _ e => by cases e)⟩

set_option maxRecDepth 100000 in
set_option maxHeartbeats 1000000 in
theorem growK_calls (w : World) (n : Nat) (hn : n ≤ 1000000) : Calls Tryz.prog 129 #[.slice none 0 0, .int .i64 n] w (KidsPost w []) := by
  have hn0 : (0 : Int) ≤ n := by omega
  have hni : (n : Int) ≤ 1000000 := by omega
  have hneg : decide ((n : Int) < 0) = false := by simp
  rcases Nat.eq_zero_or_pos n with rfl | hpos
  · go_enter Tryz.func129, Tryz.ntmps129
    go_wp2
    go_ret
    exact ⟨_, rfl, isOwn_nil _ _ _, Keeps.refl _ _⟩
  · have hgt : decide ((0 : Int) < (n : Int)) = true := by simp; omega
    have hgtn : decide (0 < n) = true := by simp; omega
    have H1 : Hid (n ≤ maxLen) := Lib.hid (by unfold maxLen; omega)
    have H2 : Hid (n * 8 ≤ 140737488355328) := Lib.hid (by omega)
    clear hpos
    go_enter Tryz.func129, Tryz.ntmps129
    go_wp2_with (first
      | (at_builtin; refine wl_appendZ rfl _ _ 94 3 rfl 91 _ 8 Tryz.underlying94 Tryz.underlying3 infoPtr rfl rfl w.heap.size _ [] rfl (isOwn_nil _ _ _) n _ rfl rfl (by simpa using H1.out) (by simpa using H2.out) (Nat.le_refl _) ?_; intro v' w2 hap; obtain ⟨ad, cp, hv, hcl⟩ : ∃ ad cp, v' = .slice ad n cp ∧ isOwn w2 w.heap.size 91 (.slice ad 0 cp) [] := (by obtain ⟨ad, cp, hs⟩ := isOwn.shapeN hap.1; have hl : ([] ++ List.replicate n (Value.pointer none)).length = n := (by simp); rw [hl] at hs; refine ⟨ad, cp, hs, ?_⟩; have h9 := hap.1; rw [hs] at h9; simpa using isOwn.cut (k := 0) h9 (Nat.zero_le _)); have HCL := Lib.hid hcl; have HAK := Lib.hid hap.2.1; clear hap hcl; subst hv)
      | fail)
    go_ret
    exact ⟨_, rfl, HCL.out, HAK.out.mono (fun i _ e => by cases e)⟩

def PsROk (w : World) (ps : List (Value × List Rw)) : Prop := ∀ p ∈ ps, isRdA w 3 p.1 (rowsA p.2) ∧ (∀ cap, p.1 = .slice none 0 cap → cap = 0)
theorem PsROk.new {w w' : World} {ps : List (Value × List Rw)} (h : PsROk w ps) (hk : Keeps w w' (fun _ => False)) : PsROk w' ps := fun p hp => ⟨(h p hp).1.new hk, (h p hp).2⟩
set_option maxRecDepth 100000 in
set_option maxHeartbeats 2000000 in
theorem concatR_calls (w : World) (sv : Value) (ps : List (Value × List Rw)) (hs : isRd w sv (ps.map (·.1))) (hp : PsROk w ps) (hl : (ps.flatMap (·.2)).length ≤ 1000000) (hpl : ps.length ≤ 1000) :
    Calls Tryz.prog 94 #[sv] w (RowsPost w (ps.flatMap (·.2))) := by
  obtain ⟨ad, cap, rfl, hcap, hrd⟩ := hs
  rw [List.length_map] at hcap ⊢
  obtain ⟨m, hm⟩ : ∃ m, m = ps.length := ⟨_, rfl⟩
  have HM := Lib.hid hm
  rw [← hm] at hcap hpl ⊢
  have HRD : Hid (∀ (q : Nat) p, ps[q]? = some p → ∃ g o, ad = some ⟨g, o, none⟩ ∧ g < w.heap.size ∧ w.cell? ⟨g, o + q, none⟩ = some p.1) := Lib.hid fun q p hq => hrd q p.1 (by rw [List.getElem?_map, hq]; rfl)
  have HPS := Lib.hid hp
  have HL : Hid (∀ q, ((ps.take q).flatMap (·.2)).length ≤ 1000000) := Lib.hid fun q => by
    have h1 : (ps.flatMap (·.2)).length = ((ps.take q).flatMap (·.2)).length + ((ps.drop q).flatMap (·.2)).length := by
      rw [← List.length_append, ← List.flatMap_append, List.take_append_drop]
    omega
  have hmi : (m : Int) ≤ 1000 := by omega
  clear hrd hp hl hm
  go_enter Tryz.func94, Tryz.ntmps94
  go_wp2_with fail
  go_loop [3, 11] (fun v3 v11 => ∃ q s : Nat, q ≤ m ∧ s ≤ 1000000 ∧ v11 = .int .i64 q ∧ v3 = .int .i64 s ∧ Hid (s = ((ps.take q).flatMap (·.2)).length)) (fun _ v11 => m - (intOf v11).toNat)
  case atStart => exact ⟨0, 0, Nat.zero_le _, Nat.zero_le _, rfl, rfl, Lib.hid (by simp)⟩
  case round =>
    obtain ⟨q, s, hq, hs, rfl, rfl, hrel⟩ := hrel
    have hs0 : (0 : Int) ≤ s := by omega
    have hsi : (s : Int) ≤ 1000000 := by omega
    have hq0 : (0 : Int) ≤ q := by omega
    by_cases hlt : q < m
    · as_aux_lemma =>
      have hlb : decide ((q : Int) < (m : Int)) = true := by simp; omega
      have hlbn : decide (q < m) = true := by simp; omega
      have hqm : (q : Int) < m := by omega
      obtain ⟨p, hp⟩ : ∃ p, ps[q]? = some p := ⟨_, List.getElem?_eq_getElem (by have := HM.out; omega)⟩
      obtain ⟨g, o, rfl, _, hc⟩ := HRD.out q p hp
      have hpo := (HPS.out p (List.mem_of_getElem? hp)).1
      have HQ : Hid (s + p.2.length = ((ps.take (q + 1)).flatMap (·.2)).length) := Lib.hid (by rw [List.take_add_one, hp, List.flatMap_append, List.length_append, hrel.out]; simp)
      have hbd : s + p.2.length ≤ 1000000 := by rw [HQ.out]; exact HL.out _
      obtain ⟨pv, pl⟩ := p
      obtain ⟨a2, c2, hpv, _⟩ := hpo
      rw [rowsA_len] at hpv
      dsimp only at hpv hc hbd HQ
      subst hpv
      obtain ⟨k, hk⟩ : ∃ k, k = pl.length := ⟨_, rfl⟩
      rw [← hk] at hc hbd HQ
      have hbdi : (s : Int) + (k : Int) ≤ 1000000 := by omega
      have hk0 : (0 : Int) ≤ k := by omega
      have hneg : decide ((s : Int) + (k : Int) < 0) = false := by simp; omega
      have HLT := Lib.hid hlt
      have HBD := Lib.hid hbd
      clear hp hk hlt hbd hrel
      go_wp2_with fail
      go_round
      case rel => exact ⟨q + 1, s + k, HLT.out, HBD.out, by go_num, by go_num, HQ⟩
      case measure => have := HLT.out; simp [intOf]; omega
    · as_aux_lemma =>
      obtain rfl : q = m := by omega
      have hlb : decide ((q : Int) < (q : Int)) = false := by simp
      have hlbn : decide (q < q) = false := by simp
      clear hlt hrel
      go_wp2_with fail
      refine (growR_calls w s hs).mono ?_
      rintro e w1 ⟨v1, rfl, ho1, hk1⟩
      have HO1 := Lib.hid ho1
      have HK1 := Lib.hid hk1
      clear ho1 hk1
      go_wp2_with fail
      go_loopw [6, 27] (fun v6 v27 wr => ∃ i : Nat, i ≤ q ∧ v27 = .int .i64 i ∧ Hid (isOwnA wr w.heap.size 70 3 v6 (rowsA ((ps.take i).flatMap (·.2))) ∧ Keeps w wr (fun _ => False))) (fun _ v27 _ => q - (intOf v27).toNat)
      case atStart => exact ⟨0, Nat.zero_le _, rfl, Lib.hid ⟨by simpa using HO1.out, HK1.out⟩⟩
      case round =>
        obtain ⟨i, hi, rfl, hrel⟩ := hrel
        have hi0 : (0 : Int) ≤ i := by omega
        by_cases hlt : i < q
        · as_aux_lemma =>
          have hlb : decide ((i : Int) < (q : Int)) = true := by simp; omega
          have hlbn : decide (i < q) = true := by simp; omega
          have hiq : (i : Int) < q := by omega
          obtain ⟨p, hp⟩ : ∃ p, ps[i]? = some p := ⟨_, List.getElem?_eq_getElem (by have := HM.out; omega)⟩
          obtain ⟨g, o, rfl, hg, hc⟩ := HRD.out i p hp
          have hc1 := (hrel.out.2.cell (p := ⟨g, o + i, none⟩) hg (fun h => h)).trans hc
          have HPO := Lib.hid (HPS.out p (List.mem_of_getElem? hp))
          have HTK : Hid ((ps.take (i + 1)).flatMap (·.2) = (ps.take i).flatMap (·.2) ++ p.2) := Lib.hid (by rw [List.take_add_one, hp, List.flatMap_append]; simp)
          have HBD := HL.out (i + 1)
          rw [HTK.out, List.length_append] at HBD
          obtain ⟨pv, pl⟩ := p
          dsimp only at hc hc1 HPO HTK HBD
          obtain ⟨va, vc, rfl⟩ := hrel.out.1.shape
          obtain ⟨a2, c2, hpv, _⟩ := HPO.out.1
          (try dsimp only at hpv)
          subst hpv
          have HREL := Lib.hid hrel.out
          have HLT := Lib.hid hlt
          clear hp hlt hrel hc HO1 HK1
          
          go_wp2_with (first
            | (at_builtin; refine wl_appendRA rfl _ _ _ rfl 70 _ 3 40 Tryz.underlying47 infoRwZ rfl (by decide) w.heap.size (.slice va (rowsA ((ps.take i).flatMap (·.2))).length vc) (rowsA ((ps.take i).flatMap (·.2))) rfl HREL.out.1 (.slice a2 (rowsA pl).length c2) (rowsA pl) rfl (HPO.out.1.new HREL.out.2) HPO.out.2 (rowsA_size _) (rowsA_ones _) (by rw [rowsA_len, rowsA_len]; unfold maxLen; omega) (by rw [rowsA_len, rowsA_len]; omega) HREL.out.2.size ?_; intro v' w3 hap)
            | fail)
          go_roundw
          case rel => exact ⟨i + 1, HLT.out, by go_num, Lib.hid ⟨by rw [HTK.out, rowsA_app]; exact hap.1, HREL.out.2.then hap.2.1 (fun j hj e => by have := (HREL.out.1.blk j e).1; omega)⟩⟩
          case measure => have := HLT.out; simp [intOf]; omega
        · as_aux_lemma =>
          obtain rfl : i = q := by omega
          have hlb : decide ((i : Int) < (i : Int)) = false := by simp
          have hlbn : decide (i < i) = false := by simp
          have HALL : Hid (ps.take i = ps) := Lib.hid (by rw [HM.out, List.take_length])
          have HREL := hrel.out
          rw [HALL.out] at HREL
          have HREL2 := Lib.hid HREL
          clear HREL hrel hlt
          go_wp2_with fail
          go_ret
          exact ⟨_, rfl, HREL2.out.1, HREL2.out.2⟩

def PsKOk (w : World) (ps : List (Value × List Value)) : Prop := ∀ p ∈ ps, isRd w p.1 p.2 ∧ (∀ cap, p.1 = .slice none 0 cap → cap = 0) ∧ ∀ u ∈ p.2, u.oneCell' = true
theorem PsKOk.new {w w' : World} {ps : List (Value × List Value)} (h : PsKOk w ps) (hk : Keeps w w' (fun _ => False)) : PsKOk w' ps := fun p hp => ⟨(h p hp).1.new hk, (h p hp).2⟩
set_option maxRecDepth 100000 in
set_option maxHeartbeats 2000000 in
theorem concatK_calls (w : World) (sv : Value) (ps : List (Value × List Value)) (hs : isRd w sv (ps.map (·.1))) (hp : PsKOk w ps) (hl : (ps.flatMap (·.2)).length ≤ 1000000) (hpl : ps.length ≤ 1000) :
    Calls Tryz.prog 95 #[sv] w (KidsPost w (ps.flatMap (·.2))) := by
  obtain ⟨ad, cap, rfl, hcap, hrd⟩ := hs
  rw [List.length_map] at hcap ⊢
  obtain ⟨m, hm⟩ : ∃ m, m = ps.length := ⟨_, rfl⟩
  have HM := Lib.hid hm
  rw [← hm] at hcap hpl ⊢
  have HRD : Hid (∀ (q : Nat) p, ps[q]? = some p → ∃ g o, ad = some ⟨g, o, none⟩ ∧ g < w.heap.size ∧ w.cell? ⟨g, o + q, none⟩ = some p.1) := Lib.hid fun q p hq => hrd q p.1 (by rw [List.getElem?_map, hq]; rfl)
  have HPS := Lib.hid hp
  have HL : Hid (∀ q, ((ps.take q).flatMap (·.2)).length ≤ 1000000) := Lib.hid fun q => by
    have h1 : (ps.flatMap (·.2)).length = ((ps.take q).flatMap (·.2)).length + ((ps.drop q).flatMap (·.2)).length := by
      rw [← List.length_append, ← List.flatMap_append, List.take_append_drop]
    omega
  have hmi : (m : Int) ≤ 1000 := by omega
  clear hrd hp hl hm
  go_enter Tryz.func95, Tryz.ntmps95
  go_wp2_with fail
  go_loop [3, 11] (fun v3 v11 => ∃ q s : Nat, q ≤ m ∧ s ≤ 1000000 ∧ v11 = .int .i64 q ∧ v3 = .int .i64 s ∧ Hid (s = ((ps.take q).flatMap (·.2)).length)) (fun _ v11 => m - (intOf v11).toNat)
  case atStart => exact ⟨0, 0, Nat.zero_le _, Nat.zero_le _, rfl, rfl, Lib.hid (by simp)⟩
  case round =>
    obtain ⟨q, s, hq, hs, rfl, rfl, hrel⟩ := hrel
    have hs0 : (0 : Int) ≤ s := by omega
    have hsi : (s : Int) ≤ 1000000 := by omega
    have hq0 : (0 : Int) ≤ q := by omega
    by_cases hlt : q < m
    · as_aux_lemma =>
      have hlb : decide ((q : Int) < (m : Int)) = true := by simp; omega
      have hlbn : decide (q < m) = true := by simp; omega
      have hqm : (q : Int) < m := by omega
      obtain ⟨p, hp⟩ : ∃ p, ps[q]? = some p := ⟨_, List.getElem?_eq_getElem (by have := HM.out; omega)⟩
      obtain ⟨g, o, rfl, _, hc⟩ := HRD.out q p hp
      have hpo := (HPS.out p (List.mem_of_getElem? hp)).1
      have HQ : Hid (s + p.2.length = ((ps.take (q + 1)).flatMap (·.2)).length) := Lib.hid (by rw [List.take_add_one, hp, List.flatMap_append, List.length_append, hrel.out]; simp)
      have hbd : s + p.2.length ≤ 1000000 := by rw [HQ.out]; exact HL.out _
      obtain ⟨pv, pl⟩ := p
      obtain ⟨a2, c2, hpv, _⟩ := hpo
      
      dsimp only at hpv hc hbd HQ
      subst hpv
      obtain ⟨k, hk⟩ : ∃ k, k = pl.length := ⟨_, rfl⟩
      rw [← hk] at hc hbd HQ
      have hbdi : (s : Int) + (k : Int) ≤ 1000000 := by omega
      have hk0 : (0 : Int) ≤ k := by omega
      have hneg : decide ((s : Int) + (k : Int) < 0) = false := by simp; omega
      have HLT := Lib.hid hlt
      have HBD := Lib.hid hbd
      clear hp hk hlt hbd hrel
      go_wp2_with fail
      go_round
      case rel => exact ⟨q + 1, s + k, HLT.out, HBD.out, by go_num, by go_num, HQ⟩
      case measure => have := HLT.out; simp [intOf]; omega
    · as_aux_lemma =>
      obtain rfl : q = m := by omega
      have hlb : decide ((q : Int) < (q : Int)) = false := by simp
      have hlbn : decide (q < q) = false := by simp
      clear hlt hrel
      go_wp2_with fail
      refine (growK_calls w s hs).mono ?_
      rintro e w1 ⟨v1, rfl, ho1, hk1⟩
      have HO1 := Lib.hid ho1
      have HK1 := Lib.hid hk1
      clear ho1 hk1
      go_wp2_with fail
      go_loopw [6, 27] (fun v6 v27 wr => ∃ i : Nat, i ≤ q ∧ v27 = .int .i64 i ∧ Hid (isOwn wr w.heap.size 91 v6 ((ps.take i).flatMap (·.2)) ∧ Keeps w wr (fun _ => False))) (fun _ v27 _ => q - (intOf v27).toNat)
      case atStart => exact ⟨0, Nat.zero_le _, rfl, Lib.hid ⟨by simpa using HO1.out, HK1.out⟩⟩
      case round =>
        obtain ⟨i, hi, rfl, hrel⟩ := hrel
        have hi0 : (0 : Int) ≤ i := by omega
        by_cases hlt : i < q
        · as_aux_lemma =>
          have hlb : decide ((i : Int) < (q : Int)) = true := by simp; omega
          have hlbn : decide (i < q) = true := by simp; omega
          have hiq : (i : Int) < q := by omega
          obtain ⟨p, hp⟩ : ∃ p, ps[i]? = some p := ⟨_, List.getElem?_eq_getElem (by have := HM.out; omega)⟩
          obtain ⟨g, o, rfl, hg, hc⟩ := HRD.out i p hp
          have hc1 := (hrel.out.2.cell (p := ⟨g, o + i, none⟩) hg (fun h => h)).trans hc
          have HPO := Lib.hid (HPS.out p (List.mem_of_getElem? hp))
          have HTK : Hid ((ps.take (i + 1)).flatMap (·.2) = (ps.take i).flatMap (·.2) ++ p.2) := Lib.hid (by rw [List.take_add_one, hp, List.flatMap_append]; simp)
          have HBD := HL.out (i + 1)
          rw [HTK.out, List.length_append] at HBD
          obtain ⟨pv, pl⟩ := p
          dsimp only at hc hc1 HPO HTK HBD
          obtain ⟨va, vc, rfl⟩ := isOwn.shapeN hrel.out.1
          obtain ⟨a2, c2, hpv, _⟩ := HPO.out.1
          (try dsimp only at hpv)
          subst hpv
          have HREL := Lib.hid hrel.out
          have HLT := Lib.hid hlt
          clear hp hlt hrel hc HO1 HK1
          
          go_wp2_with (first
            | (at_builtin; refine wl_appendN rfl _ _ _ rfl 91 _ 8 Tryz.underlying94 infoPtr rfl w.heap.size (.slice va ((ps.take i).flatMap (·.2)).length vc) ((ps.take i).flatMap (·.2)) rfl HREL.out.1 (.slice a2 pl.length c2) pl rfl (HPO.out.1.new HREL.out.2) HPO.out.2.1 HPO.out.2.2 (by unfold maxLen; omega) (by omega) HREL.out.2.size ?_; intro v' w3 hap)
            | fail)
          go_roundw
          case rel => exact ⟨i + 1, HLT.out, by go_num, Lib.hid ⟨by rw [HTK.out]; exact hap.1, HREL.out.2.then hap.2.1 (fun j hj e => by have := (HREL.out.1.blk j e).1; omega)⟩⟩
          case measure => have := HLT.out; simp [intOf]; omega
        · as_aux_lemma =>
          obtain rfl : i = q := by omega
          have hlb : decide ((i : Int) < (i : Int)) = false := by simp
          have hlbn : decide (i < i) = false := by simp
          have HALL : Hid (ps.take i = ps) := Lib.hid (by rw [HM.out, List.take_length])
          have HREL := hrel.out
          rw [HALL.out] at HREL
          have HREL2 := Lib.hid HREL
          clear HREL hrel hlt
          go_wp2_with fail
          go_ret
          exact ⟨_, rfl, HREL2.out.1, HREL2.out.2⟩
end Go.Proofs.YtblpkifkaoaicaaGreat
