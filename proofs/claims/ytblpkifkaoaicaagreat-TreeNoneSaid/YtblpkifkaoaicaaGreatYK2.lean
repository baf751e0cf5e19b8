import Derived.Test.YtblpkifkaoaicaaGreatYK1
/-! Package octs: In.Int, In.measured, In.Short, In.Ok, In.Rest; Short. -/
namespace Go.Proofs.YtblpkifkaoaicaaGreat
open Go Go.RowKit Go.Maps Wb

theorem run_strT {w : World} {v : Value} {l : List UInt8} (h : isRd w v (octs l)) : (convert 36 9 v).run Tryz.prog w = .ok (.string (bs l)) w := by
  by_cases h0 : l = []
  · subst h0
    obtain ⟨a, cap, rfl, _, _⟩ := h
    rw [show (octs []).length = 0 from rfl, run_convert_bytes_string w 36 9 5 a 0 cap Tryz.underlying36 Tryz.underlying5 Tryz.underlying9]
    cases a <;> simp [Conv.bytesToString, loadCells]
    all_goals rfl
  · exact run_string h h0
theorem takeI_len (s : Ins) (n : Nat) : (takeI s n).1.length ≤ s.1.length ∧ (takeI s n).2.1.length ≤ s.1.length := by
  unfold takeI
  split
  · simp
  · simp only [List.length_take, List.length_drop]; omega
theorem intI_len (s : Ins) (n : Nat) : (intI s n).2.1.length ≤ s.1.length := (takeI_len s n).2
theorem measI_len (s : Ins) (n : Nat) : (measI s n).1.length ≤ s.1.length ∧ (measI s n).2.1.length ≤ s.1.length := by
  unfold measI
  split
  · exact takeI_len s n
  · split
    · simp
    · have := takeI_len (s.1.drop n, false) (num (s.1.take n))
      simp only [List.length_drop] at this
      omega
def IntG (w : World) (b : Nat) (ok : Nat → Prop) (r : Nat × Ins) (e : Ending) (w' : World) : Prop := e = .returned (.int .u64 r.1) ∧ inS w' b ok r.2 ∧ Keeps w w' (· = b)
set_option maxRecDepth 100000 in
set_option maxHeartbeats 1000000 in
theorem intG_calls (w : World) (b : Nat) (ok : Nat → Prop) (s : Ins) (n : Nat) (hs : inS w b ok s) (hok : ∀ i, ok i → i ≠ b) (hl : s.1.length ≤ 1000000) (h1 : 1 ≤ n) (h8 : n ≤ 8) :
    Calls Tryz.prog 86 #[.pointer (some ⟨b, 0, none⟩), .int .i64 n] w (IntG w b ok (intI s n)) := by
  have hn1 : (1 : Int) ≤ n := by omega
  have hn8 : (n : Int) ≤ 8 := by omega
  go_enter Tryz.func86, Tryz.ntmps86
  go_wp2_with fail
  refine (width_calls _ n hn1 hn8).mono ?_
  rintro e w2 ⟨rfl, rfl⟩
  go_wp2_with fail
  refine (takeG_calls _ b ok s n hs hok hl (by omega)).mono ?_
  rintro e w3 ⟨v3, rfl, ho3, hi3, hk3⟩
  go_wp2_with fail
  refine (number_calls _ v3 (takeI s n).1 ho3.rd (Nat.le_trans (takeI_len s n).1 hl)).mono ?_
  rintro e w4 ⟨rfl, rfl⟩
  go_wp2
  go_ret
  exact ⟨rfl, hi3, hk3⟩
set_option maxRecDepth 100000 in
theorem okG_calls (w : World) (b : Nat) (ok : Nat → Prop) (s : Ins) (hs : inS w b ok s) : Calls Tryz.prog 123 #[.pointer (some ⟨b, 0, none⟩)] w fun e w' => e = .returned (.bool (!s.2)) ∧ w = w' := by
  obtain ⟨sv, hi, _⟩ := hs
  have c1 : w.cell? ⟨b, 1, none⟩ = some (.bool s.2) := by rw [cell_of_block hi]; rfl
  go_enter Tryz.func123, Tryz.ntmps123
  go_wp2
  go_ret
  exact ⟨rfl, rfl⟩
set_option maxRecDepth 100000 in
set_option maxHeartbeats 1000000 in
theorem restG_calls (w : World) (b : Nat) (ok : Nat → Prop) (s : Ins) (hs : inS w b ok s) (hok : ∀ i, ok i → i ≠ b) (hl : s.1.length ≤ 1000000) :
    Calls Tryz.prog 125 #[.pointer (some ⟨b, 0, none⟩)] w (TakeG w b ok (takeI s s.1.length)) := by
  have HS := Lib.hid hs
  obtain ⟨sv, hi, hv⟩ := hs
  obtain ⟨a, cap, rfl⟩ : ∃ a cap, sv = .slice a s.1.length cap := by
    rcases hv with ⟨rfl, h⟩ | ⟨g, o, cap, rfl, _⟩
    · exact ⟨none, 0, by rw [h]; rfl⟩
    · exact ⟨_, cap, rfl⟩
  have c0 : w.cell? ⟨b, 0, none⟩ = some (.slice a s.1.length cap) := by rw [cell_of_block hi]; rfl
  have hli : (s.1.length : Int) ≤ 1000000 := by omega
  clear hv hi
  go_enter Tryz.func125, Tryz.ntmps125
  go_wp2_with fail
  refine (takeG_calls _ b ok s s.1.length HS.out hok hl (by omega)).mono ?_
  rintro e w3 ⟨v3, rfl, ho3, hi3, hk3⟩
  go_wp2
  go_ret
  exact ⟨_, rfl, ho3, hi3, hk3⟩
/-- What is left behind n octets. -/
theorem in_adv {w w1 : World} {b : Nat} {ok : Nat → Prop} {l : List UInt8} {g o cap n : Nat} {ad : Addr} (hc : l.length ≤ cap) (hc2 : cap ≤ 9223372036854775807) (hn : n ≤ l.length) (hg : ok g) (hgl : g < w.heap.size) (hgb : g ≠ b) (hcell : ∀ j x, (octs l)[j]? = some x → w.cell? ⟨g, o + j, none⟩ = some x)
    (h1 : n < cap → ad = ⟨g, o + n, none⟩) (h2 : n = cap → ad = ⟨g, o, none⟩) (hb : w1.heap[b]? = some (.cells #[.slice (some ad) (l.length - n) (cap - n), .bool false] 198 (0, 0))) (hk : Keeps w w1 (· = b)) : inS w1 b ok (l.drop n, false) := by
  have hdl : (l.drop n).length = l.length - n := List.length_drop
  refine ⟨_, hb, .inr ?_⟩
  rcases Nat.lt_or_ge n cap with hlt | hge
  · have e9 := h1 hlt
    subst e9
    refine ⟨g, o + n, cap - n, by rw [hdl], hg, Nat.lt_of_lt_of_le hgl hk.size, by show (l.drop n).length ≤ cap - n; omega, by omega, fun j x hj => ?_⟩
    rw [octs_drop, List.getElem?_drop] at hj
    have h3 := hcell (n + j) x hj
    rw [← Nat.add_assoc] at h3
    exact (hk.cell (p := ⟨g, o + n + j, none⟩) hgl hgb).trans h3
  · obtain rfl : n = cap := by omega
    have e9 := h2 rfl
    subst e9
    refine ⟨g, o, n - n, by rw [hdl], hg, Nat.lt_of_lt_of_le hgl hk.size, by show (l.drop n).length ≤ n - n; omega, by omega, fun j x hj => ?_⟩
    rw [List.drop_eq_nil_of_le (by omega)] at hj
    cases hj
theorem measI_bad {s : Ins} {n : Nat} (h : s.2 = true ∨ s.1.length < n) : measI s n = takeI s n := by unfold measI; rw [if_pos h]
theorem measI_far {l : List UInt8} {n : Nat} (h : n ≤ l.length) (h2 : l.length - n < num (l.take n)) : measI (l, false) n = ([], ([], true)) := by unfold measI; rw [if_neg (by simp; omega), if_pos h2]
theorem measI_ok {l : List UInt8} {n : Nat} (h : n ≤ l.length) (h2 : ¬ l.length - n < num (l.take n)) : measI (l, false) n = takeI (l.drop n, false) (num (l.take n)) := by unfold measI; rw [if_neg (by simp; omega), if_neg h2]

set_option maxRecDepth 100000 in
set_option maxHeartbeats 4000000 in
theorem measG_calls (w : World) (b : Nat) (ok : Nat → Prop) (s : Ins) (n : Nat) (hs : inS w b ok s) (hok : ∀ i, ok i → i ≠ b) (hl : s.1.length ≤ 1000000) (h1 : 1 ≤ n) (h8 : n ≤ 8) :
    Calls Tryz.prog 146 #[.pointer (some ⟨b, 0, none⟩), .int .i64 n] w (TakeG w b ok (measI s n)) := by
  have HS := Lib.hid hs
  obtain ⟨l, bad⟩ := s
  obtain ⟨sv, hi, hv⟩ := hs
  simp only at hi hv hl
  have hli : (l.length : Int) ≤ 1000000 := by omega
  have hn1 : (1 : Int) ≤ n := by omega
  have hn8 : (n : Int) ≤ 8 := by omega
  obtain ⟨a, cap, hsv, hac⟩ : ∃ a cap, sv = .slice a l.length cap ∧ (a = none → l = []) := by
    rcases hv with ⟨rfl, rfl⟩ | ⟨g, o, cap, rfl, _⟩
    · exact ⟨none, 0, rfl, fun _ => rfl⟩
    · exact ⟨_, cap, rfl, fun e => by cases e⟩
  have HI := Lib.hid hi
  have HV := Lib.hid hv
  have HAC := Lib.hid hac
  subst hsv
  have c0 : w.cell? ⟨b, 0, none⟩ = some (.slice a l.length cap) := by rw [cell_of_block HI.out]; rfl
  have c1 : w.cell? ⟨b, 1, none⟩ = some (.bool bad) := by rw [cell_of_block HI.out]; rfl
  have f0 : w.frozen? ⟨b, 0, none⟩ = false := free_of_block HI.out 0
  have f1 : w.frozen? ⟨b, 1, none⟩ = false := free_of_block HI.out 1
  clear hi hv hac
  by_cases hbad : bad = true ∨ l.length < n
  · as_aux_lemma =>
    have HR := Lib.hid (measI_bad (s := (l, bad)) hbad)
    have hc : (bad = true) ∨ (bad = false ∧ decide ((l.length : Int) < (n : Int)) = true ∧ decide (l.length < n) = true) := by
      cases bad
      · right; simp at hbad; exact ⟨rfl, by simp; omega, by simpa using hbad⟩
      · exact .inl rfl
    clear hbad
    rcases hc with rfl | ⟨rfl, h1, h2⟩
    all_goals
      go_enter Tryz.func146, Tryz.ntmps146
      go_wp2_with fail
      refine (takeG_calls _ b ok _ n HS.out hok hl (by omega)).mono ?_
      rintro e w3 ⟨v3, rfl, ho3, hi3, hk3⟩
      go_wp2
      go_ret
      rw [HR.out]
      exact ⟨_, rfl, ho3, hi3, hk3⟩
  · have hb0 : bad = false := by simpa using fun e => hbad (.inl e)
    subst hb0
    have hnl : n ≤ l.length := by have := fun e => hbad (.inr e); omega
    have hltb : decide (l.length < n) = false := decide_eq_false (by omega)
    have hlti : decide ((l.length : Int) < (n : Int)) = false := decide_eq_false (by omega)
    have hnli : (n : Int) ≤ l.length := by omega
    clear hbad
    obtain ⟨g, o, rfl, hgok, hglt, hc1, hc2, hc3⟩ : ∃ g o, a = some ⟨g, o, none⟩ ∧ ok g ∧ g < w.heap.size ∧ l.length ≤ cap ∧ cap ≤ 9223372036854775807 ∧ ∀ j x, (octs l)[j]? = some x → w.cell? ⟨g, o + j, none⟩ = some x := by
      rcases HV.out with ⟨h, h0⟩ | ⟨g, o, cap', h, h2⟩
      · exfalso; have h9 : l = [] := h0; rw [h9] at hnl; simp at hnl; omega
      · injection h with e1 e2 e3
        subst e3
        exact ⟨g, o, e1, h2⟩
    have HT : Hid (isRd w (.slice (some ⟨g, o, none⟩) n cap) (octs (l.take n))) := Lib.hid (rd_take hc1 hnl hglt hc3)
    have hgb : g ≠ b := hok g hgok
    have HADV : Hid (∀ (ad : Addr) (w1 : World), (n < cap → ad = ⟨g, o + n, none⟩) → (n = cap → ad = ⟨g, o, none⟩) → w1.heap[b]? = some (.cells #[.slice (some ad) (l.length - n) (cap - n), .bool false] 198 (0, 0)) → Keeps w w1 (· = b) → inS w1 b ok (l.drop n, false)) :=
      Lib.hid fun ad w1 => in_adv hc1 hc2 hnl hgok hglt hgb hc3
    have hcl : (l.length : Int) ≤ cap := by omega
    have hncap : (n : Int) ≤ cap := by omega
    have hncapn : n ≤ cap := by omega
    obtain ⟨long, hlong⟩ : ∃ long, long = num (l.take n) := ⟨_, rfl⟩
    have HLONG := Lib.hid hlong
    have hlg : long < 2 ^ 64 := by rw [hlong]; exact num_lt _
    have hlgi : (long : Int) < 18446744073709551616 := by omega
    have hlg0 : (0 : Int) ≤ long := by omega
    have hsubw : IntKind.u64.wrap ((l.length : Int) - (n : Int)) = (l.length : Int) - (n : Int) := by rw [wrap_u64]; omega
    clear HV hc3 hgok hglt hlong HAC
    go_enter Tryz.func146, Tryz.ntmps146
    go_wp2_with fail
    refine (number_calls _ _ (l.take n) HT.out (Nat.le_trans (List.length_take_le _ _) (by omega))).mono ?_
    rintro e w2 ⟨rfl, hw2⟩
    subst hw2
    rw [← HLONG.out]
    by_cases hfar : l.length - n < long
    · as_aux_lemma =>
      have HR := Lib.hid (measI_far hnl (by rw [← HLONG.out]; exact hfar))
      have hfb : decide ((l.length : Int) - (n : Int) < (long : Int)) = true := decide_eq_true (by omega)
      clear hfar
      go_wp2
      go_ret
      rw [HR.out]
      have hb1 := blk_setCell HI.out 0 (.slice none 0 0)
      have hb2 := blk_setCell hb1 1 (.bool true)
      exact ⟨_, rfl, isOwn_nil _ _ _, in_bad_post hb2 rfl, keeps_cells2 w b 0 1 _ _⟩
    · have HR := Lib.hid (measI_ok hnl (by rw [← HLONG.out]; exact hfar))
      have hfb : decide ((l.length : Int) - (n : Int) < (long : Int)) = false := decide_eq_false (by omega)
      clear hfar
      rcases Nat.eq_or_lt_of_le hncapn with hcn | hcn
      · as_aux_lemma =>
        have hcc : cap = n := hcn.symm
        clear hcn
        go_wp2_with fail
        refine (takeG_calls _ b ok (l.drop n, false) long (HADV.out ⟨g, o, none⟩ _ (fun h => absurd h (by omega)) (fun _ => rfl) (by rw [hcc, Nat.sub_self]; exact blk_setCell HI.out 0 _) (keeps_cell w b 0 _)) hok (by show (l.drop n).length ≤ _; rw [List.length_drop]; omega) hlg).mono ?_
        rintro e w3 ⟨v3, rfl, ho3, hi3, hk3⟩
        go_wp2
        go_ret
        rw [HR.out, ← HLONG.out]
        exact ⟨_, rfl, ho3.low (keeps_cell w b 0 _).size, hi3, (keeps_cell w b 0 _).trans hk3⟩
      · as_aux_lemma =>
        have hne : ¬ cap = n := by omega
        have hltc : (n : Int) < cap := by omega
        go_wp2_with fail
        refine (takeG_calls _ b ok (l.drop n, false) long (HADV.out ⟨g, o + n, none⟩ _ (fun _ => rfl) (fun h => absurd h (by omega)) (blk_setCell HI.out 0 _) (keeps_cell w b 0 _)) hok (by show (l.drop n).length ≤ _; rw [List.length_drop]; omega) hlg).mono ?_
        rintro e w3 ⟨v3, rfl, ho3, hi3, hk3⟩
        go_wp2
        go_ret
        rw [HR.out, ← HLONG.out]
        exact ⟨_, rfl, ho3.low (keeps_cell w b 0 _).size, hi3, (keeps_cell w b 0 _).trans hk3⟩
def ShortG (w : World) (b : Nat) (ok : Nat → Prop) (r : List UInt8 × Ins) (e : Ending) (w' : World) : Prop := e = .returned (.string (bs r.1)) ∧ inS w' b ok r.2 ∧ Keeps w w' (· = b)
set_option maxRecDepth 100000 in
set_option maxHeartbeats 1000000 in
theorem shortG_calls (w : World) (b : Nat) (ok : Nat → Prop) (s : Ins) (hs : inS w b ok s) (hok : ∀ i, ok i → i ≠ b) (hl : s.1.length ≤ 1000000) :
    Calls Tryz.prog 124 #[.pointer (some ⟨b, 0, none⟩)] w (ShortG w b ok (measI s 1)) := by
  go_enter Tryz.func124, Tryz.ntmps124
  go_wp2_with fail
  refine (measG_calls _ b ok s 1 hs hok hl (by decide) (by decide)).mono ?_
  rintro e w3 ⟨v3, rfl, ho3, hi3, hk3⟩
  have s3 := run_strT ho3.rd
  go_wp2
  go_ret
  exact ⟨rfl, hi3, hk3⟩
end Go.Proofs.YtblpkifkaoaicaaGreat
