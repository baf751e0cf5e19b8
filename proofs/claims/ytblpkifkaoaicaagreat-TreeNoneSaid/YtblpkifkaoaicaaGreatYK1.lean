import Derived.Test.YtblpkifkaoaicaaGreatYO2
import Derived.Test.YtblpkifkaoaicaaGreatQH
import Derived.Test.YtblpkifkaoaicaaGreatQU
/-! Package octs: octets that are read, whether all are there or not. -/
namespace Go.Proofs.YtblpkifkaoaicaaGreat
open Go Go.RowKit Go.Maps Wb

/-- Octets that are read, at block b; the octets lie in blocks that are ok. -/
def inS (w : World) (b : Nat) (ok : Nat → Prop) (s : Ins) : Prop :=
  ∃ sv, isIn w b sv s.2 ∧ ((sv = .slice none 0 0 ∧ s.1 = []) ∨ ∃ g o cap, sv = .slice (some ⟨g, o, none⟩) s.1.length cap ∧ ok g ∧ g < w.heap.size ∧ s.1.length ≤ cap ∧ cap ≤ 9223372036854775807 ∧ ∀ j x, (octs s.1)[j]? = some x → w.cell? ⟨g, o + j, none⟩ = some x)
theorem inS.kept {w w' : World} {b : Nat} {ok S : Nat → Prop} {s : Ins} (h : inS w b ok s) (hk : Keeps w w' S) (hb : ¬ S b) (hS : ∀ i, ok i → ¬ S i) : inS w' b ok s := by
  obtain ⟨sv, h1, h2⟩ := h
  refine ⟨sv, hk.blk h1 hb, h2.imp id ?_⟩
  rintro ⟨g, o, cap, e, k1, k2, k3, k4, k5⟩
  exact ⟨g, o, cap, e, k1, Nat.lt_of_lt_of_le k2 hk.size, k3, k4, fun j x hj => (hk.cell (p := ⟨g, o + j, none⟩) k2 (hS g k1)).trans (k5 j x hj)⟩
theorem inS.new {w w' : World} {b : Nat} {ok : Nat → Prop} {s : Ins} (h : inS w b ok s) (hk : Keeps w w' (fun _ => False)) : inS w' b ok s := h.kept hk id (fun _ _ => id)
def TakeG (w : World) (b : Nat) (ok : Nat → Prop) (r : List UInt8 × Ins) (e : Ending) (w' : World) : Prop :=
  ∃ v', e = .returned v' ∧ isOwn w' w.heap.size 5 v' (octs r.1) ∧ inS w' b ok r.2 ∧ Keeps w w' (· = b)
theorem takeI_bad {s : Ins} {n : Nat} (h : s.2 = true ∨ s.1.length < n) : takeI s n = ([], ([], true)) := by unfold takeI; rw [if_pos h]
theorem takeI_ok {s : Ins} {n : Nat} (h1 : s.2 = false) (h2 : n ≤ s.1.length) : takeI s n = (s.1.take n, (s.1.drop n, false)) := by unfold takeI; rw [if_neg (by rw [h1]; simp; omega)]
theorem in_bad_post {w' : World} {b : Nat} {ok : Nat → Prop} {A : Array Value} (hb : w'.heap[b]? = some (.cells A 198 (0, 0))) (hA : A = #[.slice none 0 0, .bool true]) : inS w' b ok ([], true) := by
  subst hA
  exact ⟨_, hb, .inl ⟨rfl, rfl⟩⟩

theorem rd_take {w : World} {g o n cap : Nat} {l : List UInt8} (hc : l.length ≤ cap) (hn : n ≤ l.length) (hg : g < w.heap.size) (hcell : ∀ j x, (octs l)[j]? = some x → w.cell? ⟨g, o + j, none⟩ = some x) : isRd w (.slice (some ⟨g, o, none⟩) n cap) (octs (l.take n)) := by
  have hl : (octs (l.take n)).length = n := by rw [octs_len, List.length_take]; omega
  refine ⟨some ⟨g, o, none⟩, cap, by rw [hl], by rw [hl]; omega, fun j x hj => ?_⟩
  have hjn : j < n := by rw [← hl]; exact (List.getElem?_eq_some_iff.1 hj).1
  rw [octs_take, List.getElem?_take_of_lt hjn] at hj
  exact ⟨g, o, rfl, hg, hcell j x hj⟩
set_option maxRecDepth 100000 in
set_option maxHeartbeats 2000000 in
theorem takeG_calls (w : World) (b : Nat) (ok : Nat → Prop) (s : Ins) (n : Nat) (hs : inS w b ok s) (hok : ∀ i, ok i → i ≠ b) (hl : s.1.length ≤ 1000000) (hn : n < 2 ^ 64) :
    Calls Tryz.prog 121 #[.pointer (some ⟨b, 0, none⟩), .int .u64 n] w (TakeG w b ok (takeI s n)) := by
  obtain ⟨l, bad⟩ := s
  obtain ⟨sv, hi, hv⟩ := hs
  simp only at hi hv hl
  have hli : (l.length : Int) ≤ 1000000 := by omega
  have hn0 : (0 : Int) ≤ n := by omega
  have hni : (n : Int) < 18446744073709551616 := by omega
  obtain ⟨a, cap, hsv, hac⟩ : ∃ a cap, sv = .slice a l.length cap ∧ (a = none → cap = 0 ∧ l = []) := by
    rcases hv with ⟨rfl, rfl⟩ | ⟨g, o, cap, rfl, _⟩
    · exact ⟨none, 0, rfl, fun _ => ⟨rfl, rfl⟩⟩
    · exact ⟨_, cap, rfl, fun e => by cases e⟩
  have HI := Lib.hid hi
  have HV := Lib.hid hv
  have HAC := Lib.hid hac
  subst hsv
  have c0 : w.cell? ⟨b, 0, none⟩ = some (.slice a l.length cap) := by rw [cell_of_block HI.out]; rfl
  have c1 : w.cell? ⟨b, 1, none⟩ = some (.bool bad) := by rw [cell_of_block HI.out]; rfl
  have f0 : w.frozen? ⟨b, 0, none⟩ = false := free_of_block HI.out 0
  have f1 : w.frozen? ⟨b, 1, none⟩ = false := free_of_block HI.out 1
  clear hi hv hac
  by_cases hbad : bad = true ∨ l.length < n
  · as_aux_lemma =>
    have HR := Lib.hid (takeI_bad (s := (l, bad)) hbad)
    have hc : (bad = true) ∨ (bad = false ∧ decide ((l.length : Int) < (n : Int)) = true ∧ decide (l.length < n) = true) := by
      cases bad
      · right; simp at hbad; exact ⟨rfl, by simp; omega, by simpa using hbad⟩
      · exact .inl rfl
    clear hbad
    rcases hc with rfl | ⟨rfl, h1, h2⟩
    all_goals
      go_enter Tryz.func121, Tryz.ntmps121
      go_wp2
      go_ret
      rw [HR.out]
      have hb1 := blk_setCell HI.out 0 (.slice none 0 0)
      have hb2 := blk_setCell hb1 1 (.bool true)
      exact ⟨_, rfl, isOwn_nil _ _ _, in_bad_post hb2 rfl, keeps_cells2 w b 0 1 _ _⟩
  · have hb0 : bad = false := by simpa using fun e => hbad (.inl e)
    subst hb0
    have hnl : n ≤ l.length := by have := fun e => hbad (.inr e); omega
    have HR := Lib.hid (takeI_ok (s := (l, false)) rfl hnl)
    have hltb : decide (l.length < n) = false := decide_eq_false (by omega)
    have hlti : decide ((l.length : Int) < (n : Int)) = false := decide_eq_false (by omega)
    have hnli : (n : Int) ≤ l.length := by omega
    clear hbad
    cases ha : a with
    | none =>
      as_aux_lemma =>
      obtain ⟨rfl, rfl⟩ := HAC.out ha
      subst ha
      obtain rfl : n = 0 := by simp at hnl; exact hnl
      go_enter Tryz.func121, Tryz.ntmps121
      go_wp2_with fail
      refine (clone_calls _ (.slice none 0 0) [] ⟨none, 0, rfl, Nat.le_refl _, fun j x hj => by cases hj⟩ (by decide) (fun _ h => by injection h with _ _ h; exact h.symm)).mono ?_
      rintro e w1 ⟨v1, rfl, ho1, hk1⟩
      have HI1 := hk1.blk HI.out id
      have d0 : w1.cell? ⟨b, 0, none⟩ = some (.slice none 0 0) := by rw [cell_of_block HI1]; rfl
      have df : w1.frozen? ⟨b, 0, none⟩ = false := free_of_block HI1 0
      have HH := Lib.hid HI1
      have HK1 := Lib.hid hk1
      have HO1 := Lib.hid ho1
      clear HI1 c0 c1 f0 f1 hk1 ho1
      go_wp2
      go_ret
      rw [HR.out]
      have hb2 := blk_setCell HH.out 0
      refine ⟨_, rfl, HO1.out.kept (keeps_cell w1 b 0 _) (fun i hi e => ?_), ⟨_, hb2 _, .inl ⟨rfl, rfl⟩⟩, (HK1.out.mono (fun _ _ h => h.elim)).trans (keeps_cell w1 b 0 _)⟩
      have := (HO1.out.blk i hi).1
      have := lt_of_blk HI.out
      omega
    | some ad =>
      obtain ⟨g, o, he, hgok, hglt, hc1, hc2, hc3⟩ : ∃ g o, ad = ⟨g, o, none⟩ ∧ ok g ∧ g < w.heap.size ∧ l.length ≤ cap ∧ cap ≤ 9223372036854775807 ∧ ∀ j x, (octs l)[j]? = some x → w.cell? ⟨g, o + j, none⟩ = some x := by
        rcases HV.out with ⟨h, _⟩ | ⟨g, o, cap', h, h2⟩
        · rw [ha] at h; cases h
        · rw [ha] at h
          injection h with e1 e2 e3
          injection e1 with e1
          subst e3
          exact ⟨g, o, e1, h2⟩
      subst he ha
      have HT : Hid (isRd w (.slice (some ⟨g, o, none⟩) n cap) (octs (l.take n))) := Lib.hid (rd_take hc1 hnl hglt hc3)
      have hcl : (l.length : Int) ≤ cap := by omega
      have hgb : g ≠ b := hok g hgok
      have hncap : (n : Int) ≤ cap := by omega
      have hncapn : n ≤ cap := by omega
      have HC3 := Lib.hid hc3
      have HG := Lib.hid (And.intro hgok hglt)
      have HC12 := Lib.hid (And.intro hc1 hc2)
      clear HV hc3
      have post : ∀ (ad' : Addr) (w1 : World) (v1 : Value), (n < cap → ad' = ⟨g, o + n, none⟩) → (n = cap → ad' = ⟨g, o, none⟩) → isIn w1 b (.slice (some ⟨g, o, none⟩) l.length cap) false → Keeps w w1 (fun _ => False) → isOwn w1 w.heap.size 5 v1 (octs (l.take n)) →
          TakeG w b ok (takeI (l, false) n) (.returned v1) (w1.setCell ⟨b, 0, none⟩ (.slice (some ad') (l.length - n) (cap - n))) := by
        intro ad' w1 v1 h1 h2 hi1 hk1 ho1
        rw [HR.out]
        have hb2 := blk_setCell hi1 0 (.slice (some ad') (l.length - n) (cap - n))
        refine ⟨_, rfl, ho1.kept (keeps_cell w1 b 0 _) (fun i hi e => ?_), ⟨_, hb2, .inr ?_⟩, (hk1.mono (fun _ _ h => h.elim)).trans (keeps_cell w1 b 0 _)⟩
        · have := (ho1.blk i hi).1
          have := lt_of_blk HI.out
          omega
        · have hdl : (l.drop n).length = l.length - n := List.length_drop
          have hsz : ∀ u, w.heap.size ≤ (w1.setCell ⟨b, 0, none⟩ u).heap.size := by
            intro u
            have := hk1.size
            simpa [World.setCell] using this
          have h12 := HC12.out
          rcases Nat.lt_or_ge n cap with hlt | hge
          · have e9 := h1 hlt
            subst e9
            refine ⟨g, o + n, cap - n, by rw [hdl], HG.out.1, Nat.lt_of_lt_of_le HG.out.2 (hsz _), by show (l.drop n).length ≤ cap - n; omega, by omega, fun j x hj => ?_⟩
            rw [octs_drop, List.getElem?_drop] at hj
            have h3 := HC3.out (n + j) x hj
            have h4 := Keeps.cellK hk1 h3
            have h5 := (keeps_cell w1 b 0 (.slice (some ⟨g, o + n, none⟩) (l.length - n) (cap - n))).cell (p := ⟨g, o + (n + j), none⟩) (cell_ltK h4) hgb
            rw [← Nat.add_assoc] at h4 h5
            exact h5.trans h4
          · obtain rfl : n = cap := by omega
            have e9 := h2 rfl
            subst e9
            refine ⟨g, o, n - n, by rw [hdl], HG.out.1, Nat.lt_of_lt_of_le HG.out.2 (hsz _), by show (l.drop n).length ≤ n - n; omega, by omega, fun j x hj => ?_⟩
            rw [List.drop_eq_nil_of_le (by omega)] at hj
            cases hj
      have HP := Lib.hid post
      clear post HC3 HG HC12 HAC
      rcases Nat.eq_or_lt_of_le hncapn with hcn | hcn
      · as_aux_lemma =>
        subst hcn
        go_enter Tryz.func121, Tryz.ntmps121
        go_wp2_with fail
        refine (clone_calls _ _ (l.take n) HT.out (Nat.le_trans (List.length_take_le _ _) (by omega)) (fun _ h => by cases h)).mono ?_
        rintro e w1 ⟨v1, rfl, ho1, hk1⟩
        have HI1 := hk1.blk HI.out id
        have d0 : w1.cell? ⟨b, 0, none⟩ = some (.slice (some ⟨g, o, none⟩) l.length n) := by rw [cell_of_block HI1]; rfl
        have df : w1.frozen? ⟨b, 0, none⟩ = false := free_of_block HI1 0
        have HH := Lib.hid HI1
        have HK1 := Lib.hid hk1
        have HO1 := Lib.hid ho1
        clear HI1 c0 c1 f0 f1 hk1 ho1
        go_wp2
        go_ret
        have := HP.out ⟨g, o, none⟩ w1 v1 (fun h => absurd h (Nat.lt_irrefl _)) (fun _ => rfl) HH.out HK1.out HO1.out
        rw [Nat.sub_self, show l.length - n = 0 by omega] at this
        exact this
      · as_aux_lemma =>
        have hne : ¬ cap = n := by omega
        have hltc : (n : Int) < cap := by omega
        go_enter Tryz.func121, Tryz.ntmps121
        go_wp2_with fail
        refine (clone_calls _ _ (l.take n) HT.out (Nat.le_trans (List.length_take_le _ _) (by omega)) (fun _ h => by cases h)).mono ?_
        rintro e w1 ⟨v1, rfl, ho1, hk1⟩
        have HI1 := hk1.blk HI.out id
        have d0 : w1.cell? ⟨b, 0, none⟩ = some (.slice (some ⟨g, o, none⟩) l.length cap) := by rw [cell_of_block HI1]; rfl
        have df : w1.frozen? ⟨b, 0, none⟩ = false := free_of_block HI1 0
        have HH := Lib.hid HI1
        have HK1 := Lib.hid hk1
        have HO1 := Lib.hid ho1
        clear HI1 c0 c1 f0 f1 hk1 ho1
        go_wp2
        go_ret
        exact HP.out ⟨g, o + n, none⟩ w1 v1 (fun _ => rfl) (fun h => absurd h (by omega)) HH.out HK1.out HO1.out
end Go.Proofs.YtblpkifkaoaicaaGreat
