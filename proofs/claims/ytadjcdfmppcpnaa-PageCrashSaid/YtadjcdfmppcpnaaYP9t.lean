import Derived.Test.YtadjcdfmppcpnaaQP
/-! Layer 9, plain: sorting; PageTwice. -/
namespace Wb
open Go

/-! ### an insertion sort, swap by swap -/
/-- The first i stand sorted, but that the one at k may be too small for its place. -/
def InsOk (xs : List Int) (i k : Nat) : Prop :=
  k ≤ i ∧ i < xs.length ∧ (∀ a b x y, a < b → b ≤ i → a ≠ k → b ≠ k → xs[a]? = some x → xs[b]? = some y → x ≤ y) ∧ (∀ b x y, k < b → b ≤ i → xs[k]? = some x → xs[b]? = some y → x ≤ y)
def SortedTo (xs : List Int) (i : Nat) : Prop := ∀ a b x y, a < b → b < i → xs[a]? = some x → xs[b]? = some y → x ≤ y
theorem sortedTo_one (xs : List Int) : SortedTo xs 1 := fun a b x y h1 h2 _ _ => by omega
theorem ins_start {xs : List Int} {i : Nat} (h : SortedTo xs i) (hi : i < xs.length) : InsOk xs i i :=
  ⟨Nat.le_refl _, hi, fun a b x y h1 h2 h3 h4 h5 h6 => h a b x y h1 (by omega) h5 h6, fun b x y h1 h2 => by omega⟩
theorem ins_done {xs : List Int} {i k : Nat} (h : InsOk xs i k) (hend : k = 0 ∨ ∃ x y, xs[k - 1]? = some x ∧ xs[k]? = some y ∧ x ≤ y) : SortedTo xs (i + 1) := by
  obtain ⟨h1, h2, h3, h4⟩ := h
  intro a b x y hab hb hx hy
  by_cases hak : a = k
  · subst hak; exact h4 b x y hab (by omega) hx hy
  · by_cases hbk : b = k
    · subst hbk
      rcases hend with h | ⟨u, v, hu, hv, huv⟩
      · omega
      · rw [hv] at hy; cases hy
        by_cases ha : a = b - 1
        · subst ha; rw [hu] at hx; cases hx; exact huv
        · have := h3 a (b - 1) x u (by omega) (by omega) hak (by omega) hx hu
          omega
    · exact h3 a b x y hab (by omega) hak hbk hx hy
def swapL (xs : List Int) (k : Nat) (x y : Int) : List Int := (xs.set (k - 1) y).set k x
theorem ins_swap {xs : List Int} {i k : Nat} {x y : Int} (h : InsOk xs i k) (hk : 0 < k) (hx : xs[k - 1]? = some x) (hy : xs[k]? = some y) (hyx : y < x) : InsOk (swapL xs k x y) i (k - 1) := by
  obtain ⟨h1, h2, h3, h4⟩ := h
  have hg : ∀ j, (swapL xs k x y)[j]? = if j = k then some x else if j = k - 1 then some y else xs[j]? := by
    intro j
    unfold swapL
    rw [List.getElem?_set, List.getElem?_set]
    by_cases e1 : k = j
    · subst e1; simp; omega
    · rw [if_neg e1, if_neg (show ¬ j = k by omega)]
      by_cases e2 : k - 1 = j
      · subst e2; simp; omega
      · rw [if_neg e2, if_neg (show ¬ j = k - 1 by omega)]
  refine ⟨by omega, by simpa [swapL] using h2, ?_, ?_⟩
  · intro a b u v hab hb ha hb' hu hv
    rw [hg] at hu hv
    rw [if_neg ha] at hu
    rw [if_neg hb'] at hv
    by_cases hak : a = k
    · rw [if_pos hak] at hu; cases hu
      rw [if_neg (by omega)] at hv
      exact h3 (k - 1) b x v (by omega) hb (by omega) (by omega) hx hv
    · rw [if_neg hak] at hu
      by_cases hbk : b = k
      · rw [if_pos hbk] at hv; cases hv
        exact h3 a (k - 1) u x (by omega) (by omega) hak (by omega) hu hx
      · rw [if_neg hbk] at hv
        exact h3 a b u v hab hb hak hbk hu hv
  · intro b u v hab hb hu hv
    rw [hg] at hu hv
    rw [if_neg (by omega), if_pos rfl] at hu
    cases hu
    by_cases hbk : b = k
    · rw [if_pos hbk] at hv; cases hv; omega
    · rw [if_neg hbk, if_neg (by omega)] at hv
      exact h4 b y v (by omega) hb hy hv
theorem set_perm (xs : List Int) (a b : Nat) (x y : Int) (hab : a < b) (hx : xs[a]? = some x) (hy : xs[b]? = some y) : ((xs.set a y).set b x).Perm xs := by
  induction xs generalizing a b with
  | nil => simp at hx
  | cons c r ih =>
    cases a with
    | zero =>
      cases b with
      | zero => omega
      | succ b =>
        simp only [List.getElem?_cons_zero, Option.some.injEq] at hx
        subst hx
        simp only [List.getElem?_cons_succ] at hy
        simp only [List.set_cons_zero, List.set_cons_succ]
        have hb : b < r.length := (List.getElem?_eq_some_iff.1 hy).1
        have hsplit : r = r.take b ++ y :: r.drop (b + 1) := by
          have := List.drop_eq_getElem_cons hb
          rw [(List.getElem?_eq_some_iff.1 hy).2] at this
          rw [← this, List.take_append_drop]
        have hset : r.set b c = r.take b ++ c :: r.drop (b + 1) := by
          rw [List.set_eq_take_append_cons_drop, if_pos hb]
        rw [hset]
        have h1 : (y :: (r.take b ++ c :: r.drop (b + 1))).Perm (y :: c :: (r.take b ++ r.drop (b + 1))) := List.Perm.cons _ List.perm_middle
        have h2 : (c :: r).Perm (c :: y :: (r.take b ++ r.drop (b + 1))) := by
          refine List.Perm.cons _ ?_
          conv => lhs; rw [hsplit]
          exact List.perm_middle
        exact (h1.trans (List.Perm.swap _ _ _)).trans h2.symm
    | succ a =>
      cases b with
      | zero => omega
      | succ b =>
        simp only [List.getElem?_cons_succ] at hx hy
        simp only [List.set_cons_succ]
        exact List.Perm.cons _ (ih a b (by omega) hx hy)
theorem swap_perm {xs : List Int} {k : Nat} {x y : Int} (hk : 0 < k) (hx : xs[k - 1]? = some x) (hy : xs[k]? = some y) : (swapL xs k x y).Perm xs := set_perm xs (k - 1) k x y (by omega) hx hy
theorem swap_len (xs : List Int) (k : Nat) (x y : Int) : (swapL xs k x y).length = xs.length := by simp [swapL]

/-! ### PageTwice -/
structure TwOk (L : Nat) (ids news : List Nat) (F : Pg) : Prop where
  ok : ∃ ss, FileOk 3000 ss F ∧ ss.length ≤ L ∧ ss.length % 8 = 0
  used : ∀ k, F.used k = decide (k ∈ ids ∨ k ∈ news)
  rng : ∀ k, k ∈ ids ∨ k ∈ news → 2 ≤ k ∧ k < pagesOf F.d
  nodup : news.Nodup
  fresh : F.fresh.length = news.length
theorem tw_start : ∃ D', openD (Dv.new 3000) = (D', 0) ∧ openE (Dv.new 3000) = 0 ∧ TwOk 16 [] [] (openP D') ∧ (openP D').mt = mt1 := by
  obtain ⟨D', h1, h2, h3⟩ := room_start (m := 3000) (by decide) (by decide)
  obtain ⟨ss, h4, h5⟩ := h3.ok
  refine ⟨D', h1, h2, ⟨⟨ss, h4, by omega, by omega⟩, fun k => ?_, fun k hk => by simp at hk, List.nodup_nil, rfl⟩, h3.mt⟩
  rw [h3.used]
  simp
theorem tw_put {L : Nat} {ids news : List Nat} {F : Pg} (h : TwOk L ids news F) (b : List UInt8) {r : Nat} (hr : isLeast F r) (hL : L + 8 ≤ 3000) : ∃ F2, putP F b r = (F2, 0) ∧ F2.dead = false ∧ F2.mt = F.mt ∧ TwOk (L + 8) ids (news ++ [r]) F2 := by
  obtain ⟨ss, h1, h2, h3⟩ := h.ok
  have hp := h1.pages
  have hl := free_least h1 hr
  have hle : r ≤ pagesOf F.d := by
    rcases Nat.lt_or_ge 2 r with h4 | h4
    · have := (hr.2.1 (r - 1) (by omega) (by omega)).1; omega
    · have := hr.1; have := h1.len; omega
  have hnot : ¬ (r ∈ ids ∨ r ∈ news) := by
    intro hm
    have h4 := h.rng r hm
    rcases hr.2.2 with h5 | h5
    · omega
    · rw [h.used] at h5; simp at h5; rcases hm with h6 | h6
      · exact h5.1 h6
      · exact h5.2 h6
  obtain ⟨D', g1, g2⟩ := nd_put h1.nd b r (by omega) (by omega)
  have hlen := putAt_len (ss := ss) (b := r * 8) (f := pageSec b) (q := 8) (by omega)
  have hpg : pagesOf D' = (max (r * 8 + 8) ss.length) / 8 := by unfold pagesOf; rw [nd_len g1, hlen]
  have hge : pagesOf F.d ≤ pagesOf D' := by omega
  refine ⟨_, g2, h1.dead, rfl, ⟨⟨_, ⟨g1, by rw [hlen]; have := h1.len; omega, h1.metas.put _ (by omega) (by omega), ?_, h1.dead⟩, by rw [hlen]; omega, by rw [hlen]; omega⟩, fun k => ?_, fun k hk => ?_, ?_, ?_⟩⟩
  · have := h1.mok
    refine ⟨this.ok, this.gen, ?_, this.root', this.count⟩
    rcases this.root with h5 | h5
    · exact .inl h5
    · right; rw [hlen]; show 2 ≤ F.mt.root ∧ F.mt.root < _; omega
  · show (F.used k || decide (k = r)) = _
    rw [h.used, Bool.eq_iff_iff]
    simp only [Bool.or_eq_true, decide_eq_true_eq, List.mem_append, List.mem_singleton]
    constructor
    · rintro ((h5 | h5) | h5)
      · exact .inl h5
      · exact .inr (.inl h5)
      · exact .inr (.inr h5)
    · rintro (h5 | (h5 | h5))
      · exact .inl (.inl h5)
      · exact .inl (.inr h5)
      · exact .inr h5
  · show 2 ≤ k ∧ k < pagesOf D'
    rcases hk with h5 | h5
    · have := h.rng k (.inl h5); omega
    · rcases List.mem_append.1 h5 with h6 | h6
      · have := h.rng k (.inr h6); omega
      · rw [List.mem_singleton.1 h6]; have := hr.1; omega
  · rw [List.nodup_append]
    refine ⟨h.nodup, by simp, fun a ha b hb e => ?_⟩
    rw [List.mem_singleton.1 hb] at e
    exact hnot (.inr (e ▸ ha))
  · show (F.fresh ++ [r]).length = _
    rw [List.length_append, List.length_append, h.fresh]
theorem rising_sorted {F : Pg} {xs : List Int} (hs : SortedTo xs xs.length) (hn : xs.Nodup) (hr : ∀ x ∈ xs, isPg F x = true) : Rising F xs := by
  intro j x hj
  refine ⟨hr x (List.mem_of_getElem? hj), fun y h0 hy => ?_⟩
  have hjl := (List.getElem?_eq_some_iff.1 hj).1
  have h1 := hs (j - 1) j y x (by omega) hjl hy hj
  rcases Int.lt_or_eq_of_le h1 with h2 | h2
  · exact h2
  · exfalso
    subst h2
    obtain ⟨hy1, hy2⟩ := List.getElem?_eq_some_iff.1 hy
    obtain ⟨hj1, hj2⟩ := List.getElem?_eq_some_iff.1 hj
    exact List.pairwise_iff_getElem.1 hn (j - 1) j hy1 hj1 (by omega) (by rw [hy2, hj2])
theorem nodup_ints {l : List Nat} (h : l.Nodup) : (l.map fun (k : Nat) => (k : Int)).Nodup := by
  unfold List.Nodup at *
  rw [List.pairwise_map]
  exact h.imp fun {a b} hab e => hab (by omega)
/-- The commit of what was put. -/
theorem tw_commit {L : Nat} {ids news : List Nat} {F : Pg} (h : TwOk L ids news F) (hL : L ≤ 3000) {xs : List Int} (hp : xs.Perm (news.map fun (k : Nat) => (k : Int))) (hs : SortedTo xs xs.length) {root : Int} (hroot : xs[0]? = some root) {i : Nat} (hi : i < 100) (hgen : F.mt.gen = i + 1) :
    ∃ D', wrMeta F.d (nextMt F root i i) = (D', 0) ∧ pagesOf D' = pagesOf F.d ∧ commitOk F root i xs ∧ F.mt.gen + 1 < 2 ^ 64 ∧ F.dead = false ∧ (keepP { F with d := D', mt := nextMt F root i i } xs).mt.gen = i + 2 ∧
      ∃ ids2 : List Nat, xs = ids2.map (fun (k : Nat) => (k : Int)) ∧ ids2.Nodup ∧ TwOk L ids2 [] (keepP { F with d := D', mt := nextMt F root i i } xs) := by
  obtain ⟨ss, h1, h2, h3⟩ := h.ok
  have hpg := h1.pages
  have hmem : ∀ x ∈ xs, ∃ k : Nat, x = k ∧ k ∈ news := fun x hx => by
    have := hp.mem_iff.1 hx
    obtain ⟨k, hk, rfl⟩ := List.mem_map.1 this
    exact ⟨k, rfl, hk⟩
  have hn : xs.Nodup := hp.nodup_iff.2 (nodup_ints h.nodup)
  have hris : Rising F xs := rising_sorted hs hn fun x hx => by
    obtain ⟨k, rfl, hk⟩ := hmem x hx
    have := h.rng k (.inr hk)
    unfold isPg
    simp only [Bool.and_eq_true, decide_eq_true_eq]
    omega
  have hc : commitOk F root i xs := ⟨hris, .inr (List.mem_of_getElem? hroot), by omega, by omega⟩
  obtain ⟨D', g1, g2, g3⟩ := commit_ok (mark := i) h1 (by omega) hc (by rw [hgen]; omega) (by omega)
  have hids : xs = (xs.map Int.toNat).map (fun (k : Nat) => (k : Int)) := by
    rw [List.map_map]
    conv => lhs; rw [← List.map_id xs]
    apply List.map_congr_left
    intro x hx
    obtain ⟨k, rfl, _⟩ := hmem x hx
    simp
  refine ⟨D', g1, g2, hc, by rw [hgen]; omega, h1.dead, by show F.mt.gen + 1 = i + 2; rw [hgen], xs.map Int.toNat, hids, ?_, ⟨⟨_, g3, by rw [List.length_set]; exact h2, by rw [List.length_set]; exact h3⟩, fun k => ?_, fun k hk => ?_, List.nodup_nil, rfl⟩⟩
  · have : (xs.map Int.toNat).Nodup := by
      rw [hids] at hn
      unfold List.Nodup at *
      rw [List.pairwise_map] at hn
      exact hn.imp fun {a b} hab e => hab (by rw [e])
    exact this
  · show keptU xs k = _
    unfold keptU
    rw [Bool.eq_iff_iff]
    simp only [decide_eq_true_eq, List.not_mem_nil, or_false]
    rw [List.mem_map]
    constructor
    · intro hk; exact ⟨_, hk, by simp⟩
    · rintro ⟨x, hx, hxk⟩
      obtain ⟨k', rfl, _⟩ := hmem x hx
      simp at hxk; subst hxk; exact hx
  · rcases hk with hk | hk
    · obtain ⟨x, hx, hxk⟩ := List.mem_map.1 hk
      obtain ⟨k', rfl, hk'⟩ := hmem x hx
      simp at hxk; subst hxk
      have := h.rng k' (.inr hk')
      show 2 ≤ k' ∧ k' < pagesOf D'
      omega
    · simp at hk
/-- What is opened anew. -/
theorem tw_open {L : Nat} {ids : List Nat} {F : Pg} (h : TwOk L ids [] F) (hn : ids.Nodup) : ∃ D', openD F.d = (D', 0) ∧ openE F.d = 0 ∧ (openP D').mt = F.mt ∧ pagesOf D' = pagesOf F.d ∧ freeOf (openP D') = [] ∧
    Rising (openP D') (ids.map fun (k : Nat) => (k : Int)) = Rising F (ids.map fun (k : Nat) => (k : Int)) ∧
    freeOf (keepP (openP D') (ids.map fun (k : Nat) => (k : Int))) = freeOf F ∧ (freeOf F).length + ids.length + 2 = pagesOf F.d ∧
    (∀ k ∈ ids, (readP F k).2 = 0 ∧ readP (keepP (openP D') (ids.map fun (k : Nat) => (k : Int))) k = readP F k ∧ (readP F k).1.length = 512) := by
  obtain ⟨ss, h1, h2, h3⟩ := h.ok
  obtain ⟨D', g1, g2⟩ := nd_open h1.nd
  have hpF := h1.pages
  have hp : pagesOf D' = ss.length / 8 := by unfold pagesOf; rw [nd_len g2]
  have hok : MtOk F.mt (pagesOf D') := by rw [hp]; exact h1.mok
  refine ⟨D', g1, openE_ok g1 g2 h1.metas hok h1.len, best_of g2 h1.metas hok, by rw [hp, hpF], ?_, ?_, ?_, ?_, ?_⟩
  · unfold freeOf freeUpTo
    rw [List.filter_eq_nil_iff]
    intro k hk
    have hk' : k < pagesOf D' := List.mem_range.1 hk
    show ¬ (decide (2 ≤ k) && !decide (2 ≤ k ∧ k < pagesOf D')) = true
    simp; omega
  · apply propext
    exact ⟨fun hr => rising_pages (F2 := F) (by show pagesOf F.d = pagesOf D'; rw [hp, hpF]) hr, fun hr => rising_pages (by show pagesOf D' = pagesOf F.d; rw [hp, hpF]) hr⟩
  · unfold freeOf freeUpTo
    have e : pagesOf (keepP (openP D') (ids.map fun (k : Nat) => (k : Int))).d = pagesOf F.d := by show pagesOf D' = _; rw [hp, hpF]
    rw [e]
    apply List.filter_congr
    intro k _
    have : (keepP (openP D') (ids.map fun (k : Nat) => (k : Int))).used k = F.used k := by
      show keptU _ k = _
      rw [h.used]
      unfold keptU
      rw [Bool.eq_iff_iff]
      simp only [decide_eq_true_eq, List.not_mem_nil, or_false, List.mem_map]
      constructor
      · rintro ⟨j, hj, hjk⟩
        have : j = k := by omega
        exact this ▸ hj
      · intro hk; exact ⟨k, hk, rfl⟩
    rw [this]
  · have hcount : ∀ p, (∀ k ∈ ids, 2 ≤ k ∧ k < p) → ((List.range p).filter fun j => decide (2 ≤ j) && !F.used j).length + ids.length + 2 = max p 2 := by
      intro p hrng
      have h4 : ((List.range p).filter fun j => decide (j ∈ ids)).length = ids.length := by
        refine ((List.perm_ext_iff_of_nodup (List.nodup_range.filter _) hn).2 fun k => ?_).length_eq
        rw [List.mem_filter, List.mem_range]
        simp only [decide_eq_true_eq]
        exact ⟨fun hh => hh.2, fun hh => ⟨(hrng k hh).2, hh⟩⟩
      have h5 : ∀ l : List Nat, (l.filter fun j => decide (2 ≤ j)).length = (l.filter fun j => decide (2 ≤ j) && !F.used j).length + (l.filter fun j => decide (j ∈ ids)).length := by
        intro l
        induction l with
        | nil => rfl
        | cons a r ih =>
          simp only [List.filter_cons]
          have hu : F.used a = decide (a ∈ ids) := by rw [h.used]; simp
          by_cases ha : a ∈ ids
          · have := (hrng a ha).1
            simp [hu, ha, this, ih]; omega
          · by_cases h2a : 2 ≤ a
            · simp [hu, ha, h2a, ih]; omega
            · simp [hu, ha, h2a, ih]
      have h6 : ((List.range p).filter fun j => decide (2 ≤ j)).length = p - 2 := by
        rcases Nat.lt_or_ge p 2 with h7 | h7
        · rw [List.filter_eq_nil_iff.2 (fun k hk => by have := List.mem_range.1 hk; simp; omega)]; simp; omega
        · have := filter_ge (p - 2)
          rw [show 2 + (p - 2) = p by omega] at this
          exact this
      have h7 := h5 (List.range p)
      omega
    have hp2 : 2 ≤ pagesOf F.d := by have := h1.len; omega
    have := hcount (pagesOf F.d) (fun k hk => h.rng k (.inl hk))
    unfold freeOf freeUpTo
    omega
  · intro k hk
    have hk2 := h.rng k (.inl hk)
    have r1 := nd_page h1.nd hk2.1 (by omega)
    have r2 := nd_page (F := keepP (openP D') (ids.map fun (k : Nat) => (k : Int))) g2 hk2.1 (by omega)
    refine ⟨by rw [r1], by rw [r1, r2], ?_⟩
    have h0 : (readP F k).2 = 0 := by rw [r1]
    unfold readP at h0 ⊢
    have hpg : isPg F k = true := by unfold isPg; simp only [Bool.and_eq_true, decide_eq_true_eq]; omega
    rw [if_pos hpg] at h0 ⊢
    rw [readUp_len h0]
end Wb
