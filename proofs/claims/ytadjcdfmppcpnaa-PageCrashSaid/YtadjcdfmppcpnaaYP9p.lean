import Derived.Test.YtadjcdfmppcpnaaQP
/-! Layer 9, plain: PagePlays. -/
namespace Wb
open Go

/-- Which page is wanted, when those from the last down to k + 1 have been looked at. -/
structure WantRel (use : List Bool) (k w : Nat) : Prop where
  lo : k < w
  le : w ≤ use.length
  free : w < use.length → use[w]? = some false
  all : ∀ j, k < j → j < w → use[j]? = some true
theorem want_start {use : List Bool} (h : 2 ≤ use.length) : WantRel use (use.length - 1) use.length := ⟨by omega, Nat.le_refl _, fun h => absurd h (Nat.lt_irrefl _), fun j h1 h2 => by omega⟩
theorem want_free {use : List Bool} {k w : Nat} (h : WantRel use (k + 1) w) (hu : use[k + 1]? = some false) : WantRel use k (k + 1) := ⟨by omega, by have := h.lo; have := h.le; omega, fun _ => hu, fun j h1 h2 => by omega⟩
theorem want_used {use : List Bool} {k w : Nat} (h : WantRel use (k + 1) w) (hu : use[k + 1]? = some true) : WantRel use k w :=
  ⟨by have := h.lo; omega, h.le, h.free, fun j h1 h2 => by
    by_cases hj : j = k + 1
    · rw [hj]; exact hu
    · exact h.all j (by omega) h2⟩

/-- What stands behind i calls. -/
structure PlOk (i : Nat) (use kept : List Bool) (text : List (List UInt8)) (F : Pg) : Prop where
  ss : ∃ ss, FileOk 2000 ss F ∧ ss.length = 8 * use.length ∧ ∀ k, 2 ≤ k → use[k]? = some true → text[k]? = some (pageOf ss k)
  two : 2 ≤ use.length
  len : use.length ≤ 2 + i
  klen : kept.length = use.length
  tlen : text.length = use.length
  used : ∀ k, 2 ≤ k → k < use.length → use[k]? = some (F.used k)
  kept : ∀ k, 2 ≤ k → k < use.length → kept[k]? = some (F.used k && !decide (k ∈ F.fresh))
  fresh : F.fresh.length ≤ i
theorem PlOk.pages {i : Nat} {use kept : List Bool} {text : List (List UInt8)} {F : Pg} (h : PlOk i use kept text F) : pagesOf F.d = use.length := by
  obtain ⟨ss, h1, h2, _⟩ := h.ss
  rw [h1.pages, h2]; omega
theorem PlOk.dead {i : Nat} {use kept : List Bool} {text : List (List UInt8)} {F : Pg} (h : PlOk i use kept text F) : F.dead = false := by
  obtain ⟨ss, h1, h2, _⟩ := h.ss
  exact h1.dead
theorem pl_start : ∃ D', openD (Dv.new 2000) = (D', 0) ∧ openE (Dv.new 2000) = 0 ∧ (openP D').mt = mt1 ∧ PlOk 0 [true, true] [true, true] [[], []] (openP D') := by
  obtain ⟨D', h1, h2, h3⟩ := room_start (m := 2000) (by decide) (by decide)
  obtain ⟨ss, h4, h5⟩ := h3.ok
  refine ⟨D', h1, h2, h3.mt, ⟨⟨ss, h4, by rw [h5]; rfl, fun k hk hu => ?_⟩, by decide, by decide, rfl, rfl, fun k hk hl => ?_, fun k hk hl => ?_, by rw [h3.fresh]; exact Nat.le_refl _⟩⟩
  · exfalso
    have := (List.getElem?_eq_some_iff.1 hu).1
    simp at this; omega
  · simp at hl; omega
  · simp at hl; omega
section
variable {i : Nat} {use kept : List Bool} {text : List (List UInt8)} {F : Pg}
theorem pl_least (h : PlOk i use kept text F) {p w : Nat} (hp : isLeast F p) (hw : WantRel use 1 w) : p = w := by
  obtain ⟨p1, p2, p3⟩ := hp
  have hpg := h.pages
  rcases Nat.lt_trichotomy p w with hlt | he | hgt
  · exfalso
    have h1 := hw.all p (by omega) hlt
    have h2 := hw.le
    have h3 := h.used p p1 (by omega)
    rw [h1] at h3
    rcases p3 with h4 | h4
    · omega
    · rw [h4] at h3; cases h3
  · exact he
  · exfalso
    obtain ⟨h1, h2⟩ := p2 w (by have := hw.lo; omega) hgt
    have h3 := hw.free (by omega)
    rw [h.used w (by have := hw.lo; omega) (by omega), h2] at h3
    cases h3
theorem pl_put (h : PlOk i use kept text F) (b : List UInt8) (hb : b.length ≤ 512) {p : Nat} (hp : isLeast F p) (hi : i < 100) :
    ∃ F2, putP F b p = (F2, 0) ∧ F2.mt = F.mt ∧ p ≤ use.length ∧ (p < use.length → PlOk (i + 1) (use.set p true) kept (text.set p (wholeP b)) F2) ∧
      (p = use.length → PlOk (i + 1) ((use ++ [true]).set p true) (kept ++ [false]) ((text ++ [[]]).set p (wholeP b)) F2) := by
  obtain ⟨ss, h1, h2, h3⟩ := h.ss
  have hpg := h.pages
  have h2' := h.two
  have h3' := h.len
  have h4' := h.klen
  have h5' := h.tlen
  have hp2 := hp.1
  have hle : p ≤ use.length := by
    rcases Nat.lt_or_ge 2 p with h4 | h4
    · have := (hp.2.1 (p - 1) (by omega) (by omega)).1; omega
    · omega
  have hfree : p < use.length → F.used p = false := fun hl => by
    rcases hp.2.2 with h5 | h5
    · omega
    · exact h5
  obtain ⟨D', g1, g2⟩ := nd_put h1.nd b p (by omega) (by omega)
  have hlen := putAt_len (ss := ss) (b := p * 8) (f := pageSec b) (q := 8) (by omega)
  have hfile : FileOk 2000 (putAt ss (p * 8) (pageSec b) 8) { F with d := D', used := fun j => F.used j || decide (j = p), fresh := F.fresh ++ [p] } := by
    refine ⟨g1, by rw [hlen]; have := h1.len; omega, h1.metas.put _ (by omega) (by omega), ?_, h1.dead⟩
    have := h1.mok
    refine ⟨this.ok, this.gen, ?_, this.root', this.count⟩
    rcases this.root with h5 | h5
    · exact .inl h5
    · right; rw [hlen]; show 2 ≤ F.mt.root ∧ F.mt.root < _; omega
  have hpage : ∀ k, k ≠ p → pageOf (putAt ss (p * 8) (pageSec b) 8) k = pageOf ss k := fun k hk => pageOf_far fun j hj1 hj2 => putAt_far (by omega) (by omega)
  have hself := pageOf_put (ss := ss) (id := p) b (by omega) hb
  refine ⟨_, g2, rfl, hle, fun hlt => ?_, fun heq => ?_⟩
  · have hfr := hfree hlt
    refine ⟨⟨_, hfile, by rw [hlen, List.length_set]; omega, fun k hk hu => ?_⟩, by rw [List.length_set]; exact h2', by rw [List.length_set]; omega, by rw [List.length_set]; exact h4', by rw [List.length_set, List.length_set]; exact h5', fun k hk hl => ?_, fun k hk hl => ?_, ?_⟩
    · by_cases hkp : k = p
      · subst hkp
        rw [List.getElem?_set_self (by omega), hself]
      · rw [List.getElem?_set_ne (by omega), hpage k hkp]
        rw [List.getElem?_set_ne (by omega)] at hu
        exact h3 k hk hu
    · rw [List.length_set] at hl
      show _ = some (F.used k || decide (k = p))
      by_cases hkp : k = p
      · subst hkp
        rw [List.getElem?_set_self (by omega)]; simp
      · rw [List.getElem?_set_ne (by omega), h.used k hk hl]; simp [hkp]
    · rw [List.length_set] at hl
      show _ = some ((F.used k || decide (k = p)) && !decide (k ∈ F.fresh ++ [p]))
      rw [h.kept k hk hl]
      by_cases hkp : k = p
      · subst hkp
        simp [hfr]
      · simp [hkp]
    · show (F.fresh ++ [p]).length ≤ _
      rw [List.length_append]; have := h.fresh; simp; omega
  · subst heq
    refine ⟨⟨_, hfile, by rw [hlen, List.length_set, List.length_append]; simp; omega, fun k hk hu => ?_⟩, by rw [List.length_set, List.length_append]; omega, by rw [List.length_set, List.length_append]; simp; omega, by rw [List.length_set, List.length_append, List.length_append]; simp [h4'], by rw [List.length_set, List.length_set, List.length_append, List.length_append]; simp [h5'], fun k hk hl => ?_, fun k hk hl => ?_, ?_⟩
    · by_cases hkp : k = use.length
      · subst hkp
        rw [List.getElem?_set_self (by simp; omega), hself]
      · rw [List.getElem?_set_ne (by omega)] at hu ⊢
        rw [hpage k hkp]
        have hkl := (List.getElem?_eq_some_iff.1 hu).1
        simp at hkl
        rw [List.getElem?_append_left (by omega)] at hu ⊢
        exact h3 k hk hu
    · rw [List.length_set, List.length_append] at hl
      simp at hl
      show _ = some (F.used k || decide (k = use.length))
      by_cases hkp : k = use.length
      · subst hkp
        rw [List.getElem?_set_self (by simp)]; simp
      · rw [List.getElem?_set_ne (by omega), List.getElem?_append_left (by omega), h.used k hk (by omega)]; simp [hkp]
    · rw [List.length_set, List.length_append] at hl
      simp at hl
      show _ = some ((F.used k || decide (k = use.length)) && !decide (k ∈ F.fresh ++ [use.length]))
      by_cases hkp : k = use.length
      · subst hkp
        rw [List.getElem?_append_right (by omega), h4']
        simp
      · rw [List.getElem?_append_left (by omega), h.kept k hk (by omega)]
        simp [hkp]
    · show (F.fresh ++ [use.length]).length ≤ _
      rw [List.length_append]; have := h.fresh; simp; omega

/-- Those that are asked for, up to k. -/
def pickUp (use : List Bool) (want : Nat → Bool) (k : Nat) : List Nat := (List.range k).filter fun j => decide (2 ≤ j) && (use.getD j false && want j)
theorem pickUp_two (use : List Bool) (want : Nat → Bool) : pickUp use want 2 = [] := by simp [pickUp, List.range_succ]
theorem pickUp_succ {use : List Bool} {want : Nat → Bool} {k : Nat} (h2 : 2 ≤ k) {b : Bool} (hu : use[k]? = some b) : pickUp use want (k + 1) = pickUp use want k ++ if (b && want k) = true then [k] else [] := by
  unfold pickUp
  rw [List.range_succ, List.filter_append]
  congr 1
  have : use.getD k false = b := by rw [List.getD_eq_getElem?_getD, hu]; rfl
  simp only [List.filter_cons, List.filter_nil, this, decide_eq_true h2, Bool.true_and]
theorem pickUp_len (use : List Bool) (want : Nat → Bool) (k : Nat) : (pickUp use want k).length ≤ k := by
  have := List.length_filter_le (fun j => decide (2 ≤ j) && (use.getD j false && want j)) (List.range k)
  simpa [pickUp] using this
theorem pickUp_mem {use : List Bool} {want : Nat → Bool} {k j : Nat} (h : j ∈ pickUp use want k) : 2 ≤ j ∧ j < k ∧ use[j]? = some true := by
  unfold pickUp at h
  obtain ⟨h1, h2⟩ := List.mem_filter.1 h
  have h3 := List.mem_range.1 h1
  simp only [Bool.and_eq_true, decide_eq_true_eq] at h2
  refine ⟨h2.1, h3, ?_⟩
  have h4 := h2.2.1
  rw [List.getD_eq_getElem?_getD] at h4
  cases hu : use[j]? with
  | none => rw [hu] at h4; cases h4
  | some b => rw [hu] at h4; simp at h4; rw [h4]
/-- The last of them is the root; nought where there is none. -/
def rootOf (l : List Nat) : Nat := (l.getLast?).getD 0
theorem rootOf_snoc (l : List Nat) (k : Nat) : rootOf (l ++ [k]) = k := by simp [rootOf]
theorem rootOf_mem (l : List Nat) : rootOf l = 0 ∨ rootOf l ∈ l := by
  unfold rootOf
  cases h : l.getLast? with
  | none => left; rfl
  | some x => right; exact List.mem_of_getLast? h
theorem pick_rising {want : Nat → Bool} (h : PlOk i use kept text F) : Rising F ((pickUp use want use.length).map fun (k : Nat) => (k : Int)) := by
  have hs : ((pickUp use want use.length).map fun (k : Nat) => (k : Int)).Pairwise (· < ·) := by
    rw [List.pairwise_map]
    refine List.Pairwise.imp (R := (· < ·)) (fun {a b} hab => by omega) ?_
    unfold pickUp
    exact List.Pairwise.filter _ List.pairwise_lt_range
  intro j x hj
  have hm := List.mem_of_getElem? hj
  obtain ⟨k, hk, rfl⟩ := List.mem_map.1 hm
  obtain ⟨k1, k2, _⟩ := pickUp_mem hk
  refine ⟨?_, fun y h0 hy => ?_⟩
  · unfold isPg
    rw [h.pages]
    simp only [Bool.and_eq_true, decide_eq_true_eq]
    omega
  · obtain ⟨hj1, hj2⟩ := List.getElem?_eq_some_iff.1 hj
    obtain ⟨hy1, hy2⟩ := List.getElem?_eq_some_iff.1 hy
    have := List.pairwise_iff_getElem.1 hs (j - 1) j hy1 hj1 (by omega)
    rw [hy2, hj2] at this
    exact this
/-- Rows that say: just these. -/
def JustThese (l : List Nat) (n : Nat) (use : List Bool) : Prop := use.length = n ∧ ∀ j, 2 ≤ j → j < n → use[j]? = some (decide (j ∈ l))
theorem pl_commit {want : Nat → Bool} (h : PlOk i use kept text F) {mark : Nat} (hm : mark < 2 ^ 64) (hg : F.mt.gen ≤ 1 + i) (hi : i < 100) :
    ∃ D', commitOk F (rootOf (pickUp use want use.length)) (pickUp use want use.length).length ((pickUp use want use.length).map fun (k : Nat) => (k : Int)) ∧
      wrMeta F.d (nextMt F (rootOf (pickUp use want use.length)) (pickUp use want use.length).length mark) = (D', 0) ∧ pagesOf D' = pagesOf F.d ∧
      nextMt F (rootOf (pickUp use want use.length)) (pickUp use want use.length).length mark = ⟨F.mt.gen + 1, rootOf (pickUp use want use.length), (pickUp use want use.length).length, mark⟩ ∧
      ∀ use' kept', JustThese (pickUp use want use.length) use.length use' → JustThese (pickUp use want use.length) use.length kept' →
        PlOk (i + 1) use' kept' text (keepP { F with d := D', mt := nextMt F (rootOf (pickUp use want use.length)) (pickUp use want use.length).length mark } ((pickUp use want use.length).map fun (k : Nat) => (k : Int))) := by
  obtain ⟨ss, h1, h2, h3⟩ := h.ss
  have h2' := h.two
  have h3' := h.len
  have hpl := pickUp_len use want use.length
  have hc : commitOk F (rootOf (pickUp use want use.length)) (pickUp use want use.length).length ((pickUp use want use.length).map fun (k : Nat) => (k : Int)) := by
    refine ⟨pick_rising h, ?_, by omega, by omega⟩
    rcases rootOf_mem (pickUp use want use.length) with h4 | h4
    · left; omega
    · right; exact List.mem_map.2 ⟨_, h4, rfl⟩
  obtain ⟨D', g1, g2, g3⟩ := commit_ok h1 (by rw [h.pages]; omega) hc (by omega) hm
  refine ⟨D', hc, g1, g2, by simp [nextMt], fun use' kept' hu hk => ?_⟩
  obtain ⟨u1, u2⟩ := hu
  obtain ⟨k1, k2⟩ := hk
  refine ⟨⟨_, g3, by rw [List.length_set, u1]; exact h2, fun k hk2 hu => ?_⟩, by rw [u1]; exact h2', by rw [u1]; omega, by rw [k1, u1], by rw [u1]; exact h.tlen, fun k hk2 hl => ?_, fun k hk2 hl => ?_, Nat.zero_le _⟩
  · have hkl : k < use.length := by rw [← u1]; exact (List.getElem?_eq_some_iff.1 hu).1
    rw [u2 k hk2 hkl] at hu
    simp only [Option.some.injEq, decide_eq_true_eq] at hu
    rw [h3 k hk2 (pickUp_mem hu).2.2]
    congr 1
    symm
    exact pageOf_far fun j hj1 hj2 => List.getElem?_set_ne (by have := Nat.mod_lt (nextMt F (rootOf (pickUp use want use.length)) (pickUp use want use.length).length mark).gen (show 0 < 2 by decide); omega)
  · rw [u1] at hl
    rw [u2 k hk2 hl]
    simp only [keepP, keptU, List.mem_map]
    congr 1
    rw [Bool.eq_iff_iff]
    simp only [decide_eq_true_eq]
    constructor
    · intro hh; exact ⟨k, hh, rfl⟩
    · rintro ⟨a, ha, he⟩
      have : a = k := by omega
      rw [← this]; exact ha
  · rw [u1] at hl
    rw [k2 k hk2 hl]
    simp only [keepP, keptU, List.mem_map, List.not_mem_nil, decide_false, Bool.not_false, Bool.and_true]
    congr 1
    rw [Bool.eq_iff_iff]
    simp only [decide_eq_true_eq]
    constructor
    · intro hh; exact ⟨k, hh, rfl⟩
    · rintro ⟨a, ha, he⟩
      have : a = k := by omega
      rw [← this]; exact ha
theorem pl_drop (h : PlOk i use kept text F) : PlOk (i + 1) kept kept text (dropP F) := by
  obtain ⟨ss, h1, h2, h3⟩ := h.ss
  refine ⟨⟨ss, ⟨h1.nd, h1.len, h1.metas, h1.mok, h1.dead⟩, by rw [h.klen]; exact h2, fun k hk hu => ?_⟩, by rw [h.klen]; exact h.two, by rw [h.klen]; have := h.len; omega, rfl, by rw [h.klen]; exact h.tlen, fun k hk hl => ?_, fun k hk hl => ?_, Nat.zero_le _⟩
  · have hkl : k < use.length := by rw [← h.klen]; exact (List.getElem?_eq_some_iff.1 hu).1
    refine h3 k hk ?_
    rw [h.kept k hk hkl] at hu
    rw [h.used k hk hkl]
    simp only [Option.some.injEq, Bool.and_eq_true] at hu
    rw [hu.1]
  · rw [h.klen] at hl
    rw [h.kept k hk hl]; rfl
  · rw [h.klen] at hl
    rw [h.kept k hk hl]
    simp [dropP]
theorem pl_next (h : PlOk i use kept text F) : PlOk (i + 1) use kept text F := ⟨h.ss, h.two, by have := h.len; omega, h.klen, h.tlen, h.used, h.kept, by have := h.fresh; omega⟩
theorem pl_read (h : PlOk i use kept text F) (id : Int) : ∃ l, readP F id = (l, if 2 ≤ id ∧ id < use.length then 0 else 1) ∧ (2 ≤ id → id < use.length → ∃ b, use[id.toNat]? = some b ∧ (b = true → text[id.toNat]? = some l ∧ l ≠ [])) := by
  obtain ⟨ss, h1, h2, h3⟩ := h.ss
  by_cases hc : 2 ≤ id ∧ id < use.length
  · rw [if_pos hc]
    obtain ⟨k, rfl⟩ : ∃ k : Nat, id = k := ⟨id.toNat, by omega⟩
    have hp := nd_page h1.nd (id := k) (by omega) (by omega)
    refine ⟨_, hp, fun a1 a2 => ⟨F.used k, ?_, fun hb => ?_⟩⟩
    · rw [Int.toNat_natCast]; exact h.used k (by omega) (by omega)
    · rw [Int.toNat_natCast]
      refine ⟨h3 k (by omega) (by rw [h.used k (by omega) (by omega), hb]), fun h0 => ?_⟩
      have hr : (readUp F.d (k * 8) 8).2 = 0 := by
        have := hp
        unfold readP at this
        split at this
        · rw [Int.toNat_natCast] at this
          rw [this]
        · simp at this
      have hl := readUp_len hr
      have h5 : (readUp F.d (k * 8) 8).1 = pageOf ss k := by
        have := hp
        unfold readP at this
        split at this
        · rw [Int.toNat_natCast] at this
          rw [this]
        · simp at this
      rw [h5, h0] at hl
      cases hl
  · rw [if_neg hc]
    refine ⟨[], ?_, fun a1 a2 => absurd ⟨a1, a2⟩ hc⟩
    unfold readP
    rw [if_neg]
    unfold isPg
    rw [h.pages]
    simp only [Bool.and_eq_true, decide_eq_true_eq]
    exact hc
end
end Wb
