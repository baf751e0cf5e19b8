import Derived.Test.YtadjcdfmppcpnaaYP9t
/-! Layer 9, plain: PageCrash. -/
namespace Wb
open Go

/-! ### a device with the one file, whatever its fuse -/
def fusF (fu : Int) (l : List Cell) : Dv := ⟨3000, fu, [([112], l)]⟩
theorem fus_get (fu : Int) (l : List Cell) : fget (fusF fu l).files [112] = some l := one_get _ l
theorem fus_cells (fu : Int) (l : List Cell) : (fusF fu l).cells [112] = l := by unfold Dv.cells; rw [fus_get]; rfl
theorem fus_len (fu : Int) (l : List Cell) : (fusF fu l).len [112] = l.length := by unfold Dv.len; rw [fus_cells]
theorem fus_thr (fu : Int) (l : List Cell) : (fusF fu l).thr [112] = if fu = 0 then 8 else 0 := by
  unfold Dv.thr
  rw [fus_get]
  rfl
theorem fus_pages (fu : Int) (l : List Cell) : pagesOf (fusF fu l) = l.length / 8 := by unfold pagesOf; rw [fus_len]
theorem fus_set (fu : Int) (l v : List Cell) : ({ fusF fu l with files := fset (fusF fu l).files [112] v } : Dv).done = fusF (if 0 < fu then fu - 1 else fu) v := by
  unfold Dv.done fusF
  simp only [one_set]
theorem fus_read (fu : Int) (l : List Cell) {k : Nat} {c : Cell} (h : l[k]? = some c) : (fusF fu l).read [112] (k : Int) = if c.nowBad then (Sec.zero, 7) else (c.now, 0) := by
  have hl := (List.getElem?_eq_some_iff.1 h).1
  unfold Dv.read
  rw [fus_get]
  simp only
  rw [if_neg (by omega), Int.toNat_natCast, h]
def wrC (l : List Cell) (k : Nat) (s : Sec) : List Cell := if k = l.length then l ++ [Cell.zero.write s] else l.modify k (·.write s)
def syC (l : List Cell) : List Cell := l.map fun (c : Cell) => if c.fresh then c.lasts else c
theorem fus_write (fu : Int) (l : List Cell) {k : Nat} (s : Sec) (hk : k ≤ l.length) (hm : l.length < 3000) :
    (fu = 0 ∧ (fusF fu l).write [112] (k : Int) s = (fusF fu l, 8)) ∨ (fu ≠ 0 ∧ (fusF fu l).write [112] (k : Int) s = (fusF (if 0 < fu then fu - 1 else fu) (wrC l k s), 0)) := by
  by_cases hf : fu = 0
  · left
    refine ⟨hf, ?_⟩
    unfold Dv.write
    rw [fus_thr, if_pos hf, if_pos (by decide)]
  · right
    refine ⟨hf, ?_⟩
    unfold Dv.write
    rw [fus_thr, if_neg hf, if_neg (by simp), fus_len, if_neg (by omega), fus_cells]
    unfold wrC
    by_cases h1 : k = l.length
    · rw [if_pos (by omega), if_neg (by show ¬ 3000 ≤ used [([112], l)]; rw [one_used]; omega), if_pos h1, fus_set]
    · rw [if_neg (by omega), if_neg h1, Int.toNat_natCast, fus_set]
theorem fus_sync (fu : Int) (l : List Cell) : (fu = 0 ∧ (fusF fu l).sync [112] = (fusF fu l, 8)) ∨ (fu ≠ 0 ∧ (fusF fu l).sync [112] = (fusF (if 0 < fu then fu - 1 else fu) (syC l), 0)) := by
  by_cases hf : fu = 0
  · left
    refine ⟨hf, ?_⟩
    unfold Dv.sync
    rw [fus_thr, if_pos hf, if_pos (by decide)]
  · right
    refine ⟨hf, ?_⟩
    unfold Dv.sync
    rw [fus_thr, if_neg hf, if_neg (by simp), fus_cells, fus_set]
    rfl
theorem fus_crash (fu : Int) (l : List Cell) (pick : List Int) : (fusF fu l).crash pick = fusF (-1) (trim (crashCells l pick).1) := rfl

/-! ### cells -/
/-- What lasts of a cell that is not fresh is what it reads. -/
def cellOk (c : Cell) : Prop := c.fresh = false → c.last = c.now ∧ c.lastBad = c.nowBad ∧ c.there = true
def CrAt (l : List Cell) (k : Nat) (s : Sec) : Prop := ∃ c, l[k]? = some c ∧ c.fresh = false ∧ c.nowBad = false ∧ c.now = s
def CrNow (l : List Cell) (k : Nat) (s : Sec) : Prop := ∃ c, l[k]? = some c ∧ c.nowBad = false ∧ c.now = s
theorem CrAt.now {l : List Cell} {k : Nat} {s : Sec} (h : CrAt l k s) : CrNow l k s := by
  obtain ⟨c, h1, h2, h3, h4⟩ := h
  exact ⟨c, h1, h3, h4⟩
theorem CrNow.lt {l : List Cell} {k : Nat} {s : Sec} (h : CrNow l k s) : k < l.length := by
  obtain ⟨c, h1, _⟩ := h
  exact (List.getElem?_eq_some_iff.1 h1).1
theorem CrNow.read {l : List Cell} {k : Nat} {s : Sec} (h : CrNow l k s) (fu : Int) : (fusF fu l).read [112] (k : Int) = (s, 0) := by
  obtain ⟨c, h1, h2, h3⟩ := h
  rw [fus_read fu l h1, h2, h3]
  rfl
theorem wrC_get {l : List Cell} {k : Nat} (s : Sec) {j : Nat} (hj : j ≠ k) : (wrC l k s)[j]? = l[j]? := by
  unfold wrC
  split
  · rename_i h
    rcases Nat.lt_or_ge j l.length with h1 | h1
    · rw [List.getElem?_append_left h1]
    · rw [List.getElem?_eq_none (by simp; omega), List.getElem?_eq_none h1]
  · rw [List.getElem?_modify]
    have hkj : ¬ k = j := fun h => hj h.symm
    cases l[j]? <;> simp [hkj]
theorem wrC_self {l : List Cell} {k : Nat} (s : Sec) (hk : k ≤ l.length) : (wrC l k s)[k]? = some ((l[k]?.getD Cell.zero).write s) := by
  unfold wrC
  split
  · rename_i h
    subst h
    rw [List.getElem?_append_right (Nat.le_refl _), List.getElem?_eq_none (Nat.le_refl _)]
    simp
  · rename_i h
    rw [List.getElem?_modify, List.getElem?_eq_getElem (by omega)]
    simp
theorem wrC_len {l : List Cell} {k : Nat} (s : Sec) (hk : k ≤ l.length) : (wrC l k s).length = max (k + 1) l.length := by
  unfold wrC
  split
  · simp; omega
  · rw [List.length_modify]; omega
theorem wrC_ok {l : List Cell} {k : Nat} (s : Sec) (h : ∀ c ∈ l, cellOk c) : ∀ c ∈ wrC l k s, cellOk c := by
  intro c hc
  obtain ⟨j, hj⟩ := List.mem_iff_getElem?.1 hc
  by_cases hjk : j = k
  · subst hjk
    have hk : j ≤ l.length := by
      have h1 := (List.getElem?_eq_some_iff.1 hj).1
      unfold wrC at h1
      split at h1
      · omega
      · rw [List.length_modify] at h1; omega
    rw [wrC_self s hk] at hj
    cases hj
    intro hf
    cases hf
  · rw [wrC_get s hjk] at hj
    exact h c (List.mem_of_getElem? hj)
theorem CrAt.wr {l : List Cell} {j k : Nat} {s s2 : Sec} (h : CrAt l j s) (hj : j ≠ k) : CrAt (wrC l k s2) j s := by
  obtain ⟨c, h1, h2⟩ := h
  exact ⟨c, by rw [wrC_get s2 hj]; exact h1, h2⟩
theorem CrNow.wr {l : List Cell} {j k : Nat} {s s2 : Sec} (h : CrNow l j s) (hj : j ≠ k) : CrNow (wrC l k s2) j s := by
  obtain ⟨c, h1, h2⟩ := h
  exact ⟨c, by rw [wrC_get s2 hj]; exact h1, h2⟩
theorem CrNow.self {l : List Cell} {k : Nat} (s : Sec) (hk : k ≤ l.length) : CrNow (wrC l k s) k s := ⟨_, wrC_self s hk, rfl, rfl⟩
theorem syC_len (l : List Cell) : (syC l).length = l.length := by simp [syC]
theorem syC_get (l : List Cell) (k : Nat) : (syC l)[k]? = l[k]?.map fun (c : Cell) => if c.fresh then c.lasts else c := by unfold syC; rw [List.getElem?_map]
theorem CrNow.sync {l : List Cell} {k : Nat} {s : Sec} (h : CrNow l k s) : CrAt (syC l) k s := by
  obtain ⟨c, h1, h2, h3⟩ := h
  refine ⟨if c.fresh then c.lasts else c, by rw [syC_get, h1]; rfl, ?_⟩
  cases hf : c.fresh with
  | true => rw [if_pos rfl]; exact ⟨rfl, h2, h3⟩
  | false => rw [if_neg (by simp)]; exact ⟨hf, h2, h3⟩
theorem syC_ok {l : List Cell} (h : ∀ c ∈ l, cellOk c) : ∀ c ∈ syC l, cellOk c := by
  intro c hc
  obtain ⟨c0, h0, rfl⟩ := List.mem_map.1 hc
  split
  · intro _; exact ⟨rfl, rfl, rfl⟩
  · exact h c0 h0
theorem endOf_lt {xs : List (Cell × Bool)} : ∀ {k : Nat} {x : Cell × Bool}, xs[k]? = some x → x.2 = true → k < endOf xs := by
  induction xs with
  | nil => intro k x h; simp at h
  | cons y r ih =>
    intro k x h hx
    simp only [endOf]
    cases k with
    | zero =>
      simp only [List.getElem?_cons_zero, Option.some.injEq] at h
      subst h
      split
      · omega
      · exact Nat.zero_lt_one
    | succ k =>
      simp only [List.getElem?_cons_succ] at h
      have := ih h hx
      rw [if_pos (by omega)]
      omega
/-- A cell that is there behind the crash, whatever is picked. -/
theorem crash_way {c : Cell} (h : c.fresh = true) (p : List Int) : ∃ way, (crashC c p).1 = fallC c way := by
  unfold crashC
  rw [if_pos h]
  exact ⟨_, rfl⟩
theorem crash_there {l : List Cell} {pick : List Int} {k : Nat} {c : Cell} (h : l[k]? = some c) (ht : ∀ p, (crashC c p).1.2 = true) : ∃ p, (trim (crashCells l pick).1)[k]? = some (crashC c p).1.1.lasts := by
  have h1 := crashCells_get l pick k
  rw [h, Option.map_some] at h1
  have h2 := endOf_lt h1 (ht _)
  refine ⟨pick.drop (freshN (l.take k)), ?_⟩
  rw [trim_get _ _ h2, h1, Option.map_some]
  unfold outC
  rw [if_pos (ht _)]
theorem CrAt.crash {l : List Cell} {k : Nat} {s : Sec} (h : CrAt l k s) (pick : List Int) : CrNow (trim (crashCells l pick).1) k s := by
  obtain ⟨c, h1, h2, h3, h4⟩ := h
  have hc : ∀ p, (crashC c p).1 = (c, true) := by
    intro p
    unfold crashC
    rw [h2]
    rfl
  obtain ⟨p, hp⟩ := crash_there (pick := pick) h1 (fun p => by rw [hc])
  rw [hc] at hp
  exact ⟨_, hp, h3, h4⟩

/-! ### what is safe -/
def CrPages (P : Nat → Sec → Prop) (ids : List Nat) (texts : List (List UInt8)) : Prop :=
  texts.length = ids.length ∧ ∀ (j : Nat) id, ids[j]? = some id → 2 ≤ id ∧ ∃ b, texts[j]? = some (wholeP b) ∧ b.length ≤ 512 ∧ ∀ q, q < 8 → P (id * 8 + q) (pageSec b q)
theorem CrPages.mono {P Q : Nat → Sec → Prop} {ids : List Nat} {texts : List (List UInt8)} (h : CrPages P ids texts) (hpq : ∀ k s, 16 ≤ k → P k s → Q k s) : CrPages Q ids texts :=
  ⟨h.1, fun j id hj => by
    obtain ⟨h1, b, h2, h3, h4⟩ := h.2 j id hj
    exact ⟨h1, b, h2, h3, fun q hq => hpq _ _ (by omega) (h4 q hq)⟩⟩
theorem CrPages.nil (P : Nat → Sec → Prop) : CrPages P [] [] := ⟨rfl, fun j id h => by simp at h⟩
/-- What is older than a meta. -/
def Older (m : Mt) (s : Sec) : Prop := s = Sec.zero ∨ ∃ m', m'.ok ∧ s = metaS m' ∧ m'.gen < m.gen
structure CrMt (m : Mt) (ids : List Nat) : Prop where
  ok : m.ok
  gen : m.gen ≠ 0
  root : m.root = 0 ∨ m.root ∈ ids
  root' : m.root ≤ 4611686018427387904
  count : m.count ≤ 4611686018427387904
structure Safe (l : List Cell) (m : Mt) (ids : List Nat) (texts : List (List UInt8)) : Prop where
  ok : ∀ c ∈ l, cellOk c
  mt : CrAt l (m.gen % 2 * 8) (metaS m)
  oth : ∃ s, CrAt l ((m.gen + 1) % 2 * 8) s ∧ Older m s
  last : ∃ s, CrAt l 15 s
  pages : CrPages (CrAt l) ids texts
  mok : CrMt m ids
/-- What stands behind a crash. -/
structure Good (l : List Cell) (m : Mt) (ids : List Nat) (texts : List (List UInt8)) : Prop where
  mt : CrNow l (m.gen % 2 * 8) (metaS m)
  oth : ∃ c, l[(m.gen + 1) % 2 * 8]? = some c ∧ (c.nowBad = true ∨ Older m c.now)
  len : 16 ≤ l.length
  pages : CrPages (CrNow l) ids texts
  mok : CrMt m ids
theorem Safe.crash {l : List Cell} {m : Mt} {ids : List Nat} {texts : List (List UInt8)} (h : Safe l m ids texts) (pick : List Int) : Good (trim (crashCells l pick).1) m ids texts := by
  obtain ⟨s, h1, h2⟩ := h.oth
  obtain ⟨c, h3, h4, h5⟩ := h1.crash pick
  obtain ⟨s', h6⟩ := h.last
  exact ⟨h.mt.crash pick, ⟨c, h3, .inr (by rw [h5]; exact h2)⟩, (h6.crash pick).lt, h.pages.mono (fun k s _ hk => hk.crash pick), h.mok⟩
theorem Safe.wr {l : List Cell} {m : Mt} {ids : List Nat} {texts : List (List UInt8)} (h : Safe l m ids texts) {k : Nat} (s : Sec) (hk : 16 ≤ k) (hp : ∀ id ∈ ids, k < id * 8 ∨ id * 8 + 8 ≤ k) : Safe (wrC l k s) m ids texts := by
  obtain ⟨s0, h1, h2⟩ := h.oth
  obtain ⟨s', h6⟩ := h.last
  refine ⟨wrC_ok s h.ok, h.mt.wr (by omega), ⟨s0, h1.wr (by omega), h2⟩, ⟨s', h6.wr (by omega)⟩, ⟨h.pages.1, fun j id hj => ?_⟩, h.mok⟩
  obtain ⟨g1, b, g2, g3, g4⟩ := h.pages.2 j id hj
  refine ⟨g1, b, g2, g3, fun q hq => (g4 q hq).wr ?_⟩
  have := hp id (List.mem_of_getElem? hj)
  omega
theorem Safe.sync {l : List Cell} {m : Mt} {ids : List Nat} {texts : List (List UInt8)} (h : Safe l m ids texts) : Safe (syC l) m ids texts := by
  obtain ⟨s0, h1, h2⟩ := h.oth
  obtain ⟨s', h6⟩ := h.last
  exact ⟨syC_ok h.ok, h.mt.now.sync, ⟨s0, h1.now.sync, h2⟩, ⟨s', h6.now.sync⟩, h.pages.mono (fun k s _ hk => hk.now.sync), h.mok⟩
theorem now_pages_wr {l : List Cell} {ids : List Nat} {texts : List (List UInt8)} (h : CrPages (CrNow l) ids texts) {k : Nat} (s : Sec) (hp : ∀ id ∈ ids, k < id * 8 ∨ id * 8 + 8 ≤ k) : CrPages (CrNow (wrC l k s)) ids texts := by
  refine ⟨h.1, fun j id hj => ?_⟩
  obtain ⟨g1, b, g2, g3, g4⟩ := h.2 j id hj
  refine ⟨g1, b, g2, g3, fun q hq => (g4 q hq).wr ?_⟩
  have := hp id (List.mem_of_getElem? hj)
  omega
theorem mod2_ne (a : Nat) : (a + 1) % 2 * 8 ≠ a % 2 * 8 := by omega
/-- A meta is written over the older one. -/
theorem Safe.meta {l : List Cell} {m m' : Mt} {ids nids : List Nat} {texts ntexts : List (List UInt8)} (h : Safe l m ids texts) (hn : CrPages (CrAt l) nids ntexts) (hm : CrMt m' nids) (hg : m'.gen = m.gen + 1) :
    Safe (syC (wrC l (m'.gen % 2 * 8) (metaS m'))) m' nids ntexts ∧ ∀ pick, Good (trim (crashCells (wrC l (m'.gen % 2 * 8) (metaS m')) pick).1) m ids texts ∨ Good (trim (crashCells (wrC l (m'.gen % 2 * 8) (metaS m')) pick).1) m' nids ntexts := by
  obtain ⟨s0, h1, h2⟩ := h.oth
  obtain ⟨s', h6⟩ := h.last
  have he : m'.gen % 2 * 8 = (m.gen + 1) % 2 * 8 := by rw [hg]
  have he2 : (m'.gen + 1) % 2 * 8 = m.gen % 2 * 8 := by rw [hg]; omega
  have hlt := h1.now.lt
  have hne : m.gen % 2 * 8 ≠ m'.gen % 2 * 8 := by omega
  have h15 : 15 ≠ m'.gen % 2 * 8 := by omega
  have hsl : m'.gen % 2 * 8 ≤ 8 := by omega
  have old : Older m' (metaS m) := .inr ⟨m, h.mok.ok, rfl, by omega⟩
  refine ⟨⟨syC_ok (wrC_ok _ h.ok), (CrNow.self _ (by omega)).sync, ⟨_, by rw [he2]; exact (h.mt.wr hne).now.sync, old⟩, ⟨s', (h6.wr h15).now.sync⟩, hn.mono (fun k s hk hx => (hx.wr (by omega)).now.sync), hm⟩, fun pick => ?_⟩
  obtain ⟨c, k1, k2, k3, k4⟩ := h1
  have hco := h.ok c (List.mem_of_getElem? k1) k2
  have hc3 : (wrC l (m'.gen % 2 * 8) (metaS m'))[m'.gen % 2 * 8]? = some (c.write (metaS m')) := by
    rw [wrC_self _ (by omega), he, k1]; rfl
  have hthere : ∀ p, (crashC (c.write (metaS m')) p).1.2 = true := by
    intro p
    obtain ⟨way, hw⟩ := crash_way (show (c.write (metaS m')).fresh = true from rfl) p
    rw [hw]
    unfold fallC
    split
    · exact hco.2.2
    · split <;> rfl
  obtain ⟨p, hp⟩ := crash_there (pick := pick) hc3 hthere
  have gmt := (h.mt.wr (s2 := metaS m') hne).crash pick
  have g15 := ((h6.wr (s2 := metaS m') h15).crash pick).lt
  have gold := h.pages.mono (Q := CrNow (trim (crashCells (wrC l (m'.gen % 2 * 8) (metaS m')) pick).1)) (fun k s hk hx => (hx.wr (by omega)).crash pick)
  have gnew := hn.mono (Q := CrNow (trim (crashCells (wrC l (m'.gen % 2 * 8) (metaS m')) pick).1)) (fun k s hk hx => (hx.wr (by omega)).crash pick)
  have hcase : ((crashC (c.write (metaS m')) p).1.1.lasts.nowBad = true ∨ Older m (crashC (c.write (metaS m')) p).1.1.lasts.now) ∨ ((crashC (c.write (metaS m')) p).1.1.lasts.nowBad = false ∧ (crashC (c.write (metaS m')) p).1.1.lasts.now = metaS m') := by
    obtain ⟨way, hw⟩ := crash_way (show (c.write (metaS m')).fresh = true from rfl) p
    rw [hw]
    unfold fallC
    split
    · left; right
      show Older m c.last
      rw [hco.1, k4]; exact h2
    · split
      · right; exact ⟨rfl, rfl⟩
      · left; left; rfl
  rcases hcase with hA | hB
  · left
    exact ⟨gmt, ⟨_, by rw [← he]; exact hp, hA⟩, g15, gold, h.mok⟩
  · right
    obtain ⟨cm, q1, q2, q3⟩ := gmt
    exact ⟨⟨_, hp, hB.1, hB.2⟩, ⟨cm, by rw [he2]; exact q1, .inr (by rw [q3]; exact old)⟩, g15, gnew, hm⟩

/-! ### opening behind a crash -/
theorem best_reads {D : Dv} {m : Mt} {r : Sec × Int} (hm : D.read [112] ((m.gen % 2 * 8 : Nat) : Int) = (metaS m, 0)) (hr : D.read [112] (((m.gen + 1) % 2 * 8 : Nat) : Int) = r) (hlt : ∀ id long, (metaAt r id long).1.gen < m.gen) (hok : MtOk m (pagesOf D)) : bestMt D = m := by
  have hat := hok.at
  have h0 : mt0.gen < m.gen := by have := hok.gen; show 0 < m.gen; omega
  unfold bestMt
  rcases Nat.mod_two_eq_zero_or_one m.gen with e | e
  · have e2 : (m.gen + 1) % 2 = 1 := by omega
    rw [e] at hm hat; rw [e2] at hr
    simp only [Nat.zero_mul, Nat.one_mul] at hm hr
    rw [show ((0 : Nat) : Int) = 0 from rfl] at hm
    rw [show ((8 : Nat) : Int) = 8 from rfl] at hr
    rw [hm, hr, hat]
    have hb : betterMt mt0 (m, true) = m := by unfold betterMt; rw [if_pos ⟨rfl, h0⟩]
    rw [hb]
    unfold betterMt
    rw [if_neg (fun h => by have := h.2; have := hlt 1 (pagesOf D); omega)]
  · have e2 : (m.gen + 1) % 2 = 0 := by omega
    rw [e] at hm hat; rw [e2] at hr
    simp only [Nat.zero_mul, Nat.one_mul] at hm hr
    rw [show ((0 : Nat) : Int) = 0 from rfl] at hr
    rw [show ((8 : Nat) : Int) = 8 from rfl] at hm
    rw [hm, hr, hat]
    have hb := better_no (a := mt0) (r := metaAt r 0 (pagesOf D)) (hlt 0 (pagesOf D)) h0
    unfold betterMt at hb ⊢
    rw [if_pos ⟨rfl, hb⟩]
theorem Good.sync {l : List Cell} {m : Mt} {ids : List Nat} {texts : List (List UInt8)} (h : Good l m ids texts) : Good (syC l) m ids texts := by
  obtain ⟨c, h1, h2⟩ := h.oth
  refine ⟨h.mt.sync.now, ⟨if c.fresh then c.lasts else c, by rw [syC_get, h1]; rfl, ?_⟩, by rw [syC_len]; exact h.len, h.pages.mono (fun k s _ hk => hk.sync.now), h.mok⟩
  split <;> exact h2
theorem readUp_now {fu : Int} {l : List Cell} {b : Nat} {f : Nat → Sec} : ∀ q, (∀ i, i < q → CrNow l (b + i) (f i)) → readUp (fusF fu l) b q = (((List.range q).map f).flatMap (·.1), 0)
  | 0, _ => by simp [readUp]
  | q + 1, h => by
    have ih := readUp_now (fu := fu) q (fun i hi => h i (by omega))
    have hr := (h q (by omega)).read fu
    have hc : ((b : Int) + q) = ((b + q : Nat) : Int) := by omega
    rw [readUp, ih, if_pos rfl, hc, hr, if_pos rfl, List.range_succ, List.map_append, List.flatMap_append]
    simp
theorem Good.mtOk {l : List Cell} {m : Mt} {ids : List Nat} {texts : List (List UInt8)} (h : Good l m ids texts) (fu : Int) : MtOk m (pagesOf (fusF fu l)) := by
  refine ⟨h.mok.ok, h.mok.gen, ?_, h.mok.root', h.mok.count⟩
  rcases h.mok.root with h1 | h1
  · exact .inl h1
  · right
    obtain ⟨j, hj⟩ := List.mem_iff_getElem?.1 h1
    obtain ⟨g1, b, g2, g3, g4⟩ := h.pages.2 j _ hj
    have := (g4 7 (by omega)).lt
    rw [fus_pages]
    omega
theorem Good.best {l : List Cell} {m : Mt} {ids : List Nat} {texts : List (List UInt8)} (h : Good l m ids texts) (fu : Int) : bestMt (fusF fu l) = m := by
  obtain ⟨c, h1, h2⟩ := h.oth
  refine best_reads (h.mt.read fu) (fus_read fu l h1) (fun id long => ?_) (h.mtOk fu)
  have h0 := h.mok.gen
  cases hb : c.nowBad with
  | true =>
    rw [if_pos rfl]
    unfold metaAt
    rw [if_neg (fun h => by have := h.1; cases this)]
    show 0 < m.gen
    omega
  | false =>
    rw [if_neg (by simp)]
    rcases h2 with h3 | h3
    · rw [hb] at h3; cases h3
    · exact older h3 h0 id long
theorem good_open {l : List Cell} {m : Mt} {ids : List Nat} {texts : List (List UInt8)} (h : Good l m ids texts) : openD (fusF (-1) l) = (fusF (-1) (syC l), 0) ∧ openE (fusF (-1) l) = 0 := by
  have h1 : openD (fusF (-1) l) = (fusF (-1) (syC l), 0) := by
    unfold openD
    rw [if_pos (by show [112] ∈ [([112] : Nm)]; simp)]
    rcases fus_sync (-1) l with ⟨h2, _⟩ | ⟨_, h2⟩
    · cases h2
    · rw [h2]; rfl
  refine ⟨h1, ?_⟩
  unfold openE
  rw [h1]
  simp only
  rw [if_neg (by simp), h.sync.best, fus_pages, syC_len, if_neg]
  have h2 := h.len
  have h3 := h.mok.gen
  omega
theorem good_read {l : List Cell} {m : Mt} {ids : List Nat} {texts : List (List UInt8)} (h : Good l m ids texts) {F : Pg} {fu : Int} (hF : F.d = fusF fu l) {j id : Nat} {t : List UInt8} (hj : ids[j]? = some id) (ht : texts[j]? = some t) : readP F (id : Int) = (t, 0) := by
  obtain ⟨g1, b, g2, g3, g4⟩ := h.pages.2 j id hj
  have := (g4 7 (by omega)).lt
  rw [ht] at g2
  cases g2
  unfold readP isPg
  rw [hF, fus_pages, if_pos (by simp; omega), Int.toNat_natCast, readUp_now 8 (fun i hi => g4 i hi), pageSec_cat, List.take_of_length_le (by omega)]
  rfl

/-! ### what stands between the calls -/
structure CrOk (n : Nat) (m : Mt) (ids : List Nat) (texts : List (List UInt8)) (nids : List Nat) (ntexts : List (List UInt8)) (F : Pg) : Prop where
  d : ∃ fu l, F.d = fusF fu l ∧ Safe l m ids texts ∧ CrPages (CrNow l) nids ntexts ∧ l.length % 8 = 0 ∧ l.length ≤ 16 + 8 * n
  mt : F.mt = m
  dead : F.dead = false
  used : ∀ id, id ∈ ids ∨ id ∈ nids → F.used id = true
  nodup : nids.Nodup
  fresh : F.fresh.length ≤ n
/-- What stands behind a call that fell. -/
def CrEnd (m : Mt) (ids : List Nat) (texts : List (List UInt8)) (m' : Mt) (ids' : List Nat) (texts' : List (List UInt8)) (D : Dv) : Prop :=
  ∃ fu l, D = fusF fu l ∧ ∀ pick, Good (trim (crashCells l pick).1) m ids texts ∨ Good (trim (crashCells l pick).1) m' ids' texts'
theorem CrEnd.crash {m m' : Mt} {ids ids' : List Nat} {texts texts' : List (List UInt8)} {D : Dv} (h : CrEnd m ids texts m' ids' texts' D) (pick : List Int) : ∃ l, D.crash pick = fusF (-1) l ∧ (Good l m ids texts ∨ Good l m' ids' texts') := by
  obtain ⟨fu, l, rfl, h2⟩ := h
  exact ⟨_, fus_crash fu l pick, h2 pick⟩
theorem CrOk.fallen {n : Nat} {m : Mt} {ids nids : List Nat} {texts ntexts : List (List UInt8)} {F : Pg} (h : CrOk n m ids texts nids ntexts F) : CrEnd m ids texts m ids texts F.d := by
  obtain ⟨fu, l, h1, h2, _⟩ := h.d
  exact ⟨fu, l, h1, fun pick => .inl (h2.crash pick)⟩
theorem cr_wrUp {m : Mt} {ids nids : List Nat} {texts ntexts : List (List UInt8)} {fu : Int} {l : List Cell} {p : Nat} (f : Nat → Sec) (h1 : Safe l m ids texts) (h2 : CrPages (CrNow l) nids ntexts) (hp : 2 ≤ p) (hi : p ∉ ids) (hn : p ∉ nids) (hl : p * 8 ≤ l.length) (h3 : p * 8 + 8 ≤ 3000) (h4 : l.length ≤ 2992) :
    ∀ q, q ≤ 8 → ∃ fu' l', (wrUp (fusF fu l) (p * 8) f q).1 = fusF fu' l' ∧ Safe l' m ids texts ∧ CrPages (CrNow l') nids ntexts ∧ p * 8 ≤ l'.length ∧ l'.length ≤ max (p * 8 + q) l.length ∧ (fu = -1 → fu' = -1 ∧ (wrUp (fusF fu l) (p * 8) f q).2 = 0) ∧
      ((wrUp (fusF fu l) (p * 8) f q).2 = 0 → l'.length = max (p * 8 + q) l.length ∧ ∀ i, i < q → CrNow l' (p * 8 + i) (f i))
  | 0, _ => ⟨fu, l, rfl, h1, h2, hl, by omega, fun h => ⟨h, rfl⟩, fun _ => ⟨by omega, fun i h => by omega⟩⟩
  | q + 1, hq => by
    obtain ⟨fu', l', a1, a2, a3, a4, a5, a6, a7⟩ := cr_wrUp f h1 h2 hp hi hn hl h3 h4 q (by omega)
    by_cases he : (wrUp (fusF fu l) (p * 8) f q).2 = 0
    · obtain ⟨b1, b2⟩ := a7 he
      have hpair : wrUp (fusF fu l) (p * 8) f q = (fusF fu' l', 0) := Prod.ext a1 he
      have hc : (((p * 8 : Nat) : Int) + q) = ((p * 8 + q : Nat) : Int) := by omega
      rw [wrUp_step hpair, hc]
      rcases fus_write fu' l' (k := p * 8 + q) (f q) (by omega) (by omega) with ⟨c1, c2⟩ | ⟨c1, c2⟩
      · rw [c2]
        refine ⟨fu', l', rfl, a2, a3, a4, by omega, fun h => ?_, fun h => ?_⟩
        · have := (a6 h).1; omega
        · cases h
      · rw [c2]
        have hfar : ∀ id, id ≠ p → p * 8 + q < id * 8 ∨ id * 8 + 8 ≤ p * 8 + q := fun id hid => by omega
        have hw := wrC_len (l := l') (k := p * 8 + q) (f q) (by omega)
        refine ⟨_, _, rfl, a2.wr (f q) (by omega) (fun id hid => hfar id (fun e => hi (e ▸ hid))), now_pages_wr a3 (f q) (fun id hid => hfar id (fun e => hn (e ▸ hid))), by omega, by omega, fun h => ?_, fun _ => ⟨by omega, fun i hi2 => ?_⟩⟩
        · have := (a6 h).1
          exact ⟨by rw [if_neg (by omega)]; exact this, rfl⟩
        · by_cases hiq : i = q
          · subst hiq; exact CrNow.self _ (by omega)
          · exact (b2 i (by omega)).wr (by omega)
    · have hb := wrUp_bad he 1
      rw [hb]
      exact ⟨fu', l', a1, a2, a3, a4, by omega, fun h => absurd (a6 h).2 he, fun h => absurd h he⟩
theorem cr_put {n : Nat} {m : Mt} {ids nids : List Nat} {texts ntexts : List (List UInt8)} {F : Pg} (h : CrOk n m ids texts nids ntexts F) (b : List UInt8) (hb : b.length ≤ 512) {p : Nat} (hp : isLeast F p) (hn : n < 100) :
    ((putP F b p).2 = 0 ∧ p ≤ 200 ∧ CrOk (n + 1) m ids texts (nids ++ [p]) (ntexts ++ [wholeP b]) (putP F b p).1) ∨ ((putP F b p).2 ≠ 0 ∧ CrEnd m ids texts m ids texts (putP F b p).1.d) := by
  obtain ⟨fu, l, h1, h2, h3, h4, h5⟩ := h.d
  have hpg : pagesOf F.d = l.length / 8 := by rw [h1, fus_pages]
  have hp2 := hp.1
  have h16 : 16 ≤ l.length := by obtain ⟨s, hs⟩ := h2.last; have := hs.now.lt; omega
  have hle : p * 8 ≤ l.length := by
    rcases Nat.lt_or_ge 2 p with h6 | h6
    · have := (hp.2.1 (p - 1) (by omega) (by omega)).1; omega
    · omega
  have hpage : ∀ {P : Nat → Sec → Prop} {is : List Nat} {ts : List (List UInt8)}, CrPages P is ts → (∀ k s, P k s → k < l.length) → ∀ id ∈ is, id * 8 + 8 ≤ l.length := by
    intro P is ts hP hPl id hid
    obtain ⟨j, hj⟩ := List.mem_iff_getElem?.1 hid
    obtain ⟨g1, b, g2, g3, g4⟩ := hP.2 j id hj
    have := hPl _ _ (g4 7 (by omega))
    omega
  have hno : ∀ {is : List Nat}, (∀ id ∈ is, id * 8 + 8 ≤ l.length ∧ F.used id = true) → p ∉ is := by
    intro is his hm
    obtain ⟨h6, h7⟩ := his p hm
    rcases hp.2.2 with h8 | h8
    · omega
    · rw [h7] at h8; cases h8
  have hi : p ∉ ids := hno (fun id hid => ⟨hpage h2.pages (fun k s hk => hk.now.lt) id hid, h.used id (.inl hid)⟩)
  have hni : p ∉ nids := hno (fun id hid => ⟨hpage h3 (fun k s hk => hk.lt) id hid, h.used id (.inr hid)⟩)
  obtain ⟨fu', l', a1, a2, a3, a4, a5, _, a7⟩ := cr_wrUp (fu := fu) (pageSec b) h2 h3 hp2 hi hni hle (by omega) (by omega) 8 (Nat.le_refl _)
  rw [← h1] at a1 a7
  by_cases he : (wrUp F.d (p * 8) (pageSec b) 8).2 = 0
  · obtain ⟨b1, b2⟩ := a7 he
    have hput : putP F b p = ({ F with d := (wrUp F.d (p * 8) (pageSec b) 8).1, used := fun j => F.used j || decide (j = p), fresh := F.fresh ++ [p] }, 0) := by unfold putP; rw [if_pos he]
    left
    rw [hput]
    refine ⟨rfl, by omega, ⟨fu', l', a1, a2, ⟨by simp [a3.1], fun j id hj => ?_⟩, by omega, by omega⟩, h.mt, h.dead, fun id hid => ?_, ?_, ?_⟩
    · by_cases hjl : j < nids.length
      · rw [List.getElem?_append_left hjl] at hj
        obtain ⟨g1, b', g2, g3, g4⟩ := a3.2 j id hj
        exact ⟨g1, b', by rw [List.getElem?_append_left (by rw [a3.1]; exact hjl)]; exact g2, g3, g4⟩
      · rw [List.getElem?_append_right (by omega)] at hj
        have hlt := (List.getElem?_eq_some_iff.1 hj).1
        have hj0 : j - nids.length = 0 := by simp at hlt; omega
        rw [hj0] at hj
        simp at hj
        subst hj
        exact ⟨hp2, b, by rw [List.getElem?_append_right (by rw [a3.1]; omega), a3.1, hj0]; rfl, hb, b2⟩
    · show (F.used id || decide (id = p)) = true
      have h9 : id ∈ ids ∨ id ∈ nids ∨ id = p := by
        rcases hid with h9 | h9
        · exact .inl h9
        · rcases List.mem_append.1 h9 with h9 | h9
          · exact .inr (.inl h9)
          · exact .inr (.inr (List.mem_singleton.1 h9))
      rcases h9 with h9 | h9 | h9
      · rw [h.used id (.inl h9)]; rfl
      · rw [h.used id (.inr h9)]; rfl
      · simp [h9]
    · rw [List.nodup_append]
      exact ⟨h.nodup, by simp, fun a ha b hb => by rw [List.mem_singleton.1 hb]; exact fun e => hni (e ▸ ha)⟩
    · show (F.fresh ++ [p]).length ≤ _
      rw [List.length_append]; have := h.fresh; simp; omega
  · right
    have hput : putP F b p = ({ F with d := (wrUp F.d (p * 8) (pageSec b) 8).1 }, (wrUp F.d (p * 8) (pageSec b) 8).2) := by unfold putP; rw [if_neg he]
    rw [hput]
    exact ⟨he, fu', l', a1, fun pick => .inl (a2.crash pick)⟩
theorem cr_commit {n : Nat} {m : Mt} {ids nids : List Nat} {texts ntexts : List (List UInt8)} {F : Pg} (h : CrOk n m ids texts nids ntexts F) {root count : Int} {mark : Nat} {sids : List Int} (hm : CrMt (nextMt F root count mark) nids) (hs : ∀ id ∈ nids, (id : Int) ∈ sids) (hn : n < 300) :
    ((wrMeta F.d (nextMt F root count mark)).2 = 0 ∧ pagesOf (wrMeta F.d (nextMt F root count mark)).1 = pagesOf F.d ∧ CrOk n (nextMt F root count mark) nids ntexts [] [] (keepP { F with d := (wrMeta F.d (nextMt F root count mark)).1, mt := nextMt F root count mark } sids)) ∨
    ((wrMeta F.d (nextMt F root count mark)).2 ≠ 0 ∧ CrEnd m ids texts (nextMt F root count mark) nids ntexts (wrMeta F.d (nextMt F root count mark)).1) := by
  obtain ⟨fu, l, h1, h2, h3, h4, h5⟩ := h.d
  have hgen : (nextMt F root count mark).gen = m.gen + 1 := by unfold nextMt; rw [h.mt]
  generalize nextMt F root count mark = m' at *
  have h16 : 16 ≤ l.length := by obtain ⟨s, hs⟩ := h2.last; have := hs.now.lt; omega
  unfold wrMeta
  rw [h1]
  rcases fus_sync fu l with ⟨_, c1⟩ | ⟨_, c1⟩
  · right
    rw [c1]
    exact ⟨by simp, fu, l, rfl, fun pick => .inl (h2.crash pick)⟩
  · rw [c1]
    simp only [if_true]
    have hc : ((m'.gen % 2 : Nat) : Int) * 8 = ((m'.gen % 2 * 8 : Nat) : Int) := by omega
    have hsl : m'.gen % 2 * 8 ≤ 8 := by omega
    have hl1 := syC_len l
    rw [hc]
    obtain ⟨k1, k2⟩ := h2.sync.meta (h3.mono (Q := CrAt (syC l)) (fun k s _ hk => hk.sync)) hm hgen
    rcases fus_write (if 0 < fu then fu - 1 else fu) (syC l) (k := m'.gen % 2 * 8) (metaS m') (by omega) (by omega) with ⟨_, c2⟩ | ⟨_, c2⟩
    · right
      rw [c2]
      exact ⟨by simp, _, _, rfl, fun pick => .inl (h2.sync.crash pick)⟩
    · rw [c2]
      simp only [if_true]
      rcases fus_sync (if 0 < (if 0 < fu then fu - 1 else fu) then (if 0 < fu then fu - 1 else fu) - 1 else (if 0 < fu then fu - 1 else fu)) (wrC (syC l) (m'.gen % 2 * 8) (metaS m')) with ⟨_, c3⟩ | ⟨_, c3⟩
      · right
        rw [c3]
        exact ⟨by simp, _, _, rfl, k2⟩
      · left
        rw [c3]
        have hl2 := wrC_len (l := syC l) (k := m'.gen % 2 * 8) (metaS m') (by omega)
        have hl3 := syC_len (wrC (syC l) (m'.gen % 2 * 8) (metaS m'))
        refine ⟨rfl, by rw [fus_pages, fus_pages]; congr 1; omega, ⟨_, _, rfl, k1, CrPages.nil _, by omega, by omega⟩, rfl, h.dead, fun id hid => ?_, List.nodup_nil, Nat.zero_le _⟩
        rcases hid with h9 | h9
        · show decide ((id : Int) ∈ sids) = true
          exact decide_eq_true (hs id h9)
        · simp at h9
/-! ### the start -/
theorem cr_start : ∃ D', openD (Dv.new 3000) = (D', 0) ∧ openE (Dv.new 3000) = 0 ∧ (openP D').mt = mt1 ∧ ∀ n, 0 ≤ n → CrOk 0 mt1 [] [] [] [] { openP D' with d := D'.setFuse n } := by
  have hup : ∀ q, q ≤ 16 → ∃ l, wrUp (fusF (-1) []) 0 beginSec q = (fusF (-1) l, 0) ∧ l.length = q ∧ (∀ c ∈ l, cellOk c) ∧ ∀ i, i < q → CrNow l i (beginSec i) := by
    intro q
    induction q with
    | zero => intro _; exact ⟨[], rfl, rfl, by simp, fun i h => by omega⟩
    | succ q ih =>
      intro hq
      obtain ⟨l, g1, g2, g3, g4⟩ := ih (by omega)
      rw [wrUp_step g1]
      have hc : (((0 : Nat) : Int) + q) = ((q : Nat) : Int) := by omega
      rw [hc]
      rcases fus_write (-1) l (k := q) (beginSec q) (by omega) (by omega) with ⟨c1, _⟩ | ⟨_, c2⟩
      · cases c1
      · refine ⟨_, c2, by rw [wrC_len _ (by omega)]; omega, wrC_ok _ g3, fun i hi => ?_⟩
        by_cases hiq : i = q
        · subst hiq; exact CrNow.self _ (by omega)
        · exact (g4 i (by omega)).wr hiq
  obtain ⟨l, g1, g2, g3, g4⟩ := hup 16 (Nat.le_refl _)
  have hmk : (Dv.new 3000).make [112] = (fusF (-1) [], 0) := one_start 3000 [112] (by decide) ⟨by decide, by decide⟩
  have hs : (fusF (-1) l).sync [112] = (fusF (-1) (syC l), 0) := by
    rcases fus_sync (-1) l with ⟨c1, _⟩ | ⟨_, c2⟩
    · cases c1
    · exact c2
  have hopen : openD (Dv.new 3000) = (fusF (-1) (syC l), 0) := by
    unfold openD begunD
    rw [if_neg (by simp [Dv.new, Dv.names]), hmk]
    simp only [if_true]
    rw [g1]
    simp only [if_true]
    exact hs
  have h8 : CrAt (syC l) 8 (metaS mt1) := (g4 8 (by omega)).sync
  have h0 : CrAt (syC l) 0 Sec.zero := (g4 0 (by omega)).sync
  have h15 : CrAt (syC l) 15 Sec.zero := (g4 15 (by omega)).sync
  have hmok : CrMt mt1 [] := ⟨⟨by decide, by decide, by decide, by decide⟩, by decide, .inl rfl, by decide, by decide⟩
  have hsafe : Safe (syC l) mt1 [] [] := ⟨syC_ok g3, h8, ⟨_, h0, .inl rfl⟩, ⟨_, h15⟩, CrPages.nil _, hmok⟩
  have hgood : Good (syC l) mt1 [] [] := ⟨h8.now, by obtain ⟨c, k1, k2, k3, k4⟩ := h0; exact ⟨c, k1, .inr (.inl k4)⟩, h15.now.lt, CrPages.nil _, hmok⟩
  have hbest := hgood.best (-1)
  refine ⟨_, hopen, ?_, hbest, fun n hn => ⟨⟨n, syC l, ?_, hsafe, CrPages.nil _, by rw [syC_len, g2], by rw [syC_len, g2]; omega⟩, hbest, rfl, fun id hid => by simp at hid, List.nodup_nil, Nat.le_refl _⟩⟩
  · unfold openE
    rw [hopen]
    simp only
    rw [if_neg (by simp), hbest, fus_pages, syC_len, g2, if_neg (by decide)]
  · unfold Dv.setFuse fusF
    rw [Int.max_eq_left (by omega)]
end Wb
