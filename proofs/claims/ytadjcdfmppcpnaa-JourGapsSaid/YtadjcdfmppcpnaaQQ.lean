/- Lemmas and contracts of functions, joined. -/
import Derived.Test.YtadjcdfmppcpnaaQP
namespace Wb
open Go

/-- What stands between two starts of a journal. -/
structure TellJ (L : FJ) (n : Nat) (B : List Bt) (fl m : Nat) : Prop where
  ok : okJ L
  tells : Tells (viewJ L) n B
  used : used (fsJ L) ≤ 22 * m
  nums : ∀ a ∈ L, a.1 ≤ m
  file : fl = 0 ∨ ∃ a ∈ L, fl ≤ a.1
  cnt : n ≤ m
/-- .. behind k batches of a life. -/
structure TellIn (L : FJ) (J : Jr) (n : Nat) (B : List Bt) (fl m k : Nat) : Prop where
  few : FewJ L J n B m
  used : used (fsJ L) ≤ 22 * m
  new : k = 0 → fl < J.next ∧ J.file = 0
  file : fl = 0 ∨ ∃ a ∈ L, fl ≤ a.1
  cnt : n ≤ m
theorem TellJ.mono {L : FJ} {n : Nat} {B : List Bt} {fl m m' : Nat} (h : TellJ L n B fl m) (hm : m ≤ m') : TellJ L n B fl m' := ⟨h.ok, h.tells, by have := h.used; omega, fun a ha => by have := h.nums a ha; omega, h.file, by have := h.cnt; omega⟩
theorem FewJ.mono {L : FJ} {J : Jr} {n N N' : Nat} {B : List Bt} (h : FewJ L J n B N) (hm : N ≤ N') : FewJ L J n B N' := ⟨h.live, by have := h.next; omega, by have := h.file; omega⟩
theorem TellIn.mono {L : FJ} {J : Jr} {n : Nat} {B : List Bt} {fl m m' k : Nat} (h : TellIn L J n B fl m k) (hm : m ≤ m') : TellIn L J n B fl m' k := ⟨h.few.mono hm, by have := h.used; omega, h.new, h.file, by have := h.cnt; omega⟩
theorem TellIn.out {L : FJ} {J : Jr} {n : Nat} {B : List Bt} {fl m k : Nat} (h : TellIn L J n B fl m k) : TellJ L n B fl m :=
  ⟨h.few.live.ok, h.few.live.run.tells, h.used, fun a ha => by have := h.few.live.next a ha; have := h.few.next; omega, h.file, h.cnt⟩
theorem view_fst {L L' : FJ} (h : viewJ L' = viewJ L) : L'.map (·.1) = L.map (·.1) := by
  have := congrArg (List.map (·.1)) h
  simpa [viewJ, List.map_map, Function.comp_def] using this
theorem view_num {L L' : FJ} (h : viewJ L' = viewJ L) {a : Nat × List Cell} (ha : a ∈ L) : ∃ b ∈ L', b.1 = a.1 := by
  have h1 : a.1 ∈ L.map (·.1) := List.mem_map.2 ⟨a, ha, rfl⟩
  rw [← view_fst h] at h1
  obtain ⟨b, hb, he⟩ := List.mem_map.1 h1
  exact ⟨b, hb, he⟩
theorem TellJ.opened {L L' : FJ} {J : Jr} {n : Nat} {B : List Bt} {fl m : Nat} (h : TellJ L n B fl m) (hv : viewJ L' = viewJ L) (hu : Wb.used (fsJ L') = Wb.used (fsJ L)) (hl : LiveJ L' J n B) (hf : J.file = 0) (hn : (L = [] ∧ J.next = 1) ∨ ∃ a ∈ L, J.next = a.1 + 1) : TellIn L' J n B fl m 0 := by
  have hfile : fl = 0 ∨ ∃ a ∈ L', fl ≤ a.1 := by
    rcases h.file with h1 | ⟨a, ha, h1⟩
    · exact .inl h1
    · obtain ⟨b, hb, he⟩ := view_num hv ha
      exact .inr ⟨b, hb, by omega⟩
  refine ⟨⟨hl, ?_, by omega⟩, by rw [hu]; exact h.used, fun _ => ⟨?_, hf⟩, hfile, h.cnt⟩
  · rcases hn with ⟨_, h1⟩ | ⟨a, ha, h1⟩
    · omega
    · have := h.nums a ha; omega
  · have h0 := hl.next0
    rcases hfile with h1 | ⟨a, ha, h1⟩
    · omega
    · have := hl.next a ha; omega
theorem TellIn.append {m0 : Nat} {fu fu' : Int} {L L0 L' : FJ} {J : Jr} {n f nx kind fl m k : Nat} {B : List Bt} {b : List UInt8} {l : List Cell} (h : TellIn L J n B fl m k) (hb : needN b.length ≤ 22) (hs : SpotJ L J L0 f l nx) (hd : DoneJ m0 fu L J n B kind b L0 f l nx fu' L') :
    TellIn L' ⟨n + 1, f, nx, false⟩ (n + 1) (B ++ [⟨n + 1, kind, b, f, l.length⟩]) f (m + 1) (k + 1) ∧ (k = 0 → fl < f) := by
  refine ⟨⟨h.few.append hs hd, by rw [hd.used]; have := h.used; omega, fun e => by omega, .inr ⟨_, by rw [hd.shape]; simp; exact .inr rfl, Nat.le_refl _⟩, by have := h.cnt; omega⟩, fun hk => ?_⟩
  obtain ⟨h1, h2⟩ := h.new hk
  rcases hs with ⟨_, _, rfl, _, _⟩ | ⟨h0, _⟩
  · exact h1
  · exact absurd h2 h0
theorem needN_22 {n : Nat} (h : n < 1024) : needN n ≤ 22 := by unfold needN; split <;> omega
theorem tell_new : TellJ [] 0 [] 0 0 := ⟨okJ_nil, .nil, Nat.le_refl _, (fun a ha => by cases ha), .inl rfl, Nat.le_refl _⟩
theorem rise_at {B : List Bt} (h : B.Pairwise after) {i : Nat} {a b : Bt} (ha : B[i]? = some a) (hb : B[i + 1]? = some b) : after a b := by
  obtain ⟨h1, rfl⟩ := List.getElem?_eq_some_iff.1 ha
  obtain ⟨h2, rfl⟩ := List.getElem?_eq_some_iff.1 hb
  exact List.pairwise_iff_getElem.1 h i (i + 1) h1 h2 (by omega)
theorem view_rise {L : FJ} (h : okJ L) : (viewJ L).Pairwise (fun a b => a.1 < b.1) := by
  unfold viewJ
  rw [List.pairwise_map]
  exact h.rise
end Wb

namespace Wb
open Go

/-- The row is cut ahead of a batch. -/
theorem FullF.cut {f last : Nat} {r : Row} {bs : List Bt} (h : FullF f last r bs) {k : Nat} {x : Bt} (hk : bs[k]? = some x) : ∃ r0 t, r = r0 ++ (goodR (sectorsP x.seq x.kind x.b) ++ t) ∧ FullF f last r0 (bs.take k) ∧ x.pos = r0.length ∧ x.seq ≠ 0 ∧ btOk x.kind x.b x.seq := by
  induction h with
  | nil => simp at hk
  | @snoc r bs kd b h hb ih =>
    rcases Nat.lt_or_ge k bs.length with h1 | h1
    · rw [List.getElem?_append_left h1] at hk
      obtain ⟨r0, t, rfl, h2, h3, h4, h5⟩ := ih hk
      refine ⟨r0, t ++ goodR (sectorsP (last + bs.length + 1) kd b), by simp only [List.append_assoc], ?_, h3, h4, h5⟩
      rw [List.take_append_of_le_length (by omega)]
      exact h2
    · have hl := (List.getElem?_eq_some_iff.1 hk).1
      simp at hl
      obtain rfl : k = bs.length := by omega
      rw [List.getElem?_append_right (Nat.le_refl _), Nat.sub_self] at hk
      simp only [List.getElem?_cons_zero, Option.some.injEq] at hk
      subst hk
      refine ⟨r, [], by simp, ?_, rfl, by show last + bs.length + 1 ≠ 0; omega, hb⟩
      rw [List.take_append_of_le_length (Nat.le_refl _), List.take_length]
      exact h
theorem gather_secs {rd : Nat → Sec × Int} {a : Nat} : ∀ q, (gatherR rd a q).2 = 0 → ∀ i, i < q → (gatherR rd a q).1.1[i]? = some (rd (a + i)).1
  | 0, _, i, hi => by omega
  | q + 1, h, i, hi => by
    rw [gatherR] at h ⊢
    by_cases h1 : (gatherR rd a q).2 = 0
    · rw [if_pos h1] at h ⊢
      by_cases h2 : (rd (a + q)).2 = 0
      · rw [if_pos h2] at h ⊢
        have hl : (gatherR rd a q).1.1.length = q := by
          have : ∀ q, (gatherR rd a q).2 = 0 → (gatherR rd a q).1.1.length = q := by
            intro q
            induction q with
            | zero => intro _; rfl
            | succ q ih =>
              intro hh
              rw [gatherR] at hh ⊢
              by_cases g1 : (gatherR rd a q).2 = 0
              · rw [if_pos g1] at hh ⊢
                by_cases g2 : (rd (a + q)).2 = 0
                · rw [if_pos g2]; simp [ih g1]
                · rw [if_neg g2] at hh; exact absurd hh g2
              · rw [if_neg g1] at hh; exact absurd hh g1
          exact this q h1
        simp only
        rcases Nat.lt_or_ge i q with h3 | h3
        · rw [List.getElem?_append_left (by omega)]
          exact gather_secs q h1 i h3
        · obtain rfl : i = q := by omega
          rw [List.getElem?_append_right (by omega), hl, Nat.sub_self]
          rfl
      · rw [if_neg h2] at h; exact absurd h h2
    · rw [if_neg h1] at h; exact absurd h h1
theorem num_one8 (l : List UInt8) (h : l.length ≤ 1) : num l < 256 := by
  match l, h with
  | [], _ => simp [num]
  | [c], _ => have := c.toNat_lt; simp [num]; omega
theorem head_zero : headP Sec.zero = ⟨0, 0, 0, 0⟩ := by
  unfold headP
  congr 1 <;> decide +kernel
theorem rdAt_64 (s : Sec) (o n : Nat) : rdAt s o n < 2 ^ 64 := num_lt _
/-- A batch that is told has no sector of noughts. -/
theorem batch_zero {rd : Nat → Sec × Int} {p : Nat} (h : (batchR rd p).err = 0) : ∀ i, i < (headP (rd p).1).many → (rd (p + i)).1 ≠ Sec.zero := by
  intro i hi hz
  unfold batchR at h
  split at h
  · rename_i h1; exact absurd h h1
  · split at h
    · exact absurd h (by decide)
    · rename_i hb
      split at h
      · rename_i h3; exact absurd h h3
      · rename_i h3
        split at h
        · rename_i h4
          have hg : (gatherR rd p (headP (rd p).1).many).2 = 0 := Classical.not_not.1 h3
          have hs := gather_secs _ hg i hi
          rw [h4, hz] at hs
          have hb' : ¬ ((headP (rd p).1).seq = 0 ∨ (headP (rd p).1).kind = 0 ∨ (headP (rd p).1).many = 0 ∨ 4096 < (headP (rd p).1).many) := hb
          have hlen : (gatherR rd p (headP (rd p).1).many).1.1.length = needN (gatherR rd p (headP (rd p).1).many).1.2.length := by rw [h4, sectorsP_len]
          unfold sectorsP at hs
          rw [List.getElem?_map] at hs
          obtain ⟨i', hi', hs2⟩ := Option.map_eq_some_iff.1 hs
          have hlt := (List.getElem?_eq_some_iff.1 hi').1
          rw [List.length_range] at hlt
          rw [List.getElem?_range hlt] at hi'
          cases hi'
          have hn : needN (gatherR rd p (headP (rd p).1).many).1.2.length ≤ 4096 := by
            have : (gatherR rd p (headP (rd p).1).many).1.1.length ≤ (headP (rd p).1).many := by
              have : ∀ q, (gatherR rd p q).1.1.length ≤ q := by
                intro q
                induction q with
                | zero => exact Nat.le_refl _
                | succ q ih =>
                  rw [gatherR]
                  split
                  · split
                    · simp; exact ih
                    · exact Nat.zero_le _
                  · omega
              exact this _
            omega
          have hh := (head_jsec (h := ⟨(headP (rd p).1).seq, i, needN (gatherR rd p (headP (rd p).1).many).1.2.length, (headP (rd p).1).kind⟩) (b := ((gatherR rd p (headP (rd p).1).many).1.2.drop (48 * i)).take 48)
            (rdAt_64 _ _ _) (by show i < 65536; omega) (by show needN _ < 65536; omega) (by
              show rdAt _ _ _ < 256
              have := num_one8 ((((rd p).1.1.drop 12).take 1)) (by rw [List.length_take]; omega)
              exact this) (by rw [List.length_take]; omega)).1
          have e := congrArg headP hs2
          rw [hh, head_zero] at e
          have : (headP (rd p).1).seq = 0 := congrArg Hd.seq e
          exact hb' (.inl this)
        · exact absurd h (by decide)
/-- One sector of a batch is noughts: it is none. -/
theorem batch_spoilt {r0 t : Row} {s k : Nat} {b : List UInt8} (hb : btOk k b s) {i : Nat} (hi : i < needN b.length) : (batchR (vrd ((r0 ++ (goodR (sectorsP s k b) ++ t)).set (r0.length + i) (Sec.zero, false))) r0.length).err ≠ 0 := by
  intro herr
  have hlen : (r0 ++ (goodR (sectorsP s k b) ++ t)).length = r0.length + (needN b.length + t.length) := by rw [List.length_append, List.length_append, goodR_len, sectorsP_len]
  have hz : ∀ j, vrd ((r0 ++ (goodR (sectorsP s k b) ++ t)).set (r0.length + i) (Sec.zero, false)) j = if j = r0.length + i then (Sec.zero, 0) else vrd (r0 ++ (goodR (sectorsP s k b) ++ t)) j := by
    intro j
    unfold vrd
    by_cases hj : j = r0.length + i
    · rw [if_pos hj, hj, List.getElem?_set_self (by omega)]; rfl
    · rw [if_neg hj, List.getElem?_set_ne (fun e => hj e.symm)]
  have hrd0 : i ≠ 0 → vrd ((r0 ++ (goodR (sectorsP s k b) ++ t)).set (r0.length + i) (Sec.zero, false)) r0.length = (jsec ⟨s, 0, needN b.length, k⟩ ((b.drop (48 * 0)).take 48), 0) := by
    intro h0
    rw [hz, if_neg (by omega)]
    have := vrd_right r0 (goodR (sectorsP s k b) ++ t) 0
    rw [Nat.add_zero] at this
    rw [this]
    refine vrd_good ?_
    unfold sectorsP
    rw [List.getElem?_map, List.getElem?_range (needN_pos _)]; rfl
  by_cases h0 : i = 0
  · subst h0
    obtain ⟨h1, _, _⟩ := batch_err herr
    have hr : vrd ((r0 ++ (goodR (sectorsP s k b) ++ t)).set (r0.length + 0) (Sec.zero, false)) r0.length = (Sec.zero, 0) := by rw [hz, if_pos (Nat.add_zero _).symm]
    unfold batchR at herr
    rw [hr] at herr
    simp only [head_zero] at herr
    rw [if_neg (by simp), if_pos (by unfold headBad; simp)] at herr
    cases herr
  · have hr := hrd0 h0
    have hh := (head_jsec (h := ⟨s, 0, needN b.length, k⟩) (b := (b.drop (48 * 0)).take 48) hb.seq (by show (0 : Nat) < 65536; omega) (by show needN b.length < 65536; have := hb.need; omega) hb.kind' (by rw [List.length_take]; omega)).1
    refine batch_zero herr i (by rw [hr]; simp only; rw [hh]; exact hi) ?_
    rw [hz, if_pos rfl]
/-- What stands behind q batches that all are in the first file. -/
structure GapJ (L : FJ) (J : Jr) (B : List Bt) (q : Nat) : Prop where
  live : LiveJ L J q B
  used : used (fsJ L) ≤ 11 * q
  shape : (q = 0 ∧ L = [] ∧ J = ⟨0, 0, 1, false⟩ ∧ B = []) ∨ (J = ⟨q, 1, 2, false⟩ ∧ ∃ l, L = [(1, l)] ∧ FullF 1 0 (l.map vw) B)
theorem gap_new : GapJ [] ⟨0, 0, 1, false⟩ [] 0 := ⟨new_live, Nat.le_refl _, .inl ⟨rfl, rfl, rfl, rfl⟩⟩
theorem GapJ.next {L : FJ} {J : Jr} {B : List Bt} {q : Nat} (h : GapJ L J B q) : J.next ≤ 2 ∧ J.file ≤ 1 := by
  rcases h.shape with ⟨_, _, rfl, _⟩ | ⟨rfl, _⟩
  · exact ⟨by show (1 : Nat) ≤ 2; omega, by show (0 : Nat) ≤ 1; omega⟩
  · exact ⟨Nat.le_refl _, Nat.le_refl _⟩
theorem tells_nil {n : Nat} {B : List Bt} (h : Tells [] n B) : n = 0 ∧ B = [] := by
  generalize hV : ([] : List (Nat × Row)) = V at h
  cases h with
  | nil => exact ⟨rfl, rfl⟩
  | file h1 h2 h3 => simp at hV
theorem GapJ.append {m : Nat} {fu fu' : Int} {L L0 L' : FJ} {J : Jr} {q f nx kind : Nat} {B : List Bt} {b : List UInt8} {l : List Cell} (h : GapJ L J B q) (hq : q ≤ 12) (hb : needN b.length ≤ 11) (hs : SpotJ L J L0 f l nx) (hd : DoneJ m fu L J q B kind b L0 f l nx fu' L') :
    f = 1 ∧ GapJ L' ⟨q + 1, f, nx, false⟩ (B ++ [⟨q + 1, kind, b, f, l.length⟩]) (q + 1) := by
  have hu := hd.used
  have hu0 := h.used
  have key : f = 1 ∧ nx = 2 ∧ L0 = [] := by
    rcases h.shape with ⟨rfl, rfl, rfl, rfl⟩ | ⟨rfl, l1, rfl, _⟩
    · obtain ⟨h1, h2, h3, h4⟩ := first_spot hs
      exact ⟨h2, h4, h1⟩
    · have hl1 : l1.length ≤ 132 := by
        have := used_snoc [] 1 l1
        simp only [List.nil_append] at this
        rw [this] at hu0
        omega
      rcases hs with ⟨ht, _⟩ | ⟨_, h2, h3, h4, h5⟩
      · rcases ht with ht | ⟨L1, l2, ht, h2⟩
        · cases ht
        · have e : ([] : FJ) ++ [(1, l1)] = L1 ++ [(1, l2)] := ht
          obtain ⟨_, h8⟩ := List.append_inj' e rfl
          injection h8 with h9
          injection h9 with _ h10
          rw [h10] at hl1
          omega
      · have e : ([] : FJ) ++ [(1, l1)] = L0 ++ [(f, l)] := h2
        obtain ⟨h7, _⟩ := List.append_inj' e rfl
        exact ⟨h3, h5, h7.symm⟩
  obtain ⟨rfl, rfl, rfl⟩ := key
  refine ⟨rfl, hd.live, by omega, .inr ⟨rfl, _, hd.shape, ?_⟩⟩
  have hrun := hd.live.run
  rcases hrun with ⟨h0, _⟩ | ⟨_, L1, l1, n0, B0, bs, hL, ht, hF, hn, hB⟩
  · cases h0
  · rw [hd.shape] at hL
    obtain ⟨rfl, h8⟩ := List.append_inj' hL rfl
    injection h8 with h9
    injection h9 with _ h10
    obtain ⟨rfl, rfl⟩ := tells_nil ht
    rw [List.nil_append] at hB
    rw [hB, h10]
    exact hF
/-- A sector of the k-th batch is written over: those ahead are told. -/
theorem GapJ.spoilt {L : FJ} {J : Jr} {B : List Bt} {q : Nat} (h : GapJ L J B q) {k : Nat} {x : Bt} (hk : B[k]? = some x) {i : Nat} (hi : i < needN x.b.length) :
    ∃ l, L = [(1, l)] ∧ x.pos + i < l.length ∧ okJ [(1, l.modify (x.pos + i) (·.write Sec.zero))] ∧ Tells (viewJ [(1, l.modify (x.pos + i) (·.write Sec.zero))]) k (B.take k) ∧ Wb.used (fsJ [(1, l.modify (x.pos + i) (·.write Sec.zero))]) = Wb.used (fsJ L) := by
  rcases h.shape with ⟨_, _, _, rfl⟩ | ⟨_, l, rfl, hF⟩
  · simp at hk
  obtain ⟨r0, t, hr, hF0, hp, hs0, hb⟩ := hF.cut hk
  have hlen : l.length = r0.length + (needN x.b.length + t.length) := by
    have := congrArg List.length hr
    rw [List.length_map, List.length_append, List.length_append, goodR_len, sectorsP_len] at this
    exact this
  have hok0 := h.live.ok
  have hok : okJ [(1, l.modify (x.pos + i) (·.write Sec.zero))] := okJ.set (A := []) (B := []) hok0 _
  refine ⟨l, rfl, by omega, hok, ?_, ?_⟩
  · have hvw : (l.modify (x.pos + i) (·.write Sec.zero)).map vw = (l.map vw).set (x.pos + i) (Sec.zero, false) := by
      apply List.ext_getElem?
      intro j
      rw [List.getElem?_map, List.getElem?_modify, List.getElem?_set, List.length_map, List.getElem?_map]
      by_cases hj : x.pos + i = j
      · subst hj
        rw [if_pos rfl, if_pos (by omega), List.getElem?_eq_getElem (by omega)]
        simp [vw, Cell.write]
      · rw [if_neg hj]
        simp [hj]
    have hsplit : (r0 ++ (goodR (sectorsP x.seq x.kind x.b) ++ t)).set (r0.length + i) (Sec.zero, false) = r0 ++ (goodR (sectorsP x.seq x.kind x.b) ++ t).set i (Sec.zero, false) := by
      rw [List.set_append_right _ _ (by omega), Nat.add_sub_cancel_left]
    have hg := batch_spoilt (r0 := r0) (t := t) hb hi
    rw [hsplit] at hg
    have hT := Tells.file (f := 1) Tells.nil hF0 hg
    rw [List.nil_append, List.nil_append, Nat.zero_add] at hT
    have hkl := (List.getElem?_eq_some_iff.1 hk).1
    rw [List.length_take, Nat.min_eq_left (by omega)] at hT
    show Tells [(1, (l.modify (x.pos + i) (·.write Sec.zero)).map vw)] k (B.take k)
    rw [hvw, hr, hp, hsplit]
    exact hT
  · exact used_set [] [] 1 (l' := l.modify (x.pos + i) (·.write Sec.zero)) (by rw [List.length_modify])
end Wb

namespace Wb
open Go

theorem fsJ_num {L X : FJ} (h : fsJ L = fsJ X) (hL : ∀ a ∈ L, a.1 ≤ 999999) (hX : ∀ a ∈ X, a.1 ≤ 999999) {N : Nat} (hN : ∀ a ∈ X, a.1 ≤ N) : ∀ a ∈ L, a.1 ≤ N := by
  intro a ha
  have h1 : (jname a.1, a.2) ∈ fsJ L := List.mem_map.2 ⟨a, ha, rfl⟩
  rw [h] at h1
  obtain ⟨b, hb, he⟩ := List.mem_map.1 h1
  injection he with h2 _
  have h3 := congrArg numOf h2
  rw [num_name (hL a ha), num_name (hX b hb)] at h3
  have := hN b hb
  omega
/-- Where an appending fell: how many files and sectors there are. -/
theorem append_bound {m : Nat} {fu : Int} {L L0 L' : FJ} {J J' : Jr} {n f nx : Nat} {B : List Bt} {l : List Cell} {kind : Nat} {b : List UInt8} {e : Int} (h : LiveJ L J n B) (hs : SpotJ L J L0 f l nx) (hx : J.next ≤ 999999) (hf : -1 ≤ fu) (hb : btOk kind b (n + 1)) (hu : used (fsJ L) + needN b.length ≤ m)
    (he : appendJ ⟨devJ m fu L, J⟩ kind b = (⟨devJ m 0 L', J'⟩, e)) (h0 : e ≠ 0) (hok' : okJ L') : (∀ a ∈ L', a.1 ≤ J.next) ∧ used (fsJ L') ≤ used (fsJ L) + needN b.length := by
  have hpre : appendPre ⟨devJ m fu L, J⟩ kind b.length = 0 := by
    unfold appendPre
    have h1 := h.dead
    have h2 := h.seq
    have h3 := hb.kind
    have h4 := hb.kind'
    have h5 := hb.need
    have h6 := hb.seq
    simp only
    rw [if_neg (by rw [h1]; simp), if_neg (by omega), if_neg (by omega), if_neg]
    show ¬ ((m : Int) - (used (fsJ L) : Int) < (needN b.length : Int))
    omega
  have hus := spot_used hs
  obtain ⟨hl2, hf0⟩ := hs.live h hx
  unfold appendJ at he
  rw [hpre, if_neg (by simp), Int.toNat_natCast] at he
  rcases turn_spot (m := m) h hs hx hf with ⟨fu1, hon1, htj⟩ | ⟨hz, hTP, htj⟩
  · rw [htj, if_neg (by simp)] at he
    unfold putJ putW at he
    simp only at he
    have hln : (devJ m fu1 (L0 ++ [(f, l)])).len (nmOf f) = l.length := by rw [nmOf_jname hl2.ok.mid.2.1 hl2.ok.mid.2.2, devJ_len hl2.ok]
    have hsq := h.seq
    rw [hln, hsq] at he
    have hss := sectorsP_len (n + 1) kind b
    have hu2 : used (fsJ L0) + l.length + (sectorsP (n + 1) kind b).length ≤ m := by rw [hss]; have h9 := used_snoc L0 f l; omega
    rcases writeJ_live hl2.ok hon1.1 (sectorsP (n + 1) kind b) hu2 with ⟨fu', hon, hw⟩ | ⟨hne, k, hw⟩
    · rw [hw, if_pos rfl] at he
      injection he with _ h2
      exact absurd h2.symm h0
    · rw [hw, if_neg (show ¬ (8 : Int) = 0 by decide)] at he
      injection he with h1 _
      injection h1 with h1 _
      have hfs : fsJ L' = fsJ (L0 ++ [(f, l ++ freshC ((sectorsP (n + 1) kind b).take k))]) := by
        have := congrArg Dv.files h1
        exact this.symm
      have hok2 := hl2.ok.set (l ++ freshC ((sectorsP (n + 1) kind b).take k))
      refine ⟨fsJ_num hfs (fun a ha => (hok'.nums a ha).2) (fun a ha => (hok2.nums a ha).2) (fun a ha => ?_), ?_⟩
      · rcases List.mem_append.1 ha with ha | ha
        · rcases hs with ⟨_, rfl, _, _, _⟩ | ⟨_, rfl, _, _, _⟩
          · exact Nat.le_of_lt (h.next a ha)
          · exact Nat.le_of_lt (h.next a (by simp [ha]))
        · rw [List.mem_singleton.1 ha]
          rcases hs with ⟨_, _, rfl, _, _⟩ | ⟨_, rfl, h3, _, _⟩
          · exact Nat.le_refl _
          · exact Nat.le_of_lt (h.next (f, l) (by simp))
      · rw [hfs, used_snoc, List.length_append, freshC_len, List.length_take, ← hus, used_snoc, hss]
        omega
  · rw [htj, if_pos (show (8 : Int) ≠ 0 by decide)] at he
    injection he with h1 _
    injection h1 with h1 _
    have hfs : fsJ L' = fsJ L := (congrArg Dv.files h1).symm
    exact ⟨fsJ_num hfs (fun a ha => (hok'.nums a ha).2) (fun a ha => (h.ok.nums a ha).2) (fun a ha => Nat.le_of_lt (h.next a ha)), by rw [hfs]; omega⟩
/-- What stands between two lives. -/
structure CrJ (L : FJ) (n : Nat) (B : List Bt) (m : Nat) : Prop where
  ok : okJ L
  settled : SettledJ L
  tells : Tells (viewJ L) n B
  used : used (fsJ L) ≤ 11 * m
  nums : ∀ a ∈ L, a.1 ≤ m
  cnt : n ≤ m
/-- .. in a life. -/
structure CrIn (L : FJ) (J : Jr) (n : Nat) (B : List Bt) (m : Nat) : Prop where
  few : FewJ L J n B m
  settled : SettledJ L
  used : used (fsJ L) ≤ 11 * m
  cnt : n ≤ m
/-- .. when an appending fell. -/
structure CrFell (L' : FJ) (n : Nat) (B : List Bt) (b : List UInt8) (m : Nat) : Prop where
  fell : ∃ L, SettledJ L ∧ FellJ L n B 1 b L'
  btk : btOk 1 b (n + 1)
  used : used (fsJ L') ≤ 11 * (m + 1)
  nums : ∀ a ∈ L', a.1 ≤ m + 1
  cnt : n ≤ m
theorem crJ_new : CrJ [] 0 [] 0 := ⟨okJ_nil, (fun a ha => by cases ha), .nil, Nat.le_refl _, (fun a ha => by cases ha), Nat.le_refl _⟩
theorem CrJ.mono {L : FJ} {n : Nat} {B : List Bt} {m m' : Nat} (h : CrJ L n B m) (hm : m ≤ m') : CrJ L n B m' := ⟨h.ok, h.settled, h.tells, by have := h.used; omega, fun a ha => by have := h.nums a ha; omega, by have := h.cnt; omega⟩
theorem CrJ.opened {L : FJ} {J : Jr} {n : Nat} {B : List Bt} {m : Nat} (h : CrJ L n B m) (hl : LiveJ L J n B) (hf : J.file = 0) (hn : (L = [] ∧ J.next = 1) ∨ ∃ a ∈ L, J.next = a.1 + 1) : CrIn L J n B m := by
  refine ⟨⟨hl, ?_, by omega⟩, h.settled, h.used, h.cnt⟩
  rcases hn with ⟨_, h1⟩ | ⟨a, ha, h1⟩
  · omega
  · have := h.nums a ha; omega
theorem CrIn.append {m0 : Nat} {fu : Int} {L : FJ} {J : Jr} {n : Nat} {B : List Bt} {m : Nat} (h : CrIn L J n B m) (hm : m ≤ 1000) (hf : -1 ≤ fu) {b : List UInt8} (hb : needN b.length ≤ 11) (hm0 : 12000 ≤ m0) :
    ∃ L0 f l nx, SpotJ L J L0 f l nx ∧
    ((∃ fu' L', appendJ ⟨devJ m0 fu L, J⟩ (1 : Nat) b = (⟨devJ m0 fu' L', ⟨n + 1, f, nx, false⟩⟩, 0) ∧ -1 ≤ fu' ∧ DoneJ m0 fu L J n B 1 b L0 f l nx fu' L' ∧ CrIn L' ⟨n + 1, f, nx, false⟩ (n + 1) (B ++ [⟨n + 1, 1, b, f, l.length⟩]) (m + 1)) ∨
     (∃ L' J' e, e ≠ 0 ∧ appendJ ⟨devJ m0 fu L, J⟩ (1 : Nat) b = (⟨devJ m0 0 L', J'⟩, e) ∧ CrFell L' n B b m)) := by
  obtain ⟨L0, f, l, nx, hs⟩ := h.few.live.spot
  have hbt : btOk 1 b (n + 1) := ⟨Nat.le_refl _, by decide, by omega, by have := h.cnt; omega⟩
  have hu : Wb.used (fsJ L) + needN b.length ≤ m0 := by have := h.used; omega
  have hx : J.next ≤ 999999 := by have := h.few.next; omega
  refine ⟨L0, f, l, nx, hs, ?_⟩
  rcases append_live (m := m0) h.few.live hs hx hf hbt hu with ⟨fu', L', he, hd⟩ | ⟨L', J', e, h0, _, he, hfell⟩
  · exact .inl ⟨fu', L', he, hd.on.1, hd, h.few.append hs hd, hd.rest h.settled, by rw [hd.used]; have := h.used; omega, by have := h.cnt; omega⟩
  · obtain ⟨h1, h2⟩ := append_bound h.few.live hs hx hf hbt hu he h0 hfell.1
    exact .inr ⟨L', J', e, h0, he, ⟨L, h.settled, hfell⟩, hbt, by have := h.used; omega, fun a ha => by have := h1 a ha; have := h.few.next; omega, h.cnt⟩
theorem CrIn.out {L : FJ} {J : Jr} {n : Nat} {B : List Bt} {m : Nat} (h : CrIn L J n B m) : CrJ L n B m :=
  ⟨h.few.live.ok, h.settled, h.few.live.run.tells, h.used, fun a ha => by have := h.few.live.next a ha; have := h.few.next; omega, h.cnt⟩
theorem CrIn.crash {m0 : Nat} {fu : Int} {L : FJ} {J : Jr} {n : Nat} {B : List Bt} {m : Nat} (h : CrIn L J n B m) (pick : List Int) : (devJ m0 fu L).crash pick = devJ m0 (-1) L := crash_live h.settled pick
theorem CrFell.crash {m0 : Nat} {fu : Int} {L' : FJ} {n : Nat} {B : List Bt} {b : List UInt8} {m : Nat} (h : CrFell L' n B b m) (pick : List Int) :
    ∃ L2, (devJ m0 fu L').crash pick = devJ m0 (-1) L2 ∧ (CrJ L2 n B (m + 1) ∨ ∃ f p, CrJ L2 (n + 1) (B ++ [⟨n + 1, 1, b, f, p⟩]) (m + 1)) := by
  obtain ⟨L, hse, hfell⟩ := h.fell
  obtain ⟨L2, h1, h2, h3, h4, h5, h6⟩ := fell_crash (m := m0) (fu := fu) hfell hse h.btk pick
  have hn : ∀ a ∈ L2, a.1 ≤ m + 1 := by
    intro a ha
    have : a.1 ∈ L2.map (·.1) := List.mem_map.2 ⟨a, ha, rfl⟩
    rw [h4] at this
    obtain ⟨c, hc, he⟩ := List.mem_map.1 this
    have := h.nums c hc
    omega
  have hu := h.used
  have hc := h.cnt
  refine ⟨L2, h1, ?_⟩
  rcases h6 with h6 | ⟨f, p, h6⟩
  · exact .inl ⟨h2, h3, h6, by omega, hn, by omega⟩
  · exact .inr ⟨f, p, h2, h3, h6, by omega, hn, by omega⟩
theorem needN_11 {n : Nat} (h : n < 512) : needN n ≤ 11 := by unfold needN; split <;> omega
end Wb
