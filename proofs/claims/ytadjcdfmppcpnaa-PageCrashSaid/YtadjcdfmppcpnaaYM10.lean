import Derived.Test.YtadjcdfmppcpnaaYM9
import Derived.Test.YtadjcdfmppcpnaaYP9k
import Derived.Test.YtadjcdfmppcpnaaS12
import Derived.Test.YtadjcdfmppcpnaaYH3
/-! PageCrash: the statement's own metas and pages in memory beside the file. -/
namespace Go.Proofs.Ytadjcdfmppcpnaa
open Go Go.RowKit Go.Maps Wb

def nI (l : List Nat) : List Int := l.map fun (k : Nat) => (k : Int)
theorem nI_len (l : List Nat) : (nI l).length = l.length := by simp [nI]
theorem nI_at {l : List Nat} {j k : Nat} (h : l[j]? = some k) : (nI l)[j]? = some (k : Int) := by simp [nI, h]
theorem nI_snoc (l : List Nat) (k : Nat) : intV (nI (l ++ [k])) = intV (nI l) ++ [.int .i64 k] := by simp [intV, nI]
theorem textsV_snoc (l : List (List UInt8)) (t : List UInt8) : textsV (l ++ [t]) = textsV l ++ [.string (bs t)] := by simp [textsV]
def p1A (m : Mt) (iv tv : Value) : Array Value := #[.int .u64 m.gen, .int .i64 m.root, .int .i64 m.count, .int .u64 m.mark, iv, tv]
theorem zeroP1 (w : World) : (zeroValue 86).run Try.prog w = .ok (.agg (p1A mt0 (.slice none 0 0) (.slice none 0 0))) w := by kernel_rfl
theorem infoP1 (m : Mt) (iv tv : Value) : (Try.prog.info? 86).map (·.size) = some (p1A m iv tv).size := by
  have : (Try.prog.info? 86).map (·.size) = some 6 := by kernel_rfl
  exact this
theorem p1A_one {m : Mt} {iv tv : Value} (hi : iv.oneCell' = true) (ht : tv.oneCell' = true) : (p1A m iv tv).all (·.oneCell') = true := by
  simp [p1A, hi, ht]
  simp [Value.oneCell']
theorem store_p1 (m m' : Mt) (iv tv iv' tv' : Value) : Wb.splice (p1A m iv tv) 0 (p1A m' iv' tv') = p1A m' iv' tv' := store_whole _ _ rfl
theorem le_p1 (m m' : Mt) (iv tv iv' tv' : Value) : 0 + (p1A m iv tv).size ≤ (p1A m' iv' tv').size := by simp [p1A]
set_option maxRecDepth 100000 in
theorem buildP0 (w : World) : (Instr.build 86 #[]).run Try.prog w = .ok (.agg (p1A mt0 (.slice none 0 0) (.slice none 0 0))) w := by kernel_rfl
set_option maxRecDepth 100000 in
theorem buildP1 (m : Mt) (w : World) : (Instr.build 86 #[(0, .agg (metaA m))]).run Try.prog w = .ok (.agg (p1A m (.slice none 0 0) (.slice none 0 0))) w := by
  first | kernel_rfl | rfl
structure P1 where
  m : Mt
  ids : List Nat
  ts : List (List UInt8)
/-- A page1 in a block. -/
structure AtP1 (w0 w : World) (b : Nat) (P : P1) (iv tv : Value) : Prop where
  blk : w.heap[b]? = some (.cells (p1A P.m iv tv) 86 (0, 0))
  ids : isOwn w w0.heap.size 3 iv (intV (nI P.ids))
  ts : isOwn w w0.heap.size 9 tv (textsV P.ts)
def Ow (b : Nat) (iv tv : Value) (i : Nat) : Prop := i = b ∨ iv.ownBlock = some i ∨ tv.ownBlock = some i
theorem own_one {w : World} {lo : Nat} {ty : TypeId} {v : Value} {vs : List Value} (h : isOwn w lo ty v vs) : v.oneCell' = true := by
  rcases h.2 with ⟨rfl, _⟩ | ⟨g, cap, cur, rfl, _⟩ <;> rfl
theorem own_ty {w : World} {lo : Nat} {ty ty' : TypeId} {v : Value} {vs : List Value} {c : Nat} {A : Array Value} {fr : Nat × Nat} (h : isOwn w lo ty v vs) (hc : w.heap[c]? = some (.cells A ty' fr)) (hne : ty ≠ ty') : v.ownBlock ≠ some c := by
  intro e
  rcases h.2 with ⟨rfl, _⟩ | ⟨g, cap, cur, rfl, h1, h2, _⟩
  · cases e
  · simp only [Value.ownBlock, Option.some.injEq] at e
    subst e
    rw [h2] at hc
    simp only [Option.some.injEq, Obj.cells.injEq] at hc
    exact hne hc.2.1
theorem own_ty2 {w : World} {lo lo' : Nat} {ty ty' : TypeId} {v v' : Value} {vs vs' : List Value} (h : isOwn w lo ty v vs) (h' : isOwn w lo' ty' v' vs') (hne : ty ≠ ty') : ∀ g, v.ownBlock = some g → v'.ownBlock ≠ some g := by
  intro g hg
  rcases h.2 with ⟨rfl, _⟩ | ⟨g', cap, cur, rfl, h1, h2, _⟩
  · cases hg
  · simp only [Value.ownBlock, Option.some.injEq] at hg
    subst hg
    exact own_ty h' h2 (fun e => hne e.symm)
section
variable {w0 w w' : World} {b : Nat} {P : P1} {iv tv : Value}
theorem AtP1.kept (h : AtP1 w0 w b P iv tv) {S : Nat → Prop} (hk : Keeps w w' S) (hS : ∀ i, Ow b iv tv i → ¬ S i) : AtP1 w0 w' b P iv tv :=
  ⟨hk.blk h.blk (hS _ (.inl rfl)), h.ids.kept hk (fun g hg => hS g (.inr (.inl hg))), h.ts.kept hk (fun g hg => hS g (.inr (.inr hg)))⟩
theorem AtP1.new (h : AtP1 w0 w b P iv tv) (hk : Keeps w w' (fun _ => False)) : AtP1 w0 w' b P iv tv := h.kept hk (fun _ _ h => h)
theorem AtP1.lt (h : AtP1 w0 w b P iv tv) : ∀ i, Ow b iv tv i → i < w.heap.size := fun i hi => by
  rcases hi with rfl | hi | hi
  · exact lt_of_blk h.blk
  · exact (h.ids.blk i hi).2
  · exact (h.ts.blk i hi).2
theorem AtP1.low (h : AtP1 w0 w b P iv tv) (hb : w0.heap.size ≤ b) : ∀ i, Ow b iv tv i → w0.heap.size ≤ i := fun i hi => by
  rcases hi with rfl | hi | hi
  · exact hb
  · exact (h.ids.blk i hi).1
  · exact (h.ts.blk i hi).1
/-- The block is written over whole. -/
theorem AtP1.over {c : Nat} (h : AtP1 w0 w b P iv tv) {A : Array Value} (hc : w.heap[c]? = some (.cells A 86 (0, 0))) (hk : Keeps w w' (· = c)) (hb : w'.heap[c]? = some (.cells (p1A P.m iv tv) 86 (0, 0))) : AtP1 w0 w' c P iv tv :=
  ⟨hb, h.ids.kept hk (fun g hg e => own_ty h.ids hc (by decide) (by rw [hg]; exact congrArg some e)), h.ts.kept hk (fun g hg e => own_ty h.ts hc (by decide) (by rw [hg]; exact congrArg some e))⟩
/-- .. another block of its kind is. -/
theorem AtP1.beside {c : Nat} (h : AtP1 w0 w b P iv tv) {A : Array Value} (hc : w.heap[c]? = some (.cells A 86 (0, 0))) (hk : Keeps w w' (· = c)) (hne : b ≠ c) : AtP1 w0 w' b P iv tv :=
  h.kept hk (fun i hi e => by
    have e' : i = c := e
    subst e'
    rcases hi with hi | hi | hi
    · exact hne hi.symm
    · exact own_ty h.ids hc (by decide) hi
    · exact own_ty h.ts hc (by decide) hi)
theorem AtP1.less {w1 : World} (h : AtP1 w0 w b P iv tv) (hl : w1.heap.size ≤ w0.heap.size) : AtP1 w1 w b P iv tv := ⟨h.blk, h.ids.low hl, h.ts.low hl⟩
end
/-! ### the file -/
section
variable {w0 w w' : World} {f : Nat} {dv : DH} {F : Pg} {X : Nat → Prop}
theorem Law9.devS (h : Law9 w0 w f dv F X) : ∀ i, dv.S i → ¬ X i ∧ w0.heap.size ≤ i := by
  obtain ⟨bu, fv, h1, h2, h3, h4⟩ := h
  exact fun i hi => h2 i (.inr (.inl hi))
theorem Law9.lt (h : Law9 w0 w f dv F X) : ∀ i, X i → i < w.heap.size := by
  obtain ⟨bu, fv, h1, h2, h3, h4⟩ := h
  exact h3
theorem l_fuse (h : Law9 w0 w f dv F X) (n : Int) (hn : kOk n) : Calls Try.prog 33 #[.pointer (some ⟨dv.p, 0, none⟩), .int .i64 n] w fun e w' => e = .returned (.tuple #[]) ∧ Law9 w0 w' f dv { F with d := F.d.setFuse n } X ∧ Keeps w w' (Apart w0 X) := by
  obtain ⟨bu, fv, h1, h2, h3, h4⟩ := h
  refine (fuse_calls w dv F.d n h1.dev hn).mono ?_
  rintro e w' ⟨rfl, hd, hk⟩
  have hk2 : Keeps w w' (Apart w0 X) := hk.mono (fun i _ hi => h2 i (.inr (.inl hi)))
  refine ⟨rfl, ⟨bu, fv, ⟨hk.blk h1.blk h1.nfd, hd, h1.used.kept hk h1.nud, h1.fresh.kept hk (fun g hg => h1.nvd g hg), h1.mok, h1.nfd, h1.nfu, h1.nud, h1.nvf, h1.nvu, h1.nvd, h1.frs⟩, h2, fun i hi => Nat.lt_of_lt_of_le (h3 i hi) hk.size, Apart.no h4 hk2⟩, hk2⟩
theorem l_commitR {v : Value} {ids : List Int} {root count : Int} {mark : Nat} (h : Law9 w0 w f dv F X) (hdead : F.dead = false) (hv : isRd w v (intV ids)) (hg : ∀ g, v.ownBlock = some g → ids = [] ∨ ((X g ∨ g < w0.heap.size) ∧ g < w.heap.size)) (hl : ids.length ≤ 140737488351232)
    (hok : commitOk F root count ids) (hgen : F.mt.gen + 1 < 2 ^ 64) (hmk : mark < 2 ^ 64) (hpg : (wrMeta F.d (nextMt F root count mark)).2 = 0 → pagesOf (wrMeta F.d (nextMt F root count mark)).1 = pagesOf F.d) :
    Calls Try.prog 45 #[.pointer (some ⟨f, 0, none⟩), .int .i64 root, .int .i64 count, .int .u64 mark, v] w fun e w2 => e = .returned (.int .i64 (wrMeta F.d (nextMt F root count mark)).2) ∧ Keeps w w2 (Apart w0 X) ∧
      ((wrMeta F.d (nextMt F root count mark)).2 = 0 → Law9 w0 w2 f dv (keepP { F with d := (wrMeta F.d (nextMt F root count mark)).1, mt := nextMt F root count mark } ids) X) ∧
      ((wrMeta F.d (nextMt F root count mark)).2 ≠ 0 → Law9 w0 w2 f dv { F with d := (wrMeta F.d (nextMt F root count mark)).1, dead := true } X) := by
  obtain ⟨bu, fv, h1, h2, h3, h4⟩ := h
  refine (commit_yes w _ F h1 hdead root count mark v ids hv (fun g hgg => (hg g hgg).imp id (fun hh => ⟨fun hs => ?_, hh.2⟩)) hl hok hgen hmk hpg).mono ?_
  · rcases hh.1 with hx | hx
    · exact (h2 g hs).1 hx
    · exact absurd (h2 g hs).2 (Nat.not_le.2 hx)
  · intro e w2 hp
    unfold CommitPost at hp
    by_cases hr : (wrMeta F.d (nextMt F root count mark)).2 = 0
    · rw [if_pos hr] at hp
      obtain ⟨a1, a2, a3⟩ := law_of_post h2 h3 h4 hp
      exact ⟨by rw [a1, hr], a3, fun _ => a2, fun hh => absurd hr hh⟩
    · rw [if_neg hr] at hp
      obtain ⟨a1, a2, a3⟩ := law_of_post h2 h3 h4 hp
      exact ⟨a1, a3, fun hh => absurd hh hr, fun _ => a2⟩
end
/-! ### the rows -/
structure CrMem (w wo wr : World) (f : Nat) (h : DH) (F : Pg) (bw bn bx : Nat) (P : P1) (iv tv : Value) (N : P1) (jv sv : Value) : Prop where
  aw : AtP1 w wr bw P iv tv
  an : AtP1 w wr bn P iv tv
  ax : AtP1 wo wr bx N jv sv
  law : Law9 w wr f h F (fun i => (i = bn ∨ Ow bw iv tv i) ∨ Ow bx jv sv i)
  old : ∀ i, (i = bn ∨ Ow bw iv tv i) → w.heap.size ≤ i ∧ i < wo.heap.size
  bx : wo.heap.size ≤ bx
  wo : w.heap.size ≤ wo.heap.size
section
variable {w wo wr w' : World} {f : Nat} {h : DH} {F F2 : Pg} {bw bn bx : Nat} {P N : P1} {iv tv jv sv : Value}
theorem CrMem.new (m : CrMem w wo wr f h F bw bn bx P iv tv N jv sv) (hk : Keeps wr w' (fun _ => False)) : CrMem w wo w' f h F bw bn bx P iv tv N jv sv :=
  ⟨m.aw.new hk, m.an.new hk, m.ax.new hk, m.law.new hk, m.old, m.bx, m.wo⟩
theorem CrMem.call (m : CrMem w wo wr f h F bw bn bx P iv tv N jv sv) (hL : Law9 w w' f h F2 (fun i => (i = bn ∨ Ow bw iv tv i) ∨ Ow bx jv sv i)) (hk : Keeps wr w' (Apart w (fun i => (i = bn ∨ Ow bw iv tv i) ∨ Ow bx jv sv i))) : CrMem w wo w' f h F2 bw bn bx P iv tv N jv sv :=
  ⟨m.aw.kept hk (fun i hi hh => hh.1 (.inl (.inr hi))), m.an.kept hk (fun i hi hh => hh.1 (.inl (by
    rcases hi with hi | hi
    · exact .inl hi
    · exact .inr (.inr hi)))), m.ax.kept hk (fun i hi hh => hh.1 (.inr hi)), hL, m.old, m.bx, m.wo⟩
theorem CrMem.lowX (m : CrMem w wo wr f h F bw bn bx P iv tv N jv sv) : ∀ i, Ow bx jv sv i → wo.heap.size ≤ i := m.ax.low m.bx
theorem CrMem.lowA (m : CrMem w wo wr f h F bw bn bx P iv tv N jv sv) : ∀ i, (i = bn ∨ Ow bw iv tv i) ∨ Ow bx jv sv i → w.heap.size ≤ i := fun i hi => by
  rcases hi with hi | hi
  · exact (m.old i hi).1
  · exact Nat.le_trans m.wo (m.lowX i hi)
/-- The third row is written, or laid anew. -/
theorem CrMem.grow (m : CrMem w wo wr f h F bw bn bx P iv tv N jv sv) {N' : P1} {jv' sv' : Value} (hk : Keeps wr w' (Ow bx jv sv)) (ha : AtP1 wo w' bx N' jv' sv') (h1 : jv'.ownBlock = jv.ownBlock ∨ ∃ n, jv'.ownBlock = some n ∧ wr.heap.size ≤ n) (h2 : sv'.ownBlock = sv.ownBlock ∨ ∃ n, sv'.ownBlock = some n ∧ wr.heap.size ≤ n) :
    CrMem w wo w' f h F bw bn bx P iv tv N' jv' sv' := by
  have hfar : ∀ i, (i = bn ∨ Ow bw iv tv i) → ¬ Ow bx jv sv i := fun i hi hx => by
    have := (m.old i hi).2
    have := m.lowX i hx
    omega
  have hk2 : Keeps wr w' (fun i => (i = bn ∨ Ow bw iv tv i) ∨ Ow bx jv sv i) := hk.mono (fun i _ hi => .inr hi)
  refine ⟨m.aw.kept hk (fun i hi => hfar i (.inr hi)), m.an.kept hk (fun i hi => hfar i (by
    rcases hi with hi | hi
    · exact .inl hi
    · exact .inr (.inr hi))), ha, m.law.swap hk2 m.lowA (fun i hi => ?_) (fun i hi => ?_), m.old, m.bx, m.wo⟩
  · rcases hi with hi | hi | hi | hi
    · exact .inl (.inl hi)
    · exact .inl (.inr (.inl hi))
    · rcases h1 with e | ⟨n, e, hn⟩
      · exact .inl (.inr (.inr (.inl (e ▸ hi))))
      · right; rw [e] at hi; simp only [Option.some.injEq] at hi; omega
    · rcases h2 with e | ⟨n, e, hn⟩
      · exact .inl (.inr (.inr (.inr (e ▸ hi))))
      · right; rw [e] at hi; simp only [Option.some.injEq] at hi; omega
  · rcases hi with hi | hi
    · exact Nat.lt_of_lt_of_le (m.law.lt i (.inl hi)) hk.size
    · exact ha.lt i hi
end
theorem CrMem.start {w wr w3 w4 w5 : World} {f : Nat} {h : DH} {F : Pg} {bw bn bx : Nat} {P : P1} {iv tv : Value} (hL : Law9 w wr f h F (fun i => i = bn ∨ Ow bw iv tv i)) (haw : AtP1 w wr bw P iv tv) (han : AtP1 w wr bn P iv tv) (hne : bw ≠ bn) (l1 : w.heap.size ≤ bw) (l2 : w.heap.size ≤ bn)
    (hk3 : Keeps wr w3 (· = bw)) (hb3 : w3.heap[bw]? = some (.cells (p1A P.m iv tv) 86 (0, 0))) (hk4 : Keeps w3 w4 (fun _ => False)) (hbx : w3.heap.size ≤ bx) (hk5 : Keeps w4 w5 (· = bx)) (hb5 : w5.heap[bx]? = some (.cells (p1A mt0 (.slice none 0 0) (.slice none 0 0)) 86 (0, 0))) :
    CrMem w w3 w5 f h F bw bn bx P iv tv ⟨mt0, [], []⟩ (.slice none 0 0) (.slice none 0 0) := by
  have a3 := haw.over haw.blk hk3 hb3
  have b3 := han.beside haw.blk hk3 hne.symm
  have lowA : ∀ i, (i = bn ∨ Ow bw iv tv i) → w.heap.size ≤ i := fun i hi => by
    rcases hi with hi | hi
    · rw [hi]; exact l2
    · exact haw.low l1 i hi
  have L3 : Law9 w w3 f h F (fun i => i = bn ∨ Ow bw iv tv i) := hL.wrote (hk3.mono (fun i _ e => .inr (.inl e))) lowA
  have ltA : ∀ i, (i = bn ∨ Ow bw iv tv i) → i < w3.heap.size := L3.lt
  have xs : ∀ i, Ow bx (.slice none 0 0) (.slice none 0 0) i → i = bx := fun i hi => by
    rcases hi with hi | hi | hi
    · exact hi
    · cases hi
    · cases hi
  have ws : w.heap.size ≤ w3.heap.size := L3.keeps.size
  have lx5 := lt_of_blk hb5
  have far : ∀ i, (i = bn ∨ Ow bw iv tv i) → ¬ i = bx := fun i hi e => by
    have := ltA i hi; omega
  have hk35 : Keeps w3 w5 (fun i => w3.heap.size ≤ i) := (hk4.mono (fun _ _ h => h.elim)).trans (hk5.mono (fun i _ e => by show w3.heap.size ≤ i; rw [show i = bx from e]; exact hbx))
  have hk0 : Keeps w3 w5 (fun _ => False) := (Keeps.refl w3 _).then hk35 (fun i hi h => absurd hi (Nat.not_lt.2 h))
  refine ⟨a3.new hk0, b3.new hk0, ⟨hb5, isOwn_nil _ _ _, isOwn_nil _ _ _⟩, L3.more hk0 (fun i hi => ?_) (fun i hi => ?_), fun i hi => ⟨lowA i hi, ltA i hi⟩, hbx, ws⟩
  · rcases hi with hi | hi
    · exact .inl hi
    · right; rw [xs i hi]; exact hbx
  · rcases hi with hi | hi
    · exact Nat.lt_of_lt_of_le (ltA i hi) hk0.size
    · rw [xs i hi]; exact lx5
def CrOut (w : World) (f : Nat) (h : DH) (bw bn q : Nat) (wr : World) : Prop :=
  ∃ F P iv tv, CrOk (4 * q) P.m P.ids P.ts [] [] F ∧ P.m.gen = q + 1 ∧ AtP1 w wr bw P iv tv ∧ AtP1 w wr bn P iv tv ∧ w.heap.size ≤ bw ∧ w.heap.size ≤ bn ∧ Law9 w wr f h F (fun i => i = bn ∨ Ow bw iv tv i)
def CrFin (w : World) (h : DH) (bw bn : Nat) (wx : World) : Prop :=
  ∃ D P Q iv tv jv sv, CrEnd P.m P.ids P.ts Q.m Q.ids Q.ts D ∧ (P = Q ∨ P.m.gen ≠ Q.m.gen) ∧ (P.m.ok ∧ Q.m.ok) ∧ isDev wx h D ∧ AtP1 w wx bw P iv tv ∧ AtP1 w wx bn Q jv sv ∧ (∀ i, h.S i → w.heap.size ≤ i ∧ ¬ Ow bw iv tv i ∧ ¬ Ow bn jv sv i) ∧ D.files.length ≤ 1000000 ∧ Keeps w wx (fun _ => False)
theorem CrFin.new {w wx wy : World} {h : DH} {bw bn : Nat} (hf : CrFin w h bw bn wx) (hk : Keeps wx wy (fun _ => False)) : CrFin w h bw bn wy := by
  obtain ⟨D, P, Q, iv, tv, jv, sv, a1, a2, a9, a3, a4, a5, a6, a7, a8⟩ := hf
  exact ⟨D, P, Q, iv, tv, jv, sv, a1, a2, a9, a3.new hk, a4.new hk, a5.new hk, a6, a7, a8.trans hk⟩
theorem own_cells {w : World} {lo : Nat} {ty : TypeId} {v : Value} {vs : List Value} (h : isOwn w lo ty v vs) : v.cells = #[v] := by
  rcases h.2 with ⟨rfl, _⟩ | ⟨g, cap, cur, rfl, _⟩ <;> rfl
theorem splice4 (m : Mt) (iv tv x : Value) : Wb.splice (p1A m iv tv) 4 #[x] = p1A m x tv := by
  apply Array.toList_inj.1
  simp [Wb.splice, p1A]
theorem splice5 (m : Mt) (iv tv x : Value) : Wb.splice (p1A m iv tv) 5 #[x] = p1A m iv x := by
  apply Array.toList_inj.1
  simp [Wb.splice, p1A]
theorem splice0 (m m' : Mt) (iv tv : Value) : Wb.splice (p1A m iv tv) 0 (metaA m') = p1A m' iv tv := by
  apply Array.toList_inj.1
  simp [Wb.splice, p1A, metaA]
set_option maxRecDepth 100000 in
theorem run_two (m m' : Mt) (iv tv jv sv : Value) (w : World) : (Instr.buildSlice 87 2 #[(0, .agg (p1A m iv tv)), (1, .agg (p1A m' jv sv))]).run Try.prog w = .ok (.slice (some ⟨w.heap.size, 0, none⟩) 2 2) (w.alloc (.cells (p1A m iv tv ++ p1A m' jv sv) 86)) := by
  first | kernel_rfl | rfl
/-- What the file that is opened behind the crash has: that of P or of Q. -/
def Star (P Q G : P1) : Prop := (P = G ∨ P.m.gen ≠ G.m.gen) ∧ (Q = G ∨ Q.m.gen ≠ G.m.gen) ∧ (P = G ∨ Q = G)
theorem star_of {P Q : P1} {l : List Cell} (hpq : P = Q ∨ P.m.gen ≠ Q.m.gen) (h : Wb.Good l P.m P.ids P.ts ∨ Wb.Good l Q.m Q.ids Q.ts) : ∃ G, Star P Q G ∧ Wb.Good l G.m G.ids G.ts := by
  rcases h with h | h
  · refine ⟨P, ⟨.inl rfl, ?_, .inl rfl⟩, h⟩
    rcases hpq with e | e
    · exact .inl e.symm
    · exact .inr (Ne.symm e)
  · refine ⟨Q, ⟨?_, .inl rfl, .inr rfl⟩, h⟩
    rcases hpq with e | e
    · exact .inl e
    · exact .inr e
theorem good_ok {l : List Cell} {m : Mt} {ids : List Nat} {ts : List (List UInt8)} (h : Wb.Good l m ids ts) : m.ok := h.mok.ok
theorem p1_range {w : World} {b : Nat} {m m' : Mt} {iv tv jv sv : Value} {t : TypeId} (hb : w.heap[b]? = some (.cells (p1A m iv tv ++ p1A m' jv sv) t (0, 0))) : w.rangeAt b (0 * 6) (p1A m iv tv).toList ∧ w.rangeAt b (1 * 6) (p1A m' jv sv).toList := by
  constructor
  · intro j v hj
    have hjl := (List.getElem?_eq_some_iff.1 hj).1
    rw [cell_of_block hb, Array.getElem?_append_left (by simpa using hjl)]
    simpa using hj
  · intro j v hj
    rw [cell_of_block hb, Array.getElem?_append_right (by show 6 ≤ _; omega)]
    have e : 1 * 6 + j - (p1A m iv tv).size = j := by show 1 * 6 + j - 6 = j; omega
    rw [e]
    simpa using hj
end Go.Proofs.Ytadjcdfmppcpnaa
namespace Wb
open Go Go.RowKit Go.Maps Go.MapKept Go.ChangeMaps
/-- T{x, y}, of structs. -/
theorem wl_sliceA {P : Program} {w : World} {ops : Array Oper} {rest : List Oper} {o : Oper} {a : Act} {Q : Exit → Act → World → Prop} (hg : o.guard = none) (t : TypeId) (x y : Operand) (hop : o.op = .buildSlice t 2 #[(0, x), (1, y)]) (u v : Value) (hx : a.eval x = u) (hy : a.eval y = v) (C : Array Value) (e : TypeId)
    (hr : ∀ w, (Instr.buildSlice t 2 #[(0, u), (1, v)]).run P w = .ok (.slice (some ⟨w.heap.size, 0, none⟩) 2 2) (w.alloc (.cells C e)))
    (hK : ∀ b w', w.heap.size ≤ b → w'.heap[b]? = some (.cells C e (0, 0)) → Keeps w w' (fun _ => False) → wpList P ops Q rest (a.put o.dst (.slice (some ⟨b, 0, none⟩) 2 2)) w') : wpList P ops Q (o :: rest) a w := by
  refine wpList_plain hg fun K' hK' => ?_
  have hr' := hr w
  unfold Oper.wp execOp
  simp only [hop, List.map_toArray, List.map_cons, List.map_nil, hx, hy, hr', Sem.run_bind, Sem.run_pure, Result.andThen_ok]
  exact hK' _ _ (hK _ _ (Nat.le_refl _) (heap_alloc w _).1 ((Keeps.refl w _).alloc _))
end Wb
namespace Go.Proofs.Ytadjcdfmppcpnaa
open Go Go.RowKit Go.Maps Wb
theorem wrap_is64 (n : Int) : IntKind.i64.wrap n = wrap64 n := by
  first | exact IntWalk.i64_left n | (have h := IntKind.wrap_i64 n; unfold wrap64; first | exact h | simpa using h | (rw [h]; omega))
/-- In a region that draws: a comparison of structs is taken. -/
theorem rg_binW {P : Program} {ops : Array Oper} {Q : Exit → Act → World → Prop} {S : World → Prop} {md : Region.Mode} (i : Nat) (r : Value) {fuel : Nat} {listed : Array Bool} {d : Tmp} {bop : BinOp} {ty ty2 : TypeId} {x y : Operand} {t : TypeId} {pos : String} {after : Array Edge} {g : Option (Nat × Bool)} (hi : ops[i]? = some ⟨some d, .binOp bop ty x y ty2, t, pos, after, g⟩)
    (hs : Region.noSelect ops = true) (hf : Region.free md ops listed i = true) (hr : (Region.ready md ops listed).contains i = true)
    {tmps : Array Value} {defers : List Deferred} {w : World} (hQ : ∀ c a w, Q (.panic c) (a.put (some d) r) w → Q (.panic c) a w) (hS : S w)
    (hw : Region.wanted (⟨some d, .binOp bop ty x y ty2, t, pos, after, g⟩ : Oper) (yielded ops (⟨tmps, defers⟩ : Act).tmps) = true)
    (u v : Value) (hx : (⟨tmps, defers⟩ : Act).eval x = u) (hy : (⟨tmps, defers⟩ : Act).eval y = v) (hg : ∀ w, (eqGuard bop ty x y u v).run P w = .ok () w) (hb : ∀ w, (binOp bop ty u v).run P w = .ok r w)
    (h : wpAnyH P md ops Q S fuel (listed.setIfInBounds i true) ((⟨tmps, defers⟩ : Act).put (some d) r) w) : wpAnyH P md ops Q S (fuel + 1) listed ⟨tmps, defers⟩ w := by
  refine wpAnyH_take hi hs hf hr hQ (.inl ⟨hw, fun w _ => ?_⟩) hS h
  unfold execOp
  simp only [hx, hy, hg, hb, Sem.run_bind, Sem.run_pure, Result.andThen_ok]
theorem own_len {w : World} {lo : Nat} {ty : TypeId} {v : Value} {vs : List Value} (h : isOwn w lo ty v vs) : vs.length ≤ 9223372036854775807 := by
  rcases h.2 with ⟨_, h0⟩ | ⟨g, cap, cur, _, h1, h2, h3, h4, _⟩
  · omega
  · unfold maxLen at h4; omega
theorem crok_mok {n : Nat} {m : Mt} {ids nids : List Nat} {ts nts : List (List UInt8)} {F : Pg} (h : CrOk n m ids ts nids nts F) : m.ok := by
  obtain ⟨fu, l, _, h2, _⟩ := h.d
  exact h2.mok.ok
theorem p1_meta {w : World} {b : Nat} {m : Mt} {iv tv : Value} {t : TypeId} (hb : w.heap[b]? = some (.cells (p1A m iv tv) t (0, 0))) : w.rangeAt b 0 (metaA m).toList := by
  intro j v hj
  rw [cell_of_block hb]
  match j, hj with
  | 0, hj => simpa [metaA, p1A] using hj
  | 1, hj => simpa [metaA, p1A] using hj
  | 2, hj => simpa [metaA, p1A] using hj
  | 3, hj => simpa [metaA, p1A] using hj
  | j + 4, hj => simp [metaA] at hj
theorem range_all {w : World} {b : Nat} {A : Array Value} {t : TypeId} (hb : w.heap[b]? = some (.cells A t (0, 0))) : w.rangeAt b 0 A.toList := by
  intro j v hj
  rw [cell_of_block hb, Nat.zero_add]
  simpa using hj
section
variable {w wo wr w' w1 : World} {f : Nat} {h : DH} {F : Pg} {bw bn bx : Nat} {P N : P1} {iv tv jv sv : Value}
/-- What stands when a commit fell: the third row is kept as what was begun. -/
theorem CrMem.fin (m : CrMem w wo wr f h F bw bn bx P iv tv N jv sv) (hne : bw ≠ bn) {D : Dv} (hD : F.d = D) (hend : CrEnd P.m P.ids P.ts N.m N.ids N.ts D) (hg : P.m.gen ≠ N.m.gen) (hok : P.m.ok ∧ N.m.ok) (hk : Keeps wr w' (· = bn)) (hb : w'.heap[bn]? = some (.cells (p1A N.m jv sv) 86 (0, 0))) : CrFin w h bw bn w' := by
  have hL := m.law.wrote (hk.mono (fun i _ e => .inl (.inl e))) m.lowA
  refine ⟨D, P, N, iv, tv, jv, sv, hend, .inr hg, hok, hD ▸ hL.dev, m.aw.beside m.an.blk hk hne, (m.ax.over m.an.blk hk hb).less m.wo, fun i hi => ⟨(hL.devS i hi).2, fun hh => (hL.devS i hi).1 (.inl (.inr hh)), fun hh => (hL.devS i hi).1 ?_⟩, ?_, hL.keeps⟩
  · rcases hh with hh | hh
    · exact .inl (.inl hh)
    · exact .inr (.inr hh)
  · obtain ⟨fu, l, a, _⟩ := hend
    rw [a]; show 1 ≤ 1000000; decide
/-- What stands behind a commit. -/
theorem CrMem.out (m : CrMem w wo wr f h F bw bn bx P iv tv N jv sv) (hne : bw ≠ bn) (hxw : bx ≠ bw) {q : Nat} (hok : CrOk (4 * q) N.m N.ids N.ts [] [] F) (hg : N.m.gen = q + 1) (lo1 : w.heap.size ≤ bw) (lo2 : w.heap.size ≤ bn) (hk1 : Keeps wr w1 (· = bw)) (hb1 : w1.heap[bw]? = some (.cells (p1A N.m jv sv) 86 (0, 0)))
    (hk2 : Keeps w1 w' (· = bn)) (hb2 : w'.heap[bn]? = some (.cells (p1A N.m jv sv) 86 (0, 0))) : CrOut w f h bw bn q w' := by
  have x1 := m.ax.beside m.aw.blk hk1 hxw
  have a1 := m.ax.over m.aw.blk hk1 hb1
  have n1 := hk1.blk m.an.blk (fun e => hne e.symm)
  have a2 := a1.beside n1 hk2 hne
  have b2 := x1.over n1 hk2 hb2
  have hkk : Keeps wr w' (fun i => (i = bn ∨ Ow bw iv tv i) ∨ Ow bx jv sv i) := (hk1.mono (fun i _ e => .inl (.inr (.inl e)))).trans (hk2.mono (fun i _ e => .inl (.inl e)))
  have sub : ∀ i, (i = bn ∨ Ow bw jv sv i) → (i = bn ∨ Ow bw iv tv i) ∨ Ow bx jv sv i := fun i hi => by
    rcases hi with hi | hi | hi
    · exact .inl (.inl hi)
    · exact .inl (.inr (.inl hi))
    · exact .inr (.inr hi)
  exact ⟨F, N, jv, sv, hok, hg, a2.less m.wo, b2.less m.wo, lo1, lo2, m.law.swap hkk m.lowA (fun i hi => .inl (sub i hi)) (fun i hi => Nat.lt_of_lt_of_le (m.law.lt i (sub i hi)) hkk.size)⟩
end
theorem cr_rows {n : Nat} {m : Mt} {ids nids : List Nat} {ts nts : List (List UInt8)} {F : Pg} (h : CrOk n m ids ts nids nts F) : ∀ id ∈ nids, 2 ≤ id ∧ id < pagesOf F.d := by
  obtain ⟨fu, l, h1, h2, h3, h4, h5⟩ := h.d
  intro id hid
  obtain ⟨j, hj⟩ := List.mem_iff_getElem?.1 hid
  obtain ⟨g1, b, g2, g3, g4⟩ := h3.2 j id hj
  have := (g4 7 (by omega)).lt
  rw [h1, fus_pages]
  omega
theorem cr_rise {n : Nat} {m : Mt} {ids nids : List Nat} {ts nts : List (List UInt8)} {F : Pg} (h : CrOk n m ids ts nids nts F) {ys : List Int} (hp : ys.Perm (nI nids)) (hs : SortedTo ys ys.length) : Rising F ys :=
  rising_sorted hs (hp.nodup_iff.2 (nodup_ints h.nodup)) fun x hx => by
    obtain ⟨k, hk, rfl⟩ := List.mem_map.1 (hp.mem_iff.1 hx)
    have := cr_rows h k hk
    unfold isPg
    simp only [Bool.and_eq_true, decide_eq_true_eq]
    omega
/-- The commit that the statement makes. -/
theorem cr_ask {n : Nat} {m : Mt} {ids nids : List Nat} {ts nts : List (List UInt8)} {F : Pg} (h : CrOk n m ids ts nids nts F) (hw : pagesOf F.d ≤ 12500) (hgen : m.gen ≤ 100) {ys : List Int} (hp : ys.Perm (nI nids)) (hs : SortedTo ys ys.length) {id0 q mk : Nat} (h0 : nids[0]? = some id0) (hq : q ≤ 100) (hmk : mk < 256) :
    nextMt F (id0 : Int) (q : Int) mk = ⟨m.gen + 1, id0, q, mk⟩ ∧ commitOk F (id0 : Int) (q : Int) ys ∧ F.mt.gen + 1 < 2 ^ 64 ∧ CrMt (nextMt F (id0 : Int) (q : Int) mk) nids ∧ ∀ id ∈ nids, (id : Int) ∈ ys := by
  have hmem := List.mem_of_getElem? h0
  have hr := cr_rows h id0 hmem
  have e : nextMt F (id0 : Int) (q : Int) mk = ⟨m.gen + 1, id0, q, mk⟩ := by unfold nextMt; rw [h.mt]; simp
  have hin : ∀ id ∈ nids, (id : Int) ∈ ys := fun id hid => hp.mem_iff.2 (List.mem_map.2 ⟨id, hid, rfl⟩)
  refine ⟨e, ⟨cr_rise h hp hs, .inr (hin _ hmem), by omega, by omega⟩, by rw [h.mt]; omega, ?_, hin⟩
  rw [e]
  refine ⟨⟨?_, ?_, ?_, ?_⟩, ?_, .inr hmem, ?_, ?_⟩ <;> simp only <;> omega
end Go.Proofs.Ytadjcdfmppcpnaa
