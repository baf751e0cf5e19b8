import Derived.Test.YtblpkifkaoaicaaGreatYSlB
import Derived.Laws.Slices
/-! s[i:j], the place where it begins under one name. -/
namespace Wb
open Go Go.RowKit Go.Maps Go.MapKept Go.ChangeMaps
variable {P : Program} {w w' : World} {ops : Array Oper} {rest : List Oper} {o : Oper} {a : Act} {Q : Exit → Act → World → Prop}

def cutA (ad : Option Addr) (c l sz : Nat) : Option Addr := if c = l then ad else ad.map (·.add (l * sz))
theorem cutA_at {ad : Option Addr} {c l sz g off : Nat} (h : ad = some ⟨g, off, none⟩) (hl : l < c) : cutA ad c l sz = some ⟨g, off + l * sz, none⟩ := by
  unfold cutA
  rw [if_neg (by omega), h, Option.map_some, addr_add]
theorem cutA_none {ad : Option Addr} {c l sz : Nat} (h : cutA ad c l sz = none) : ad = none := by
  unfold cutA at h
  split at h
  · exact h
  · cases ad with
    | none => rfl
    | some ad => cases h
theorem run_cut (t e : TypeId) (ht : P.underlying t = some (.slice e)) (sz : Nat) (hsz : (P.info? e).map (·.size) = some sz) (ad : Option Addr) (n c : Nat) (l h : Nat) (L : Int) (hi : Option Value) (hL : L = l) (hhi : hi = some (.int .i64 h) ∨ (hi = none ∧ h = n)) (h1 : l ≤ h) (h2 : h ≤ c) :
    (Instr.sliceAt t (.slice ad n c) (some (.int .i64 L)) hi none).run P w = .ok (.slice (cutA ad c l sz) (h - l) (c - l)) w := by
  have hs : (Go.sizeOf e).run P w = .ok sz w := by
    cases hq : P.info? e with
    | none => simp [hq] at hsz
    | some i => have : i.size = sz := by simpa [hq] using hsz
                simp [Go.sizeOf, typeInfo, hq, this]
  have hl0 : (0 : Int) ≤ l := by omega
  have hlh : (l : Int) ≤ h := by omega
  have hh0 : (0 : Int) ≤ h := by omega
  have hhc : (h : Int) ≤ c := by omega
  rw [hL]
  rcases hhi with hq | ⟨hq, rfl⟩
  · rw [hq]
    simp [Instr.sliceAt, Instr.slice, run_underlying ht, Instr.sliceBounds, run_sliceBound, hs, hl0, hlh, hh0, hhc, cutA, h1, h2]
  · rw [hq]
    simp [Instr.sliceAt, Instr.slice, run_underlying ht, Instr.sliceBounds, run_sliceBound, hs, hl0, hlh, hh0, hhc, cutA, h1, h2]
theorem ws_cut {Qs : Act → Prop} (hg : o.guard = none) (t e : TypeId) (x : Operand) (lo hi : Option Operand) (hop : o.op = .slice t x lo hi none) (ht : P.underlying t = some (.slice e)) (sz : Nat) (hsz : (P.info? e).map (·.size) = some sz) (ad : Option Addr) (n c : Nat) (hx : a.eval x = .slice ad n c)
    (l h : Nat) (L : Int) (hlo : lo.map a.eval = some (.int .i64 L)) (hL : L = l) (hhi : hi.map a.eval = some (.int .i64 h) ∨ (hi.map a.eval = none ∧ h = n)) (h1 : l ≤ h) (h2 : h ≤ c)
    (hK : wpStill P ops w Qs rest (a.put o.dst (.slice (cutA ad c l sz) (h - l) (c - l)))) : wpStill P ops w Qs (o :: rest) a := by
  refine wpStill_step fun K hK' => ?_
  rw [if_pos (by simp [Region.wanted, hg])]
  have hrun := run_cut (P := P) (w := w) t e ht sz hsz ad n c l h L (hi.map a.eval) hL hhi h1 h2
  unfold Oper.still execOp
  simp only [hop, hx, hlo, Option.map_none, hrun, Sem.run_bind, Sem.run_pure, Result.andThen_ok]
  exact ⟨rfl, hK' _ hK⟩
theorem wl_cut (hg : o.guard = none) (t e : TypeId) (x : Operand) (lo hi : Option Operand) (hop : o.op = .slice t x lo hi none) (ht : P.underlying t = some (.slice e)) (sz : Nat) (hsz : (P.info? e).map (·.size) = some sz) (ad : Option Addr) (n c : Nat) (hx : a.eval x = .slice ad n c)
    (l h : Nat) (L : Int) (hlo : lo.map a.eval = some (.int .i64 L)) (hL : L = l) (hhi : hi.map a.eval = some (.int .i64 h) ∨ (hi.map a.eval = none ∧ h = n)) (h1 : l ≤ h) (h2 : h ≤ c)
    (hK : wpList P ops Q rest (a.put o.dst (.slice (cutA ad c l sz) (h - l) (c - l))) w) : wpList P ops Q (o :: rest) a w := by
  refine wpList_plain hg fun K' hK' => ?_
  have hrun := run_cut (P := P) (w := w) t e ht sz hsz ad n c l h L (hi.map a.eval) hL hhi h1 h2
  unfold Oper.wp execOp
  simp only [hop, hx, hlo, Option.map_none, hrun, Sem.run_bind, Sem.run_pure, Result.andThen_ok]
  exact hK' _ _ hK
/-- A part of a slice, however it begins. -/
theorem isRdA.cut {sz l h c n : Nat} {ad : Option Addr} {rows : List (Array Value)} (hr : isRdA w sz (.slice ad n c) rows) (h1 : l ≤ h) (h2 : h ≤ n) : isRdA w sz (.slice (cutA ad c l sz) (h - l) (c - l)) ((rows.take h).drop l) := hr.part h1 h2 fun _ _ e hl => cutA_at e hl
theorem isRd.cut {l h c n : Nat} {ad : Option Addr} {vs : List Value} (hr : isRd w (.slice ad n c) vs) (h1 : l ≤ h) (h2 : h ≤ n) : isRd w (.slice (cutA ad c l 1) (h - l) (c - l)) ((vs.take h).drop l) := hr.part h1 h2 fun g off e hl => by rw [cutA_at e hl, Nat.mul_one]
theorem cut_nil {ad : Option Addr} {c l sz n m : Nat} (hc : ∀ cap, Value.slice ad n c = .slice none 0 cap → cap = 0) (hn : ad = none → n = 0) : ∀ cap, Value.slice (cutA ad c l sz) m (c - l) = .slice none 0 cap → cap = 0 := by
  intro cap h
  injection h with e1 e2 e3
  have h0 := cutA_none e1
  subst h0
  have := hc c (by rw [hn rfl])
  omega
theorem ws_build {Qs : Act → Prop} (hg : o.guard = none) (ty : TypeId) (parts : List (Nat × Operand)) (hop : o.op = .build ty parts.toArray) (vs : List (Nat × Value)) (hv : (parts.map fun p => (p.1, a.eval p.2)) = vs) (v : Value)
    (hb : ∀ w, (Instr.build ty vs.toArray).run P w = .ok v w) (hK : wpStill P ops w Qs rest (a.put o.dst v)) : wpStill P ops w Qs (o :: rest) a := by
  refine wpStill_step fun K hK' => ?_
  rw [if_pos (by simp [Region.wanted, hg])]
  have hv' : (parts.map fun (x : Nat × Operand) => match x with | (i, x) => (i, a.eval x)) = vs := hv
  unfold Oper.still execOp
  simp only [hop, List.map_toArray, hv', hb w, Sem.run_bind, Sem.run_pure, Result.andThen_ok]
  exact ⟨rfl, hK' _ hK⟩
theorem isOwn.shapeN {lo : Nat} {e : TypeId} {v : Value} {vs : List Value} (h : isOwn w lo e v vs) : ∃ ad cap, v = .slice ad vs.length cap := by
  rcases h.2 with ⟨rfl, h0⟩ | ⟨g, cap, cur, rfl, _⟩
  · exact ⟨none, 0, by rw [h0]⟩
  · exact ⟨_, _, rfl⟩
/-- A part of a slice, in a drawn region. -/
theorem rg_cut {S : World → Prop} {md : Region.Mode} (i : Nat) {fuel : Nat} {listed : Array Bool} {d : Tmp} {t e : TypeId} {x lo : Operand} {hi : Option Operand} {ty : TypeId} {pos : String} {after : Array Edge} {g : Option (Nat × Bool)} (hi' : ops[i]? = some ⟨some d, .slice t x (some lo) hi none, ty, pos, after, g⟩)
    (hs : Region.noSelect ops = true) (hf : Region.free md ops listed i = true) (hr : (Region.ready md ops listed).contains i = true)
    {tmps : Array Value} {defers : List Deferred} {w : World} (sz : Nat) (ad : Option Addr) (n c l h : Nat) (L : Int)
    (hQ : ∀ cc a w, Q (.panic cc) (a.put (some d) (.slice (cutA ad c l sz) (h - l) (c - l))) w → Q (.panic cc) a w) (hS : S w)
    (hw : Region.wanted (⟨some d, .slice t x (some lo) hi none, ty, pos, after, g⟩ : Oper) (yielded ops (⟨tmps, defers⟩ : Act).tmps) = true)
    (ht : P.underlying t = some (.slice e)) (hsz : (P.info? e).map (·.size) = some sz) (hx : (⟨tmps, defers⟩ : Act).eval x = .slice ad n c)
    (hlo : (⟨tmps, defers⟩ : Act).eval lo = .int .i64 L) (hL : L = l) (hhi : hi.map (⟨tmps, defers⟩ : Act).eval = some (.int .i64 h) ∨ (hi.map (⟨tmps, defers⟩ : Act).eval = none ∧ h = n)) (h1 : l ≤ h) (h2 : h ≤ c)
    (hK : wpAnyH P md ops Q S fuel (listed.setIfInBounds i true) ((⟨tmps, defers⟩ : Act).put (some d) (.slice (cutA ad c l sz) (h - l) (c - l))) w) : wpAnyH P md ops Q S (fuel + 1) listed ⟨tmps, defers⟩ w :=
  rg_take i hi' hs hf hr hQ hS hw (fun w _ => by
    have hrun := run_cut (P := P) (w := w) t e ht sz hsz ad n c l h L (hi.map (⟨tmps, defers⟩ : Act).eval) hL hhi h1 h2
    unfold execOp
    simp only [hx, hlo, Option.map_none, Option.map_some, hrun, Sem.run_bind, Sem.run_pure, Result.andThen_ok]) hK
/-- A struct is built, in a drawn region. -/
theorem rg_build {S : World → Prop} {md : Region.Mode} (i : Nat) {fuel : Nat} {listed : Array Bool} {d : Tmp} {t : TypeId} {ty : TypeId} {pos : String} {after : Array Edge} {g : Option (Nat × Bool)} (parts : List (Nat × Operand)) (hi' : ops[i]? = some ⟨some d, .build t parts.toArray, ty, pos, after, g⟩)
    (hs : Region.noSelect ops = true) (hf : Region.free md ops listed i = true) (hr : (Region.ready md ops listed).contains i = true)
    {tmps : Array Value} {defers : List Deferred} {w : World} (v : Value)
    (hQ : ∀ cc a w, Q (.panic cc) (a.put (some d) v) w → Q (.panic cc) a w) (hS : S w)
    (hw : Region.wanted (⟨some d, .build t parts.toArray, ty, pos, after, g⟩ : Oper) (yielded ops (⟨tmps, defers⟩ : Act).tmps) = true)
    (vs : List (Nat × Value)) (hv : (parts.map fun p => (p.1, (⟨tmps, defers⟩ : Act).eval p.2)) = vs) (hb : ∀ w, (Instr.build t vs.toArray).run P w = .ok v w)
    (hK : wpAnyH P md ops Q S fuel (listed.setIfInBounds i true) ((⟨tmps, defers⟩ : Act).put (some d) v) w) : wpAnyH P md ops Q S (fuel + 1) listed ⟨tmps, defers⟩ w :=
  rg_take i hi' hs hf hr hQ hS hw (fun w _ => by
    have hv' : (parts.map fun (x : Nat × Operand) => match x with | (i, x) => (i, (⟨tmps, defers⟩ : Act).eval x)) = vs := hv
    unfold execOp
    simp only [List.map_toArray, hv', hb w, Sem.run_bind, Sem.run_pure, Result.andThen_ok]) hK
theorem flat_self : ∀ (vs : List Value), (∀ v ∈ vs, v.cells = #[v]) → (vs.flatMap fun v => v.cells.toList) = vs
  | [], _ => rfl
  | v :: r, h => by
    rw [List.flatMap_cons, h v (by simp), flat_self r (fun x hx => h x (by simp [hx]))]
    rfl
/-- []T{x, y, ..}, one cell an element. -/
theorem wl_sliceVs (hg : o.guard = none) (t : TypeId) (xs : List Operand) (hop : o.op = .buildSlice t xs.length ((xs.zipIdx 0).map fun p => (p.2, p.1)).toArray) (e : TypeId) (z : Value) (by1 : Nat) (ht : P.underlying t = some (.slice e)) (h2 : (P.info? e).map (fun i => (i.zero, i.size, i.bytes)) = some (some z, 1, by1)) (hzc : z.cells = #[z])
    (vs : List Value) (hvs : xs.map a.eval = vs) (h1 : ∀ v ∈ vs, v.cells = #[v]) (hne : 0 < vs.length) (hsm : vs.length ≤ 1000)
    (hK : ∀ b w', w.heap.size ≤ b → w'.heap[b]? = some (.cells vs.toArray e (0, 0)) → Keeps w w' (fun _ => False) → wpList P ops Q rest (a.put o.dst (.slice (some ⟨b, 0, none⟩) xs.length xs.length)) w') : wpList P ops Q (o :: rest) a w := by
  obtain ⟨i, hi, hz0, hs0, hb0⟩ := info_parts' h2
  have hxl : xs.length = vs.length := by rw [← hvs, List.length_map]
  refine wpList_buildSlice hg t e xs.length _ hop vs.toArray i z ht hi hz0 (by rw [hs0, hxl]; omega) (by rw [hs0, hxl]; omega) ?_ (hK _ _ (Nat.le_refl _) (heap_alloc w _).1 ((Keeps.refl w _).alloc _))
  have e1 : (((xs.zipIdx 0).map fun (p : Operand × Nat) => (p.2, p.1)).toArray.map fun (p : Nat × Operand) => (p.1, a.eval p.2)).toList = ((vs.zipIdx 0).map fun (p : Value × Nat) => (p.2, p.1)) := by
    rw [← hvs]
    simp [List.zipIdx_map, Function.comp_def]
  have e2 := Great.fill_whole (s := i.size) (by omega) vs ((Array.range (xs.length * i.size)).map (z.cells[· % z.cells.size]!)) (fun v hv => by rw [h1 v hv, hs0]; rfl) (by simp [hxl])
  rw [flat_self vs h1] at e2
  exact (congrArg _ e1).trans e2
theorem rd_made {vs : List Value} {b : Nat} {e : TypeId} (hb : w.heap[b]? = some (.cells vs.toArray e (0, 0))) : isRd w (.slice (some ⟨b, 0, none⟩) vs.length vs.length) vs :=
  ⟨_, vs.length, rfl, Nat.le_refl _, fun j x hj => ⟨b, 0, rfl, lt_of_blk hb, by unfold World.cell?; rw [hb]; simpa using hj⟩⟩
theorem run_cutH (t e : TypeId) (ht : P.underlying t = some (.slice e)) (sz : Nat) (hsz : (P.info? e).map (·.size) = some sz) (ad : Option Addr) (n c : Nat) (h : Nat) (H : Int) (hH : H = h) (h2 : h ≤ c) :
    (Instr.sliceAt t (.slice ad n c) none (some (.int .i64 H)) none).run P w = .ok (.slice ad h c) w := by
  have hs : (Go.sizeOf e).run P w = .ok sz w := by
    cases hq : P.info? e with
    | none => simp [hq] at hsz
    | some i => have : i.size = sz := by simpa [hq] using hsz
                simp [Go.sizeOf, typeInfo, hq, this]
  have hh0 : (0 : Int) ≤ h := by omega
  have hhc : (h : Int) ≤ c := by omega
  rw [hH]
  have e1 : (if c = 0 then ad else ad.map (·.add 0)) = ad := by
    split
    · rfl
    · cases ad with
      | none => rfl
      | some ad => rfl
  simp only [Instr.sliceAt, Instr.slice, run_underlying ht, Instr.sliceBounds, run_sliceBound, hs, hh0, hhc, h2, Sem.run_bind, Sem.run_pure, Result.andThen_ok, Int.toNat_natCast, Nat.zero_mul, Nat.sub_zero, e1]
theorem wl_cutH (hg : o.guard = none) (t e : TypeId) (x : Operand) (hi : Option Operand) (hop : o.op = .slice t x none hi none) (ht : P.underlying t = some (.slice e)) (sz : Nat) (hsz : (P.info? e).map (·.size) = some sz) (ad : Option Addr) (n c : Nat) (hx : a.eval x = .slice ad n c)
    (h : Nat) (H : Int) (hhi : hi.map a.eval = some (.int .i64 H)) (hH : H = h) (h2 : h ≤ c)
    (hK : wpList P ops Q rest (a.put o.dst (.slice ad h c)) w) : wpList P ops Q (o :: rest) a w := by
  refine wpList_plain hg fun K' hK' => ?_
  have hrun := run_cutH (P := P) (w := w) t e ht sz hsz ad n c h H hH h2
  unfold Oper.wp execOp
  simp only [hop, hx, hhi, Option.map_none, hrun, Sem.run_bind, Sem.run_pure, Result.andThen_ok]
  exact hK' _ _ hK
theorem rg_cutH {S : World → Prop} {md : Region.Mode} (i : Nat) {fuel : Nat} {listed : Array Bool} {d : Tmp} {t e : TypeId} {x hi : Operand} {ty : TypeId} {pos : String} {after : Array Edge} {g : Option (Nat × Bool)} (hi' : ops[i]? = some ⟨some d, .slice t x none (some hi) none, ty, pos, after, g⟩)
    (hs : Region.noSelect ops = true) (hf : Region.free md ops listed i = true) (hr : (Region.ready md ops listed).contains i = true)
    {tmps : Array Value} {defers : List Deferred} {w : World} (sz : Nat) (ad : Option Addr) (n c h : Nat) (H : Int)
    (hQ : ∀ cc a w, Q (.panic cc) (a.put (some d) (.slice ad h c)) w → Q (.panic cc) a w) (hS : S w)
    (hw : Region.wanted (⟨some d, .slice t x none (some hi) none, ty, pos, after, g⟩ : Oper) (yielded ops (⟨tmps, defers⟩ : Act).tmps) = true)
    (ht : P.underlying t = some (.slice e)) (hsz : (P.info? e).map (·.size) = some sz) (hx : (⟨tmps, defers⟩ : Act).eval x = .slice ad n c)
    (hhi : (⟨tmps, defers⟩ : Act).eval hi = .int .i64 H) (hH : H = h) (h2 : h ≤ c)
    (hK : wpAnyH P md ops Q S fuel (listed.setIfInBounds i true) ((⟨tmps, defers⟩ : Act).put (some d) (.slice ad h c)) w) : wpAnyH P md ops Q S (fuel + 1) listed ⟨tmps, defers⟩ w :=
  rg_take i hi' hs hf hr hQ hS hw (fun w _ => by
    have hrun := run_cutH (P := P) (w := w) t e ht sz hsz ad n c h H hH h2
    unfold execOp
    simp only [hx, hhi, Option.map_none, Option.map_some, hrun, Sem.run_bind, Sem.run_pure, Result.andThen_ok]) hK
theorem isRdA.cutH {sz h c n : Nat} {ad : Option Addr} {rows : List (Array Value)} (hr : isRdA w sz (.slice ad n c) rows) (h2 : h ≤ n) : isRdA w sz (.slice ad h c) (rows.take h) := by
  have := hr.part (lo := 0) (ad' := ad) (Nat.zero_le h) h2 (fun g off e _ => by rw [e, Nat.zero_mul, Nat.add_zero])
  simpa using this
theorem isRd.cutH {h c n : Nat} {ad : Option Addr} {vs : List Value} (hr : isRd w (.slice ad n c) vs) (h2 : h ≤ n) : isRd w (.slice ad h c) (vs.take h) := by
  have := hr.part (lo := 0) (ad' := ad) (Nat.zero_le h) h2 (fun g off e _ => by rw [e, Nat.add_zero])
  simpa using this
end Wb
