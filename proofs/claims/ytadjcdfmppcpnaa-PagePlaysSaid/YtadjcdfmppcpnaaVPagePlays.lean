import Derived.Test.YtadjcdfmppcpnaaYH3
import Derived.Test.YtadjcdfmppcpnaaYM9
import Derived.Test.YtadjcdfmppcpnaaArgO
/-! Layer 9: the walk of PagePlays. -/
namespace Go.Proofs.Ytadjcdfmppcpnaa
open Go Go.RowKit Go.Maps Wb

def PlRel (w : World) (f : Nat) (h : DH) (i : Nat) (u k t g : Value) (wr : World) : Prop :=
  ∃ F us ks ts, PlOk i us ks ts F ∧ g = .int .u64 F.mt.gen ∧ 1 ≤ F.mt.gen ∧ F.mt.gen ≤ 1 + i ∧ PlMem w wr f h F (fun _ => False) u k t us ks ts
def opA (x y z : Int) : Array Value := #[.int .i64 x, .int .i64 y, .int .i64 z]
theorem zeroO (w : World) : (zeroValue 77).run Try.prog w = .ok (.agg (opA 0 0 0)) w := by kernel_rfl
theorem infoO : (Try.prog.info? 77).map (·.size) = some 3 := by kernel_rfl
theorem opA_one (x y z : Int) : (opA x y z).all (·.oneCell') = true := by simp [opA, Value.oneCell']
theorem store_op (x y z : Int) : Wb.splice (opA 0 0 0) 0 (opA x y z) = opA x y z := store_whole _ _ rfl
theorem isOwn_two {w : World} {lo b : Nat} {ty : TypeId} {x y : Value} (hb : w.heap[b]? = some (.cells #[x, y] ty (0, 0))) (hlo : lo ≤ b) : isOwn w lo ty (.slice (some ⟨b, 0, none⟩) 2 2) [x, y] :=
  isOwn_made (vs := [x, y]) hb hlo (by unfold maxLen; simp)
theorem PlMem.shape {w0 w : World} {f : Nat} {dv : DH} {F : Pg} {O : Nat → Prop} {u k t : Value} {us ks : List Bool} {ts : List (List UInt8)} {n : Nat} (h : PlMem w0 w f dv F O u k t us ks ts) (h2 : 2 ≤ n) (hu : us.length = n) (hk : ks.length = n) (ht : ts.length = n) :
    ∃ gu cu gk ck gt ct, u = .slice (some ⟨gu, 0, none⟩) n cu ∧ k = .slice (some ⟨gk, 0, none⟩) n ck ∧ t = .slice (some ⟨gt, 0, none⟩) n ct ∧ ¬ gk = gu ∧ ¬ gt = gu ∧ ¬ gt = gk := by
  obtain ⟨gu, cu, e1, _⟩ := isOwn.at h.iu (boolsV_at (List.getElem?_eq_getElem (show 0 < us.length by omega)))
  obtain ⟨gk, ck, e2, _⟩ := isOwn.at h.ik (boolsV_at (List.getElem?_eq_getElem (show 0 < ks.length by omega)))
  obtain ⟨gt, ct, e3, _⟩ := isOwn.at h.it (textsV_at (List.getElem?_eq_getElem (show 0 < ts.length by omega)))
  rw [boolsV_len, hu] at e1
  rw [boolsV_len, hk] at e2
  rw [textsV_len, ht] at e3
  refine ⟨gu, cu, gk, ck, gt, ct, e1, e2, e3, fun e => ?_, fun e => ?_, fun e => ?_⟩
  · exact h.uk gu (by rw [e1]; rfl) (by rw [e2, e]; rfl)
  · exact h.ut gu (by rw [e1]; rfl) (by rw [e3, e]; rfl)
  · exact h.kt gk (by rw [e2]; rfl) (by rw [e3, e]; rfl)

theorem one_bool {b : Bool} : ∀ u ∈ [Value.bool b], u.oneCell' = true := fun u hu => by rw [List.mem_singleton.1 hu]; rfl
theorem one_text {b : ByteArray} : ∀ u ∈ [Value.string b], u.oneCell' = true := fun u hu => by rw [List.mem_singleton.1 hu]; rfl
section
variable {w0 w w' : World} {f : Nat} {dv : DH} {F : Pg} {O : Nat → Prop} {u k t v' : Value} {us ks : List Bool} {ts : List (List UInt8)} {b : Bool}
theorem PlMem.appU (h : PlMem w0 w f dv F O u k t us ks ts) (ha : Appended w w0.heap.size 4 u (boolsV us ++ [.bool b]) v' w') : PlMem w0 w' f dv F O v' k t (us ++ [b]) ks ts :=
  h.wroteU (by have : boolsV (us ++ [b]) = boolsV us ++ [.bool b] := by simp [boolsV]
               rw [this]; exact ha.1) ha.2.1 ha.2.2
theorem PlMem.appK (h : PlMem w0 w f dv F O u k t us ks ts) (ha : Appended w w0.heap.size 4 k (boolsV ks ++ [.bool b]) v' w') : PlMem w0 w' f dv F O u v' t us (ks ++ [b]) ts :=
  h.wroteK (by have : boolsV (ks ++ [b]) = boolsV ks ++ [.bool b] := by simp [boolsV]
               rw [this]; exact ha.1) ha.2.1 ha.2.2
theorem PlMem.appT (h : PlMem w0 w f dv F O u k t us ks ts) (ha : Appended w w0.heap.size 9 t (textsV ts ++ [.string ByteArray.empty]) v' w') : PlMem w0 w' f dv F O u k v' us ks (ts ++ [[]]) :=
  h.wroteT (by have : textsV (ts ++ [[]]) = textsV ts ++ [.string ByteArray.empty] := by rw [textsV, List.map_append]; rfl
               rw [this]; exact ha.1) ha.2.1 ha.2.2
end
def PlayPut (w : World) (f : Nat) (h : DH) (F2 : Pg) (q p ob : Nat) (V : Int) (u k t : Value) (wx : World) : Prop :=
  ∃ us ks ts n, us.length = n ∧ ks.length = n ∧ ts.length = n ∧ 2 ≤ n ∧ p < n ∧ n ≤ 63 + q ∧ PlOk (q + 1) (us.set p true) ks (ts.set p (wholeP (fillL V))) F2 ∧ PlMem w wx f h F2 (fun g => g = ob) u k t us ks ts ∧ ∃ kd K, wx.heap[ob]? = some (.cells (opA kd V K) 77 (0, 0))
def PlayFree (w : World) (f : Nat) (h : DH) (F : Pg) (u k t : Value) (us ks : List Bool) (ts : List (List UInt8)) (c : Nat) (v : Value) (wx : World) : Prop :=
  isOwn wx w.heap.size 3 v (intV ((freeUpTo F c).map fun (k : Nat) => (k : Int))) ∧ PlMem w wx f h F (fun g => v.ownBlock = some g) u k t us ks ts
/-- In a region that draws: a comparison of structs is taken. -/
theorem rg_bin {P : Program} {ops : Array Oper} {Q : Exit → Act → World → Prop} {S : World → Prop} {md : Region.Mode} (i : Nat) (r : Value) {fuel : Nat} {listed : Array Bool} {d : Tmp} {bop : BinOp} {ty ty2 : TypeId} {x y : Operand} {t : TypeId} {pos : String} {after : Array Edge} {g : Option (Nat × Bool)} (hi : ops[i]? = some ⟨some d, .binOp bop ty x y ty2, t, pos, after, g⟩)
    (hs : Region.noSelect ops = true) (hf : Region.free md ops listed i = true) (hr : (Region.ready md ops listed).contains i = true)
    {tmps : Array Value} {defers : List Deferred} {w : World} (hQ : ∀ c a w, Q (.panic c) (a.put (some d) r) w → Q (.panic c) a w) (hS : S w)
    (hw : Region.wanted (⟨some d, .binOp bop ty x y ty2, t, pos, after, g⟩ : Oper) (yielded ops (⟨tmps, defers⟩ : Act).tmps) = true)
    (u v : Value) (hx : (⟨tmps, defers⟩ : Act).eval x = u) (hy : (⟨tmps, defers⟩ : Act).eval y = v) (hg : ∀ w, (eqGuard bop ty x y u v).run P w = .ok () w) (hb : ∀ w, (binOp bop ty u v).run P w = .ok r w)
    (h : wpAnyH P md ops Q S fuel (listed.setIfInBounds i true) ((⟨tmps, defers⟩ : Act).put (some d) r) w) : wpAnyH P md ops Q S (fuel + 1) listed ⟨tmps, defers⟩ w := by
  refine wpAnyH_take hi hs hf hr hQ (.inl ⟨hw, fun w _ => ?_⟩) hS h
  unfold execOp
  simp only [hx, hy, hg, hb, Sem.run_bind, Sem.run_pure, Result.andThen_ok]
def wantB (V : Int) (k : Nat) : Bool := decide (V / 2 ^ (k % 16) % 2 = 0)
def PickRel (w : World) (f : Nat) (h : DH) (F : Pg) (ob : Nat) (kd V K : Int) (u k t : Value) (us ks : List Bool) (ts : List (List UInt8)) (j : Nat) (v16 : Value) (wx : World) : Prop :=
  isOwn wx w.heap.size 3 v16 (intV ((pickUp us (wantB V) j).map fun (k : Nat) => (k : Int))) ∧ PlMem w wx f h F (fun g => g = ob ∨ v16.ownBlock = some g) u k t us ks ts ∧ wx.heap[ob]? = some (.cells (opA kd V K) 77 (0, 0)) ∧ v16.ownBlock ≠ some ob
theorem mask1 (x : Int) : bits BinOp.and IntKind.i64 x 1 = x % 2 := and_mask x 1 (by omega)
theorem intV_app9 (l m : List Int) : intV (l ++ m) = intV l ++ intV m := by simp [intV]
def ClrTo (n c : Nat) (l : List Bool) : Prop := l.length = n ∧ ∀ j, 2 ≤ j → j < c → l[j]? = some false
def SetTo (n : Nat) (ids : List Nat) (i : Nat) (l : List Bool) : Prop := l.length = n ∧ ∀ j, 2 ≤ j → j < n → l[j]? = some (decide (j ∈ ids.take i))
theorem clr_step {n c : Nat} {l : List Bool} (h : ClrTo n c l) (hc : c < n) : ClrTo n (c + 1) (l.set c false) := by
  refine ⟨by rw [List.length_set]; exact h.1, fun j h2 hj => ?_⟩
  by_cases e : c = j
  · subst e; rw [List.getElem?_set_self (by rw [h.1]; exact hc)]
  · rw [List.getElem?_set_ne e]; exact h.2 j h2 (by omega)
theorem set_start {n : Nat} {ids : List Nat} {l : List Bool} (h : ClrTo n n l) : SetTo n ids 0 l := ⟨h.1, fun j h2 hj => by rw [h.2 j h2 hj]; simp⟩
theorem set_step {n i x : Nat} {ids : List Nat} {l : List Bool} (h : SetTo n ids i l) (hx : ids[i]? = some x) (hxn : x < n) : SetTo n ids (i + 1) (l.set x true) := by
  refine ⟨by rw [List.length_set]; exact h.1, fun j h2 hj => ?_⟩
  have ht : ids.take (i + 1) = ids.take i ++ [x] := by rw [List.take_add_one, hx]; rfl
  by_cases e : x = j
  · subst e; rw [List.getElem?_set_self (by rw [h.1]; exact hxn), ht]; simp
  · rw [List.getElem?_set_ne e, h.2 j h2 hj, ht]
    congr 1
    rw [Bool.eq_iff_iff]
    simp only [decide_eq_true_eq, List.mem_append, List.mem_singleton]
    constructor
    · exact .inl
    · rintro (h | h)
      · exact h
      · exact absurd h.symm e
theorem set_done {n : Nat} {ids : List Nat} {l : List Bool} (h : SetTo n ids ids.length l) : JustThese ids n l := ⟨h.1, fun j h2 hj => by rw [h.2 j h2 hj, List.take_length]⟩
def ClrRel (w : World) (f : Nat) (h : DH) (F : Pg) (ob : Nat) (kd V K : Int) (u k t vi : Value) (ids : List Nat) (ts : List (List UInt8)) (n c : Nat) (wx : World) : Prop :=
  ∃ us ks, ClrTo n c us ∧ ClrTo n c ks ∧ PlMem w wx f h F (fun g => g = ob ∨ vi.ownBlock = some g) u k t us ks ts ∧ isOwn wx w.heap.size 3 vi (intV (ids.map fun (k : Nat) => (k : Int))) ∧ wx.heap[ob]? = some (.cells (opA kd V K) 77 (0, 0))
def SetRel (w : World) (f : Nat) (h : DH) (F : Pg) (ob : Nat) (kd V K : Int) (u k t vi : Value) (ids : List Nat) (ts : List (List UInt8)) (n i : Nat) (wx : World) : Prop :=
  ∃ us ks, SetTo n ids i us ∧ SetTo n ids i ks ∧ PlMem w wx f h F (fun g => g = ob ∨ vi.ownBlock = some g) u k t us ks ts ∧ isOwn wx w.heap.size 3 vi (intV (ids.map fun (k : Nat) => (k : Int))) ∧ wx.heap[ob]? = some (.cells (opA kd V K) 77 (0, 0))
theorem own_far {w : World} {g : Nat} {x : Value} {j : Nat} {vs : List Value} {lo : Nat} {ty : TypeId} {v : Value} (h : isOwn w lo ty v vs) (hg : v.ownBlock ≠ some g) : isOwn (w.setCell ⟨g, j, none⟩ x) lo ty v vs :=
  h.kept (keeps_own9 (n := 0) (cap := 0)) (fun b hb e => hg (by rw [hb]; exact e.symm ▸ rfl))
theorem clr_both {w wx : World} {f : Nat} {h : DH} {F : Pg} {ob : Nat} {kd V K : Int} {gu cu gk ck : Nat} {t vi : Value} {ids : List Nat} {ts : List (List UInt8)} {n c : Nat}
    (hr : ClrRel w f h F ob kd V K (.slice (some ⟨gu, 0, none⟩) n cu) (.slice (some ⟨gk, 0, none⟩) n ck) t vi ids ts n c wx) (hc : c < n) :
    ClrRel w f h F ob kd V K (.slice (some ⟨gu, 0, none⟩) n cu) (.slice (some ⟨gk, 0, none⟩) n ck) t vi ids ts n (c + 1) ((wx.setCell ⟨gu, c, none⟩ (.bool false)).setCell ⟨gk, c, none⟩ (.bool false)) := by
  obtain ⟨us, ks, a1, a2, a3, a4, a5⟩ := hr
  have m1 := a3.setU (j := c) (b := false) (by rw [a1.1]; exact hc)
  have m2 := m1.setK (j := c) (b := false) (by rw [a2.1]; exact hc)
  have n1 : vi.ownBlock ≠ some gu := fun e => (a3.io gu (.inr e)).2.1 rfl
  have n2 : vi.ownBlock ≠ some gk := fun e => (a3.io gk (.inr e)).2.2.1 rfl
  refine ⟨_, _, clr_step a1 hc, clr_step a2 hc, m2, own_far (own_far a4 n1) n2, ?_⟩
  have e1 := (keeps_own9 (w := wx) (g := gu) (n := n) (cap := cu) (j := c) (x := .bool false)).blk a5 (fun e => (a3.io ob (.inl rfl)).2.1 e)
  exact (keeps_own9 (g := gk) (n := n) (cap := ck) (j := c) (x := .bool false)).blk e1 (fun e => (a3.io ob (.inl rfl)).2.2.1 e)
theorem set_both {w wx : World} {f : Nat} {h : DH} {F : Pg} {ob : Nat} {kd V K : Int} {gu cu gk ck : Nat} {t vi : Value} {ids : List Nat} {ts : List (List UInt8)} {n i x : Nat}
    (hr : SetRel w f h F ob kd V K (.slice (some ⟨gu, 0, none⟩) n cu) (.slice (some ⟨gk, 0, none⟩) n ck) t vi ids ts n i wx) (hx : ids[i]? = some x) (hxn : x < n) :
    SetRel w f h F ob kd V K (.slice (some ⟨gu, 0, none⟩) n cu) (.slice (some ⟨gk, 0, none⟩) n ck) t vi ids ts n (i + 1) ((wx.setCell ⟨gu, x, none⟩ (.bool true)).setCell ⟨gk, x, none⟩ (.bool true)) := by
  obtain ⟨us, ks, a1, a2, a3, a4, a5⟩ := hr
  have m1 := a3.setU (j := x) (b := true) (by rw [a1.1]; exact hxn)
  have m2 := m1.setK (j := x) (b := true) (by rw [a2.1]; exact hxn)
  have n1 : vi.ownBlock ≠ some gu := fun e => (a3.io gu (.inr e)).2.1 rfl
  have n2 : vi.ownBlock ≠ some gk := fun e => (a3.io gk (.inr e)).2.2.1 rfl
  refine ⟨_, _, set_step a1 hx hxn, set_step a2 hx hxn, m2, own_far (own_far a4 n1) n2, ?_⟩
  have e1 := (keeps_own9 (w := wx) (g := gu) (n := n) (cap := cu) (j := x) (x := .bool true)).blk a5 (fun e => (a3.io ob (.inl rfl)).2.1 e)
  exact (keeps_own9 (g := gk) (n := n) (cap := ck) (j := x) (x := .bool true)).blk e1 (fun e => (a3.io ob (.inl rfl)).2.2.1 e)
theorem SetRel.new {w wx wy : World} {f : Nat} {h : DH} {F : Pg} {ob : Nat} {kd V K : Int} {u k t vi : Value} {ids : List Nat} {ts : List (List UInt8)} {n i : Nat} (hr : SetRel w f h F ob kd V K u k t vi ids ts n i wx) (hk : Keeps wx wy (fun _ => False)) : SetRel w f h F ob kd V K u k t vi ids ts n i wy := by
  obtain ⟨us, ks, a1, a2, a3, a4, a5⟩ := hr
  exact ⟨us, ks, a1, a2, a3.new hk, a4.new hk, hk.blk a5 id⟩
set_option maxRecDepth 100000 in
theorem build_meta (g r c m : Nat) (w : World) : (Instr.build 66 #[(0, .int .u64 ((g : Int) + 1)), (1, .int .i64 r), (2, .int .i64 c), (3, .int .u64 m)]).run Try.prog w = .ok (.agg (metaA ⟨g + 1, r, c, m⟩)) w := by
  first | kernel_rfl | rfl
theorem one_bools {l : List Bool} : ∀ u ∈ boolsV l, u.oneCell' = true := fun u hu => by
  obtain ⟨b, _, rfl⟩ := List.mem_map.1 hu
  rfl
/-- A row is written over from its head on. -/
theorem isOwn_over {w : World} {lo : Nat} {ty : TypeId} {g n cap : Nat} {vs : List Value} (h : isOwn w lo ty (.slice (some ⟨g, 0, none⟩) n cap) vs) (hn : vs.length = n) : ∃ C : Array Value, w.heap[g]? = some (.cells C ty (0, 0)) ∧ n ≤ C.size ∧
    ∀ w' us, us.length = n → w'.heap[g]? = some (.cells (Wb.splice C 0 us.toArray) ty (0, 0)) → isOwn w' lo ty (.slice (some ⟨g, 0, none⟩) n cap) us := by
  obtain ⟨h1, h2⟩ := h
  rcases h2 with ⟨he, _⟩ | ⟨g', cap', cur, he, h3, h4, h5, h6, h7, h8⟩
  · cases he
  · simp only [Value.slice.injEq, Option.some.injEq, Addr.mk.injEq, and_true] at he
    obtain ⟨rfl, _, rfl⟩ := he
    refine ⟨cur, h4, by omega, fun w' us hu hb => ⟨by simp, .inr ⟨g, cap, _, by rw [hu], h3, hb, by omega, h6, ?_, ?_⟩⟩⟩
    · simp [Wb.splice]; omega
    · simp [Wb.splice]

set_option maxRecDepth 100000 in
set_option maxHeartbeats 16000000 in
theorem pagePlays_walk (w : World) (v : Value) (xs : List (Int × Int × Int)) (hv : isOps w (fun g => g < w.heap.size) v xs) : Calls Try.prog 12 #[v] w (Quiet w (.bool true)) := by
  obtain ⟨D1, E1, E2, E3, E4⟩ := pl_start
  have H1 := Lib.hid E1
  have H2 := Lib.hid E2
  have H3 := Lib.hid E3
  have H4 := Lib.hid E4
  obtain ⟨a, cap, rfl, hl1, hl2, hx4⟩ := hv
  have hli : (xs.length : Int) ≤ 140737488351232 := by omega
  have HC : Hid (∀ (q : Nat), q < xs.length → ∃ g o kd V K, kOk kd ∧ kOk V ∧ kOk K ∧ a = some ⟨g, o, none⟩ ∧ g < w.heap.size ∧ w.rangeAt g (o + q * 3) (opA kd V K).toList) := by
    intro q hq
    rcases hx4 with rfl | ⟨g, o, rfl, _, hg, hc⟩
    · simp at hq
    · obtain ⟨k1, k2, k3, c0, c1, c2⟩ := hc q _ (List.getElem?_eq_getElem hq)
      refine ⟨g, o, _, _, _, k1, k2, k3, rfl, hg, fun j v hj => ?_⟩
      match j, hj with
      | 0, hj => simp [opA] at hj; subst hj; exact c0
      | 1, hj => simp [opA] at hj; subst hj; exact c1
      | 2, hj => simp [opA] at hj; subst hj; exact c2
      | j + 3, hj => simp [opA] at hj
  clear E1 E2 E3 E4 hx4
  go_enter Try.func12, Try.ntmps12
  go_wp2_with fail
  refine new_any _ _ fun h w1 hd1 hk1 hS => ?_
  go_wp2_with fail
  refine (awake9_calls _).mono ?_
  rintro e w1' ⟨rfl, hka⟩
  have hd2 := hd1.new hka
  have hk2 := hk1.trans hka
  clear hd1 hk1 hka
  go_wp2_with fail
  refine l_open (w0 := w) (X := fun _ => False) hd2 (openE_files _) H1.out H2.out (fun _ h => h.elim) hS hk2 fun f w2 hL2 _ => ?_
  clear hd2 hk2 hS
  go_upto_region 8 with (first
    | (refine wl_slice2 rfl _ _ _ rfl 4 _ 1 Try.underlying36 info_bool rfl (.bool true) (.bool true) rfl rfl rfl rfl ?_; intro bu w3 hbu HBU HKU)
    | fail)
  go_upto_region 9 with (first
    | (refine wl_slice2 rfl _ _ _ rfl 4 _ 1 Try.underlying36 info_bool rfl (.bool true) (.bool true) rfl rfl rfl rfl ?_; intro bk w4 hbk HBK HKK)
    | fail)
  go_upto_region 10 with (first
    | (refine wl_slice2 rfl _ _ _ rfl 9 _ 16 Try.underlying38 info_text rfl (.string ByteArray.empty) (.string ByteArray.empty) rfl rfl rfl rfl ?_; intro bt w5 hbt HBT HKT)
    | fail)
  have HREL0 : Hid (PlRel w f h 0 (.slice (some ⟨bu, 0, none⟩) 2 2) (.slice (some ⟨bk, 0, none⟩) 2 2) (.slice (some ⟨bt, 0, none⟩) 2 2) (.int .u64 1) w5) := by
    have s2 := hL2.keeps.size
    have s3 := HKU.size
    have s4 := HKK.size
    have l3 := lt_of_blk HBU
    have l4 := lt_of_blk HBK
    have l5 := lt_of_blk HBT
    have s5 := HKT.size
    refine Lib.hid ⟨_, _, _, _, H4.out, by rw [H3.out]; rfl, by rw [H3.out]; decide, by rw [H3.out]; decide, ?_, ?_, ?_, ?_, ?_, ?_, ?_, ?_⟩
    · exact ((isOwn_two HBU (by omega)).new HKK).new HKT
    · exact (isOwn_two HBK (by omega)).new HKT
    · exact isOwn_two HBT (by omega)
    · intro g hg e
      simp only [Value.ownBlock, Option.some.injEq] at hg e
      omega
    · intro g hg e
      simp only [Value.ownBlock, Option.some.injEq] at hg e
      omega
    · intro g hg e
      simp only [Value.ownBlock, Option.some.injEq] at hg e
      omega
    · exact fun g hg => hg.elim
    · refine hL2.more ((HKU.trans HKK).trans HKT) (fun i hi => ?_) (fun i hi => ?_)
      · rcases hi with hi | hi | hi | hi
        · exact hi.elim
        all_goals
          simp only [Value.ownBlock, Option.some.injEq] at hi
          right; omega
      · rcases hi with hi | hi | hi | hi
        · exact hi.elim
        all_goals
          simp only [Value.ownBlock, Option.some.injEq] at hi
          omega
  clear hL2 HBU HKU HBK HKK HBT HKT hbu hbk hbt
  go_wp2_with fail
  go_loopw [6, 7, 8, 9, 10] (fun v6 v7 v8 v9 i wr => ∃ q : Nat, q ≤ 60 ∧ i = .int .i64 q ∧ Hid (PlRel w f h q v6 v7 v8 v9 wr)) (fun _ _ _ _ i _ => 60 - (intOf i).toNat)
  case atStart => exact ⟨0, Nat.zero_le _, rfl, HREL0⟩
  case round =>
    clear HREL0
    obtain ⟨q, hq, rfl, hrel⟩ := hrel
    have hq0 : (0 : Int) ≤ q := by omega
    have hqi : (q : Int) ≤ 60 := by omega
    by_cases hlt : q < xs.length ∧ q < 60
    · have hlt1 : decide (q < xs.length) = true := by simpa using hlt.1
      have hql : (q : Int) < xs.length := by omega
      have hq2 : (q : Int) < 60 := by omega
      have hlt2 : decide ((q : Int) < 60) = true := by simp; omega
      obtain ⟨g, o, kd, V, K, k1, k2, k3, rfl, hg, hr⟩ := HC.out q hlt.1
      obtain ⟨F, us, ks, ts, hok, rfl, hg1, hg2, hm⟩ := hrel.out
      have HLT := Lib.hid hlt
      have HG1 := Lib.hid hg1
      have HG2 := Lib.hid hg2
      have HK1 := Lib.hid k1
      have HK2 := Lib.hid k2
      have HK3 := Lib.hid k3
      have HRW : Hid (wr.rangeAt g (o + q * 3) (opA kd V K).toList) := Lib.hid fun j x hj => (hm.law.keeps.cell (p := ⟨g, o + q * 3 + j, none⟩) hg id).trans (hr j x hj)
      obtain ⟨n, hn⟩ : ∃ n, us.length = n := ⟨_, rfl⟩
      have hn2 : 2 ≤ n := by rw [← hn]; exact hok.two
      have hn62 : n ≤ 2 + q := by rw [← hn]; exact hok.len
      obtain ⟨gu, cu, gk, ck, gt, ct, rfl, rfl, rfl, hne1, hne2, hne3⟩ := hm.shape hn2 hn (by rw [hok.klen, hn]) (by rw [hok.tlen, hn])
      have HN := Lib.hid hn
      have HOK := Lib.hid hok
      have hni2 : (2 : Int) ≤ n := by omega
      have hni62 : (n : Int) ≤ 62 := by omega
      clear hrel hok hlt k1 k2 k3 hg1 hg2 hr hn
      go_upto_block 2 with (first
        | ((with_reducible refine gd_load 77 ?_); go_loud (refine wpList_load_mid rfl _ _ rfl g (o + q * 3) rfl (opA kd V K).toList _ HRW.out Try.underlying77 rfl infoO ?_))
        | ((with_reducible refine gd_alloc 77 ?_); refine wl_alloc_agg rfl _ rfl _ zeroO ?_; intro ob w3 hob HOB HKO)
        | ((with_reducible refine gd_store 77 ?_); refine wl_store_agg rfl _ _ _ rfl ob _ rfl _ _ HOB (opA kd V K) rfl (opA kd V K) (store_op _ _ _) (Nat.le_refl 3) infoO (opA_one _ _ _) ?_; intro w4 HOB4 HKO4; have o0 : w4.cell? ⟨ob, 0, none⟩ = some (.int .i64 kd) := (by rw [cell_of_block HOB4]; rfl))
        | fail)
      have HM4 : Hid (PlMem w w4 f h F (fun g => g = ob) (.slice (some ⟨gu, 0, none⟩) n cu) (.slice (some ⟨gk, 0, none⟩) n ck) (.slice (some ⟨gt, 0, none⟩) n ct) us ks ts) :=
        Lib.hid ((hm.more (O' := fun g => g = ob) HKO (fun g hg => .inr (hg ▸ hob)) (fun g hg => hg ▸ lt_of_blk HOB)).turnO HKO4 (fun g hg => .inl hg) (fun g hg => hg ▸ lt_of_blk HOB4))
      have HO4 : Hid (w4.heap[ob]? = some (.cells (opA kd V K) 77 (0, 0))) := Lib.hid HOB4
      clear hm HOB HKO HOB4 HKO4 hob HRW
      go_cut [6, 7, 8, 9] (fun v6 v7 v8 v9 wx => Hid (PlRel w f h (q + 1) v6 v7 v8 v9 wx))
      case first =>
        go_upto_if 111 with fail
        go_cut [111] (fun v wx => v = .bool (decide (kd = 0 ∨ kd = 1)) ∧ wx = w4)
        case first =>
          as_aux_lemma =>
          by_cases h0 : kd = 0
          · have hb : (kd == 0) = true := by simpa using h0
            have HD : Hid (decide (kd = 0 ∨ kd = 1) = true) := Lib.hid (by simp [h0])
            clear h0
            go_wp2_with fail
            go_meet
            exact ⟨by first | rw [HD.out, hb] | rw [HD.out], rfl⟩
          · have hb : (kd == 0) = false := by simpa using h0
            by_cases h1 : kd = 1
            · have hb1 : (kd == 1) = true := by simpa using h1
              have HD : Hid (decide (kd = 0 ∨ kd = 1) = true) := Lib.hid (by simp [h1])
              clear h0 h1
              go_wp2_with fail
              go_meet
              exact ⟨by first | rw [HD.out, hb] | rw [HD.out], rfl⟩
            · have hb1 : (kd == 1) = false := by simpa using h1
              have HD : Hid (decide (kd = 0 ∨ kd = 1) = false) := Lib.hid (by simp [h0, h1])
              clear h0 h1
              go_wp2_with fail
              go_meet
              exact ⟨by first | rw [HD.out, hb] | rw [HD.out], rfl⟩
        case rest =>
          obtain ⟨rfl, rfl⟩ := hcut
          by_cases hput : kd = 0 ∨ kd = 1
          · as_aux_lemma =>
            have hpb : decide (kd = 0 ∨ kd = 1) = true := decide_eq_true hput
            have HW0 : Hid (∃ c wt : Nat, n - 1 = c ∧ n = wt ∧ WantRel us c wt) := Lib.hid ⟨_, _, rfl, rfl, by have := want_start (use := us) (by rw [HN.out]; exact hn2); rw [HN.out] at this; exact this⟩
            have hn1 : (n : Int) - 1 = ((n - 1 : Nat) : Int) := by omega
            rw [hpb]
            clear hpb
            go_wp2_with fail
            go_loopw [12, 13] (fun v12 c wx => ∃ k wt : Nat, 1 ≤ k ∧ k ≤ n ∧ c = .int .i64 k ∧ v12 = .int .i64 wt ∧ wx = wc ∧ Hid (WantRel us k wt)) (fun _ c _ => (intOf c).toNat)
            case atStart =>
              obtain ⟨c, wt, rfl, rfl, h3⟩ := HW0.out
              exact ⟨n - 1, n, by omega, by omega, by rw [← hn1], rfl, rfl, Lib.hid h3⟩
            case round =>
              as_aux_lemma =>
              clear HW0
              obtain ⟨k, wt, hk1, hkn, rfl, rfl, rfl, hwr⟩ := hrel
              have hk0 : (0 : Int) ≤ k := by omega
              by_cases hgt : 1 < k
              · have hgb : decide (1 < (k : Int)) = true := by simp; omega
                have hkw : k < n := by have := hwr.out.lo; have := hwr.out.le; have := HN.out; omega
                have hkwi : (k : Int) < n := by omega
                obtain ⟨b, hb⟩ : ∃ b, us[k]? = some b := ⟨_, List.getElem?_eq_getElem (by rw [HN.out]; exact hkw)⟩
                have hcell : wr.cell? ⟨gu, k, none⟩ = some (.bool b) := (isOwn_cell HM4.out.iu (boolsV_at hb)).1
                obtain ⟨c, rfl⟩ : ∃ c, k = c + 1 := ⟨k - 1, by omega⟩
                have HB := Lib.hid hb
                clear hb
                cases b with
                | true =>
                  have HW2 := Lib.hid (want_used hwr.out HB.out)
                  clear hwr
                  go_wp2_with fail
                  go_roundw
                  case rel => exact ⟨c, wt, by omega, by omega, by go_num, rfl, by first | rfl | trivial, HW2⟩
                  case measure => simp [intOf]
                | false =>
                  have HW2 := Lib.hid (want_free hwr.out HB.out)
                  clear hwr
                  go_wp2_with fail
                  go_roundw
                  case rel => exact ⟨c, c + 1, by omega, by omega, by go_num, by go_num, by first | rfl | trivial, HW2⟩
                  case measure => simp [intOf]
              · have hgb : decide (1 < (k : Int)) = false := by simp; omega
                obtain rfl : k = 1 := by omega
                have o1 : wr.cell? ⟨ob, 1, none⟩ = some (.int .i64 V) := by rw [cell_of_block HO4.out]; rfl
                have HFL : Hid (F.fresh.length ≤ 1000000) := Lib.hid (by have := HOK.out.fresh; omega)
                clear hgt
                go_wp2_with fail
                refine (fill_calls _ V HK2.out).mono ?_
                rintro ef w5 ⟨bv, rfl, ho5, hk5⟩
                go_wp2_with fail
                refine (l_put (b := fillL V) HM4.out.law HOK.out.dead hk5 (isOwn.rd ho5) (own_new ho5) (fillL_le _) HFL.out).mono ?_
                rintro ep w6 ⟨p, hp, he, hL6, hk6⟩
                obtain rfl := pl_least HOK.out hp hwr.out
                obtain ⟨F2, g1, g2, g3, g4, g5⟩ := pl_put HOK.out (fillL V) (fillL_le _) hp (by have := HLT.out.2; omega)
                rw [g1] at he hL6
                dsimp only at he hL6
                rw [if_pos rfl] at he
                subst he
                have HM6 : Hid (PlMem w w6 f h F2 (fun g => g = ob) (.slice (some ⟨gu, 0, none⟩) n cu) (.slice (some ⟨gk, 0, none⟩) n ck) (.slice (some ⟨gt, 0, none⟩) n ct) us ks ts) := Lib.hid ((HM4.out.new hk5).call hL6 hk6)
                have HO6 : Hid (w6.heap[ob]? = some (.cells (opA kd V K) 77 (0, 0))) := Lib.hid (hk6.blk (hk5.blk HO4.out id) (fun hh => hh.1 (.inl rfl)))
                have HGN := Lib.hid g2
                have HG4 := Lib.hid g4
                have HG5 := Lib.hid g5
                have hpn : p ≤ n := by rw [← HN.out]; exact g3
                have hpi : (p : Int) ≤ n := by omega
                have hp0 : (0 : Int) ≤ p := by omega
                have hp2 : 2 ≤ p := hp.1
                clear g1 g2 g3 g4 g5 hp hL6 hk6 hk5 ho5 hwr o0 o1
                go_upto_if 147 with fail
                go_cut [6, 7, 8] (fun v6 v7 v8 wx => Hid (PlayPut w f h F2 q p ob V v6 v7 v8 wx))
                case first =>
                  as_aux_lemma =>
                  by_cases hpe : p = n
                  · have hpb2 : ((p : Int) == (n : Int)) = true := by simp; omega
                    have HPE := Lib.hid (HG5.out (by rw [HN.out]; exact hpe))
                    have hl1 : (boolsV us).length + 1 ≤ maxLen := by rw [boolsV_len, HN.out]; unfold maxLen; omega
                    have hl2 : ((boolsV us).length + 1) * 1 ≤ 140737488355328 := by rw [boolsV_len, HN.out]; omega
                    have hl3 : (boolsV ks).length + 1 ≤ maxLen := by rw [boolsV_len, HOK.out.klen, HN.out]; unfold maxLen; omega
                    have hl4 : ((boolsV ks).length + 1) * 1 ≤ 140737488355328 := by rw [boolsV_len, HOK.out.klen, HN.out]; omega
                    have hl5 : (textsV ts).length + 1 ≤ maxLen := by rw [textsV_len, HOK.out.tlen, HN.out]; unfold maxLen; omega
                    have hl6 : ((textsV ts).length + 1) * 16 ≤ 140737488355328 := by rw [textsV_len, HOK.out.tlen, HN.out]; omega
                    clear hpe
                    go_wp2_with (first
                      | (refine wl_slice1 rfl _ _ rfl 4 _ 1 Try.underlying36 info_bool rfl (.bool true) rfl rfl ?_; intro b7 w7 hb7 HB7 HK7)
                      | (at_builtin; refine wl_appendN rfl _ _ 36 rfl 4 _ 1 Try.underlying36 info_bool rfl w.heap.size (.slice (some ⟨gu, 0, none⟩) n cu) (boolsV us) rfl (HM6.out.iu.new HK7) _ [.bool true] rfl (isVals_one (ok := fun _ => True) HB7 trivial).rd (fun _ h => by cases h) one_bool hl1 hl2 (HM6.out.new HK7).law.keeps.size ?_; intro v6 w8 ap1; have M8 := Lib.hid ((HM6.out.new HK7).appU ap1))
                      | (refine wl_slice1 rfl _ _ rfl 4 _ 1 Try.underlying36 info_bool rfl (.bool false) rfl rfl ?_; intro b9 w9 hb9 HB9 HK9)
                      | (at_builtin; refine wl_appendN rfl _ _ 36 rfl 4 _ 1 Try.underlying36 info_bool rfl w.heap.size (.slice (some ⟨gk, 0, none⟩) n ck) (boolsV ks) rfl (M8.out.ik.new HK9) _ [.bool false] rfl (isVals_one (ok := fun _ => True) HB9 trivial).rd (fun _ h => by cases h) one_bool hl3 hl4 (M8.out.new HK9).law.keeps.size ?_; intro v7 w10 ap2; have M10 := Lib.hid ((M8.out.new HK9).appK ap2))
                      | (refine wl_slice1 rfl _ _ rfl 9 _ 16 Try.underlying38 info_text rfl (.string ByteArray.empty) rfl rfl ?_; intro b11 w11 hb11 HB11 HK11)
                      | (at_builtin; refine wl_appendN rfl _ _ 38 rfl 9 _ 16 Try.underlying38 info_text rfl w.heap.size (.slice (some ⟨gt, 0, none⟩) n ct) (textsV ts) rfl (M10.out.it.new HK11) _ [.string ByteArray.empty] rfl (isVals_one (ok := fun _ => True) HB11 trivial).rd (fun _ h => by cases h) one_text hl5 hl6 (M10.out.new HK11).law.keeps.size ?_; intro v8 w12 ap3; have M12 := Lib.hid ((M10.out.new HK11).appT ap3))
                      | fail)
                    go_meet
                    refine Lib.hid ⟨_, _, _, n + 1, by simp [HN.out], by simp [HOK.out.klen, HN.out], by simp [HOK.out.tlen, HN.out], by omega, by omega, by omega, HPE.out, M12.out, kd, K, ?_⟩
                    have e8 := ap1.2.1.blk (HK7.blk HO6.out id) (fun hh => (HM6.out.io ob rfl).2.1 hh)
                    have e10 := ap2.2.1.blk (HK9.blk e8 id) (fun hh => (HM6.out.io ob rfl).2.2.1 hh)
                    exact ap3.2.1.blk (HK11.blk e10 id) (fun hh => (HM6.out.io ob rfl).2.2.2 hh)
                  · have hpb2 : ((p : Int) == (n : Int)) = false := by simp; omega
                    have HPE := Lib.hid (HG4.out (by rw [HN.out]; omega))
                    have hpl : p < n := by omega
                    clear hpe
                    go_wp2_with fail
                    go_meet
                    exact Lib.hid ⟨us, ks, ts, n, HN.out, by rw [HOK.out.klen, HN.out], by rw [HOK.out.tlen, HN.out], hn2, hpl, by omega, HPE.out, HM6.out, kd, K, HO6.out⟩
                case rest =>
                  as_aux_lemma =>
                  obtain ⟨us1, ks1, ts1, n1, e1, e2, e3, h21, hp1, hn163, hok1, hm1, kd1, K1, ho1⟩ := hcut.out
                  obtain ⟨gu1, cu1, gk1, ck1, gt1, ct1, rfl, rfl, rfl, hd1, hd2, hd3⟩ := hm1.shape h21 e1 e2 e3
                  have o1 : wc.cell? ⟨ob, 1, none⟩ = some (.int .i64 V) := by rw [cell_of_block ho1]; rfl
                  have HM1 := Lib.hid hm1
                  have HOK1 := Lib.hid hok1
                  have hq60 : q < 60 := HLT.out.2
                  have hp1i : (p : Int) < n1 := by omega
                  have hn1i : (n1 : Int) ≤ 200 := by omega
                  clear hcut hm1 hok1 ho1 HG4 HG5 HM6 HO6 HM4 HO4
                  go_wp2_with fail
                  refine (fill_calls _ V HK2.out).mono ?_
                  rintro ef w7 ⟨bv7, rfl, ho7, hk7⟩
                  go_wp2_with fail
                  refine (whole_calls _ bv7 (fillL V) (isOwn.rd ho7) (isOwn.nilcap ho7) (fillL_le _)).mono ?_
                  rintro ew w8 ⟨rfl, hk8⟩
                  have HM8 : Hid (PlMem w w8 f h F2 (fun g => g = ob) _ _ _ us1 ks1 ts1) := Lib.hid (HM1.out.new (hk7.trans hk8))
                  obtain ⟨b0, hb0⟩ : ∃ b0, us1[p]? = some b0 := ⟨_, List.getElem?_eq_getElem (by omega)⟩
                  obtain ⟨t0, ht0⟩ : ∃ t0, ts1[p]? = some t0 := ⟨_, List.getElem?_eq_getElem (by omega)⟩
                  have cu0 := isOwn_cell HM8.out.iu (boolsV_at hb0)
                  have ct0 := isOwn_cell HM8.out.it (textsV_at ht0)
                  obtain ⟨cu01, cu02⟩ := cu0
                  obtain ⟨ct01, ct02⟩ := ct0
                  clear hk7 hk8 ho7 o1
                  go_wp2_with fail
                  go_meet
                  exact Lib.hid ⟨F2, _, _, _, HOK1.out, by rw [HGN.out], by rw [HGN.out]; exact HG1.out, by rw [HGN.out]; have := HG2.out; omega, ((HM8.out.setU (j := p) (b := true) (by omega)).setT (j := p) (by omega)).less (fun _ hg => hg.elim)⟩
          · as_aux_lemma =>
            have hpb : decide (kd = 0 ∨ kd = 1) = false := decide_eq_false hput
            rw [hpb]
            clear hpb
            by_cases h2 : kd = 2
            · as_aux_lemma =>
              have hb2 : (kd == 2) = true := by simpa using h2
              have HI0 : Hid (∃ ids : List Nat, ids = pickUp us (wantB V) 2 ∧ isOwn wc w.heap.size 3 (.slice none 0 0) (intV (ids.map fun (k : Nat) => (k : Int))) ∧ PlMem w wc f h F (fun g => g = ob ∨ (Value.slice none 0 0).ownBlock = some g) (.slice (some ⟨gu, 0, none⟩) n cu) (.slice (some ⟨gk, 0, none⟩) n ck) (.slice (some ⟨gt, 0, none⟩) n ct) us ks ts) :=
                Lib.hid ⟨[], (pickUp_two _ _).symm, isOwn_nil _ _ _, HM4.out.less (fun g hg => by
                  rcases hg with hg | hg
                  · exact hg
                  · cases hg)⟩
              clear h2 hput
              go_wp2_with fail
              go_loopw [16, 17, 18] (fun v16 v17 c wx => ∃ k : Nat, 2 ≤ k ∧ k ≤ n ∧ c = .int .i64 k ∧ v17 = .int .i64 (rootOf (pickUp us (wantB V) k)) ∧ Hid (PickRel w f h F ob kd V K (.slice (some ⟨gu, 0, none⟩) n cu) (.slice (some ⟨gk, 0, none⟩) n ck) (.slice (some ⟨gt, 0, none⟩) n ct) us ks ts k v16 wx)) (fun _ _ c _ => n - (intOf c).toNat)
              case atStart =>
                obtain ⟨ids, rfl, a1, a2⟩ := HI0.out
                exact ⟨2, Nat.le_refl _, hn2, rfl, by rw [pickUp_two]; rfl, Lib.hid ⟨by rw [pickUp_two] at a1 ⊢; exact a1, a2, HO4.out, fun hh => by cases hh⟩⟩
              case round =>
                clear HI0
                obtain ⟨k, hk2, hkn, rfl, rfl, hpr⟩ := hrel
                have hk0 : (2 : Int) ≤ k := by omega
                by_cases hlt : k < n
                · as_aux_lemma =>
                  have hlb : decide (k < n) = true := by simpa using hlt
                  have hkni : (k : Int) < n := by omega
                  obtain ⟨b, hb⟩ : ∃ b, us[k]? = some b := ⟨_, List.getElem?_eq_getElem (by rw [HN.out]; exact hlt)⟩
                  obtain ⟨a1, a2, a3, hno⟩ := hpr.out
                  have HNO := Lib.hid hno
                  clear hno
                  have hcell : wr.cell? ⟨gu, k, none⟩ = some (.bool b) := (isOwn_cell a2.iu (boolsV_at hb)).1
                  have o1 : wr.cell? ⟨ob, 1, none⟩ = some (.int .i64 V) := by rw [cell_of_block a3]; rfl
                  have HSUC := Lib.hid (pickUp_succ (want := wantB V) hk2 hb)
                  have HLT2 := Lib.hid hlt
                  clear hb hlt
                  cases b with
                  | false =>
                    have HP : Hid (pickUp us (wantB V) (k + 1) = pickUp us (wantB V) k) := Lib.hid (by rw [HSUC.out]; simp)
                    clear a1 a2 a3
                    go_wp2_with fail
                    go_roundw
                    case rel => exact ⟨k + 1, by omega, HLT2.out, by go_num, by rw [HP.out], Lib.hid (by have := hpr.out; unfold PickRel at this ⊢; rw [HP.out]; exact this)⟩
                    case measure => have := HLT2.out; simp [intOf]; omega
                  | true =>
                    have hm15 : bits BinOp.and IntKind.i64 (k : Int) 15 = (k : Int) % 16 := mask15 k
                    have hm1 : bits BinOp.and IntKind.i64 (V / 2 ^ (k % 16)) 1 = V / 2 ^ (k % 16) % 2 := mask1 _
                    by_cases hwt : V / 2 ^ (k % 16) % 2 = 0
                    · as_aux_lemma =>
                      have hwb : (V / 2 ^ (k % 16) % 2 == 0) = true := by simpa using hwt
                      have HP : Hid (pickUp us (wantB V) (k + 1) = pickUp us (wantB V) k ++ [k]) := Lib.hid (by rw [HSUC.out]; unfold wantB; simp [hwt])
                      have hpl := pickUp_len us (wantB V) k
                      have hl1 : (intV ((pickUp us (wantB V) k).map fun (k : Nat) => (k : Int))).length + 1 ≤ maxLen := by rw [intV_len, List.length_map]; unfold maxLen; omega
                      have hl2 : ((intV ((pickUp us (wantB V) k).map fun (k : Nat) => (k : Int))).length + 1) * 8 ≤ 140737488355328 := by rw [intV_len, List.length_map]; omega
                      have A1 := Lib.hid a1
                      have A2 := Lib.hid a2
                      have A3 := Lib.hid a3
                      clear hwt a1 a2 a3 hpr hpl
                      go_wp2_with (first
                        | (refine wl_slice1 rfl _ _ rfl 3 _ 8 Try.underlying22 info_int rfl (.int .i64 k) rfl rfl ?_; intro bb w5 hbb HB5 HK5)
                        | (at_builtin; refine wl_appendN rfl _ _ 22 rfl 3 _ 8 Try.underlying22 info_int rfl w.heap.size u16 (intV ((pickUp us (wantB V) k).map fun (k : Nat) => (k : Int))) rfl (A1.out.new HK5) _ [.int .i64 k] rfl (isVals_one (ok := fun _ => True) HB5 trivial).rd (fun _ h => by cases h) (by simp; rfl) hl1 hl2 (A2.out.new HK5).law.keeps.size ?_; intro v' w6 hap)
                        | fail)
                      have HREL : Hid (PickRel w f h F ob kd V K (.slice (some ⟨gu, 0, none⟩) n cu) (.slice (some ⟨gk, 0, none⟩) n ck) (.slice (some ⟨gt, 0, none⟩) n ct) us ks ts (k + 1) v' w6) := by
                        refine Lib.hid ⟨?_, (A2.out.new HK5).turnO (hap.2.1.mono fun i _ hi => .inr hi) (fun g hg => ?_) (fun g hg => ?_), hap.2.1.blk (HK5.blk A3.out id) (fun hh => HNO.out hh), fun hh => ?_⟩
                        · rw [HP.out, List.map_append, List.map_cons, List.map_nil, intV_app9]
                          exact hap.1
                        · rcases hg with hg | hg
                          · exact .inl (.inl hg)
                          · rcases hap.2.2 with h1 | h1
                            · exact .inl (.inr (h1 ▸ hg))
                            · right; rw [h1] at hg; simp only [Option.some.injEq] at hg; omega
                        · rcases hg with hg | hg
                          · rw [hg]; exact Nat.lt_of_lt_of_le (lt_of_blk A3.out) (Nat.le_trans HK5.size hap.2.1.size)
                          · exact (hap.1.blk g hg).2
                        · rcases hap.2.2 with h1 | h1
                          · exact HNO.out (h1 ▸ hh)
                          · rw [h1] at hh
                            simp only [Option.some.injEq] at hh
                            have h7 := lt_of_blk (HK5.blk A3.out id)
                            omega
                      clear hap HB5 HK5 hbb
                      go_roundw
                      case rel => exact ⟨k + 1, by omega, HLT2.out, by go_num, by rw [HP.out, rootOf_snoc], HREL⟩
                      case measure => have := HLT2.out; simp [intOf]; omega
                    · as_aux_lemma =>
                      have hwb : (V / 2 ^ (k % 16) % 2 == 0) = false := by simpa using hwt
                      have HP : Hid (pickUp us (wantB V) (k + 1) = pickUp us (wantB V) k) := Lib.hid (by rw [HSUC.out]; unfold wantB; simp [hwt])
                      clear a1 a2 a3 hwt
                      go_wp2_with fail
                      go_roundw
                      case rel => exact ⟨k + 1, by omega, HLT2.out, by go_num, by rw [HP.out], Lib.hid (by have := hpr.out; unfold PickRel at this ⊢; rw [HP.out]; exact this)⟩
                      case measure => have := HLT2.out; simp [intOf]; omega
                · as_aux_lemma =>
                  have hlb : decide (k < n) = false := by simpa using hlt
                  obtain rfl : k = n := by omega
                  obtain ⟨a1, a2, a3, hno⟩ := hpr.out
                  obtain ⟨ids, hids⟩ : ∃ ids, ids = pickUp us (wantB V) k := ⟨_, rfl⟩
                  obtain ⟨mk, hmk, hmk2⟩ : ∃ mk : Nat, IntKind.u64.wrap K = (mk : Int) ∧ mk < 2 ^ 64 := ⟨(K % 18446744073709551616).toNat, by rw [wrap_u64]; omega, by omega⟩
                  obtain ⟨D', c1, c2, c3, c4, c5⟩ := pl_commit (want := wantB V) HOK.out hmk2 HG2.out (by have := HLT.out.2; omega)
                  rw [HN.out, ← hids] at c1 c2 c4 c5
                  rw [c4] at c5
                  have HIDS := Lib.hid hids
                  rw [← hids] at a1 ⊢
                  have hil : ids.length ≤ k := by rw [hids]; exact pickUp_len _ _ _
                  have hili : (ids.length : Int) ≤ 62 := by omega
                  have hrd := isOwn.rd a1
                  obtain ⟨ai, ci, hai, hci, _⟩ := isOwn.rd a1
                  rw [intV_len, List.length_map] at hai
                  subst hai
                  have HCM := Lib.hid (l_commit (root := rootOf ids) (count := ids.length) (mark := mk) a2.law HOK.out.dead hrd (fun g hg => .inr ⟨.inl (.inl (.inr hg)), (a1.blk g hg).2⟩) (by rw [List.length_map]; omega) c1 (by have := HG2.out; have := HLT.out.2; omega) hmk2 c2 c3)
                  rw [c4] at HCM
                  have o2 : wr.cell? ⟨ob, 2, none⟩ = some (.int .i64 K) := by rw [cell_of_block a3]; rfl
                  have A1 := Lib.hid a1
                  have A2 := Lib.hid a2
                  have A3 := Lib.hid a3
                  have C5 := Lib.hid c5
                  have HNO := Lib.hid hno
                  have C4 := Lib.hid c4
                  have hgi : (F.mt.gen : Int) ≤ 61 := by have := HG2.out; have := HLT.out.2; omega
                  clear a1 a2 a3 c1 c2 c3 c4 c5 hrd hpr hlt hids hci hno
                  go_wp2_with fail
                  refine HCM.out.mono ?_
                  rintro e w5 ⟨rfl, hL5, hk5⟩
                  have HM5 := Lib.hid (A2.out.call hL5 hk5)
                  have A5 := Lib.hid (isOwn.kept A1.out hk5 (fun g hg hh => hh.1 (.inl (.inr hg))))
                  have O5 := Lib.hid (hk5.blk A3.out (fun hh => hh.1 (.inl (.inl rfl))))
                  obtain ⟨F3, hF3⟩ : ∃ F3, F3 = keepP { F with d := D', mt := ⟨F.mt.gen + 1, rootOf ids, ids.length, mk⟩ } (ids.map fun (k : Nat) => (k : Int)) := ⟨_, rfl⟩
                  have HMT3 : Hid (F3.mt = ⟨F.mt.gen + 1, rootOf ids, ids.length, mk⟩) := Lib.hid (by rw [hF3]; rfl)
                  rw [← hF3] at HM5 C5
                  have HREL0 : Hid (ClrRel w f h F3 ob kd V K (.slice (some ⟨gu, 0, none⟩) k cu) (.slice (some ⟨gk, 0, none⟩) k ck) (.slice (some ⟨gt, 0, none⟩) k ct) (.slice ai ids.length ci) ids ts k 2 w5) :=
                    Lib.hid ⟨us, ks, ⟨HN.out, fun j h1 h2 => absurd h1 (by omega)⟩, ⟨by rw [HOK.out.klen, HN.out], fun j h1 h2 => absurd h1 (by omega)⟩, HM5.out, A5.out, O5.out⟩
                  clear hF3 hL5 hk5 A1 A2 A3 HM5 A5 O5 HCM o2 HM4 HO4
                  go_upto_block 7 with fail
                  go_cut [] (fun wx => Hid (ClrRel w f h F3 ob kd V K (.slice (some ⟨gu, 0, none⟩) k cu) (.slice (some ⟨gk, 0, none⟩) k ck) (.slice (some ⟨gt, 0, none⟩) k ct) (.slice ai ids.length ci) ids ts k k wx))
                  case first =>
                    as_aux_lemma =>
                    go_wp2_with fail
                    go_loopw [19] (fun c wx => ∃ c' : Nat, c = .int .i64 c' ∧ 2 ≤ c' ∧ c' ≤ k ∧ Hid (ClrRel w f h F3 ob kd V K (.slice (some ⟨gu, 0, none⟩) k cu) (.slice (some ⟨gk, 0, none⟩) k ck) (.slice (some ⟨gt, 0, none⟩) k ct) (.slice ai ids.length ci) ids ts k c' wx)) (fun c _ => k - (intOf c).toNat)
                    case atStart => exact ⟨2, rfl, Nat.le_refl _, hn2, HREL0⟩
                    case round =>
                      clear HREL0
                      obtain ⟨c, rfl, hc2, hck, hcr⟩ := hrel
                      have hc0 : (2 : Int) ≤ c := by omega
                      by_cases hlt : c < k
                      · as_aux_lemma =>
                        have hlb : decide (c < k) = true := by simpa using hlt
                        have hcki : (c : Int) < k := by omega
                        obtain ⟨us2, ks2, b1, b2, b3, b4, b5⟩ := hcr.out
                        obtain ⟨x1, hx1⟩ : ∃ b, us2[c]? = some b := ⟨_, List.getElem?_eq_getElem (by rw [b1.1]; exact hlt)⟩
                        obtain ⟨x2, hx2⟩ : ∃ b, ks2[c]? = some b := ⟨_, List.getElem?_eq_getElem (by rw [b2.1]; exact hlt)⟩
                        obtain ⟨d1, d2⟩ := isOwn_cell b3.iu (boolsV_at hx1)
                        obtain ⟨d3, d4⟩ := isOwn_cell b3.ik (boolsV_at hx2)
                        have HREL := Lib.hid (clr_both hcr.out hlt)
                        have HLT3 := Lib.hid hlt
                        clear hx1 hx2 b1 b2 b3 b4 b5 hcr hlt
                        go_wp2_with fail
                        go_roundw
                        case rel => exact ⟨c + 1, by go_num, by omega, HLT3.out, HREL⟩
                        case measure => have := HLT3.out; simp [intOf]; omega
                      · as_aux_lemma =>
                        have hlb : decide (c < k) = false := by simpa using hlt
                        obtain rfl : c = k := by omega
                        clear hlt
                        go_wp2_with fail
                        go_meet
                        exact hcr
                  case rest =>
                    as_aux_lemma =>
                    clear HREL0
                    have HREL0 : Hid (SetRel w f h F3 ob kd V K (.slice (some ⟨gu, 0, none⟩) k cu) (.slice (some ⟨gk, 0, none⟩) k ck) (.slice (some ⟨gt, 0, none⟩) k ct) (.slice ai ids.length ci) ids ts k 0 wc) := by
                      obtain ⟨us2, ks2, b1, b2, b3, b4, b5⟩ := hcut.out
                      exact Lib.hid ⟨us2, ks2, set_start b1, set_start b2, b3, b4, b5⟩
                    clear hcut
                    go_upto_block 9 with fail
                    go_cut [] (fun wx => Hid (SetRel w f h F3 ob kd V K (.slice (some ⟨gu, 0, none⟩) k cu) (.slice (some ⟨gk, 0, none⟩) k ck) (.slice (some ⟨gt, 0, none⟩) k ct) (.slice ai ids.length ci) ids ts k ids.length wx))
                    case first =>
                      as_aux_lemma =>
                      go_wp2_with fail
                      go_loopw [20] (fun c wx => ∃ c' : Nat, c = .int .i64 c' ∧ c' ≤ ids.length ∧ Hid (SetRel w f h F3 ob kd V K (.slice (some ⟨gu, 0, none⟩) k cu) (.slice (some ⟨gk, 0, none⟩) k ck) (.slice (some ⟨gt, 0, none⟩) k ct) (.slice ai ids.length ci) ids ts k c' wx)) (fun c _ => ids.length - (intOf c).toNat)
                      case atStart => exact ⟨0, rfl, Nat.zero_le _, HREL0⟩
                      case round =>
                        clear HREL0
                        obtain ⟨c, rfl, hck, hcr⟩ := hrel
                        have hc0 : (0 : Int) ≤ c := by omega
                        by_cases hlt : c < ids.length
                        · as_aux_lemma =>
                          have hlb : decide (c < ids.length) = true := by simpa using hlt
                          have hcki : (c : Int) < ids.length := by omega
                          obtain ⟨x, hx⟩ : ∃ x, ids[c]? = some x := ⟨_, List.getElem?_eq_getElem hlt⟩
                          obtain ⟨x2, xk, _⟩ := pickUp_mem (HIDS.out ▸ List.mem_of_getElem? hx)
                          have hxi : (x : Int) < k := by omega
                          have hx0 : (0 : Int) ≤ x := by omega
                          obtain ⟨us2, ks2, b1, b2, b3, b4, b5⟩ := hcr.out
                          have hxv : (ids.map fun (k : Nat) => (k : Int))[c]? = some (x : Int) := by rw [List.getElem?_map, hx]; rfl
                          obtain ⟨gi, cap', he, _, _, _, hcell⟩ := isOwn.at b4 (intV_at hxv)
                          simp only [Value.slice.injEq] at he
                          obtain ⟨rfl, h9, rfl⟩ := he
                          clear h9
                          obtain ⟨x1, hx1⟩ : ∃ b, us2[x]? = some b := ⟨_, List.getElem?_eq_getElem (by rw [b1.1]; exact xk)⟩
                          obtain ⟨x3, hx3⟩ : ∃ b, ks2[x]? = some b := ⟨_, List.getElem?_eq_getElem (by rw [b2.1]; exact xk)⟩
                          obtain ⟨d1, d2⟩ := isOwn_cell b3.iu (boolsV_at hx1)
                          obtain ⟨d3, d4⟩ := isOwn_cell b3.ik (boolsV_at hx3)
                          have HSW : Hid (∀ m, SetRel w f h F3 ob kd V K (.slice (some ⟨gu, 0, none⟩) k cu) (.slice (some ⟨gk, 0, none⟩) k ck) (.slice (some ⟨gt, 0, none⟩) k ct) (.slice (some ⟨gi, 0, none⟩) ids.length ci) ids ts k (c + 1) (((wr.drewN m).setCell ⟨gu, x, none⟩ (.bool true)).setCell ⟨gk, x, none⟩ (.bool true))) := Lib.hid fun m => set_both (hcr.out.new ((Keeps.refl wr _).drewN m)) hx xk
                          have HLT3 := Lib.hid hlt
                          clear hx hx1 hx3 hxv b1 b2 b3 b4 b5 hcr hlt
                          go_wp2_with fail
                          go_region
                          go_wp2
                          go_roundw
                          case rel => exact ⟨c + 1, by go_num, HLT3.out, Lib.hid (HSW.out _)⟩
                          case measure => have := HLT3.out; simp [intOf]; omega
                        · as_aux_lemma =>
                          have hlb : decide (c < ids.length) = false := by simpa using hlt
                          obtain rfl : c = ids.length := by omega
                          clear hlt
                          go_wp2_with fail
                          go_meet
                          exact hcr
                    case rest =>
                      as_aux_lemma =>
                      clear HREL0
                      obtain ⟨us2, ks2, b1, b2, b3, b4, b5⟩ := hcut.out
                      have HOK3 := Lib.hid (C5.out us2 ks2 (set_done b1) (set_done b2))
                      have HM3 := Lib.hid b3
                      obtain ⟨m, hm⟩ : ∃ m : Mt, m = ⟨F.mt.gen + 1, rootOf ids, ids.length, mk⟩ := ⟨_, rfl⟩
                      rw [← hm] at HMT3
                      have hmok : m.ok := by
                        obtain ⟨ss3, s1, _⟩ := HOK3.out.ss
                        have := s1.mok.ok
                        rw [HMT3.out] at this; exact this
                      have hgm : m.gen = F.mt.gen + 1 := by rw [hm]
                      have hbuild : ∀ W, (Instr.build 66 #[(0, .int .u64 ((F.mt.gen : Int) + 1)), (1, .int .i64 (rootOf ids)), (2, .int .i64 ids.length), (3, .int .u64 mk)]).run Try.prog W = .ok (.agg (metaA m)) W := fun W => by rw [hm]; exact build_meta _ _ _ _ W
                      have HS : (fun (w' : World) => w'.cell? ⟨ob, 2, none⟩ = some (.int .i64 K)) wc.drew := by show wc.cell? _ = _; rw [cell_of_block b5]; rfl
                      have HGM := Lib.hid hgm
                      have HMEQ := Lib.hid hm
                      have HMOK := Lib.hid hmok
                      clear hcut b1 b2 b3 b4 b5 hm hgm hmok
                      go_wp2_with fail
                      refine wp_region_held_drew (S := (fun (w' : World) => w'.cell? ⟨ob, 2, none⟩ = some (.int .i64 K))) (by kernel_rfl) HS (fun _ => ?_)
                      first
                        | (refine rg_skip 0 rfl (by kernel_rfl) (by kernel_rfl) (by kernel_rfl) (fun _ _ _ h => h) HS ?_ ?_; rfl)
                        | (refine rg_take 0 (v := ?_) rfl (by kernel_rfl) (by kernel_rfl) (by kernel_rfl) (fun _ _ _ h => h) HS ?_ ?_ ?_; rotate_left; rfl; focus (intro w hSw; (try dsimp only at hSw); go_simp; all_goals (with_reducible rfl)))
                      simp only [Act.put, List.setIfInBounds_toArray, List.set_cons_succ, List.set_cons_zero]
                      first
                        | (refine rg_skip 2 rfl (by kernel_rfl) (by kernel_rfl) (by kernel_rfl) (fun _ _ _ h => h) HS ?_ ?_; rfl)
                        | (refine rg_take 2 (v := ?_) rfl (by kernel_rfl) (by kernel_rfl) (by kernel_rfl) (fun _ _ _ h => h) HS ?_ ?_ ?_; rotate_left; rfl; focus (intro w hSw; (try dsimp only at hSw); go_simp; all_goals (with_reducible rfl)))
                      simp only [Act.put, List.setIfInBounds_toArray, List.set_cons_succ, List.set_cons_zero]
                      first
                        | (refine rg_skip 3 rfl (by kernel_rfl) (by kernel_rfl) (by kernel_rfl) (fun _ _ _ h => h) HS ?_ ?_; rfl)
                        | (refine rg_take 3 (v := ?_) rfl (by kernel_rfl) (by kernel_rfl) (by kernel_rfl) (fun _ _ _ h => h) HS ?_ ?_ ?_; rotate_left; rfl; focus (intro w hSw; (try dsimp only at hSw); go_simp; all_goals (with_reducible rfl)))
                      simp only [Act.put, List.setIfInBounds_toArray, List.set_cons_succ, List.set_cons_zero]
                      first
                        | (refine rg_skip 4 rfl (by kernel_rfl) (by kernel_rfl) (by kernel_rfl) (fun _ _ _ h => h) HS ?_ ?_; rfl)
                        | (refine rg_take 4 (v := ?_) rfl (by kernel_rfl) (by kernel_rfl) (by kernel_rfl) (fun _ _ _ h => h) HS ?_ ?_ ?_; rotate_left; rfl; focus (intro w hSw; (try dsimp only at hSw); go_simp; all_goals (with_reducible rfl)))
                      simp only [Act.put, List.setIfInBounds_toArray, List.set_cons_succ, List.set_cons_zero]
                      first
                        | (refine rg_skip 5 rfl (by kernel_rfl) (by kernel_rfl) (by kernel_rfl) (fun _ _ _ h => h) HS ?_ ?_; rfl)
                        | (refine rg_take 5 (v := ?_) rfl (by kernel_rfl) (by kernel_rfl) (by kernel_rfl) (fun _ _ _ h => h) HS ?_ ?_ ?_; rotate_left; rfl; focus (intro w hSw; (try dsimp only at hSw); go_simp; all_goals (with_reducible rfl)))
                      simp only [Act.put, List.setIfInBounds_toArray, List.set_cons_succ, List.set_cons_zero]
                      first
                        | (refine rg_skip 6 rfl (by kernel_rfl) (by kernel_rfl) (by kernel_rfl) (fun _ _ _ h => h) HS ?_ ?_; rfl)
                        | (refine rg_take 6 (v := ?_) rfl (by kernel_rfl) (by kernel_rfl) (by kernel_rfl) (fun _ _ _ h => h) HS ?_ ?_ ?_; rotate_left; rfl; focus (intro w hSw; (try dsimp only at hSw); go_simp; all_goals (with_reducible rfl)))
                      simp only [Act.put, List.setIfInBounds_toArray, List.set_cons_succ, List.set_cons_zero]
                      first
                        | (refine rg_skip 7 rfl (by kernel_rfl) (by kernel_rfl) (by kernel_rfl) (fun _ _ _ h => h) HS ?_ ?_; rfl)
                        | (refine rg_take 7 (v := ?_) rfl (by kernel_rfl) (by kernel_rfl) (by kernel_rfl) (fun _ _ _ h => h) HS ?_ ?_ ?_; rotate_left; rfl; focus (intro w hSw; (try dsimp only at hSw); go_simp; all_goals (with_reducible rfl)))
                      simp only [Act.put, List.setIfInBounds_toArray, List.set_cons_succ, List.set_cons_zero]
                      first
                        | (refine rg_skip 8 rfl (by kernel_rfl) (by kernel_rfl) (by kernel_rfl) (fun _ _ _ h => h) HS ?_ ?_; rfl)
                        | (refine rg_take 8 (v := ?_) rfl (by kernel_rfl) (by kernel_rfl) (by kernel_rfl) (fun _ _ _ h => h) HS ?_ ?_ ?_; rotate_left; rfl; focus (intro w hSw; (try dsimp only at hSw); go_simp; all_goals (with_reducible rfl)))
                      simp only [Act.put, List.setIfInBounds_toArray, List.set_cons_succ, List.set_cons_zero]
                      first
                        | (refine rg_skip 9 rfl (by kernel_rfl) (by kernel_rfl) (by kernel_rfl) (fun _ _ _ h => h) HS ?_ ?_; rfl)
                        | (refine rg_take 9 (v := ?_) rfl (by kernel_rfl) (by kernel_rfl) (by kernel_rfl) (fun _ _ _ h => h) HS ?_ ?_ ?_; rotate_left; rfl; focus (intro w hSw; (try dsimp only at hSw); go_simp; all_goals (with_reducible rfl)))
                      simp only [Act.put, List.setIfInBounds_toArray, List.set_cons_succ, List.set_cons_zero]
                      refine rg_one 1 rfl (by kernel_rfl) (by rfl) ?_
                      refine rg_call 46 _ _ rfl _ Try.func46 (by kernel_rfl) (by kernel_rfl) [.pointer (some ⟨f, 0, none⟩)] rfl (l_meta (HM3.out.new (Keeps.refl wc _).drew).law) ?_
                      rintro e wa ⟨he, hLa, hka⟩
                      rw [HMT3.out] at he
                      subst he
                      have HSa : (fun (w' : World) => w'.cell? ⟨ob, 2, none⟩ = some (.int .i64 K)) wa := Keeps.cellK hka HS
                      have HMA := Lib.hid ((HM3.out.new (Keeps.refl wc _).drew).new hka)
                      refine ⟨_, rfl, HSa, ?_⟩
                      simp only [Act.put, List.setIfInBounds_toArray, List.set_cons_succ, List.set_cons_zero]
                      have hguard : ∀ W x y, (eqGuard BinOp.neq 66 x y (.agg (metaA m)) (.agg (metaA m))).run Try.prog W = .ok () W := fun W x y => run_guard_mt W _ _ _ _ _
                      have hneq : ∀ W, (binOp BinOp.neq 66 (.agg (metaA m)) (.agg (metaA m))).run Try.prog W = .ok (.bool false) W := neq_mt HMOK.out HMOK.out _ (by simp)
                      refine rg_bin 10 (.bool false) rfl (by kernel_rfl) (by kernel_rfl) (by kernel_rfl) (fun _ _ _ h => h) HSa (by rfl) (.agg (metaA m)) (.agg (metaA m)) (by first | rfl | (rw [show m = _ from HMEQ.out]; rfl)) (by first | rfl | (rw [show m = _ from HMEQ.out]; rfl)) (fun W => hguard W _ _) hneq ?_
                      simp only [Act.put, List.setIfInBounds_toArray, List.set_cons_succ, List.set_cons_zero]
                      refine wpAnyH_done (by kernel_rfl) ?_ _
                      clear hguard hneq hbuild HS HSa hLa hka
                      go_wp2_with fail
                      go_meet
                      exact Lib.hid ⟨F3, us2, ks2, ts, HOK3.out, by rw [show F3.mt = m from HMT3.out, show m.gen = F.mt.gen + 1 from HGM.out]; rfl, by rw [show F3.mt = m from HMT3.out, show m.gen = F.mt.gen + 1 from HGM.out]; omega, by rw [show F3.mt = m from HMT3.out, show m.gen = F.mt.gen + 1 from HGM.out]; have := HG2.out; omega, HMA.out.less (fun _ hg => hg.elim)⟩
            · as_aux_lemma =>
              have hb2 : (kd == 2) = false := by simpa using h2
              by_cases h3 : kd = 3
              · as_aux_lemma =>
                have hb3 : (kd == 3) = true := by simpa using h3
                clear h2 h3 hput
                go_wp2_with fail
                refine (l_drop HM4.out.law (by have := HOK.out.fresh; have := HLT.out.2; omega)).mono ?_
                rintro e w5 ⟨rfl, hL5, hk5⟩
                have HM5 := Lib.hid (HM4.out.call hL5 hk5)
                obtain ⟨C, hC, hCs, hover⟩ := isOwn_over HM5.out.iu (by rw [boolsV_len, HN.out])
                have hrd := isOwn.rd HM5.out.ik
                have hks : (boolsV ks).length = n := by rw [boolsV_len, HOK.out.klen, HN.out]
                go_wp2_with (first
                  | (refine wl_copy rfl _ _ _ _ rfl 4 Try.underlying36 (by kernel_rfl) gu 0 n cu rfl _ rfl (boolsV ks) hrd C _ hC n (by rw [hks]; omega) (by omega) one_bools ?_; intro w6 HB6 HK6; rw [List.take_of_length_le (by omega)] at HB6; have HM6 := Lib.hid (HM5.out.wroteU (us' := ks) (hover w6 (boolsV ks) hks HB6) (HK6.mono (fun i _ hi => by rw [show i = gu from hi]; rfl)) (.inl rfl)))
                  | fail)
                go_meet
                exact Lib.hid ⟨dropP F, ks, ks, ts, pl_drop HOK.out, rfl, HG1.out, (by have := HG2.out; show F.mt.gen ≤ _; omega), HM6.out.less (fun _ hg => hg.elim)⟩
              · as_aux_lemma =>
                have hb3 : (kd == 3) = false := by simpa using h3
                have o1 : wc.cell? ⟨ob, 1, none⟩ = some (.int .i64 V) := by rw [cell_of_block HO4.out]; rfl
                have hm31 : bits BinOp.and IntKind.i64 V 31 = V % 32 := mask31 V
                obtain ⟨r, hr, hr9⟩ : ∃ r : Nat, V % 32 = r ∧ r < 32 := ⟨(V % 32).toNat, by omega, by omega⟩
                rw [hr] at hm31
                obtain ⟨pg, hpg⟩ : ∃ pg : Int, pg = (r : Int) - 2 := ⟨_, rfl⟩
                have hri : (r : Int) < 32 := by omega
                have hr0 : (0 : Int) ≤ r := by omega
                have HPG := Lib.hid hpg
                clear h2 h3 hput hr hpg
                go_wp2_with fail
                rw [← HPG.out]
                refine (l_read HM4.out.law pg).mono ?_
                rintro e w5 ⟨v5, rfl, ho5, hL5, hk5⟩
                obtain ⟨l, hl, hin⟩ := pl_read HOK.out pg
                rw [hl] at ho5 ⊢
                dsimp only at ho5 ⊢
                rw [HN.out] at hin ⊢
                have HM5 : Hid (PlMem w w5 f h F (fun g => g = ob) (.slice (some ⟨gu, 0, none⟩) n cu) (.slice (some ⟨gk, 0, none⟩) n ck) (.slice (some ⟨gt, 0, none⟩) n ct) us ks ts) := Lib.hid (HM4.out.new hk5)
                have HPL : Hid (∀ j, PlRel w f h (q + 1) (.slice (some ⟨gu, 0, none⟩) n cu) (.slice (some ⟨gk, 0, none⟩) n ck) (.slice (some ⟨gt, 0, none⟩) n ct) (.int .u64 F.mt.gen) (w5.drewN j)) := Lib.hid fun j => ⟨F, us, ks, ts, pl_next HOK.out, rfl, HG1.out, by have := HG2.out; omega, (HM5.out.new ((Keeps.refl w5 _).drewN j)).less (fun _ hg => hg.elim)⟩
                have hpi1 : pg < 32 := by have := HPG.out; omega
                have hpi2 : -2 ≤ pg := by have := HPG.out; omega
                by_cases h2 : 2 ≤ pg
                · by_cases h3 : pg < n
                  · obtain ⟨b, hb, hbt⟩ := hin h2 h3
                    have h2b : decide (2 ≤ pg) = true := decide_eq_true h2
                    have h3b : decide (pg < n) = true := decide_eq_true h3
                    have hp0 : 0 ≤ pg := by omega
                    have hcu := (isOwn_cell HM5.out.iu (boolsV_at hb)).1
                    rw [if_pos ⟨h2, h3⟩]
                    cases b with
                    | false =>
                      as_aux_lemma =>
                      clear hbt hb hin hl ho5 hL5 hk5 hm31 o1 hri hr0
                      go_wp2_with fail
                      go_quiet (fail)
                      go_wp2_with fail
                      go_meet
                      exact Lib.hid (HPL.out _)
                    | true =>
                      as_aux_lemma =>
                      obtain ⟨ht, hl0⟩ := hbt rfl
                      have hct := (isOwn_cell HM5.out.it (textsV_at ht)).1
                      have hcv : ∀ j, (convert 63 9 v5).run Try.prog (w5.drewN j) = .ok (.string (bs l)) (w5.drewN j) := fun j => run_string (isOwn.rd (isOwn.new ho5 ((Keeps.refl w5 _).drewN j))) hl0
                      clear ht hl0 hbt hb hin hl ho5 hL5 hk5 hm31 o1 hri hr0
                      go_wp2_with fail
                      go_quiet (fail)
                      go_wp2_with fail
                      go_meet
                      exact Lib.hid (HPL.out _)
                  · as_aux_lemma =>
                    have h2b : decide (2 ≤ pg) = true := decide_eq_true h2
                    have h3b : decide (pg < n) = false := decide_eq_false h3
                    rw [if_neg (fun hh => h3 hh.2)]
                    clear h3 hin hl ho5 hL5 hk5 hm31 o1 hri hr0
                    go_wp2_with fail
                    go_quiet (fail)
                    go_wp2_with fail
                    go_meet
                    exact Lib.hid (HPL.out _)
                · as_aux_lemma =>
                  have h2b : decide (2 ≤ pg) = false := decide_eq_false h2
                  rw [if_neg (fun hh => h2 hh.1)]
                  clear h2 hin hl ho5 hL5 hk5 hm31 o1 hri hr0
                  go_wp2_with fail
                  go_quiet (fail)
                  go_wp2_with fail
                  go_meet
                  exact Lib.hid (HPL.out _)
      case rest =>
        as_aux_lemma =>
        clear HM4 HO4 HOK HN HG1 HG2 HK1 HK2 HK3 hni2 hni62 hne1 hne2 hne3 o0 hlt1 hlt2
        obtain ⟨F2, us2, ks2, ts2, hok, rfl, hg1, hg2, hm⟩ := hcut.out
        obtain ⟨n2, hn⟩ : ∃ n2, us2.length = n2 := ⟨_, rfl⟩
        have h2n : 2 ≤ n2 := by rw [← hn]; exact hok.two
        have hn64 : n2 ≤ 3 + q := by rw [← hn]; have := hok.len; omega
        obtain ⟨gu2, cu2, gk2, ck2, gt2, ct2, rfl, rfl, rfl, _, _, _⟩ := hm.shape h2n hn (by rw [hok.klen, hn]) (by rw [hok.tlen, hn])
        have h2ni : (2 : Int) ≤ n2 := by omega
        have hn64i : (n2 : Int) ≤ 64 := by omega
        have HN2 := Lib.hid hn
        have HOK2 := Lib.hid hok
        have HREL0 : Hid (PlayFree w f h F2 (.slice (some ⟨gu2, 0, none⟩) n2 cu2) (.slice (some ⟨gk2, 0, none⟩) n2 ck2) (.slice (some ⟨gt2, 0, none⟩) n2 ct2) us2 ks2 ts2 2 (.slice none 0 0) wc) :=
          Lib.hid ⟨by rw [freeUpTo_two _ _ (Nat.le_refl _)]; exact isOwn_nil _ _ _, hm.more (O' := fun g => (Value.slice none 0 0).ownBlock = some g) (Keeps.refl _ _) (fun g hg => by cases hg) (fun g hg => by cases hg)⟩
        clear hn hok hm
        go_wp2_with fail
        go_loopw [24, 25] (fun v24 c wx => ∃ c' : Nat, c = .int .i64 c' ∧ 2 ≤ c' ∧ c' ≤ n2 ∧ Hid (PlayFree w f h F2 (.slice (some ⟨gu2, 0, none⟩) n2 cu2) (.slice (some ⟨gk2, 0, none⟩) n2 ck2) (.slice (some ⟨gt2, 0, none⟩) n2 ct2) us2 ks2 ts2 c' v24 wx)) (fun _ c _ => n2 - (intOf c).toNat)
        case atStart => exact ⟨2, rfl, Nat.le_refl _, h2n, HREL0⟩
        case round =>
          clear HREL0
          obtain ⟨c, rfl, hc2, hcn, hfr⟩ := hrel
          have hc0 : (2 : Int) ≤ c := by omega
          by_cases hlt3 : c < n2
          · as_aux_lemma =>
            have hlb : decide (c < n2) = true := by simpa using hlt3
            have hcni : (c : Int) < n2 := by omega
            have hus := HOK2.out.used c hc2 (by rw [HN2.out]; exact hlt3)
            have HSUC := Lib.hid (freeUpTo_succ F2 c hc2)
            obtain ⟨b, hb⟩ : ∃ b, F2.used c = b := ⟨_, rfl⟩
            rw [hb] at hus HSUC
            obtain ⟨a1, a2⟩ := hfr.out
            have hcell := (isOwn_cell a2.iu (boolsV_at hus)).1
            have HLT3 := Lib.hid hlt3
            clear hus hlt3 hb
            cases b with
            | true =>
              have HP : Hid (freeUpTo F2 (c + 1) = freeUpTo F2 c) := Lib.hid (by rw [HSUC.out]; simp)
              clear a1 a2
              go_wp2_with fail
              go_roundw
              case rel => exact ⟨c + 1, by go_num, by omega, HLT3.out, Lib.hid (by have := hfr.out; unfold PlayFree at this ⊢; rw [HP.out]; exact this)⟩
              case measure => have := HLT3.out; simp [intOf]; omega
            | false =>
              have HP : Hid (freeUpTo F2 (c + 1) = freeUpTo F2 c ++ [c]) := Lib.hid (by rw [HSUC.out]; simp)
              have hpl := freeUpTo_len F2 c
              have hl1 : (intV ((freeUpTo F2 c).map fun (k : Nat) => (k : Int))).length + 1 ≤ maxLen := by rw [intV_len, List.length_map]; unfold maxLen; omega
              have hl2 : ((intV ((freeUpTo F2 c).map fun (k : Nat) => (k : Int))).length + 1) * 8 ≤ 140737488355328 := by rw [intV_len, List.length_map]; omega
              have A1 := Lib.hid a1
              have A2 := Lib.hid a2
              clear a1 a2 hfr hpl
              go_wp2_with (first
                | (refine wl_slice1 rfl _ _ rfl 3 _ 8 Try.underlying22 info_int rfl (.int .i64 c) rfl rfl ?_; intro bb w5 hbb HB5 HK5)
                | (at_builtin; refine wl_appendN rfl _ _ 22 rfl 3 _ 8 Try.underlying22 info_int rfl w.heap.size u24 (intV ((freeUpTo F2 c).map fun (k : Nat) => (k : Int))) rfl (A1.out.new HK5) _ [.int .i64 c] rfl (isVals_one (ok := fun _ => True) HB5 trivial).rd (fun _ h => by cases h) (by simp; rfl) hl1 hl2 (A2.out.new HK5).law.keeps.size ?_; intro v' w6 hap)
                | fail)
              have HREL : Hid (PlayFree w f h F2 (.slice (some ⟨gu2, 0, none⟩) n2 cu2) (.slice (some ⟨gk2, 0, none⟩) n2 ck2) (.slice (some ⟨gt2, 0, none⟩) n2 ct2) us2 ks2 ts2 (c + 1) v' w6) := by
                refine Lib.hid ⟨?_, (A2.out.new HK5).turnO hap.2.1 (fun g hg => ?_) (fun g hg => (hap.1.blk g hg).2)⟩
                · rw [HP.out, List.map_append, List.map_cons, List.map_nil, intV_app9]
                  exact hap.1
                · rcases hap.2.2 with h1 | h1
                  · exact .inl (h1 ▸ hg)
                  · right; rw [h1] at hg; simp only [Option.some.injEq] at hg; omega
              clear hap HB5 HK5 hbb
              go_roundw
              case rel => exact ⟨c + 1, by go_num, by omega, HLT3.out, HREL⟩
              case measure => have := HLT3.out; simp [intOf]; omega
          · as_aux_lemma =>
            have hlb : decide (c < n2) = false := by simpa using hlt3
            obtain rfl : c = n2 := by omega
            obtain ⟨a1, a2⟩ := hfr.out
            have hpg : pagesOf F2.d = c := by rw [HOK2.out.pages, HN2.out]
            have hfo : freeOf F2 = freeUpTo F2 c := by unfold freeOf; rw [hpg]
            have hfl : (freeUpTo F2 c).length ≤ c := freeUpTo_len F2 c
            have HPG := Lib.hid hpg
            have HFO := Lib.hid hfo
            have A1 := Lib.hid a1
            have A2 := Lib.hid a2
            clear hfr hlt3 hpg hfo a1 a2
            go_wp2_with fail
            refine (l_len A2.out.law).mono ?_
            rintro e w' ⟨he, rfl⟩
            rw [HPG.out] at he
            subst he
            go_wp2_with fail
            refine (l_free A2.out.law).mono ?_
            rintro e w7 ⟨v7, rfl, ho7, hL7, hk7⟩
            rw [intsV_intV, HFO.out] at ho7
            have HM7 := Lib.hid (A2.out.new hk7)
            go_wp2_with fail
            refine (sameInts_calls _ v7 u24 _ _ (isOwn.rd ho7) (isOwn.rd (A1.out.new hk7)) (by rw [List.length_map]; omega) (by rw [List.length_map]; omega)).mono ?_
            rintro e w8 ⟨he, hk8⟩
            rw [decide_eq_true rfl] at he
            subst he
            have HPL : Hid (PlRel w f h (q + 1) (.slice (some ⟨gu2, 0, none⟩) c cu2) (.slice (some ⟨gk2, 0, none⟩) c ck2) (.slice (some ⟨gt2, 0, none⟩) c ct2) (.int .u64 F2.mt.gen) w8) :=
              Lib.hid ⟨F2, us2, ks2, ts2, HOK2.out, rfl, hg1, hg2, (HM7.out.new hk8).more (Keeps.refl _ _) (fun g hg => hg.elim) (fun g hg => hg.elim)⟩
            clear ho7 hL7 hk7 hk8
            go_wp2_with fail
            go_roundw
            case rel => exact ⟨q + 1, by have := HLT.out; omega, by go_num, HPL⟩
            case measure => have := HLT.out; simp [intOf]; omega
    · have hout : (decide (q < xs.length) = false ∧ True) ∨ (decide (q < xs.length) = true ∧ decide ((q : Int) < 60) = false) := by
        rcases Nat.lt_or_ge q xs.length with h1 | h1
        · right; simp; omega
        · left; simp; omega
      obtain ⟨F, us, ks, ts, _, _, _, _, hm⟩ := hrel.out
      have hK := hm.law.keeps
      clear hlt hm hrel
      rcases hout with ⟨h1, h2⟩ | ⟨h1, h2⟩
      all_goals
        as_aux_lemma =>
        go_wp2
        go_ret
        exact ⟨rfl, hK⟩
end Go.Proofs.Ytadjcdfmppcpnaa
