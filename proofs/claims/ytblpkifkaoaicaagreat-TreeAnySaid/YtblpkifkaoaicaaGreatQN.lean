/- Lemmas and contracts of functions, joined. -/
import Derived.Test.YtblpkifkaoaicaaGreatQM
import Derived.Test.YtblpkifkaoaicaaGreatQV
import Derived.Test.YtblpkifkaoaicaaGreatYSlE
namespace Go.Proofs.YtblpkifkaoaicaaGreat
open Go Go.RowKit Go.Maps Wb

theorem short_fit {d : Nat} {l : Wb.Rows d} (h : FitR d l) (hs : sizeR l ≤ 1000) : ShortR l := by
  have hw := h.wt
  refine ⟨?_, fun r hr => Nat.le_trans (hw r hr) (by omega)⟩
  have h1 : ∀ m : Wb.Rows d, m.length ≤ (m.map wt).sum := by
    intro m
    induction m with
    | nil => simp
    | cons r t ih =>
      have h2 : 1 ≤ wt r := by
        cases d with
        | zero => show 1 ≤ 2 + _ + _; omega
        | succ d => show 1 ≤ 5 + _; omega
      rw [List.map_cons, List.sum_cons, List.length_cons]
      omega
  have h2 := h1 l
  unfold sizeR at hs
  omega
theorem flat_setRow {l : List Rw} {n : Nat} (h : n < l.length) (r : Rw) : flatA (rowsA (l.set n r)) = (flatA (rowsA l)).take (n * 3) ++ (rowA r).toList ++ (flatA (rowsA l)).drop (n * 3 + 3) := by
  induction l generalizing n with
  | nil => simp at h
  | cons x t ih =>
    have e1 : ∀ (y : Rw) (m : List Rw), flatA (rowsA (y :: m)) = (rowA y).toList ++ flatA (rowsA m) := fun y m => by simp [flatA, rowsA]
    have e3 : ∀ (y : Rw), (rowA y).toList.length = 3 := fun y => rfl
    cases n with
    | zero =>
      rw [List.set_cons_zero, e1, e1, Nat.zero_mul, List.take_zero, List.nil_append, Nat.zero_add, List.drop_append_of_le_length (by rw [e3]; omega), List.drop_of_length_le (by rw [e3]; omega), List.nil_append]
    | succ n =>
      have h2 : n < t.length := by simpa using h
      rw [List.set_cons_succ, e1, e1, ih h2, Nat.succ_mul]
      have e4 : (rowA x).toList = [.string (bs x.key), .string (bs x.val), .int .i64 x.page] := rfl
      rw [e4]
      simp only [List.cons_append, List.nil_append, List.take_succ_cons, List.drop_succ_cons, List.append_assoc]
theorem isOwnA.setRow {w : World} {lo : Nat} {ad : Option Addr} {N c : Nat} {l : List Rw} (h : isOwnA w lo 70 3 (.slice ad N c) (rowsA l)) {n : Nat} (hn : n < l.length) : ∃ g cur, ad = some ⟨g, 0, none⟩ ∧ lo ≤ g ∧ w.heap[g]? = some (.cells cur 70 (0, 0)) ∧ n * 3 + 3 ≤ cur.size ∧
    ∀ (w' : World) r, w'.heap[g]? = some (.cells (Wb.splice cur (n * 3) (rowA r)) 70 (0, 0)) → isOwnA w' lo 70 3 (.slice ad N c) (rowsA (l.set n r)) := by
  obtain ⟨_, h2⟩ := h
  rcases h2.2 with ⟨he, h0⟩ | ⟨g, cap, cur, he, k1, k2, k3, k4, k5, k6⟩
  · rw [rowsA_len] at h0; omega
  injection he with f1 f2 f3
  subst f1 f3
  rw [rowsA_len] at k3 k6 f2
  have hfit : n * 3 + 3 ≤ cur.size := by
    rw [k5]
    have := Nat.mul_le_mul_right 3 (show n + 1 ≤ c by omega)
    omega
  refine ⟨g, cur, rfl, k1, k2, hfit, fun w' r hb => ⟨rowsA_size _, by rw [flatA_len (rowsA_size _)], .inr ⟨g, c, _, by rw [rowsA_len, List.length_set, f2], k1, hb, by rw [rowsA_len, List.length_set]; exact k3, k4, ?_, ?_⟩⟩⟩
  · rw [splice_len (by show n * 3 + 3 ≤ _; exact hfit)]; exact k5
  · rw [rowsA_len, List.length_set, flat_setRow hn r, ← k6]
    have e9 : rowA r = (rowA r).toList.toArray := by simp
    rw [e9, splice_list]
    have hl3 : (rowA r).toList.length = 3 := rfl
    simp only [hl3]
    rw [List.take_take, Nat.min_eq_left (Nat.mul_le_mul_right _ (by omega))]
    have hcl : (cur.toList.take (n * 3)).length = n * 3 := by rw [List.length_take, Array.length_toList]; omega
    rw [List.take_append, List.take_of_length_le (l := List.take (n * 3) cur.toList ++ _) (by rw [List.length_append, hcl]; show n * 3 + 3 ≤ _; omega)]
    congr 1
    rw [List.length_append, hcl, List.drop_take]
    show _ = (cur.toList.drop (n * 3 + 3)).take (l.length * 3 - (n * 3 + 3))
    rfl
def GrownPost (w : World) (X : Nat → Prop) (d : Nat) (g : List (Nd d)) (fresh : Bool) (e : Ending) (w' : World) : Prop :=
  ∃ v js, e = .returned (.tuple #[v, .bool fresh]) ∧ isKids w' X v js ∧ isKs w' X d g js ∧ Keeps w w' (fun _ => False)
theorem buildRw2 (k v : Nm) (w : World) : (Instr.build 70 #[(0, .string (bs k)), (1, .string (bs v))]).run Tryz.prog w = .ok (.agg (rowA ⟨k, v, 0⟩)) w := by kernel_rfl
theorem putRs {l : Wb.Rows 0} {rs : List Rw} (h : RsOk rs l) (k v : Nm) : RsOk (if foundR l k = true then rs.set (lowers l k) ⟨k, v, 0⟩ else rs.take (lowers l k) ++ ⟨k, v, 0⟩ :: rs.drop (lowers l k)) (putL l k v) := by
  have h : rs = l.map fun r => ⟨keyR r, valR r, 0⟩ := h
  show _ = (putL l k v).map _
  unfold putL
  split
  · rw [h, List.map_set]; rfl
  · rw [h, List.map_append, List.map_cons, List.map_take, List.map_drop]; rfl
theorem ex_load {P : Program} {w : World} {a : Act} {dst : Option Tmp} {ty : TypeId} {x : Operand} {t : TypeId} {pos : String} {after : Array Edge} {gd : Option (Nat × Bool)} (g off : Nat) (hx : a.eval x = .pointer (some ⟨g, off, none⟩)) (C : Array Value) (t' : TypeId) (fr : Nat × Nat) (hb : w.heap[g]? = some (.cells C t' fr))
    (V : Array Value) (hV : C.extract off (off + V.size) = V) (ds : TypeDesc) (hu : P.underlying ty = some ds) (hd : ds.isRow = true) (hi : (P.info? ty).map (·.size) = some V.size) : (execOp a.eval ⟨dst, .load ty x, t, pos, after, gd⟩).run P w = .ok (.value (.agg V)) w := by
  unfold execOp
  simp only [hx, run_load_agg ty g off C t' fr hb V hV ds hu hd hi, Sem.run_bind, Sem.run_pure, Result.andThen_ok]
set_option maxRecDepth 100000 in
set_option maxHeartbeats 4000000 in
theorem grownL_calls {k v : Nm} (hk : keyOk k) (hv : v.length ≤ 20) (w : World) (X : Nat → Prop) (hX : ∀ i, w.heap.size ≤ i → X i) (n : Nd 0) (b : Nat) (h : isK w X 0 n b) (ho : Ord 0 n.2) (hf : Fit 0 n.2) :
    Calls Tryz.prog 40 #[.pointer (some ⟨b, 0, none⟩), .string (bs k), .string (bs v)] w (GrownPost w X 0 (grown 0 n.2 k v) (!hasM (flat 0 n.2) k)) := by
  obtain ⟨rs, hkn, hrok⟩ := h
  obtain ⟨rv, kv, hb, hr, _⟩ := hkn.ex
  have HR := Lib.hid hr
  obtain ⟨⟨ad, cap, rfl, hcap, hrd⟩, zza⟩ := hr
  have HB := Lib.hid hb
  have HX := Lib.hid hX
  have hsh := short_fit hf.2 (Nat.le_trans hf.1 (by omega))
  have hlen : rs.length = n.2.length := hrok.len
  have hks : rs.map (·.key) = n.2.map keyR := hrok.keys
  have hsort : (rs.map (·.key)).Pairwise (· < ·) := by rw [hks, List.pairwise_map]; exact ho
  obtain ⟨N, hN⟩ : ∃ N, N = (rowsA rs).length := ⟨_, rfl⟩
  rw [← hN] at HR HB
  have hNr : N = rs.length := by rw [hN, rowsA_len]
  have hN9 : N ≤ 1000 := by rw [hNr, hlen]; exact hsh.1
  have hFK : findI true (rs.map (·.key)) k = lowers n.2 k := by unfold findI; rw [if_pos (.inl rfl), hks, lowK_rows]
  have hHK : hasK (rs.map (·.key)) k = foundR n.2 k := by rw [hks, hasK_rows]
  obtain ⟨i, hi⟩ : ∃ i, i = lowers n.2 k := ⟨_, rfl⟩
  obtain ⟨th, hth⟩ : ∃ th, th = foundR n.2 k := ⟨_, rfl⟩
  have hiN : i ≤ N := by
    have := lowK_le (rs.map (·.key)) k
    rw [hks, lowK_rows, ← hi, List.length_map] at this
    omega
  have hlt : th = true → i < N := fun e => by
    obtain ⟨T, D, h1, h2, h3, hc⟩ := putL_split ho k []
    rcases hc with ⟨_, r, D', rfl, _, _, _⟩ | ⟨hf2, _⟩
    · have h4 := congrArg List.length h1
      rw [List.length_append, List.length_cons] at h4
      have h5 : T.length = i := by rw [h2, hi]
      omega
    · rw [← hth, e] at hf2; cases hf2
  have HPUT := Lib.hid (putRs hrok k v)
  rw [← hi, ← hth] at HPUT
  have HFIND : Hid (∀ (W : World), Keeps w W (fun _ => False) → Calls Tryz.prog 48 #[.agg (nodeA true (.slice ad N cap)), .string (bs k)] W (Quiet W (.tuple #[.int .i64 i, .bool th]))) := Lib.hid fun W hkk => by
    have := find_calls W true (.slice ad N cap) rs k (HR.out.1.new hkk) hsort (by omega)
    rw [hFK, hHK, ← hi, ← hth] at this
    exact this
  have hpl := putL_fit hf ho hk hv
  have HSPL : Hid (∀ (W : World) (bo : Nat), Keeps w W (fun _ => False) → isK W X 0 (0, putL n.2 k v) bo → Calls Tryz.prog 69 #[.pointer (some ⟨bo, 0, none⟩)] W (KnotsPost W X 0 (grown 0 n.2 k v))) := Lib.hid fun W bo hkk hbo =>
    split_calls W X (fun j hj => hX j (Nat.le_trans hkk.size hj)) (putL n.2 k v) bo hbo (short_fit hpl.1 (Nat.le_trans hpl.2.1 (by omega)))
  have hfr : (!hasM (flat 0 n.2) k) = !th := by rw [flat_has, hth]
  rw [hfr]
  obtain ⟨G, hG⟩ : ∃ G, G = grown 0 n.2 k v := ⟨_, rfl⟩
  rw [← hG] at HSPL ⊢
  have HNR := Lib.hid hNr
  have HLT := Lib.hid hlt
  have hNi : (N : Int) ≤ 1000 := by omega
  have hi0 : (0 : Int) ≤ i := by omega
  have hiNi : (i : Int) ≤ N := by omega
  have HIN := Lib.hid hiN
  have c1 : w.cell? ⟨b, 1, none⟩ = some (.bool true) := by rw [cell_of_block HB.out]; rfl
  have c2 : w.cell? ⟨b, 2, none⟩ = some (.slice ad N cap) := by rw [cell_of_block HB.out]; rfl
  have HC : Hid (w.cell? ⟨b, 1, none⟩ = some (.bool true) ∧ w.cell? ⟨b, 2, none⟩ = some (.slice ad N cap)) := Lib.hid ⟨c1, c2⟩
  clear hrd zza hkn hb hX hcap hsh hlen hks hsort hN hNr hFK hHK hi hth hlt hpl hfr hG hrok ho hf hk hv c1 c2 hiN
  go_enter Tryz.func40, Tryz.ntmps40
  go_wp2_with fail
  refine (asNode_calls w b n.1 true _ _ _ kv HB.out).mono ?_
  rintro e w1 ⟨rfl, hk1⟩
  have HK1 := Lib.hid hk1
  clear hk1
  go_wp2_with fail
  refine (HFIND.out w1 HK1.out).mono ?_
  rintro e w2 ⟨rfl, hk2⟩
  have HK2 := Lib.hid (HK1.out.trans hk2)
  have c1 := Keeps.cellK (HK1.out.trans hk2) HC.out.1
  have c2 := Keeps.cellK (HK1.out.trans hk2) HC.out.2
  clear hk2
  go_wp2_with fail
  refine (cloneR_calls w2 _ rs (HR.out.1.new HK2.out) HR.out.2.1 (by have := HNR.out; omega)).mono ?_
  rintro e w3 ⟨v3, rfl, ho3, hk3⟩
  obtain ⟨a3, p3, rfl⟩ := ho3.shape
  rw [show (rowsA rs).length = N by rw [rowsA_len]; exact HNR.out.symm] at ho3 ⊢
  have HO3 := Lib.hid ho3
  have HK3 := Lib.hid (HK2.out.trans hk3)
  have HLO3 : Hid (w.heap.size ≤ w2.heap.size ∧ w2.heap.size ≤ w3.heap.size) := Lib.hid ⟨HK2.out.size, hk3.size⟩
  clear ho3 hk3 c1 c2
  go_wp2_with (first
    | ((with_reducible refine gd_build 96 ?_); refine wl_buildL rfl _ _ rfl [(1, .bool true), (2, .slice a3 N p3)] rfl (.agg (knA 0 true (.slice a3 N p3) (.slice none 0 0))) (fun _ => buildKn _ _ _ _ _) ?_)
    | ((with_reducible refine gd_box 96 ?_); refine wl_box_agg rfl _ _ rfl (knA 0 true (.slice a3 N p3) (.slice none 0 0)) rfl ?_; intro bo w4 hbo HBO hk4)
    | ((with_reducible refine gd_build 70 ?_); refine wl_buildL rfl _ _ rfl [(0, .string (bs k)), (1, .string (bs v))] rfl (.agg (rowA ⟨k, v, 0⟩)) (fun _ => buildRw2 _ _ _) ?_)
    | ((with_reducible refine gd_alloc 70 ?_); refine wl_alloc_agg rfl _ rfl _ zeroRw ?_; intro br w5 hbr HBR hk5)
    | ((with_reducible refine gd_store 70 ?_); refine wl_store_agg rfl _ _ _ rfl br _ rfl _ _ HBR (rowA ⟨k, v, 0⟩) rfl (rowA ⟨k, v, 0⟩) (store_rw _ _) (le_rw _ _) (infoRw _) (rowA_one _) ?_; intro w6 HBR6 hk6)
    | fail)
  · as_aux_lemma =>
    have hth : th = true := by assumption
    subst hth
    have hiN := HLT.out rfl
    obtain ⟨g, cur, rfl, hlo, hg, hfit, hset⟩ := isOwnA.setRow HO3.out (n := i) (by rw [← HNR.out]; exact hiN)
    have hgl := lt_of_blk hg
    have hs4 := hk4.size
    have hs5 := hk5.size
    have hbo4 := lt_of_blk HBO
    have hgbr : g ≠ br := fun e => by omega
    have hgbo : bo ≠ g := fun e => by omega
    have hbobr : bo ≠ br := fun e => by omega
    have HG6 := hk6.blk (hk5.blk (hk4.blk hg (fun h => h)) (fun h => h)) hgbr
    have HBO6 := hk6.blk (hk5.blk HBO (fun h => h)) hbobr
    have HKW6 : Keeps w w6 (fun _ => False) := (HK3.out.trans (hk4.trans hk5)).then hk6 (fun j hj e => by have e' : j = br := e; have := HLO3.out; omega)
    have z2 : w6.cell? ⟨bo, 2, none⟩ = some (.slice (some ⟨g, 0, none⟩) N p3) := by rw [cell_of_block HBO6]; rfl
    have hiNi9 : (i : Int) < N := by omega
    have HFIN : Hid (∀ w7 : World, w7.heap[g]? = some (.cells (Wb.splice cur (i * 3) (rowA ⟨k, v, 0⟩)) 70 (0, 0)) → Keeps w6 w7 (· = g) → isK w7 X 0 (0, putL n.2 k v) bo ∧ Keeps w w7 (fun _ => False)) := Lib.hid fun w7 hb7 hk7 => by
      have h9 := HPUT.out
      rw [if_pos rfl] at h9
      refine ⟨⟨_, ⟨HX.out bo (by have := HLO3.out; omega), _, _, hk7.blk HBO6 hgbo, isRows_own (hset w7 _ hb7) (fun j hj => HX.out j (Nat.le_trans HLO3.out.1 hj)), isKids_nil⟩, h9⟩, HKW6.then hk7 (fun j hj e => by have e' : j = g := e; have := HLO3.out; omega)⟩
    have HFIT := Lib.hid hfit
    have HGH := Lib.hid HG6
    have HBRH := Lib.hid HBR6
    clear hset hg hgl hs4 hs5 hbo4 hgbr hgbo hbobr HG6 HBO6 HKW6 HBO HBR HBR6 hk4 hk5 hk6 hbo hbr HO3 HLT HPUT HR hlo hfit hiN HFIND
    go_wp2_with fail
    refine wp_region_still_tail 7 (by kernel_rfl) (by kernel_rfl) ?_
    simp only [List.take_succ_cons, List.take_zero, List.drop_succ_cons, List.drop_zero]
    iterate 5 still_step
    refine ws_load_agg rfl _ _ rfl br 0 rfl _ _ _ HBRH.out (rowA ⟨k, v, 0⟩) (extract_all _) _ Tryz.underlying70 rfl (infoRw _) ?_
    still_step
    refine wpStill_nil ?_
    go_wp2_with (first
      | ((with_reducible refine gd_store 70 ?_); refine wl_store_agg rfl _ _ _ rfl g (i * 3) rfl cur 70 HGH.out (rowA ⟨k, v, 0⟩) rfl _ rfl HFIT.out (infoRw _) (rowA_one _) ?_; intro w7 HG7 hk7; have HE := Lib.hid (HFIN.out w7 HG7 ((Keeps.refl w6 _).drew.trans hk7)))
      | fail)
    clear HG7 hk7 z2
    refine (HSPL.out w7 bo HE.out.2 HE.out.1).mono ?_
    rintro e w8 ⟨v8, js8, rfl, p1, p2, p3⟩
    have HPO : Hid (GrownPost w X 0 G (!true) (.returned (.tuple #[v8, .bool (!true)])) w8) := Lib.hid ⟨v8, js8, rfl, p1, p2, HE.out.2.trans p3⟩
    clear p1 p2 p3
    go_wp2_with fail
    go_ret2
    exact HPO.out
  · as_aux_lemma =>
    have hth : th = false := by assumption
    subst hth
    have hs4 := hk4.size
    have hs5 := hk5.size
    have hbo4 := lt_of_blk HBO
    have hbobr : bo ≠ br := fun e => by omega
    have HBO6 := hk6.blk (hk5.blk HBO (fun h => h)) hbobr
    have HKW6 : Keeps w w6 (fun _ => False) := (HK3.out.trans (hk4.trans hk5)).then hk6 (fun j hj e => by have e' : j = br := e; have := HLO3.out; omega)
    have HO6 : isOwnA w6 w2.heap.size 70 3 (.slice a3 N p3) (rowsA rs) := ((HO3.out.new hk4).new hk5).kept hk6 (fun j hj e => by have e' : j = br := e; have := (HO3.out.blk j hj).2; omega)
    have hjo : ∀ j, (Value.slice a3 N p3).ownBlock = some j → w2.heap.size ≤ j ∧ j < w3.heap.size := fun j hj => HO3.out.blk j hj
    have hne : ∀ j, (Value.slice a3 N p3).ownBlock = some j → j ≠ bo ∧ j ≠ br ∧ j < w6.heap.size := fun j hj => by have := hjo j hj; have := hk6.size; omega
    have z2 : w6.cell? ⟨bo, 2, none⟩ = some (.slice a3 N p3) := by rw [cell_of_block HBO6]; rfl
    have HZ : Hid (∀ wX : World, wX.heap[bo]? = some (.cells (knA 0 true (.slice a3 N p3) (.slice none 0 0)) 96 (0, 0)) → wX.cell? ⟨bo, 2, none⟩ = some (.slice a3 N p3)) := Lib.hid fun wX hb => by rw [cell_of_block hb]; rfl
    have HO6H := Lib.hid HO6
    have HBO6H := Lib.hid HBO6
    have HBRH := Lib.hid HBR6
    have HKW6H := Lib.hid HKW6
    have HNE := Lib.hid hne
    have HJO := Lib.hid hjo
    have HS26 : Hid (w2.heap.size ≤ w6.heap.size) := Lib.hid (by have := HLO3.out; have := hk6.size; omega)
    have HBOW : Hid (w.heap.size ≤ bo) := Lib.hid (by have := HLO3.out; omega)
    have HRT : Hid (RsOk (rs.take i ++ ⟨k, v, 0⟩ :: rs.drop i) (putL n.2 k v)) := Lib.hid (by have h9 := HPUT.out; rwa [if_neg (by simp)] at h9)
    clear hs4 hs5 hbo4 hbobr HBO6 HKW6 HO6 hne hjo z2 HBO HBR HBR6 hk4 hk5 hk6 hbo hbr HLT HPUT HR HFIND HO3
    go_wp2_with fail
    refine till_begin (by kernel_rfl) (fun w' => w'.cell? ⟨bo, 2, none⟩ = some (.slice a3 N p3)) (fun w' => w'.heap[br]? = some (.cells (rowA ⟨k, v, 0⟩) 70 (0, 0))) 11 (HZ.out _ HBO6H.out) HBRH.out (fun HS HT => ?_)
    refine rt_takeT 0 (v := ?_) rfl (by kernel_rfl) (by kernel_rfl) (by kernel_rfl) (by kernel_rfl) (fun _ _ _ h => h) ⟨HT, fun _ => HS⟩ ?_ ?_ ?_
    rotate_left
    rfl
    focus (intro w hSw; (try dsimp only at hSw); go_simp; all_goals (with_reducible rfl))
    simp only [Act.put, l_a, l_s, l_z]
    refine rt_takeT 1 (v := ?_) rfl (by kernel_rfl) (by kernel_rfl) (by kernel_rfl) (by kernel_rfl) (fun _ _ _ h => h) ⟨HT, fun _ => HS⟩ ?_ ?_ ?_
    rotate_left
    rfl
    focus (intro w hSw; (try dsimp only at hSw); go_simp; all_goals (with_reducible rfl))
    simp only [Act.put, l_a, l_s, l_z]
    refine rt_takeT 2 (v := ?_) rfl (by kernel_rfl) (by kernel_rfl) (by kernel_rfl) (by kernel_rfl) (fun _ _ _ h => h) ⟨HT, fun _ => HS⟩ ?_ ?_ ?_
    rotate_left
    rfl
    focus (intro w hSw; (try dsimp only at hSw); go_simp; all_goals (with_reducible rfl))
    simp only [Act.put, l_a, l_s, l_z]
    refine rt_takeT 3 (v := ?_) rfl (by kernel_rfl) (by kernel_rfl) (by kernel_rfl) (by kernel_rfl) (fun _ _ _ h => h) ⟨HT, fun _ => HS⟩ ?_ ?_ ?_
    rotate_left
    rfl
    focus (intro w hSw; (try dsimp only at hSw); go_simp; all_goals (with_reducible rfl))
    simp only [Act.put, l_a, l_s, l_z]
    refine rt_take 4 (v := ?_) rfl (by kernel_rfl) rfl (by kernel_rfl) (by kernel_rfl) (by kernel_rfl) (by kernel_rfl) (by kernel_rfl) (fun _ _ _ h => h) HS HT ?_ ?_ ?_
    rotate_left
    rfl
    focus (intro w hSw; (try dsimp only at hSw); go_simp; all_goals (with_reducible rfl))
    simp only [Act.put, l_a, l_s, l_z]
    refine rt_takeT 5 (v := ?_) rfl (by kernel_rfl) (by kernel_rfl) (by kernel_rfl) (by kernel_rfl) (fun _ _ _ h => h) ⟨HT, fun _ => HS⟩ ?_ ?_ ?_
    rotate_left
    rfl
    focus (intro w hSw; (try dsimp only at hSw); go_simp; all_goals (with_reducible rfl))
    simp only [Act.put, l_a, l_s, l_z]
    refine rt_takeT 6 (v := .agg (rowA ⟨k, v, 0⟩)) rfl (by kernel_rfl) (by kernel_rfl) (by kernel_rfl) (by kernel_rfl) (fun _ _ _ h => h) ⟨HT, fun _ => HS⟩ (by rfl) (fun w hT => ex_load br 0 rfl _ _ _ hT _ (extract_all _) _ Tryz.underlying70 rfl (infoRw _)) ?_
    simp only [Act.put, l_a, l_s, l_z]
    refine till_list 7 rfl (by kernel_rfl) ?_
    refine wl_unguard (by rfl) ?_
    refine wl_sliceA1 rfl _ _ rfl 70 _ 3 40 Tryz.underlying47 infoRwZ (by decide) (by decide) (rowA ⟨k, v, 0⟩) rfl rfl ?_
    intro b7 w7 hb7 HBB7 hk7
    have HBO7 := hk7.blk (show w6.drew.heap[bo]? = _ from HBO6H.out) (fun h => h)
    have HBR7 := hk7.blk (show w6.drew.heap[br]? = _ from HBRH.out) (fun h => h)
    refine till_nil (till_next (HZ.out _ HBO7) HBR7 ?_)
    simp only [Act.put, l_a, l_s, l_z]
    refine till_op 8 rfl (by kernel_rfl) (by rfl) ?_
    have hO7 := (isOwnA.new HO6H.out (Keeps.refl w6 (fun _ => False)).drew).new hk7
    refine rg_call 71 _ _ rfl _ Tryz.func71 (by kernel_rfl) (by kernel_rfl) [.slice a3 N p3, .int .i64 i, .slice (some ⟨b7, 0, none⟩) 1 1] rfl (insertR_calls w7 w2.heap.size (.slice a3 N p3) rs i ⟨k, v, 0⟩ b7 hO7 (by have h2 := hk7.size; have h3 := (Keeps.refl w6 (fun _ => False)).drew.size; have h4 := HS26.out; omega) HBB7 (fun e => by have := (HNE.out b7 e).2.2; have h9 : w6.heap.size ≤ b7 := hb7; omega) (by have := HIN.out; have := HNR.out; omega) (by have := HNR.out; omega)) ?_
    rintro e w8 ⟨v8, rfl, ho8, hk8⟩
    obtain ⟨a8, p8, rfl⟩ := ho8.shape
    have HBO8 := hk8.blk HBO7 (fun e => (HNE.out bo e).1 rfl)
    have HBR8 := hk8.blk HBR7 (fun e => (HNE.out br e).2.1 rfl)
    refine ⟨_, rfl, till_next (HZ.out _ HBO8) HBR8 ?_⟩
    simp only [Act.put, l_a, l_s, l_z]
    refine rt_takeT 9 (v := ?_) rfl (by kernel_rfl) (by kernel_rfl) (by kernel_rfl) (by kernel_rfl) (fun _ _ _ h => h) ⟨HBR8, fun _ => HZ.out _ HBO8⟩ ?_ ?_ ?_
    rotate_left
    rfl
    focus (intro w hSw; (try dsimp only at hSw); go_simp; all_goals (with_reducible rfl))
    simp only [Act.put, l_a, l_s, l_z]
    refine rt_takeT 10 (v := ?_) rfl (by kernel_rfl) (by kernel_rfl) (by kernel_rfl) (by kernel_rfl) (fun _ _ _ h => h) ⟨HBR8, fun _ => HZ.out _ HBO8⟩ ?_ ?_ ?_
    rotate_left
    rfl
    focus (intro w hSw; (try dsimp only at hSw); go_simp; all_goals (with_reducible rfl))
    simp only [Act.put, l_a, l_s, l_z]
    refine till_op 11 rfl (by kernel_rfl) (by rfl) ?_
    refine wp_store_val 47 _ _ rfl bo 2 rfl _ _ HBO8 (.slice a8 (rowsA (rs.take i ++ ⟨k, v, 0⟩ :: rs.drop i)).length p8) #[.slice a8 (rowsA (rs.take i ++ ⟨k, v, 0⟩ :: rs.drop i)).length p8] rfl rfl _ rfl (by show 3 ≤ 4; decide) (by kernel_rfl) (by simp [Value.oneCell']) ?_
    intro w9 HBO9 hk9
    refine till_late (by kernel_rfl) (hk9.blk HBR8 (fun e => by have := HNE.out; have h9 := HBO8; rw [← e] at h9; rw [HBR8] at h9; injection h9 with h9; injection h9 with _ h9; exact absurd h9 (by decide))) ?_
    simp only [Act.put, l_a, l_s, l_z]
    refine till_done (by kernel_rfl) ?_ _
    have hO9 := ho8.kept hk9 (fun j hj e => by
      have e' : j = bo := e
      subst e'
      rcases ho8.2.2 with ⟨he, _⟩ | ⟨g9, c9, cu9, he, _, h9, _⟩
      · rw [he] at hj; cases hj
      · rw [he] at hj
        have : g9 = j := Option.some.inj hj
        subst this
        rw [HBO8] at h9
        injection h9 with h9
        injection h9 with _ h9
        exact absurd h9 (by decide))
    have hkw9 : Keeps w w9 (fun _ => False) := (((HKW6H.out.drew.trans hk7)).then hk8 (fun j hj e => by have := HJO.out j e; have := HLO3.out; omega)).then hk9 (fun j hj e => by have e' : j = bo := e; have := HBOW.out; omega)
    have HIK : Hid (isK w9 X 0 (0, putL n.2 k v) bo) := Lib.hid ⟨_, ⟨HX.out bo HBOW.out, .slice a8 (rowsA (rs.take i ++ ⟨k, v, 0⟩ :: rs.drop i)).length p8, .slice none 0 0, HBO9, isRows_own hO9 (fun j hj => HX.out j (Nat.le_trans HLO3.out.1 hj)), isKids_nil⟩, HRT.out⟩
    have HKW9 := Lib.hid hkw9
    clear hkw9 hO9 HBO9 hk9 hk8 ho8 HBO8 HBR8 hO7 HBO7 HBR7 hk7 HBB7 hb7 HS HT
    go_wp2_with fail
    refine (HSPL.out w9 bo HKW9.out HIK.out).mono ?_
    rintro e w10 ⟨v10, js10, rfl, p1, p2, p3⟩
    have HPO : Hid (GrownPost w X 0 G (!false) (.returned (.tuple #[v10, .bool (!false)])) w10) := Lib.hid ⟨v10, js10, rfl, p1, p2, HKW9.out.trans p3⟩
    clear p1 p2 p3
    go_wp2_with fail
    go_ret2
    exact HPO.out
end Go.Proofs.YtblpkifkaoaicaaGreat

namespace Go.Proofs.YtblpkifkaoaicaaGreat
open Go Go.RowKit Go.Maps Wb

/-- A knot that is none of a leaf, at the place of a row: what lies there. -/
structure InAt (w : World) (X : Nat → Prop) (d : Nat) (n : Nd (d + 1)) (b i : Nat) (r : Row (d + 1)) (ad ad2 : Option Addr) (cap cap2 x : Nat) (g o g2 o2 : Nat) (rs : List Rw) (kk : Nm) : Prop where
  blk : w.heap[b]? = some (.cells (knA n.1 false (.slice ad n.2.length cap) (.slice ad2 n.2.length cap2)) 96 (0, 0))
  rows : isRows w X (.slice ad n.2.length cap) rs
  rok : RsOk rs n.2
  kid : isK w X d (kidR r) x
  ha : ad = some ⟨g, o, none⟩
  ha2 : ad2 = some ⟨g2, o2, none⟩
  ck : w.cell? ⟨g, o + i * 3, none⟩ = some (.string (bs kk))
  cx : w.cell? ⟨g2, o2 + i, none⟩ = some (.pointer (some ⟨x, 0, none⟩))
  key : kk = keyR r
theorem inAt {w : World} {X : Nat → Prop} {d : Nat} {n : Nd (d + 1)} {b i : Nat} {r : Row (d + 1)} (h : isK w X (d + 1) n b) (hr : n.2[i]? = some r) : ∃ ad ad2 cap cap2 x g o g2 o2 rs, InAt w X d n b i r ad ad2 cap cap2 x g o g2 o2 rs (keyR r) := by
  obtain ⟨rs, ks, hkn, hrok, hkl, hkids⟩ := h
  obtain ⟨rv, kv, hb, hrw, hk⟩ := hkn.ex
  have hrw2 := hrw
  have hk2 := hk
  obtain ⟨⟨ad, cap, rfl, hcap, hrd⟩, _⟩ := hrw
  obtain ⟨⟨ad2, cap2, rfl, hcap2, hrd2⟩, _⟩ := hk
  have hil := (List.getElem?_eq_some_iff.1 hr).1
  have hx : ks[i]? = some (ks[i]'(by omega)) := List.getElem?_eq_getElem _
  have hrr : rs[i]? = some (rs[i]'(by rw [hrok.len]; exact hil)) := List.getElem?_eq_getElem _
  obtain ⟨g, o, rfl, _, hrg⟩ := hrd i _ (rowsA_at hrr)
  obtain ⟨g2, o2, rfl, _, hcx⟩ := hrd2 i (ptrV (ks[i]'(by omega))) (by rw [List.getElem?_map, hx]; rfl)
  have e1 : (rowsA rs).length = n.2.length := by rw [rowsA_len, hrok.len]
  have e2 : (ks.map ptrV).length = n.2.length := by rw [List.length_map, hkl]
  rw [e1] at hb hrw2
  rw [e2] at hb hk2
  have hkey : (rs[i]'(by rw [hrok.len]; exact hil)).key = keyR r := by
    have h1 := congrArg (fun l => l[i]?) hrok.keys
    simp only [List.getElem?_map, hrr, hr, Option.map_some, Option.some.injEq] at h1
    exact h1
  exact ⟨_, _, cap, cap2, _, g, o, g2, o2, rs, hb, hrw2, hrok, hkids i r _ hr hx, rfl, rfl, by have := hrg 0 _ rfl; simp only [Nat.add_zero] at this; rw [this, ← hkey], hcx, rfl⟩
theorem findI_inner {d : Nat} {rs : List Rw} {l : Wb.Rows (d + 1)} (h : RsOk rs l) (ho : l.Pairwise (fun a b => keyR a < keyR b)) (k : Nm) : findI false (rs.map (·.key)) k = idx l k := by
  rw [idx_lowK ho, h.keys]
  unfold findI
  by_cases hh : hasK (l.map keyR) k = true
  · rw [if_pos (.inr hh), if_pos hh]
  · rw [if_neg (by simpa using hh), if_neg hh]
set_option maxRecDepth 100000 in
set_option maxHeartbeats 4000000 in
theorem grownI_calls {k v : Nm} (d : Nat) (ih : ∀ (w : World) (X : Nat → Prop), (∀ i, w.heap.size ≤ i → X i) → ∀ (n : Nd d) (b : Nat), isK w X d n b → Ord d n.2 → Fit d n.2 → (n.2 ≠ [] ∨ d = 0) →
      Calls Tryz.prog 40 #[.pointer (some ⟨b, 0, none⟩), .string (bs k), .string (bs v)] w (GrownPost w X d (grown d n.2 k v) (!hasM (flat d n.2) k)))
    (w : World) (X : Nat → Prop) (hX : ∀ i, w.heap.size ≤ i → X i) (n : Nd (d + 1)) (b : Nat) (h : isK w X (d + 1) n b) (ho : Ord (d + 1) n.2) (hf : Fit (d + 1) n.2) (r : Row (d + 1)) (st : GrownStep d n.2 k v r) :
    Calls Tryz.prog 40 #[.pointer (some ⟨b, 0, none⟩), .string (bs k), .string (bs v)] w (GrownPost w X (d + 1) (grown (d + 1) n.2 k v) (!hasM (flat (d + 1) n.2) k)) := by
  obtain ⟨ad, ad2, cap, cap2, x, g, o, g2, o2, rs, hin⟩ := inAt h st.at'
  have hne : n.2 ≠ [] := fun e => by have := st.at'; rw [e] at this; cases this
  have hsh := short_fit hf.2 (Nat.le_trans hf.1 (by omega))
  have hil := (List.getElem?_eq_some_iff.1 st.at').1
  have hks : (rs.map (·.key)).Pairwise (· < ·) := by rw [hin.rok.keys, List.pairwise_map]; exact ho.keys
  have hfi := findI_inner hin.rok ho.keys k
  obtain ⟨rfl, rfl⟩ := And.intro hin.ha hin.ha2
  obtain ⟨N, hN⟩ : ∃ N, N = n.2.length := ⟨_, rfl⟩
  obtain ⟨i, hi⟩ : ∃ i, i = idx n.2 k := ⟨_, rfl⟩
  obtain ⟨th, hth⟩ : ∃ th, th = hasK (rs.map (·.key)) k := ⟨_, rfl⟩
  have hN9 : N ≤ 1000 := by rw [hN]; exact hsh.1
  have HFIND : Hid (∀ (W : World), Keeps w W (fun _ => False) → Calls Tryz.prog 48 #[.agg (nodeA false (.slice (some ⟨g, o, none⟩) N cap)), .string (bs k)] W (Quiet W (.tuple #[.int .i64 i, .bool th]))) := Lib.hid fun W hkk => by
    have := find_calls W false (.slice (some ⟨g, o, none⟩) n.2.length cap) rs k (hin.rows.1.new hkk) hks (by rw [hin.rok.len]; omega)
    rw [hfi, ← hi, ← hth, ← hN] at this
    exact this
  have HIH : Hid (∀ (W : World), Keeps w W (fun _ => False) → Calls Tryz.prog 40 #[.pointer (some ⟨x, 0, none⟩), .string (bs k), .string (bs v)] W (GrownPost W X d (grown d (kidR r).2 k v) (!hasM (flat (d + 1) n.2) k))) := Lib.hid fun W hkk => by
    rw [st.has]
    exact ih W X (fun j hj => hX j (Nat.le_trans hkk.size hj)) (kidR r) x (hin.kid.new hkk) st.ord st.fit (.inl st.ne)
  have HWITH : Hid (∀ (W : World) (a : Option Addr) (c : Nat) (js : List Nat), Keeps w W (fun _ => False) → isKids W X (.slice a (js.map ptrV).length c) js → isKs W X d (grown d (kidR r).2 k v) js →
      Calls Tryz.prog 68 #[.pointer (some ⟨b, 0, none⟩), .int .i64 i, .int .i64 ((i : Int) + 1), .slice a (js.map ptrV).length c, .string (bs (minK (keyR r) k))] W (NewN W X (d + 1) (0, withR n.2 i (i + 1) (grown d (kidR r).2 k v) (minK (keyR r) k)))) := Lib.hid fun W a c js hkk hj1 hj2 => by
    have := with_calls W X (fun j hj => hX j (Nat.le_trans hkk.size hj)) n b (h.new hkk) i (i + 1) (Nat.le_succ _) (by rw [hi]; exact hil) hsh.1 (grown d (kidR r).2 k v) js _ hj1 hj2 (Nat.le_trans st.len (by omega)) (minK (keyR r) k)
    exact this
  have HSPL : Hid (∀ (W : World) (bo : Nat), Keeps w W (fun _ => False) → isK W X (d + 1) (0, withR n.2 i (i + 1) (grown d (kidR r).2 k v) (minK (keyR r) k)) bo → Calls Tryz.prog 69 #[.pointer (some ⟨bo, 0, none⟩)] W (KnotsPost W X (d + 1) (grown (d + 1) n.2 k v))) := Lib.hid fun W bo hkk hbo => by
    rw [st.eq]
    rw [hi] at hbo
    exact split_calls W X (fun j hj => hX j (Nat.le_trans hkk.size hj)) _ bo hbo (short_fit st.wfit (Nat.le_trans st.wsize (by omega)))
  have HB : Hid (w.heap[b]? = some (.cells (knA n.1 false (.slice (some ⟨g, o, none⟩) N cap) (.slice (some ⟨g2, o2, none⟩) N cap2)) 96 (0, 0))) := Lib.hid (by rw [hN]; exact hin.blk)
  have HC : Hid (∀ (W : World), Keeps w W (fun _ => False) → W.cell? ⟨b, 1, none⟩ = some (.bool false) ∧ W.cell? ⟨b, 2, none⟩ = some (.slice (some ⟨g, o, none⟩) N cap) ∧ W.cell? ⟨b, 3, none⟩ = some (.slice (some ⟨g2, o2, none⟩) N cap2) ∧ W.cell? ⟨g, o + i * 3, none⟩ = some (.string (bs (keyR r))) ∧ W.cell? ⟨g2, o2 + i, none⟩ = some (.pointer (some ⟨x, 0, none⟩))) := Lib.hid fun W hk => by
    have h9 := hk.blk HB.out (fun h => h)
    have h7 := hin.ck
    have h8 := hin.cx
    rw [← hi] at h7 h8
    exact ⟨by rw [cell_of_block h9]; rfl, by rw [cell_of_block h9]; rfl, by rw [cell_of_block h9]; rfl, Keeps.cellK hk h7, Keeps.cellK hk h8⟩
  obtain ⟨fr, hfr⟩ : ∃ fr, fr = !hasM (flat (d + 1) n.2) k := ⟨_, rfl⟩
  obtain ⟨G, hG⟩ : ∃ G, G = grown (d + 1) n.2 k v := ⟨_, rfl⟩
  obtain ⟨Gd, hGd⟩ : ∃ Gd, Gd = grown d (kidR r).2 k v := ⟨_, rfl⟩
  obtain ⟨kr, hkr⟩ : ∃ kr, kr = keyR r := ⟨_, rfl⟩
  obtain ⟨R, hR⟩ : ∃ R : Wb.Rows (d + 1), R = withR n.2 i (i + 1) Gd (minK kr k) := ⟨_, rfl⟩
  rw [← hfr] at HIH ⊢
  rw [← hG] at HSPL ⊢
  rw [← hGd] at HIH HWITH HSPL
  rw [← hkr] at HWITH HSPL HC
  rw [← hR] at HWITH HSPL
  have hiN : i < N := by rw [hN, hi]; exact hil
  have hi0 : (0 : Int) ≤ i := by omega
  have hiNi : (i : Int) < N := by omega
  have hNi : (N : Int) ≤ 1000 := by omega
  clear hin hne hsh hil hks hfi hN hi hth hfr hG hGd hkr hR h ho hf st ih hX hiN hN9
  go_enter Tryz.func40, Tryz.ntmps40
  go_wp2_with fail
  refine (asNode_calls w b n.1 false _ _ _ _ HB.out).mono ?_
  rintro e w1 ⟨rfl, hk1⟩
  have HK1 := Lib.hid hk1
  clear hk1
  go_wp2_with fail
  refine (HFIND.out w1 HK1.out).mono ?_
  rintro e w2 ⟨rfl, hk2⟩
  have HK2 := Lib.hid (HK1.out.trans hk2)
  obtain ⟨c1, c2, c3, ck, cx⟩ := HC.out w2 HK2.out
  clear hk2
  go_wp2_with fail
  refine (HIH.out w2 HK2.out).mono ?_
  rintro e w3 ⟨v3, js, rfl, hj1, hj2, hk3⟩
  have HJ1 := Lib.hid hj1
  obtain ⟨⟨a3, p3, rfl, zz1, zz2⟩, zz3⟩ := hj1
  have HJ2 := Lib.hid hj2
  have HK3 := Lib.hid (HK2.out.trans hk3)
  clear zz1 zz2 zz3 hj2 hk3 c1 c2 c3 ck cx
  obtain ⟨c1, c2, c3, ck, cx⟩ := HC.out w3 HK3.out
  obtain ⟨M, hM⟩ : ∃ M, M = (js.map ptrV).length := ⟨_, rfl⟩
  have HW := Lib.hid (HWITH.out w3 a3 p3 js HK3.out HJ1.out HJ2.out)
  rw [← hM] at HW ⊢
  clear hM
  go_wp2_with (first
    | (refine wl_min rfl _ _ _ rfl kr k rfl rfl ?_)
    | fail)
  refine HW.out.mono ?_
  rintro e w4 ⟨b4, rfl, hb4, _, hk4⟩
  have HK4 := Lib.hid (HK3.out.trans hk4)
  have HB4 := Lib.hid hb4
  clear hk4 hb4 c1 c2 c3 ck cx HW
  go_wp2_with fail
  refine (HSPL.out w4 b4 HK4.out HB4.out).mono ?_
  rintro e w5 ⟨v5, js5, rfl, p1, p2, p3⟩
  have HPO : Hid (GrownPost w X (d + 1) G fr (.returned (.tuple #[v5, .bool fr])) w5) := Lib.hid ⟨v5, js5, rfl, p1, p2, HK4.out.trans p3⟩
  clear p1 p2 p3
  go_wp2_with fail
  go_ret2
  exact HPO.out
theorem grown_calls {k v : Nm} (hk : keyOk k) (hv : v.length ≤ 20) : ∀ (d : Nat) (w : World) (X : Nat → Prop), (∀ i, w.heap.size ≤ i → X i) → ∀ (n : Nd d) (b : Nat), isK w X d n b → Ord d n.2 → Fit d n.2 → (n.2 ≠ [] ∨ d = 0) →
    Calls Tryz.prog 40 #[.pointer (some ⟨b, 0, none⟩), .string (bs k), .string (bs v)] w (GrownPost w X d (grown d n.2 k v) (!hasM (flat d n.2) k))
  | 0, w, X, hX, n, b, h, ho, hf, _ => grownL_calls hk hv w X hX n b h ho hf
  | d + 1, w, X, hX, n, b, h, ho, hf, hne => by
    obtain ⟨r, st⟩ := grown_step hk hv ho hf (hne.elim id (fun e => by cases e))
    exact grownI_calls d (fun w X hX n b => grown_calls hk hv d w X hX n b) w X hX n b h ho hf r st
end Go.Proofs.YtblpkifkaoaicaaGreat

namespace Go.Proofs.YtblpkifkaoaicaaGreat
open Go Go.RowKit Go.Maps Wb

/-- A tree's root in memory. -/
def isRoot (w : World) (X : Nat → Prop) : Root → Value → Prop
  | none, v => v = .pointer none
  | some ⟨d, n⟩, v => ∃ b, v = .pointer (some ⟨b, 0, none⟩) ∧ isK w X d n b
def RootPost (w : World) (X : Nat → Prop) (t : Root) (e : Ending) (w' : World) : Prop := ∃ v, e = .returned v ∧ isRoot w' X t v ∧ Keeps w w' (fun _ => False)
theorem isRoot.new {w w' : World} {X : Nat → Prop} {t : Root} {v : Value} (h : isRoot w X t v) (hk : Keeps w w' (fun _ => False)) : isRoot w' X t v := by
  match t, h with
  | none, h => exact h
  | some ⟨d, n⟩, ⟨b, h1, h2⟩ => exact ⟨b, h1, h2.new hk⟩
theorem isRoot.kept {w w' : World} {X S : Nat → Prop} {t : Root} {v : Value} (h : isRoot w X t v) (hk : Keeps w w' S) (hS : ∀ i, S i → i < w.heap.size → ¬ X i) : isRoot w' X t v := by
  match t, h with
  | none, h => exact h
  | some ⟨d, n⟩, ⟨b, h1, h2⟩ => exact ⟨b, h1, h2.kept hk hS⟩
theorem isRoot.mono {w : World} {X Y : Nat → Prop} {t : Root} {v : Value} (h : isRoot w X t v) (hY : ∀ i, i < w.heap.size → X i → Y i) : isRoot w Y t v := by
  match t, h with
  | none, h => exact h
  | some ⟨d, n⟩, ⟨b, h1, h2⟩ => exact ⟨b, h1, h2.mono hY⟩
theorem kids_at {w : World} {X : Nat → Prop} {a : Option Addr} {n c : Nat} {js : List Nat} (h : isKids w X (.slice a n c) js) {i x : Nat} (hx : js[i]? = some x) : ∃ g o, a = some ⟨g, o, none⟩ ∧ w.cell? ⟨g, o + i, none⟩ = some (.pointer (some ⟨x, 0, none⟩)) := by
  obtain ⟨⟨ad, cap, he, hc, hrd⟩, _⟩ := h
  injection he with e1 e2 e3
  subst e1
  obtain ⟨g, o, rfl, _, h2⟩ := hrd i (ptrV x) (by rw [List.getElem?_map, hx]; rfl)
  exact ⟨g, o, rfl, h2⟩
/-- Where the walk down stands. -/
def TopAt (w : World) (X : Nat → Prop) (t : Σ d : Nat, Nd d) (d : Nat) (b : Nat) : Prop := ∃ n : Nd d, isK w X d n b ∧ strip d n = t
theorem strip_one {d : Nat} {n : Nd (d + 1)} {r : Row (d + 1)} (h : n.2 = [r]) : strip (d + 1) n = strip d (kidR r) := by rw [strip, h]
theorem strip_more {d : Nat} {n : Nd (d + 1)} (h : n.2.length ≠ 1) : strip (d + 1) n = ⟨d + 1, n⟩ := by
  rw [strip]
  split
  · rename_i r e; rw [e] at h; simp at h
  · rfl
def tRows {d : Nat} (g : List (Nd d)) : List Rw := g.map fun x => ⟨lowest x.2, [], 0⟩
theorem tRows_ok {d : Nat} (g : List (Nd d)) : RsOk (d := d + 1) (tRows g) (g.map fun x => mkR (lowest x.2) x) := by
  refine ⟨by unfold tRows; rw [List.map_map, List.map_map]; rfl, fun r hr => ?_⟩
  unfold tRows at hr
  obtain ⟨q, _, rfl⟩ := List.mem_map.1 hr
  rfl
theorem buildKn4 (a : Option Addr) (n c : Nat) (w : World) : (Instr.build 96 #[(3, .slice a n c)]).run Tryz.prog w = .ok (.agg (knA 0 false (.slice none 0 0) (.slice a n c))) w := by kernel_rfl
theorem least_ex {p : Nat → Prop} (h : ∃ n, p n) : ∃ n, p n ∧ ∀ m, p m → n ≤ m := by
  obtain ⟨n, hn⟩ := h
  induction n using Nat.strongRecOn with
  | _ n ih =>
    by_cases h2 : ∃ m, m < n ∧ p m
    · obtain ⟨m, h3, h4⟩ := h2
      exact ih m h3 h4
    · exact ⟨n, hn, fun m hm => by
        rcases Nat.lt_or_ge m n with h3 | h3
        · exact absurd ⟨m, h3, hm⟩ h2
        · exact h3⟩
open Classical in
noncomputable def leastN (p : Nat → Prop) : Nat := if h : ∃ n, p n then Classical.choose (least_ex h) else 0
theorem leastN_spec {p : Nat → Prop} (h : ∃ n, p n) : p (leastN p) := by
  unfold leastN
  rw [dif_pos h]
  exact (Classical.choose_spec (least_ex h)).1
theorem leastN_le {p : Nat → Prop} {n : Nat} (h : p n) : leastN p ≤ n := by
  unfold leastN
  rw [dif_pos ⟨n, h⟩]
  exact (Classical.choose_spec (least_ex ⟨n, h⟩)).2 n h
noncomputable def topM (w : World) (X : Nat → Prop) (t : Σ d : Nat, Nd d) (v : Value) : Nat := match v with
  | .pointer (some a) => leastN fun d => TopAt w X t d a.block
  | _ => 0
theorem topM_spec {w : World} {X : Nat → Prop} {t : Σ d : Nat, Nd d} {b : Nat} (h : ∃ d, TopAt w X t d b) : ∃ d, TopAt w X t d b ∧ topM w X t (.pointer (some ⟨b, 0, none⟩)) = d := ⟨_, leastN_spec h, rfl⟩
theorem topM_le {w : World} {X : Nat → Prop} {t : Σ d : Nat, Nd d} {b d : Nat} (h : TopAt w X t d b) : topM w X t (.pointer (some ⟨b, 0, none⟩)) ≤ d := leastN_le (p := fun d => TopAt w X t d b) h
set_option maxRecDepth 100000 in
set_option maxHeartbeats 4000000 in
theorem topOne_calls (w : World) (X : Nat → Prop) (t : Σ d : Nat, Nd d) (d : Nat) (n : Nd d) (x : Nat) (hn : isK w X d n x) (ht : strip d n = t) (a : Option Addr) (c : Nat) (hl : isKids w X (.slice a 1 c) [x]) :
    Calls Tryz.prog 41 #[.slice a 1 c] w (RootPost w X (some t)) := by
  obtain ⟨g, o, rfl, hcx⟩ := kids_at hl (i := 0) (x := x) rfl
  rw [Nat.add_zero] at hcx
  have HN : Hid (∃ d, TopAt w X t d x) := Lib.hid ⟨d, n, hn, ht⟩
  clear hl hn ht
  go_enter Tryz.func41, Tryz.ntmps41
  go_wp2_with fail
  go_loop [3] (fun v3 => ∃ (b : Nat), v3 = .pointer (some ⟨b, 0, none⟩) ∧ Hid (∃ d, TopAt w X t d b)) (fun v3 => topM w X t v3)
  case atStart => exact ⟨x, rfl, HN⟩
  case round =>
    clear HN
    obtain ⟨b, rfl, hrel⟩ := hrel
    obtain ⟨d, ⟨n, hn, ht⟩, hm⟩ := topM_spec hrel.out
    have HM := Lib.hid hm
    clear hrel hm
    have HNN := Lib.hid hn
    obtain ⟨rs, ks, hkn, hrok, hkok⟩ := isK_iff.1 hn
    obtain ⟨rv, kv, hb, _, hk⟩ := hkn.ex
    obtain ⟨⟨ad2, cap2, rfl, _, _⟩, _⟩ := id hk
    have hk2 := hk
    have hkl : (ks.map ptrV).length = ks.length := List.length_map _
    rw [hkl] at hb hk2
    have c1 : w.cell? ⟨b, 1, none⟩ = some (.bool (leafD d)) := by rw [cell_of_block hb]; rfl
    have c3 : w.cell? ⟨b, 3, none⟩ = some (.slice ad2 ks.length cap2) := by rw [cell_of_block hb]; rfl
    cases d with
    | zero =>
      as_aux_lemma =>
      have HT : Hid (RootPost w X (some t) (.returned (.pointer (some ⟨b, 0, none⟩))) w) := Lib.hid ⟨_, rfl, by rw [← ht]; exact ⟨b, rfl, HNN.out⟩, Keeps.refl _ _⟩
      have c1' : w.cell? ⟨b, 1, none⟩ = some (.bool true) := c1
      clear hk hk2 hkn hrok hkok c1 c3 hb hkl hn ht HNN
      go_wp2_with fail
      go_ret
      exact HT.out
    | succ d =>
      have c1' : w.cell? ⟨b, 1, none⟩ = some (.bool false) := c1
      have hks : ks.length = n.2.length := by have := hkok.1; rwa [List.length_map] at this
      by_cases h1 : ks.length = 1
      · as_aux_lemma =>
        obtain ⟨r, hr⟩ : ∃ r, n.2 = [r] := by
          cases hn2 : n.2 with
          | nil => rw [hn2] at hks; simp only [List.length_nil] at hks; omega
          | cons r t => cases t with
            | nil => exact ⟨r, rfl⟩
            | cons _ _ => rw [hn2] at hks; simp only [List.length_cons] at hks; omega
        obtain ⟨y, hy⟩ : ∃ y, ks = [y] := by
          cases ks with
          | nil => simp at h1
          | cons y t => cases t with
            | nil => exact ⟨y, rfl⟩
            | cons _ _ => simp at h1
        subst hy
        have hky : isK w X d (kidR r) y := hkok.2 0 _ y (by rw [hr]; rfl) rfl
        obtain ⟨g2, o2, rfl, hcy⟩ := kids_at hk2 (i := 0) (x := y) rfl
        rw [Nat.add_zero] at hcy
        have HY : Hid (TopAt w X t d y) := Lib.hid ⟨_, hky, by rw [← strip_one hr]; exact ht⟩
        have c3' : w.cell? ⟨b, 3, none⟩ = some (.slice (some ⟨g2, o2, none⟩) 1 cap2) := c3
        clear hk hk2 hkn hrok hkok c1 c3 hb hkl hn ht HNN hky hr hks h1
        go_wp2_with fail
        go_round
        case rel => exact ⟨y, rfl, Lib.hid ⟨d, HY.out⟩⟩
        case measure => have := topM_le HY.out; have := HM.out; omega
      · as_aux_lemma =>
        have HT : Hid (RootPost w X (some t) (.returned (.pointer (some ⟨b, 0, none⟩))) w) := Lib.hid ⟨_, rfl, by rw [← ht, strip_more (by omega)]; exact ⟨b, rfl, HNN.out⟩, Keeps.refl _ _⟩
        have hne : ((ks.length : Int) == 1) = false := by simp; omega
        obtain ⟨m, hm⟩ : ∃ m, m = ks.length := ⟨_, rfl⟩
        rw [← hm] at c3 hne
        clear hk hk2 hkn hrok hkok c1 hb hkl hn ht HNN h1 hm hks
        go_wp2_with fail
        go_ret
        exact HT.out
def TopRel {d : Nat} (w : World) (g : List (Nd d)) (b : Nat) (lv : Value) (q : Nat) (wr : World) : Prop :=
  ∃ a c, wr.heap[b]? = some (.cells (knA 0 false (.slice a (rowsA ((tRows g).take q)).length c) lv) 96 (0, 0)) ∧ isOwnA wr w.heap.size 70 3 (.slice a (rowsA ((tRows g).take q)).length c) (rowsA ((tRows g).take q)) ∧ Keeps w wr (fun _ => False)
theorem tRows_len {d : Nat} (g : List (Nd d)) : (tRows g).length = g.length := by simp [tRows]
theorem own_knot {w : World} {lo : Nat} {v : Value} {rows : List (Array Value)} {b : Nat} {A : Array Value} (h : isOwnA w lo 70 3 v rows) (hb : w.heap[b]? = some (.cells A 96 (0, 0))) : v.ownBlock ≠ some b := fun hj => by
  rcases h.2.2 with ⟨he, _⟩ | ⟨g9, c9, cu9, he, _, h9, _⟩
  · rw [he] at hj; cases hj
  · rw [he] at hj
    have : g9 = b := Option.some.inj hj
    subst this
    rw [hb] at h9
    injection h9 with h9
    injection h9 with _ h9
    exact absurd h9 (by decide)
theorem ex_build {P : Program} {w : World} {a : Act} {dst : Option Tmp} {ty t : TypeId} {pos : String} {after : Array Edge} {gd : Option (Nat × Bool)} (parts : List (Nat × Operand)) (vs : List (Nat × Value)) (hv : (parts.map fun p => (p.1, a.eval p.2)) = vs) (v : Value)
    (hb : ∀ w, (Instr.build ty vs.toArray).run P w = .ok v w) : (execOp a.eval ⟨dst, .build ty parts.toArray, t, pos, after, gd⟩).run P w = .ok (.value v) w := by
  have hv' : (parts.map fun (x : Nat × Operand) => match x with | (i, x) => (i, a.eval x)) = vs := hv
  unfold execOp
  simp only [List.map_toArray, hv', hb w, Sem.run_bind, Sem.run_pure, Result.andThen_ok]
set_option maxRecDepth 100000 in
set_option maxHeartbeats 4000000 in
theorem topMany_calls (w : World) (X : Nat → Prop) (hX : ∀ i, w.heap.size ≤ i → X i) {d : Nat} (g : List (Nd d)) (js : List Nat) (lv : Value) (hl : isKids w X lv js) (hg : isKs w X d g js) (h2 : 2 ≤ g.length) (h9 : g.length ≤ 1000) :
    Calls Tryz.prog 41 #[lv] w (RootPost w X (some ⟨d + 1, (0, g.map fun x => mkR (lowest x.2) x)⟩)) := by
  have HL := Lib.hid hl
  obtain ⟨⟨ad, cap, rfl, _, _⟩, _⟩ := id hl
  have e1 : (js.map ptrV).length = g.length := by rw [List.length_map, hg.1]
  rw [e1] at HL ⊢
  have HG := Lib.hid hg
  have HX := Lib.hid hX
  obtain ⟨M, hM⟩ : ∃ M, M = g.length := ⟨_, rfl⟩
  have HM := Lib.hid hM
  rw [← hM] at HL h2 h9 ⊢
  have hMi : (M : Int) ≤ 1000 := by omega
  have hM2 : (2 : Int) ≤ M := by omega
  have hz0 : ((M : Int) == 0) = false := by simp; omega
  have hz1 : ((M : Int) == 1) = false := by simp; omega
  have HJC : Hid (∀ (i : Nat) x, js[i]? = some x → ∃ gg o, ad = some ⟨gg, o, none⟩ ∧ w.cell? ⟨gg, o + i, none⟩ = some (.pointer (some ⟨x, 0, none⟩))) := Lib.hid fun i x hx => kids_at HL.out hx
  clear hl hg hX e1 hM
  go_enter Tryz.func41, Tryz.ntmps41
  go_wp2_with (first
    | ((with_reducible refine gd_build 96 ?_); refine wl_buildL rfl _ _ rfl [(3, .slice ad M cap)] rfl (.agg (knA 0 false (.slice none 0 0) (.slice ad M cap))) (fun _ => buildKn4 _ _ _ _) ?_)
    | ((with_reducible refine gd_box 96 ?_); refine wl_box_agg rfl _ _ rfl (knA 0 false (.slice none 0 0) (.slice ad M cap)) rfl ?_; intro b w1 hb HB1 hk1)
    | fail)
  have HBW : Hid (w.heap.size ≤ b) := Lib.hid hb
  have HREL0 : Hid (TopRel w g b (.slice ad M cap) 0 w1) := Lib.hid ⟨none, 0, HB1, isOwnA_nil _ _ _ _, hk1⟩
  clear hb HB1 hk1
  go_loopw [41] (fun v41 wr => ∃ q : Nat, q ≤ M ∧ v41 = .int .i64 q ∧ Hid (TopRel w g b (.slice ad M cap) q wr)) (fun v41 _ => M - (intOf v41).toNat)
  case atStart => exact ⟨0, Nat.zero_le _, rfl, HREL0⟩
  case round =>
    clear HREL0
    obtain ⟨q, hq, rfl, hrel⟩ := hrel
    have hq0 : (0 : Int) ≤ q := by omega
    by_cases hlt : q < M
    · as_aux_lemma =>
      have hlb : decide ((q : Int) < (M : Int)) = true := by simp; omega
      have hlbn : decide (q < M) = true := by simp; omega
      have hqM : (q : Int) < M := by omega
      obtain ⟨m, hm⟩ : ∃ m, g[q]? = some m := ⟨_, List.getElem?_eq_getElem (by have := HM.out; omega)⟩
      obtain ⟨x, hx, hmk⟩ := HG.out.at hm
      obtain ⟨gg, o, rfl, hcx⟩ := HJC.out q x hx
      obtain ⟨a, c, hbb, hown, hkw⟩ := hrel.out
      have hlen : (rowsA ((tRows g).take q)).length = q := by rw [rowsA_len, List.length_take, tRows_len]; have := HM.out; omega
      rw [hlen] at hbb hown
      have hcx2 := Keeps.cellK hkw hcx
      have HOWN := Lib.hid hown
      have HBB := Lib.hid hbb
      have HKW := Lib.hid hkw
      have HLEN := Lib.hid hlen
      have HLT := Lib.hid hlt
      have HTK : Hid (rowsA ((tRows g).take q) ++ [rowA ⟨lowest m.2, [], 0⟩] = rowsA ((tRows g).take (q + 1))) := Lib.hid (by
        rw [List.take_add_one]
        have : (tRows g)[q]? = some ⟨lowest m.2, [], 0⟩ := by unfold tRows; rw [List.getElem?_map, hm]; rfl
        rw [this, Option.toList_some, rowsA_app]
        rfl)
      obtain ⟨rs2, ks2, hkn2, hrok2, _⟩ := isK_iff.1 hmk
      obtain ⟨kz, hkz⟩ : ∃ kz, kz = lowest m.2 := ⟨_, rfl⟩
      have HLOW : Hid (∀ W, Keeps w W (fun _ => False) → Calls Tryz.prog 72 #[.pointer (some ⟨x, 0, none⟩)] W fun e w' => e = .returned (.string (bs kz)) ∧ W = w') := Lib.hid fun W hk => by
        have := lowest_calls W X x m.1 (leafD d) rs2 ks2 (hkn2.kept hk Off.new (fun h => h))
        rw [lowRs_ok hrok2] at this
        rw [hkz]
        exact this
      rw [← hkz] at HTK
      have HZ : Hid (∀ wX : World, wX.heap[b]? = some (.cells (knA 0 false (.slice a q c) (.slice (some ⟨gg, o, none⟩) M cap)) 96 (0, 0)) → wX.cell? ⟨b, 2, none⟩ = some (.slice a q c)) := Lib.hid fun wX hb => by rw [cell_of_block hb]; rfl
      clear hm hx hmk hcx hrel hbb hown hkw hlen hlt hkn2 hrok2 hkz
      go_upto_region 13 with fail
      refine till_begin (by kernel_rfl) (fun w' => w'.cell? ⟨b, 2, none⟩ = some (.slice a q c)) (fun _ => True) 12 (HZ.out _ HBB.out) trivial (fun HS HT => ?_)
      refine rt_takeT 0 (v := ?_) rfl (by kernel_rfl) (by kernel_rfl) (by kernel_rfl) (by kernel_rfl) (fun _ _ _ h => h) ⟨HT, fun _ => HS⟩ ?_ ?_ ?_
      rotate_left
      rfl
      focus (intro w hSw; (try dsimp only at hSw); go_simp; all_goals (with_reducible rfl))
      simp only [Act.put, l_a, l_s, l_z]
      refine rt_takeT 1 (v := ?_) rfl (by kernel_rfl) (by kernel_rfl) (by kernel_rfl) (by kernel_rfl) (fun _ _ _ h => h) ⟨HT, fun _ => HS⟩ ?_ ?_ ?_
      rotate_left
      rfl
      focus (intro w hSw; (try dsimp only at hSw); go_simp; all_goals (with_reducible rfl))
      simp only [Act.put, l_a, l_s, l_z]
      refine rt_takeT 2 (v := ?_) rfl (by kernel_rfl) (by kernel_rfl) (by kernel_rfl) (by kernel_rfl) (fun _ _ _ h => h) ⟨HT, fun _ => HS⟩ ?_ ?_ ?_
      rotate_left
      rfl
      focus (intro w hSw; (try dsimp only at hSw); go_simp; all_goals (with_reducible rfl))
      simp only [Act.put, l_a, l_s, l_z]
      refine rt_takeT 3 (v := ?_) rfl (by kernel_rfl) (by kernel_rfl) (by kernel_rfl) (by kernel_rfl) (fun _ _ _ h => h) ⟨HT, fun _ => HS⟩ ?_ ?_ ?_
      rotate_left
      rfl
      focus (intro w hSw; (try dsimp only at hSw); go_simp; all_goals (with_reducible rfl))
      simp only [Act.put, l_a, l_s, l_z]
      refine rt_take 4 (v := ?_) rfl (by kernel_rfl) rfl (by kernel_rfl) (by kernel_rfl) (by kernel_rfl) (by kernel_rfl) (by kernel_rfl) (fun _ _ _ h => h) HS HT ?_ ?_ ?_
      rotate_left
      rfl
      focus (intro w hSw; (try dsimp only at hSw); go_simp; all_goals (with_reducible rfl))
      simp only [Act.put, l_a, l_s, l_z]
      refine rt_takeT 5 (v := ?_) rfl (by kernel_rfl) (by kernel_rfl) (by kernel_rfl) (by kernel_rfl) (fun _ _ _ h => h) ⟨HT, fun _ => HS⟩ ?_ ?_ ?_
      rotate_left
      rfl
      focus (intro w hSw; (try dsimp only at hSw); go_simp; all_goals (with_reducible rfl))
      simp only [Act.put, l_a, l_s, l_z]
      refine till_op 6 rfl (by kernel_rfl) (by rfl) ?_
      refine rg_call 72 _ _ rfl _ Tryz.func72 (by kernel_rfl) (by kernel_rfl) [.pointer (some ⟨x, 0, none⟩)] rfl (HLOW.out _ HKW.out.drew) ?_
      rintro e w6 ⟨rfl, rfl⟩
      refine ⟨_, rfl, till_next HS HT ?_⟩
      simp only [Act.put, l_a, l_s, l_z]
      refine rt_takeT 7 (v := .agg (rowA ⟨kz, [], 0⟩)) rfl (by kernel_rfl) (by kernel_rfl) (by kernel_rfl) (by kernel_rfl) (fun _ _ _ h => h) ⟨HT, fun _ => HS⟩ (by rfl) (fun w _ => ex_build [(0, _)] [(0, .string (bs kz))] rfl _ (fun _ => buildRw1 _ _)) ?_
      simp only [Act.put, l_a, l_s, l_z]
      refine till_list 8 rfl (by kernel_rfl) ?_
      refine wl_unguard (by rfl) ?_
      refine wl_sliceA1 rfl _ _ rfl 70 _ 3 40 Tryz.underlying47 infoRwZ (by decide) (by decide) (rowA ⟨kz, [], 0⟩) rfl rfl ?_
      intro b8 w8 hb8 HBB8 hk8
      have HBO8 := hk8.blk (show wr.drew.heap[b]? = _ from HBB.out) (fun h => h)
      have hO8 := (isOwnA.new HOWN.out (Keeps.refl wr (fun _ => False)).drew).new hk8
      refine till_nil (till_next (HZ.out _ HBO8) HT ?_)
      simp only [Act.put, l_a, l_s, l_z]
      refine till_list 9 rfl (by kernel_rfl) ?_
      refine wl_unguard (by rfl) ?_
      refine wl_appendA rfl _ _ 47 rfl 70 _ 3 40 Tryz.underlying47 infoRwZ rfl (by decide) w.heap.size (.slice a q c) (rowsA ((tRows g).take q)) rfl hO8 b8 (rowA ⟨kz, [], 0⟩) rfl HBB8 rfl (rowA_one _) (by rw [HLEN.out]; unfold maxLen; omega) (by rw [HLEN.out]; omega) (Nat.le_trans HKW.out.drew.size hk8.size) ?_
      intro v9 w9 hap
      have hne9 : (Value.slice a q c).ownBlock ≠ some b := own_knot hO8 HBO8
      have HBO9 := hap.2.1.blk HBO8 (fun e => hne9 e)
      obtain ⟨a9, c9, rfl⟩ := hap.1.shape
      refine till_nil (till_next (HZ.out _ HBO9) HT ?_)
      simp only [Act.put, l_a, l_s, l_z]
      refine rt_takeT 10 (v := ?_) rfl (by kernel_rfl) (by kernel_rfl) (by kernel_rfl) (by kernel_rfl) (fun _ _ _ h => h) ⟨HT, fun _ => HZ.out _ HBO9⟩ ?_ ?_ ?_
      rotate_left
      rfl
      focus (intro w hSw; (try dsimp only at hSw); go_simp; all_goals (with_reducible rfl))
      simp only [Act.put, l_a, l_s, l_z]
      refine rt_takeT 11 (v := ?_) rfl (by kernel_rfl) (by kernel_rfl) (by kernel_rfl) (by kernel_rfl) (fun _ _ _ h => h) ⟨HT, fun _ => HZ.out _ HBO9⟩ ?_ ?_ ?_
      rotate_left
      rfl
      focus (intro w hSw; (try dsimp only at hSw); go_simp; all_goals (with_reducible rfl))
      simp only [Act.put, l_a, l_s, l_z]
      refine till_op 12 rfl (by kernel_rfl) (by rfl) ?_
      refine wp_store_val 47 _ _ rfl b 2 rfl _ _ HBO9 (.slice a9 (rowsA ((tRows g).take q) ++ [rowA ⟨kz, [], 0⟩]).length c9) #[.slice a9 (rowsA ((tRows g).take q) ++ [rowA ⟨kz, [], 0⟩]).length c9] rfl rfl _ rfl (by show 3 ≤ 4; decide) (by kernel_rfl) (by simp [Value.oneCell']) ?_
      intro w10 HBO10 hk10
      refine till_late (by kernel_rfl) HT ?_
      simp only [Act.put, l_a, l_s, l_z]
      refine till_done (by kernel_rfl) ?_ _
      have hO10 := hap.1.kept hk10 (fun j hj e => by have e' : j = b := e; subst e'; exact own_knot hap.1 HBO9 hj)
      have hk : Keeps w w10 (fun _ => False) := ((HKW.out.drew.trans hk8).then hap.2.1 (fun j hj e => by have := (hO8.blk j e).1; omega)).then hk10 (fun j hj e => by have e' : j = b := e; have := HBW.out; omega)
      rw [HTK.out] at hO10 HBO10
      have HNEXT : Hid (TopRel w g b (.slice (some ⟨gg, o, none⟩) M cap) (q + 1) w10) := Lib.hid ⟨a9, c9, HBO10, hO10, hk⟩
      clear hO10 HBO10 hk hk10 HBO9 hap hO8 HBO8 hk8 HBB8 hb8 HS HT hne9
      go_wp2_with fail
      go_roundw
      case rel => exact ⟨q + 1, HLT.out, by go_num, HNEXT⟩
      case measure => have := HLT.out; simp [intOf]; omega
    · as_aux_lemma =>
      obtain rfl : q = M := by omega
      have hlb : decide ((q : Int) < (q : Int)) = false := by simp
      have hlbn : decide (q < q) = false := by simp
      obtain ⟨a, c, hbb, hown, hkw⟩ := hrel.out
      have hall : (tRows g).take q = tRows g := by rw [List.take_of_length_le]; rw [tRows_len]; have := HM.out; omega
      rw [hall] at hbb hown
      have HPO : Hid (RootPost w X (some ⟨d + 1, (0, g.map fun x => mkR (lowest x.2) x)⟩) (.returned (.pointer (some ⟨b, 0, none⟩))) wr) := Lib.hid ⟨_, rfl, ⟨b, rfl, isK_iff.2 ⟨tRows g, js, ⟨HX.out b HBW.out, _, _, hbb, isRows_own hown (fun j hj => HX.out j hj), HL.out.new hkw⟩, tRows_ok g, by
        show isKs wr X d ((g.map fun x => mkR (lowest x.2) x).map kidR) js
        rw [List.map_map]
        have e : g.map (kidR ∘ fun x => mkR (lowest x.2) x) = g := by
          show g.map (fun x => x) = g
          simp
        rw [e]
        exact HG.out.new hkw⟩⟩, hkw⟩
      clear hbb hown hkw hall hrel hlt
      go_wp2_with fail
      go_ret
      exact HPO.out
set_option maxRecDepth 100000 in
theorem topNone_calls (w : World) (X : Nat → Prop) (lv : Value) (h : isKids w X lv []) : Calls Tryz.prog 41 #[lv] w (RootPost w X none) := by
  obtain ⟨⟨ad, cap, rfl, _, _⟩, _⟩ := h
  have HPO : Hid (RootPost w X none (.returned (.pointer none)) w) := Lib.hid ⟨_, rfl, rfl, Keeps.refl _ _⟩
  go_enter Tryz.func41, Tryz.ntmps41
  go_wp2_with fail
  go_ret
  exact HPO.out
theorem top_calls (w : World) (X : Nat → Prop) (hX : ∀ i, w.heap.size ≤ i → X i) {d : Nat} (g : List (Nd d)) (js : List Nat) (lv : Value) (hl : isKids w X lv js) (hg : isKs w X d g js) (h9 : g.length ≤ 1000) :
    Calls Tryz.prog 41 #[lv] w (RootPost w X (topR g)) := by
  match g, hg, h9 with
  | [], hg, _ =>
    have : js = [] := List.eq_nil_of_length_eq_zero hg.1
    subst this
    exact topNone_calls w X lv hl
  | [n], hg, _ =>
    obtain ⟨x, hx, hk⟩ := hg.at (i := 0) (n := n) rfl
    have hj : js = [x] := by
      cases js with
      | nil => cases hx
      | cons y t => cases t with
        | nil => simp at hx; rw [hx]
        | cons _ _ => have := hg.1; simp at this
    subst hj
    obtain ⟨⟨ad, cap, rfl, _, _⟩, _⟩ := id hl
    exact topOne_calls w X (strip d n) d n x hk rfl ad cap hl
  | n :: m :: r, hg, h9 => exact topMany_calls w X hX (n :: m :: r) js lv hl hg (by simp) h9
end Go.Proofs.YtblpkifkaoaicaaGreat

namespace Go.Proofs.YtblpkifkaoaicaaGreat
open Go Go.RowKit Go.Maps Wb

theorem isRoot.shape {w : World} {X : Nat → Prop} {t : Root} {v : Value} (h : isRoot w X t v) : ∃ o, v = .pointer o := by
  match t, h with
  | none, h => exact ⟨none, h⟩
  | some ⟨d, n⟩, ⟨b, h1, h2⟩ => exact ⟨_, h1⟩
theorem isKs.kept {w w' : World} {X S : Nat → Prop} {d : Nat} {g : List (Nd d)} {bs : List Nat} (h : isKs w X d g bs) (hk : Keeps w w' S) (hS : ∀ i, S i → i < w.heap.size → ¬ X i) : isKs w' X d g bs := ⟨h.1, fun i n x hn hx => (h.2 i n x hn hx).kept hk hS⟩
theorem keeps_then2 {a b c d : World} {t : Nat} (h1 : Keeps a b (· = t)) (h2 : Keeps b c (· = t)) (h3 : Keeps c d (· = t)) : Keeps a d (· = t) := (h1.trans h2).trans h3
def treeA (f : Nat) (rv kv : Value) (c h : Nat) : Array Value := #[.pointer (some ⟨f, 0, none⟩), rv, kv, .int .i64 c, .int .i64 h]
def But (X : Nat → Prop) (t : Nat) (i : Nat) : Prop := X i ∧ i ≠ t
/-- A tree in memory: its root, what was last committed, their counts. -/
structure isTree (w : World) (X : Nat → Prop) (t f : Nat) (root kept : Root) (count had : Nat) : Prop where
  x : X t
  ex : ∃ rv kv, w.heap[t]? = some (.cells (treeA f rv kv count had) 93 (0, 0)) ∧ isRoot w (But X t) root rv ∧ isRoot w (But X t) kept kv
theorem isTree.lt {w : World} {X : Nat → Prop} {t f : Nat} {root kept : Root} {count had : Nat} (h : isTree w X t f root kept count had) : t < w.heap.size := by
  obtain ⟨rv, kv, h1, _⟩ := h.ex
  exact lt_of_blk h1
theorem isTree.new {w w' : World} {X : Nat → Prop} {t f : Nat} {root kept : Root} {count had : Nat} (h : isTree w X t f root kept count had) (hk : Keeps w w' (fun _ => False)) : isTree w' X t f root kept count had := by
  obtain ⟨rv, kv, h1, h2, h3⟩ := h.ex
  exact ⟨h.x, rv, kv, hk.blk h1 (fun h => h), h2.new hk, h3.new hk⟩
theorem isTree.kept {w w' : World} {X S : Nat → Prop} {t f : Nat} {root kept : Root} {count had : Nat} (h : isTree w X t f root kept count had) (hk : Keeps w w' S) (hS : ∀ i, S i → i < w.heap.size → ¬ X i) : isTree w' X t f root kept count had := by
  obtain ⟨rv, kv, h1, h2, h3⟩ := h.ex
  exact ⟨h.x, rv, kv, hk.blk h1 (fun hs => hS t hs h.lt h.x), h2.kept hk (fun i hi hl hx => hS i hi hl hx.1), h3.kept hk (fun i hi hl hx => hS i hi hl hx.1)⟩
theorem isTree.mono {w : World} {X Y : Nat → Prop} {t f : Nat} {root kept : Root} {count had : Nat} (h : isTree w X t f root kept count had) (hY : ∀ i, i < w.heap.size → X i → Y i) : isTree w Y t f root kept count had := by
  obtain ⟨rv, kv, h1, h2, h3⟩ := h.ex
  exact ⟨hY t (lt_of_blk h1) h.x, rv, kv, h1, h2.mono (fun i hi hx => ⟨hY i hi hx.1, hx.2⟩), h3.mono (fun i hi hx => ⟨hY i hi hx.1, hx.2⟩)⟩
def TPut (w : World) (X : Nat → Prop) (t f : Nat) (root kept : Root) (count had : Nat) (e : Ending) (w' : World) : Prop :=
  e = .returned (.int .i64 0) ∧ isTree w' X t f root kept count had ∧ Keeps w w' (· = t)
theorem buildKn1 (w : World) : (Instr.build 96 #[(1, .bool true)]).run Tryz.prog w = .ok (.agg (knA 0 true (.slice none 0 0) (.slice none 0 0))) w := by kernel_rfl
theorem isRows_nil {w : World} {X : Nat → Prop} : isRows w X (.slice none 0 0) [] := ⟨⟨none, 0, rfl, Nat.le_refl _, fun j r h => by cases h⟩, (fun cap h => by injection h with _ _ h; exact h.symm), fun g h => by cases h⟩
set_option maxRecDepth 100000 in
set_option maxHeartbeats 4000000 in
theorem putNo_calls (w : World) (t : Nat) (k v : Nm) (hl : k.length ≤ 1000000) (hv : v.length ≤ 1000000) (hno : ¬ (keyOk k ∧ v.length ≤ 20)) :
    Calls Tryz.prog 13 #[.pointer (some ⟨t, 0, none⟩), .string (bs k), .string (bs v)] w fun e w' => e = .returned (.int .i64 1) ∧ w = w' := by
  obtain ⟨n, hn⟩ : ∃ n, n = k.length := ⟨_, rfl⟩
  obtain ⟨m, hm⟩ : ∃ m, m = v.length := ⟨_, rfl⟩
  have hks : ((bs k).size : Int) = n := by rw [bs_size, hn]
  have hvs : ((bs v).size : Int) = m := by rw [bs_size, hm]
  have hni : (n : Int) ≤ 1000000 := by omega
  have hmi : (m : Int) ≤ 1000000 := by omega
  have hcases : k = [] ∨ (k ≠ [] ∧ decide ((130 : Int) < (n : Int)) = true) ∨ (k ≠ [] ∧ decide ((130 : Int) < (n : Int)) = false ∧ decide ((20 : Int) < (m : Int)) = true) := by
    by_cases h1 : k = []
    · exact .inl h1
    · by_cases h2 : 130 < n
      · exact .inr (.inl ⟨h1, by simp; omega⟩)
      · refine .inr (.inr ⟨h1, by simp; omega, ?_⟩)
        by_cases h3 : 20 < m
        · simp; omega
        · exact absurd ⟨⟨h1, by omega⟩, by omega⟩ hno
  clear hno hn hm hl hv
  rcases hcases with rfl | ⟨h1, h2⟩ | ⟨h1, h2, h3⟩
  · have he2 : (bs []).toList.isEmpty = true := by rw [bs_toList]; rfl
    go_enter Tryz.func13, Tryz.ntmps13
    go_wp2
    go_ret
    exact ⟨rfl, rfl⟩
  · have he2 : (bs k).toList.isEmpty = false := by rw [bs_toList]; simpa using h1
    clear h1
    go_enter Tryz.func13, Tryz.ntmps13
    go_wp2
    go_ret
    exact ⟨rfl, rfl⟩
  · have he2 : (bs k).toList.isEmpty = false := by rw [bs_toList]; simpa using h1
    clear h1
    go_enter Tryz.func13, Tryz.ntmps13
    go_wp2
    go_ret
    exact ⟨rfl, rfl⟩
theorem grown_len {k v : Nm} (hk : keyOk k) (hv : v.length ≤ 20) {d : Nat} {l : Wb.Rows d} (ho : Ord d l) (hf : Fit d l) (hne : l ≠ [] ∨ d = 0) : (grown d l k v).length ≤ 1000 := Nat.le_trans (grown_fit hk hv d l ho hf hne).len.2 (by omega)
/-- A root, or the empty leaf in its place. -/
def rootN : Root → Σ d : Nat, Nd d
  | none => ⟨0, (0, [])⟩
  | some t => t
theorem putT_root (t : Root) (k v : Nm) : putT t k v = topR (grown (rootN t).1 (rootN t).2.2 k v) := by
  match t with
  | none => rfl
  | some ⟨d, n⟩ => rfl
theorem flatT_root (t : Root) : flatT t = flat (rootN t).1 (rootN t).2.2 := by
  match t with
  | none => rfl
  | some ⟨d, n⟩ => rfl
theorem rootN_ok {t : Root} (h : RootOk t) : Ord (rootN t).1 (rootN t).2.2 ∧ Fit (rootN t).1 (rootN t).2.2 ∧ ((rootN t).2.2 ≠ [] ∨ (rootN t).1 = 0) := by
  match t, h with
  | none, _ => exact ⟨List.Pairwise.nil, ⟨by show (3 : Nat) ≤ 512; omega, fun r hr => by cases hr⟩, .inr rfl⟩
  | some ⟨d, n⟩, h => exact ⟨h.1, h.2.1, h.2.2.elim (fun h => .inr h.1) (fun h => .inl (fun e => by have e : n.2 = [] := e; rw [e] at h; simp at h))⟩
set_option maxRecDepth 100000 in
set_option maxHeartbeats 8000000 in
theorem treePut_calls (w : World) (X : Nat → Prop) (hX : ∀ i, w.heap.size ≤ i → X i) (t f : Nat) (root kept : Root) (count had : Nat) (h : isTree w X t f root kept count had) (hok : RootOk root) (hc : count ≤ 1000000) (k v : Nm) (hk : keyOk k) (hv : v.length ≤ 20) :
    Calls Tryz.prog 13 #[.pointer (some ⟨t, 0, none⟩), .string (bs k), .string (bs v)] w (TPut w X t f (putT root k v) kept (count + if hasM (flatT root) k = true then 0 else 1) had) := by
  obtain ⟨rv, kv, hb, hr, hkp⟩ := h.ex
  obtain ⟨rk1, rk2, rk3⟩ := rootN_ok hok
  have hlt := h.lt
  obtain ⟨n, hn⟩ : ∃ n, n = k.length := ⟨_, rfl⟩
  obtain ⟨m, hm⟩ : ∃ m, m = v.length := ⟨_, rfl⟩
  have hks : ((bs k).size : Int) = n := by rw [bs_size, hn]
  have hvs : ((bs v).size : Int) = m := by rw [bs_size, hm]
  have h130 : decide ((130 : Int) < (n : Int)) = false := by simp; have := hk.2; omega
  have h20 : decide ((20 : Int) < (m : Int)) = false := by simp; omega
  have he2 : (bs k).toList.isEmpty = false := by rw [bs_toList]; simpa using hk.1
  have hci : (count : Int) ≤ 1000000 := by omega
  have hc0 : (0 : Int) ≤ count := by omega
  rw [putT_root, flatT_root]
  have HGR : Hid (∀ (W : World) (b : Nat), Keeps w W (· = t) → isK W (But X t) (rootN root).1 (rootN root).2 b → Calls Tryz.prog 40 #[.pointer (some ⟨b, 0, none⟩), .string (bs k), .string (bs v)] W (GrownPost W (But X t) (rootN root).1 (grown (rootN root).1 (rootN root).2.2 k v) (!hasM (flat (rootN root).1 (rootN root).2.2) k))) := Lib.hid fun W b hk2 hb2 =>
    grown_calls hk hv _ W (But X t) (fun i hi => ⟨hX i (Nat.le_trans hk2.size hi), by have := hk2.size; omega⟩) _ b hb2 rk1 rk2 rk3
  have HGL : Hid ((grown (rootN root).1 (rootN root).2.2 k v).length ≤ 1000) := Lib.hid (grown_len hk hv rk1 rk2 rk3)
  have HXB : Hid (∀ (W : World), Keeps w W (· = t) → ∀ i, W.heap.size ≤ i → But X t i) := Lib.hid fun W hk2 i hi => ⟨hX i (Nat.le_trans hk2.size hi), by have := hk2.size; omega⟩
  have HT0 := Lib.hid hb
  have hltb := hlt
  have HKV := Lib.hid hkp
  have HX := Lib.hid (And.intro h.x hlt)
  have HXA := Lib.hid hX
  obtain ⟨G, hG⟩ : ∃ G, G = grown (rootN root).1 (rootN root).2.2 k v := ⟨_, rfl⟩
  obtain ⟨hs, hhs⟩ : ∃ hs, hs = hasM (flat (rootN root).1 (rootN root).2.2) k := ⟨_, rfl⟩
  rw [← hG, ← hhs] at HGR
  rw [← hG] at HGL
  rw [← hG, ← hhs]
  have HFIN : Hid (∀ (W1 W2 W3 W4 : World) (nv rv : Value) (c : Nat), Keeps w W1 (· = t) → Keeps W1 W2 (fun _ => False) → Keeps W2 W3 (· = t) → Keeps W3 W4 (fun _ => False) → W4.heap[t]? = some (.cells (treeA f rv kv c had) 93 (0, 0)) → isRoot W4 (But X t) (topR G) nv → isRoot W1 (But X t) kept kv → TPut w X t f (topR G) kept c had (.returned (.int .i64 0)) (W4.setCell ⟨t, 1, none⟩ nv)) := Lib.hid fun W1 W2 W3 W4 nv rv c k1 k2 k3 k4 hb4 hr4 hkv1 => by
    have hc := keeps_cell W4 t 1 nv
    have hkv : isRoot (W4.setCell ⟨t, 1, none⟩ nv) (But X t) kept kv := ((((hkv1.new k2).kept k3 (fun i e _ hx => hx.2 e)).new k4).kept hc (fun i e _ hx => hx.2 e))
    exact ⟨rfl, ⟨h.x, nv, kv, blk_setCell hb4 1 nv, hr4.kept hc (fun i e _ hx => hx.2 e), hkv⟩, (((k1.trans (k2.mono (fun _ _ h => h.elim))).trans k3).trans (k4.mono (fun _ _ h => h.elim))).trans hc⟩
  clear hG hhs hn hm hk hv rk1 rk2 rk3 hok hc hX h hlt hkp
  have hlt : t < w.heap.size := hltb
  clear hltb
  match root, hr with
  | none, hr =>
    have hr : rv = .pointer none := hr
    subst hr
    have c0 : w.cell? ⟨t, 1, none⟩ = some (.pointer none) := by rw [cell_of_block hb]; rfl
    have f0 : w.frozen? ⟨t, 1, none⟩ = false := free_of_block hb 1
    clear hb
    go_enter Tryz.func13, Tryz.ntmps13
    have HBT := Lib.hid hlt
    clear hlt
    go_upto_region 5 with (first
      | ((with_reducible refine gd_build 96 ?_); refine wl_buildL rfl _ _ rfl [(1, .bool true)] rfl (.agg (knA 0 true (.slice none 0 0) (.slice none 0 0))) (fun _ => buildKn1 _) ?_)
      | ((with_reducible refine gd_box 96 ?_); refine wl_box_agg rfl _ _ rfl (knA 0 true (.slice none 0 0) (.slice none 0 0)) rfl ?_; intro bn wb hbn HB1 hk1; have fb1 : wb.frozen? ⟨t, 1, none⟩ = false := free_of_block (hk1.blk HT0.out (fun h => h)) 1; have zb1 : wb.cell? ⟨t, 1, none⟩ = some (.pointer none) := by (rw [cell_of_block (hk1.blk HT0.out (fun h => h))]; rfl))
      | fail)
    obtain ⟨w1, hw1⟩ : ∃ w1, w1 = wb.setCell ⟨t, 1, none⟩ (.pointer (some ⟨bn, 0, none⟩)) := ⟨_, rfl⟩
    have hkc := keeps_cell wb t 1 (.pointer (some ⟨bn, 0, none⟩))
    have HT1 : Hid (w1.heap[t]? = some (.cells (treeA f (.pointer (some ⟨bn, 0, none⟩)) kv count had) 93 (0, 0))) := Lib.hid (by rw [hw1]; exact blk_setCell (hk1.blk HT0.out (fun h => h)) 1 _)
    have HW1 : Hid (Keeps w w1 (· = t)) := Lib.hid (by rw [hw1]; exact (hk1.mono (fun _ _ h => h.elim)).trans hkc)
    have hbt : bn ≠ t := by have := HBT.out; omega
    have HB2 : w1.heap[bn]? = some (.cells (knA 0 true (.slice none 0 0) (.slice none 0 0)) 96 (0, 0)) := by rw [hw1]; exact hkc.blk HB1 hbt
    have HI1 : Hid (isK w1 (But X t) (rootN none).1 (rootN none).2 bn) := Lib.hid ⟨[], ⟨⟨HXA.out bn hbn, hbt⟩, _, _, HB2, isRows_nil, isKids_nil⟩, rfl⟩
    have HKV1 : Hid (isRoot w1 (But X t) kept kv) := Lib.hid (by rw [hw1]; exact (HKV.out.new hk1).kept hkc (fun i e _ hx => hx.2 e))
    have c1 : w1.cell? ⟨t, 1, none⟩ = some (.pointer (some ⟨bn, 0, none⟩)) := by rw [cell_of_block HT1.out]; rfl
    have f1 : w1.frozen? ⟨t, 1, none⟩ = false := free_of_block HT1.out 1
    rw [← hw1]
    clear hw1 hkc hbt HB2 hbn HB1 hk1 fb1 zb1 HBT
    go_wp2_with fail
    refine (HGR.out w1 bn HW1.out HI1.out).mono ?_
    rintro e w2 ⟨v2, js, rfl, hj1, hj2, hk2⟩
    obtain ⟨⟨a2, p2, rfl, zz1, zz2⟩, zz3⟩ := id hj1
    clear zz1 zz2 zz3
    obtain ⟨M, hM⟩ : ∃ M, M = (js.map ptrV).length := ⟨_, rfl⟩
    rw [← hM] at hj1 ⊢
    have HJ1 := Lib.hid hj1
    have HJ2 := Lib.hid hj2
    have HK2 := Lib.hid hk2
    have HT2 := hk2.blk HT1.out (fun h => h)
    have HT2H := Lib.hid HT2
    have s1 : w2.cell? ⟨t, 1, none⟩ = some (.pointer (some ⟨bn, 0, none⟩)) := by rw [cell_of_block HT2]; rfl
    have s3 : w2.cell? ⟨t, 3, none⟩ = some (.int .i64 count) := by rw [cell_of_block HT2]; rfl
    have f1 : w2.frozen? ⟨t, 1, none⟩ = false := free_of_block HT2 1
    have f3 : w2.frozen? ⟨t, 3, none⟩ = false := free_of_block HT2 3
    clear hj1 hj2 hk2 HT2 hM
    cases hs
    · as_aux_lemma =>
      have HK3 : Keeps w2 (w2.setCell ⟨t, 3, none⟩ (.int .i64 ((count : Int) + 1))) (· = t) := keeps_cell w2 t 3 _
      have HTOP := Lib.hid (top_calls (w2.setCell ⟨t, 3, none⟩ (.int .i64 ((count : Int) + 1))) (But X t) (HXB.out _ (keeps_then2 HW1.out (HK2.out.mono (fun _ _ h => h.elim)) HK3)) G js (.slice a2 M p2) (HJ1.out.kept HK3 (Off.apart (fun i e hx => hx.2 e))) (HJ2.out.kept HK3 (fun i e _ hx => hx.2 e)) HGL.out)
      have HB3 := Lib.hid (blk_setCell HT2H.out 3 (.int .i64 ((count : Int) + 1)))
      have HK3H := Lib.hid HK3
      clear HK3
      go_wp2_with fail
      refine HTOP.out.mono ?_
      rintro e w4 ⟨v4, rfl, hr4, hk4⟩
      obtain ⟨o4, rfl⟩ := hr4.shape
      have HB4 := hk4.blk HB3.out (fun h => h)
      have g1 : w4.frozen? ⟨t, 1, none⟩ = false := free_of_block HB4 1
      have z1 : w4.cell? ⟨t, 1, none⟩ = some (.pointer (some ⟨bn, 0, none⟩)) := by rw [cell_of_block HB4]; rfl
      have HPO : Hid (TPut w X t f (topR G) kept (count + 1) had (.returned (.int .i64 0)) (w4.setCell ⟨t, 1, none⟩ (.pointer o4))) := Lib.hid (HFIN.out w1 w2 _ w4 (.pointer o4) (.pointer (some ⟨bn, 0, none⟩)) (count + 1) HW1.out HK2.out HK3H.out hk4 (by rw [HB4]; rfl) hr4 HKV1.out)
      clear HB4 hr4 hk4 HTOP HB3
      go_wp2_with fail
      go_ret
      exact HPO.out
    · as_aux_lemma =>
      have HTOP := Lib.hid (top_calls w2 (But X t) (HXB.out _ (keeps_then2 HW1.out (HK2.out.mono (fun _ _ h => h.elim)) (Keeps.refl _ _))) G js (.slice a2 M p2) HJ1.out HJ2.out HGL.out)
      go_wp2_with fail
      refine HTOP.out.mono ?_
      rintro e w4 ⟨v4, rfl, hr4, hk4⟩
      obtain ⟨o4, rfl⟩ := hr4.shape
      have HB4 := hk4.blk HT2H.out (fun h => h)
      have g1 : w4.frozen? ⟨t, 1, none⟩ = false := free_of_block HB4 1
      have z1 : w4.cell? ⟨t, 1, none⟩ = some (.pointer (some ⟨bn, 0, none⟩)) := by rw [cell_of_block HB4]; rfl
      have HPO : Hid (TPut w X t f (topR G) kept count had (.returned (.int .i64 0)) (w4.setCell ⟨t, 1, none⟩ (.pointer o4))) := Lib.hid (HFIN.out w1 w2 w2 w4 (.pointer o4) (.pointer (some ⟨bn, 0, none⟩)) count HW1.out HK2.out (Keeps.refl _ _) hk4 HB4 hr4 HKV1.out)
      clear HB4 hr4 hk4 HTOP
      go_wp2_with fail
      go_ret
      exact HPO.out
  | some ⟨d, n0⟩, hr =>
    obtain ⟨b0, rfl, hk0⟩ := hr
    clear hlt
    have c1 : w.cell? ⟨t, 1, none⟩ = some (.pointer (some ⟨b0, 0, none⟩)) := by rw [cell_of_block hb]; rfl
    have HW1 : Hid (Keeps w w (· = t)) := Lib.hid (Keeps.refl _ _)
    have HI1 : Hid (isK w (But X t) (rootN (some ⟨d, n0⟩)).1 (rootN (some ⟨d, n0⟩)).2 b0) := Lib.hid hk0
    have HT1 := HT0
    have HKV1 := HKV
    clear hb hk0
    go_enter Tryz.func13, Tryz.ntmps13
    go_wp2_with fail
    refine (HGR.out w b0 HW1.out HI1.out).mono ?_
    rintro e w2 ⟨v2, js, rfl, hj1, hj2, hk2⟩
    obtain ⟨⟨a2, p2, rfl, zz1, zz2⟩, zz3⟩ := id hj1
    clear zz1 zz2 zz3
    obtain ⟨M, hM⟩ : ∃ M, M = (js.map ptrV).length := ⟨_, rfl⟩
    rw [← hM] at hj1 ⊢
    have HJ1 := Lib.hid hj1
    have HJ2 := Lib.hid hj2
    have HK2 := Lib.hid hk2
    have HT2 := hk2.blk HT1.out (fun h => h)
    have HT2H := Lib.hid HT2
    have s1 : w2.cell? ⟨t, 1, none⟩ = some (.pointer (some ⟨b0, 0, none⟩)) := by rw [cell_of_block HT2]; rfl
    have s3 : w2.cell? ⟨t, 3, none⟩ = some (.int .i64 count) := by rw [cell_of_block HT2]; rfl
    have f1 : w2.frozen? ⟨t, 1, none⟩ = false := free_of_block HT2 1
    have f3 : w2.frozen? ⟨t, 3, none⟩ = false := free_of_block HT2 3
    clear hj1 hj2 hk2 HT2 hM
    cases hs
    · as_aux_lemma =>
      have HK3 : Keeps w2 (w2.setCell ⟨t, 3, none⟩ (.int .i64 ((count : Int) + 1))) (· = t) := keeps_cell w2 t 3 _
      have HTOP := Lib.hid (top_calls (w2.setCell ⟨t, 3, none⟩ (.int .i64 ((count : Int) + 1))) (But X t) (HXB.out _ (keeps_then2 HW1.out (HK2.out.mono (fun _ _ h => h.elim)) HK3)) G js (.slice a2 M p2) (HJ1.out.kept HK3 (Off.apart (fun i e hx => hx.2 e))) (HJ2.out.kept HK3 (fun i e _ hx => hx.2 e)) HGL.out)
      have HB3 := Lib.hid (blk_setCell HT2H.out 3 (.int .i64 ((count : Int) + 1)))
      have HK3H := Lib.hid HK3
      clear HK3
      go_wp2_with fail
      refine HTOP.out.mono ?_
      rintro e w4 ⟨v4, rfl, hr4, hk4⟩
      obtain ⟨o4, rfl⟩ := hr4.shape
      have HB4 := hk4.blk HB3.out (fun h => h)
      have g1 : w4.frozen? ⟨t, 1, none⟩ = false := free_of_block HB4 1
      have z1 : w4.cell? ⟨t, 1, none⟩ = some (.pointer (some ⟨b0, 0, none⟩)) := by rw [cell_of_block HB4]; rfl
      have HPO : Hid (TPut w X t f (topR G) kept (count + 1) had (.returned (.int .i64 0)) (w4.setCell ⟨t, 1, none⟩ (.pointer o4))) := Lib.hid (HFIN.out w w2 _ w4 (.pointer o4) (.pointer (some ⟨b0, 0, none⟩)) (count + 1) HW1.out HK2.out HK3H.out hk4 (by rw [HB4]; rfl) hr4 HKV1.out)
      clear HB4 hr4 hk4 HTOP HB3
      go_wp2_with fail
      go_ret
      exact HPO.out
    · as_aux_lemma =>
      have HTOP := Lib.hid (top_calls w2 (But X t) (HXB.out _ (keeps_then2 HW1.out (HK2.out.mono (fun _ _ h => h.elim)) (Keeps.refl _ _))) G js (.slice a2 M p2) HJ1.out HJ2.out HGL.out)
      go_wp2_with fail
      refine HTOP.out.mono ?_
      rintro e w4 ⟨v4, rfl, hr4, hk4⟩
      obtain ⟨o4, rfl⟩ := hr4.shape
      have HB4 := hk4.blk HT2H.out (fun h => h)
      have g1 : w4.frozen? ⟨t, 1, none⟩ = false := free_of_block HB4 1
      have z1 : w4.cell? ⟨t, 1, none⟩ = some (.pointer (some ⟨b0, 0, none⟩)) := by rw [cell_of_block HB4]; rfl
      have HPO : Hid (TPut w X t f (topR G) kept count had (.returned (.int .i64 0)) (w4.setCell ⟨t, 1, none⟩ (.pointer o4))) := Lib.hid (HFIN.out w w2 w2 w4 (.pointer o4) (.pointer (some ⟨b0, 0, none⟩)) count HW1.out HK2.out (Keeps.refl _ _) hk4 HB4 hr4 HKV1.out)
      clear HB4 hr4 hk4 HTOP
      go_wp2_with fail
      go_ret
      exact HPO.out
end Go.Proofs.YtblpkifkaoaicaaGreat

namespace Go.Proofs.YtblpkifkaoaicaaGreat
open Go Go.RowKit Go.Maps Wb

theorem fit_kid {d : Nat} {l : Wb.Rows (d + 1)} (hf : Fit (d + 1) l) {r : Row (d + 1)} (hr : r ∈ l) : Fit d (kidR r).2 := ⟨(hf.2 r hr).2.2.1, (hf.2 r hr).2.2.2⟩
theorem fit_len {d : Nat} {l : Wb.Rows d} (hf : Fit d l) : l.length ≤ 1000 := (short_fit hf.2 (Nat.le_trans hf.1 (by omega))).1
set_option maxRecDepth 100000 in
set_option maxHeartbeats 1000000 in
theorem count_calls (w : World) (X : Nat → Prop) (t f : Nat) (root kept : Root) (count had : Nat) (h : isTree w X t f root kept count had) :
    Calls Tryz.prog 18 #[.pointer (some ⟨t, 0, none⟩)] w fun e w' => e = .returned (.int .i64 count) ∧ w = w' := by
  obtain ⟨rv, kv, hb, _, _⟩ := h.ex
  have c3 : w.cell? ⟨t, 3, none⟩ = some (.int .i64 count) := by rw [cell_of_block hb]; rfl
  clear hb h
  go_enter Tryz.func18, Tryz.ntmps18
  go_wp2
  go_ret
  exact ⟨rfl, rfl⟩
/-- A knot on the way to a key. -/
def GetAt (w : World) (X : Nat → Prop) (F : KVs) (k : Nm) (d b : Nat) : Prop := ∃ n : Nd d, isK w X d n b ∧ Ord d n.2 ∧ Fit d n.2 ∧ (n.2 ≠ [] ∨ d = 0) ∧ getM (flat d n.2) k = getM F k
noncomputable def getMs (w : World) (X : Nat → Prop) (F : KVs) (k : Nm) (v : Value) : Nat := match v with
  | .pointer (some a) => leastN fun d => GetAt w X F k d a.block
  | _ => 0
theorem getMs_spec {w : World} {X : Nat → Prop} {F : KVs} {k : Nm} {b : Nat} (h : ∃ d, GetAt w X F k d b) : ∃ d, GetAt w X F k d b ∧ getMs w X F k (.pointer (some ⟨b, 0, none⟩)) = d := ⟨_, leastN_spec h, rfl⟩
theorem getMs_le {w : World} {X : Nat → Prop} {F : KVs} {k : Nm} {b d : Nat} (h : GetAt w X F k d b) : getMs w X F k (.pointer (some ⟨b, 0, none⟩)) ≤ d := leastN_le (p := fun d => GetAt w X F k d b) h
def getV (F : KVs) (k : Nm) : Value := .tuple #[.string (bs ((getM F k).getD [])), .bool (getM F k).isSome, .int .i64 0]
set_option maxRecDepth 100000 in
set_option maxHeartbeats 4000000 in
theorem get_calls (w : World) (X : Nat → Prop) (t f : Nat) (root kept : Root) (count had : Nat) (h : isTree w X t f root kept count had) (hok : RootOk root) (k : Nm) :
    Calls Tryz.prog 22 #[.pointer (some ⟨t, 0, none⟩), .string (bs k)] w (Quiet w (getV (flatT root) k)) := by
  obtain ⟨rv, kv, hb, hr, _⟩ := h.ex
  have c1 : w.cell? ⟨t, 1, none⟩ = some rv := by rw [cell_of_block hb]; rfl
  match root, hok, hr with
  | none, _, hr =>
    have hr : rv = .pointer none := hr
    subst hr
    clear hb h
    go_enter Tryz.func22, Tryz.ntmps22
    go_wp2_with fail
    clear c1
    go_loop [7] (fun v7 => v7 = .pointer none) (fun _ => 0)
    case atStart => rfl
    case round =>
      subst hrel
      go_wp2_with fail
      go_ret3
      exact ⟨rfl, Keeps.refl _ _⟩
  | some ⟨d0, n0⟩, hok, hr =>
    obtain ⟨b0, rfl, hk0⟩ := hr
    obtain ⟨F, hF⟩ : ∃ F, F = flatT (some ⟨d0, n0⟩) := ⟨_, rfl⟩
    have HN : Hid (∃ d, GetAt w (But X t) F k d b0) := Lib.hid ⟨d0, n0, hk0, hok.1, hok.2.1, hok.2.2.elim (fun h => .inr h.1) (fun h => .inl (fun e => by have e : n0.2 = [] := e; rw [e] at h; simp at h)), by rw [hF]; rfl⟩
    rw [← hF]
    obtain ⟨Y, hY⟩ : ∃ Y, Y = But X t := ⟨_, rfl⟩
    rw [← hY] at HN
    clear hb h hk0 hok hF hY
    go_enter Tryz.func22, Tryz.ntmps22
    go_wp2_with fail
    clear c1
    go_loopw [7] (fun v7 wr => ∃ (b : Nat), v7 = .pointer (some ⟨b, 0, none⟩) ∧ Hid ((∃ d, GetAt w Y F k d b) ∧ Keeps w wr (fun _ => False))) (fun v7 _ => getMs w Y F k v7)
    case atStart => exact ⟨b0, rfl, Lib.hid ⟨HN.out, Keeps.refl _ _⟩⟩
    case round =>
      clear HN
      obtain ⟨b, rfl, hrel⟩ := hrel
      obtain ⟨d, ⟨n, hn, ho, hfit, hne, hget⟩, hm⟩ := getMs_spec hrel.out.1
      have HM := Lib.hid hm
      have HK := Lib.hid hrel.out.2
      clear hrel hm
      cases d with
      | zero =>
        as_aux_lemma =>
        obtain ⟨rs, hkn, hrok⟩ := hn
        obtain ⟨rv, kv, hb, hrw, _⟩ := hkn.ex
        have hl9 := fit_len hfit
        have hlen := hrok.len
        have hks : (rs.map (·.key)).Pairwise (· < ·) := by rw [hrok.keys, List.pairwise_map]; exact ho.keys
        have HRW := Lib.hid hrw
        obtain ⟨⟨ad, cap, rfl, hcap, hrd⟩, _⟩ := id hrw
        obtain ⟨N, hN⟩ : ∃ N, N = (rowsA rs).length := ⟨_, rfl⟩
        have hNl : N = n.2.length := by rw [hN, rowsA_len, hlen]
        have hlf := get_leaf ho k
        rw [← hrok.keys] at hlf
        obtain ⟨i, hi⟩ : ∃ i, i = lowK (rs.map (·.key)) k := ⟨_, rfl⟩
        obtain ⟨th, hth⟩ : ∃ th, th = hasK (rs.map (·.key)) k := ⟨_, rfl⟩
        have HRD := Lib.hid hrd
        rw [← hN] at hb HRW
        have HFIND : Hid (∀ (W : World), Keeps w W (fun _ => False) → Calls Tryz.prog 48 #[.agg (nodeA true (.slice ad N cap)), .string (bs k)] W (Quiet W (.tuple #[.int .i64 i, .bool th]))) := Lib.hid fun W hkk => by
          have := find_calls W true (.slice ad (rowsA rs).length cap) rs k (hrw.1.new hkk) hks (by omega)
          rw [← hth, ← hN, show findI true (rs.map (·.key)) k = lowK (rs.map (·.key)) k from if_pos (.inl rfl), ← hi] at this
          exact this
        have HB := Lib.hid hb
        have HC : Hid (∀ (W : World), Keeps w W (fun _ => False) → W.cell? ⟨b, 1, none⟩ = some (.bool true) ∧ W.cell? ⟨b, 2, none⟩ = some (.slice ad N cap)) := Lib.hid fun W hk => by
          have h9 := hk.blk HB.out (fun h => h)
          exact ⟨by rw [cell_of_block h9]; rfl, by rw [cell_of_block h9]; rfl⟩
        obtain ⟨c1, c2⟩ := HC.out _ HK.out
        have HG := Lib.hid hget
        have HFX : Hid (if th = true then ∃ r : Row 0, n.2[i]? = some r ∧ getM (flat 0 n.2) k = some (valR r) else getM (flat 0 n.2) k = none) := Lib.hid (by rw [hth, hi]; exact hlf)
        have HRS : Hid (∀ (j : Nat) (r : Row 0), n.2[j]? = some r → rs[j]? = some ⟨keyR r, valR r, 0⟩) := Lib.hid fun j r hr => by
          have : rs = n.2.map fun r => ⟨keyR r, valR r, 0⟩ := hrok
          rw [this, List.getElem?_map, hr]; rfl
        have HNL := Lib.hid hNl
        have hNi : (N : Int) ≤ 1000 := by omega
        obtain ⟨z, hz⟩ : ∃ z, z = n.1 := ⟨_, rfl⟩
        rw [← hz] at HB
        clear hb hrw hrd hcap hks hkn hrok hlen hl9 hlf hi hth hN hNl hz hget ho hfit hne
        go_wp2_with fail
        refine (asNode_calls _ b z true _ _ _ _ (HK.out.blk HB.out (fun h => h))).mono ?_
        rintro e w1 ⟨rfl, hk1⟩
        have HK1 := Lib.hid (HK.out.trans hk1)
        clear hk1 c1 c2
        go_wp2_with fail
        refine (HFIND.out w1 HK1.out).mono ?_
        rintro e w2 ⟨rfl, hk2⟩
        have HK2 := Lib.hid (HK1.out.trans hk2)
        obtain ⟨c1, c2⟩ := HC.out w2 HK2.out
        clear hk2
        cases th with
        | false =>
          have HPO : Hid (Quiet w (getV F k) (.returned (.tuple #[.string (bs []), .bool false, .int .i64 0])) w2) := Lib.hid ⟨by
            have h1 : getM F k = none := HG.out.symm.trans (by simpa using HFX.out)
            unfold getV; rw [h1]; rfl, HK2.out⟩
          go_wp2_with fail
          go_ret3
          exact HPO.out
        | true =>
          obtain ⟨r, hr, hg⟩ : ∃ r : Row 0, n.2[i]? = some r ∧ getM (flat 0 n.2) k = some (valR r) := by simpa using HFX.out
          obtain ⟨g, o, rfl, _, hrg⟩ := HRD.out i _ (rowsA_at (HRS.out i r hr))
          have hiN : i < N := by rw [HNL.out]; exact (List.getElem?_eq_some_iff.1 hr).1
          have hi0 : (0 : Int) ≤ i := by omega
          have hiNi : (i : Int) < N := by omega
          obtain ⟨vv, hvv⟩ : ∃ vv, vv = valR r := ⟨_, rfl⟩
          have cr : w2.cell? ⟨g, o + i * 3 + 1, none⟩ = some (.string (bs vv)) := Keeps.cellK HK2.out (by have := hrg 1 _ rfl; rw [hvv]; exact this)
          have HPO : Hid (Quiet w (getV F k) (.returned (.tuple #[.string (bs vv), .bool true, .int .i64 0])) w2) := Lib.hid ⟨by
            have h1 : getM F k = some vv := by rw [hvv, ← hg]; exact HG.out.symm
            unfold getV; rw [h1]; rfl, HK2.out⟩
          clear hr hg hrg hvv hiN
          go_wp2_with fail
          go_ret3
          exact HPO.out
      | succ d =>
        as_aux_lemma =>
        have hne : n.2 ≠ [] := hne.elim id (fun e => by cases e)
        obtain ⟨r, st⟩ := get_step k ho hne
        obtain ⟨ad, ad2, cap, cap2, x, g, o, g2, o2, rs, hin⟩ := inAt hn st.at'
        have hl9 := fit_len hfit
        have hil := (List.getElem?_eq_some_iff.1 st.at').1
        have hks : (rs.map (·.key)).Pairwise (· < ·) := by rw [hin.rok.keys, List.pairwise_map]; exact ho.keys
        have hfi := findI_inner hin.rok ho.keys k
        have HX : Hid (GetAt w Y F k d x) := Lib.hid ⟨kidR r, hin.kid, st.ord, fit_kid hfit (List.mem_of_getElem? st.at'), .inl st.ne, st.get.symm.trans hget⟩
        obtain ⟨rfl, rfl⟩ := And.intro hin.ha hin.ha2
        obtain ⟨N, hN⟩ : ∃ N, N = n.2.length := ⟨_, rfl⟩
        obtain ⟨i, hi⟩ : ∃ i, i = idx n.2 k := ⟨_, rfl⟩
        obtain ⟨th, hth⟩ : ∃ th, th = hasK (rs.map (·.key)) k := ⟨_, rfl⟩
        have HFIND : Hid (∀ (W : World), Keeps w W (fun _ => False) → Calls Tryz.prog 48 #[.agg (nodeA false (.slice (some ⟨g, o, none⟩) N cap)), .string (bs k)] W (Quiet W (.tuple #[.int .i64 i, .bool th]))) := Lib.hid fun W hkk => by
          have := find_calls W false (.slice (some ⟨g, o, none⟩) n.2.length cap) rs k (hin.rows.1.new hkk) hks (by rw [hin.rok.len]; omega)
          rw [hfi, ← hi, ← hth, ← hN] at this
          exact this
        have HB : Hid (w.heap[b]? = some (.cells (knA n.1 false (.slice (some ⟨g, o, none⟩) N cap) (.slice (some ⟨g2, o2, none⟩) N cap2)) 96 (0, 0))) := Lib.hid (by rw [hN]; exact hin.blk)
        have HC : Hid (∀ (W : World), Keeps w W (fun _ => False) → W.cell? ⟨b, 1, none⟩ = some (.bool false) ∧ W.cell? ⟨b, 3, none⟩ = some (.slice (some ⟨g2, o2, none⟩) N cap2) ∧ W.cell? ⟨g2, o2 + i, none⟩ = some (.pointer (some ⟨x, 0, none⟩))) := Lib.hid fun W hk => by
          have h9 := hk.blk HB.out (fun h => h)
          have h8 := hin.cx
          rw [← hi] at h8
          exact ⟨by rw [cell_of_block h9]; rfl, by rw [cell_of_block h9]; rfl, Keeps.cellK hk h8⟩
        have hiN : i < N := by rw [hN, hi]; exact hil
        have hi0 : (0 : Int) ≤ i := by omega
        have hiNi : (i : Int) < N := by omega
        have hNi : (N : Int) ≤ 1000 := by omega
        have HN1 : Hid (∃ z, z = n.1) := Lib.hid ⟨_, rfl⟩
        obtain ⟨z, hz⟩ := HN1.out
        rw [← hz] at HB
        obtain ⟨c1, c3, cx⟩ := HC.out _ HK.out
        clear hin hne hl9 hil hks hfi hN hi hth hz HN1 ho hfit st hget hn hiN
        go_wp2_with fail
        refine (asNode_calls _ b z false _ _ _ _ (HK.out.blk HB.out (fun h => h))).mono ?_
        rintro e w1 ⟨rfl, hk1⟩
        have HK1 := Lib.hid (HK.out.trans hk1)
        clear hk1 c1 c3 cx
        go_wp2_with fail
        refine (HFIND.out w1 HK1.out).mono ?_
        rintro e w2 ⟨rfl, hk2⟩
        have HK2 := Lib.hid (HK1.out.trans hk2)
        obtain ⟨c1, c3, cx⟩ := HC.out w2 HK2.out
        clear hk2
        go_wp2_with fail
        go_round
        case rel => exact ⟨x, rfl, Lib.hid ⟨⟨d, HX.out⟩, HK2.out⟩⟩
        case measure => have := getMs_le HX.out; have := HM.out; omega

def highR : Root → Nat
  | none => 0
  | some ⟨d, _⟩ => d + 1
/-- A knot on the way down: how high it stands. -/
def HighAt (w : World) (X : Nat → Prop) (d b : Nat) : Prop := ∃ n : Nd d, isK w X d n b ∧ Ord d n.2 ∧ (n.2 ≠ [] ∨ d = 0)
set_option maxRecDepth 100000 in
set_option maxHeartbeats 4000000 in
theorem high_calls (w : World) (X : Nat → Prop) (t f : Nat) (root kept : Root) (count had : Nat) (h : isTree w X t f root kept count had) (hok : RootOk root) (hh : highR root ≤ 1000000) :
    Calls Tryz.prog 19 #[.pointer (some ⟨t, 0, none⟩)] w fun e w' => e = .returned (.int .i64 (highR root)) ∧ w = w' := by
  obtain ⟨rv, kv, hb, hr, _⟩ := h.ex
  have c1 : w.cell? ⟨t, 1, none⟩ = some rv := by rw [cell_of_block hb]; rfl
  match root, hok, hr, hh with
  | none, _, hr, _ =>
    have hr : rv = .pointer none := hr
    subst hr
    clear hb h
    go_enter Tryz.func19, Tryz.ntmps19
    go_wp2_with fail
    clear c1
    go_loop [3, 4] (fun v3 v4 => v3 = .int .i64 0 ∧ v4 = .pointer none) (fun _ _ => 0)
    case atStart => exact ⟨rfl, rfl⟩
    case round =>
      obtain ⟨rfl, rfl⟩ := hrel
      go_wp2_with fail
      go_ret
      exact ⟨rfl, rfl⟩
  | some ⟨d0, n0⟩, hok, hr, hh =>
    obtain ⟨b0, rfl, hk0⟩ := hr
    have hh : d0 + 1 ≤ 1000000 := hh
    show Calls Tryz.prog 19 #[.pointer (some ⟨t, 0, none⟩)] w fun e w' => e = .returned (.int .i64 ((d0 + 1 : Nat) : Int)) ∧ w = w'
    have HN : Hid (HighAt w (But X t) d0 b0) := Lib.hid ⟨n0, hk0, hok.1, hok.2.2.elim (fun h => .inr h.1) (fun h => .inl (fun e => by have e : n0.2 = [] := e; rw [e] at h; simp at h))⟩
    obtain ⟨Y, hY⟩ : ∃ Y, Y = But X t := ⟨_, rfl⟩
    rw [← hY] at HN
    obtain ⟨m, hm⟩ : ∃ m, m = d0 + 1 := ⟨_, rfl⟩
    have HM := Lib.hid hm
    rw [← hm] at hh ⊢
    have hmi : (m : Int) ≤ 1000000 := by omega
    clear hb h hk0 hok hY hm
    go_enter Tryz.func19, Tryz.ntmps19
    go_wp2_with fail
    clear c1
    go_loop [3, 4] (fun v3 v4 => ∃ (q b : Nat), q < m ∧ v3 = .int .i64 q ∧ v4 = .pointer (some ⟨b, 0, none⟩) ∧ Hid (HighAt w Y (m - 1 - q) b)) (fun v3 _ => m - (intOf v3).toNat)
    case atStart => exact ⟨0, b0, by have := HM.out; omega, rfl, rfl, Lib.hid (by have := HN.out; rw [show m - 1 - 0 = d0 from by have := HM.out; omega]; exact this)⟩
    case round =>
      clear HN
      obtain ⟨q, b, hq, rfl, rfl, hrel⟩ := hrel
      obtain ⟨d, hd⟩ : ∃ d, d = m - 1 - q := ⟨_, rfl⟩
      rw [← hd] at hrel
      obtain ⟨n, hn, ho, hne⟩ := hrel.out
      have HD := Lib.hid hd
      have HQ := Lib.hid hq
      have hq0 : (0 : Int) ≤ q := by omega
      have hqm : (q : Int) < m := by omega
      clear hrel hd
      cases d with
      | zero =>
        as_aux_lemma =>
        obtain ⟨rs, hkn, hrok⟩ := hn
        obtain ⟨rv, kv, hb, hrw, _⟩ := hkn.ex
        have c1 : w.cell? ⟨b, 1, none⟩ = some (.bool true) := by rw [cell_of_block hb]; rfl
        have hq1 : ((q : Int) + 1) = m := by have := HD.out; omega
        clear hb hrw hkn hrok ho hne hq
        go_wp2_with fail
        go_ret
        exact ⟨rfl, rfl⟩
      | succ d =>
        as_aux_lemma =>
        have hne : n.2 ≠ [] := hne.elim id (fun e => by cases e)
        obtain ⟨r, hr0⟩ : ∃ r, n.2[0]? = some r := by
          cases hn2 : n.2 with
          | nil => exact absurd hn2 hne
          | cons r _ => exact ⟨r, rfl⟩
        obtain ⟨ad, ad2, cap, cap2, x, g, o, g2, o2, rs, hin⟩ := inAt hn hr0
        obtain ⟨rfl, rfl⟩ := And.intro hin.ha hin.ha2
        have HX : Hid (HighAt w Y d x) := Lib.hid ⟨kidR r, hin.kid, (ho.1 r (List.mem_of_getElem? hr0)).2.1, .inl (ho.1 r (List.mem_of_getElem? hr0)).1⟩
        obtain ⟨N, hN⟩ : ∃ N, N = n.2.length := ⟨_, rfl⟩
        have hN0 : (0 : Int) < N := by have := (List.getElem?_eq_some_iff.1 hr0).1; omega
        have hN0n : 0 < N := by omega
        have hb := hin.blk
        rw [← hN] at hb
        have c1 : w.cell? ⟨b, 1, none⟩ = some (.bool false) := by rw [cell_of_block hb]; rfl
        have c3 : w.cell? ⟨b, 3, none⟩ = some (.slice (some ⟨g2, o2, none⟩) N cap2) := by rw [cell_of_block hb]; rfl
        have cx : w.cell? ⟨g2, o2, none⟩ = some (.pointer (some ⟨x, 0, none⟩)) := hin.cx
        clear hin hb hN hr0 hne ho hn hq
        go_wp2_with fail
        go_round
        case rel => exact ⟨q + 1, x, by have := HD.out; have := HQ.out; omega, rfl, rfl, Lib.hid (by have := HX.out; rw [show m - 1 - (q + 1) = d from by have := HD.out; omega]; exact this)⟩
        case measure => have := HQ.out; simp [intOf]; omega
end Go.Proofs.YtblpkifkaoaicaaGreat

namespace Go.Proofs.YtblpkifkaoaicaaGreat
open Go Go.RowKit Go.Maps Wb

def rowsKV (l : KVs) : List Rw := l.map fun x => ⟨x.1, x.2, 0⟩
theorem rowsKV_len (l : KVs) : (rowsKV l).length = l.length := by simp [rowsKV]
theorem rowsKV_snoc (l : KVs) (k v : Nm) : rowsA (rowsKV (l ++ [(k, v)])) = rowsA (rowsKV l) ++ [rowA ⟨k, v, 0⟩] := by unfold rowsKV; rw [List.map_append, rowsA_app]; rfl
theorem buildRwKV (k v : Nm) (w : World) : (Instr.build 70 #[(0, .string (bs k)), (1, .string (bs v))]).run Tryz.prog w = .ok (.agg (rowA ⟨k, v, 0⟩)) w := by kernel_rfl
def AddPost (w0 : World) (out : KVs) (e : Ending) (w' : World) : Prop :=
  ∃ v', e = .returned v' ∧ isOwnA w' w0.heap.size 70 3 v' (rowsA (rowsKV out)) ∧ Keeps w0 w' (fun _ => False)
def AddRel (w0 : World) (d : Nat) (out : KVs) (l : Wb.Rows d) (k : Nm) (n q : Nat) (a : Option Addr) (m c : Nat) (wr : World) : Prop :=
  m = (addQ d out l k n q).length ∧ isOwnA wr w0.heap.size 70 3 (.slice a m c) (rowsA (rowsKV (addQ d out l k n q))) ∧ Keeps w0 wr (fun _ => False)
theorem AddRel.mk' {w0 : World} {d : Nat} {out : KVs} {l : Wb.Rows d} {k : Nm} {n q : Nat} {v : Value} {wr : World} (h : isOwnA wr w0.heap.size 70 3 v (rowsA (rowsKV (addQ d out l k n q)))) (hk : Keeps w0 wr (fun _ => False)) : ∃ a m c, v = .slice a m c ∧ AddRel w0 d out l k n q a m c wr := by
  obtain ⟨a, c, e⟩ := h.shape
  rw [rowsA_len, rowsKV_len] at e
  exact ⟨a, _, c, e, rfl, by rw [← e]; exact h, hk⟩
theorem addInt (n : Nat) (nI : Int) (hn : n = nI.toNat) (m : Nat) : ((m : Int) < nI) ↔ m < n := by omega
set_option maxRecDepth 100000 in
set_option maxHeartbeats 4000000 in
theorem addL_calls (k : Nm) (nI : Int) (n : Nat) (hn : n = nI.toNat) (w0 : World) (X : Nat → Prop) (nd : Nd 0) (b : Nat) (h : isK w0 X 0 nd b) (ho : Ord 0 nd.2) (hf : Fit 0 nd.2) (w : World) (v : Value) (out : KVs) (hkw : Keeps w0 w (fun _ => False)) (hown : isOwnA w w0.heap.size 70 3 v (rowsA (rowsKV out))) (hbd : out.length + (flat 0 nd.2).length ≤ 1000000) :
    Calls Tryz.prog 47 #[.pointer (some ⟨b, 0, none⟩), v, .string (bs k), .int .i64 nI] w (AddPost w0 (addM out (fromL (flat 0 nd.2) k) n)) := by
  obtain ⟨rs, hkn, hrok⟩ := h
  obtain ⟨rv, kv, hb, hrw, hkd⟩ := hkn.ex
  have hl9 := fit_len hf
  have hlen := hrok.len
  have hks : (rs.map (·.key)).Pairwise (· < ·) := by rw [hrok.keys, List.pairwise_map]; exact ho.keys
  obtain ⟨⟨ad, cap, rfl, hcap, hrd⟩, _⟩ := id hrw
  obtain ⟨⟨ad2, cap2, rfl, hcap2, hrd2⟩, _⟩ := id hkd
  obtain ⟨N, hN⟩ : ∃ N, N = (rowsA rs).length := ⟨_, rfl⟩
  have hNl : N = nd.2.length := by rw [hN, rowsA_len, hlen]
  obtain ⟨N2, hN2⟩ : ∃ N2, N2 = (([] : List Nat).map ptrV).length := ⟨_, rfl⟩
  obtain ⟨i0, hi⟩ : ∃ i0, i0 = lowK (rs.map (·.key)) k := ⟨_, rfl⟩
  obtain ⟨th, hth⟩ : ∃ th, th = hasK (rs.map (·.key)) k := ⟨_, rfl⟩
  have HRD := Lib.hid hrd
  rw [← hN, ← hN2] at hb
  have HFIND : Hid (∀ (W : World), Keeps w0 W (fun _ => False) → Calls Tryz.prog 48 #[.agg (nodeA true (.slice ad N cap)), .string (bs k)] W (Quiet W (.tuple #[.int .i64 i0, .bool th]))) := Lib.hid fun W hkk => by
    have := find_calls W true (.slice ad (rowsA rs).length cap) rs k (hrw.1.new hkk) hks (by omega)
    rw [← hth, ← hN, show findI true (rs.map (·.key)) k = lowK (rs.map (·.key)) k from if_pos (.inl rfl), ← hi] at this
    exact this
  have HB := hb
  have HRS : Hid (∀ (j : Nat) (r : Row 0), nd.2[j]? = some r → rs[j]? = some ⟨keyR r, valR r, 0⟩) := Lib.hid fun j r hr => by
    have : rs = nd.2.map fun r => ⟨keyR r, valR r, 0⟩ := hrok
    rw [this, List.getElem?_map, hr]; rfl
  have HNL := Lib.hid hNl
  have hNi : (N : Int) ≤ 1000 := by omega
  have HI0 : Hid (i0 ≤ N) := Lib.hid (by have := lowK_le (rs.map (·.key)) k; rw [List.length_map] at this; rw [hi, hN, rowsA_len]; exact this)
  have HLOW : Hid (lowK (nd.2.map keyR) k ≤ i0) := Lib.hid (by rw [hi, hrok.keys]; exact Nat.le_refl _)
  have HQ0 : Hid (addQ 0 out nd.2 k n i0 = out) := Lib.hid (by unfold addQ; rw [hi, hrok.keys, from_leaf, addM_nil])
  have HO := Lib.hid ho
  have HBD := Lib.hid hbd
  have HNI := Lib.hid hn
  have hi00 : (0 : Int) ≤ i0 := by omega
  clear hb hrw hrd hrd2 hcap hcap2 hkd hks hkn hrok hlen hl9 hi hth hN hN2 hNl ho hf hbd hn
  have HFL : Hid (∀ (W : World), Keeps w0 W (fun _ => False) → Calls Tryz.prog 48 #[.agg (nodeA true (.slice ad N cap)), .string (bs k)] W (Quiet W (.tuple #[.int .i64 i0, .bool th]))) := HFIND
  obtain ⟨id0, hid0⟩ : ∃ z, z = nd.1 := ⟨_, rfl⟩
  rw [← hid0] at HB
  have HBH := Lib.hid HB
  have hbw := hkw.blk HB (fun h => h)
  have HKW := Lib.hid hkw
  have HOWN := Lib.hid hown
  obtain ⟨av, mv, cv, rfl, hrel0⟩ := AddRel.mk' (w0 := w0) (d := 0) (out := out) (l := nd.2) (k := k) (n := n) (q := i0) (v := v) (wr := w) (by rw [HQ0.out]; exact hown) hkw
  have HREL0 := Lib.hid hrel0
  have HC : Hid (∀ (W : World), Keeps w0 W (fun _ => False) → W.cell? ⟨b, 1, none⟩ = some (.bool true) ∧ W.cell? ⟨b, 2, none⟩ = some (.slice ad N cap) ∧ W.cell? ⟨b, 3, none⟩ = some (.slice ad2 N2 cap2)) := Lib.hid fun W hk => by
    have h9 := hk.blk HBH.out (fun h => h)
    exact ⟨by rw [cell_of_block h9]; rfl, by rw [cell_of_block h9]; rfl, by rw [cell_of_block h9]; rfl⟩
  clear hid0 HB HFIND hkw hown hrel0
  go_enter Tryz.func47, Tryz.ntmps47
  go_wp2_with fail
  refine (asNode_calls w b id0 true _ _ _ _ hbw).mono ?_
  rintro e w1 ⟨rfl, hk1⟩
  have HK1 := Lib.hid (HKW.out.trans hk1)
  have HOK1 : Hid (∃ a m c, Value.slice av mv cv = .slice a m c ∧ AddRel w0 0 out nd.2 k n i0 a m c w1) := Lib.hid ⟨av, mv, cv, rfl, HREL0.out.1, HREL0.out.2.1.new hk1, HK1.out⟩
  clear hk1 hbw
  go_wp2_with fail
  refine (HFL.out w1 HK1.out).mono ?_
  rintro e w2 ⟨rfl, hk2⟩
  have HREL2 : Hid (AddRel w0 0 out nd.2 k n i0 av mv cv w2) := Lib.hid ⟨HREL0.out.1, by
    obtain ⟨a, m, c, e, h⟩ := HOK1.out
    injection e with e1 e2 e3
    subst e1 e2 e3
    exact h.2.1.new hk2, HK1.out.trans hk2⟩
  clear hk2
  go_wp2_with fail
  go_loopw [1, 9] (fun v1 v9 wr => ∃ (q : Nat) (a : Option Addr) (m c : Nat), i0 ≤ q ∧ q ≤ N ∧ v1 = .slice a m c ∧ v9 = .int .i64 q ∧ Hid (AddRel w0 0 out nd.2 k n q a m c wr)) (fun _ v9 _ => N - (intOf v9).toNat)
  case atStart => exact ⟨i0, av, mv, cv, Nat.le_refl _, HI0.out, rfl, rfl, HREL2⟩
  case round =>
    clear HREL0 HREL2 HOK1 HK1
    obtain ⟨q, a, m, c, hiq, hqN, rfl, rfl, hrel⟩ := hrel
    obtain ⟨hm, hown, hkr⟩ := hrel.out
    obtain ⟨c1, c2, c3⟩ := HC.out wr hkr
    have HM := Lib.hid hm
    have HOWN := Lib.hid hown
    have HKR := Lib.hid hkr
    have HIQ := Lib.hid hiq
    have HQN := Lib.hid hqN
    clear hrel hm hown hkr
    have HDONE : Hid (N ≤ q ∨ n ≤ m → AddPost w0 (addM out (fromL (flat 0 nd.2) k) n) (.returned (.slice a m c)) wr) := Lib.hid fun h => ⟨_, rfl, by rw [← addQ_end (q := q) (h.imp (fun h => by rw [← HNL.out]; exact h) (fun h => by rw [← HM.out]; exact h))]; exact HOWN.out, HKR.out⟩
    by_cases hlt : q < N
    · have hlb : decide ((q : Int) < (N : Int)) = true := by simp; omega
      have hlbn : decide (q < N) = true := by simp; omega
      have hq0 : (0 : Int) ≤ q := by omega
      have hqNi : (q : Int) < N := by omega
      have HLT := Lib.hid hlt
      obtain ⟨r, hr⟩ : ∃ r, nd.2[q]? = some r := ⟨_, List.getElem?_eq_getElem (by rw [← HNL.out]; exact hlt)⟩
      have HR := Lib.hid hr
      clear hlt hr
      by_cases hmn : (m : Int) < nI
      · as_aux_lemma =>
        have hmb : decide ((m : Int) < nI) = true := decide_eq_true hmn
        have HMN : Hid (m < n) := Lib.hid ((addInt n nI HNI.out m).1 hmn)
        obtain ⟨g, o, rfl, _, hrg⟩ := HRD.out q _ (rowsA_at (HRS.out q r HR.out))
        obtain ⟨kr, hkr⟩ : ∃ kr, kr = keyR r := ⟨_, rfl⟩
        obtain ⟨vr, hvr⟩ : ∃ vr, vr = valR r := ⟨_, rfl⟩
        have ck := hrg 0 _ rfl
        have cv' := hrg 1 _ rfl
        simp only [Nat.add_zero] at ck
        have ck : w0.cell? ⟨g, o + q * 3, none⟩ = some (.string (bs kr)) := by rw [hkr]; exact ck
        have cv' : w0.cell? ⟨g, o + q * 3 + 1, none⟩ = some (.string (bs vr)) := by rw [hvr]; exact cv'
        have HSF : Hid (∀ (W : World), Keeps w0 W (fun _ => False) → (fun (w' : World) => w'.cell? ⟨b, 2, none⟩ = some (.slice (some ⟨g, o, none⟩) N cap) ∧ w'.cell? ⟨g, o + q * 3, none⟩ = some (.string (bs kr)) ∧ w'.cell? ⟨g, o + q * 3 + 1, none⟩ = some (.string (bs vr))) W) := Lib.hid fun W hk => ⟨(HC.out W hk).2.1, Keeps.cellK hk ck, Keeps.cellK hk cv'⟩
        have HNEXT : Hid (addQ 0 out nd.2 k n (q + 1) = addQ 0 out nd.2 k n q ++ [(kr, vr)]) := Lib.hid (by
          rw [addQ_next HR.out, from_one HO.out (Nat.le_trans HLOW.out HIQ.out) HR.out, addM_one (by have := HM.out; have := HMN.out; omega), hkr, hvr])
        have HROOM : Hid ((rowsA (rowsKV (addQ 0 out nd.2 k n q))).length = m ∧ m + 1 ≤ 1000001) := Lib.hid ⟨by rw [rowsA_len, rowsKV_len, HM.out], by
          have h1 := addQ_len out nd.2 k n q
          have h2 := flat_take_len HR.out
          have h3 := HBD.out
          have h4 := HM.out
          omega⟩
        clear hmn hrg hkr hvr ck cv' HDONE
        have HK0 := HKR.out.drew
        have HS := HSF.out _ HK0
        go_upto_region 5 with fail
        refine wp_region_held_drew (S := (fun (w' : World) => w'.cell? ⟨b, 2, none⟩ = some (.slice (some ⟨g, o, none⟩) N cap) ∧ w'.cell? ⟨g, o + q * 3, none⟩ = some (.string (bs kr)) ∧ w'.cell? ⟨g, o + q * 3 + 1, none⟩ = some (.string (bs vr)))) (by kernel_rfl) HS (fun _ => ?_)
        first | (refine rg_s 0 rfl (by kernel_rfl) (fun _ _ _ h => h) HS ?_ ?_; rfl) | (refine rg_t 0 (v := ?_) rfl (by kernel_rfl) (fun _ _ _ h => h) HS ?_ ?_ ?_; rotate_left; rfl; focus (intro w hSw; (try dsimp only at hSw); go_simp; all_goals (with_reducible rfl)))
        simp only [Act.put, l_a, l_s, l_z]
        first | (refine rg_s 1 rfl (by kernel_rfl) (fun _ _ _ h => h) HS ?_ ?_; rfl) | (refine rg_t 1 (v := ?_) rfl (by kernel_rfl) (fun _ _ _ h => h) HS ?_ ?_ ?_; rotate_left; rfl; focus (intro w hSw; (try dsimp only at hSw); go_simp; all_goals (with_reducible rfl)))
        simp only [Act.put, l_a, l_s, l_z]
        first | (refine rg_s 2 rfl (by kernel_rfl) (fun _ _ _ h => h) HS ?_ ?_; rfl) | (refine rg_t 2 (v := ?_) rfl (by kernel_rfl) (fun _ _ _ h => h) HS ?_ ?_ ?_; rotate_left; rfl; focus (intro w hSw; (try dsimp only at hSw); go_simp; all_goals (with_reducible rfl)))
        simp only [Act.put, l_a, l_s, l_z]
        first | (refine rg_s 3 rfl (by kernel_rfl) (fun _ _ _ h => h) HS ?_ ?_; rfl) | (refine rg_t 3 (v := ?_) rfl (by kernel_rfl) (fun _ _ _ h => h) HS ?_ ?_ ?_; rotate_left; rfl; focus (intro w hSw; (try dsimp only at hSw); go_simp; all_goals (with_reducible rfl)))
        simp only [Act.put, l_a, l_s, l_z]
        first | (refine rg_s 4 rfl (by kernel_rfl) (fun _ _ _ h => h) HS ?_ ?_; rfl) | (refine rg_t 4 (v := ?_) rfl (by kernel_rfl) (fun _ _ _ h => h) HS ?_ ?_ ?_; rotate_left; rfl; focus (intro w hSw; (try dsimp only at hSw); go_simp; all_goals (with_reducible rfl)))
        simp only [Act.put, l_a, l_s, l_z]
        first | (refine rg_s 5 rfl (by kernel_rfl) (fun _ _ _ h => h) HS ?_ ?_; rfl) | (refine rg_t 5 (v := ?_) rfl (by kernel_rfl) (fun _ _ _ h => h) HS ?_ ?_ ?_; rotate_left; rfl; focus (intro w hSw; (try dsimp only at hSw); go_simp; all_goals (with_reducible rfl)))
        simp only [Act.put, l_a, l_s, l_z]
        first | (refine rg_s 6 rfl (by kernel_rfl) (fun _ _ _ h => h) HS ?_ ?_; rfl) | (refine rg_t 6 (v := ?_) rfl (by kernel_rfl) (fun _ _ _ h => h) HS ?_ ?_ ?_; rotate_left; rfl; focus (intro w hSw; (try dsimp only at hSw); go_simp; all_goals (with_reducible rfl)))
        simp only [Act.put, l_a, l_s, l_z]
        first | (refine rg_s 7 rfl (by kernel_rfl) (fun _ _ _ h => h) HS ?_ ?_; rfl) | (refine rg_t 7 (v := ?_) rfl (by kernel_rfl) (fun _ _ _ h => h) HS ?_ ?_ ?_; rotate_left; rfl; focus (intro w hSw; (try dsimp only at hSw); go_simp; all_goals (with_reducible rfl)))
        simp only [Act.put, l_a, l_s, l_z]
        first | (refine rg_s 8 rfl (by kernel_rfl) (fun _ _ _ h => h) HS ?_ ?_; rfl) | (refine rg_t 8 (v := ?_) rfl (by kernel_rfl) (fun _ _ _ h => h) HS ?_ ?_ ?_; rotate_left; rfl; focus (intro w hSw; (try dsimp only at hSw); go_simp; all_goals (with_reducible rfl)))
        simp only [Act.put, l_a, l_s, l_z]
        first | (refine rg_s 9 rfl (by kernel_rfl) (fun _ _ _ h => h) HS ?_ ?_; rfl) | (refine rg_t 9 (v := ?_) rfl (by kernel_rfl) (fun _ _ _ h => h) HS ?_ ?_ ?_; rotate_left; rfl; focus (intro w hSw; (try dsimp only at hSw); go_simp; all_goals (with_reducible rfl)))
        simp only [Act.put, l_a, l_s, l_z]
        first | (refine rg_s 10 rfl (by kernel_rfl) (fun _ _ _ h => h) HS ?_ ?_; rfl) | (refine rg_t 10 (v := ?_) rfl (by kernel_rfl) (fun _ _ _ h => h) HS ?_ ?_ ?_; rotate_left; rfl; focus (intro w hSw; (try dsimp only at hSw); go_simp; all_goals (with_reducible rfl)))
        simp only [Act.put, l_a, l_s, l_z]
        first | (refine rg_s 11 rfl (by kernel_rfl) (fun _ _ _ h => h) HS ?_ ?_; rfl) | (refine rg_t 11 (v := ?_) rfl (by kernel_rfl) (fun _ _ _ h => h) HS ?_ ?_ ?_; rotate_left; rfl; focus (intro w hSw; (try dsimp only at hSw); go_simp; all_goals (with_reducible rfl)))
        simp only [Act.put, l_a, l_s, l_z]
        first | (refine rg_s 12 rfl (by kernel_rfl) (fun _ _ _ h => h) HS ?_ ?_; rfl) | (refine rg_t 12 (v := ?_) rfl (by kernel_rfl) (fun _ _ _ h => h) HS ?_ ?_ ?_; rotate_left; rfl; focus (intro w hSw; (try dsimp only at hSw); go_simp; all_goals (with_reducible rfl)))
        simp only [Act.put, l_a, l_s, l_z]
        first | (refine rg_s 13 rfl (by kernel_rfl) (fun _ _ _ h => h) HS ?_ ?_; rfl) | (refine rg_t 13 (v := ?_) rfl (by kernel_rfl) (fun _ _ _ h => h) HS ?_ ?_ ?_; rotate_left; rfl; focus (intro w hSw; (try dsimp only at hSw); go_simp; all_goals (with_reducible rfl)))
        simp only [Act.put, l_a, l_s, l_z]
        first | (refine rg_s 14 rfl (by kernel_rfl) (fun _ _ _ h => h) HS ?_ ?_; rfl) | (refine rg_t 14 (v := ?_) rfl (by kernel_rfl) (fun _ _ _ h => h) HS ?_ ?_ ?_; rotate_left; rfl; focus (intro w hSw; (try dsimp only at hSw); go_simp; all_goals (with_reducible rfl)))
        simp only [Act.put, l_a, l_s, l_z]
        first | (refine rg_s 15 rfl (by kernel_rfl) (fun _ _ _ h => h) HS ?_ ?_; rfl) | (refine rg_t 15 (v := ?_) rfl (by kernel_rfl) (fun _ _ _ h => h) HS ?_ ?_ ?_; rotate_left; rfl; focus (intro w hSw; (try dsimp only at hSw); go_simp; all_goals (with_reducible rfl)))
        simp only [Act.put, l_a, l_s, l_z]
        first | (refine rg_s 16 rfl (by kernel_rfl) (fun _ _ _ h => h) HS ?_ ?_; rfl) | (refine rg_t 16 (v := ?_) rfl (by kernel_rfl) (fun _ _ _ h => h) HS ?_ ?_ ?_; rotate_left; rfl; focus (intro w hSw; (try dsimp only at hSw); go_simp; all_goals (with_reducible rfl)))
        simp only [Act.put, l_a, l_s, l_z]
        refine rg_build 17 [(0, _), (1, _)] rfl (by kernel_rfl) (by kernel_rfl) (by kernel_rfl) (.agg (rowA ⟨kr, vr, 0⟩)) (fun _ _ _ h => h) HS (by rfl) [(0, .string (bs kr)), (1, .string (bs vr))] rfl (fun _ => buildRwKV _ _ _) ?_
        simp only [Act.put, l_a, l_s, l_z]
        refine rl_one 18 rfl (by kernel_rfl) ?_
        refine wl_unguard (by rfl) ?_
        refine wl_sliceA1 rfl _ _ rfl 70 _ 3 40 Tryz.underlying47 infoRwZ (by decide) (by decide) (rowA ⟨kr, vr, 0⟩) rfl rfl ?_
        intro b8 w8 hb8 HBB8 hk8
        have HK8 := HK0.trans hk8
        have hO8 := (isOwnA.new HOWN.out (Keeps.refl wr (fun _ => False)).drew).new hk8
        refine till_nil ⟨HSF.out _ HK8, ?_⟩
        simp only [Act.put, l_a, l_s, l_z]
        refine rl_one 19 rfl (by kernel_rfl) ?_
        refine wl_unguard (by rfl) ?_
        refine wl_appendA rfl _ _ 47 rfl 70 _ 3 40 Tryz.underlying47 infoRwZ rfl (by decide) w0.heap.size (.slice a m c) (rowsA (rowsKV (addQ 0 out nd.2 k n q))) rfl hO8 b8 (rowA ⟨kr, vr, 0⟩) rfl HBB8 rfl (rowA_one _) (by have := HROOM.out; unfold maxLen; omega) (by have := HROOM.out; omega) HK8.size ?_
        intro v9 w9 hap
        have HK9 : Keeps w0 w9 (fun _ => False) := HK8.then hap.2.1 (fun j hj e => by have := (hO8.blk j e).1; omega)
        have HO9 := hap.1
        rw [← rowsKV_snoc, ← HNEXT.out] at HO9
        obtain ⟨a9, m9, c9, rfl, hrel9⟩ := AddRel.mk' HO9 HK9
        have HREL9 := Lib.hid hrel9
        have HS9 := HSF.out _ HK9
        refine till_nil ⟨HS9, ?_⟩
        simp only [Act.put, l_a, l_s, l_z]
        first | (refine rg_s 20 rfl (by kernel_rfl) (fun _ _ _ h => h) HS9 ?_ ?_; rfl) | (refine rg_t 20 (v := ?_) rfl (by kernel_rfl) (fun _ _ _ h => h) HS9 ?_ ?_ ?_; rotate_left; rfl; focus (intro w hSw; (try dsimp only at hSw); go_simp; all_goals (with_reducible rfl)))
        simp only [Act.put, l_a, l_s, l_z]
        refine wpAnyH_done (by kernel_rfl) ?_ _
        clear hrel9 HO9 HK9 hap hO8 HBB8 hb8 hk8 HK8 HK0 HS HS9 c1 c2 c3
        go_wp2_with fail
        go_roundw
        case rel => exact ⟨q + 1, a9, m9, c9, by have := HIQ.out; omega, HLT.out, rfl, by go_num, HREL9⟩
        case measure => have := HLT.out; simp [intOf]; omega
      · as_aux_lemma =>
        have hmb : decide ((m : Int) < nI) = false := decide_eq_false hmn
        have HPO := Lib.hid (HDONE.out (.inr (Nat.not_lt.1 fun h => hmn ((addInt n nI HNI.out m).2 h))))
        clear HDONE hmn
        go_wp2_with fail
        go_ret
        exact HPO.out
    · as_aux_lemma =>
      have hlb : decide ((q : Int) < (N : Int)) = false := by simp; omega
      have hlbn : decide (q < N) = false := by simp; omega
      have HPO := Lib.hid (HDONE.out (.inl (by omega)))
      clear HDONE hlt
      go_wp2_with fail
      go_ret
      exact HPO.out
set_option maxRecDepth 100000 in
set_option maxHeartbeats 4000000 in
theorem addI_calls (k : Nm) (nI : Int) (n : Nat) (hn : n = nI.toNat) (d : Nat) (w0 : World) (X : Nat → Prop)
    (ih : ∀ (nd : Nd d) (b : Nat), isK w0 X d nd b → Ord d nd.2 → Fit d nd.2 → (nd.2 ≠ [] ∨ d = 0) → ∀ (w : World) (v : Value) (out : KVs), Keeps w0 w (fun _ => False) → isOwnA w w0.heap.size 70 3 v (rowsA (rowsKV out)) → out.length + (flat d nd.2).length ≤ 1000000 →
      Calls Tryz.prog 47 #[.pointer (some ⟨b, 0, none⟩), v, .string (bs k), .int .i64 nI] w (AddPost w0 (addM out (fromL (flat d nd.2) k) n)))
    (nd : Nd (d + 1)) (b : Nat) (h : isK w0 X (d + 1) nd b) (ho : Ord (d + 1) nd.2) (hf : Fit (d + 1) nd.2) (hne : nd.2 ≠ []) (w : World) (v : Value) (out : KVs) (hkw : Keeps w0 w (fun _ => False)) (hown : isOwnA w w0.heap.size 70 3 v (rowsA (rowsKV out))) (hbd : out.length + (flat (d + 1) nd.2).length ≤ 1000000) :
    Calls Tryz.prog 47 #[.pointer (some ⟨b, 0, none⟩), v, .string (bs k), .int .i64 nI] w (AddPost w0 (addM out (fromL (flat (d + 1) nd.2) k) n)) := by
  obtain ⟨rs, ks, hkn, hrok, hkl, hkids⟩ := h
  obtain ⟨rv, kv, hb, hrw, hkd⟩ := hkn.ex
  have hl9 := fit_len hf
  have hlen := hrok.len
  have hks : (rs.map (·.key)).Pairwise (· < ·) := by rw [hrok.keys, List.pairwise_map]; exact ho.keys
  have hfi := findI_inner hrok ho.keys k
  obtain ⟨⟨ad, cap, rfl, hcap, hrd⟩, _⟩ := id hrw
  obtain ⟨⟨ad2, cap2, rfl, hcap2, hrd2⟩, _⟩ := id hkd
  obtain ⟨N, hN⟩ : ∃ N, N = (rowsA rs).length := ⟨_, rfl⟩
  have hNl : N = nd.2.length := by rw [hN, rowsA_len, hlen]
  obtain ⟨N2, hN2⟩ : ∃ N2, N2 = (ks.map ptrV).length := ⟨_, rfl⟩
  have HNN2 : Hid (N2 = N) := Lib.hid (by rw [hN2, List.length_map, hkl, hNl])
  obtain ⟨i0, hi⟩ : ∃ i0, i0 = idx nd.2 k := ⟨_, rfl⟩
  obtain ⟨th, hth⟩ : ∃ th, th = hasK (rs.map (·.key)) k := ⟨_, rfl⟩
  rw [← hN, ← hN2] at hb
  have HFIND : Hid (∀ (W : World), Keeps w0 W (fun _ => False) → Calls Tryz.prog 48 #[.agg (nodeA false (.slice ad N cap)), .string (bs k)] W (Quiet W (.tuple #[.int .i64 i0, .bool th]))) := Lib.hid fun W hkk => by
    have := find_calls W false (.slice ad (rowsA rs).length cap) rs k (hrw.1.new hkk) hks (by omega)
    rw [← hth, ← hN, hfi, ← hi] at this
    exact this
  have HB := hb
  have HKIDS : Hid (∀ (j : Nat) (r : Row (d + 1)), nd.2[j]? = some r → ∃ x g2 o2, ad2 = some ⟨g2, o2, none⟩ ∧ w0.cell? ⟨g2, o2 + j, none⟩ = some (.pointer (some ⟨x, 0, none⟩)) ∧ isK w0 X d (kidR r) x) := Lib.hid fun j r hr => by
    have hx : ks[j]? = some (ks[j]'(by have := (List.getElem?_eq_some_iff.1 hr).1; omega)) := List.getElem?_eq_getElem _
    obtain ⟨g2, o2, e, _, hc⟩ := hrd2 j (ptrV _) (by rw [List.getElem?_map, hx]; rfl)
    exact ⟨_, g2, o2, e, hc, hkids j r _ hr hx⟩
  have HNL := Lib.hid hNl
  have hNi : (N : Int) ≤ 1000 := by omega
  obtain ⟨hq0, hq1⟩ := from_inner k ho hne
  have HI0 : Hid (i0 ≤ N) := Lib.hid (by rw [hi, hNl]; exact hq1)
  have HQ0 : Hid (addQ (d + 1) out nd.2 k n i0 = out) := Lib.hid (by unfold addQ; rw [hi, hq0, addM_nil])
  have HO := Lib.hid ho
  have HF := Lib.hid hf
  have HIH := Lib.hid ih
  have HBD := Lib.hid hbd
  have HNI := Lib.hid hn
  have hi00 : (0 : Int) ≤ i0 := by omega
  clear hb hrw hrd hrd2 hcap hcap2 hkd hks hkn hrok hlen hl9 hi hth hN hN2 hNl ho hf hbd hn hkl hkids hfi hq0 hq1 hne ih
  have HFL : Hid (∀ (W : World), Keeps w0 W (fun _ => False) → Calls Tryz.prog 48 #[.agg (nodeA false (.slice ad N cap)), .string (bs k)] W (Quiet W (.tuple #[.int .i64 i0, .bool th]))) := HFIND
  obtain ⟨id0, hid0⟩ : ∃ z, z = nd.1 := ⟨_, rfl⟩
  rw [← hid0] at HB
  have HBH := Lib.hid HB
  have hbw := hkw.blk HB (fun h => h)
  have HKW := Lib.hid hkw
  have HOWN := Lib.hid hown
  obtain ⟨av, mv, cv, rfl, hrel0⟩ := AddRel.mk' (w0 := w0) (d := (d + 1)) (out := out) (l := nd.2) (k := k) (n := n) (q := i0) (v := v) (wr := w) (by rw [HQ0.out]; exact hown) hkw
  have HREL0 := Lib.hid hrel0
  have HC : Hid (∀ (W : World), Keeps w0 W (fun _ => False) → W.cell? ⟨b, 1, none⟩ = some (.bool false) ∧ W.cell? ⟨b, 2, none⟩ = some (.slice ad N cap) ∧ W.cell? ⟨b, 3, none⟩ = some (.slice ad2 N2 cap2)) := Lib.hid fun W hk => by
    have h9 := hk.blk HBH.out (fun h => h)
    exact ⟨by rw [cell_of_block h9]; rfl, by rw [cell_of_block h9]; rfl, by rw [cell_of_block h9]; rfl⟩
  clear hid0 HB HFIND hkw hown hrel0
  go_enter Tryz.func47, Tryz.ntmps47
  go_wp2_with fail
  refine (asNode_calls w b id0 false _ _ _ _ hbw).mono ?_
  rintro e w1 ⟨rfl, hk1⟩
  have HK1 := Lib.hid (HKW.out.trans hk1)
  have HOK1 : Hid (∃ a m c, Value.slice av mv cv = .slice a m c ∧ AddRel w0 (d + 1) out nd.2 k n i0 a m c w1) := Lib.hid ⟨av, mv, cv, rfl, HREL0.out.1, HREL0.out.2.1.new hk1, HK1.out⟩
  clear hk1 hbw
  go_wp2_with fail
  refine (HFL.out w1 HK1.out).mono ?_
  rintro e w2 ⟨rfl, hk2⟩
  have HREL2 : Hid (AddRel w0 (d + 1) out nd.2 k n i0 av mv cv w2) := Lib.hid ⟨HREL0.out.1, by
    obtain ⟨a, m, c, e, h⟩ := HOK1.out
    injection e with e1 e2 e3
    subst e1 e2 e3
    exact h.2.1.new hk2, HK1.out.trans hk2⟩
  clear hk2
  go_wp2_with fail
  go_loopw [1, 9] (fun v1 v9 wr => ∃ (q : Nat) (a : Option Addr) (m c : Nat), i0 ≤ q ∧ q ≤ N ∧ v1 = .slice a m c ∧ v9 = .int .i64 q ∧ Hid (AddRel w0 (d + 1) out nd.2 k n q a m c wr)) (fun _ v9 _ => N - (intOf v9).toNat)
  case atStart => exact ⟨i0, av, mv, cv, Nat.le_refl _, HI0.out, rfl, rfl, HREL2⟩
  case round =>
    clear HREL0 HREL2 HOK1 HK1
    obtain ⟨q, a, m, c, hiq, hqN, rfl, rfl, hrel⟩ := hrel
    obtain ⟨hm, hown, hkr⟩ := hrel.out
    obtain ⟨c1, c2, c3⟩ := HC.out wr hkr
    have HM := Lib.hid hm
    have HOWN := Lib.hid hown
    have HKR := Lib.hid hkr
    have HIQ := Lib.hid hiq
    have HQN := Lib.hid hqN
    clear hrel hm hown hkr
    have HDONE : Hid (N ≤ q ∨ n ≤ m → AddPost w0 (addM out (fromL (flat (d + 1) nd.2) k) n) (.returned (.slice a m c)) wr) := Lib.hid fun h => ⟨_, rfl, by rw [← addQ_end (q := q) (h.imp (fun h => by rw [← HNL.out]; exact h) (fun h => by rw [← HM.out]; exact h))]; exact HOWN.out, HKR.out⟩
    by_cases hlt : q < N
    · have hlb : decide ((q : Int) < (N : Int)) = true := by simp; omega
      have hlbn : decide (q < N) = true := by simp; omega
      have hq0 : (0 : Int) ≤ q := by omega
      have hqNi : (q : Int) < N := by omega
      have HLT := Lib.hid hlt
      obtain ⟨r, hr⟩ : ∃ r, nd.2[q]? = some r := ⟨_, List.getElem?_eq_getElem (by rw [← HNL.out]; exact hlt)⟩
      have HR := Lib.hid hr
      clear hlt hr
      by_cases hmn : (m : Int) < nI
      · as_aux_lemma =>
        have hmb : decide ((m : Int) < nI) = true := decide_eq_true hmn
        have HMN : Hid (m < n) := Lib.hid ((addInt n nI HNI.out m).1 hmn)
        obtain ⟨x, g2, o2, rfl, hcx, hkid⟩ := HKIDS.out q r HR.out
        have cx : wr.cell? ⟨g2, o2 + q, none⟩ = some (.pointer (some ⟨x, 0, none⟩)) := Keeps.cellK HKR.out hcx
        have HN2 := HNN2.out
        subst HN2
        have HNEXT : Hid (addQ (d + 1) out nd.2 k n (q + 1) = addM (addQ (d + 1) out nd.2 k n q) (fromL (flat d (kidR r).2) k) n) := Lib.hid (by
          rw [addQ_next HR.out, flat_one])
        have HCALL : Hid (Calls Tryz.prog 47 #[.pointer (some ⟨x, 0, none⟩), .slice a m c, .string (bs k), .int .i64 nI] wr (AddPost w0 (addQ (d + 1) out nd.2 k n (q + 1)))) := Lib.hid (by
          rw [HNEXT.out]
          obtain ⟨h1, h2, h3⟩ := HO.out.1 r (List.mem_of_getElem? HR.out)
          refine HIH.out (kidR r) x hkid h2 (fit_kid HF.out (List.mem_of_getElem? HR.out)) (.inl h1) wr (.slice a m c) _ HKR.out HOWN.out ?_
          have h4 := addQ_len out nd.2 k n q
          have h5 := flat_take_len HR.out
          rw [flat_one] at h5
          have h6 := HBD.out
          omega)
        clear hmn hcx hkid HDONE
        go_wp2_with fail
        refine HCALL.out.mono ?_
        rintro e w3 ⟨v3, rfl, ho3, hk3⟩
        obtain ⟨a9, m9, c9, rfl, hrel9⟩ := AddRel.mk' ho3 hk3
        have HREL9 := Lib.hid hrel9
        clear ho3 hk3 hrel9 c1 c2 c3 cx HCALL
        go_wp2_with fail
        go_roundw
        case rel => exact ⟨q + 1, a9, m9, c9, by have := HIQ.out; omega, HLT.out, rfl, by go_num, HREL9⟩
        case measure => have := HLT.out; simp [intOf]; omega
      · as_aux_lemma =>
        have hmb : decide ((m : Int) < nI) = false := decide_eq_false hmn
        have HPO := Lib.hid (HDONE.out (.inr (Nat.not_lt.1 fun h => hmn ((addInt n nI HNI.out m).2 h))))
        clear HDONE hmn
        go_wp2_with fail
        go_ret
        exact HPO.out
    · as_aux_lemma =>
      have hlb : decide ((q : Int) < (N : Int)) = false := by simp; omega
      have hlbn : decide (q < N) = false := by simp; omega
      have HPO := Lib.hid (HDONE.out (.inl (by omega)))
      clear HDONE hlt
      go_wp2_with fail
      go_ret
      exact HPO.out
theorem add_calls (k : Nm) (nI : Int) (n : Nat) (hn : n = nI.toNat) (w0 : World) (X : Nat → Prop) : ∀ (d : Nat) (nd : Nd d) (b : Nat), isK w0 X d nd b → Ord d nd.2 → Fit d nd.2 → (nd.2 ≠ [] ∨ d = 0) → ∀ (w : World) (v : Value) (out : KVs), Keeps w0 w (fun _ => False) → isOwnA w w0.heap.size 70 3 v (rowsA (rowsKV out)) → out.length + (flat d nd.2).length ≤ 1000000 →
      Calls Tryz.prog 47 #[.pointer (some ⟨b, 0, none⟩), v, .string (bs k), .int .i64 nI] w (AddPost w0 (addM out (fromL (flat d nd.2) k) n))
  | 0, nd, b, h, ho, hf, _, w, v, out, hkw, hown, hbd => addL_calls k nI n hn w0 X nd b h ho hf w v out hkw hown hbd
  | d + 1, nd, b, h, ho, hf, hne, w, v, out, hkw, hown, hbd => addI_calls k nI n hn d w0 X (add_calls k nI n hn w0 X d) nd b h ho hf (hne.elim id (fun e => by cases e)) w v out hkw hown hbd
def rowsOut (F : KVs) (k : Nm) (n : Nat) : KVs := (fromL F k).take n
def TRows (w : World) (l : KVs) (e : Ending) (w' : World) : Prop :=
  ∃ v, e = .returned (.tuple #[v, .int .i64 0]) ∧ isOwnA w' w.heap.size 70 3 v (rowsA (rowsKV l)) ∧ Keeps w w' (fun _ => False)
set_option maxRecDepth 100000 in
set_option maxHeartbeats 2000000 in
theorem rows_calls (w : World) (X : Nat → Prop) (t f : Nat) (root kept : Root) (count had : Nat) (h : isTree w X t f root kept count had) (hok : RootOk root) (k : Nm) (nI : Int) (n : Nat) (hn : n = nI.toNat) (hbd : (flatT root).length ≤ 1000000) :
    Calls Tryz.prog 21 #[.pointer (some ⟨t, 0, none⟩), .string (bs k), .int .i64 nI] w (TRows w (rowsOut (flatT root) k n)) := by
  obtain ⟨rv, kv, hb, hr, _⟩ := h.ex
  have c1 : w.cell? ⟨t, 1, none⟩ = some rv := by rw [cell_of_block hb]; rfl
  match root, hok, hr, hbd with
  | none, _, hr, _ =>
    have hr : rv = .pointer none := hr
    subst hr
    have HPO : Hid (TRows w (rowsOut (flatT none) k n) (.returned (.tuple #[.slice none 0 0, .int .i64 0])) w) := Lib.hid ⟨_, rfl, by
      have : rowsOut (flatT none) k n = [] := by show List.take n [] = []; simp
      rw [this]; exact isOwnA_nil _ _ _ _, Keeps.refl _ _⟩
    clear hb h
    go_enter Tryz.func21, Tryz.ntmps21
    go_wp2_with fail
    go_ret2
    exact HPO.out
  | some ⟨d0, n0⟩, hok, hr, hbd =>
    obtain ⟨b0, rfl, hk0⟩ := hr
    have hc := add_calls k nI n hn w (But X t) d0 n0 b0 hk0 hok.1 hok.2.1 (hok.2.2.elim (fun h => .inr h.1) (fun h => .inl (fun e => by have e : n0.2 = [] := e; rw [e] at h; simp at h))) w (.slice none 0 0) [] (Keeps.refl _ _) (isOwnA_nil _ _ _ _) (by rw [List.length_nil, Nat.zero_add]; exact hbd)
    have e : addM [] (fromL (flat d0 n0.2) k) n = rowsOut (flatT (some ⟨d0, n0⟩)) k n := rfl
    rw [e] at hc
    obtain ⟨L, hL⟩ : ∃ L, L = rowsOut (flatT (some ⟨d0, n0⟩)) k n := ⟨_, rfl⟩
    rw [← hL] at hc ⊢
    have HC := Lib.hid hc
    clear hb h hk0 hok hbd hc e hL hn
    go_enter Tryz.func21, Tryz.ntmps21
    go_wp2_with fail
    refine HC.out.mono ?_
    rintro e w3 ⟨v3, rfl, ho3, hk3⟩
    have HPO : Hid (TRows w L (.returned (.tuple #[v3, .int .i64 0])) w3) := Lib.hid ⟨_, rfl, ho3, hk3⟩
    clear ho3 hk3
    go_wp2_with fail
    go_ret2
    exact HPO.out
end Go.Proofs.YtblpkifkaoaicaaGreat
