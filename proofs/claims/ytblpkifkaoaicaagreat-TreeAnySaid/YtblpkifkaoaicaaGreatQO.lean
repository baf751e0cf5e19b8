/- Lemmas and contracts of functions, joined. -/
import Derived.Test.YtblpkifkaoaicaaGreatQN
import Derived.Test.YtblpkifkaoaicaaGreatYK23
import Derived.Test.YtblpkifkaoaicaaGreatQY
import Derived.Test.YtblpkifkaoaicaaGreatQV
namespace Go.Proofs.YtblpkifkaoaicaaGreat
open Go Go.RowKit Go.Maps Wb

def nI (l : List Nat) : List Int := l.map fun (n : Nat) => (n : Int)
def idV (l : List Nat) : List Value := (nI l).map (Value.int .i64)
theorem idV_len (l : List Nat) : (idV l).length = l.length := by simp [idV, nI]
theorem idV_app (a b : List Nat) : idV (a ++ b) = idV a ++ idV b := by simp [idV, nI]
theorem info_int24 : (Tryz.prog.info? 3).map (fun i => (i.zero, i.size, i.bytes)) = some (some (.int .i64 0), 1, 8) := by kernel_rfl
/-- The pages of a node and all below it. -/
def idsN : (d : Nat) → Nd d → List Nat
  | 0, n => [n.1]
  | d + 1, n => n.1 :: (n.2.map fun r => idsN d (kidR r)).flatten
def PgPost (w0 : World) (out : List Nat) (e : Ending) (w' : World) : Prop :=
  ∃ v', e = .returned v' ∧ isOwn w' w0.heap.size 3 v' (idV out) ∧ Keeps w0 w' (fun _ => False)
def PgRel (w0 : World) (out : List Nat) (a : Option Addr) (m c : Nat) (wr : World) : Prop :=
  m = out.length ∧ isOwn wr w0.heap.size 3 (.slice a m c) (idV out) ∧ Keeps w0 wr (fun _ => False)
theorem PgRel.mk' {w0 : World} {out : List Nat} {v : Value} {wr : World} (h : isOwn wr w0.heap.size 3 v (idV out)) (hk : Keeps w0 wr (fun _ => False)) : ∃ a m c, v = .slice a m c ∧ PgRel w0 out a m c wr := by
  obtain ⟨a, c, e⟩ := isOwn.shapeN h
  rw [idV_len] at e
  exact ⟨a, _, c, e, rfl, by rw [← e]; exact h, hk⟩
theorem flat_take_le {L : List (List Nat)} {q : Nat} {l : List Nat} (h : L[q]? = some l) : (L.take q).flatten.length + l.length ≤ L.flatten.length ∧ (L.take (q + 1)).flatten = (L.take q).flatten ++ l := by
  have e : (L.take (q + 1)).flatten = (L.take q).flatten ++ l := by rw [take_snoc h]; simp
  have h2 : L.flatten = (L.take (q + 1)).flatten ++ (L.drop (q + 1)).flatten := by rw [← List.flatten_append, List.take_append_drop]
  refine ⟨?_, e⟩
  rw [h2, e]
  simp only [List.length_append]
  omega
set_option maxRecDepth 100000 in
set_option maxHeartbeats 4000000 in
theorem pagesG_calls (w0 : World) (X : Nat → Prop) (b pg : Nat) (leaf : Bool) (rs : List Rw) (ks : List Nat) (h : KN w0 X b pg leaf rs ks) (L : List (List Nat)) (hL : L.length = ks.length) (hkn : ks.length ≤ 1000)
    (hk : ∀ (i : Nat) x l, ks[i]? = some x → L[i]? = some l → ∀ (w : World) (v : Value) (out : List Nat), Keeps w0 w (fun _ => False) → isOwn w w0.heap.size 3 v (idV out) → out.length + l.length ≤ 1000000 → Calls Tryz.prog 45 #[.pointer (some ⟨x, 0, none⟩), v] w (PgPost w0 (out ++ l)))
    (w : World) (v : Value) (out : List Nat) (hkw : Keeps w0 w (fun _ => False)) (hown : isOwn w w0.heap.size 3 v (idV out)) (hbd : out.length + (1 + L.flatten.length) ≤ 1000000) :
    Calls Tryz.prog 45 #[.pointer (some ⟨b, 0, none⟩), v] w (PgPost w0 (out ++ pg :: L.flatten)) := by
  obtain ⟨rv, kv, hb, hrw, hkd⟩ := h.ex
  obtain ⟨⟨ad2, cap2, rfl, hcap2, hrd2⟩, _⟩ := id hkd
  obtain ⟨M, hM⟩ : ∃ M, M = (ks.map ptrV).length := ⟨_, rfl⟩
  have hMk : M = ks.length := by rw [hM, List.length_map]
  rw [← hM] at hb
  obtain ⟨⟨ad, cap, rfl, _, _⟩, _⟩ := id hrw
  obtain ⟨N, hN⟩ : ∃ N, N = (rowsA rs).length := ⟨_, rfl⟩
  rw [← hN] at hb
  have HC : Hid (∀ (W : World), Keeps w0 W (fun _ => False) → W.cell? ⟨b, 0, none⟩ = some (.int .i64 pg) ∧ W.cell? ⟨b, 3, none⟩ = some (.slice ad2 M cap2)) := Lib.hid fun W hk => by
    have h9 := hk.blk hb (fun h => h)
    exact ⟨by rw [cell_of_block h9]; rfl, by rw [cell_of_block h9]; rfl⟩
  have HKIDS : Hid (∀ (j : Nat), j < M → ∃ x l g2 o2, ad2 = some ⟨g2, o2, none⟩ ∧ w0.cell? ⟨g2, o2 + j, none⟩ = some (.pointer (some ⟨x, 0, none⟩)) ∧ ks[j]? = some x ∧ L[j]? = some l) := Lib.hid fun j hj => by
    have hx : ks[j]? = some (ks[j]'(by omega)) := List.getElem?_eq_getElem _
    have hl : L[j]? = some (L[j]'(by omega)) := List.getElem?_eq_getElem _
    obtain ⟨g2, o2, e, _, hc⟩ := hrd2 j (ptrV _) (by rw [List.getElem?_map, hx]; rfl)
    exact ⟨_, _, g2, o2, e, hc, hx, hl⟩
  have HK := Lib.hid hk
  have HLL : Hid (L.length = M) := Lib.hid (by omega)
  have HBD := Lib.hid hbd
  have hMi : (M : Int) ≤ 1000 := by omega
  have hM0 : (0 : Int) ≤ M := by omega
  obtain ⟨a0, m0, p0, rfl, hr0⟩ := PgRel.mk' hown hkw
  have HR0 := Lib.hid hr0
  have HM0 : Hid (m0 = out.length) := Lib.hid hr0.1
  have HOW := Lib.hid hown
  have HKW := Lib.hid hkw
  obtain ⟨c0, c3⟩ := HC.out w hkw
  clear h hb hrw hkd hrd2 hcap2 hM hMk hN hk hL hkn hown hkw hbd hr0
  go_enter Tryz.func45, Tryz.ntmps45
  go_wp2_with (first
    | (refine wl_slice1 rfl _ _ rfl 3 _ 8 Tryz.underlying22 info_int24 rfl (.int .i64 pg) rfl rfl ?_; intro bb w3 hbb HB3 HK3)
    | (at_builtin; refine wl_appendN rfl _ _ 22 rfl 3 _ 8 Tryz.underlying22 info_int24 rfl w0.heap.size (.slice a0 m0 p0) (idV out) rfl (HOW.out.new HK3) _ [.int .i64 pg] rfl (isVals_one (ok := fun _ => True) HB3 trivial).rd (fun _ h => by cases h) (by simp; rfl) (by rw [idV_len]; have := HBD.out; simp [maxLen]; omega) (by rw [idV_len]; have := HBD.out; simp; omega) (Nat.le_trans HKW.out.size HK3.size) ?_; intro v4 w4 hap; have HK4 : Keeps w0 w4 (fun _ => False) := (HKW.out.trans HK3).then hap.2.1 (fun j hj e => by have := ((HOW.out.new HK3).blk j e).1; omega); obtain ⟨d0, d3⟩ := HC.out w4 HK4; have HO4 : isOwn w4 w0.heap.size 3 v4 (idV (out ++ [pg])) := (by rw [idV_app]; exact hap.1); obtain ⟨a4, m4, p4, rfl, hr4⟩ := PgRel.mk' HO4 HK4; have HR4 := Lib.hid hr4; clear hr4 HO4 HK4 hap HB3 hbb)
    | fail)
  clear HR0 HOW HKW c0 c3
  go_loopw [1, 22] (fun v1 v22 wr => ∃ (q : Nat) (a : Option Addr) (m c : Nat), q ≤ M ∧ v1 = .slice a m c ∧ v22 = .int .i64 q ∧ Hid (PgRel w0 ((out ++ [pg]) ++ (L.take q).flatten) a m c wr)) (fun _ v22 _ => M - (intOf v22).toNat)
  case atStart => exact ⟨0, a4, m4, p4, Nat.zero_le _, rfl, rfl, Lib.hid (by simpa using HR4.out)⟩
  case round =>
    clear HR4
    obtain ⟨q, a, m, c, hqM, rfl, rfl, hrel⟩ := hrel
    by_cases hlt : q < M
    · as_aux_lemma =>
      have hlb : decide ((q : Int) < (M : Int)) = true := by simp; omega
      have hlbn : decide (q < M) = true := by simp; omega
      have hq0 : (0 : Int) ≤ q := by omega
      have hqMi : (q : Int) < M := by omega
      obtain ⟨x, l, g2, o2, rfl, hcx, hx, hl⟩ := HKIDS.out q hlt
      have cx := Keeps.cellK hrel.out.2.2 hcx
      obtain ⟨hf1, hf2⟩ := flat_take_le hl
      have HCALL : Hid (Calls Tryz.prog 45 #[.pointer (some ⟨x, 0, none⟩), .slice a m c] _ (PgPost w0 ((out ++ [pg]) ++ (L.take (q + 1)).flatten))) := Lib.hid (by
        have := HK.out q x l hx hl _ (.slice a m c) ((out ++ [pg]) ++ (L.take q).flatten) hrel.out.2.2 hrel.out.2.1 (by have := HBD.out; simp only [List.length_append, List.length_singleton]; omega)
        rw [hf2, ← List.append_assoc]
        exact this)
      have HLT := Lib.hid hlt
      clear hcx hx hl hf1 hf2 hlt hrel
      go_wp2_with fail
      refine HCALL.out.mono ?_
      rintro e w5 ⟨v5, rfl, ho5, hk5⟩
      obtain ⟨a5, m5, c5, rfl, hr5⟩ := PgRel.mk' ho5 hk5
      have HR5 := Lib.hid hr5
      clear ho5 hk5 hr5 cx HCALL
      go_wp2_with fail
      go_roundw
      case rel => exact ⟨q + 1, a5, m5, c5, HLT.out, rfl, by go_num, HR5⟩
      case measure => have := HLT.out; simp [intOf]; omega
    · as_aux_lemma =>
      obtain rfl : q = M := by omega
      have hlb : decide ((q : Int) < (q : Int)) = false := by simp
      have hlbn : decide (q < q) = false := by simp
      have HPO : Hid (PgPost w0 (out ++ pg :: L.flatten) (.returned (.slice a m c)) _) := Lib.hid ⟨_, rfl, by
        have := hrel.out.2.1
        rw [List.take_of_length_le (by rw [HLL.out]; exact Nat.le_refl _)] at this
        simpa using this, hrel.out.2.2⟩
      clear hrel hlt
      go_wp2_with fail
      go_ret
      exact HPO.out
theorem knPages_calls (w0 : World) (X : Nat → Prop) : ∀ (d : Nat) (nd : Nd d) (b : Nat), isK w0 X d nd b → Fit d nd.2 → ∀ (w : World) (v : Value) (out : List Nat), Keeps w0 w (fun _ => False) → isOwn w w0.heap.size 3 v (idV out) → out.length + (idsN d nd).length ≤ 1000000 →
    Calls Tryz.prog 45 #[.pointer (some ⟨b, 0, none⟩), v] w (PgPost w0 (out ++ idsN d nd))
  | 0, nd, b, ⟨rs, h, _⟩, hf, w, v, out, hkw, hown, hbd => by
    have := pagesG_calls w0 X b nd.1 true rs [] h [] rfl (by simp) (fun i x l hx => by cases hx) w v out hkw hown (by simpa [idsN] using hbd)
    simpa [idsN] using this
  | d + 1, nd, b, ⟨rs, ks, h, hr, hl, hk⟩, hf, w, v, out, hkw, hown, hbd => by
    have := pagesG_calls w0 X b nd.1 false rs ks h (nd.2.map fun r => idsN d (kidR r)) (by rw [List.length_map, hl]) (by rw [hl]; exact fit_len hf) (fun i x l hx hi w v out hkw hown hbd => by
      rw [List.getElem?_map, Option.map_eq_some_iff] at hi
      obtain ⟨r, hr, rfl⟩ := hi
      exact knPages_calls w0 X d (kidR r) x (hk i r x hr hx) (fit_kid hf (List.mem_of_getElem? hr)) w v out hkw hown hbd) w v out hkw hown (by
        have e : (idsN (d + 1) nd).length = 1 + (nd.2.map fun r => idsN d (kidR r)).flatten.length := by show (_ :: _).length = _; rw [List.length_cons, Nat.add_comm]
        rw [e] at hbd; exact hbd)
    exact this
def idsR : Root → List Nat
  | none => []
  | some ⟨d, n⟩ => idsN d n
def PagesPost (w : World) (l : List Nat) (e : Ending) (w' : World) : Prop :=
  ∃ v, e = .returned (.tuple #[v, .int .i64 0]) ∧ isOwn w' w.heap.size 3 v ((sortN (nI l)).map (Value.int .i64)) ∧ Keeps w w' (fun _ => False)
set_option maxRecDepth 100000 in
theorem pagesNil_calls (w : World) (v : Value) : Calls Tryz.prog 45 #[.pointer none, v] w fun e w' => e = .returned v ∧ w = w' := by
  go_enter Tryz.func45, Tryz.ntmps45
  go_wp2_with fail
  go_ret
  exact ⟨rfl, rfl⟩
theorem pagesR_calls (w : World) (X : Nat → Prop) (t : Root) (v : Value) (h : isRoot w X t v) (hok : RootOk t) (hbd : (idsR t).length ≤ 1000000) :
    Calls Tryz.prog 45 #[v, .slice none 0 0] w (PgPost w (idsR t)) := by
  match t, h, hok with
  | none, h, _ =>
    have h : v = .pointer none := h
    subst h
    refine (pagesNil_calls w _).mono ?_
    rintro e w' ⟨rfl, rfl⟩
    exact ⟨_, rfl, isOwn_nil _ _ _, Keeps.refl _ _⟩
  | some ⟨d, n⟩, ⟨b, hv, hb⟩, hok =>
    subst hv
    have := knPages_calls w X d n b hb hok.2.1 w (.slice none 0 0) [] (Keeps.refl _ _) (isOwn_nil _ _ _) (by rw [List.length_nil, Nat.zero_add]; exact hbd)
    rw [List.nil_append] at this
    exact this
set_option maxRecDepth 100000 in
set_option maxHeartbeats 2000000 in
theorem treePages_calls (w : World) (X : Nat → Prop) (t f : Nat) (root kept : Root) (count had : Nat) (h : isTree w X t f root kept count had) (hok : RootOk kept) (hbd : (idsR kept).length ≤ 1000000) :
    Calls Tryz.prog 20 #[.pointer (some ⟨t, 0, none⟩)] w (PagesPost w (idsR kept)) := by
  obtain ⟨rv, kv, hb, _, hk⟩ := h.ex
  obtain ⟨o, rfl⟩ := hk.shape
  have c2 : w.cell? ⟨t, 2, none⟩ = some (.pointer o) := by rw [cell_of_block hb]; rfl
  have HP := Lib.hid (pagesR_calls w (But X t) kept _ hk hok hbd)
  have HL : Hid ((nI (idsR kept)).length ≤ 1000000) := Lib.hid (by simpa [nI] using hbd)
  obtain ⟨l, hl⟩ : ∃ l, l = idsR kept := ⟨_, rfl⟩
  rw [← hl] at HP HL ⊢
  clear hb hk h hok hbd hl
  go_enter Tryz.func20, Tryz.ntmps20
  go_wp2_with fail
  refine HP.out.mono ?_
  rintro e w3 ⟨v3, rfl, ho3, hk3⟩
  have HS := Lib.hid (sortI_calls w3 w.heap.size 3 v3 (nI l) ho3 HL.out)
  have HO3 := Lib.hid ho3
  have HK3 := Lib.hid hk3
  clear ho3 hk3
  go_wp2_with fail
  refine HS.out.mono ?_
  rintro e w4 ⟨rfl, ho4, hk4⟩
  have HPO : Hid (PagesPost w l (.returned (.tuple #[v3, .int .i64 0])) w4) := Lib.hid ⟨_, rfl, ho4, HK3.out.then hk4 (fun i hi e => by have := (HO3.out.blk i e).1; omega)⟩
  clear ho4 hk4
  go_wp2_with fail
  go_ret2
  exact HPO.out
end Go.Proofs.YtblpkifkaoaicaaGreat

namespace Wb
open Go
def Bt : Nat → Type
  | 0 => Nat
  | d + 1 => Nat × List (Bt d)
def rootB : {d : Nat} → Bt d → Nat
  | 0, b => b
  | _ + 1, t => t.1
def kidsB {d : Nat} (t : Bt (d + 1)) : List (Bt d) := t.2
def blocksB : (d : Nat) → Bt d → List Nat
  | 0, b => [b]
  | d + 1, t => rootB t :: ((kidsB t).map fun x => blocksB d x).flatten
theorem list_choose {α β γ : Type} (P : α → β → γ → Prop) : ∀ (l : List α) (m : List β), m.length = l.length → (∀ (i : Nat) a b, l[i]? = some a → m[i]? = some b → ∃ c, P a b c) → ∃ cs : List γ, cs.length = l.length ∧ ∀ (i : Nat) a b c, l[i]? = some a → m[i]? = some b → cs[i]? = some c → P a b c
  | [], _, _, _ => ⟨[], rfl, fun i a b c h => by cases h⟩
  | a :: l, [], h, _ => by cases h
  | a :: l, b :: m, h, hp => by
    obtain ⟨cs, h1, h2⟩ := list_choose P l m (by simpa using h) (fun i x y hx hy => hp (i + 1) x y (by simpa using hx) (by simpa using hy))
    obtain ⟨c, hc⟩ := hp 0 a b rfl rfl
    refine ⟨c :: cs, by simp [h1], fun i x y z hx hy hz => ?_⟩
    cases i with
    | zero => simp at hx hy hz; subst hx hy hz; exact hc
    | succ i => exact h2 i x y z (by simpa using hx) (by simpa using hy) (by simpa using hz)
end Wb
namespace Go.Proofs.YtblpkifkaoaicaaGreat
open Go Go.RowKit Go.Maps Wb
def isKB (w : World) (X : Nat → Prop) : (d : Nat) → Nd d → Bt d → Prop
  | 0, n, t => ∃ rs, KN w X (rootB t) n.1 true rs [] ∧ RsOk rs n.2
  | d + 1, n, t => ∃ rs, KN w X (rootB t) n.1 false rs ((kidsB t).map rootB) ∧ RsOk rs n.2 ∧ (kidsB t).length = n.2.length ∧ ∀ (i : Nat) r x, n.2[i]? = some r → (kidsB t)[i]? = some x → isKB w X d (kidR r) x
theorem isKB.isK {w : World} {X : Nat → Prop} : ∀ {d : Nat} {n : Nd d} {t : Bt d}, isKB w X d n t → isK w X d n (rootB t)
  | 0, n, t, h => h
  | d + 1, n, t, ⟨rs, h1, h2, h3, h4⟩ => ⟨rs, _, h1, h2, by rw [List.length_map, h3], fun i r x hr hx => by
    rw [List.getElem?_map, Option.map_eq_some_iff] at hx
    obtain ⟨y, hy, rfl⟩ := hx
    exact (h4 i r y hr hy).isK⟩
theorem isK.kb {w : World} {X : Nat → Prop} : ∀ {d : Nat} {n : Nd d} {b : Nat}, isK w X d n b → ∃ t : Bt d, rootB t = b ∧ isKB w X d n t
  | 0, n, b, h => ⟨(b : Nat), rfl, h⟩
  | d + 1, n, b, ⟨rs, ks, h1, h2, h3, h4⟩ => by
    obtain ⟨ts, h5, h6⟩ := list_choose (fun (r : Row (d + 1)) (x : Nat) (t : Bt d) => rootB t = x ∧ isKB w X d (kidR r) t) n.2 ks h3 (fun i r x hr hx => isK.kb (h4 i r x hr hx))
    refine ⟨((b, ts) : Nat × List (Bt d)), rfl, rs, ?_, h2, h5, fun i r t hr ht => ?_⟩
    · have e : (kidsB (d := d) ((b, ts) : Nat × List (Bt d))).map rootB = ks := by
        show ts.map rootB = ks
        apply List.ext_getElem?
        intro i
        rw [List.getElem?_map]
        by_cases hi : i < ts.length
        · have ht : ts[i]? = some ts[i] := List.getElem?_eq_getElem hi
          have hr : n.2[i]? = some (n.2[i]'(by omega)) := List.getElem?_eq_getElem _
          have hk : ks[i]? = some (ks[i]'(by omega)) := List.getElem?_eq_getElem _
          rw [ht, hk, Option.map_some, (h6 i _ _ _ hr hk ht).1]
        · rw [List.getElem?_eq_none (by omega), List.getElem?_eq_none (by omega)]
          rfl
      rw [e]
      exact h1
    · have hk : ks[i]? = some (ks[i]'(by have := (List.getElem?_eq_some_iff.1 hr).1; omega)) := List.getElem?_eq_getElem _
      exact (h6 i r _ t hr hk ht).2
end Go.Proofs.YtblpkifkaoaicaaGreat

namespace Go.Proofs.YtblpkifkaoaicaaGreat
open Go Go.RowKit Go.Maps Wb
theorem rd_one {w : World} {v : Value} {a b : List Value} (h : isRd w v a) (k : isRd w v b) : a = b := by
  obtain ⟨p, c, rfl, _, h1⟩ := h
  obtain ⟨p', c', e, _, k1⟩ := k
  injection e with e1 e2 e3
  subst e1
  apply List.ext_getElem?
  intro i
  by_cases hi : i < a.length
  · have ha : a[i]? = some a[i] := List.getElem?_eq_getElem hi
    have hb : b[i]? = some (b[i]'(by omega)) := List.getElem?_eq_getElem _
    obtain ⟨g, o, e, _, hc⟩ := h1 i _ ha
    obtain ⟨g', o', e', _, hc'⟩ := k1 i _ hb
    rw [e] at e'
    injection e' with e'
    injection e' with e1 e2 _
    subst e1 e2
    rw [hc] at hc'
    rw [ha, hb]
    exact hc'
  · rw [List.getElem?_eq_none (by omega), List.getElem?_eq_none (by omega)]
theorem rdRows_one {w : World} {v : Value} {a b : List Rw} (h : isRdA w 3 v (rowsA a)) (k : isRdA w 3 v (rowsA b)) : a = b := by
  obtain ⟨p, c, rfl, _, h1⟩ := h
  obtain ⟨p', c', e, _, k1⟩ := k
  injection e with e1 e2 e3
  subst e1
  rw [rowsA_len, rowsA_len] at e2
  apply List.ext_getElem?
  intro i
  by_cases hi : i < a.length
  · have ha : a[i]? = some a[i] := List.getElem?_eq_getElem hi
    have hb : b[i]? = some (b[i]'(by omega)) := List.getElem?_eq_getElem _
    obtain ⟨g, o, e, _, hc⟩ := h1 i _ (rowsA_at ha)
    obtain ⟨g', o', e', _, hc'⟩ := k1 i _ (rowsA_at hb)
    rw [e] at e'
    injection e' with e'
    injection e' with e1 e2 _
    subst e1 e2
    obtain ⟨x, hx⟩ : ∃ x, x = a[i] := ⟨_, rfl⟩
    obtain ⟨y, hy⟩ : ∃ y, y = b[i]'(by omega) := ⟨_, rfl⟩
    rw [← hx] at ha hc
    rw [← hy] at hb hc'
    have q0 := (hc 0 _ rfl).symm.trans (hc' 0 _ rfl)
    have q1 := (hc 1 _ rfl).symm.trans (hc' 1 _ rfl)
    have q2 := (hc 2 _ rfl).symm.trans (hc' 2 _ rfl)
    rw [ha, hb]
    obtain ⟨xk, xv, xp⟩ := x
    obtain ⟨yk, yv, yp⟩ := y
    have z0 : xk = yk := bs_inj (Value.string.inj (Option.some.inj q0))
    have z1 : xv = yv := bs_inj (Value.string.inj (Option.some.inj q1))
    have z2 : (xp : Int) = yp := by injection (Option.some.inj q2)
    subst z0 z1
    have : xp = yp := by omega
    subst this
    rfl
  · rw [List.getElem?_eq_none (by omega), List.getElem?_eq_none (by omega)]
theorem ptrV_inj {a b : List Nat} (h : a.map ptrV = b.map ptrV) : a = b := by
  have hi : Function.Injective ptrV := fun x y h => by
    unfold ptrV at h
    injection h with h
    injection h with h
    injection h
  exact (List.map_inj_right (fun x y => hi.eq_iff.1)).1 h
theorem KN.one {w : World} {X : Nat → Prop} {b p p' : Nat} {lf lf' : Bool} {rs rs' : List Rw} {ks ks' : List Nat} (h : KN w X b p lf rs ks) (k : KN w X b p' lf' rs' ks') : p = p' ∧ lf = lf' ∧ rs = rs' ∧ ks = ks' := by
  obtain ⟨rv, kv, h1, h2, h3⟩ := h.ex
  obtain ⟨rv', kv', k1, k2, k3⟩ := k.ex
  rw [h1] at k1
  injection k1 with k1
  injection k1 with k1
  have e0 := congrArg (fun a => a[0]?) k1
  have e1 := congrArg (fun a => a[1]?) k1
  have e2 := congrArg (fun a => a[2]?) k1
  have e3 := congrArg (fun a => a[3]?) k1
  simp [knA] at e0 e1 e2 e3
  subst e2 e3
  exact ⟨by omega, e1, rdRows_one h2.1 k2.1, ptrV_inj (rd_one h3.1 k3.1)⟩
/-- One block: one height, one list of rows in the leaves. -/
theorem isK.one {w : World} {X : Nat → Prop} : ∀ {d d' : Nat} {n : Nd d} {n' : Nd d'} {b : Nat}, isK w X d n b → isK w X d' n' b → Ord d n.2 → (n.2 ≠ [] ∨ d = 0) → Ord d' n'.2 → (n'.2 ≠ [] ∨ d' = 0) → d = d' ∧ flat d n.2 = flat d' n'.2
  | 0, 0, n, n', b, ⟨rs, h1, h2⟩, ⟨rs', k1, k2⟩, _, _, _, _ => by
    obtain ⟨_, _, e, _⟩ := h1.one k1
    subst e
    refine ⟨rfl, ?_⟩
    have h2 : rs = n.2.map fun r => ⟨keyR r, valR r, 0⟩ := h2
    have k2 : rs = n'.2.map fun r => ⟨keyR r, valR r, 0⟩ := k2
    have f1 : flat 0 n.2 = rs.map fun r => (r.key, r.val) := by rw [h2, List.map_map]; rfl
    have f2 : flat 0 n'.2 = rs.map fun r => (r.key, r.val) := by rw [k2, List.map_map]; rfl
    rw [f1, f2]
  | 0, d' + 1, n, n', b, ⟨rs, h1, h2⟩, ⟨rs', ks', k1, k2, _⟩, _, _, _, _ => by
    obtain ⟨_, e, _, _⟩ := h1.one k1
    cases e
  | d + 1, 0, n, n', b, ⟨rs, ks, h1, h2, _⟩, ⟨rs', k1, k2⟩, _, _, _, _ => by
    obtain ⟨_, e, _, _⟩ := h1.one k1
    cases e
  | d + 1, d' + 1, n, n', b, ⟨rs, ks, h1, h2, h3, h4⟩, ⟨rs', ks', k1, k2, k3, k4⟩, ho, hne, ho', hne' => by
    obtain ⟨_, _, _, e⟩ := h1.one k1
    subst e
    have hl : n.2.length = n'.2.length := by omega
    have step : ∀ (i : Nat) r r', n.2[i]? = some r → n'.2[i]? = some r' → d = d' ∧ flat d (kidR r).2 = flat d' (kidR r').2 := fun i r r' hr hr' => by
      have hx : ks[i]? = some (ks[i]'(by have := (List.getElem?_eq_some_iff.1 hr).1; omega)) := List.getElem?_eq_getElem _
      obtain ⟨q1, q2, _⟩ := ho.1 r (List.mem_of_getElem? hr)
      obtain ⟨q3, q4, _⟩ := ho'.1 r' (List.mem_of_getElem? hr')
      exact isK.one (h4 i r _ hr hx) (k4 i r' _ hr' hx) q2 (.inl q1) q4 (.inl q3)
    have hne : n.2 ≠ [] := hne.elim id (fun e => by cases e)
    have h0 : 0 < n.2.length := List.length_pos_iff.2 hne
    obtain ⟨e, _⟩ := step 0 _ _ (List.getElem?_eq_getElem h0) (List.getElem?_eq_getElem (by omega))
    subst e
    refine ⟨rfl, ?_⟩
    show (n.2.flatMap fun r => flat d (kidR r).2) = n'.2.flatMap fun r => flat d (kidR r).2
    rw [List.flatMap_def, List.flatMap_def]
    congr 1
    apply List.ext_getElem?
    intro i
    rw [List.getElem?_map, List.getElem?_map]
    by_cases hi : i < n.2.length
    · have hr : n.2[i]? = some n.2[i] := List.getElem?_eq_getElem hi
      have hr' : n'.2[i]? = some (n'.2[i]'(by omega)) := List.getElem?_eq_getElem _
      rw [hr, hr', Option.map_some, Option.map_some, (step i _ _ hr hr').2]
    · rw [List.getElem?_eq_none (by omega), List.getElem?_eq_none (by omega)]
/-- What lies at a block of a tree. -/
theorem blocks_at {w : World} {X : Nat → Prop} : ∀ {d : Nat} {n : Nd d} {t : Bt d}, isKB w X d n t → Ord d n.2 → n.2 ≠ [] → ∀ x ∈ blocksB d t, ∃ (d' : Nat) (n' : Nd d'), d' ≤ d ∧ isK w X d' n' x ∧ Ord d' n'.2 ∧ n'.2 ≠ [] ∧ ∀ y ∈ flat d' n'.2, y ∈ flat d n.2
  | 0, n, t, h, ho, hne, x, hx => by
    have hx : x = rootB t := List.mem_singleton.1 (show x ∈ [rootB t] from hx)
    subst hx
    exact ⟨0, n, Nat.le_refl _, h, ho, hne, fun y hy => hy⟩
  | d + 1, n, t, h, ho, hne, x, hx => by
    rcases List.mem_cons.1 hx with rfl | hx
    · exact ⟨d + 1, n, Nat.le_refl _, h.isK, ho, hne, fun y hy => hy⟩
    · obtain ⟨rs, h1, h2, h3, h4⟩ := h
      obtain ⟨l, hl, hx⟩ := List.mem_flatten.1 hx
      obtain ⟨k, hk, rfl⟩ := List.mem_map.1 hl
      obtain ⟨i, hi⟩ := List.getElem?_of_mem hk
      have hr : n.2[i]? = some (n.2[i]'(by have := (List.getElem?_eq_some_iff.1 hi).1; omega)) := List.getElem?_eq_getElem _
      obtain ⟨r, hrr⟩ : ∃ r, r = n.2[i]'(by have := (List.getElem?_eq_some_iff.1 hi).1; omega) := ⟨_, rfl⟩
      rw [← hrr] at hr
      obtain ⟨q1, q2, _⟩ := ho.1 r (List.mem_of_getElem? hr)
      obtain ⟨d', n', a1, a2, a3, a4, a5⟩ := blocks_at (h4 i r k hr hi) q2 q1 x hx
      exact ⟨d', n', by omega, a2, a3, a4, fun y hy => List.mem_flatMap.2 ⟨r, List.mem_of_getElem? hr, a5 y hy⟩⟩
theorem blocks_nodup {w : World} {X : Nat → Prop} : ∀ {d : Nat} {n : Nd d} {t : Bt d}, isKB w X d n t → Ord d n.2 → (n.2 ≠ [] ∨ d = 0) → (blocksB d t).Nodup
  | 0, n, t, _, _, _ => by
    show [rootB t].Nodup
    simp
  | d + 1, n, t, h, ho, hne => by
    have hK := h.isK
    obtain ⟨rs, h1, h2, h3, h4⟩ := h
    have at' : ∀ (i : Nat) k, (kidsB t)[i]? = some k → ∃ r, n.2[i]? = some r ∧ isKB w X d (kidR r) k ∧ Ord d (kidR r).2 ∧ (kidR r).2 ≠ [] := fun i k hi => by
      have hr : n.2[i]? = some (n.2[i]'(by have := (List.getElem?_eq_some_iff.1 hi).1; omega)) := List.getElem?_eq_getElem _
      obtain ⟨q1, q2, _⟩ := ho.1 _ (List.mem_of_getElem? hr)
      exact ⟨_, hr, h4 i _ k hr hi, q2, q1⟩
    show (rootB t :: ((kidsB t).map fun x => blocksB d x).flatten).Nodup
    rw [List.nodup_cons]
    refine ⟨fun hm => ?_, ?_⟩
    · obtain ⟨l, hl, hx⟩ := List.mem_flatten.1 hm
      obtain ⟨k, hk, rfl⟩ := List.mem_map.1 hl
      obtain ⟨i, hi⟩ := List.getElem?_of_mem hk
      obtain ⟨r, hr, a1, a2, a3⟩ := at' i k hi
      obtain ⟨d', n', b1, b2, b3, b4, _⟩ := blocks_at a1 a2 a3 _ hx
      have := (isK.one hK b2 ho hne b3 (.inl b4)).1
      omega
    · unfold List.Nodup
      rw [List.pairwise_flatten, List.pairwise_map]
      refine ⟨fun l hl => ?_, ?_⟩
      · obtain ⟨k, hk, rfl⟩ := List.mem_map.1 hl
        obtain ⟨i, hi⟩ := List.getElem?_of_mem hk
        obtain ⟨r, hr, a1, a2, a3⟩ := at' i k hi
        exact blocks_nodup a1 a2 (.inl a3)
      · rw [List.pairwise_iff_getElem]
        intro i j hi hj hij x hx y hy e
        subst e
        obtain ⟨r, hr, a1, a2, a3⟩ := at' i _ (List.getElem?_eq_getElem hi)
        obtain ⟨r', hr', a1', a2', a3'⟩ := at' j _ (List.getElem?_eq_getElem hj)
        obtain ⟨d1, n1, b1, b2, b3, b4, b5⟩ := blocks_at a1 a2 a3 _ hx
        obtain ⟨d2, n2, c1, c2, c3, c4, c5⟩ := blocks_at a1' a2' a3' _ hy
        obtain ⟨e1, e2⟩ := isK.one b2 c2 b3 (.inl b4) c3 (.inl c4)
        subst e1
        obtain ⟨y, hy⟩ := List.exists_mem_of_ne_nil _ (b3.flat_ne b4)
        have hlt := List.pairwise_iff_getElem.1 ho.2 i j (List.getElem?_eq_some_iff.1 hr).1 (List.getElem?_eq_some_iff.1 hr').1 hij y (by rw [(List.getElem?_eq_some_iff.1 hr).2]; exact b5 y hy)
        rw [(List.getElem?_eq_some_iff.1 hr').2] at hlt
        exact (ho.1 r' (List.mem_of_getElem? hr')).2.2 y (c5 y (by rw [← e2]; exact hy)) hlt
end Go.Proofs.YtblpkifkaoaicaaGreat

namespace Go.Proofs.YtblpkifkaoaicaaGreat
open Go Go.RowKit Go.Maps Wb

/-- The knots of L got numbers, and nothing else of them changed. -/
def IdsTo (w w' : World) (L : List Nat) : Prop := ∀ x ∈ L, ∃ lf rv kv p, w.heap[x]? = some (.cells (knA 0 lf rv kv) 96 (0, 0)) ∧ w'.heap[x]? = some (.cells (knA p lf rv kv) 96 (0, 0))
/-- How far a commit has come: since w1, where X1 was the statement's own, the knots of L were written. -/
structure PSt (w0 w1 : World) (X1 : Nat → Prop) (f : Nat) (dv : DH) (w : World) (X : Nat → Prop) (L : List Nat) (F : Pg) (v : Value) : Prop where
  keep : Keeps w1 w (fun i => i ∈ L ∨ Apart w0 X1 i)
  law : Law9 w0 w f dv F X
  sub : ∀ i, X1 i → X i
  ids : IdsTo w1 w L
  own : isOwn w w1.heap.size 91 v (L.map ptrV)
  blk : ∀ g, v.ownBlock = some g → X g
  dead : F.dead = false
  low : w0.heap.size ≤ w1.heap.size
  has : ∀ x ∈ L, X1 x
  top : ∀ i, X1 i → w0.heap.size ≤ i ∧ i < w1.heap.size
namespace PSt
variable {w0 w1 w w' : World} {X1 X : Nat → Prop} {f : Nat} {dv : DH} {L : List Nat} {F : Pg} {v : Value}
theorem new (h : PSt w0 w1 X1 f dv w X L F v) (hk : Keeps w w' (fun _ => False)) : PSt w0 w1 X1 f dv w' X L F v :=
  ⟨h.keep.trans (hk.mono (fun _ _ h => h.elim)), h.law.new hk, h.sub, fun x hx => by
    obtain ⟨lf, rv, kv, p, h1, h2⟩ := h.ids x hx
    exact ⟨lf, rv, kv, p, h1, hk.blk h2 (fun h => h)⟩, h.own.new hk, h.blk, h.dead, h.low, h.has, h.top⟩
/-- A block of the walk's own is told to be kept. -/
theorem more (h : PSt w0 w1 X1 f dv w X L F v) (g : Nat) (hg : w.heap.size ≤ g) (hk : Keeps w w' (fun _ => False)) (hl : g < w'.heap.size) : PSt w0 w1 X1 f dv w' (fun i => X i ∨ i = g) L F v := by
  have h1 := h.new hk
  refine ⟨h1.keep, h.law.more hk (fun i hi => by
    rcases hi with hi | rfl
    · exact .inl hi
    · exact .inr hg) (fun i hi => ?_), fun i hi => .inl (h.sub i hi), h1.ids, h1.own, fun g hg => .inl (h.blk g hg), h.dead, h.low, h.has, h.top⟩
  · rcases hi with hi | rfl
    · obtain ⟨bu, fv, _, _, h3, _⟩ := h.law
      exact Nat.lt_of_lt_of_le (h3 i hi) hk.size
    · exact hl
/-- A block of the statement's own that is no knot stays. -/
theorem stays (h : PSt w0 w1 X1 f dv w X L F v) {b : Nat} {C : Array Value} {t : TypeId} (hb : w1.heap[b]? = some (.cells C t (0, 0))) (hx : X1 b) (ht : t ≠ 96) : w.heap[b]? = some (.cells C t (0, 0)) := by
  refine h.keep.blk hb (fun hs => ?_)
  rcases hs with hs | hs
  · obtain ⟨lf, rv, kv, p, h1, _⟩ := h.ids b hs
    rw [hb] at h1
    injection h1 with h1
    injection h1 with _ h1
    exact ht h1
  · exact hs.1 hx
end PSt
set_option maxRecDepth 100000 in
set_option maxHeartbeats 2000000 in
/-- A knot that has its page is passed by. -/
theorem putHas_calls (w : World) (X : Nat → Prop) (t b p : Nat) (lf : Bool) (rs : List Rw) (ks : List Nat) (v : Value) (hk : KN w X b p lf rs ks) (hp : p ≠ 0) :
    Calls Tryz.prog 74 #[.pointer (some ⟨t, 0, none⟩), .pointer (some ⟨b, 0, none⟩), v] w fun e w' => e = .returned (.tuple #[v, .int .i64 0]) ∧ w = w' := by
  obtain ⟨rv, kv, hb, _, _⟩ := hk.ex
  have c0 : w.cell? ⟨b, 0, none⟩ = some (.int .i64 p) := by rw [cell_of_block hb]; rfl
  have hp0 : ((p : Int) == 0) = false := by simp; omega
  have hpi : ¬ (p : Int) = 0 := by omega
  clear hb hk hp
  go_enter Tryz.func74, Tryz.ntmps74
  go_wp2_with fail
  go_ret2
  exact ⟨rfl, rfl⟩
/-- A tree stays where none of its knots is written, and else knots alone, or what is apart. -/
theorem isKB.kept {w w' : World} {X S : Nat → Prop} (hk : Keeps w w' S) (hS : Off w X S) : ∀ {d : Nat} {n : Nd d} {t : Bt d}, isKB w X d n t → (∀ b ∈ blocksB d t, ¬ S b) → isKB w' X d n t
  | 0, n, t, ⟨rs, h1, h2⟩, hb => ⟨rs, h1.kept hk hS (hb _ (by show rootB t ∈ [rootB t]; simp)), h2⟩
  | d + 1, n, t, ⟨rs, h1, h2, h3, h4⟩, hb => ⟨rs, h1.kept hk hS (hb _ (List.mem_cons_self ..)), h2, h3, fun i r x hr hx => isKB.kept hk hS (h4 i r x hr hx) (fun b hbb => hb b (List.mem_cons_of_mem _ (List.mem_flatten.2 ⟨_, List.mem_map.2 ⟨x, List.mem_of_getElem? hx, rfl⟩, hbb⟩)))⟩
/-- A knot's number is set. -/
theorem KN.setId {w : World} {X : Nat → Prop} {b p : Nat} {lf : Bool} {rs : List Rw} {ks : List Nat} (h : KN w X b p lf rs ks) (p' : Nat) : KN (w.setCell ⟨b, 0, none⟩ (.int .i64 p')) X b p' lf rs ks ∧ Keeps w (w.setCell ⟨b, 0, none⟩ (.int .i64 p')) (· = b) := by
  obtain ⟨rv, kv, h1, h2, h3⟩ := h.ex
  have hk := keeps_cell w b 0 (.int .i64 (p' : Int))
  have hoff : Off w X (· = b) := fun i hi _ => .inr (by
    have e : i = b := hi
    subst e
    exact ⟨_, h1⟩)
  exact ⟨⟨h.x, rv, kv, blk_setCell h1 0 _, h2.kept hk hoff, h3.kept hk hoff⟩, hk⟩
end Go.Proofs.YtblpkifkaoaicaaGreat
