import Derived.Test.YtblpkifkaoaicaaGreatYO1
import Derived.Test.YtblpkifkaoaicaaGreatYMsk
/-! Package octs: what is read. -/
namespace Go.Proofs.YtblpkifkaoaicaaGreat
open Go Go.RowKit Go.Maps Wb

theorem octs_at {l : List UInt8} {k : Nat} {c : UInt8} (h : l[k]? = some c) : (octs l)[k]? = some (octV c) := by simp [octs, h]
theorem num_take {l : List UInt8} {k : Nat} {c : UInt8} (h : l[k]? = some c) : num (l.take (k + 1)) = (num (l.take k) * 256 + c.toNat) % 2 ^ 64 := by
  rw [List.take_add_one, h]
  exact num_snoc _ _

set_option maxRecDepth 100000 in
set_option maxHeartbeats 2000000 in
theorem number_calls (w : World) (sv : Value) (l : List UInt8) (hv : isRd w sv (octs l)) (hl : l.length ≤ 1000000) :
    Calls Tryz.prog 120 #[sv] w fun e w' => e = .returned (.int .u64 (num l)) ∧ w = w' := by
  obtain ⟨a, cap, rfl, hc1, hc3⟩ := hv
  have HC : Hid (∀ (k : Nat) c, l[k]? = some c → ∃ g o, a = some ⟨g, o, none⟩ ∧ w.cell? ⟨g, o + k, none⟩ = some (.int .u8 c.toNat)) := by
    intro k c hk
    obtain ⟨g, o, h1, _, h2⟩ := hc3 k _ (octs_at hk)
    exact ⟨g, o, h1, h2⟩
  rw [octs_len] at hc1 ⊢
  have hli : (l.length : Int) ≤ 1000000 := by omega
  clear hc3
  go_enter Tryz.func120, Tryz.ntmps120
  go_wp2_with fail
  go_loop [3, 8] (fun v i => ∃ k : Nat, k ≤ l.length ∧ i = .int .i64 k ∧ v = .int .u64 (num (l.take k) : Nat)) (fun _ i => l.length - (intOf i).toNat)
  case atStart => exact ⟨0, Nat.zero_le _, rfl, rfl⟩
  case round =>
    obtain ⟨k, hk, rfl, rfl⟩ := hrel
    by_cases hlt : k < l.length
    · have hlt' : decide (k < l.length) = true := by simpa using hlt
      have hk9 : (k : Int) < l.length := by omega
      have hk0 : (0 : Int) ≤ k := by omega
      obtain ⟨g, o, rfl, hc⟩ := HC.out k l[k] (List.getElem?_eq_getElem hlt)
      have HN := Lib.hid (num_take (List.getElem?_eq_getElem hlt))
      generalize l[k] = c at *
      generalize num (l.take k) = x at *
      have HB := Lib.hid (or_u64 x c.toNat (UInt8.toNat_lt c))
      go_wp2
      refine ⟨⟨k + 1, by omega, by go_num, ?_⟩, by simp [intOf]; omega⟩
      rw [HN.out, HB.out]
    · have hge : decide (k < l.length) = false := by simpa using hlt
      obtain rfl : k = l.length := by omega
      clear hlt
      go_wp2
      go_ret
      exact ⟨rfl, rfl⟩

theorem octs_take (l : List UInt8) (n : Nat) : octs (l.take n) = (octs l).take n := by simp [octs]
theorem octs_drop (l : List UInt8) (n : Nat) : octs (l.drop n) = (octs l).drop n := by simp [octs]
theorem isVals_take {w : World} {ok : Nat → Prop} {a : Option Addr} {n cap q : Nat} {vs : List Value} (h : isVals w ok (.slice a n cap) vs) (hq : q ≤ vs.length) : isVals w ok (.slice a q cap) (vs.take q) := by
  obtain ⟨a', cap', hv, h0, h00, h⟩ := h
  cases hv
  have hl : (vs.take q).length = q := by rw [List.length_take]; omega
  refine ⟨_, _, by rw [hl], by omega, h00, ?_⟩
  rcases h with rfl | ⟨g, o, rfl, h1, h2, h3⟩
  · exact .inl (by simp)
  · refine .inr ⟨g, o, rfl, h1, h2, fun j x hj => h3 j x ?_⟩
    have hjl := (List.getElem?_eq_some_iff.1 hj).1
    rwa [List.getElem?_take_of_lt (by omega)] at hj
theorem isVals_drop {w : World} {ok : Nat → Prop} {g o n cap q : Nat} {vs : List Value} (h : isVals w ok (.slice (some ⟨g, o, none⟩) n cap) vs) (hq : q ≤ vs.length) (a : Option Addr) (ha : q < cap → a = some ⟨g, o + q, none⟩) :
    isVals w ok (.slice a (n - q) (cap - q)) (vs.drop q) := by
  obtain ⟨a', cap', hv, h0, h00, h⟩ := h
  cases hv
  have hl : (vs.drop q).length = vs.length - q := List.length_drop
  refine ⟨_, _, by rw [hl], by omega, by omega, ?_⟩
  rcases h with rfl | ⟨g', o', he, h1, h2, h3⟩
  · exact .inl (by simp)
  · cases he
    by_cases hlt : q < vs.length
    · refine .inr ⟨g, o + q, ha (by omega), h1, h2, fun j x hj => ?_⟩
      rw [List.getElem?_drop] at hj
      have := h3 (q + j) x hj
      rwa [Nat.add_assoc]
    · exact .inl (List.drop_eq_nil_of_le (by omega))

/-- Octets that are read: what is left, and whether something was not there. -/
def isIn (w : World) (b : Nat) (v : Value) (bad : Bool) : Prop := w.heap[b]? = some (.cells #[v, .bool bad] 198 (0, 0))

set_option maxRecDepth 100000 in
set_option maxHeartbeats 1000000 in
theorem from_calls (w : World) (v : Value) (hv : ∃ a n c, v = .slice a n c) : Calls Tryz.prog 85 #[v] w fun e w' => ∃ b, e = .returned (.pointer (some ⟨b, 0, none⟩)) ∧ w.heap.size ≤ b ∧ isIn w' b v false ∧ Keeps w w' (fun _ => False) := by
  obtain ⟨a, n, c, rfl⟩ := hv
  go_enter Tryz.func85, Tryz.ntmps85
  go_wp2_with (first
    | ((with_reducible refine gd_build 198 ?_); refine wl_buildL rfl _ _ rfl [(0, .slice a n c)] rfl (.agg #[.slice a n c, .bool false]) (fun _ => by kernel_rfl) ?_)
    | ((with_reducible refine gd_box 198 ?_); refine wl_box_agg rfl _ _ rfl #[.slice a n c, .bool false] rfl ?_; intro b w1 hb HB HK)
    | fail)
  go_ret
  exact ⟨b, rfl, hb, HB, HK⟩

def TakePost (w : World) (b : Nat) (ok : Nat → Prop) (l : List UInt8) (n : Nat) (e : Ending) (w' : World) : Prop :=
  ∃ v' sv', e = .returned v' ∧ isOwn w' w.heap.size 5 v' (octs (l.take n)) ∧ isIn w' b sv' false ∧ isVals w' ok sv' (octs (l.drop n)) ∧ Keeps w w' (· = b)
set_option maxRecDepth 100000 in
set_option maxHeartbeats 2000000 in
theorem take_calls (w : World) (b : Nat) (ok : Nat → Prop) (sv : Value) (l : List UInt8) (n : Nat) (hi : isIn w b sv false) (hv : isVals w ok sv (octs l)) (hok : ∀ i, ok i → i ≠ b) (hn : n ≤ l.length) (hl : l.length ≤ 1000000) (h1 : 1 ≤ n) :
    Calls Tryz.prog 121 #[.pointer (some ⟨b, 0, none⟩), .int .u64 n] w (TakePost w b ok l n) := by
  have HI := Lib.hid hi
  have HV := Lib.hid hv
  obtain ⟨a, cap, rfl, hc1, hc2, hc3⟩ := hv
  obtain ⟨g, o, rfl, hgok, hglt⟩ : ∃ g o, a = some ⟨g, o, none⟩ ∧ ok g ∧ g < w.heap.size := by
    rcases hc3 with h | ⟨g, o, h, h2, h3, _⟩
    · have : (octs l).length = 0 := by rw [h]; rfl
      rw [octs_len] at this; omega
    · exact ⟨g, o, h, h2, h3⟩
  rw [octs_len] at hc1 HI
  have hvl : isVals w ok (.slice (some ⟨g, o, none⟩) l.length cap) (octs l) := by have := HV.out; rwa [octs_len] at this
  have HT : Hid (isVals w ok (.slice (some ⟨g, o, none⟩) n cap) (octs (l.take n))) := Lib.hid (by rw [octs_take]; exact isVals_take hvl (by rw [octs_len]; exact hn))
  have HVL := Lib.hid hvl
  have c0 : w.cell? ⟨b, 0, none⟩ = some (.slice (some ⟨g, o, none⟩) l.length cap) := by rw [cell_of_block HI.out]; rfl
  have c1 : w.cell? ⟨b, 1, none⟩ = some (.bool false) := by rw [cell_of_block HI.out]; rfl
  have hni : (n : Int) ≤ l.length := by omega
  have hn1 : (1 : Int) ≤ n := by omega
  have hli : (l.length : Int) ≤ 1000000 := by omega
  have hcl : (l.length : Int) ≤ cap := by omega
  have hgb : g ≠ b := hok g hgok
  clear hi hc3 HV hvl
  rcases Nat.eq_or_lt_of_le (Nat.le_trans hn hc1) with hcn | hcn
  rotate_left
  · have hne : ¬ cap = n := by omega
    have hltc : (n : Int) < cap := by omega
    clear hcn
    go_enter Tryz.func121, Tryz.ntmps121
    go_wp2_with fail
    refine (clone_calls _ _ (l.take n) HT.out.rd (Nat.le_trans (List.length_take_le _ _) (by omega)) (fun _ h => by cases h)).mono ?_
    rintro e w1 ⟨v1, rfl, ho1, hk1⟩
    have HI1 := hk1.blk HI.out id
    have d0 : w1.cell? ⟨b, 0, none⟩ = some (.slice (some ⟨g, o, none⟩) l.length cap) := by rw [cell_of_block HI1]; rfl
    have df : w1.frozen? ⟨b, 0, none⟩ = false := free_of_block HI1 0
    have HH := Lib.hid HI1
    have HK1 := Lib.hid hk1
    have HO1 := Lib.hid ho1
    clear HI1 c0 c1 hk1 ho1
    go_wp2
    go_ret
    have hb2 := blk_setCell HH.out 0
    refine ⟨_, _, rfl, HO1.out.kept (keeps_cell w1 b 0 _) (fun i hi e => ?_), hb2 _, ?_, (HK1.out.mono (fun _ _ h => h.elim)).trans (keeps_cell w1 b 0 _)⟩
    · have := (HO1.out.blk i hi).1
      have := lt_of_blk HI.out
      omega
    · rw [octs_drop]
      refine (isVals_drop (HVL.out.new HK1.out) (by rw [octs_len]; exact hn) _ (fun hlt => ?_)).kept (keeps_cell w1 b 0 _) (fun i hi _ => hok i hi)
      first | rfl | (exfalso; omega) | (simp; done)
  · subst hcn
    go_enter Tryz.func121, Tryz.ntmps121
    go_wp2_with fail
    refine (clone_calls _ _ (l.take n) HT.out.rd (Nat.le_trans (List.length_take_le _ _) (by omega)) (fun _ h => by cases h)).mono ?_
    rintro e w1 ⟨v1, rfl, ho1, hk1⟩
    have HI1 := hk1.blk HI.out id
    have d0 : w1.cell? ⟨b, 0, none⟩ = some (.slice (some ⟨g, o, none⟩) l.length n) := by rw [cell_of_block HI1]; rfl
    have df : w1.frozen? ⟨b, 0, none⟩ = false := free_of_block HI1 0
    have HH := Lib.hid HI1
    have HK1 := Lib.hid hk1
    have HO1 := Lib.hid ho1
    clear HI1 c0 c1 hk1 ho1
    go_wp2
    go_ret
    have hb2 := blk_setCell HH.out 0
    refine ⟨_, _, rfl, HO1.out.kept (keeps_cell w1 b 0 _) (fun i hi e => ?_), hb2 _, ?_, (HK1.out.mono (fun _ _ h => h.elim)).trans (keeps_cell w1 b 0 _)⟩
    · have := (HO1.out.blk i hi).1
      have := lt_of_blk HI.out
      omega
    · rw [List.drop_eq_nil_of_le hc1]
      exact ⟨_, 0, rfl, Nat.le_refl _, by omega, .inl rfl⟩

def InPost (w : World) (b : Nat) (ok : Nat → Prop) (l : List UInt8) (n : Nat) (e : Ending) (w' : World) : Prop :=
  ∃ sv', e = .returned (.int .u64 (num (l.take n))) ∧ isIn w' b sv' false ∧ isVals w' ok sv' (octs (l.drop n)) ∧ Keeps w w' (· = b)
set_option maxRecDepth 100000 in
set_option maxHeartbeats 1000000 in
theorem inint_calls (w : World) (b : Nat) (ok : Nat → Prop) (sv : Value) (l : List UInt8) (n : Nat) (hi : isIn w b sv false) (hv : isVals w ok sv (octs l)) (hok : ∀ i, ok i → i ≠ b) (hn : n ≤ l.length) (hl : l.length ≤ 1000000) (h1 : 1 ≤ n) (h8 : n ≤ 8) :
    Calls Tryz.prog 86 #[.pointer (some ⟨b, 0, none⟩), .int .i64 n] w (InPost w b ok l n) := by
  have hn1 : (1 : Int) ≤ n := by omega
  have hn8 : (n : Int) ≤ 8 := by omega
  go_enter Tryz.func86, Tryz.ntmps86
  go_wp2_with fail
  refine (width_calls _ n hn1 hn8).mono ?_
  rintro e w2 ⟨rfl, rfl⟩
  go_wp2_with fail
  refine (take_calls _ b ok sv l n hi hv hok hn hl h1).mono ?_
  rintro e w3 ⟨v3, sv3, rfl, ho3, hi3, hv3, hk3⟩
  go_wp2_with fail
  refine (number_calls _ v3 (l.take n) ho3.rd (Nat.le_trans (List.length_take_le _ _) (by omega))).mono ?_
  rintro e w4 ⟨rfl, rfl⟩
  go_wp2
  go_ret
  exact ⟨_, rfl, hi3, hv3, hk3⟩
end Go.Proofs.YtblpkifkaoaicaaGreat
