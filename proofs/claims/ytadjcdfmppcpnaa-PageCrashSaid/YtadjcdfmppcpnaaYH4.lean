import Derived.Test.YtadjcdfmppcpnaaYH3
import Derived.Test.YtadjcdfmppcpnaaYP9t
import Derived.RegionTactic
import Derived.ChangeAlike
/-! Layer 9: the statements' own helper sorted. -/
namespace Go.Proofs.Ytadjcdfmppcpnaa
open Go Go.RowKit Go.Maps Wb

theorem isOwn_set {w : World} {lo : Nat} {e : TypeId} {g n cap : Nat} {vs : List Value} (h : isOwn w lo e (.slice (some ⟨g, 0, none⟩) n cap) vs) {j : Nat} (hj : j < vs.length) (x : Value) : isOwn (w.setCell ⟨g, j, none⟩ x) lo e (.slice (some ⟨g, 0, none⟩) n cap) (vs.set j x) := by
  obtain ⟨h1, h2⟩ := h
  rcases h2 with ⟨he, _⟩ | ⟨g', cap', cur, he, h3, h4, h5, h6, h7, h8⟩
  · cases he
  · simp only [Value.slice.injEq, Option.some.injEq, Addr.mk.injEq, and_true] at he
    obtain ⟨rfl, rfl, rfl⟩ := he
    have hl : (vs.set j x).length = vs.length := List.length_set
    refine ⟨by simp, .inr ⟨g, cap, cur.setIfInBounds j x, by rw [hl], h3, blk_setCell h4 j x, by rw [hl]; exact h5, h6, by simpa using h7, ?_⟩⟩
    rw [hl, Array.toList_setIfInBounds, List.take_set, h8]
theorem isOwn_cell {w : World} {lo : Nat} {e : TypeId} {g n cap : Nat} {vs : List Value} (h : isOwn w lo e (.slice (some ⟨g, 0, none⟩) n cap) vs) {j : Nat} {x : Value} (hj : vs[j]? = some x) : w.cell? ⟨g, j, none⟩ = some x ∧ w.frozen? ⟨g, j, none⟩ = false := by
  refine ⟨?_, ?_⟩
  · obtain ⟨g', cap', he, _, _, _, hc⟩ := isOwn.at h hj
    cases he; exact hc
  · obtain ⟨h1, h2⟩ := h
    rcases h2 with ⟨he, _⟩ | ⟨g', cap', cur, he, h3, h4, h5, h6, h7, h8⟩
    · cases he
    · cases he; exact free_of_block h4 j
theorem intV_set (xs : List Int) (j : Nat) (x : Int) : (intV xs).set j (.int .i64 x) = intV (xs.set j x) := by simp [intV]
def SortPost (w : World) (l : List Int) (e : Ending) (w' : World) : Prop := ∃ v xs, e = .returned v ∧ isOwn w' w.heap.size 3 v (intV xs) ∧ xs.Perm l ∧ SortedTo xs xs.length ∧ Keeps w w' (fun _ => False)
def SortRel (w : World) (l : List Int) (v : Value) (xs : List Int) (wr : World) : Prop := isOwn wr w.heap.size 3 v (intV xs) ∧ xs.Perm l ∧ Keeps w wr (fun _ => False)

set_option maxRecDepth 100000 in
set_option maxHeartbeats 4000000 in
theorem sorted_calls (w : World) (v : Value) (l : List Int) (hv : isRd w v (intV l)) (hn : ∀ cap, v = .slice none 0 cap → cap = 0) (hl : l.length ≤ 1000000) : Calls Try.prog 56 #[v] w (SortPost w l) := by
  have HV := Lib.hid hv
  have HN := Lib.hid hn
  obtain ⟨a, cap, rfl, hc1, _⟩ := hv
  have E1 : Hid ((intV l).length = l.length) := Lib.hid (intV_len l)
  have h1u : Hid (∀ u ∈ intV l, u.oneCell' = true) := Lib.hid fun u hu => by
    obtain ⟨x, _, rfl⟩ := List.mem_map.1 hu; rfl
  clear hn
  go_enter Try.func56, Try.ntmps56
  go_upto_region 2 with (first
    | (refine wl_slice0 rfl _ rfl 3 _ 8 Try.underlying22 info_int ?_; intro b w1 hb HB HK)
    | (at_builtin; refine wl_appendN rfl _ _ 22 rfl 3 _ 8 Try.underlying22 info_int rfl w.heap.size _ [] rfl (isOwn_made (vs := []) HB hb (by decide)) _ (intV l) rfl (HV.out.new HK) HN.out h1u.out (by rw [E1.out]; unfold maxLen; simp; omega) (by rw [E1.out]; simp; omega) HK.size ?_; intro v' w2 hap)
    | fail)
  have hk2 := hap.keeps (isOwn_made (vs := []) HB hb (by decide)) HK (Nat.le_refl _)
  have ho2 := hap.1
  rw [List.nil_append] at ho2
  have HREL0 : Hid (SortRel w l v' l w2) := Lib.hid ⟨ho2, List.Perm.refl _, hk2⟩
  have hsh : ∃ a2 c2, v' = .slice a2 l.length c2 := by
    rcases ho2.2 with ⟨rfl, h0⟩ | ⟨g, cap', cur, rfl, _⟩
    · rw [intV_len] at h0; exact ⟨none, 0, by rw [h0]⟩
    · exact ⟨_, _, by rw [intV_len]⟩
  obtain ⟨a2, c2, rfl⟩ := hsh
  have hli : (l.length : Int) ≤ 1000000 := by omega
  clear hap hk2 ho2 HB HK hb hc1
  go_wp2_with fail
  go_loopw [4] (fun i wr => ∃ k : Nat, 1 ≤ k ∧ i = .int .i64 k ∧ ∃ xs, Hid (SortRel w l (.slice a2 l.length c2) xs wr ∧ SortedTo xs k)) (fun i _ => l.length - (intOf i).toNat)
  case atStart => exact ⟨1, Nat.le_refl _, rfl, l, Lib.hid ⟨HREL0.out, sortedTo_one l⟩⟩
  case round =>
    clear HREL0
    obtain ⟨i, hi1, rfl, xs, hrel⟩ := hrel
    have hi0 : (1 : Int) ≤ i := by omega
    have hlen : Hid (xs.length = l.length) := Lib.hid hrel.out.1.2.1.length_eq
    by_cases hlt : i < l.length
    · have hlb : decide (i < l.length) = true := by simpa using hlt
      have hi9 : (i : Int) < l.length := by omega
      have HINS : Hid (∃ xs, SortRel w l (.slice a2 l.length c2) xs wr ∧ InsOk xs i i) := Lib.hid ⟨xs, hrel.out.1, ins_start hrel.out.2 (by rw [hlen.out]; exact hlt)⟩
      have HLT := Lib.hid hlt
      clear hrel hlt hlen
      obtain ⟨wo, rfl⟩ : ∃ wo : World, wo = wr := ⟨_, rfl⟩
      go_wp2_with fail
      go_loopw [5] (fun k wr => ∃ q : Nat, k = .int .i64 q ∧ q ≤ i ∧ Hid (∃ xs, SortRel w l (.slice a2 l.length c2) xs wr ∧ InsOk xs i q)) (fun k _ => (intOf k).toNat)
      case atStart => exact ⟨i, rfl, Nat.le_refl _, HINS⟩
      case round =>
        clear HINS
        obtain ⟨q, rfl, hqi, hrel⟩ := hrel
        have hq0 : (0 : Int) ≤ q := by omega
        obtain ⟨ys, ⟨hown, hperm, hk⟩, hins⟩ := hrel.out
        have hyl : ys.length = l.length := hperm.length_eq
        have HINS := Lib.hid hins
        have HPERM := Lib.hid hperm
        have HK := Lib.hid hk
        have HOWN := Lib.hid hown
        by_cases hqz : q = 0
        · have hqb : decide (0 < q) = false := decide_eq_false (by omega)
          have HDONE : Hid (∀ n, ∃ xs, SortRel w l (.slice a2 l.length c2) xs (wr.drewN n) ∧ SortedTo xs (i + 1)) := Lib.hid fun n => ⟨ys, ⟨HOWN.out.new ((Keeps.refl wr _).drewN n), HPERM.out, HK.out.drewN n⟩, ins_done HINS.out (.inl hqz)⟩
          clear hqz hins hperm hk hown hrel hyl
          go_wp2_with fail
          go_quiet (fail)
          go_wp2
          go_roundw
          case rel => obtain ⟨xs2, h2⟩ := HDONE.out _; exact ⟨i + 1, by omega, by go_num, xs2, Lib.hid h2⟩
          case measure => have := HLT.out; simp [intOf]; omega
        · have hqb : decide (0 < q) = true := decide_eq_true (by omega)
          have hqp : (1 : Int) ≤ q := by omega
          have hqm : (0 : Int) ≤ (q : Int) - 1 := by omega
          have hql : (q : Int) - 1 < l.length := by have := HLT.out; omega
          have hql2 : (q : Int) < l.length := by have := HLT.out; omega
          obtain ⟨x, hx⟩ : ∃ x, ys[q - 1]? = some x := ⟨_, List.getElem?_eq_getElem (by have := HLT.out; omega)⟩
          obtain ⟨y, hy⟩ : ∃ y, ys[q]? = some y := ⟨_, List.getElem?_eq_getElem (by have := HLT.out; omega)⟩
          obtain ⟨g, cap', he, _, hlo, hgl, _⟩ := isOwn.at hown (intV_at hx)
          simp only [Value.slice.injEq] at he
          obtain ⟨rfl, he2, rfl⟩ := he
          clear he2
          obtain ⟨hcx, hfx⟩ := isOwn_cell hown (intV_at hx)
          obtain ⟨hcy, hfy⟩ := isOwn_cell hown (intV_at hy)
          have htn : ((q : Int) - 1).toNat = q - 1 := by omega
          have hwk : IntKind.i64.wrap ((q : Int) - 1) = (q : Int) - 1 := i64_smallK _ (by omega) (by omega)
          have HTN := Lib.hid htn
          have HWK := Lib.hid hwk
          have HX := Lib.hid hx
          have HY := Lib.hid hy
          have HQ := Lib.hid hqz
          have HLO := Lib.hid hlo
          by_cases hyx : y < x
          · have hyb : decide (y < x) = true := decide_eq_true hyx
            have HSW : Hid (∀ n, ∃ xs, SortRel w l (.slice (some ⟨g, 0, none⟩) l.length c2) xs (((wr.drewN n).setCell ⟨g, q - 1, none⟩ (.int .i64 y)).setCell ⟨g, q, none⟩ (.int .i64 x)) ∧ InsOk xs i (q - 1)) := Lib.hid fun n => by
              have h1 := isOwn_set (HOWN.out.new ((Keeps.refl wr _).drewN n)) (j := q - 1) (by rw [intV_len]; exact (List.getElem?_eq_some_iff.1 HX.out).1) (.int .i64 y)
              have h2 := isOwn_set h1 (j := q) (by rw [List.length_set, intV_len]; exact (List.getElem?_eq_some_iff.1 HY.out).1) (.int .i64 x)
              rw [intV_set, intV_set] at h2
              refine ⟨swapL ys q x y, ⟨h2, (swap_perm (by have := HQ.out; omega) HX.out HY.out).trans HPERM.out, ?_⟩, ins_swap HINS.out (by have := HQ.out; omega) HX.out HY.out hyx⟩
              exact (HK.out.drewN n).then (keeps_cells2 _ g (q - 1) q _ _) (fun j hj e => absurd HLO.out (by rw [← show j = g from e]; exact Nat.not_le.2 hj))
            clear hyx hqz hx hy hins hperm hk hown hrel hyl hlo hgl
            go_wp2_with fail
            go_quiet (fail)
            go_wp2_with fail
            clear htn hwk
            go_region
            go_wp2
            go_roundw
            case rel => exact ⟨q - 1, by rw [show ((q - 1 : Nat) : Int) = (q : Int) - 1 from by have := HQ.out; omega], by omega, Lib.hid (HSW.out _)⟩
            case measure => have := HQ.out; simp [intOf]; omega
          · have hyb : decide (y < x) = false := decide_eq_false hyx
            have HDONE : Hid (∀ n, ∃ xs, SortRel w l (.slice (some ⟨g, 0, none⟩) l.length c2) xs (wr.drewN n) ∧ SortedTo xs (i + 1)) := Lib.hid fun n => ⟨ys, ⟨HOWN.out.new ((Keeps.refl wr _).drewN n), HPERM.out, HK.out.drewN n⟩, ins_done HINS.out (.inr ⟨x, y, HX.out, HY.out, by omega⟩)⟩
            clear hyx hqz hx hy hins hperm hk hown hrel hyl hlo hgl
            go_wp2_with fail
            go_quiet (fail)
            go_wp2
            go_roundw
            case rel => obtain ⟨xs2, h2⟩ := HDONE.out _; exact ⟨i + 1, by omega, by go_num, xs2, Lib.hid h2⟩
            case measure => have := HLT.out; simp [intOf]; omega
    · have hlb : decide (i < l.length) = false := by simpa using hlt
      obtain ⟨⟨hown, hperm, hk⟩, hst⟩ := hrel.out
      have HST : Hid (SortedTo xs xs.length) := Lib.hid fun a b x y h1 h2 h3 h4 => hst a b x y h1 (by have := hlen.out; omega) h3 h4
      clear hlt hrel
      go_wp2
      go_ret
      exact ⟨_, xs, rfl, hown, hperm, HST.out, hk⟩
end Go.Proofs.Ytadjcdfmppcpnaa
