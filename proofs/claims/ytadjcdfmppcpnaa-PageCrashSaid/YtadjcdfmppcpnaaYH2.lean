import Derived.Test.YtadjcdfmppcpnaaYH1
import Derived.Test.YtadjcdfmppcpnaaApZ
/-! Layer 9: the statements' own helpers: sameInts, whole. -/
namespace Go.Proofs.Ytadjcdfmppcpnaa
open Go Go.RowKit Go.Maps Wb

def SameTo (a b : List Int) (k : Nat) : Prop := a.take k = b.take k
set_option maxRecDepth 100000 in
set_option maxHeartbeats 2000000 in
theorem sameInts_calls (w : World) (v1 v2 : Value) (l m : List Int) (h1 : isRd w v1 (intV l)) (h2 : isRd w v2 (intV m)) (hl : l.length ≤ 140737488351232) (hm : m.length ≤ 140737488351232) :
    Calls Try.prog 55 #[v1, v2] w (Quiet w (.bool (decide (l = m)))) := by
  obtain ⟨a, cap, rfl, hc1, hc3⟩ := h1
  obtain ⟨a2, cap2, rfl, hd1, hd3⟩ := h2
  have HC : Hid (∀ (k : Nat) c, l[k]? = some c → ∃ g o, a = some ⟨g, o, none⟩ ∧ g < w.heap.size ∧ w.cell? ⟨g, o + k, none⟩ = some (.int .i64 c)) := fun k c hk => by
    obtain ⟨g, o, e1, e2, e3⟩ := hc3 k _ (intV_at hk)
    exact ⟨g, o, e1, e2, e3⟩
  have HD : Hid (∀ (k : Nat) c, m[k]? = some c → ∃ g o, a2 = some ⟨g, o, none⟩ ∧ g < w.heap.size ∧ w.cell? ⟨g, o + k, none⟩ = some (.int .i64 c)) := fun k c hk => by
    obtain ⟨g, o, e1, e2, e3⟩ := hd3 k _ (intV_at hk)
    exact ⟨g, o, e1, e2, e3⟩
  rw [intV_len] at hc1 hd1 ⊢
  rw [intV_len]
  have hli : (l.length : Int) ≤ 140737488351232 := by omega
  have hmi : (m.length : Int) ≤ 140737488351232 := by omega
  clear hc3 hd3
  by_cases hlm : l.length = m.length
  · have hn : ((l.length : Int) != (m.length : Int)) = false := by simp [hlm]
    have HLM := Lib.hid hlm
    clear hlm
    go_enter Try.func55, Try.ntmps55
    go_wp2_with fail
    go_loopw [5] (fun i wr => ∃ k : Nat, k ≤ l.length ∧ i = .int .i64 k ∧ Hid (SameTo l m k) ∧ Keeps w wr (fun _ => False)) (fun i _ => l.length - (intOf i).toNat)
    case atStart => exact ⟨0, Nat.zero_le _, rfl, Lib.hid rfl, Keeps.refl _ _⟩
    case round =>
      obtain ⟨k, hk, rfl, hrel, hkr⟩ := hrel
      have hk0 : (0 : Int) ≤ k := by omega
      by_cases hlt : k < l.length
      · have hlb : decide (k < l.length) = true := by simpa using hlt
        have hk9 : (k : Int) < l.length := by omega
        have hk8 : (k : Int) < m.length := by have := HLM.out; omega
        have hx : l[k]? = some l[k] := List.getElem?_eq_getElem hlt
        have hy : m[k]? = some (m[k]'(by have := HLM.out; omega)) := List.getElem?_eq_getElem _
        generalize l[k] = x at hx
        generalize m[k]'(by have := HLM.out; omega) = y at hy
        obtain ⟨g, o, rfl, hg, hcx⟩ := HC.out k x hx
        obtain ⟨g2, o2, rfl, hg2, hcy⟩ := HD.out k y hy
        have hc1 : wr.cell? ⟨g, o + k, none⟩ = some (.int .i64 x) := (hkr.cell (p := ⟨g, o + k, none⟩) hg id).trans hcx
        have hc2 : wr.cell? ⟨g2, o2 + k, none⟩ = some (.int .i64 y) := (hkr.cell (p := ⟨g2, o2 + k, none⟩) hg2 id).trans hcy
        have HX := Lib.hid hx
        have HY := Lib.hid hy
        have HK := Lib.hid hkr
        clear hx hy hcx hcy hkr hlt
        by_cases hxy : x = y
        · have hb : (x != y) = false := by simpa using hxy
          have HREL : Hid (SameTo l m (k + 1)) := by
            unfold Hid SameTo
            rw [List.take_add_one, List.take_add_one, HX.out, HY.out, hxy, show l.take k = m.take k from hrel.out]
          have HK2 : Hid (∀ n, Keeps w (wr.drewN n) (fun _ => False)) := Lib.hid fun n => HK.out.drewN n
          clear hxy hrel
          go_wp2_with fail
          go_quiet (fail)
          go_wp2
          go_roundw
          case rel => exact ⟨k + 1, by omega, by go_num, HREL, HK2.out _⟩
          case measure => simp [intOf]; omega
        · have hb : (x != y) = true := by simpa using hxy
          have HR : Hid (decide (l = m) = false) := by
            unfold Hid
            rw [decide_eq_false_iff_not]
            intro e
            rw [e] at HX
            have := HX.out.symm.trans HY.out
            simp only [Option.some.injEq] at this
            exact hxy this
          clear hxy
          go_wp2_with fail
          go_quiet (fail)
          go_wp2
          go_ret
          exact ⟨by rw [HR.out]; rfl, HK.out.drewN _⟩
      · have hlb : decide (k < l.length) = false := by simpa using hlt
        obtain rfl : k = l.length := by omega
        have HR : Hid (decide (l = m) = true) := by
          unfold Hid
          rw [decide_eq_true_eq]
          have := hrel.out
          unfold SameTo at this
          rw [List.take_length, HLM.out, List.take_length] at this
          exact this
        clear hlt
        go_wp2
        go_ret
        exact ⟨by rw [HR.out]; rfl, hkr⟩
  · have hn : ((l.length : Int) != (m.length : Int)) = true := by simpa using (by omega : ¬ (l.length : Int) = m.length)
    have HR : Hid (decide (l = m) = false) := by
      unfold Hid
      rw [decide_eq_false_iff_not]
      intro e; exact hlm (by rw [e])
    clear hlm
    go_enter Try.func55, Try.ntmps55
    go_wp2
    go_ret
    exact ⟨by rw [HR.out]; rfl, Keeps.refl _ _⟩

set_option maxRecDepth 100000 in
set_option maxHeartbeats 2000000 in
theorem whole_calls (w : World) (v : Value) (l : List UInt8) (hv : isRd w v (octs l)) (hn : ∀ cap, v = .slice none 0 cap → cap = 0) (hl : l.length ≤ 512) : Calls Try.prog 53 #[v] w (Quiet w (.string (bs (wholeP l)))) := by
  have HV := Lib.hid hv
  have HN := Lib.hid hn
  obtain ⟨a, cap, rfl, hc1, _⟩ := hv
  rw [octs_len] at HV HN hc1 ⊢
  have hli : (l.length : Int) ≤ 512 := by omega
  have h512 : (512 : Int) - l.length = ((512 - l.length : Nat) : Int) := by omega
  have H512 := Lib.hid h512
  have hwl : octs (wholeP l) = octs l ++ List.replicate (512 - l.length) (.int .u8 0) := by
    unfold wholeP
    rw [octs_app]
    congr 1
    unfold octs
    rw [List.map_replicate]; rfl
  have HWL := Lib.hid hwl
  have hne : wholeP l ≠ [] := by
    intro h
    have : (wholeP l).length = 512 := by simp [wholeP]; omega
    rw [h] at this; cases this
  have HNE := Lib.hid hne
  have e1 : (octs l).length ≤ maxLen := by rw [octs_len]; unfold maxLen; omega
  have E1 : Hid ((octs l).length = l.length) := Lib.hid (octs_len l)
  clear hn h512 hwl hne
  go_enter Try.func53, Try.ntmps53
  go_wp2_with (first
    | (refine wl_slice0 rfl _ rfl 5 _ 1 Try.underlying63 info_u8 ?_; intro b w1 hb HB HK)
    | (at_builtin; refine wl_appendN rfl _ _ 63 rfl 5 _ 1 Try.underlying63 info_u8 rfl w.heap.size _ [] rfl (isOwn_made (vs := []) HB hb (by decide)) _ (octs l) rfl (HV.out.new HK) HN.out (octs_one l) (by rw [E1.out]; unfold maxLen; simp; omega) (by rw [E1.out]; simp; omega) HK.size ?_; intro v' w2 hap; obtain ⟨va, vn, vc, rfl⟩ := isOwn.shape hap.1; have hap0 := hap.1; rw [List.nil_append] at hap0)
    | (at_builtin; go_loud (refine wl_appendZ rfl _ _ 63 3 rfl 5 _ 1 Try.underlying63 Try.underlying3 info_u8 rfl rfl w.heap.size (.slice va vn vc) (octs l) rfl hap0 (512 - l.length) _ rfl H512.out (by rw [E1.out]; unfold maxLen; omega) (by rw [E1.out]; omega) (Nat.le_trans HK.size hap.2.1.size) ?_; intro v3 w3 hap3; rw [← HWL.out] at hap3; have hcv := run_string (isOwn.rd hap3.1) HNE.out))
    | fail)
  go_ret
  have hK2 := hap.keeps (isOwn_made (vs := []) HB hb (by decide)) HK (Nat.le_refl _)
  exact ⟨rfl, hap3.keeps hap0 hK2 (Nat.le_refl _)⟩
end Go.Proofs.Ytadjcdfmppcpnaa
