import Derived.Test.YtadjcdfmppcpnaaQH
/-! The document's Number of a file's name. -/
namespace Go.Proofs.Ytadjcdfmppcpnaa
open Go Go.RowKit Go.Maps Wb

set_option maxRecDepth 100000 in
set_option maxHeartbeats 2000000 in
theorem rnum_calls (w : World) (m : Nm) (hm : m.length ≤ 1000000) : Calls Try.prog 69 #[.string (bs m)] w fun e w' => e = .returned (.int .i64 (numOf m)) ∧ w = w' := by
  by_cases h7 : m.length = 7
  · obtain ⟨c, r, rfl⟩ : ∃ c r, m = c :: r := by
      cases m with
      | nil => cases h7
      | cons c r => exact ⟨c, r, rfl⟩
    have h6 : r.length = 6 := by simpa using h7
    have hs : (bs (c :: r)).size = 7 := by rw [bs_size]; exact h7
    have hs1 : (((bs (c :: r)).size : Int) != 7) = false := by rw [hs]; rfl
    have hg0 : ∀ (h : 0 < (bs (c :: r)).size), (bs (c :: r))[0]'h = c := fun h => rfl
    have hc0 : (0 : Int) ≤ c.toNat := by omega
    have hc9 : (c.toNat : Int) < 256 := by have := c.toNat_lt; omega
    by_cases hc : c = 106
    · have hcb : ((c.toNat : Int) != 106) = false := by subst hc; rfl
      have HCC := Lib.hid hc
      clear hc
      go_enter Try.func69, Try.ntmps69
      go_wp2_with fail
      go_loopw [3, 4] (fun v i wx => ∃ q : Nat, q ≤ 6 ∧ i = .int .i64 ((q : Int) + 1) ∧ v = .int .i64 (decVal (r.take q)) ∧ wx = w ∧ (r.take q).all isDig = true) (fun _ i _ => 7 - (intOf i).toNat)
      case atStart => exact ⟨0, Nat.zero_le _, rfl, rfl, rfl, by simp⟩
      case round =>
        obtain ⟨q, hq, rfl, rfl, rfl, hall⟩ := hrel
        have hq0 : (0 : Int) ≤ q := by omega
        have hq6 : (q : Int) ≤ 6 := by omega
        by_cases hlt : q < 6
        · have hlb : decide ((q : Int) + 1 < 7) = true := by simp; omega
          have hqi : (q : Int) < 6 := by omega
          obtain ⟨d, hd0⟩ : ∃ c, r[q]? = some c := ⟨_, List.getElem?_eq_getElem (by omega)⟩
          have hgi : ∀ (h : q + 1 < (bs (c :: r)).size), (bs (c :: r))[q + 1]'h = d := fun h => by
            have := (List.getElem?_eq_some_iff.1 hd0).2
            rw [← this]; rfl
          have hgn : ((q : Int) + 1).toNat = q + 1 := by omega
          have hd1 : (0 : Int) ≤ d.toNat := by omega
          have hd9 : (d.toNat : Int) < 256 := by have := d.toNat_lt; omega
          have htk : r.take (q + 1) = r.take q ++ [d] := by rw [List.take_add_one, hd0]; rfl
          by_cases hd : isDig d = true
          · have hd2 := hd
            unfold isDig at hd2
            simp only [Bool.and_eq_true, decide_eq_true_eq] at hd2
            have hb1 : decide ((d.toNat : Int) < 48) = false := by simp; omega
            have hb2 : decide (57 < (d.toNat : Int)) = false := by simp; omega
            have hi1 : (48 : Int) ≤ d.toNat := by omega
            have hi2 : (d.toNat : Int) ≤ 57 := by omega
            have hv : decVal (r.take (q + 1)) = decVal (r.take q) * 10 + (d.toNat - 48) := by
              rw [htk]; unfold decVal; rw [List.foldl_append]; rfl
            have hvl : decVal (r.take q) < 10 ^ q := by
              have := decVal_lt hall
              rw [List.length_take] at this
              rw [show min q r.length = q by omega] at this; exact this
            have hp : 10 ^ q ≤ 10 ^ 6 := Nat.pow_le_pow_right (by decide) (by omega)
            have hvi : (decVal (r.take q) : Int) < 1000000 := by omega
            have hv0 : (0 : Int) ≤ decVal (r.take q) := by omega
            have hall2 : (r.take (q + 1)).all isDig = true := by rw [htk, List.all_append, hall]; simp [hd]
            have HV := Lib.hid hv
            have HA := Lib.hid hall2
            clear hd hd2 hall hv hvl hp htk hall2 hd0
            go_wp2_with fail
            refine ⟨⟨q + 1, by omega, by congr 1, ?_, trivial, HA.out⟩, by simp [intOf]; omega⟩
            rw [HV.out]
            congr 1
            first | omega | (unfold wrap64; omega)
          · have hz : numOf (c :: r) = 0 := by
              unfold numOf
              simp only
              rw [if_neg]
              rintro ⟨_, _, ha⟩
              rw [List.all_eq_true] at ha
              exact hd (ha d (List.mem_of_getElem? hd0))
            have HZ := Lib.hid hz
            have hd2 : (d.toNat : Int) < 48 ∨ (48 ≤ (d.toNat : Int) ∧ 57 < (d.toNat : Int)) := by
              unfold isDig at hd
              simp only [Bool.and_eq_true, decide_eq_true_eq] at hd
              omega
            clear hd hz htk hall hd0
            rcases hd2 with hx | ⟨hx, hy⟩
            · have hb1 : decide ((d.toNat : Int) < 48) = true := by simpa using hx
              go_wp2_with fail
              go_ret
              exact ⟨by rw [HZ.out]; rfl, rfl⟩
            · have hb1 : decide ((d.toNat : Int) < 48) = false := by simp; omega
              have hb2 : decide (57 < (d.toNat : Int)) = true := by simpa using hy
              go_wp2_with fail
              go_ret
              exact ⟨by rw [HZ.out]; rfl, rfl⟩
        · obtain rfl : q = 6 := by omega
          have hlb : decide (((6 : Nat) : Int) + 1 < 7) = false := by decide
          have hz : numOf (c :: r) = decVal (r.take 6) := by
            unfold numOf
            simp only
            rw [List.take_of_length_le (by omega)] at hall ⊢
            rw [if_pos ⟨HCC.out, h6, hall⟩]
          have HZ := Lib.hid hz
          clear hall hz
          go_wp2_with fail
          go_ret
          exact ⟨by rw [HZ.out]; rfl, rfl⟩
    · have hcb : ((c.toNat : Int) != 106) = true := by
        have : c.toNat ≠ 106 := fun e => hc (UInt8.toNat_inj.1 e)
        simp; omega
      have hz : numOf (c :: r) = 0 := by
        unfold numOf
        simp only
        rw [if_neg (fun h => hc h.1)]
      rw [hz]
      clear hc hz
      go_enter Try.func69, Try.ntmps69
      go_wp2_with fail
      go_ret
      exact ⟨rfl, rfl⟩
  · have hz : numOf m = 0 := by
      unfold numOf
      cases m with
      | nil => rfl
      | cons c r => simp only; rw [if_neg (fun h => h7 (by simp [h.2.1]))]
    have hs : (bs m).size = m.length := bs_size m
    have hb : ((m.length : Int) != 7) = true := by simp; omega
    have hmi : (m.length : Int) ≤ 1000000 := by omega
    rw [hz]
    clear hz h7
    go_enter Try.func69, Try.ntmps69
    go_wp2_with fail
    go_ret
    exact ⟨rfl, rfl⟩
end Go.Proofs.Ytadjcdfmppcpnaa
