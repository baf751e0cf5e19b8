import Derived.Test.YtadjcdfmppcpnaaYG4
import Derived.Test.YtadjcdfmppcpnaaMapLen
/-! Package page: rising, Meta, Keep, Drop. -/
namespace Go.Proofs.Ytadjcdfmppcpnaa
open Go Go.RowKit Go.Maps Wb

def intV (l : List Int) : List Value := l.map fun (k : Int) => Value.int .i64 k
theorem intV_len (l : List Int) : (intV l).length = l.length := by simp [intV]
theorem intV_at {l : List Int} {k : Nat} {c : Int} (h : l[k]? = some c) : (intV l)[k]? = some (.int .i64 c) := by simp [intV, h]
theorem intsV_intV (l : List Nat) : intsV l = intV (l.map fun (k : Nat) => (k : Int)) := by simp [intsV, intV]

set_option maxRecDepth 100000 in
set_option maxHeartbeats 2000000 in
theorem rising_calls (w : World) (H : FH) (F : Pg) (hf : isFile w H F) (v : Value) (l : List Int) (hv : isRd w v (intV l)) (hl : l.length ≤ 140737488351232) :
    Calls Try.prog 90 #[.pointer (some ⟨H.f, 0, none⟩), v] w fun e w' => e = .returned (.bool (risingB F l)) ∧ w = w' := by
  obtain ⟨a, cap, rfl, hc1, hc3⟩ := hv
  have HC : Hid (∀ (k : Nat) c, l[k]? = some c → ∃ g o, a = some ⟨g, o, none⟩ ∧ w.cell? ⟨g, o + k, none⟩ = some (.int .i64 c)) := by
    intro k c hk
    obtain ⟨g, o, h1, _, h2⟩ := hc3 k _ (intV_at hk)
    exact ⟨g, o, h1, h2⟩
  rw [intV_len] at hc1 ⊢
  have hli : (l.length : Int) ≤ 140737488351232 := by omega
  clear hc3
  go_enter Try.func90, Try.ntmps90
  go_wp2_with fail
  go_loop [9] (fun i => ∃ k : Nat, k ≤ l.length ∧ i = .int .i64 k ∧ Hid (RisingTo F l k)) (fun i => l.length - (intOf i).toNat)
  case atStart => exact ⟨0, Nat.zero_le _, rfl, Lib.hid (fun j x h => by omega)⟩
  case round =>
    obtain ⟨k, hk, rfl, hrel⟩ := hrel
    have hk0 : (0 : Int) ≤ k := by omega
    by_cases hlt : k < l.length
    · have hlb : decide (k < l.length) = true := by simpa using hlt
      have hk9 : (k : Int) < l.length := by omega
      obtain ⟨x, hx⟩ : ∃ x, l[k]? = some x := ⟨_, List.getElem?_eq_getElem hlt⟩
      obtain ⟨g, o, rfl, hc⟩ := HC.out k x hx
      cases hp : isPg F x with
      | false =>
        have HR : Hid (risingB F l = false) := by
          unfold Hid
          exact risingB_false (fun h => by have := (h k x hx).1; rw [hp] at this; cases this)
        have HP := Lib.hid hp
        clear hp hx
        go_wp2_with (go_at_call 94; refine (is_calls _ H F hf x).mono ?_; rintro e w' ⟨he, rfl⟩; rw [HP.out] at he; subst he)
        go_ret
        exact ⟨by rw [HR.out]; rfl, rfl⟩
      | true =>
        rcases Nat.eq_zero_or_pos k with hk1 | hk1
        · have hgt : decide (0 < k) = false := decide_eq_false (by omega)
          have hrel2 : RisingTo F l (k + 1) := fun j y hj hy => by
            obtain rfl : j = k := by omega
            rw [hx] at hy; cases hy
            exact ⟨hp, fun z h => by omega⟩
          have HREL := Lib.hid hrel2
          have HP := Lib.hid hp
          clear hrel2 hp hx hk1
          go_wp2_with (go_at_call 94; refine (is_calls _ H F hf x).mono ?_; rintro e w' ⟨he, rfl⟩; rw [HP.out] at he; subst he)
          exact ⟨⟨k + 1, by omega, by go_num, HREL⟩, by simp [intOf]; omega⟩
        · have hgt : decide (0 < k) = true := decide_eq_true hk1
          have hki : (1 : Int) ≤ k := by omega
          have hkm : (0 : Int) ≤ (k : Int) - 1 := by omega
          have hkl : (k : Int) - 1 < l.length := by omega
          have htn : ((k : Int) - 1).toNat = k - 1 := by omega
          obtain ⟨y, hy⟩ : ∃ y, l[k - 1]? = some y := ⟨_, List.getElem?_eq_getElem (by omega)⟩
          obtain ⟨g', o', he', hc'⟩ := HC.out (k - 1) y hy
          cases he'
          by_cases hyx : y < x
          · have hrel2 : RisingTo F l (k + 1) := fun j z hj hz => by
              rcases Nat.lt_or_ge j k with h | h
              · exact hrel.out j z h hz
              · obtain rfl : j = k := by omega
                rw [hx] at hz; cases hz
                refine ⟨hp, fun u _ hu => ?_⟩
                rw [hy] at hu; cases hu
                exact hyx
            have HREL := Lib.hid hrel2
            have HP := Lib.hid hp
            clear hrel2 hp hx hy
            go_wp2_with (go_at_call 94; refine (is_calls _ H F hf x).mono ?_; rintro e w' ⟨he, rfl⟩; rw [HP.out] at he; subst he)
            exact ⟨⟨k + 1, by omega, by go_num, HREL⟩, by simp [intOf]; omega⟩
          · have HR : Hid (risingB F l = false) := by
              unfold Hid
              exact risingB_false (fun h => hyx ((h k x hx).2 y hk1 hy))
            have hyx' : x ≤ y := by omega
            have HP := Lib.hid hp
            clear hp hx hy hyx
            go_wp2_with (go_at_call 94; refine (is_calls _ H F hf x).mono ?_; rintro e w' ⟨he, rfl⟩; rw [HP.out] at he; subst he)
            go_ret
            exact ⟨by rw [HR.out]; rfl, rfl⟩
    · have hlb : decide (k < l.length) = false := by simpa using hlt
      obtain rfl : k = l.length := by omega
      have HR : Hid (risingB F l = true) := by
        unfold Hid
        exact risingB_true (fun j x hj => hrel.out j x (List.getElem?_eq_some_iff.1 hj).1 hj)
      clear hlt
      go_wp2
      go_ret
      exact ⟨by rw [HR.out]; rfl, rfl⟩

theorem file_meta (F : Pg) (H : FH) : (fileA F H).extract 1 (1 + (metaA F.mt).size) = metaA F.mt := rfl
set_option maxRecDepth 100000 in
set_option maxHeartbeats 1000000 in
theorem meta_calls (w : World) (H : FH) (F : Pg) (hf : isFile w H F) : Calls Try.prog 46 #[.pointer (some ⟨H.f, 0, none⟩)] w (Quiet w (.agg (metaA F.mt))) := by
  have hb := hf.blk
  go_enter Try.func46, Try.ntmps46
  go_wp2_with (first
    | ((with_reducible refine gd_alloc 66 ?_); refine wl_alloc_agg rfl _ rfl _ zeroM ?_; intro br w1 hbr HBR HKR; have hb1 := HKR.blk hb (by simp))
    | ((with_reducible refine gd_load 66 ?_); refine wl_load_agg rfl _ _ rfl H.f 1 rfl _ _ _ hb1 (metaA F.mt) (file_meta F H) _ Try.underlying66 rfl (infoMs _) ?_)
    | ((with_reducible refine gd_store 66 ?_); refine wl_store_agg rfl _ _ _ rfl br _ rfl _ _ HBR (metaA F.mt) rfl (metaA F.mt) (store_meta _ _) (Nat.le_refl 4) (infoMs _) (metaA_one _) ?_; intro w2 HB2 HK2)
    | fail)
  refine bodyPost_ret (v := .agg (metaA F.mt)) ?_ rfl ⟨rfl, ?_⟩
  · exact results_cell_row rfl _ _ br _ _ _ _ rfl HB2 Try.underlying66 rfl (infoMs _)
  · exact HKR.then HK2 (fun i hi e => absurd hbr (by rw [← e]; exact Nat.not_le.2 hi))
end Go.Proofs.Ytadjcdfmppcpnaa
