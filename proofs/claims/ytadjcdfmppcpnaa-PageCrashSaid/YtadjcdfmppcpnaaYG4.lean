import Derived.Test.YtadjcdfmppcpnaaYG3
import Derived.Deep.CutBlock
/-! Package page: least, Free, rising, Meta. -/
namespace Go.Proofs.Ytadjcdfmppcpnaa
open Go Go.RowKit Go.Maps Wb

def LeastPost (w : World) (F : Pg) (e : Ending) (w' : World) : Prop := ∃ r : Nat, isLeast F r ∧ r ≤ pagesOf F.d + 2 ∧ e = .returned (.int .i64 r) ∧ w = w'
set_option maxRecDepth 100000 in
set_option maxHeartbeats 2000000 in
theorem least_calls (w : World) (H : FH) (F : Pg) (hf : isFile w H F) : Calls Try.prog 93 #[.pointer (some ⟨H.f, 0, none⟩)] w (LeastPost w F) := by
  have c5 := hf.c5
  have hn := pages_small hf.dev.wf
  have HM := Lib.hid hf.used
  have HN := Lib.hid hn
  go_enter Try.func93, Try.ntmps93
  go_wp2_with fail
  go_loop [3] (fun v => ∃ k : Nat, v = .int .i64 k ∧ Hid (LeastRel F k)) (fun v => pagesOf F.d + 2 - (intOf v).toNat)
  case atStart => exact ⟨2, rfl, Lib.hid ⟨Nat.le_refl _, fun j h1 h2 => by omega⟩⟩
  case round =>
    obtain ⟨k, rfl, hrel⟩ := hrel
    have hk2 := hrel.out.le
    have hk0 : (0 : Int) ≤ k := by omega
    have hk9 : (k : Int) ≤ 20000 := by omega
    by_cases hlt : k < pagesOf F.d
    · have hlb : decide (k < pagesOf F.d) = true := by simpa using hlt
      cases hu : F.used k with
      | true =>
        have hlk := used_look HM.out k (by omega) 1 (by rw [hu]; rfl)
        have hrel2 : LeastRel F (k + 1) := ⟨by have := hrel.out.1; omega, fun j h1 h2 => by
          rcases Nat.lt_or_ge j k with h | h
          · exact hrel.out.2 j h1 h
          · obtain rfl : j = k := by omega
            exact ⟨hlt, hu⟩⟩
        have HREL := Lib.hid hrel2
        clear hrel2 hu
        go_wp2_with (go_at_call 50; refine (flen_calls _ H F hf).mono ?_; rintro e w' ⟨rfl, rfl⟩)
        exact ⟨⟨k + 1, by go_num, HREL⟩, by simp [intOf]; omega⟩
      | false =>
        have hlk := used_look HM.out k (by omega) 0 (by rw [hu]; rfl)
        have HU := Lib.hid hu
        clear hu
        go_wp2_with (go_at_call 50; refine (flen_calls _ H F hf).mono ?_; rintro e w' ⟨rfl, rfl⟩)
        go_ret
        exact ⟨k, ⟨hrel.out.1, hrel.out.2, .inr HU.out⟩, hk2, rfl, rfl⟩
    · have hlb : decide (k < pagesOf F.d) = false := by simpa using hlt
      go_wp2_with (go_at_call 50; refine (flen_calls _ H F hf).mono ?_; rintro e w' ⟨rfl, rfl⟩)
      go_ret
      exact ⟨k, ⟨hrel.out.1, hrel.out.2, .inl (by omega)⟩, hk2, rfl, rfl⟩

/-- A new slice of ints. -/
def IntsPost (w : World) (l : List Nat) (e : Ending) (w' : World) : Prop := ∃ v, e = .returned v ∧ isOwn w' w.heap.size 3 v (intsV l) ∧ Keeps w w' (fun _ => False)
theorem intsV_len (l : List Nat) : (intsV l).length = l.length := by simp [intsV]
theorem info_int : (Try.prog.info? 3).map (fun i => (i.zero, i.size, i.bytes)) = some (some (.int .i64 0), 1, 8) := by kernel_rfl
def FreeRel (w : World) (F : Pg) (k : Nat) (v : Value) (wr : World) : Prop := isOwn wr w.heap.size 3 v (intsV (freeUpTo F k)) ∧ Keeps w wr (fun _ => False)

set_option maxRecDepth 100000 in
set_option maxHeartbeats 2000000 in
theorem free_calls (w : World) (H : FH) (F : Pg) (hf : isFile w H F) : Calls Try.prog 51 #[.pointer (some ⟨H.f, 0, none⟩)] w (IntsPost w (freeOf F)) := by
  have hn := pages_small hf.dev.wf
  have HF := Lib.hid hf
  have HREL0 : Hid (FreeRel w F 2 (.slice none 0 0) w) := Lib.hid ⟨by rw [freeUpTo_two F 2 (Nat.le_refl _)]; exact isOwn_nil _ _ _, Keeps.refl _ _⟩
  clear hf
  go_enter Try.func51, Try.ntmps51
  go_wp2_with fail
  go_loopw [3, 4] (fun v i wr => ∃ k : Nat, 2 ≤ k ∧ (k ≤ pagesOf F.d ∨ k = 2) ∧ i = .int .i64 k ∧ Hid (FreeRel w F k v wr)) (fun _ i _ => pagesOf F.d + 2 - (intOf i).toNat)
  case atStart => exact ⟨2, Nat.le_refl _, .inr rfl, rfl, HREL0⟩
  case round =>
    clear HREL0
    obtain ⟨k, hk2, hkn, rfl, hrel⟩ := hrel
    have hk0 : (0 : Int) ≤ k := by omega
    have hk9 : (k : Int) ≤ 20000 := by omega
    have hfr := HF.out.new hrel.out.2
    have c5 := hfr.c5
    by_cases hlt : k < pagesOf F.d
    · have hlb : decide (k < pagesOf F.d) = true := by simpa using hlt
      cases hu : F.used k with
      | true =>
        have hlk := used_look hfr.used k (by omega) 1 (by rw [hu]; rfl)
        have hrel2 : FreeRel w F (k + 1) _ wr := ⟨by rw [freeUpTo_succ F k hk2, if_pos hu, List.append_nil]; exact hrel.out.1, hrel.out.2⟩
        have HREL := Lib.hid hrel2
        clear hrel2 hu
        go_wp2_with (first
          | (go_at_call 50; refine (flen_calls _ H F hfr).mono ?_; rintro e w' ⟨rfl, rfl⟩)
          | fail)
        go_roundw
        case rel => exact ⟨k + 1, by omega, .inl (by omega), by go_num, HREL⟩
        case measure => simp [intOf]; omega
      | false =>
        have hlk := used_look hfr.used k (by omega) 0 (by rw [hu]; rfl)
        have HU := Lib.hid hu
        clear hu
        go_wp2_with (first
          | (go_at_call 50; refine (flen_calls _ H F hfr).mono ?_; rintro e w' ⟨rfl, rfl⟩)
          | (refine wl_slice1 rfl _ _ rfl 3 _ 8 Try.underlying22 info_int rfl (.int .i64 k) rfl rfl ?_; intro b w3 hb HB HK)
          | (at_builtin; refine wl_appendN rfl _ _ _ rfl 3 _ 8 Try.underlying22 info_int rfl w.heap.size _ (intsV (freeUpTo F k)) rfl (hrel.out.1.new HK) _ [.int .i64 k] rfl (isVals_one (ok := fun _ => True) HB trivial).rd (fun _ h => by cases h) (by simp; rfl) (by rw [intsV_len]; have := freeUpTo_len F k; simp [maxLen]; omega) (by rw [intsV_len]; have := freeUpTo_len F k; simp; omega) (Nat.le_trans hrel.out.2.size HK.size) ?_; intro v' w4 hap)
          | fail)
        have hrel2 : FreeRel w F (k + 1) v' w4 := by
          refine ⟨?_, hap.keeps (hrel.out.1.new HK) (hrel.out.2.trans HK) (Nat.le_refl _)⟩
          rw [freeUpTo_succ F k hk2, if_neg (by rw [HU.out]; decide)]
          have h1 : intsV (freeUpTo F k ++ [k]) = intsV (freeUpTo F k) ++ [.int .i64 k] := by simp [intsV]
          rw [h1]
          exact hap.1
        have HREL := Lib.hid hrel2
        clear hrel2 hap HB HK
        go_wp2
        go_roundw
        case rel => exact ⟨k + 1, by omega, .inl (by omega), by go_num, HREL⟩
        case measure => simp [intOf]; omega
    · have hlb : decide (k < pagesOf F.d) = false := by simpa using hlt
      have hend : freeUpTo F k = freeOf F := by
        rcases hkn with h | h
        · have : k = pagesOf F.d := by omega
          rw [this]; rfl
        · rw [freeUpTo_two F k (by omega)]
          unfold freeOf
          rw [freeUpTo_two F _ (by omega)]
      have HE := Lib.hid hend
      clear hend
      go_wp2_with (go_at_call 50; refine (flen_calls _ H F hfr).mono ?_; rintro e w' ⟨rfl, rfl⟩)
      go_ret
      exact ⟨_, rfl, by rw [← HE.out]; exact hrel.out.1, hrel.out.2⟩
end Go.Proofs.Ytadjcdfmppcpnaa
