import Derived.Test.YtadjcdfmppcpnaaDoorNmB
import Derived.Below
import Derived.MapKept
/-! Layer 0: the walk of NamesNumbers. -/
namespace Go.Proofs.YtadjcdfmppcpnaaDoor
open Go Go.RowKit
def NmRel (w : World) (b : Nat) (wr : World) : Prop := wr.heap[b]? = some (.cells numA 25) ∧ Below w.heap.size w wr
theorem NmRel.cell {w wr : World} {b : Nat} (h : NmRel w b wr) (i : Nat) : wr.cell? ⟨b, i, none⟩ = numA[i]? := by
  unfold World.cell?
  rw [h.1]; rfl
set_option maxRecDepth 100000 in
set_option maxHeartbeats 4000000 in
theorem names_walk (w : World) : Calls Tryd.prog 3 #[] w fun e w' => e = .returned (.bool true) ∧ Below w.heap.size w w' := by
  go_enter Tryd.func3, Tryd.ntmps3
  go_wp2_with fail
  refine (all_calls _).mono ?_
  rintro e w1 ⟨rfl, hw1⟩
  have hrel0 : NmRel w w.heap.size w1 := by
    subst hw1
    exact ⟨(Go.MapKept.heap_alloc w _).1, (Below.refl _ _).alloc (Nat.le_refl _) _⟩
  clear hw1
  generalize w.heap.size = b at *
  have HR := Lib.hid hrel0
  clear hrel0
  go_wp2_with fail
  go_loopw [2] (fun i wr => ∃ k : Nat, k ≤ 75 ∧ i = .int .i64 k ∧ NmRel w b wr) (fun i _ => 75 - (intOf i).toNat)
  case atStart => exact ⟨0, Nat.zero_le _, rfl, HR.out⟩
  case round =>
    clear HR
    obtain ⟨k, hk, rfl, hrel⟩ := hrel
    have hk0 : (0 : Int) ≤ k := by omega
    by_cases hlt : k < 75
    · have hlt' : decide ((k : Int) < 75) = true := by simp; omega
      have hk9 : (k : Int) < 75 := by omega
      obtain ⟨n, h0, h1⟩ := num_at k hlt
      have hc0 : wr.cell? ⟨b, k * 2, none⟩ = some (.int .i64 n) := by rw [hrel.cell, h0]
      have hc1 : wr.cell? ⟨b, k * 2 + 1, none⟩ = some (.int .i64 n) := by rw [hrel.cell, h1]
      have HREL := Lib.hid hrel
      clear hrel h0 h1 hlt
      go_wp2_with fail
      go_quiet (fail)
      go_wp2
      go_roundw
      case rel => exact ⟨k + 1, by omega, by go_num, HREL.out.1, HREL.out.2.1, HREL.out.2.2, HREL.out.2.3, HREL.out.2.4, HREL.out.2.5⟩
      case measure => simp [intOf]; omega
    · have hge : decide ((k : Int) < 75) = false := by simp; omega
      have HREL := Lib.hid hrel
      clear hrel hlt
      go_wp2_with fail
      refine (err16 _).mono ?_
      rintro e w' ⟨rfl, rfl⟩
      go_wp2_with fail
      refine (err0 _).mono ?_
      rintro e w' ⟨rfl, rfl⟩
      go_wp2_with fail
      go_ret
      exact ⟨rfl, HREL.out.2⟩
end Go.Proofs.YtadjcdfmppcpnaaDoor
