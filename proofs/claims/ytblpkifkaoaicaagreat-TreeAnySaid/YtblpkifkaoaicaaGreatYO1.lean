import Derived.Test.YtblpkifkaoaicaaGreatQT
import Derived.Test.YtblpkifkaoaicaaGreatYSl
import Derived.Test.YtblpkifkaoaicaaGreatQP
import Derived.Lib.SliceRun
/-! Package octs: the contracts. -/
namespace Go.Proofs.YtblpkifkaoaicaaGreat
open Go Go.RowKit Go.Maps Wb

def octV (b : UInt8) : Value := .int .u8 b.toNat
def octs (l : List UInt8) : List Value := l.map octV
theorem octs_len (l : List UInt8) : (octs l).length = l.length := by simp [octs]
theorem octs_app (l m : List UInt8) : octs (l ++ m) = octs l ++ octs m := by simp [octs]
theorem octs_one (l : List UInt8) : ∀ u ∈ octs l, u.oneCell' = true := by
  intro u hu
  obtain ⟨b, _, rfl⟩ := List.mem_map.1 hu
  rfl
theorem info_u8 : (Tryz.prog.info? 5).map (fun i => (i.zero, i.size, i.bytes)) = some (some (.int .u8 0), 1, 1) := by kernel_rfl

theorem width_calls (w : World) (n : Int) (h1 : 1 ≤ n) (h2 : n ≤ 8) : Calls Tryz.prog 122 #[.int .i64 n] w fun e w' => e = .returned (.int .i64 n) ∧ w = w' := by
  have hm1 : max n 1 = n := by omega
  have hm2 : min n 8 = n := by omega
  go_enter Tryz.func122, Tryz.ntmps122
  go_wp2
  go_ret
  exact ⟨rfl, rfl⟩

/-- A new slice of octets. -/
def OctsPost (w : World) (l : List UInt8) (e : Ending) (w' : World) : Prop := ∃ v, e = .returned v ∧ isOwn w' w.heap.size 5 v (octs l) ∧ Keeps w w' (fun _ => False)

set_option maxRecDepth 100000 in
set_option maxHeartbeats 1000000 in
theorem clone_calls (w : World) (v : Value) (l : List UInt8) (hv : isRd w v (octs l)) (hll : l.length ≤ 140737488351232) (hn : ∀ cap, v = .slice none 0 cap → cap = 0) :
    Calls Tryz.prog 145 #[v] w (OctsPost w l) := by
  have hV := Lib.hid hv
  obtain ⟨a, cap, rfl, hc1, hc3⟩ := hv
  have hN := Lib.hid hn
  clear hc3 hn
  cases a with
  | none =>
    obtain ⟨a, cap', h1, _, h2⟩ := hV.out
    have hl : octs l = [] := by
      cases h1
      cases hq : octs l with
      | nil => rfl
      | cons u r => obtain ⟨g, o, h, _⟩ := h2 0 u (by rw [hq]; rfl); cases h
    have HL := Lib.hid hl
    clear hl h1 h2
    have hnl : ∀ (W : World), (binOp BinOp.eql 36 (.slice none (octs l).length cap) (.slice none 0 0)).run Tryz.prog W = .ok (.bool true) W := fun W => Go.Lib.run_eql_slice_nil (P := Tryz.prog) W 36 5 none (octs l).length cap 0 0 Tryz.underlying36
    go_enter Tryz.func145, Tryz.ntmps145
    go_wp2
    go_ret
    exact ⟨_, rfl, by rw [HL.out]; exact isOwn_nil _ _ _, Keeps.refl _ _⟩
  | some ad =>
    have hnl : ∀ (W : World), (binOp BinOp.eql 36 (.slice (some ad) (octs l).length cap) (.slice none 0 0)).run Tryz.prog W = .ok (.bool false) W := fun W => Go.Lib.run_eql_slice_nil (P := Tryz.prog) W 36 5 (some ad) (octs l).length cap 0 0 Tryz.underlying36
    go_enter Tryz.func145, Tryz.ntmps145
    go_wp2_with (first
      | (refine wl_slice0 rfl _ rfl 5 _ 1 Tryz.underlying36 info_u8 ?_; intro b w1 hb HB HK)
      | (at_builtin; refine wl_appendN rfl _ _ _ rfl 5 _ 1 Tryz.underlying36 info_u8 rfl w.heap.size _ [] rfl (isOwn_made (vs := []) HB hb (by decide)) _ (octs l) rfl (hV.out.new HK) hN.out (octs_one l) (by rw [octs_len]; simp [maxLen]; omega) (by rw [octs_len]; simp; omega) HK.size ?_; intro v' w2 hap)
      | fail)
    go_ret
    exact ⟨_, rfl, by simpa using hap.1, hap.keeps (isOwn_made (vs := []) HB hb (by decide)) HK (Nat.le_refl _)⟩

theorem byte_eq (n v k : Nat) : octV (UInt8.ofNat (v / 256 ^ (n - 1 - k) % 256)) = .int .u8 ((v : Int) / 2 ^ ((n - 1 - k) * 8) % 256) := by
  unfold octV
  have h1 : (UInt8.ofNat (v / 256 ^ (n - 1 - k) % 256)).toNat = v / 256 ^ (n - 1 - k) % 256 := by simp
  have h2 : (256 : Nat) ^ (n - 1 - k) = 2 ^ ((n - 1 - k) * 8) := by rw [Nat.mul_comm, Nat.pow_mul]
  rw [h1, h2]
  congr 1
def IntRel (w : World) (l : List UInt8) (n v : Nat) (k : Nat) (v0 : Value) (wr : World) : Prop := isOwn wr w.heap.size 5 v0 (octs (l ++ (be n v).take k)) ∧ Keeps w wr (fun _ => False)

set_option maxRecDepth 100000 in
set_option maxHeartbeats 2000000 in
theorem int_calls (w : World) (sv : Value) (l : List UInt8) (n : Nat) (v : Nat) (hv : isRd w sv (octs l)) (hs : ∀ cap, sv = .slice none 0 cap → cap = 0) (h1 : 1 ≤ n) (h8 : n ≤ 8) (hv64 : v < 2 ^ 64) (hl : l.length ≤ 1000000) :
    Calls Tryz.prog 119 #[sv, .int .i64 n, .int .u64 v] w (OctsPost w (l ++ be n v)) := by
  have hn1 : (1 : Int) ≤ n := by omega
  have hn8 : (n : Int) ≤ 8 := by omega
  have HV := Lib.hid hv
  have HS := Lib.hid hs
  have hv0 : (0 : Int) ≤ v := by omega
  have HVV := Lib.hid hv64
  clear hv hs hv64
  go_enter Tryz.func119, Tryz.ntmps119
  go_wp2_with fail
  refine (clone_calls _ sv l HV.out (by omega) HS.out).mono ?_
  rintro e w1 ⟨v1, rfl, ho1, hk1⟩
  go_wp2_with fail
  refine (width_calls _ n hn1 hn8).mono ?_
  rintro e w2 ⟨rfl, rfl⟩
  have hrel0 : IntRel w l n v 0 v1 w1 := ⟨by simpa using ho1, hk1⟩
  have HREL0 := Lib.hid hrel0
  clear hrel0 ho1 hk1
  go_wp2_with fail
  go_loopw [0, 7] (fun v0 i wr => ∃ k : Nat, k ≤ n ∧ i = .int .i64 ((n : Int) - 1 - k) ∧ IntRel w l n v k v0 wr) (fun _ i _ => (intOf i + 1).toNat)
  case atStart => exact ⟨0, Nat.zero_le _, by go_num, HREL0.out⟩
  case round =>
    clear HREL0
    obtain ⟨k, hk, rfl, hrel⟩ := hrel
    have hk0 : (0 : Int) ≤ k := by omega
    have hk9 : (k : Int) ≤ n := by omega
    by_cases hlt : k < n
    · have hge : (0 : Int) ≤ (n : Int) - 1 - k := by omega
      have HREL := Lib.hid hrel
      clear hrel
      go_wp2_with (first
        | (refine wl_slice1 rfl _ _ rfl 5 _ 1 Tryz.underlying36 info_u8 rfl (.int .u8 ((v : Int) / 2 ^ ((n - 1 - k) * 8) % 256)) rfl rfl ?_; intro b w3 hb HB HK)
        | (at_builtin; refine wl_appendN rfl _ _ _ rfl 5 _ 1 Tryz.underlying36 info_u8 rfl w.heap.size _ (octs (l ++ (be n v).take k)) rfl (HREL.out.1.new HK) _ [.int .u8 ((v : Int) / 2 ^ ((n - 1 - k) * 8) % 256)] rfl (isVals_one (ok := fun _ => True) HB trivial).rd (fun _ h => by cases h) (by simp; rfl) (by rw [octs_len, List.length_append, List.length_take, be_len]; simp [maxLen]; omega) (by rw [octs_len, List.length_append, List.length_take, be_len]; simp; omega) (Nat.le_trans HREL.out.2.size HK.size) ?_; intro v' w4 hap)
        | fail)
      have hrel2 : IntRel w l n v (k + 1) v' w4 := by
        refine ⟨?_, hap.keeps (HREL.out.1.new HK) (HREL.out.2.trans HK) (Nat.le_refl _)⟩
        rw [be_take n v k hlt, ← List.append_assoc, octs_app (l ++ (be n v).take k)]
        show isOwn w4 _ _ _ (_ ++ [octV _])
        rw [byte_eq n v k]
        exact hap.1
      have HREL2 := Lib.hid hrel2
      clear hrel2 hap HREL HB HK
      go_wp2
      go_roundw
      case rel => exact ⟨k + 1, by omega, by go_num, HREL2.out⟩
      case measure => simp [intOf]; omega
    · have hge : (n : Int) - 1 - k < 0 := by omega
      obtain rfl : k = n := by omega
      have HREL := Lib.hid hrel
      clear hrel
      go_wp2
      go_ret
      refine ⟨_, rfl, ?_, HREL.out.2⟩
      have := HREL.out.1
      rwa [List.take_of_length_le (by rw [be_len]; exact Nat.le_refl _)] at this
end Go.Proofs.YtblpkifkaoaicaaGreat
