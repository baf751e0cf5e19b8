/- Lemmas and contracts of functions, joined. -/
import Derived.Test.YtblpkifkaoaicaaGreatQR
import Derived.Test.YtblpkifkaoaicaaGreatQV
import Derived.Test.YtblpkifkaoaicaaGreatYMtEq
namespace Go.Proofs.YtblpkifkaoaicaaGreat
open Go Go.RowKit Go.Maps Wb

theorem run_strK {w : World} {v : Value} {l : List UInt8} (h : isRd w v (octs l)) : (convert 36 9 v).run Tryz.prog w = .ok (.string (bs l)) w := by
  by_cases h0 : l = []
  · subst h0
    obtain ⟨a, cap, rfl, _, _⟩ := h
    rw [show (octs []).length = 0 from rfl, run_convert_bytes_string w 36 9 5 a 0 cap Tryz.underlying36 Tryz.underlying5 Tryz.underlying9]
    cases a <;> simp [Conv.bytesToString, loadCells]
    all_goals rfl
  · exact run_string h h0
set_option maxRecDepth 100000 in
set_option maxHeartbeats 2000000 in
theorem refPut_calls (w : World) (n v : Nat) (h8 : n ≤ 8) (hv64 : v < 2 ^ 64) :
    Calls Tryz.prog 42 #[.slice none 0 0, .int .i64 n, .int .u64 v] w (OctsPost w (be n v)) := by
  have hn8 : (n : Int) ≤ 8 := by omega
  have hv0 : (0 : Int) ≤ v := by omega
  have HVV := Lib.hid hv64
  clear hv64
  go_enter Tryz.func42, Tryz.ntmps42
  go_wp2_with (first
    | (refine wl_slice0 rfl _ rfl 5 _ 1 Tryz.underlying36 info_u8 ?_; intro b0 w0 hb0 HB0 HK0)
    | (at_builtin; refine wl_appendN rfl _ _ _ rfl 5 _ 1 Tryz.underlying36 info_u8 rfl w.heap.size _ [] rfl (isOwn_made (vs := []) HB0 hb0 (by decide)) _ [] rfl ⟨none, 0, rfl, Nat.le_refl _, fun j x hj => by cases hj⟩ (fun _ h => by injection h with _ _ h; exact h.symm) (fun u hu => by cases hu) (by simp [maxLen]) (by simp) HK0.size ?_; intro v1 w1 hap0)
    | fail)
  have hrel0 : IntRel w [] n v 0 v1 w1 := ⟨by simpa [octs] using hap0.1, HK0.then hap0.2.1 (fun i hi e => by
    have e' : b0 = i := Option.some.inj e
    omega)⟩
  have HREL0 := Lib.hid hrel0
  clear hrel0 hap0 HB0 HK0 hb0
  go_wp2_with fail
  go_loopw [7, 8] (fun v0 i wr => ∃ k : Nat, k ≤ n ∧ i = .int .i64 ((n : Int) - 1 - k) ∧ IntRel w [] n v k v0 wr) (fun _ i _ => (intOf i + 1).toNat)
  case atStart => exact ⟨0, Nat.zero_le _, by go_num, HREL0.out⟩
  case round =>
    clear HREL0
    obtain ⟨k, hk, rfl, hrel⟩ := hrel
    have hk0 : (0 : Int) ≤ k := by omega
    have hk9 : (k : Int) ≤ n := by omega
    by_cases hlt : k < n
    · have hge : (0 : Int) ≤ (n : Int) - 1 - k := by omega
      have HREL := Lib.hid hrel
      have he : (8 : Int) * ((n : Int) - 1 - k) = (((n - 1 - k) * 8 : Nat) : Int) := by omega
      clear hrel
      go_wp2_with (first
        | (refine wl_slice1 rfl _ _ rfl 5 _ 1 Tryz.underlying36 info_u8 rfl (.int .u8 ((v : Int) / 2 ^ ((n - 1 - k) * 8) % 256)) rfl rfl ?_; intro b w3 hb HB HK)
        | (at_builtin; refine wl_appendN rfl _ _ _ rfl 5 _ 1 Tryz.underlying36 info_u8 rfl w.heap.size _ (octs ([] ++ (be n v).take k)) rfl (HREL.out.1.new HK) _ [.int .u8 ((v : Int) / 2 ^ ((n - 1 - k) * 8) % 256)] rfl (isVals_one (ok := fun _ => True) HB trivial).rd (fun _ h => by cases h) (by simp; rfl) (by rw [octs_len, List.length_append, List.length_take, be_len]; simp [maxLen]; omega) (by rw [octs_len, List.length_append, List.length_take, be_len]; simp; omega) (Nat.le_trans HREL.out.2.size HK.size) ?_; intro v' w4 hap)
        | fail)
      have hrel2 : IntRel w [] n v (k + 1) v' w4 := by
        refine ⟨?_, hap.keeps (HREL.out.1.new HK) (HREL.out.2.trans HK) (Nat.le_refl _)⟩
        rw [be_take n v k hlt, ← List.append_assoc, octs_app ([] ++ (be n v).take k)]
        show isOwn w4 _ _ _ (_ ++ [octV _])
        rw [byte_eq n v k]
        exact hap.1
      have HREL2 := Lib.hid hrel2
      clear hrel2 hap HREL HB HK
      go_wp2
      go_roundw
      case rel => exact ⟨k + 1, by omega, by go_num, HREL2.out⟩
      case measure => simp [intOf]; omega
    · have hge : (n : Int) - 1 - k < 0 := by omega
      obtain rfl : k = n := by omega
      have HREL := Lib.hid hrel
      clear hrel
      go_wp2
      go_ret
      refine ⟨_, rfl, ?_, HREL.out.2⟩
      have := HREL.out.1
      rwa [List.take_of_length_le (by rw [be_len]; exact Nat.le_refl _), List.nil_append] at this
/-- A key of a number, long or short. -/
def keyNm (z : Int) : Nm := 107 :: (be 2 (z % 1024).toNat ++ List.replicate (z / 1024 % 128).toNat 45)
theorem keyNm_ok (z : Int) : keyOk (keyNm z) := by
  refine ⟨by unfold keyNm; simp, ?_⟩
  unfold keyNm
  simp only [List.length_cons, List.length_append, be_len, List.length_replicate]
  omega
theorem bs_cat (a b : Nm) : bs a ++ bs b = bs (a ++ b) := by
  apply ByteArray.ext
  simp [bs]
set_option maxRecDepth 100000 in
set_option maxHeartbeats 2000000 in
theorem key_calls (w : World) (z : Int) : Calls Tryz.prog 14 #[.int .i64 z] w (Quiet w (.string (bs (keyNm z)))) := by
  obtain ⟨a, ha, ha9⟩ : ∃ a : Nat, z % 1024 = a ∧ a < 1024 := ⟨(z % 1024).toNat, by omega, by omega⟩
  obtain ⟨c, hc, hc9⟩ : ∃ c : Nat, z / 1024 % 128 = c ∧ c < 128 := ⟨(z / 1024 % 128).toNat, by omega, by omega⟩
  have hm1 : bits BinOp.and IntKind.i64 z 1023 = (a : Int) := by rw [mask1023, ha]
  have hm2 : bits BinOp.and IntKind.i64 (z / 1024) 127 = (c : Int) := by rw [mask127, hc]
  have hk : keyNm z = 107 :: (be 2 a ++ List.replicate c 45) := by unfold keyNm; rw [ha, hc]; rfl
  rw [hk]
  have hai : (a : Int) < 1024 := by omega
  have ha0 : (0 : Int) ≤ a := by omega
  have hci : (c : Int) < 128 := by omega
  have hc0 : (0 : Int) ≤ c := by omega
  have HP := Lib.hid (refPut_calls w 2 a (by decide) (by omega))
  clear hk ha hc ha9 hc9
  go_enter Tryz.func14, Tryz.ntmps14
  go_wp2_with fail
  refine HP.out.mono ?_
  rintro e w1 ⟨v1, rfl, ho1, hk1⟩
  have s1 := run_strK ho1.rd
  have HK1 := Lib.hid hk1
  have hz1 : (bs (be 2 a)).size = 2 := by rw [bs_size, be_len]
  clear HP ho1 hk1
  go_wp2_with fail
  go_loopw [3, 4] (fun v3 v4 wr => ∃ q : Nat, q ≤ c ∧ v3 = .string (bs (107 :: (be 2 a ++ List.replicate q 45))) ∧ v4 = .int .i64 q ∧ Hid (Keeps w wr (fun _ => False))) (fun _ v4 _ => c - (intOf v4).toNat)
  case atStart => exact ⟨0, Nat.zero_le _, by rw [List.replicate_zero, List.append_nil]; exact congrArg Value.string (bs_cat [107] (be 2 a)), rfl, HK1⟩
  case round =>
    obtain ⟨q, hq, rfl, rfl, hrel⟩ := hrel
    have hq0 : (0 : Int) ≤ q := by omega
    by_cases hlt : q < c
    · as_aux_lemma =>
      have hqc : (q : Int) < c := by omega
      have hlb : decide ((q : Int) < c) = true := by simp; omega
      have hlbn : decide (q < c) = true := by simp; omega
      obtain ⟨S, hS⟩ : ∃ S, S = 107 :: (be 2 a ++ List.replicate q 45) := ⟨_, rfl⟩
      have hsz : (bs S).size = 3 + q := by rw [hS, bs_size]; simp [be_len]; omega
      have HE : Hid (bs S ++ bs [45] = bs (107 :: (be 2 a ++ List.replicate (q + 1) 45))) := Lib.hid (by rw [bs_cat, hS, List.replicate_succ', List.cons_append, List.append_assoc])
      rw [← hS]
      clear hS
      go_wp2_with fail
      go_roundw
      case rel => exact ⟨q + 1, by omega, congrArg Value.string HE.out, by go_num, hrel⟩
      case measure => simp [intOf]; omega
    · as_aux_lemma =>
      obtain rfl : q = c := by omega
      have hlb : decide ((q : Int) < (q : Int)) = false := by simp
      have hlbn : decide (q < q) = false := by simp
      go_wp2_with fail
      first | exact ⟨rfl, hrel.out⟩ | (go_ret; exact ⟨rfl, hrel.out⟩)
end Go.Proofs.YtblpkifkaoaicaaGreat

namespace Go.Proofs.YtblpkifkaoaicaaGreat
open Go Go.RowKit Go.Maps Wb

def kvA (x : Nm × Nm) : Array Value := #[.string (bs x.1), .string (bs x.2)]
def kvsA (l : KVs) : List (Array Value) := l.map kvA
theorem kvsA_len (l : KVs) : (kvsA l).length = l.length := by simp [kvsA]
theorem kvsA_app (a b : KVs) : kvsA (a ++ b) = kvsA a ++ kvsA b := by simp [kvsA]
theorem kvsA_at {l : KVs} {j : Nat} {x : Nm × Nm} (h : l[j]? = some x) : (kvsA l)[j]? = some (kvA x) := by simp [kvsA, h]
theorem kvsA_size (l : KVs) : ∀ r ∈ kvsA l, r.size = 2 := by
  intro r hr
  obtain ⟨x, _, rfl⟩ := List.mem_map.1 hr
  rfl
theorem kvA_one (x : Nm × Nm) : (kvA x).all (·.oneCell') = true := by simp [kvA, Value.oneCell']
theorem kvsA_ones (l : KVs) : ∀ r ∈ kvsA l, r.all (·.oneCell') = true := by
  intro r hr
  obtain ⟨x, _, rfl⟩ := List.mem_map.1 hr
  exact kvA_one x
theorem infoKvZ : (Tryz.prog.info? 84).map (fun i => (i.zero, i.size, i.bytes)) = some (some (.agg (kvA ([], []))), 2, 32) := by kernel_rfl
theorem infoKvS : (Tryz.prog.info? 84).map (·.size) = some 2 := by kernel_rfl
theorem buildKv (k v : ByteArray) (w : World) : (Instr.build 84 #[(0, .string k), (1, .string v)]).run Tryz.prog w = .ok (.agg #[.string k, .string v]) w := by kernel_rfl
/-- The document's map in memory. -/
def isMp (w : World) (lo m : Nat) (F : KVs) : Prop := ∃ v, w.heap[m]? = some (.cells #[v] 31 (0, 0)) ∧ isOwnA w lo 84 2 v (kvsA F)
theorem isMp.new {w w' : World} {lo m : Nat} {F : KVs} (h : isMp w lo m F) (hk : Keeps w w' (fun _ => False)) : isMp w' lo m F := by
  obtain ⟨v, h2, h3⟩ := h
  exact ⟨v, hk.blk h2 (fun h => h), h3.new hk⟩
set_option maxRecDepth 100000 in
set_option maxHeartbeats 4000000 in
theorem do_calls (w : World) (lo m : Nat) (F : KVs) (key val : Nm) (del : Bool) (bo : Nat) (bv : Value) (hm : isMp w lo m F) (hs : (F.map (·.1)).Pairwise (· < ·)) (hl : F.length ≤ 1000) (hb : w.heap[bo]? = some (.cells #[.string (bs key), .bool del, bv] 38 (0, 0))) (hbv : isRd w bv (octs val)) :
    Calls Tryz.prog 15 #[.pointer (some ⟨m, 0, none⟩), .slice (some ⟨bo, 0, none⟩) 1 1] w fun e w' => e = .returned (.tuple #[]) ∧ isMp w' w.heap.size m (doM F key val del) ∧ Keeps w w' (· = m) := by
  obtain ⟨v, hmb, hov⟩ := hm
  obtain ⟨ad, c, rfl⟩ := hov.shape
  obtain ⟨n, hn⟩ : ∃ n, n = F.length := ⟨_, rfl⟩
  obtain ⟨kk, hkk⟩ : ∃ kk, kk = lowK (F.map (·.1)) key := ⟨_, rfl⟩
  rw [kvsA_len, ← hn] at hmb hov
  have hkn : kk ≤ n := by have := lowK_le (F.map (·.1)) key; rw [List.length_map] at this; omega
  have HC : Hid (∀ W, Keeps w W (fun _ => False) → W.cell? ⟨m, 0, none⟩ = some (.slice ad n c) ∧ W.cell? ⟨bo, 0, none⟩ = some (.string (bs key)) ∧ W.cell? ⟨bo, 1, none⟩ = some (.bool del) ∧ W.cell? ⟨bo, 2, none⟩ = some bv) := Lib.hid fun W hk => by
    have h1 := hk.blk hmb (fun h => h)
    have h2 := hk.blk hb (fun h => h)
    exact ⟨by rw [cell_of_block h1]; rfl, by rw [cell_of_block h2]; rfl, by rw [cell_of_block h2]; rfl, by rw [cell_of_block h2]; rfl⟩
  have HROW : Hid (∀ j, j < n → ∃ g x, ad = some ⟨g, 0, none⟩ ∧ F[j]? = some x ∧ (j < kk → x.1 < key) ∧ (kk ≤ j → ¬ x.1 < key) ∧ ∀ W, Keeps w W (fun _ => False) → W.cell? ⟨g, j * 2, none⟩ = some (.string (bs x.1))) := Lib.hid fun j hj => by
    have hx : F[j]? = some (F[j]'(by omega)) := List.getElem?_eq_getElem _
    obtain ⟨g, c', e, _, _, _, hr⟩ := hov.at (kvsA_at hx)
    injection e with e1 e2 e3
    have hx1 : (F.map (·.1))[j]? = some (F[j]'(by omega)).1 := by rw [List.getElem?_map, hx]; rfl
    refine ⟨g, _, e1, hx, fun h => lowK_below (by rw [← hkk]; exact h) hx1, fun h => lowK_above hs (by rw [← hkk]; exact h) hx1, fun W hk => Keeps.cellK hk ?_⟩
    have := hr 0 _ rfl
    simpa using this
  have hni : (n : Int) ≤ 1000 := by omega
  have hn0 : (0 : Int) ≤ n := by omega
  have HKN := Lib.hid hkn
  have HKK := Lib.hid hkk
  have HN := Lib.hid hn
  have HOV := Lib.hid hov
  have HMB := Lib.hid hmb
  have HBV := Lib.hid hbv
  clear hmb hov hb hbv hs hl hkn hkk hn
  go_enter Tryz.func15, Tryz.ntmps15
  go_wp2_with fail
  go_loopw [4] (fun v4 wr => (v4 = .int .i64 0 ∧ Hid (wr = w)) ∨ (v4 = .int .i64 1 ∧ Hid (isMp wr w.heap.size m (doM F key val del) ∧ Keeps w wr (· = m)))) (fun v4 _ => 1 - (intOf v4).toNat)
  case atStart => exact .inl ⟨rfl, Lib.hid rfl⟩
  case round =>
    rcases hrel with ⟨rfl, hw⟩ | ⟨rfl, hw⟩
    · as_aux_lemma =>
      have hw := hw.out.symm
      subst hw
      go_upto_block 2 with fail
      go_cut [5] (fun v5 wx => v5 = .int .i64 kk ∧ Hid (Keeps w wx (fun _ => False)))
      case first =>
        go_wp2_with fail
        go_loopw [5] (fun v5 wx => ∃ q : Nat, q ≤ kk ∧ v5 = .int .i64 q ∧ Hid (Keeps w wx (fun _ => False))) (fun v5 _ => kk - (intOf v5).toNat)
        case atStart => exact ⟨0, Nat.zero_le _, rfl, Lib.hid (Keeps.refl _ _)⟩
        case round =>
          obtain ⟨q, hq, rfl, hrel⟩ := hrel
          have hq0 : (0 : Int) ≤ q := by omega
          obtain ⟨c0, c1, c2, c3⟩ := HC.out _ hrel.out.drew
          have HR1 := Lib.hid hrel.out.drew
          by_cases hlt : q < n
          · obtain ⟨g, x, rfl, hx, hlow, habove, hcell⟩ := HROW.out q hlt
            have hlb : decide ((q : Int) < n) = true := by simp; omega
            have hlbn : decide (q < n) = true := by simp; omega
            have hqn : (q : Int) < n := by omega
            have hless := less_str x.1 key
            have cx := hcell _ hrel.out.drew
            have HS : (fun (w' : World) => w'.cell? ⟨m, 0, none⟩ = some (.slice (some ⟨g, 0, none⟩) n c) ∧ w'.cell? ⟨bo, 0, none⟩ = some (.string (bs key)) ∧ w'.cell? ⟨g, q * 2, none⟩ = some (.string (bs x.1))) wr.drew := ⟨c0, c1, cx⟩
            by_cases hk : q < kk
            · as_aux_lemma =>
              rw [decide_eq_true (hlow hk)] at hless
              clear hrel hlow habove hcell hx
              go_wp2_with fail
              refine wp_region_held_drew (S := (fun (w' : World) => w'.cell? ⟨m, 0, none⟩ = some (.slice (some ⟨g, 0, none⟩) n c) ∧ w'.cell? ⟨bo, 0, none⟩ = some (.string (bs key)) ∧ w'.cell? ⟨g, q * 2, none⟩ = some (.string (bs x.1)))) (by kernel_rfl) HS (fun _ => ?_)
              refine rg_t 0 (v := ?_) rfl (by kernel_rfl) (fun _ _ _ h => h) HS ?_ ?_ ?_; rotate_left; rfl; focus (intro w hSw; (try dsimp only at hSw); go_simp; all_goals (with_reducible rfl))
              simp only [Act.put, l_a, l_s, l_z]
              refine rg_t 1 (v := ?_) rfl (by kernel_rfl) (fun _ _ _ h => h) HS ?_ ?_ ?_; rotate_left; rfl; focus (intro w hSw; (try dsimp only at hSw); go_simp; all_goals (with_reducible rfl))
              simp only [Act.put, l_a, l_s, l_z]
              refine rg_t 2 (v := ?_) rfl (by kernel_rfl) (fun _ _ _ h => h) HS ?_ ?_ ?_; rotate_left; rfl; focus (intro w hSw; (try dsimp only at hSw); go_simp; all_goals (with_reducible rfl))
              simp only [Act.put, l_a, l_s, l_z]
              refine rg_t 3 (v := ?_) rfl (by kernel_rfl) (fun _ _ _ h => h) HS ?_ ?_ ?_; rotate_left; rfl; focus (intro w hSw; (try dsimp only at hSw); go_simp; all_goals (with_reducible rfl))
              simp only [Act.put, l_a, l_s, l_z]
              refine rg_t 4 (v := ?_) rfl (by kernel_rfl) (fun _ _ _ h => h) HS ?_ ?_ ?_; rotate_left; rfl; focus (intro w hSw; (try dsimp only at hSw); go_simp; all_goals (with_reducible rfl))
              simp only [Act.put, l_a, l_s, l_z]
              refine rg_t 5 (v := ?_) rfl (by kernel_rfl) (fun _ _ _ h => h) HS ?_ ?_ ?_; rotate_left; rfl; focus (intro w hSw; (try dsimp only at hSw); go_simp; all_goals (with_reducible rfl))
              simp only [Act.put, l_a, l_s, l_z]
              refine rg_t 6 (v := ?_) rfl (by kernel_rfl) (fun _ _ _ h => h) HS ?_ ?_ ?_; rotate_left; rfl; focus (intro w hSw; (try dsimp only at hSw); go_simp; all_goals (with_reducible rfl))
              simp only [Act.put, l_a, l_s, l_z]
              refine rg_t 7 (v := ?_) rfl (by kernel_rfl) (fun _ _ _ h => h) HS ?_ ?_ ?_; rotate_left; rfl; focus (intro w hSw; (try dsimp only at hSw); go_simp; all_goals (with_reducible rfl))
              simp only [Act.put, l_a, l_s, l_z]
              refine rg_t 8 (v := ?_) rfl (by kernel_rfl) (fun _ _ _ h => h) HS ?_ ?_ ?_; rotate_left; rfl; focus (intro w hSw; (try dsimp only at hSw); go_simp; all_goals (with_reducible rfl))
              simp only [Act.put, l_a, l_s, l_z]
              refine rg_t 9 (v := ?_) rfl (by kernel_rfl) (fun _ _ _ h => h) HS ?_ ?_ ?_; rotate_left; rfl; focus (intro w hSw; (try dsimp only at hSw); go_simp; all_goals (with_reducible rfl))
              simp only [Act.put, l_a, l_s, l_z]
              refine rg_t 10 (v := ?_) rfl (by kernel_rfl) (fun _ _ _ h => h) HS ?_ ?_ ?_; rotate_left; rfl; focus (intro w hSw; (try dsimp only at hSw); go_simp; all_goals (with_reducible rfl))
              simp only [Act.put, l_a, l_s, l_z]
              refine rg_t 11 (v := ?_) rfl (by kernel_rfl) (fun _ _ _ h => h) HS ?_ ?_ ?_; rotate_left; rfl; focus (intro w hSw; (try dsimp only at hSw); go_simp; all_goals (with_reducible rfl))
              simp only [Act.put, l_a, l_s, l_z]
              refine rg_t 12 (v := ?_) rfl (by kernel_rfl) (fun _ _ _ h => h) HS ?_ ?_ ?_; rotate_left; rfl; focus (intro w hSw; (try dsimp only at hSw); go_simp; all_goals (with_reducible rfl))
              simp only [Act.put, l_a, l_s, l_z]
              refine rg_t 13 (v := ?_) rfl (by kernel_rfl) (fun _ _ _ h => h) HS ?_ ?_ ?_; rotate_left; rfl; focus (intro w hSw; (try dsimp only at hSw); go_simp; all_goals (with_reducible rfl))
              simp only [Act.put, l_a, l_s, l_z]
              refine rg_t 14 (v := ?_) rfl (by kernel_rfl) (fun _ _ _ h => h) HS ?_ ?_ ?_; rotate_left; rfl; focus (intro w hSw; (try dsimp only at hSw); go_simp; all_goals (with_reducible rfl))
              simp only [Act.put, l_a, l_s, l_z]
              refine rg_t 15 (v := ?_) rfl (by kernel_rfl) (fun _ _ _ h => h) HS ?_ ?_ ?_; rotate_left; rfl; focus (intro w hSw; (try dsimp only at hSw); go_simp; all_goals (with_reducible rfl))
              simp only [Act.put, l_a, l_s, l_z]
              refine rg_t 16 (v := ?_) rfl (by kernel_rfl) (fun _ _ _ h => h) HS ?_ ?_ ?_; rotate_left; rfl; focus (intro w hSw; (try dsimp only at hSw); go_simp; all_goals (with_reducible rfl))
              simp only [Act.put, l_a, l_s, l_z]
              refine rg_t 17 (v := ?_) rfl (by kernel_rfl) (fun _ _ _ h => h) HS ?_ ?_ ?_; rotate_left; rfl; focus (intro w hSw; (try dsimp only at hSw); go_simp; all_goals (with_reducible rfl))
              simp only [Act.put, l_a, l_s, l_z]
              refine rg_t 18 (v := ?_) rfl (by kernel_rfl) (fun _ _ _ h => h) HS ?_ ?_ ?_; rotate_left; rfl; focus (intro w hSw; (try dsimp only at hSw); go_simp; all_goals (with_reducible rfl))
              simp only [Act.put, l_a, l_s, l_z]
              refine rg_t 19 (v := ?_) rfl (by kernel_rfl) (fun _ _ _ h => h) HS ?_ ?_ ?_; rotate_left; rfl; focus (intro w hSw; (try dsimp only at hSw); go_simp; all_goals (with_reducible rfl))
              simp only [Act.put, l_a, l_s, l_z]
              refine rg_t 20 (v := ?_) rfl (by kernel_rfl) (fun _ _ _ h => h) HS ?_ ?_ ?_; rotate_left; rfl; focus (intro w hSw; (try dsimp only at hSw); go_simp; all_goals (with_reducible rfl))
              simp only [Act.put, l_a, l_s, l_z]
              refine rg_t 21 (v := ?_) rfl (by kernel_rfl) (fun _ _ _ h => h) HS ?_ ?_ ?_; rotate_left; rfl; focus (intro w hSw; (try dsimp only at hSw); go_simp; all_goals (with_reducible rfl))
              simp only [Act.put, l_a, l_s, l_z]
              refine rg_t 22 (v := ?_) rfl (by kernel_rfl) (fun _ _ _ h => h) HS ?_ ?_ ?_; rotate_left; rfl; focus (intro w hSw; (try dsimp only at hSw); go_simp; all_goals (with_reducible rfl))
              simp only [Act.put, l_a, l_s, l_z]
              refine wpAnyH_done (by kernel_rfl) ?_ _
              go_wp2_with fail
              go_roundw
              case rel => exact ⟨q + 1, by omega, by go_num, HR1⟩
              case measure => simp [intOf]; omega
            · as_aux_lemma =>
              obtain rfl : q = kk := by omega
              rw [decide_eq_false (habove (Nat.le_refl _))] at hless
              clear hrel hlow habove hcell hx
              go_wp2_with fail
              refine wp_region_held_drew (S := (fun (w' : World) => w'.cell? ⟨m, 0, none⟩ = some (.slice (some ⟨g, 0, none⟩) n c) ∧ w'.cell? ⟨bo, 0, none⟩ = some (.string (bs key)) ∧ w'.cell? ⟨g, q * 2, none⟩ = some (.string (bs x.1)))) (by kernel_rfl) HS (fun _ => ?_)
              refine rg_t 0 (v := ?_) rfl (by kernel_rfl) (fun _ _ _ h => h) HS ?_ ?_ ?_; rotate_left; rfl; focus (intro w hSw; (try dsimp only at hSw); go_simp; all_goals (with_reducible rfl))
              simp only [Act.put, l_a, l_s, l_z]
              refine rg_t 1 (v := ?_) rfl (by kernel_rfl) (fun _ _ _ h => h) HS ?_ ?_ ?_; rotate_left; rfl; focus (intro w hSw; (try dsimp only at hSw); go_simp; all_goals (with_reducible rfl))
              simp only [Act.put, l_a, l_s, l_z]
              refine rg_t 2 (v := ?_) rfl (by kernel_rfl) (fun _ _ _ h => h) HS ?_ ?_ ?_; rotate_left; rfl; focus (intro w hSw; (try dsimp only at hSw); go_simp; all_goals (with_reducible rfl))
              simp only [Act.put, l_a, l_s, l_z]
              refine rg_t 3 (v := ?_) rfl (by kernel_rfl) (fun _ _ _ h => h) HS ?_ ?_ ?_; rotate_left; rfl; focus (intro w hSw; (try dsimp only at hSw); go_simp; all_goals (with_reducible rfl))
              simp only [Act.put, l_a, l_s, l_z]
              refine rg_t 4 (v := ?_) rfl (by kernel_rfl) (fun _ _ _ h => h) HS ?_ ?_ ?_; rotate_left; rfl; focus (intro w hSw; (try dsimp only at hSw); go_simp; all_goals (with_reducible rfl))
              simp only [Act.put, l_a, l_s, l_z]
              refine rg_t 5 (v := ?_) rfl (by kernel_rfl) (fun _ _ _ h => h) HS ?_ ?_ ?_; rotate_left; rfl; focus (intro w hSw; (try dsimp only at hSw); go_simp; all_goals (with_reducible rfl))
              simp only [Act.put, l_a, l_s, l_z]
              refine rg_t 6 (v := ?_) rfl (by kernel_rfl) (fun _ _ _ h => h) HS ?_ ?_ ?_; rotate_left; rfl; focus (intro w hSw; (try dsimp only at hSw); go_simp; all_goals (with_reducible rfl))
              simp only [Act.put, l_a, l_s, l_z]
              refine rg_t 7 (v := ?_) rfl (by kernel_rfl) (fun _ _ _ h => h) HS ?_ ?_ ?_; rotate_left; rfl; focus (intro w hSw; (try dsimp only at hSw); go_simp; all_goals (with_reducible rfl))
              simp only [Act.put, l_a, l_s, l_z]
              refine rg_t 8 (v := ?_) rfl (by kernel_rfl) (fun _ _ _ h => h) HS ?_ ?_ ?_; rotate_left; rfl; focus (intro w hSw; (try dsimp only at hSw); go_simp; all_goals (with_reducible rfl))
              simp only [Act.put, l_a, l_s, l_z]
              refine rg_t 9 (v := ?_) rfl (by kernel_rfl) (fun _ _ _ h => h) HS ?_ ?_ ?_; rotate_left; rfl; focus (intro w hSw; (try dsimp only at hSw); go_simp; all_goals (with_reducible rfl))
              simp only [Act.put, l_a, l_s, l_z]
              refine rg_t 10 (v := ?_) rfl (by kernel_rfl) (fun _ _ _ h => h) HS ?_ ?_ ?_; rotate_left; rfl; focus (intro w hSw; (try dsimp only at hSw); go_simp; all_goals (with_reducible rfl))
              simp only [Act.put, l_a, l_s, l_z]
              refine rg_t 11 (v := ?_) rfl (by kernel_rfl) (fun _ _ _ h => h) HS ?_ ?_ ?_; rotate_left; rfl; focus (intro w hSw; (try dsimp only at hSw); go_simp; all_goals (with_reducible rfl))
              simp only [Act.put, l_a, l_s, l_z]
              refine rg_t 12 (v := ?_) rfl (by kernel_rfl) (fun _ _ _ h => h) HS ?_ ?_ ?_; rotate_left; rfl; focus (intro w hSw; (try dsimp only at hSw); go_simp; all_goals (with_reducible rfl))
              simp only [Act.put, l_a, l_s, l_z]
              refine rg_t 13 (v := ?_) rfl (by kernel_rfl) (fun _ _ _ h => h) HS ?_ ?_ ?_; rotate_left; rfl; focus (intro w hSw; (try dsimp only at hSw); go_simp; all_goals (with_reducible rfl))
              simp only [Act.put, l_a, l_s, l_z]
              refine rg_t 14 (v := ?_) rfl (by kernel_rfl) (fun _ _ _ h => h) HS ?_ ?_ ?_; rotate_left; rfl; focus (intro w hSw; (try dsimp only at hSw); go_simp; all_goals (with_reducible rfl))
              simp only [Act.put, l_a, l_s, l_z]
              refine rg_t 15 (v := ?_) rfl (by kernel_rfl) (fun _ _ _ h => h) HS ?_ ?_ ?_; rotate_left; rfl; focus (intro w hSw; (try dsimp only at hSw); go_simp; all_goals (with_reducible rfl))
              simp only [Act.put, l_a, l_s, l_z]
              refine rg_t 16 (v := ?_) rfl (by kernel_rfl) (fun _ _ _ h => h) HS ?_ ?_ ?_; rotate_left; rfl; focus (intro w hSw; (try dsimp only at hSw); go_simp; all_goals (with_reducible rfl))
              simp only [Act.put, l_a, l_s, l_z]
              refine rg_t 17 (v := ?_) rfl (by kernel_rfl) (fun _ _ _ h => h) HS ?_ ?_ ?_; rotate_left; rfl; focus (intro w hSw; (try dsimp only at hSw); go_simp; all_goals (with_reducible rfl))
              simp only [Act.put, l_a, l_s, l_z]
              refine rg_t 18 (v := ?_) rfl (by kernel_rfl) (fun _ _ _ h => h) HS ?_ ?_ ?_; rotate_left; rfl; focus (intro w hSw; (try dsimp only at hSw); go_simp; all_goals (with_reducible rfl))
              simp only [Act.put, l_a, l_s, l_z]
              refine rg_t 19 (v := ?_) rfl (by kernel_rfl) (fun _ _ _ h => h) HS ?_ ?_ ?_; rotate_left; rfl; focus (intro w hSw; (try dsimp only at hSw); go_simp; all_goals (with_reducible rfl))
              simp only [Act.put, l_a, l_s, l_z]
              refine rg_t 20 (v := ?_) rfl (by kernel_rfl) (fun _ _ _ h => h) HS ?_ ?_ ?_; rotate_left; rfl; focus (intro w hSw; (try dsimp only at hSw); go_simp; all_goals (with_reducible rfl))
              simp only [Act.put, l_a, l_s, l_z]
              refine rg_t 21 (v := ?_) rfl (by kernel_rfl) (fun _ _ _ h => h) HS ?_ ?_ ?_; rotate_left; rfl; focus (intro w hSw; (try dsimp only at hSw); go_simp; all_goals (with_reducible rfl))
              simp only [Act.put, l_a, l_s, l_z]
              refine rg_t 22 (v := ?_) rfl (by kernel_rfl) (fun _ _ _ h => h) HS ?_ ?_ ?_; rotate_left; rfl; focus (intro w hSw; (try dsimp only at hSw); go_simp; all_goals (with_reducible rfl))
              simp only [Act.put, l_a, l_s, l_z]
              refine wpAnyH_done (by kernel_rfl) ?_ _
              go_wp2_with fail
              go_meet
              exact ⟨rfl, HR1⟩
          · as_aux_lemma =>
            obtain rfl : q = kk := by have := HKN.out; omega
            have hlb : decide ((q : Int) < n) = false := by simp; omega
            have hlbn : decide (q < n) = false := by simp; omega
            have HS : (fun (w' : World) => w'.cell? ⟨m, 0, none⟩ = some (.slice ad n c)) wr.drew := c0
            clear hrel
            go_wp2_with fail
            refine wp_region_held_drew (S := (fun (w' : World) => w'.cell? ⟨m, 0, none⟩ = some (.slice ad n c))) (by kernel_rfl) HS (fun _ => ?_)
            refine rg_t 0 (v := ?_) rfl (by kernel_rfl) (fun _ _ _ h => h) HS ?_ ?_ ?_; rotate_left; rfl; focus (intro w hSw; (try dsimp only at hSw); go_simp; all_goals (with_reducible rfl))
            simp only [Act.put, l_a, l_s, l_z]
            refine rg_t 1 (v := ?_) rfl (by kernel_rfl) (fun _ _ _ h => h) HS ?_ ?_ ?_; rotate_left; rfl; focus (intro w hSw; (try dsimp only at hSw); go_simp; all_goals (with_reducible rfl))
            simp only [Act.put, l_a, l_s, l_z]
            refine rg_t 2 (v := ?_) rfl (by kernel_rfl) (fun _ _ _ h => h) HS ?_ ?_ ?_; rotate_left; rfl; focus (intro w hSw; (try dsimp only at hSw); go_simp; all_goals (with_reducible rfl))
            simp only [Act.put, l_a, l_s, l_z]
            refine rg_t 3 (v := ?_) rfl (by kernel_rfl) (fun _ _ _ h => h) HS ?_ ?_ ?_; rotate_left; rfl; focus (intro w hSw; (try dsimp only at hSw); go_simp; all_goals (with_reducible rfl))
            simp only [Act.put, l_a, l_s, l_z]
            refine rg_t 4 (v := ?_) rfl (by kernel_rfl) (fun _ _ _ h => h) HS ?_ ?_ ?_; rotate_left; rfl; focus (intro w hSw; (try dsimp only at hSw); go_simp; all_goals (with_reducible rfl))
            simp only [Act.put, l_a, l_s, l_z]
            refine rg_t 5 (v := ?_) rfl (by kernel_rfl) (fun _ _ _ h => h) HS ?_ ?_ ?_; rotate_left; rfl; focus (intro w hSw; (try dsimp only at hSw); go_simp; all_goals (with_reducible rfl))
            simp only [Act.put, l_a, l_s, l_z]
            refine rg_t 6 (v := ?_) rfl (by kernel_rfl) (fun _ _ _ h => h) HS ?_ ?_ ?_; rotate_left; rfl; focus (intro w hSw; (try dsimp only at hSw); go_simp; all_goals (with_reducible rfl))
            simp only [Act.put, l_a, l_s, l_z]
            refine rg_t 7 (v := ?_) rfl (by kernel_rfl) (fun _ _ _ h => h) HS ?_ ?_ ?_; rotate_left; rfl; focus (intro w hSw; (try dsimp only at hSw); go_simp; all_goals (with_reducible rfl))
            simp only [Act.put, l_a, l_s, l_z]
            refine rg_s 8 rfl (by kernel_rfl) (fun _ _ _ h => h) HS ?_ ?_; rfl
            simp only [Act.put, l_a, l_s, l_z]
            refine rg_s 9 rfl (by kernel_rfl) (fun _ _ _ h => h) HS ?_ ?_; rfl
            simp only [Act.put, l_a, l_s, l_z]
            refine rg_s 10 rfl (by kernel_rfl) (fun _ _ _ h => h) HS ?_ ?_; rfl
            simp only [Act.put, l_a, l_s, l_z]
            refine rg_s 11 rfl (by kernel_rfl) (fun _ _ _ h => h) HS ?_ ?_; rfl
            simp only [Act.put, l_a, l_s, l_z]
            refine rg_s 12 rfl (by kernel_rfl) (fun _ _ _ h => h) HS ?_ ?_; rfl
            simp only [Act.put, l_a, l_s, l_z]
            refine rg_s 13 rfl (by kernel_rfl) (fun _ _ _ h => h) HS ?_ ?_; rfl
            simp only [Act.put, l_a, l_s, l_z]
            refine rg_s 14 rfl (by kernel_rfl) (fun _ _ _ h => h) HS ?_ ?_; rfl
            simp only [Act.put, l_a, l_s, l_z]
            refine rg_s 15 rfl (by kernel_rfl) (fun _ _ _ h => h) HS ?_ ?_; rfl
            simp only [Act.put, l_a, l_s, l_z]
            refine rg_s 16 rfl (by kernel_rfl) (fun _ _ _ h => h) HS ?_ ?_; rfl
            simp only [Act.put, l_a, l_s, l_z]
            refine rg_s 17 rfl (by kernel_rfl) (fun _ _ _ h => h) HS ?_ ?_; rfl
            simp only [Act.put, l_a, l_s, l_z]
            refine rg_s 18 rfl (by kernel_rfl) (fun _ _ _ h => h) HS ?_ ?_; rfl
            simp only [Act.put, l_a, l_s, l_z]
            refine rg_s 19 rfl (by kernel_rfl) (fun _ _ _ h => h) HS ?_ ?_; rfl
            simp only [Act.put, l_a, l_s, l_z]
            refine rg_s 20 rfl (by kernel_rfl) (fun _ _ _ h => h) HS ?_ ?_; rfl
            simp only [Act.put, l_a, l_s, l_z]
            refine rg_s 21 rfl (by kernel_rfl) (fun _ _ _ h => h) HS ?_ ?_; rfl
            simp only [Act.put, l_a, l_s, l_z]
            refine rg_t 22 (v := ?_) rfl (by kernel_rfl) (fun _ _ _ h => h) HS ?_ ?_ ?_; rotate_left; rfl; focus (intro w hSw; (try dsimp only at hSw); go_simp; all_goals (with_reducible rfl))
            simp only [Act.put, l_a, l_s, l_z]
            refine wpAnyH_done (by kernel_rfl) ?_ _
            go_wp2_with fail
            go_meet
            exact ⟨rfl, HR1⟩
      case rest =>
        obtain ⟨wx, hwx⟩ : ∃ x, x = wc := ⟨wc, rfl⟩
        rw [← hwx] at hcut ⊢
        clear hwx
        obtain ⟨rfl, hcut⟩ := hcut
        obtain ⟨cm, ck, cd, cb⟩ := HC.out _ hcut.out
        have HCU := Lib.hid hcut.out
        have HNC : Hid (n ≤ c) := Lib.hid (by
          obtain ⟨_, c', e, h1, _⟩ := (HOV.out).rd
          injection e with e1 e2 e3
          rw [e3, e2]; exact h1)
        have hov0 := isOwnA.new HOV.out hcut.out
        have htk : (kvsA F).take kk = kvsA (F.take kk) := by unfold kvsA; rw [List.map_take]
        have HT6 : Hid (∀ W, Keeps wx W (fun _ => False) → isRdA W 2 (.slice ad kk c) (kvsA (F.take kk))) := Lib.hid fun W hk => by
          rw [← htk]
          exact (isOwnA.cut (isOwnA.new hov0 hk) HKN.out).rd
        have HT6N : Hid (∀ cap, Value.slice ad kk c = .slice none 0 cap → cap = 0) := Lib.hid (isOwnA.cut hov0 HKN.out).nilcap
        have HLE : Hid (∀ k, (kvsA (F.take kk ++ if del = true then [] else [(key, val)])).length + (kvsA (F.drop k)).length ≤ maxLen ∧ ((kvsA (F.take kk ++ if del = true then [] else [(key, val)])).length + (kvsA (F.drop k)).length) * 32 ≤ 140737488355328) := Lib.hid fun k => by
          have h1 : (kvsA (F.take kk ++ if del = true then [] else [(key, val)])).length ≤ n + 1 := by
            rw [kvsA_len, List.length_append, List.length_take]
            have : (if del = true then ([] : KVs) else [(key, val)]).length ≤ 1 := by split <;> simp
            have := HN.out
            omega
          have h2 : (kvsA (F.drop k)).length ≤ n := by rw [kvsA_len, List.length_drop, ← HN.out]; omega
          unfold maxLen
          omega
        have HFZ : Hid (∀ W, Keeps w W (fun _ => False) → W.frozen? ⟨m, 0, none⟩ = false) := Lib.hid fun W hk => free_of_block (hk.blk HMB.out (fun h => h)) 0
        have HFIN : Hid (∀ W R rows0 v' W' D, Keeps w W (fun _ => False) → isOwnA W w.heap.size 84 2 R rows0 → AppendedA W w.heap.size 84 2 R (kvsA D) v' W' → D = doM F key val del → W'.cell? ⟨m, 0, none⟩ = some (.slice ad n c) ∧ W'.frozen? ⟨m, 0, none⟩ = false ∧ isMp (W'.setCell ⟨m, 0, none⟩ v') w.heap.size m (doM F key val del) ∧ Keeps w (W'.setCell ⟨m, 0, none⟩ v') (· = m)) := Lib.hid (fun W R rows0 v' W' D hk ho ha hD => by
          have hkk' : Keeps w W' (fun _ => False) := hk.then ha.2.1 (fun i hi e => by have := (ho.blk i e).1; omega)
          have hmb' := hkk'.blk HMB.out (fun h => h)
          have hks := keeps_cell W' m 0 v'
          have hnm : ∀ g, v'.ownBlock = some g → ¬ g = m := fun g hg e => by
            subst e
            have := (ha.1.blk _ hg).1
            have := lt_of_blk HMB.out
            omega
          refine ⟨by rw [cell_of_block hmb']; rfl, free_of_block hmb' 0, ⟨v', blk_setCell hmb' 0 v', ?_⟩, (hkk'.mono (fun _ _ h => h.elim)).trans hks⟩
          rw [← hD]
          exact ha.1.kept hks (fun g hg e => hnm g hg e))
        clear hov0 htk hcut
        go_upto_if 51 with (first
          | (refine wl_sliceA0 rfl _ rfl 84 _ 2 32 Tryz.underlying29 infoKvZ ?_; intro b6 w6 hb6 HB6 HK6; have cm6 := (HC.out _ (HCU.out.trans HK6)).1)
          | (refine wl_cutH rfl _ 84 _ (some _) rfl Tryz.underlying29 2 infoKvS ad n c rfl kk _ rfl rfl (Nat.le_trans HKN.out HNC.out) ?_)
          | (at_builtin; refine wl_appendRA rfl _ _ _ rfl 84 _ 2 32 Tryz.underlying29 infoKvZ rfl (by decide) w.heap.size _ [] rfl (isOwnA_empty HB6 (Nat.le_trans HCU.out.size hb6)) _ (kvsA (F.take kk)) rfl (HT6.out _ HK6) HT6N.out (kvsA_size _) (kvsA_ones _) (by have := (HLE.out n).1; rw [kvsA_len, List.length_append, List.length_take] at this; rw [kvsA_len, List.length_take, List.length_nil]; unfold maxLen at this ⊢; omega) (by have := (HLE.out n).2; rw [kvsA_len, List.length_append, List.length_take] at this; rw [kvsA_len, List.length_take, List.length_nil]; omega) (HCU.out.trans HK6).size ?_; intro v7 w7 hap7; have HA7 : Hid (isOwnA w7 w.heap.size 84 2 v7 (kvsA (F.take kk)) ∧ Keeps w w7 (fun _ => False)) := Lib.hid ⟨by simpa using hap7.1, (HCU.out.trans HK6).then hap7.2.1 (fun i hi e => by have e' : b6 = i := Option.some.inj e; have := HCU.out.size; omega)⟩; obtain ⟨_, ck7, cd7, cb7⟩ := HC.out _ HA7.out.2; clear hap7)
          | fail)
        go_cut [6] (fun v6 wy => ∃ a6 n6 c6, v6 = .slice a6 n6 c6 ∧ Hid (isOwnA wy w.heap.size 84 2 (.slice a6 n6 c6) (kvsA (F.take kk ++ if del = true then [] else [(key, val)])) ∧ Keeps w wy (fun _ => False)))
        case first =>
          clear HFIN HFZ HLE HROW
          cases del with
          | true =>
            as_aux_lemma =>
            obtain ⟨a7, c7, e7⟩ := isOwnA.shape HA7.out.1
            subst e7
            go_wp2_with fail
            go_meet
            exact ⟨a7, _, c7, rfl, Lib.hid ⟨by simpa using HA7.out.1, HA7.out.2⟩⟩
          | false =>
            as_aux_lemma =>
            obtain ⟨a7, c7, e7⟩ := isOwnA.shape HA7.out.1
            subst e7
            have HSF : Hid (∀ W, Keeps w7 W (fun _ => False) → W.cell? ⟨bo, 0, none⟩ = some (.string (bs key)) ∧ W.cell? ⟨bo, 2, none⟩ = some bv ∧ (convert 36 9 bv).run Tryz.prog W = .ok (.string (bs val)) W) := Lib.hid (fun W hk => by
              obtain ⟨_, q1, _, q2⟩ := HC.out _ (HA7.out.2.trans hk)
              exact ⟨q1, q2, run_strK (isRd.new HBV.out (HA7.out.2.trans hk))⟩)
            have HS := HSF.out _ (Keeps.refl w7 (fun _ => False)).drew
            go_wp2_with fail
            refine wp_region_held_drew (S := (fun (W : World) => W.cell? ⟨bo, 0, none⟩ = some (.string (bs key)) ∧ W.cell? ⟨bo, 2, none⟩ = some bv ∧ (convert 36 9 bv).run Tryz.prog W = .ok (.string (bs val)) W)) (by kernel_rfl) HS (fun _ => ?_)
            refine rg_t 0 (v := ?_) rfl (by kernel_rfl) (fun _ _ _ h => h) HS ?_ ?_ ?_; rotate_left; rfl; focus (intro w hSw; (try dsimp only at hSw); go_simp; all_goals (with_reducible rfl))
            simp only [Act.put, l_a, l_s, l_z]
            refine rg_t 1 (v := ?_) rfl (by kernel_rfl) (fun _ _ _ h => h) HS ?_ ?_ ?_; rotate_left; rfl; focus (intro w hSw; (try dsimp only at hSw); go_simp; all_goals (with_reducible rfl))
            simp only [Act.put, l_a, l_s, l_z]
            refine rg_t 2 (v := ?_) rfl (by kernel_rfl) (fun _ _ _ h => h) HS ?_ ?_ ?_; rotate_left; rfl; focus (intro w hSw; (try dsimp only at hSw); go_simp; all_goals (with_reducible rfl))
            simp only [Act.put, l_a, l_s, l_z]
            refine rg_t 3 (v := ?_) rfl (by kernel_rfl) (fun _ _ _ h => h) HS ?_ ?_ ?_; rotate_left; rfl; focus (intro w hSw; (try dsimp only at hSw); go_simp; all_goals (with_reducible rfl))
            simp only [Act.put, l_a, l_s, l_z]
            refine rg_t 4 (v := ?_) rfl (by kernel_rfl) (fun _ _ _ h => h) HS ?_ ?_ ?_; rotate_left; rfl; focus (intro w hSw; (try dsimp only at hSw); go_simp; all_goals (with_reducible rfl))
            simp only [Act.put, l_a, l_s, l_z]
            refine rg_t 5 (v := ?_) rfl (by kernel_rfl) (fun _ _ _ h => h) HS ?_ ?_ ?_; rotate_left; rfl; focus (intro w hSw; (try dsimp only at hSw); go_simp; all_goals (with_reducible rfl))
            simp only [Act.put, l_a, l_s, l_z]
            refine rg_t 6 (v := ?_) rfl (by kernel_rfl) (fun _ _ _ h => h) HS ?_ ?_ ?_; rotate_left; rfl; focus (intro w hSw; (try dsimp only at hSw); go_simp; all_goals (with_reducible rfl))
            simp only [Act.put, l_a, l_s, l_z]
            refine rg_t 7 (v := ?_) rfl (by kernel_rfl) (fun _ _ _ h => h) HS ?_ ?_ ?_; rotate_left; rfl; focus (intro w hSw; (try dsimp only at hSw); go_simp; all_goals (with_reducible rfl))
            simp only [Act.put, l_a, l_s, l_z]
            refine rg_t 8 (v := ?_) rfl (by kernel_rfl) (fun _ _ _ h => h) HS ?_ ?_ ?_; rotate_left; rfl; focus (intro w hSw; (try dsimp only at hSw); go_simp; all_goals (with_reducible rfl))
            simp only [Act.put, l_a, l_s, l_z]
            refine rg_t 9 (v := ?_) rfl (by kernel_rfl) (fun _ _ _ h => h) HS ?_ ?_ ?_; rotate_left; rfl; focus (intro w hSw; (try dsimp only at hSw); go_simp; all_goals (with_reducible rfl))
            simp only [Act.put, l_a, l_s, l_z]
            refine rg_t 10 (v := ?_) rfl (by kernel_rfl) (fun _ _ _ h => h) HS ?_ ?_ ?_; rotate_left; rfl; focus (intro w hSw; (try dsimp only at hSw); go_simp; all_goals (with_reducible rfl))
            simp only [Act.put, l_a, l_s, l_z]
            refine rg_t 11 (v := ?_) rfl (by kernel_rfl) (fun _ _ _ h => h) HS ?_ ?_ ?_; rotate_left; rfl; focus (intro w hSw; (try dsimp only at hSw); go_simp; all_goals (with_reducible rfl))
            simp only [Act.put, l_a, l_s, l_z]
            refine rg_build 12 [(0, _), (1, _)] rfl (by kernel_rfl) (by kernel_rfl) (by kernel_rfl) (.agg (kvA (key, val))) (fun _ _ _ h => h) HS (by rfl) [(0, .string (bs key)), (1, .string (bs val))] rfl (fun _ => buildKv _ _ _) ?_
            simp only [Act.put, l_a, l_s, l_z]
            refine rl_one 13 rfl (by kernel_rfl) ?_
            refine wl_unguard (by rfl) ?_
            refine wl_sliceA1 rfl _ _ rfl 84 _ 2 32 Tryz.underlying29 infoKvZ (by decide) (by decide) (kvA (key, val)) rfl rfl ?_
            intro b8 w8 hb8 HB8 hk8
            have hk78 : Keeps w7 w8 (fun _ => False) := ((Keeps.refl w7 (fun _ => False)).drew).trans hk8
            refine till_nil ?_
            refine ⟨HSF.out _ hk78, ?_⟩
            simp only [Act.put, l_a, l_s, l_z]
            refine rl_one 14 rfl (by kernel_rfl) ?_
            refine wl_unguard (by rfl) ?_
            refine wl_appendA rfl _ _ _ rfl 84 _ 2 32 Tryz.underlying29 infoKvZ rfl (by decide) w.heap.size (.slice a7 _ c7) (kvsA (F.take kk)) rfl (isOwnA.new HA7.out.1 hk78) b8 (kvA (key, val)) rfl HB8 rfl (kvA_one _) (by rw [kvsA_len, List.length_take]; have := HN.out; unfold maxLen; omega) (by rw [kvsA_len, List.length_take]; have := HN.out; omega) (Nat.le_trans HA7.out.2.size hk78.size) ?_
            intro v9 w9 hap
            have hk9 : Keeps w w9 (fun _ => False) := (HA7.out.2.trans hk78).then hap.2.1 (fun i hi e => by have := (HA7.out.1.blk i e).1; omega)
            have hk79 : Keeps w7 w9 (fun j => (Value.slice a7 (kvsA (F.take kk)).length c7).ownBlock = some j) := (hk78.mono (fun _ _ h => h.elim)).trans hap.2.1
            obtain ⟨a9, c9, e9⟩ := isOwnA.shape hap.1
            subst e9
            have hS9 : (fun (W : World) => W.cell? ⟨bo, 0, none⟩ = some (.string (bs key)) ∧ W.cell? ⟨bo, 2, none⟩ = some bv ∧ (convert 36 9 bv).run Tryz.prog W = .ok (.string (bs val)) W) w9 := by
              obtain ⟨_, q1, _, q2⟩ := HC.out _ hk9
              exact ⟨q1, q2, run_strK (isRd.new HBV.out hk9)⟩
            refine till_nil ?_
            refine ⟨hS9, ?_⟩
            simp only [Act.put, l_a, l_s, l_z]
            refine rg_t 15 (v := ?_) rfl (by kernel_rfl) (fun _ _ _ h => h) hS9 ?_ ?_ ?_; rotate_left; rfl; focus (intro w hSw; (try dsimp only at hSw); go_simp; all_goals (with_reducible rfl))
            simp only [Act.put, l_a, l_s, l_z]
            refine wpAnyH_done (by kernel_rfl) ?_ _
            have HPO : Hid (isOwnA w9 w.heap.size 84 2 (.slice a9 ((kvsA (F.take kk)).length + 1) c9) (kvsA (F.take kk ++ if false = true then [] else [(key, val)])) ∧ Keeps w w9 (fun _ => False)) := Lib.hid ⟨by
              have hlen : (kvsA (F.take kk) ++ [kvA (key, val)]).length = (kvsA (F.take kk)).length + 1 := by simp
              have e : kvsA (F.take kk ++ if false = true then [] else [(key, val)]) = kvsA (F.take kk) ++ [kvA (key, val)] := by
                rw [if_neg (by decide)]
                simp [kvsA]
              rw [e, ← hlen]
              exact hap.1, hk9⟩
            clear hap hk9 hk79 hS9 HS hk78
            go_wp2_with fail
            go_meet
            exact ⟨a9, _, c9, rfl, HPO⟩
        case rest =>
          obtain ⟨wy, hwy⟩ : ∃ x, x = wc := ⟨wc, rfl⟩
          rw [← hwy] at hcut ⊢
          clear hwy
          obtain ⟨a6, n6, c6, rfl, hcut6⟩ := hcut
          have HKY := Lib.hid hcut6.out.2
          have HOWY := Lib.hid hcut6.out.1
          clear hcut6 HT6 HT6N HA7 HCU ck7 cd7 cb7 cm ck cd cb HBV
          obtain ⟨cmy, cky, _, _⟩ := HC.out _ HKY.out.drew
          by_cases hlt : kk < n
          · obtain ⟨g, x, rfl, hx, _, _, hcell⟩ := HROW.out kk hlt
            have hlb : decide ((kk : Int) < n) = true := by simp; omega
            have hlbn : decide (kk < n) = true := by simp; omega
            have hqn : (kk : Int) < n := by omega
            have hk0 : (0 : Int) ≤ kk := by omega
            have cxy := hcell _ HKY.out.drew
            clear HROW hcell
            by_cases hxk : x.1 = key
            · have hxk' := hxk
              as_aux_lemma =>
              have heq : ((bs x.1).toList == (bs key).toList) = true := by rw [bs_toList, bs_toList, hxk]; simp
              have HK2 : Hid (kk + 1 ≤ n ∧ doM F key val del = (F.take kk ++ if del = true then [] else [(key, val)]) ++ F.drop (kk + 1)) := Lib.hid ⟨by omega, by
                unfold doM
                rw [← HKK.out]
                congr 2
                rw [if_pos (by rw [List.getElem?_map, hx]; exact congrArg some hxk')]⟩
              have HS : (fun (w' : World) => w'.cell? ⟨m, 0, none⟩ = some (.slice (some ⟨g, 0, none⟩) n c) ∧ w'.cell? ⟨bo, 0, none⟩ = some (.string (bs key)) ∧ w'.cell? ⟨g, kk * 2, none⟩ = some (.string (bs x.1))) wy.drew := ⟨cmy, cky, cxy⟩
              go_wp2_with fail
              refine wp_region_held_drew (S := (fun (w' : World) => w'.cell? ⟨m, 0, none⟩ = some (.slice (some ⟨g, 0, none⟩) n c) ∧ w'.cell? ⟨bo, 0, none⟩ = some (.string (bs key)) ∧ w'.cell? ⟨g, kk * 2, none⟩ = some (.string (bs x.1)))) (by kernel_rfl) HS (fun _ => ?_)
              refine rg_t 0 (v := ?_) rfl (by kernel_rfl) (fun _ _ _ h => h) HS ?_ ?_ ?_; rotate_left; rfl; focus (intro w hSw; (try dsimp only at hSw); go_simp; all_goals (with_reducible rfl))
              simp only [Act.put, l_a, l_s, l_z]
              refine rg_t 1 (v := ?_) rfl (by kernel_rfl) (fun _ _ _ h => h) HS ?_ ?_ ?_; rotate_left; rfl; focus (intro w hSw; (try dsimp only at hSw); go_simp; all_goals (with_reducible rfl))
              simp only [Act.put, l_a, l_s, l_z]
              refine rg_t 2 (v := ?_) rfl (by kernel_rfl) (fun _ _ _ h => h) HS ?_ ?_ ?_; rotate_left; rfl; focus (intro w hSw; (try dsimp only at hSw); go_simp; all_goals (with_reducible rfl))
              simp only [Act.put, l_a, l_s, l_z]
              refine rg_t 3 (v := ?_) rfl (by kernel_rfl) (fun _ _ _ h => h) HS ?_ ?_ ?_; rotate_left; rfl; focus (intro w hSw; (try dsimp only at hSw); go_simp; all_goals (with_reducible rfl))
              simp only [Act.put, l_a, l_s, l_z]
              refine rg_t 4 (v := ?_) rfl (by kernel_rfl) (fun _ _ _ h => h) HS ?_ ?_ ?_; rotate_left; rfl; focus (intro w hSw; (try dsimp only at hSw); go_simp; all_goals (with_reducible rfl))
              simp only [Act.put, l_a, l_s, l_z]
              refine rg_t 5 (v := ?_) rfl (by kernel_rfl) (fun _ _ _ h => h) HS ?_ ?_ ?_; rotate_left; rfl; focus (intro w hSw; (try dsimp only at hSw); go_simp; all_goals (with_reducible rfl))
              simp only [Act.put, l_a, l_s, l_z]
              refine rg_t 6 (v := ?_) rfl (by kernel_rfl) (fun _ _ _ h => h) HS ?_ ?_ ?_; rotate_left; rfl; focus (intro w hSw; (try dsimp only at hSw); go_simp; all_goals (with_reducible rfl))
              simp only [Act.put, l_a, l_s, l_z]
              refine rg_t 7 (v := ?_) rfl (by kernel_rfl) (fun _ _ _ h => h) HS ?_ ?_ ?_; rotate_left; rfl; focus (intro w hSw; (try dsimp only at hSw); go_simp; all_goals (with_reducible rfl))
              simp only [Act.put, l_a, l_s, l_z]
              refine rg_t 8 (v := ?_) rfl (by kernel_rfl) (fun _ _ _ h => h) HS ?_ ?_ ?_; rotate_left; rfl; focus (intro w hSw; (try dsimp only at hSw); go_simp; all_goals (with_reducible rfl))
              simp only [Act.put, l_a, l_s, l_z]
              refine rg_t 9 (v := ?_) rfl (by kernel_rfl) (fun _ _ _ h => h) HS ?_ ?_ ?_; rotate_left; rfl; focus (intro w hSw; (try dsimp only at hSw); go_simp; all_goals (with_reducible rfl))
              simp only [Act.put, l_a, l_s, l_z]
              refine rg_t 10 (v := ?_) rfl (by kernel_rfl) (fun _ _ _ h => h) HS ?_ ?_ ?_; rotate_left; rfl; focus (intro w hSw; (try dsimp only at hSw); go_simp; all_goals (with_reducible rfl))
              simp only [Act.put, l_a, l_s, l_z]
              refine rg_t 11 (v := ?_) rfl (by kernel_rfl) (fun _ _ _ h => h) HS ?_ ?_ ?_; rotate_left; rfl; focus (intro w hSw; (try dsimp only at hSw); go_simp; all_goals (with_reducible rfl))
              simp only [Act.put, l_a, l_s, l_z]
              refine rg_t 12 (v := ?_) rfl (by kernel_rfl) (fun _ _ _ h => h) HS ?_ ?_ ?_; rotate_left; rfl; focus (intro w hSw; (try dsimp only at hSw); go_simp; all_goals (with_reducible rfl))
              simp only [Act.put, l_a, l_s, l_z]
              refine rg_t 13 (v := ?_) rfl (by kernel_rfl) (fun _ _ _ h => h) HS ?_ ?_ ?_; rotate_left; rfl; focus (intro w hSw; (try dsimp only at hSw); go_simp; all_goals (with_reducible rfl))
              simp only [Act.put, l_a, l_s, l_z]
              refine rg_t 14 (v := ?_) rfl (by kernel_rfl) (fun _ _ _ h => h) HS ?_ ?_ ?_; rotate_left; rfl; focus (intro w hSw; (try dsimp only at hSw); go_simp; all_goals (with_reducible rfl))
              simp only [Act.put, l_a, l_s, l_z]
              refine rg_t 15 (v := ?_) rfl (by kernel_rfl) (fun _ _ _ h => h) HS ?_ ?_ ?_; rotate_left; rfl; focus (intro w hSw; (try dsimp only at hSw); go_simp; all_goals (with_reducible rfl))
              simp only [Act.put, l_a, l_s, l_z]
              refine rg_t 16 (v := ?_) rfl (by kernel_rfl) (fun _ _ _ h => h) HS ?_ ?_ ?_; rotate_left; rfl; focus (intro w hSw; (try dsimp only at hSw); go_simp; all_goals (with_reducible rfl))
              simp only [Act.put, l_a, l_s, l_z]
              refine rg_t 17 (v := ?_) rfl (by kernel_rfl) (fun _ _ _ h => h) HS ?_ ?_ ?_; rotate_left; rfl; focus (intro w hSw; (try dsimp only at hSw); go_simp; all_goals (with_reducible rfl))
              simp only [Act.put, l_a, l_s, l_z]
              refine rg_t 18 (v := ?_) rfl (by kernel_rfl) (fun _ _ _ h => h) HS ?_ ?_ ?_; rotate_left; rfl; focus (intro w hSw; (try dsimp only at hSw); go_simp; all_goals (with_reducible rfl))
              simp only [Act.put, l_a, l_s, l_z]
              refine rg_t 19 (v := ?_) rfl (by kernel_rfl) (fun _ _ _ h => h) HS ?_ ?_ ?_; rotate_left; rfl; focus (intro w hSw; (try dsimp only at hSw); go_simp; all_goals (with_reducible rfl))
              simp only [Act.put, l_a, l_s, l_z]
              refine rg_t 20 (v := ?_) rfl (by kernel_rfl) (fun _ _ _ h => h) HS ?_ ?_ ?_; rotate_left; rfl; focus (intro w hSw; (try dsimp only at hSw); go_simp; all_goals (with_reducible rfl))
              simp only [Act.put, l_a, l_s, l_z]
              refine rg_t 21 (v := ?_) rfl (by kernel_rfl) (fun _ _ _ h => h) HS ?_ ?_ ?_; rotate_left; rfl; focus (intro w hSw; (try dsimp only at hSw); go_simp; all_goals (with_reducible rfl))
              simp only [Act.put, l_a, l_s, l_z]
              refine rg_t 22 (v := ?_) rfl (by kernel_rfl) (fun _ _ _ h => h) HS ?_ ?_ ?_; rotate_left; rfl; focus (intro w hSw; (try dsimp only at hSw); go_simp; all_goals (with_reducible rfl))
              simp only [Act.put, l_a, l_s, l_z]
              refine wpAnyH_done (by kernel_rfl) ?_ _
              have HKD := Lib.hid HKY.out.drew
              have cmd := (HC.out _ HKD.out).1
              have HOWD := Lib.hid (isOwnA.new HOWY.out (Keeps.refl wy (fun _ => False)).drew)
              have HDR : Hid (isRdA wy.drew 2 (.slice (cutA (some ⟨g, 0, none⟩) c (kk + 1) 2) (n - (kk + 1)) (c - (kk + 1))) (kvsA (F.drop (kk + 1)))) := Lib.hid (by
                have h1 := isRdA.cut (isOwnA.new HOV.out HKD.out).rd (l := kk + 1) (h := n) HK2.out.1 (Nat.le_refl n)
                have h2 : ((kvsA F).take n).drop (kk + 1) = kvsA (F.drop (kk + 1)) := by
                  rw [List.take_of_length_le (by rw [kvsA_len, HN.out]; exact Nat.le_refl _)]
                  unfold kvsA
                  rw [List.map_drop]
                rw [h2] at h1
                exact h1)
              have HDN : Hid (∀ cap, Value.slice (cutA (some ⟨g, 0, none⟩) c (kk + 1) 2) (n - (kk + 1)) (c - (kk + 1)) = .slice none 0 cap → cap = 0) := Lib.hid (cut_nil (isOwnA.nilcap HOV.out) (fun e => by
                rcases HOV.out.2.2 with ⟨h1, _⟩ | ⟨g', cap', cur', h1, _⟩
                · injection h1 with _ h1 _
                · injection h1 with h1 _ _
                  rw [e] at h1
                  cases h1))
              have hfz := HFZ.out _ HKD.out
              clear HS
              go_wp2_with (first
                | (refine wl_cut rfl _ 84 _ (some _) none rfl Tryz.underlying29 2 infoKvS (some ⟨g, 0, none⟩) n c rfl (kk + 1) n _ rfl (by go_num) (.inr ⟨rfl, rfl⟩) HK2.out.1 HNC.out ?_)
                | (at_builtin; refine wl_appendRA rfl _ _ _ rfl 84 _ 2 32 Tryz.underlying29 infoKvZ rfl (by decide) w.heap.size (.slice a6 n6 c6) (kvsA (F.take kk ++ if del = true then [] else [(key, val)])) rfl HOWD.out _ (kvsA (F.drop (kk + 1))) rfl HDR.out HDN.out (kvsA_size _) (kvsA_ones _) (HLE.out _).1 (HLE.out _).2 HKD.out.size ?_; intro v9 w9 hap9; obtain ⟨a9, n9, c9, e9⟩ : ∃ a n c, v9 = Value.slice a n c := (by obtain ⟨a, c, e⟩ := isOwnA.shape hap9.1; exact ⟨a, _, c, e⟩); subst e9; rw [← kvsA_app] at hap9; obtain ⟨cm9, fm9, hfin9⟩ := HFIN.out _ _ _ _ _ _ HKD.out HOWD.out hap9 HK2.out.2.symm; have HFI9 := Lib.hid hfin9; clear hap9 hfin9)
                | fail)
              go_roundw
              case rel => exact .inr ⟨by go_num, HFI9⟩
              case measure => simp [intOf]
            · have hxk' := hxk
              as_aux_lemma =>
              have heq : ((bs x.1).toList == (bs key).toList) = false := by rw [bs_toList, bs_toList]; simpa using hxk
              have HK2 : Hid (kk ≤ n ∧ doM F key val del = (F.take kk ++ if del = true then [] else [(key, val)]) ++ F.drop (kk)) := Lib.hid ⟨by omega, by
                unfold doM
                rw [← HKK.out]
                congr 2
                rw [if_neg (by rw [List.getElem?_map, hx]; intro e; exact hxk' (Option.some.inj e))]; rfl⟩
              have HS : (fun (w' : World) => w'.cell? ⟨m, 0, none⟩ = some (.slice (some ⟨g, 0, none⟩) n c) ∧ w'.cell? ⟨bo, 0, none⟩ = some (.string (bs key)) ∧ w'.cell? ⟨g, kk * 2, none⟩ = some (.string (bs x.1))) wy.drew := ⟨cmy, cky, cxy⟩
              go_wp2_with fail
              refine wp_region_held_drew (S := (fun (w' : World) => w'.cell? ⟨m, 0, none⟩ = some (.slice (some ⟨g, 0, none⟩) n c) ∧ w'.cell? ⟨bo, 0, none⟩ = some (.string (bs key)) ∧ w'.cell? ⟨g, kk * 2, none⟩ = some (.string (bs x.1)))) (by kernel_rfl) HS (fun _ => ?_)
              refine rg_t 0 (v := ?_) rfl (by kernel_rfl) (fun _ _ _ h => h) HS ?_ ?_ ?_; rotate_left; rfl; focus (intro w hSw; (try dsimp only at hSw); go_simp; all_goals (with_reducible rfl))
              simp only [Act.put, l_a, l_s, l_z]
              refine rg_t 1 (v := ?_) rfl (by kernel_rfl) (fun _ _ _ h => h) HS ?_ ?_ ?_; rotate_left; rfl; focus (intro w hSw; (try dsimp only at hSw); go_simp; all_goals (with_reducible rfl))
              simp only [Act.put, l_a, l_s, l_z]
              refine rg_t 2 (v := ?_) rfl (by kernel_rfl) (fun _ _ _ h => h) HS ?_ ?_ ?_; rotate_left; rfl; focus (intro w hSw; (try dsimp only at hSw); go_simp; all_goals (with_reducible rfl))
              simp only [Act.put, l_a, l_s, l_z]
              refine rg_t 3 (v := ?_) rfl (by kernel_rfl) (fun _ _ _ h => h) HS ?_ ?_ ?_; rotate_left; rfl; focus (intro w hSw; (try dsimp only at hSw); go_simp; all_goals (with_reducible rfl))
              simp only [Act.put, l_a, l_s, l_z]
              refine rg_t 4 (v := ?_) rfl (by kernel_rfl) (fun _ _ _ h => h) HS ?_ ?_ ?_; rotate_left; rfl; focus (intro w hSw; (try dsimp only at hSw); go_simp; all_goals (with_reducible rfl))
              simp only [Act.put, l_a, l_s, l_z]
              refine rg_t 5 (v := ?_) rfl (by kernel_rfl) (fun _ _ _ h => h) HS ?_ ?_ ?_; rotate_left; rfl; focus (intro w hSw; (try dsimp only at hSw); go_simp; all_goals (with_reducible rfl))
              simp only [Act.put, l_a, l_s, l_z]
              refine rg_t 6 (v := ?_) rfl (by kernel_rfl) (fun _ _ _ h => h) HS ?_ ?_ ?_; rotate_left; rfl; focus (intro w hSw; (try dsimp only at hSw); go_simp; all_goals (with_reducible rfl))
              simp only [Act.put, l_a, l_s, l_z]
              refine rg_t 7 (v := ?_) rfl (by kernel_rfl) (fun _ _ _ h => h) HS ?_ ?_ ?_; rotate_left; rfl; focus (intro w hSw; (try dsimp only at hSw); go_simp; all_goals (with_reducible rfl))
              simp only [Act.put, l_a, l_s, l_z]
              refine rg_t 8 (v := ?_) rfl (by kernel_rfl) (fun _ _ _ h => h) HS ?_ ?_ ?_; rotate_left; rfl; focus (intro w hSw; (try dsimp only at hSw); go_simp; all_goals (with_reducible rfl))
              simp only [Act.put, l_a, l_s, l_z]
              refine rg_t 9 (v := ?_) rfl (by kernel_rfl) (fun _ _ _ h => h) HS ?_ ?_ ?_; rotate_left; rfl; focus (intro w hSw; (try dsimp only at hSw); go_simp; all_goals (with_reducible rfl))
              simp only [Act.put, l_a, l_s, l_z]
              refine rg_t 10 (v := ?_) rfl (by kernel_rfl) (fun _ _ _ h => h) HS ?_ ?_ ?_; rotate_left; rfl; focus (intro w hSw; (try dsimp only at hSw); go_simp; all_goals (with_reducible rfl))
              simp only [Act.put, l_a, l_s, l_z]
              refine rg_t 11 (v := ?_) rfl (by kernel_rfl) (fun _ _ _ h => h) HS ?_ ?_ ?_; rotate_left; rfl; focus (intro w hSw; (try dsimp only at hSw); go_simp; all_goals (with_reducible rfl))
              simp only [Act.put, l_a, l_s, l_z]
              refine rg_t 12 (v := ?_) rfl (by kernel_rfl) (fun _ _ _ h => h) HS ?_ ?_ ?_; rotate_left; rfl; focus (intro w hSw; (try dsimp only at hSw); go_simp; all_goals (with_reducible rfl))
              simp only [Act.put, l_a, l_s, l_z]
              refine rg_t 13 (v := ?_) rfl (by kernel_rfl) (fun _ _ _ h => h) HS ?_ ?_ ?_; rotate_left; rfl; focus (intro w hSw; (try dsimp only at hSw); go_simp; all_goals (with_reducible rfl))
              simp only [Act.put, l_a, l_s, l_z]
              refine rg_t 14 (v := ?_) rfl (by kernel_rfl) (fun _ _ _ h => h) HS ?_ ?_ ?_; rotate_left; rfl; focus (intro w hSw; (try dsimp only at hSw); go_simp; all_goals (with_reducible rfl))
              simp only [Act.put, l_a, l_s, l_z]
              refine rg_t 15 (v := ?_) rfl (by kernel_rfl) (fun _ _ _ h => h) HS ?_ ?_ ?_; rotate_left; rfl; focus (intro w hSw; (try dsimp only at hSw); go_simp; all_goals (with_reducible rfl))
              simp only [Act.put, l_a, l_s, l_z]
              refine rg_t 16 (v := ?_) rfl (by kernel_rfl) (fun _ _ _ h => h) HS ?_ ?_ ?_; rotate_left; rfl; focus (intro w hSw; (try dsimp only at hSw); go_simp; all_goals (with_reducible rfl))
              simp only [Act.put, l_a, l_s, l_z]
              refine rg_t 17 (v := ?_) rfl (by kernel_rfl) (fun _ _ _ h => h) HS ?_ ?_ ?_; rotate_left; rfl; focus (intro w hSw; (try dsimp only at hSw); go_simp; all_goals (with_reducible rfl))
              simp only [Act.put, l_a, l_s, l_z]
              refine rg_t 18 (v := ?_) rfl (by kernel_rfl) (fun _ _ _ h => h) HS ?_ ?_ ?_; rotate_left; rfl; focus (intro w hSw; (try dsimp only at hSw); go_simp; all_goals (with_reducible rfl))
              simp only [Act.put, l_a, l_s, l_z]
              refine rg_t 19 (v := ?_) rfl (by kernel_rfl) (fun _ _ _ h => h) HS ?_ ?_ ?_; rotate_left; rfl; focus (intro w hSw; (try dsimp only at hSw); go_simp; all_goals (with_reducible rfl))
              simp only [Act.put, l_a, l_s, l_z]
              refine rg_t 20 (v := ?_) rfl (by kernel_rfl) (fun _ _ _ h => h) HS ?_ ?_ ?_; rotate_left; rfl; focus (intro w hSw; (try dsimp only at hSw); go_simp; all_goals (with_reducible rfl))
              simp only [Act.put, l_a, l_s, l_z]
              refine rg_t 21 (v := ?_) rfl (by kernel_rfl) (fun _ _ _ h => h) HS ?_ ?_ ?_; rotate_left; rfl; focus (intro w hSw; (try dsimp only at hSw); go_simp; all_goals (with_reducible rfl))
              simp only [Act.put, l_a, l_s, l_z]
              refine rg_t 22 (v := ?_) rfl (by kernel_rfl) (fun _ _ _ h => h) HS ?_ ?_ ?_; rotate_left; rfl; focus (intro w hSw; (try dsimp only at hSw); go_simp; all_goals (with_reducible rfl))
              simp only [Act.put, l_a, l_s, l_z]
              refine wpAnyH_done (by kernel_rfl) ?_ _
              have HKD := Lib.hid HKY.out.drew
              have cmd := (HC.out _ HKD.out).1
              have HOWD := Lib.hid (isOwnA.new HOWY.out (Keeps.refl wy (fun _ => False)).drew)
              have HDR : Hid (isRdA wy.drew 2 (.slice (cutA (some ⟨g, 0, none⟩) c (kk) 2) (n - (kk)) (c - (kk))) (kvsA (F.drop (kk)))) := Lib.hid (by
                have h1 := isRdA.cut (isOwnA.new HOV.out HKD.out).rd (l := kk) (h := n) HK2.out.1 (Nat.le_refl n)
                have h2 : ((kvsA F).take n).drop (kk) = kvsA (F.drop (kk)) := by
                  rw [List.take_of_length_le (by rw [kvsA_len, HN.out]; exact Nat.le_refl _)]
                  unfold kvsA
                  rw [List.map_drop]
                rw [h2] at h1
                exact h1)
              have HDN : Hid (∀ cap, Value.slice (cutA (some ⟨g, 0, none⟩) c (kk) 2) (n - (kk)) (c - (kk)) = .slice none 0 cap → cap = 0) := Lib.hid (cut_nil (isOwnA.nilcap HOV.out) (fun e => by
                rcases HOV.out.2.2 with ⟨h1, _⟩ | ⟨g', cap', cur', h1, _⟩
                · injection h1 with _ h1 _
                · injection h1 with h1 _ _
                  rw [e] at h1
                  cases h1))
              have hfz := HFZ.out _ HKD.out
              clear HS
              go_wp2_with (first
                | (refine wl_cut rfl _ 84 _ (some _) none rfl Tryz.underlying29 2 infoKvS (some ⟨g, 0, none⟩) n c rfl (kk) n _ rfl (by go_num) (.inr ⟨rfl, rfl⟩) HK2.out.1 HNC.out ?_)
                | (at_builtin; refine wl_appendRA rfl _ _ _ rfl 84 _ 2 32 Tryz.underlying29 infoKvZ rfl (by decide) w.heap.size (.slice a6 n6 c6) (kvsA (F.take kk ++ if del = true then [] else [(key, val)])) rfl HOWD.out _ (kvsA (F.drop (kk))) rfl HDR.out HDN.out (kvsA_size _) (kvsA_ones _) (HLE.out _).1 (HLE.out _).2 HKD.out.size ?_; intro v9 w9 hap9; obtain ⟨a9, n9, c9, e9⟩ : ∃ a n c, v9 = Value.slice a n c := (by obtain ⟨a, c, e⟩ := isOwnA.shape hap9.1; exact ⟨a, _, c, e⟩); subst e9; rw [← kvsA_app] at hap9; obtain ⟨cm9, fm9, hfin9⟩ := HFIN.out _ _ _ _ _ _ HKD.out HOWD.out hap9 HK2.out.2.symm; have HFI9 := Lib.hid hfin9; clear hap9 hfin9)
                | fail)
              go_roundw
              case rel => exact .inr ⟨by go_num, HFI9⟩
              case measure => simp [intOf]
          · as_aux_lemma =>
            have hlb : decide ((kk : Int) < n) = false := by simp; omega
            have hlbn : decide (kk < n) = false := by simp; omega
            have HK2 : Hid (kk ≤ n ∧ doM F key val del = (F.take kk ++ if del = true then [] else [(key, val)]) ++ F.drop (kk)) := Lib.hid ⟨HKN.out, by
              unfold doM
              rw [← HKK.out]
              congr 2
              rw [if_neg (by rw [List.getElem?_map, List.getElem?_eq_none (show F.length ≤ kk by have := HN.out; omega)]; intro e; cases e)]; rfl⟩
            have HS : (fun (w' : World) => w'.cell? ⟨m, 0, none⟩ = some (.slice ad n c)) wy.drew := cmy
            go_wp2_with fail
            refine wp_region_held_drew (S := (fun (w' : World) => w'.cell? ⟨m, 0, none⟩ = some (.slice ad n c))) (by kernel_rfl) HS (fun _ => ?_)
            refine rg_t 0 (v := ?_) rfl (by kernel_rfl) (fun _ _ _ h => h) HS ?_ ?_ ?_; rotate_left; rfl; focus (intro w hSw; (try dsimp only at hSw); go_simp; all_goals (with_reducible rfl))
            simp only [Act.put, l_a, l_s, l_z]
            refine rg_t 1 (v := ?_) rfl (by kernel_rfl) (fun _ _ _ h => h) HS ?_ ?_ ?_; rotate_left; rfl; focus (intro w hSw; (try dsimp only at hSw); go_simp; all_goals (with_reducible rfl))
            simp only [Act.put, l_a, l_s, l_z]
            refine rg_t 2 (v := ?_) rfl (by kernel_rfl) (fun _ _ _ h => h) HS ?_ ?_ ?_; rotate_left; rfl; focus (intro w hSw; (try dsimp only at hSw); go_simp; all_goals (with_reducible rfl))
            simp only [Act.put, l_a, l_s, l_z]
            refine rg_t 3 (v := ?_) rfl (by kernel_rfl) (fun _ _ _ h => h) HS ?_ ?_ ?_; rotate_left; rfl; focus (intro w hSw; (try dsimp only at hSw); go_simp; all_goals (with_reducible rfl))
            simp only [Act.put, l_a, l_s, l_z]
            refine rg_t 4 (v := ?_) rfl (by kernel_rfl) (fun _ _ _ h => h) HS ?_ ?_ ?_; rotate_left; rfl; focus (intro w hSw; (try dsimp only at hSw); go_simp; all_goals (with_reducible rfl))
            simp only [Act.put, l_a, l_s, l_z]
            refine rg_t 5 (v := ?_) rfl (by kernel_rfl) (fun _ _ _ h => h) HS ?_ ?_ ?_; rotate_left; rfl; focus (intro w hSw; (try dsimp only at hSw); go_simp; all_goals (with_reducible rfl))
            simp only [Act.put, l_a, l_s, l_z]
            refine rg_t 6 (v := ?_) rfl (by kernel_rfl) (fun _ _ _ h => h) HS ?_ ?_ ?_; rotate_left; rfl; focus (intro w hSw; (try dsimp only at hSw); go_simp; all_goals (with_reducible rfl))
            simp only [Act.put, l_a, l_s, l_z]
            refine rg_t 7 (v := ?_) rfl (by kernel_rfl) (fun _ _ _ h => h) HS ?_ ?_ ?_; rotate_left; rfl; focus (intro w hSw; (try dsimp only at hSw); go_simp; all_goals (with_reducible rfl))
            simp only [Act.put, l_a, l_s, l_z]
            refine rg_s 8 rfl (by kernel_rfl) (fun _ _ _ h => h) HS ?_ ?_; rfl
            simp only [Act.put, l_a, l_s, l_z]
            refine rg_s 9 rfl (by kernel_rfl) (fun _ _ _ h => h) HS ?_ ?_; rfl
            simp only [Act.put, l_a, l_s, l_z]
            refine rg_s 10 rfl (by kernel_rfl) (fun _ _ _ h => h) HS ?_ ?_; rfl
            simp only [Act.put, l_a, l_s, l_z]
            refine rg_s 11 rfl (by kernel_rfl) (fun _ _ _ h => h) HS ?_ ?_; rfl
            simp only [Act.put, l_a, l_s, l_z]
            refine rg_s 12 rfl (by kernel_rfl) (fun _ _ _ h => h) HS ?_ ?_; rfl
            simp only [Act.put, l_a, l_s, l_z]
            refine rg_s 13 rfl (by kernel_rfl) (fun _ _ _ h => h) HS ?_ ?_; rfl
            simp only [Act.put, l_a, l_s, l_z]
            refine rg_s 14 rfl (by kernel_rfl) (fun _ _ _ h => h) HS ?_ ?_; rfl
            simp only [Act.put, l_a, l_s, l_z]
            refine rg_s 15 rfl (by kernel_rfl) (fun _ _ _ h => h) HS ?_ ?_; rfl
            simp only [Act.put, l_a, l_s, l_z]
            refine rg_s 16 rfl (by kernel_rfl) (fun _ _ _ h => h) HS ?_ ?_; rfl
            simp only [Act.put, l_a, l_s, l_z]
            refine rg_s 17 rfl (by kernel_rfl) (fun _ _ _ h => h) HS ?_ ?_; rfl
            simp only [Act.put, l_a, l_s, l_z]
            refine rg_s 18 rfl (by kernel_rfl) (fun _ _ _ h => h) HS ?_ ?_; rfl
            simp only [Act.put, l_a, l_s, l_z]
            refine rg_s 19 rfl (by kernel_rfl) (fun _ _ _ h => h) HS ?_ ?_; rfl
            simp only [Act.put, l_a, l_s, l_z]
            refine rg_s 20 rfl (by kernel_rfl) (fun _ _ _ h => h) HS ?_ ?_; rfl
            simp only [Act.put, l_a, l_s, l_z]
            refine rg_s 21 rfl (by kernel_rfl) (fun _ _ _ h => h) HS ?_ ?_; rfl
            simp only [Act.put, l_a, l_s, l_z]
            refine rg_t 22 (v := ?_) rfl (by kernel_rfl) (fun _ _ _ h => h) HS ?_ ?_ ?_; rotate_left; rfl; focus (intro w hSw; (try dsimp only at hSw); go_simp; all_goals (with_reducible rfl))
            simp only [Act.put, l_a, l_s, l_z]
            refine wpAnyH_done (by kernel_rfl) ?_ _
            have HKD := Lib.hid HKY.out.drew
            have cmd := (HC.out _ HKD.out).1
            have HOWD := Lib.hid (isOwnA.new HOWY.out (Keeps.refl wy (fun _ => False)).drew)
            have HDR : Hid (isRdA wy.drew 2 (.slice (cutA ad c (kk) 2) (n - (kk)) (c - (kk))) (kvsA (F.drop (kk)))) := Lib.hid (by
              have h1 := isRdA.cut (isOwnA.new HOV.out HKD.out).rd (l := kk) (h := n) HK2.out.1 (Nat.le_refl n)
              have h2 : ((kvsA F).take n).drop (kk) = kvsA (F.drop (kk)) := by
                rw [List.take_of_length_le (by rw [kvsA_len, HN.out]; exact Nat.le_refl _)]
                unfold kvsA
                rw [List.map_drop]
              rw [h2] at h1
              exact h1)
            have HDN : Hid (∀ cap, Value.slice (cutA ad c (kk) 2) (n - (kk)) (c - (kk)) = .slice none 0 cap → cap = 0) := Lib.hid (cut_nil (isOwnA.nilcap HOV.out) (fun e => by
              rcases HOV.out.2.2 with ⟨h1, _⟩ | ⟨g', cap', cur', h1, _⟩
              · injection h1 with _ h1 _
              · injection h1 with h1 _ _
                rw [e] at h1
                cases h1))
            have hfz := HFZ.out _ HKD.out
            clear HS
            go_wp2_with (first
              | (refine wl_cut rfl _ 84 _ (some _) none rfl Tryz.underlying29 2 infoKvS ad n c rfl (kk) n _ rfl (by go_num) (.inr ⟨rfl, rfl⟩) HK2.out.1 HNC.out ?_)
              | (at_builtin; refine wl_appendRA rfl _ _ _ rfl 84 _ 2 32 Tryz.underlying29 infoKvZ rfl (by decide) w.heap.size (.slice a6 n6 c6) (kvsA (F.take kk ++ if del = true then [] else [(key, val)])) rfl HOWD.out _ (kvsA (F.drop (kk))) rfl HDR.out HDN.out (kvsA_size _) (kvsA_ones _) (HLE.out _).1 (HLE.out _).2 HKD.out.size ?_; intro v9 w9 hap9; obtain ⟨a9, n9, c9, e9⟩ : ∃ a n c, v9 = Value.slice a n c := (by obtain ⟨a, c, e⟩ := isOwnA.shape hap9.1; exact ⟨a, _, c, e⟩); subst e9; rw [← kvsA_app] at hap9; obtain ⟨cm9, fm9, hfin9⟩ := HFIN.out _ _ _ _ _ _ HKD.out HOWD.out hap9 HK2.out.2.symm; have HFI9 := Lib.hid hfin9; clear hap9 hfin9)
              | fail)
            go_roundw
            case rel => exact .inr ⟨by go_num, HFI9⟩
            case measure => simp [intOf]
    · as_aux_lemma =>
      have HPO := Lib.hid hw.out
      clear hw HC HROW
      go_wp2_with fail
      first | exact ⟨rfl, HPO.out⟩ | (go_end0; exact ⟨rfl, HPO.out⟩)
end Go.Proofs.YtblpkifkaoaicaaGreat

namespace Go.Proofs.YtblpkifkaoaicaaGreat
open Go Go.RowKit Go.Maps Wb

theorem keyTypeRw : Tryz.prog.keyType 70 = true := by kernel_rfl
theorem cellsRw : Tryz.prog.cellsOf 70 = 3 := by kernel_rfl
theorem formedRw (r : Rw) : (Value.agg (rowA r)).formed Tryz.prog 70 = true := by
  simp [Value.formed, Tryz.underlying70, cellsRw, rowA, rowC]
theorem keyOkRw {r : Rw} (h1 : r.key.length ≤ 1000000) (h2 : r.val.length ≤ 1000000) (h3 : r.page = 0) : KeyOk Tryz.prog 70 (.agg (rowA r)) := by
  obtain ⟨n, hn⟩ := typesS
  have h4 : (bs r.key).size ≤ maxLen := by rw [bs_size]; unfold maxLen; omega
  have h5 : (bs r.val).size ≤ maxLen := by rw [bs_size]; unfold maxLen; omega
  have h6 : (Lit.int .i64 r.page).wf = true := by rw [h3]; rfl
  refine ⟨.string (keyBytes [.string (bs r.key).data.toList, .string (bs r.val).data.toList, .int .i64 r.page]), ?_⟩
  unfold keyOf
  simp only [Tryz.underlying70, keyTypeRw, formedRw, hn, Bool.and_self, if_true]
  simp [Program.keyLits, Tryz.underlying70, Tryz.underlying9, Tryz.underlying3, cellsRw, cellsS, cellsI, h4, h5, h6, rowA, rowC, Value.cells, List.mapM_cons]
theorem run_neq_rw (w : World) {r : Rw} (h1 : r.key.length ≤ 1000000) (h2 : r.val.length ≤ 1000000) (h3 : r.page = 0) : (binOp BinOp.neq 70 (.agg (rowA r)) (.agg (rowA r))).run Tryz.prog w = .ok (.bool false) w := by
  obtain ⟨ls, hs⟩ := keyOkRw h1 h2 h3
  obtain ⟨q, hr, hi⟩ := Go.run_equal_deep (m := 3) w (by decide) (k := 70) (by kernel_rfl) (by rw [Tryz.underlying70]) hs hs
  unfold binOp
  simp only
  rw [Sem.run_bind, hr, hi.2 rfl]
  rfl
theorem run_guard_rw (w : World) (op : BinOp) (x y : Operand) (a b : Rw) : (eqGuard op 70 x y (.agg (rowA a)) (.agg (rowA b))).run Tryz.prog w = .ok () w := by
  unfold eqGuard
  cases op <;> simp [Sem.run_bind]
theorem ex_bin {P : Program} {w : World} {a : Act} {dst : Option Tmp} {bop : BinOp} {ty ty2 t : TypeId} {x y : Operand} {pos : String} {after : Array Edge} {gd : Option (Nat × Bool)} (u v r : Value) (hx : a.eval x = u) (hy : a.eval y = v)
    (hg : ∀ w, (eqGuard bop ty x y u v).run P w = .ok () w) (hr : ∀ w, (binOp bop ty u v).run P w = .ok r w) : (execOp a.eval ⟨dst, .binOp bop ty x y ty2, t, pos, after, gd⟩).run P w = .ok (.value r) w := by
  unfold execOp
  simp only [hx, hy, hg, hr, Sem.run_bind, Sem.run_pure, Result.andThen_ok]
theorem fromL_all (F : KVs) : fromL F [] = F := by
  unfold fromL
  rw [List.filter_eq_self]
  intro x _
  simp
theorem flat_fit : ∀ (d : Nat) (l : Wb.Rows d), FitR d l → ∀ x ∈ flat d l, keyOk x.1 ∧ x.2.length ≤ 20
  | 0, l, h, x, hx => by
    obtain ⟨r, hr, rfl⟩ := List.mem_map.1 (show x ∈ l.map (fun r => (keyR r, valR r)) from hx)
    exact h r hr
  | d + 1, l, h, x, hx => by
    obtain ⟨r, hr, hx⟩ := List.mem_flatMap.1 hx
    exact flat_fit d (kidR r).2 (h r hr).2.2.2 x hx
theorem flatT_fit {t : Root} (h : RootOk t) : ∀ x ∈ flatT t, keyOk x.1 ∧ x.2.length ≤ 20 := by
  match t, h with
  | none, _ => exact fun x hx => (by cases hx)
  | some ⟨d, n⟩, h => exact flat_fit d n.2 h.2.1.2
set_option maxRecDepth 100000 in
set_option maxHeartbeats 4000000 in
theorem is11_calls {w0 w : World} {f : Nat} {dv : DH} {S : Nat → Prop} {G : Pg} {t : Nat} {root kept : Root} {count had : Nat} (htr : Tr w0 w f dv S G t root kept count had) (hok : RootOk root) {lo m : Nat} {F : KVs} (hfl : flatT root = F) (hc : count = F.length) (hm : isMp w lo m F) (hl : F.length ≤ 1000) :
    Calls Tryz.prog 17 #[.pointer (some ⟨t, 0, none⟩), .pointer (some ⟨m, 0, none⟩)] w (Quiet w (.bool true)) := by
  have hrows := tr_rows htr hok [] 100000 100000 rfl (by rw [hfl]; omega)
  have hout : rowsOut (flatT root) [] 100000 = F := by rw [hfl]; unfold rowsOut; rw [fromL_all, List.take_of_length_le (by omega)]
  rw [hout] at hrows
  have HFIT : Hid (∀ x ∈ F, x.1.length ≤ 1000000 ∧ x.2.length ≤ 1000000) := Lib.hid (fun x hx => by
    have := flatT_fit hok x (by rw [hfl]; exact hx)
    have h1 := this.1.2
    exact ⟨by omega, by omega⟩)
  obtain ⟨n, hn⟩ : ∃ n, n = F.length := ⟨_, rfl⟩
  obtain ⟨v, hmb, hov⟩ := hm
  obtain ⟨ad, c, rfl⟩ := hov.shape
  rw [kvsA_len, ← hn] at hmb hov
  rw [← hn] at hc
  subst hc
  have HM : Hid (∀ W, Keeps w W (fun _ => False) → W.cell? ⟨m, 0, none⟩ = some (.slice ad count c)) := Lib.hid fun W hk => by
    rw [cell_of_block (hk.blk hmb (fun h => h))]; rfl
  have HKV : Hid (∀ j, j < count → ∃ g x, ad = some ⟨g, 0, none⟩ ∧ F[j]? = some x ∧ ∀ W, Keeps w W (fun _ => False) → W.cell? ⟨g, j * 2, none⟩ = some (.string (bs x.1)) ∧ W.cell? ⟨g, j * 2 + 1, none⟩ = some (.string (bs x.2))) := Lib.hid fun j hj => by
    have hx : F[j]? = some (F[j]'(by omega)) := List.getElem?_eq_getElem _
    obtain ⟨g, c', e, _, _, _, hr⟩ := isOwnA.at hov (kvsA_at hx)
    injection e with e1 e2 e3
    refine ⟨g, _, e1, hx, fun W hk => ⟨Keeps.cellK hk ?_, Keeps.cellK hk ?_⟩⟩
    · have := hr 0 _ rfl
      simpa using this
    · exact hr 1 _ rfl
  have HTR := Lib.hid htr
  have HRW := Lib.hid hrows
  have HN := Lib.hid hn
  have hni : (count : Int) ≤ 1000 := by omega
  have hn0 : (0 : Int) ≤ count := by omega
  clear htr hrows hout hmb hov hl hfl hn
  go_enter Tryz.func17, Tryz.ntmps17
  go_wp2_with fail
  refine HRW.out.mono ?_
  rintro e w1 ⟨v1, rfl, ho1, hk1⟩
  obtain ⟨a1, c1, e1⟩ := isOwnA.shape ho1
  have hlen1 : (rowsA (rowsKV F)).length = count := by rw [rowsA_len, rowsKV_len, HN.out]
  rw [hlen1] at e1
  subst e1
  have HR : Hid (∀ j x, F[j]? = some x → ∃ g, a1 = some ⟨g, 0, none⟩ ∧ ∀ W, Keeps w1 W (fun _ => False) → W.rangeAt g (j * 3) (rowA ⟨x.1, x.2, 0⟩).toList) := Lib.hid fun j x hx => by
    have hx' : (rowsKV F)[j]? = some ⟨x.1, x.2, 0⟩ := by unfold rowsKV; rw [List.getElem?_map, hx]; rfl
    obtain ⟨g, c', e, _, _, hlt, _⟩ := isOwnA.at ho1 (rowsA_at hx')
    injection e with e1 e2 e3
    refine ⟨g, e1, fun W hk => ?_⟩
    obtain ⟨g', c'', e', _, _, _, hr⟩ := isOwnA.at (isOwnA.new ho1 hk) (rowsA_at hx')
    injection e' with e1' _ _
    rw [e1] at e1'
    injection e1' with e1'
    injection e1' with e1' _
    subst e1'
    exact hr
  have HK1 := Lib.hid hk1
  have HCN := Lib.hid (tr_count ((HTR.out.new hk1).new (Keeps.refl w1 (fun _ => False)).drew))
  have cm := HM.out _ (hk1.drew)
  clear ho1 hlen1 hk1 HRW HTR
  go_wp2_with fail
  have HS : (fun (w' : World) => w'.cell? ⟨m, 0, none⟩ = some (.slice ad count c)) w1.drew := cm
  refine wp_region_held_drew (S := (fun (w' : World) => w'.cell? ⟨m, 0, none⟩ = some (.slice ad count c))) (by kernel_rfl) HS (fun _ => ?_)
  refine rg_t 0 (v := ?_) rfl (by kernel_rfl) (fun _ _ _ h => h) HS ?_ ?_ ?_; rotate_left; rfl; focus (intro w hSw; (try dsimp only at hSw); go_simp; all_goals (with_reducible rfl))
  simp only [Act.put, l_a, l_s, l_z]
  refine rg_t 1 (v := ?_) rfl (by kernel_rfl) (fun _ _ _ h => h) HS ?_ ?_ ?_; rotate_left; rfl; focus (intro w hSw; (try dsimp only at hSw); go_simp; all_goals (with_reducible rfl))
  simp only [Act.put, l_a, l_s, l_z]
  refine rg_t 2 (v := ?_) rfl (by kernel_rfl) (fun _ _ _ h => h) HS ?_ ?_ ?_; rotate_left; rfl; focus (intro w hSw; (try dsimp only at hSw); go_simp; all_goals (with_reducible rfl))
  simp only [Act.put, l_a, l_s, l_z]
  refine rg_t 3 (v := ?_) rfl (by kernel_rfl) (fun _ _ _ h => h) HS ?_ ?_ ?_; rotate_left; rfl; focus (intro w hSw; (try dsimp only at hSw); go_simp; all_goals (with_reducible rfl))
  simp only [Act.put, l_a, l_s, l_z]
  refine rg_t 4 (v := ?_) rfl (by kernel_rfl) (fun _ _ _ h => h) HS ?_ ?_ ?_; rotate_left; rfl; focus (intro w hSw; (try dsimp only at hSw); go_simp; all_goals (with_reducible rfl))
  simp only [Act.put, l_a, l_s, l_z]
  refine rg_t 5 (v := ?_) rfl (by kernel_rfl) (fun _ _ _ h => h) HS ?_ ?_ ?_; rotate_left; rfl; focus (intro w hSw; (try dsimp only at hSw); go_simp; all_goals (with_reducible rfl))
  simp only [Act.put, l_a, l_s, l_z]
  refine rg_t 6 (v := ?_) rfl (by kernel_rfl) (fun _ _ _ h => h) HS ?_ ?_ ?_; rotate_left; rfl; focus (intro w hSw; (try dsimp only at hSw); go_simp; all_goals (with_reducible rfl))
  simp only [Act.put, l_a, l_s, l_z]
  refine rg_t 7 (v := ?_) rfl (by kernel_rfl) (fun _ _ _ h => h) HS ?_ ?_ ?_; rotate_left; rfl; focus (intro w hSw; (try dsimp only at hSw); go_simp; all_goals (with_reducible rfl))
  simp only [Act.put, l_a, l_s, l_z]
  refine rg_t 8 (v := ?_) rfl (by kernel_rfl) (fun _ _ _ h => h) HS ?_ ?_ ?_; rotate_left; rfl; focus (intro w hSw; (try dsimp only at hSw); go_simp; all_goals (with_reducible rfl))
  simp only [Act.put, l_a, l_s, l_z]
  refine rg_t 9 (v := ?_) rfl (by kernel_rfl) (fun _ _ _ h => h) HS ?_ ?_ ?_; rotate_left; rfl; focus (intro w hSw; (try dsimp only at hSw); go_simp; all_goals (with_reducible rfl))
  simp only [Act.put, l_a, l_s, l_z]
  refine rg_t 10 (v := ?_) rfl (by kernel_rfl) (fun _ _ _ h => h) HS ?_ ?_ ?_; rotate_left; rfl; focus (intro w hSw; (try dsimp only at hSw); go_simp; all_goals (with_reducible rfl))
  simp only [Act.put, l_a, l_s, l_z]
  refine rg_t 11 (v := ?_) rfl (by kernel_rfl) (fun _ _ _ h => h) HS ?_ ?_ ?_; rotate_left; rfl; focus (intro w hSw; (try dsimp only at hSw); go_simp; all_goals (with_reducible rfl))
  simp only [Act.put, l_a, l_s, l_z]
  refine rg_t 12 (v := ?_) rfl (by kernel_rfl) (fun _ _ _ h => h) HS ?_ ?_ ?_; rotate_left; rfl; focus (intro w hSw; (try dsimp only at hSw); go_simp; all_goals (with_reducible rfl))
  simp only [Act.put, l_a, l_s, l_z]
  refine rg_t 13 (v := ?_) rfl (by kernel_rfl) (fun _ _ _ h => h) HS ?_ ?_ ?_; rotate_left; rfl; focus (intro w hSw; (try dsimp only at hSw); go_simp; all_goals (with_reducible rfl))
  simp only [Act.put, l_a, l_s, l_z]
  refine rg_t 15 (v := ?_) rfl (by kernel_rfl) (fun _ _ _ h => h) HS ?_ ?_ ?_; rotate_left; rfl; focus (intro w hSw; (try dsimp only at hSw); go_simp; all_goals (with_reducible rfl))
  simp only [Act.put, l_a, l_s, l_z]
  refine rg_t 16 (v := ?_) rfl (by kernel_rfl) (fun _ _ _ h => h) HS ?_ ?_ ?_; rotate_left; rfl; focus (intro w hSw; (try dsimp only at hSw); go_simp; all_goals (with_reducible rfl))
  simp only [Act.put, l_a, l_s, l_z]
  refine rg_t 17 (v := ?_) rfl (by kernel_rfl) (fun _ _ _ h => h) HS ?_ ?_ ?_; rotate_left; rfl; focus (intro w hSw; (try dsimp only at hSw); go_simp; all_goals (with_reducible rfl))
  simp only [Act.put, l_a, l_s, l_z]
  refine rg_t 18 (v := ?_) rfl (by kernel_rfl) (fun _ _ _ h => h) HS ?_ ?_ ?_; rotate_left; rfl; focus (intro w hSw; (try dsimp only at hSw); go_simp; all_goals (with_reducible rfl))
  simp only [Act.put, l_a, l_s, l_z]
  refine rg_t 19 (v := ?_) rfl (by kernel_rfl) (fun _ _ _ h => h) HS ?_ ?_ ?_; rotate_left; rfl; focus (intro w hSw; (try dsimp only at hSw); go_simp; all_goals (with_reducible rfl))
  simp only [Act.put, l_a, l_s, l_z]
  refine rg_one 14 rfl (by kernel_rfl) (by rfl) ?_
  refine rg_call 18 _ _ rfl _ Tryz.func18 (by kernel_rfl) (by kernel_rfl) [.pointer (some ⟨t, 0, none⟩)] rfl HCN.out ?_
  rintro e w2 ⟨rfl, rfl⟩
  refine ⟨_, rfl, HS, ?_⟩
  simp only [Act.put, l_a, l_s, l_z]
  refine rg_t 20 (v := ?_) rfl (by kernel_rfl) (fun _ _ _ h => h) HS ?_ ?_ ?_; rotate_left; rfl; focus (intro w hSw; (try dsimp only at hSw); go_simp; all_goals (with_reducible rfl))
  simp only [Act.put, l_a, l_s, l_z]
  refine rg_t 21 (v := ?_) rfl (by kernel_rfl) (fun _ _ _ h => h) HS ?_ ?_ ?_; rotate_left; rfl; focus (intro w hSw; (try dsimp only at hSw); go_simp; all_goals (with_reducible rfl))
  simp only [Act.put, l_a, l_s, l_z]
  refine wpAnyH_done (by kernel_rfl) ?_ _
  have HKD : Hid (Keeps w1 w1.drew (fun _ => False)) := Lib.hid (Keeps.refl w1 (fun _ => False)).drew
  clear HS cm HCN
  go_wp2_with fail
  go_loopw [7] (fun v7 wr => ∃ q : Nat, q ≤ count ∧ v7 = .int .i64 q ∧ Hid (Keeps w1 wr (fun _ => False))) (fun v7 _ => count - (intOf v7).toNat)
  case atStart => exact ⟨0, Nat.zero_le _, rfl, HKD⟩
  case round =>
    clear HKD
    obtain ⟨q, hq, rfl, hrel⟩ := hrel
    have hq0 : (0 : Int) ≤ q := by omega
    by_cases hlt : q < count
    · as_aux_lemma =>
      have hlb : decide ((q : Int) < count) = true := by simp; omega
      have hlbn : decide (q < count) = true := by simp; omega
      have hqn : (q : Int) < count := by omega
      obtain ⟨g2, x, rfl, hx, hcell⟩ := HKV.out q hlt
      obtain ⟨g, rfl, hrow⟩ := HR.out q x hx
      obtain ⟨hx1, hx2⟩ := HFIT.out x (List.mem_of_getElem? hx)
      have HKR := Lib.hid hrel.out.drew
      obtain ⟨ck, cv⟩ := hcell _ (HK1.out.trans HKR.out)
      have cm := HM.out _ (HK1.out.trans HKR.out)
      have cr := hrow _ HKR.out
      have HNE := Lib.hid (fun W => run_neq_rw W (r := ⟨x.1, x.2, 0⟩) hx1 hx2 rfl)
      have HS : (fun (w' : World) => w'.rangeAt g (q * 3) (rowA ⟨x.1, x.2, 0⟩).toList ∧ w'.cell? ⟨m, 0, none⟩ = some (.slice (some ⟨g2, 0, none⟩) count c) ∧ w'.cell? ⟨g2, q * 2, none⟩ = some (.string (bs x.1)) ∧ w'.cell? ⟨g2, q * 2 + 1, none⟩ = some (.string (bs x.2))) wr.drew := ⟨cr, cm, ck, cv⟩
      clear hx hcell hrow hx1 hx2 ck cv cm cr hrel
      go_wp2_with fail
      refine wp_region_held_drew (S := (fun (w' : World) => w'.rangeAt g (q * 3) (rowA ⟨x.1, x.2, 0⟩).toList ∧ w'.cell? ⟨m, 0, none⟩ = some (.slice (some ⟨g2, 0, none⟩) count c) ∧ w'.cell? ⟨g2, q * 2, none⟩ = some (.string (bs x.1)) ∧ w'.cell? ⟨g2, q * 2 + 1, none⟩ = some (.string (bs x.2)))) (by kernel_rfl) HS (fun _ => ?_)
      refine rg_t 0 (v := ?_) rfl (by kernel_rfl) (fun _ _ _ h => h) HS ?_ ?_ ?_; rotate_left; rfl; focus (intro w hSw; (try dsimp only at hSw); go_simp; all_goals (with_reducible rfl))
      simp only [Act.put, l_a, l_s, l_z]
      refine rg_t 1 (v := ?_) rfl (by kernel_rfl) (fun _ _ _ h => h) HS ?_ ?_ ?_; rotate_left; rfl; focus (intro w hSw; (try dsimp only at hSw); go_simp; all_goals (with_reducible rfl))
      simp only [Act.put, l_a, l_s, l_z]
      refine rg_t 2 (v := ?_) rfl (by kernel_rfl) (fun _ _ _ h => h) HS ?_ ?_ ?_; rotate_left; rfl; focus (intro w hSw; (try dsimp only at hSw); go_simp; all_goals (with_reducible rfl))
      simp only [Act.put, l_a, l_s, l_z]
      refine rg_load 3 rfl (by kernel_rfl) (by kernel_rfl) (by kernel_rfl) (rowA ⟨x.1, x.2, 0⟩) (fun _ _ _ h => h) HS (by rfl) g (q * 3) rfl (fun _ h => h.1) _ Tryz.underlying70 rfl (infoRw _) ?_
      simp only [Act.put, l_a, l_s, l_z]
      refine rg_t 4 (v := ?_) rfl (by kernel_rfl) (fun _ _ _ h => h) HS ?_ ?_ ?_; rotate_left; rfl; focus (intro w hSw; (try dsimp only at hSw); go_simp; all_goals (with_reducible rfl))
      simp only [Act.put, l_a, l_s, l_z]
      refine rg_t 5 (v := ?_) rfl (by kernel_rfl) (fun _ _ _ h => h) HS ?_ ?_ ?_; rotate_left; rfl; focus (intro w hSw; (try dsimp only at hSw); go_simp; all_goals (with_reducible rfl))
      simp only [Act.put, l_a, l_s, l_z]
      refine rg_t 6 (v := ?_) rfl (by kernel_rfl) (fun _ _ _ h => h) HS ?_ ?_ ?_; rotate_left; rfl; focus (intro w hSw; (try dsimp only at hSw); go_simp; all_goals (with_reducible rfl))
      simp only [Act.put, l_a, l_s, l_z]
      refine rg_t 7 (v := ?_) rfl (by kernel_rfl) (fun _ _ _ h => h) HS ?_ ?_ ?_; rotate_left; rfl; focus (intro w hSw; (try dsimp only at hSw); go_simp; all_goals (with_reducible rfl))
      simp only [Act.put, l_a, l_s, l_z]
      refine rg_t 8 (v := ?_) rfl (by kernel_rfl) (fun _ _ _ h => h) HS ?_ ?_ ?_; rotate_left; rfl; focus (intro w hSw; (try dsimp only at hSw); go_simp; all_goals (with_reducible rfl))
      simp only [Act.put, l_a, l_s, l_z]
      refine rg_t 9 (v := ?_) rfl (by kernel_rfl) (fun _ _ _ h => h) HS ?_ ?_ ?_; rotate_left; rfl; focus (intro w hSw; (try dsimp only at hSw); go_simp; all_goals (with_reducible rfl))
      simp only [Act.put, l_a, l_s, l_z]
      refine rg_t 10 (v := ?_) rfl (by kernel_rfl) (fun _ _ _ h => h) HS ?_ ?_ ?_; rotate_left; rfl; focus (intro w hSw; (try dsimp only at hSw); go_simp; all_goals (with_reducible rfl))
      simp only [Act.put, l_a, l_s, l_z]
      refine rg_t 11 (v := ?_) rfl (by kernel_rfl) (fun _ _ _ h => h) HS ?_ ?_ ?_; rotate_left; rfl; focus (intro w hSw; (try dsimp only at hSw); go_simp; all_goals (with_reducible rfl))
      simp only [Act.put, l_a, l_s, l_z]
      refine rg_t 12 (v := ?_) rfl (by kernel_rfl) (fun _ _ _ h => h) HS ?_ ?_ ?_; rotate_left; rfl; focus (intro w hSw; (try dsimp only at hSw); go_simp; all_goals (with_reducible rfl))
      simp only [Act.put, l_a, l_s, l_z]
      refine rg_t 13 (v := ?_) rfl (by kernel_rfl) (fun _ _ _ h => h) HS ?_ ?_ ?_; rotate_left; rfl; focus (intro w hSw; (try dsimp only at hSw); go_simp; all_goals (with_reducible rfl))
      simp only [Act.put, l_a, l_s, l_z]
      refine rg_t 14 (v := ?_) rfl (by kernel_rfl) (fun _ _ _ h => h) HS ?_ ?_ ?_; rotate_left; rfl; focus (intro w hSw; (try dsimp only at hSw); go_simp; all_goals (with_reducible rfl))
      simp only [Act.put, l_a, l_s, l_z]
      refine rg_t 15 (v := ?_) rfl (by kernel_rfl) (fun _ _ _ h => h) HS ?_ ?_ ?_; rotate_left; rfl; focus (intro w hSw; (try dsimp only at hSw); go_simp; all_goals (with_reducible rfl))
      simp only [Act.put, l_a, l_s, l_z]
      refine rg_t 16 (v := ?_) rfl (by kernel_rfl) (fun _ _ _ h => h) HS ?_ ?_ ?_; rotate_left; rfl; focus (intro w hSw; (try dsimp only at hSw); go_simp; all_goals (with_reducible rfl))
      simp only [Act.put, l_a, l_s, l_z]
      refine rg_t 17 (v := ?_) rfl (by kernel_rfl) (fun _ _ _ h => h) HS ?_ ?_ ?_; rotate_left; rfl; focus (intro w hSw; (try dsimp only at hSw); go_simp; all_goals (with_reducible rfl))
      simp only [Act.put, l_a, l_s, l_z]
      refine rg_t 18 (v := ?_) rfl (by kernel_rfl) (fun _ _ _ h => h) HS ?_ ?_ ?_; rotate_left; rfl; focus (intro w hSw; (try dsimp only at hSw); go_simp; all_goals (with_reducible rfl))
      simp only [Act.put, l_a, l_s, l_z]
      refine rg_t 19 (v := ?_) rfl (by kernel_rfl) (fun _ _ _ h => h) HS ?_ ?_ ?_; rotate_left; rfl; focus (intro w hSw; (try dsimp only at hSw); go_simp; all_goals (with_reducible rfl))
      simp only [Act.put, l_a, l_s, l_z]
      refine rg_build 20 [(0, _), (1, _)] rfl (by kernel_rfl) (by kernel_rfl) (by kernel_rfl) (.agg (rowA ⟨x.1, x.2, 0⟩)) (fun _ _ _ h => h) HS (by rfl) [(0, .string (bs x.1)), (1, .string (bs x.2))] rfl (fun _ => buildRw2 _ _ _) ?_
      simp only [Act.put, l_a, l_s, l_z]
      refine rg_t 21 (v := .bool false) rfl (by kernel_rfl) (fun _ _ _ h => h) HS (by rfl) (fun W _ => ex_bin (.agg (rowA ⟨x.1, x.2, 0⟩)) (.agg (rowA ⟨x.1, x.2, 0⟩)) (.bool false) rfl rfl (fun _ => run_guard_rw _ _ _ _ _ _) HNE.out) ?_
      simp only [Act.put, l_a, l_s, l_z]
      refine wpAnyH_done (by kernel_rfl) ?_ _
      go_wp2_with fail
      go_roundw
      case rel => exact ⟨q + 1, by omega, by go_num, HKR⟩
      case measure => simp [intOf]; omega
    · as_aux_lemma =>
      obtain rfl : q = count := by omega
      have hlb : decide ((q : Int) < (q : Int)) = false := by simp
      have hlbn : decide (q < q) = false := by simp
      have HPO := Lib.hid (HK1.out.trans hrel.out)
      clear hrel
      go_wp2_with fail
      first | exact ⟨rfl, HPO.out⟩ | (go_ret; exact ⟨rfl, HPO.out⟩)
end Go.Proofs.YtblpkifkaoaicaaGreat

namespace Go.Proofs.YtblpkifkaoaicaaGreat
open Go Go.RowKit Go.Maps Wb

/-- The document's map, with its blocks. -/
structure Mp (w0 w : World) (Z : Nat → Prop) (m : Nat) (F : KVs) : Prop where
  low : ∀ i, Z i → w0.heap.size ≤ i ∧ i < w.heap.size
  ex : ∃ v, w.heap[m]? = some (.cells #[v] 31 (0, 0)) ∧ isOwnA w w0.heap.size 84 2 v (kvsA F) ∧ Z m ∧ ∀ g, v.ownBlock = some g → Z g
theorem Mp.kept {w0 w w' : World} {Z S : Nat → Prop} {m : Nat} {F : KVs} (h : Mp w0 w Z m F) (hk : Keeps w w' S) (hS : ∀ i, S i → ¬ Z i) : Mp w0 w' Z m F := by
  obtain ⟨v, h1, h2, h3, h4⟩ := h.ex
  exact ⟨fun i hi => ⟨(h.low i hi).1, Nat.lt_of_lt_of_le (h.low i hi).2 hk.size⟩, v, hk.blk h1 (fun hs => hS m hs h3), h2.kept hk (fun g hg hs => hS g hs (h4 g hg)), h3, h4⟩
theorem Mp.is {w0 w : World} {Z : Nat → Prop} {m : Nat} {F : KVs} (h : Mp w0 w Z m F) : isMp w w0.heap.size m F := by
  obtain ⟨v, h1, h2, _⟩ := h.ex
  exact ⟨v, h1, h2⟩
theorem Mp.did {w0 w w' : World} {Z : Nat → Prop} {m : Nat} {F G : KVs} (h : Mp w0 w Z m F) (hb : w0.heap.size ≤ w.heap.size) (hm : isMp w' w.heap.size m G) (hk : w.heap.size ≤ w'.heap.size) : Mp w0 w' (fun i => Z i ∨ (w.heap.size ≤ i ∧ i < w'.heap.size)) m G := by
  obtain ⟨v, h1, h2, h3, h4⟩ := h.ex
  obtain ⟨v', k1, k2⟩ := hm
  refine ⟨fun i hi => ?_, v', k1, k2.low hb, .inl h3, fun g hg => .inr (k2.blk g hg)⟩
  rcases hi with hi | hi
  · exact ⟨(h.low i hi).1, Nat.lt_of_lt_of_le (h.low i hi).2 hk⟩
  · exact ⟨Nat.le_trans hb hi.1, hi.2⟩
/-- Two trees and the map. -/
def Any (w wr : World) (fa ta : Nat) (da : DH) (Fa : Pg) (Ra Ka : Root) (ca ha : Nat) (fb tb : Nat) (db : DH) (Fb : Pg) (Rb Kb : Root) (cb hb : Nat) (m : Nat) (M : KVs) : Prop :=
  ∃ Sa Sb Z, Tr w wr fa da Sa Fa ta Ra Ka ca ha ∧ Tr w wr fb db Sb Fb tb Rb Kb cb hb ∧ Mp w wr Z m M ∧ (∀ i, Sa i → ¬ Sb i ∧ ¬ Z i) ∧ (∀ i, Sb i → ¬ Z i)
namespace Any
variable {w wr w' : World} {fa ta : Nat} {da : DH} {Fa : Pg} {Ra Ka : Root} {ca ha : Nat} {fb tb : Nat} {db : DH} {Fb : Pg} {Rb Kb : Root} {cb hb : Nat} {m : Nat} {M : KVs}
theorem swap (h : Any w wr fa ta da Fa Ra Ka ca ha fb tb db Fb Rb Kb cb hb m M) : Any w wr fb tb db Fb Rb Kb cb hb fa ta da Fa Ra Ka ca ha m M := by
  obtain ⟨Sa, Sb, Z, h1, h2, h3, h4, h5⟩ := h
  exact ⟨Sb, Sa, Z, h2, h1, h3, fun i hi => ⟨fun hs => (h4 i hs).1 hi, h5 i hi⟩, fun i hi => (h4 i hi).2⟩
theorem base (h : Any w wr fa ta da Fa Ra Ka ca ha fb tb db Fb Rb Kb cb hb m M) : Keeps w wr (fun _ => False) := by
  obtain ⟨Sa, Sb, Z, h1, _⟩ := h
  exact h1.base
theorem new (h : Any w wr fa ta da Fa Ra Ka ca ha fb tb db Fb Rb Kb cb hb m M) (hk : Keeps wr w' (fun _ => False)) : Any w w' fa ta da Fa Ra Ka ca ha fb tb db Fb Rb Kb cb hb m M := by
  obtain ⟨Sa, Sb, Z, h1, h2, h3, h4, h5⟩ := h
  exact ⟨Sa, Sb, Z, h1.new hk, h2.new hk, h3.kept hk (fun _ h => h.elim), h4, h5⟩
theorem useA (h : Any w wr fa ta da Fa Ra Ka ca ha fb tb db Fb Rb Kb cb hb m M) : ∃ Sa, Tr w wr fa da Sa Fa ta Ra Ka ca ha ∧ ∀ w' Fn Rn Kn cn hn, TrTo w wr w' fa da Sa Fn ta Rn Kn cn hn → Any w w' fa ta da Fn Rn Kn cn hn fb tb db Fb Rb Kb cb hb m M := by
  obtain ⟨Sa, Sb, Z, h1, h2, h3, h4, h5⟩ := h
  refine ⟨Sa, h1, fun w' Fn Rn Kn cn hn ⟨S', k1, k2, k3, k4⟩ => ⟨S', Sb, Z, k1, h2.kept' k4 (fun i hi => ⟨(h4 i hi).1, (h1.low i hi).1⟩), h3.kept k4 (fun i hi => (h4 i hi).2), fun i hi => ?_, h5⟩⟩
  rcases k3 i hi with h9 | h9
  · exact h4 i h9
  · exact ⟨fun hs => by have := (h2.low i hs).2; omega, fun hs => by have := (h3.low i hs).2; omega⟩
theorem useB (h : Any w wr fa ta da Fa Ra Ka ca ha fb tb db Fb Rb Kb cb hb m M) : ∃ Sb, Tr w wr fb db Sb Fb tb Rb Kb cb hb ∧ ∀ w' Fn Rn Kn cn hn, TrTo w wr w' fb db Sb Fn tb Rn Kn cn hn → Any w w' fa ta da Fa Ra Ka ca ha fb tb db Fn Rn Kn cn hn m M := by
  obtain ⟨Sb, h1, h2⟩ := h.swap.useA
  exact ⟨Sb, h1, fun w' Fn Rn Kn cn hn hk => (h2 w' Fn Rn Kn cn hn hk).swap⟩
theorem useM (h : Any w wr fa ta da Fa Ra Ka ca ha fb tb db Fb Rb Kb cb hb m M) : isMp wr w.heap.size m M ∧ ∀ w' Mn, isMp w' wr.heap.size m Mn → Keeps wr w' (· = m) → Any w w' fa ta da Fa Ra Ka ca ha fb tb db Fb Rb Kb cb hb m Mn := by
  obtain ⟨Sa, Sb, Z, h1, h2, h3, h4, h5⟩ := h
  have hZm : Z m := by obtain ⟨v, _, _, h9, _⟩ := h3.ex; exact h9
  refine ⟨h3.is, fun w' Mn hm hk => ⟨Sa, Sb, _, h1.kept' hk (fun i e => ?_), h2.kept' hk (fun i e => ?_), h3.did h1.base.size hm hk.size, fun i hi => ⟨(h4 i hi).1, fun hz => ?_⟩, fun i hi hz => ?_⟩⟩
  · have e' : i = m := e
    subst e'
    exact ⟨fun hs => (h4 _ hs).2 hZm, (h3.low _ hZm).1⟩
  · have e' : i = m := e
    subst e'
    exact ⟨fun hs => h5 _ hs hZm, (h3.low _ hZm).1⟩
  · rcases hz with hz | hz
    · exact (h4 i hi).2 hz
    · have := (h1.low i hi).2; omega
  · rcases hz with hz | hz
    · exact h5 i hi hz
    · have := (h2.low i hi).2; omega
end Any
theorem TS.later {m P g h : Nat} {F : Pg} {root kept : Root} (k : TS m P g F root kept) (hg : g ≤ h) : TS m P h F root kept := ⟨⟨k.fr.ss, k.fr.us, k.fr.fr, Nat.le_trans k.fr.gen hg⟩, k.us, k.fresh, k.ok, k.okk, k.her, k.nz, k.fullk, k.nodk⟩
/-! ### what is in the maps -/
def mapQ (xs : List Int) (q : Nat) : KVs := (xs.take q).foldl (fun M x => putM M (keyNm x) [118]) []
theorem mapQ_next {xs : List Int} {q : Nat} {x : Int} (h : xs[q]? = some x) : mapQ xs (q + 1) = putM (mapQ xs q) (keyNm x) [118] := by
  unfold mapQ
  rw [take_snoc h, List.foldl_append]
  rfl
theorem mapQ_sorted (xs : List Int) : ∀ q, q ≤ xs.length → (mapQ xs q).Pairwise (fun a b => a.1 < b.1)
  | 0, _ => List.Pairwise.nil
  | q + 1, h => by
    rw [mapQ_next (List.getElem?_eq_getElem (show q < xs.length by omega))]
    exact putM_sorted (mapQ_sorted xs q (by omega))
def keysQ (xs : List Int) (q : Nat) : List Nm := (xs.take q).map keyNm
theorem keysQ_in {xs : List Int} {i q : Nat} {x : Int} (hi : i < q) (h : xs[i]? = some x) : keyNm x ∈ keysQ xs q := by
  refine List.mem_map.2 ⟨x, ?_, rfl⟩
  refine List.mem_of_getElem? (i := i) ?_
  rw [List.getElem?_take, if_pos hi, h]
theorem keysQ_at {xs : List Int} {q : Nat} {k : Nm} (h : k ∈ keysQ xs q) : ∃ i x, i < q ∧ xs[i]? = some x ∧ k = keyNm x := by
  obtain ⟨x, hx, rfl⟩ := List.mem_map.1 h
  obtain ⟨i, hi⟩ := List.getElem?_of_mem hx
  rw [List.getElem?_take] at hi
  split at hi
  · exact ⟨i, x, by assumption, hi, rfl⟩
  · cases hi
theorem keysQ_len (xs : List Int) (q : Nat) : (keysQ xs q).length ≤ q := by unfold keysQ; rw [List.length_map, List.length_take]; omega
theorem mapQ_mem {xs : List Int} : ∀ {q : Nat}, q ≤ xs.length → ∀ x, x ∈ mapQ xs q ↔ x.2 = [118] ∧ x.1 ∈ keysQ xs q
  | 0, _, x => by simp [mapQ, keysQ]
  | q + 1, h, x => by
    have hq : xs[q]? = some (xs[q]'(by omega)) := List.getElem?_eq_getElem _
    rw [mapQ_next hq, mem_putM (mapQ_sorted xs q (by omega)), mapQ_mem (by omega)]
    have e : keysQ xs (q + 1) = keysQ xs q ++ [keyNm (xs[q]'(by omega))] := by unfold keysQ; rw [take_snoc hq, List.map_append]; rfl
    rw [e, List.mem_append, List.mem_singleton]
    constructor
    · rintro (rfl | ⟨⟨h1, h2⟩, _⟩)
      · exact ⟨rfl, .inr rfl⟩
      · exact ⟨h1, .inl h2⟩
    · rintro ⟨h1, h2⟩
      by_cases h3 : x.1 = keyNm (xs[q]'(by omega))
      · exact .inl (Prod.ext h3 h1)
      · exact .inr ⟨⟨h1, h2.resolve_right h3⟩, h3⟩
theorem mapQ_len (xs : List Int) {q : Nat} (h : q ≤ xs.length) : (mapQ xs q).length ≤ q := Nat.le_trans (rows_few (mapQ_sorted xs q h) (fun x hx => ((mapQ_mem h x).1 hx).2)) (keysQ_len xs q)
end Go.Proofs.YtblpkifkaoaicaaGreat

namespace Go.Proofs.YtblpkifkaoaicaaGreat
open Go Go.RowKit Go.Maps Wb

theorem buildMp0 (w : World) : (Instr.build 31 #[]).run Tryz.prog w = .ok (.agg #[.slice none 0 0]) w := by kernel_rfl
theorem buildOp (k : ByteArray) (a : Option Addr) (n c : Nat) (w : World) : (Instr.build 38 #[(0, .string k), (2, .slice a n c)]).run Tryz.prog w = .ok (.agg #[.string k, .bool false, .slice a n c]) w := by kernel_rfl
theorem infoOpZ : (Tryz.prog.info? 38).map (fun i => (i.zero, i.size, i.bytes)) = some (some (.agg #[.string (bs []), .bool false, .slice none 0 0]), 3, 48) := by kernel_rfl
/-- The state ahead of the first loop's q-th round. -/
def AnyA (w : World) (xs : List Int) (fa ta : Nat) (da : DH) (fb tb : Nat) (db : DH) (m : Nat) (Fb : Pg) (q : Nat) (wr : World) : Prop :=
  ∃ Fa Ra Ka ha g, Any w wr fa ta da Fa Ra Ka (mapQ xs q).length ha fb tb db Fb none none 0 0 m (mapQ xs q) ∧ TS 20000 2500 g Fa Ra Ka ∧ g ≤ q + 1 ∧ flatT Ra = mapQ xs q ∧ (flatT Ka).length ≤ q
/-- .. of the others. -/
def AnyB (w : World) (xs : List Int) (n : Nat) (fa ta : Nat) (da : DH) (fb tb : Nat) (db : DH) (m : Nat) (Fa : Pg) (Ra Ka : Root) (ha : Nat) (q p : Nat) (wr : World) : Prop :=
  ∃ Fb Rb Kb hb g, Any w wr fa ta da Fa Ra Ka (mapQ xs n).length ha fb tb db Fb Rb Kb (flatT Rb).length hb m (mapQ xs n) ∧ TS 20000 2500 g Fb Rb Kb ∧ g ≤ q + 1 ∧ (∀ x ∈ flatT Rb, x.1 ∈ keysQ xs n) ∧ (∀ x ∈ flatT Kb, x.1 ∈ keysQ xs n) ∧ ∀ k ∈ keysQ xs p, (k, ([118] : Nm)) ∈ flatT Rb
theorem AnyA.new {w : World} {xs : List Int} {fa ta : Nat} {da : DH} {fb tb : Nat} {db : DH} {m : Nat} {Fb : Pg} {q : Nat} {wr w' : World} (h : AnyA w xs fa ta da fb tb db m Fb q wr) (hk : Keeps wr w' (fun _ => False)) : AnyA w xs fa ta da fb tb db m Fb q w' := by
  obtain ⟨Fa, Ra, Ka, ha, g, hany, h9⟩ := h
  exact ⟨Fa, Ra, Ka, ha, g, hany.new hk, h9⟩
theorem AnyA.base {w : World} {xs : List Int} {fa ta : Nat} {da : DH} {fb tb : Nat} {db : DH} {m : Nat} {Fb : Pg} {q : Nat} {wr : World} (h : AnyA w xs fa ta da fb tb db m Fb q wr) : Keeps w wr (fun _ => False) := by
  obtain ⟨Fa, Ra, Ka, ha, g, hany, h9⟩ := h
  exact hany.base
theorem AnyB.new {w : World} {xs : List Int} {n fa ta : Nat} {da : DH} {fb tb : Nat} {db : DH} {m : Nat} {Fa : Pg} {Ra Ka : Root} {ha q p : Nat} {wr w' : World} (h : AnyB w xs n fa ta da fb tb db m Fa Ra Ka ha q p wr) (hk : Keeps wr w' (fun _ => False)) : AnyB w xs n fa ta da fb tb db m Fa Ra Ka ha q p w' := by
  obtain ⟨Fb, Rb, Kb, hb, g, hany, h9⟩ := h
  exact ⟨Fb, Rb, Kb, hb, g, hany.new hk, h9⟩
theorem AnyB.base {w : World} {xs : List Int} {n fa ta : Nat} {da : DH} {fb tb : Nat} {db : DH} {m : Nat} {Fa : Pg} {Ra Ka : Root} {ha q p : Nat} {wr : World} (h : AnyB w xs n fa ta da fb tb db m Fa Ra Ka ha q p wr) : Keeps w wr (fun _ => False) := by
  obtain ⟨Fb, Rb, Kb, hb, g, hany, h9⟩ := h
  exact hany.base
theorem AnyA.toB {w : World} {xs : List Int} {fa ta : Nat} {da : DH} {fb tb : Nat} {db : DH} {m : Nat} {Fb : Pg} {n : Nat} {wr : World} (h : AnyA w xs fa ta da fb tb db m Fb n wr) (hb : TS 20000 2500 1 Fb none none) : ∃ Fa Ra Ka ha, AnyB w xs n fa ta da fb tb db m Fa Ra Ka ha 0 0 wr ∧ RootOk Ra ∧ flatT Ra = mapQ xs n := by
  obtain ⟨Fa, Ra, Ka, ha, g, hany, hts, hg, hfl, hka⟩ := h
  exact ⟨Fa, Ra, Ka, ha, ⟨Fb, none, none, 0, 1, hany, hb, Nat.le_refl _, fun x hx => (by cases hx), fun x hx => (by cases hx), fun k hk => (by simp [keysQ] at hk)⟩, hts.ok, hfl⟩
theorem AnyA.putted {w : World} {xs : List Int} {fa ta : Nat} {da : DH} {fb tb : Nat} {db : DH} {m : Nat} {Fb : Pg} {q : Nat} {wr : World} (h : AnyA w xs fa ta da fb tb db m Fb q wr) {x : Int} (hx : xs[q]? = some x) (hq : q < 150) :
    Calls Tryz.prog 13 #[.pointer (some ⟨ta, 0, none⟩), .string (bs (keyNm x)), .string (bs [118])] wr fun e w1 => e = .returned (.int .i64 0) ∧ Keeps w w1 (fun _ => False) ∧ ∀ w2, Keeps w1 w2 (fun _ => False) → isMp w2 w.heap.size m (mapQ xs q) ∧ (mapQ xs q).Pairwise (fun a b => a.1 < b.1) ∧ (mapQ xs q).length ≤ 1000 ∧ ∀ w3, isMp w3 w2.heap.size m (doM (mapQ xs q) (keyNm x) [118] false) → Keeps w2 w3 (· = m) →
      AnyA w xs fa ta da fb tb db m Fb (q + 1) w3 ∧ Calls Tryz.prog 16 #[.pointer (some ⟨ta, 0, none⟩), .int .u64 1] w3 fun e w4 => e = .returned (.int .i64 0) ∧ AnyA w xs fa ta da fb tb db m Fb (q + 1) w4 := by
  obtain ⟨Fa, Ra, Ka, ha, g, hany, hts, hg, hfl, hka⟩ := h
  have hqx := (List.getElem?_eq_some_iff.1 hx).1
  have hsq := mapQ_sorted xs q (by omega)
  have hlq := mapQ_len xs (q := q) (by omega)
  have hlq1 := mapQ_len xs (q := q + 1) (by omega)
  obtain ⟨Sa, htr, hto⟩ := hany.useA
  refine (tr_put htr hts.ok (by omega) (keyNm_ok x) (v := [118]) (by decide)).mono ?_
  rintro e w1 ⟨rfl, hk1⟩
  have h1 := hto _ _ _ _ _ _ hk1
  have hts1 := hts.put (keyNm_ok x) (v := [118]) (by decide)
  have hfl1 : flatT (putT Ra (keyNm x) [118]) = mapQ xs (q + 1) := by rw [(putT_ok hts.ok (keyNm_ok x) (v := [118]) (by decide)).2, hfl, mapQ_next hx]
  have hcn : (mapQ xs q).length + (if hasM (flatT Ra) (keyNm x) = true then 0 else 1) = (mapQ xs (q + 1)).length := by rw [hfl, put_len hsq (keyNm x) [118], mapQ_next hx]
  rw [hcn] at h1
  refine ⟨rfl, h1.base, fun w2 hk2 => ?_⟩
  have h2 := h1.new hk2
  obtain ⟨hm2, hdo⟩ := h2.useM
  refine ⟨hm2, hsq, by omega, fun w3 hm3 hk3 => ?_⟩
  rw [doM_put, ← mapQ_next hx] at hm3
  have h3 := hdo w3 _ hm3 hk3
  refine ⟨⟨Fa, _, Ka, ha, g, h3, hts1, by omega, hfl1, by omega⟩, ?_⟩
  obtain ⟨Sc, htc, htco⟩ := h3.useA
  have hn1 := nodesT_few hts1.ok
  have hn2 := nodesT_few hts1.okk
  rw [hfl1] at hn1
  refine (tr_commit (mark := 1) htc hts1 (by decide) (by decide) (by omega) (by omega) (by omega) (by decide)).mono ?_
  rintro e w4 ⟨rfl, F4, R4, hk4, hts4, hfl4, _, _⟩
  exact ⟨rfl, F4, R4, R4, _, g + 1, htco _ _ _ _ _ _ hk4, hts4, by omega, by rw [hfl4, hfl1], by rw [hfl4, hfl1]; omega⟩
theorem AnyB.putted {w : World} {xs : List Int} {n fa ta : Nat} {da : DH} {fb tb : Nat} {db : DH} {m : Nat} {Fa : Pg} {Ra Ka : Root} {ha q p : Nat} {wr : World} (h : AnyB w xs n fa ta da fb tb db m Fa Ra Ka ha q p wr) {i : Nat} {x : Int} (hx : xs[i]? = some x) (hi : i < n) (hn : n ≤ 150) (hnx : n ≤ xs.length) {v : Nm} (hv : v.length ≤ 20) (hp : p = 0 ∨ v = [118]) :
    Calls Tryz.prog 13 #[.pointer (some ⟨tb, 0, none⟩), .string (bs (keyNm x)), .string (bs v)] wr fun e w1 => e = .returned (.int .i64 0) ∧ AnyB w xs n fa ta da fb tb db m Fa Ra Ka ha q p w1 ∧ (i = p → v = [118] → AnyB w xs n fa ta da fb tb db m Fa Ra Ka ha q (p + 1) w1) := by
  obtain ⟨Fb, Rb, Kb, hb, g, hany, hts, hg, hin, hink, hall⟩ := h
  obtain ⟨Sb, htr, hto⟩ := hany.useB
  have hs := flatT_sorted hts.ok
  have hlen := Nat.le_trans (rows_few hs hin) (keysQ_len xs n)
  refine (tr_put htr hts.ok (by omega) (keyNm_ok x) hv).mono ?_
  rintro e w1 ⟨rfl, hk1⟩
  have h1 := hto _ _ _ _ _ _ hk1
  have hfl1 := (putT_ok hts.ok (keyNm_ok x) hv).2
  rw [put_len hs (keyNm x) v, ← hfl1] at h1
  have hmem := fun y => mem_putM (k := keyNm x) (v := v) hs y
  have hin1 : ∀ y ∈ flatT (putT Rb (keyNm x) v), y.1 ∈ keysQ xs n := fun y hy => by
    rw [hfl1, hmem] at hy
    rcases hy with rfl | hy
    · exact keysQ_in hi hx
    · exact hin y hy.1
  have hall1 : ∀ k ∈ keysQ xs p, (k, ([118] : Nm)) ∈ flatT (putT Rb (keyNm x) v) := fun k hk => by
    rw [hfl1, hmem]
    by_cases hkx : k = keyNm x
    · rcases hp with rfl | rfl
      · simp [keysQ] at hk
      · exact .inl (by rw [hkx])
    · exact .inr ⟨hall k hk, hkx⟩
  refine ⟨rfl, ⟨Fb, _, Kb, hb, g, h1, hts.put (keyNm_ok x) hv, hg, hin1, hink, hall1⟩, fun hip hv1 => ⟨Fb, _, Kb, hb, g, h1, hts.put (keyNm_ok x) hv, hg, hin1, hink, fun k hk => ?_⟩⟩
  obtain ⟨j, y, hj, hy, rfl⟩ := keysQ_at hk
  rcases Nat.lt_or_ge j p with h9 | h9
  · exact hall1 _ (keysQ_in h9 hy)
  · obtain rfl : j = i := by omega
    rw [hx] at hy
    injection hy with hy
    rw [hfl1, hmem, hv1, hy]
    exact .inl rfl
theorem AnyB.commits {w : World} {xs : List Int} {n fa ta : Nat} {da : DH} {fb tb : Nat} {db : DH} {m : Nat} {Fa : Pg} {Ra Ka : Root} {ha q p : Nat} {wr : World} (h : AnyB w xs n fa ta da fb tb db m Fa Ra Ka ha q p wr) (hn : n ≤ 150) (hq : q ≤ 1000) :
    Calls Tryz.prog 16 #[.pointer (some ⟨tb, 0, none⟩), .int .u64 1] wr fun e w4 => e = .returned (.int .i64 0) ∧ AnyB w xs n fa ta da fb tb db m Fa Ra Ka ha (q + 1) p w4 := by
  obtain ⟨Fb, Rb, Kb, hb, g, hany, hts, hg, hin, hink, hall⟩ := h
  obtain ⟨Sb, htr, hto⟩ := hany.useB
  have hl1 := Nat.le_trans (rows_few (flatT_sorted hts.ok) hin) (keysQ_len xs n)
  have hl2 := Nat.le_trans (rows_few (flatT_sorted hts.okk) hink) (keysQ_len xs n)
  have hn1 := nodesT_few hts.ok
  have hn2 := nodesT_few hts.okk
  refine (tr_commit (mark := 1) htr hts (by decide) (by decide) (by omega) (by omega) (by omega) (by decide)).mono ?_
  rintro e w4 ⟨rfl, F4, R4, hk4, hts4, hfl4, _, _⟩
  have h4 := hto _ _ _ _ _ _ hk4
  rw [← hfl4] at h4
  exact ⟨rfl, F4, R4, R4, _, g + 1, h4, hts4, by omega, by rw [hfl4]; exact hin, by rw [hfl4]; exact hin, by rw [hfl4]; exact hall⟩
theorem AnyB.later {w : World} {xs : List Int} {n fa ta : Nat} {da : DH} {fb tb : Nat} {db : DH} {m : Nat} {Fa : Pg} {Ra Ka : Root} {ha q p : Nat} {wr : World} (h : AnyB w xs n fa ta da fb tb db m Fa Ra Ka ha q p wr) : AnyB w xs n fa ta da fb tb db m Fa Ra Ka ha (q + 1) p wr := by
  obtain ⟨Fb, Rb, Kb, hb, g, hany, hts, hg, h9⟩ := h
  exact ⟨Fb, Rb, Kb, hb, g, hany, hts, by omega, h9⟩
/-- At the end both trees hold the map. -/
theorem AnyB.done {w : World} {xs : List Int} {n fa ta : Nat} {da : DH} {fb tb : Nat} {db : DH} {m : Nat} {Fa : Pg} {Ra Ka : Root} {ha q : Nat} {wr : World} (h : AnyB w xs n fa ta da fb tb db m Fa Ra Ka ha q n wr) (hn : n ≤ 150) (hnx : n ≤ xs.length) (hoka : RootOk Ra) (hfla : flatT Ra = mapQ xs n) :
    Calls Tryz.prog 17 #[.pointer (some ⟨ta, 0, none⟩), .pointer (some ⟨m, 0, none⟩)] wr (fun e w1 => e = .returned (.bool true) ∧ Calls Tryz.prog 17 #[.pointer (some ⟨tb, 0, none⟩), .pointer (some ⟨m, 0, none⟩)] w1 (fun e w2 => e = .returned (.bool true) ∧ Keeps w w2 (fun _ => False))) := by
  obtain ⟨Fb, Rb, Kb, hb, g, hany, hts, hg, hin, hink, hall⟩ := h
  have hM : flatT Rb = mapQ xs n := by
    refine sorted_ext (flatT_sorted hts.ok) (mapQ_sorted xs n hnx) (fun x => ?_)
    rw [mapQ_mem hnx]
    constructor
    · intro hx
      refine ⟨?_, hin x hx⟩
      have h1 := hall _ (hin x hx)
      have hs := flatT_sorted hts.ok
      rw [List.pairwise_iff_getElem] at hs
      obtain ⟨i, hi⟩ := List.getElem?_of_mem hx
      obtain ⟨j, hj⟩ := List.getElem?_of_mem h1
      have hil := List.getElem?_eq_some_iff.1 hi
      have hjl := List.getElem?_eq_some_iff.1 hj
      rcases Nat.lt_trichotomy i j with h9 | h9 | h9
      · have := hs i j hil.1 hjl.1 h9
        rw [hil.2, hjl.2] at this
        exact absurd this (nm_irrefl _)
      · subst h9
        rw [hi] at hj
        injection hj with hj
        rw [hj]
      · have := hs j i hjl.1 hil.1 h9
        rw [hil.2, hjl.2] at this
        exact absurd this (nm_irrefl _)
    · rintro ⟨h1, h2⟩
      have := hall _ h2
      rw [← h1] at this
      exact this
  have hlm := mapQ_len xs hnx
  obtain ⟨Sa, htr, _⟩ := hany.useA
  obtain ⟨hm, _⟩ := hany.useM
  refine (is11_calls htr hoka hfla rfl hm (by omega)).mono ?_
  rintro e w1 ⟨rfl, hk1⟩
  have h1 := hany.new hk1
  obtain ⟨Sb, htb, _⟩ := h1.useB
  obtain ⟨hm1, _⟩ := h1.useM
  refine ⟨rfl, (is11_calls htb hts.ok hM (by rw [hM]) hm1 (by omega)).mono ?_⟩
  rintro e w2 ⟨rfl, hk2⟩
  exact ⟨rfl, h1.base.trans hk2⟩
end Go.Proofs.YtblpkifkaoaicaaGreat
