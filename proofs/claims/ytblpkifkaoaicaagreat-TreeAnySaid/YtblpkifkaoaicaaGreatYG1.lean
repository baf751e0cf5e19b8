import Derived.Test.YtblpkifkaoaicaaGreatYO2
import Derived.Test.YtblpkifkaoaicaaGreatYCp
import Derived.Test.YtblpkifkaoaicaaGreatQP
import Derived.Test.YtblpkifkaoaicaaGreatYMsk
import Derived.Deep.Cut
import Derived.Deep.DeepCutAuto
import Derived.Lib.SlBytesConst
import Derived.MapKept
/-! Package page: the meta's sector. -/
namespace Go.Proofs.YtblpkifkaoaicaaGreat
open Go Go.RowKit Go.Maps Wb

def metaA (m : Mt) : Array Value := #[.int .u64 m.gen, .int .i64 m.root, .int .i64 m.count, .int .u64 m.mark]
theorem octs_secA (s : Sec) : (secA s).toList = octs s.1 := by simp [secA, octs, octV]

def mrow (m : Mt) : List Nat := [m.gen, m.root, m.count, m.mark]
def mpre (m : Mt) (k : Nat) : List UInt8 := markL ++ ((mrow m).take k).flatMap (be 8)
theorem mpre_all (m : Mt) : mpre m 4 = metaL m := by simp [mpre, mrow, metaL]
theorem mpre_len (m : Mt) (k : Nat) (hk : k ≤ 4) : (mpre m k).length = 8 + 8 * k := by
  have h : ∀ l : List Nat, (l.flatMap (be 8)).length = 8 * l.length := by
    intro l
    induction l with
    | nil => rfl
    | cons a r ih => simp [List.flatMap_cons, be_len, ih]; omega
  rw [mpre, List.length_append, h, List.length_take]
  simp [markL, mrow]; omega
theorem mpre_succ (m : Mt) (k : Nat) (hk : k < 4) : ∃ x, (mrow m)[k]? = some x ∧ mpre m (k + 1) = mpre m k ++ be 8 x := by
  have hl : k < (mrow m).length := hk
  refine ⟨(mrow m)[k], List.getElem?_eq_getElem hl, ?_⟩
  rw [mpre, mpre, List.take_add_one, List.getElem?_eq_getElem hl, List.flatMap_append, ← List.append_assoc]
  simp
def SectorRel (w : World) (m : Mt) (br bs g : Nat) (k : Nat) (v : Value) (wr : World) : Prop :=
  isRd wr v (octs (mpre m k)) ∧ (∀ cap, v = .slice none 0 cap → cap = 0) ∧ wr.heap[br]? = some (.cells (secA Sec.zero) 62 (0, 0)) ∧ wr.heap[bs]? = some (.cells (secA Sec.zero) 62 (0, 0)) ∧
  wr.heap[g]? = some (.cells #[.int .u64 m.gen, .int .u64 m.root, .int .u64 m.count, .int .u64 m.mark] 41 (0, 0)) ∧ Keeps w wr (fun _ => False)
theorem SectorRel.x {w : World} {m : Mt} {br bs g k : Nat} {v : Value} {wr : World} (h : SectorRel w m br bs g k v wr) {j x : Nat} (hx : (mrow m)[j]? = some x) : wr.cell? ⟨g, j, none⟩ = some (.int .u64 x) := by
  rw [cell_of_block h.2.2.2.2.1]
  match j, hx with
  | 0, hx => cases hx; rfl
  | 1, hx => cases hx; rfl
  | 2, hx => cases hx; rfl
  | 3, hx => cases hx; rfl
theorem sec_copy (m : Mt) : Wb.splice (secA Sec.zero) 0 ((octs (metaL m)).take 40).toArray = secA (metaS m) := by
  apply Array.toList_inj.1
  have h1 : (octs (metaL m)).length = 40 := by rw [octs_len, metaL_len]
  rw [List.take_of_length_le (by omega)]
  unfold Wb.splice
  simp only [List.size_toArray, h1, List.take_zero, List.nil_append, octs_secA, metaS, octs_app]
  congr 1

set_option maxRecDepth 100000 in
set_option maxHeartbeats 4000000 in
theorem sector9_calls (w : World) (m : Mt) (hm : m.ok) : Calls Tryz.prog 84 #[.agg (metaA m)] w (Quiet w (secV (metaS m))) := by
  have h1 := hm.gen
  have HM := Lib.hid hm
  have g0 : (0 : Int) ≤ m.gen := by omega
  have g1 : (0 : Int) ≤ m.root := by omega
  have g2 : (0 : Int) ≤ m.count := by omega
  have g3 : (0 : Int) ≤ m.mark := by omega
  have r1 : IntKind.u64.wrap (m.root : Int) = m.root := by have := hm.root; rw [wrap_u64]; omega
  have r2 : IntKind.u64.wrap (m.count : Int) = m.count := by have := hm.count; rw [wrap_u64]; omega
  have kc := fun (w : World) (C : Array Value) (n c : Nat) => Go.Lib.run_convert_bytes_const (P := Tryz.prog) w 36 5 C n c Tryz.underlying36 Tryz.underlying5
  clear h1 hm
  go_enter Tryz.func84, Tryz.ntmps84
  go_upto_region 1 with (first
    | ((with_reducible refine gd_box 119 ?_); refine wl_box_agg rfl _ _ rfl (metaA m) rfl ?_; intro bm w1 hbm HBM HKM)
    | ((with_reducible refine gd_alloc 62 ?_); refine wl_alloc_agg rfl _ rfl _ zero28 ?_; intro br w2 hbr HBR HKR)
    | fail)
  go_upto_region 3 with (first
    | ((with_reducible refine gd_alloc 62 ?_); refine wl_alloc_agg rfl _ rfl _ zero28 ?_; intro bs w3 hbs HBS HKS)
    | fail)
  obtain ⟨w4, hw4⟩ : ∃ w4, w4 = w3.alloc (.cells #[.int .u8 119, .int .u8 97, .int .u8 121, .int .u8 98, .int .u8 105, .int .u8 108, .int .u8 108, .int .u8 49] 5 (8, 9)) := ⟨_, rfl⟩
  rw [← hw4]
  have HB4 : w4.heap[w3.heap.size]? = some (.cells #[.int .u8 119, .int .u8 97, .int .u8 121, .int .u8 98, .int .u8 105, .int .u8 108, .int .u8 108, .int .u8 49] 5 (8, 9)) := by rw [hw4]; exact (Go.MapKept.heap_alloc w3 _).1
  have HK4 : Keeps w3 w4 (fun _ => False) := by rw [hw4]; exact (Keeps.refl w3 _).alloc _
  generalize w3.heap.size = b4 at *
  clear hw4 kc
  have HBM4 := HK4.blk (HKS.blk (HKR.blk HBM id) id) id
  have HBR4 := HK4.blk (HKS.blk HBR id) id
  have HBS4 := HK4.blk HBS id
  have d0 : w4.cell? ⟨bm, 0, none⟩ = some (.int .u64 m.gen) := by rw [cell_of_block HBM4]; rfl
  have d1 : w4.cell? ⟨bm, 1, none⟩ = some (.int .i64 m.root) := by rw [cell_of_block HBM4]; rfl
  have d2 : w4.cell? ⟨bm, 2, none⟩ = some (.int .i64 m.count) := by rw [cell_of_block HBM4]; rfl
  have d3 : w4.cell? ⟨bm, 3, none⟩ = some (.int .u64 m.mark) := by rw [cell_of_block HBM4]; rfl
  have hrel0 : ∀ w5 g, w5 = w4.alloc (.cells #[.int .u64 m.gen, .int .u64 m.root, .int .u64 m.count, .int .u64 m.mark] 41) → g = w4.heap.size → SectorRel w m br bs g 0 (.slice (some ⟨b4, 0, none⟩) 8 8) w5 := by
    intro w5 g e e2
    subst e e2
    have hk := (Keeps.refl w4 (fun _ => False)).alloc (.cells #[.int .u64 m.gen, .int .u64 m.root, .int .u64 m.count, .int .u64 m.mark] 41)
    refine ⟨?_, (fun _ h => by cases h), hk.blk HBR4 id, hk.blk HBS4 id, (Go.MapKept.heap_alloc w4 _).1, (((HKM.trans HKR).trans HKS).trans HK4).trans hk⟩
    refine ⟨_, 8, rfl, Nat.le_refl _, fun j x hj => ⟨b4, 0, rfl, Nat.lt_of_lt_of_le (lt_of_blk HB4) hk.size, ?_⟩⟩
    rw [cell_of_block (hk.blk HB4 id), Nat.zero_add]
    have : octs (mpre m 0) = #[Value.int .u8 119, .int .u8 97, .int .u8 121, .int .u8 98, .int .u8 105, .int .u8 108, .int .u8 108, .int .u8 49].toList := rfl
    rw [this] at hj
    simpa using hj
  have HREL0 := Lib.hid hrel0
  have HLO : Hid (w.heap.size ≤ bs ∧ w.heap.size ≤ br ∧ br ≠ bs) := Lib.hid ⟨Nat.le_trans (Nat.le_trans HKM.size HKR.size) hbs, Nat.le_trans HKM.size hbr, ne_new HBR hbs⟩
  clear hrel0 HBM HBM4 HBR HBR4 HBS HBS4 HB4 HKM HKR HKS HK4 hbm hbr hbs
  go_wp2_with fail
  obtain ⟨w5, hw5⟩ : ∃ w5, w5 = w4.alloc (.cells #[.int .u64 m.gen, .int .u64 m.root, .int .u64 m.count, .int .u64 m.mark] 41) := ⟨_, rfl⟩
  rw [← hw5]
  have hrel1 := HREL0.out w5 _ hw5 rfl
  generalize w4.heap.size = g at *
  have HREL1 := Lib.hid hrel1
  clear hrel1 HREL0 hw5 d0 d1 d2 d3
  go_loopw [4, 21] (fun v4 i wr => ∃ k : Nat, k ≤ 4 ∧ i = .int .i64 k ∧ SectorRel w m br bs g k v4 wr) (fun _ i _ => 4 - (intOf i).toNat)
  case atStart => exact ⟨0, Nat.zero_le _, rfl, HREL1.out⟩
  case round =>
    clear HREL1
    obtain ⟨k, hk, rfl, hrel⟩ := hrel
    have hk0 : (0 : Int) ≤ k := by omega
    by_cases hlt : k < 4
    · have hk9 : (k : Int) < 4 := by omega
      have hlt' : decide (k < 4) = true := by simpa using hlt
      obtain ⟨x, hx, hsx⟩ := mpre_succ m k hlt
      have hcx := hrel.x hx
      have hx64 : x < 2 ^ 64 := by
        have := HM.out.gen; have := HM.out.root; have := HM.out.count; have := HM.out.mark
        match k, hx with
        | 0, hx => cases hx; omega
        | 1, hx => cases hx; omega
        | 2, hx => cases hx; omega
        | 3, hx => cases hx; omega
      have HX := Lib.hid hx64
      have HSX := Lib.hid hsx
      have HREL := Lib.hid hrel
      clear hx64 hsx hrel hx
      go_wp2_with fail
      refine (int_calls _ _ (mpre m k) 8 x HREL.out.1 HREL.out.2.1 (by decide) (by decide) HX.out (by rw [mpre_len m k (by omega)]; omega)).mono ?_
      rintro e w6 ⟨v6, rfl, ho6, hk6⟩
      have hrel2 : SectorRel w m br bs g (k + 1) v6 w6 := by
        obtain ⟨_, _, a3, a4, a5, a6⟩ := HREL.out
        exact ⟨by rw [HSX.out]; exact ho6.rd, ho6.nilcap, hk6.blk a3 id, hk6.blk a4 id, hk6.blk a5 id, a6.trans hk6⟩
      have HREL2 := Lib.hid hrel2
      clear hrel2 ho6 hk6
      go_wp2
      go_roundw
      case rel => exact ⟨k + 1, by omega, by go_num, HREL2.out⟩
      case measure => simp [intOf]; omega
    · have hge : decide (k < 4) = false := by simpa using hlt
      obtain rfl : k = 4 := by omega
      obtain ⟨hrd, hnc, hbr, hbs, hbg, hkk⟩ := hrel
      rw [mpre_all] at hrd
      have hl40 : (octs (metaL m)).length = 40 := by rw [octs_len, metaL_len]
      obtain ⟨av, capv, rfl, hcv, hrdv⟩ := id hrd
      rw [hl40]
      have HRD := Lib.hid hrd
      have HL40 := Lib.hid hl40
      obtain ⟨hlo, hlo2, hne⟩ := HLO.out
      clear hlt hrd hl40 hrdv hcv hnc hbg
      go_wp2_with (first
        | (refine wl_copy rfl _ _ _ _ rfl 5 Tryz.underlying36 (by kernel_rfl) bs 0 64 64 rfl _ rfl (octs (metaL m)) HRD.out _ _ hbs 40 (by rw [HL40.out]; rfl) (by rw [secA_size]; decide) (octs_one _) ?_; intro w7 hb7 hk7; rw [sec_copy] at hb7)
        | ((with_reducible refine gd_load 62 ?_); refine wl_load_agg rfl _ _ rfl bs _ rfl _ _ _ hb7 (secA (metaS m)) (extract_all _) _ Tryz.underlying62 rfl (info28s _) ?_; have hbr7 := hk7.blk hbr hne)
        | ((with_reducible refine gd_store 62 ?_); refine wl_store_agg rfl _ _ _ rfl br _ rfl _ _ hbr7 (secA (metaS m)) rfl (secA (metaS m)) (store_secs _ _) (le_secs _ _) (info28s _) (secA_one _) ?_; intro w8 hb8 hk8)
        | fail)
      refine bodyPost_ret (v := secV (metaS m)) ?_ rfl ⟨rfl, ?_⟩
      · exact results_cell_row rfl _ _ br _ _ _ _ rfl hb8 Tryz.underlying62 rfl (info28s _)
      · exact (hkk.then hk7 (fun i hi e => absurd hlo (by rw [← e]; exact Nat.not_le.2 hi))).then hk8 (fun i hi e => absurd hlo2 (by rw [← e]; exact Nat.not_le.2 hi))
end Go.Proofs.YtblpkifkaoaicaaGreat
