import Derived.Test.YtbfdkgbioabefaaL2
import Derived.Test.YtbfdkgbioabefaaP7
import Derived.Test.YtbfdkgbioabefaaMsk
/-! Layer 7: the walk of SectFuse. -/
namespace Go.Proofs.Ytbfdkgbioabefaa
open Go Go.RowKit Go.Maps Wb

theorem nilptr (p : Nat) : ((Value.pointer (some ⟨p, 0, none⟩)) = Value.pointer none) = False := by simp

def FuseRel (w : World) (h : DH) (a i : Nat) (wr : World) : Prop := isDev wr h (fuseD a i) ∧ Keeps w wr (fun _ => False)

set_option maxRecDepth 100000 in
set_option maxHeartbeats 4000000 in
theorem sectFuse_walk (w : World) (n k : Int) : Calls Try.prog 7 #[.int .i64 n, .int .i64 k] w (Quiet w (.bool true)) := by
  obtain ⟨a, ha, ha32⟩ : ∃ a : Nat, n % 32 = a ∧ a < 32 := ⟨(n % 32).toNat, by omega, by omega⟩
  obtain ⟨b, hb, hb32⟩ : ∃ b : Nat, k % 32 = b ∧ b < 32 := ⟨(k % 32).toNat, by omega, by omega⟩
  have hm1 : bits BinOp.and IntKind.i64 n 31 = a := by rw [mask31, ha]
  have hm2 : bits BinOp.and IntKind.i64 k 31 = b := by rw [mask31, hb]
  clear ha hb
  have hn97 : nmOk [97] := nmOk_small (by decide)
  have hn98 : nmOk [98] := nmOk_small (by decide)
  have hka : kOk a := kOk_small (by omega)
  rcases hmk : (Dv.new 100).make [97] with ⟨D1, e1⟩
  have h0 := fuse_start a
  rw [hmk] at h0
  obtain ⟨h0, h00⟩ := h0
  dsimp only at h0 h00
  subst h00
  have H1 := Lib.hid hmk
  have H2 := Lib.hid h0
  clear hmk h0
  go_enter Try.func7, Try.ntmps7
  go_wp2_with fail
  refine new_any _ _ fun h w1 hd0 hk0 hS => ?_
  go_wp2_with fail
  refine (make_calls _ h _ [97] hd0 hn97).mono ?_
  rintro e w2 ⟨he, hd1, hk1⟩
  rw [H1.out] at he hd1
  dsimp only at he hd1
  subst he
  go_wp2_with fail
  refine (fuse_calls _ h _ a hd1 hka).mono ?_
  rintro e w3 ⟨rfl, hd2, hk2⟩
  rw [H2.out] at hd2
  have hN : ∀ i, i < w.heap.size → h.S i → False := fun i hi hs => absurd (hS i hs) (Nat.not_le.2 hi)
  have hK0 : Keeps w w3 (fun _ => False) := (hk0.then hk1 hN).then hk2 hN
  have hNH := Lib.hid hN
  clear hN hd0 hd1 hk0 hk1 hk2
  go_wp2_with fail
  go_loopw [6] (fun i wr => ∃ q : Nat, q ≤ b ∧ i = .int .i64 q ∧ FuseRel w h a q wr) (fun i _ => b - (intOf i).toNat)
  case atStart => exact ⟨0, Nat.zero_le _, rfl, hd2, hK0⟩
  case round =>
    obtain ⟨q, hq, rfl, hdr, hkr⟩ := hrel
    by_cases hlt : q < b
    · have hlt' : decide (q < b) = true := by simpa using hlt
      have hq9 : (q : Int) < 32 := by omega
      have hq0 : (0 : Int) ≤ q := by omega
      have HW := Lib.hid (fuse_write a q ha32)
      by_cases hqa : q < a
      · have hqa' : decide (a ≤ q) = false := by simp; omega
        have HW2 : Hid ((fuseD a q).write [97] q (sectorOf q) = (fuseD a (q + 1), 0)) := by unfold Hid; rw [HW.out, if_pos hqa]
        go_wp2_with fail
        refine (sector_calls _ q (kOk_small (by omega))).mono ?_
        rintro e w4 ⟨rfl, hk4⟩
        have hd4 := hdr.new hk4
        go_wp2_with fail
        refine (write_calls _ h _ [97] q (sectorOf q) hd4 hn97).mono ?_
        rintro e w5 ⟨he, hd5, hk5⟩
        rw [HW2.out] at he hd5
        dsimp only at he hd5
        subst he
        go_wp2
        go_roundw
        case rel => exact ⟨q + 1, by omega, by go_num, hd5, (hkr.trans hk4).then hk5 hNH.out⟩
        case measure => simp [intOf]; omega
      · have hqa' : decide (a ≤ q) = true := by simp; omega
        have HW2 : Hid ((fuseD a q).write [97] q (sectorOf q) = (fuseD a (q + 1), 8)) := by unfold Hid; rw [HW.out, if_neg hqa]
        go_wp2_with fail
        refine (sector_calls _ q (kOk_small (by omega))).mono ?_
        rintro e w4 ⟨rfl, hk4⟩
        have hd4 := hdr.new hk4
        go_wp2_with fail
        refine (write_calls _ h _ [97] q (sectorOf q) hd4 hn97).mono ?_
        rintro e w5 ⟨he, hd5, hk5⟩
        rw [HW2.out] at he hd5
        dsimp only at he hd5
        subst he
        go_wp2
        go_roundw
        case rel => exact ⟨q + 1, by omega, by go_num, hd5, (hkr.trans hk4).then hk5 hNH.out⟩
        case measure => simp [intOf]; omega
    · have hge : decide (q < b) = false := by simpa using hlt
      obtain rfl : q = b := by omega
      clear hlt
      by_cases hqa : q < a
      · have hqa' : decide (q < a) = true := by simpa using hqa
        rcases hsy : (fuseD a q).sync [97] with ⟨D5, e5⟩
        have h5 := fuse_sync a q hqa
        rw [hsy] at h5
        dsimp only at h5
        subst h5
        have HSY := Lib.hid hsy
        clear hsy
        go_wp2_with fail
        refine (sync_calls _ h _ [97] hdr hn97).mono ?_
        rintro e w5 ⟨he, hd5, hk5⟩
        rw [HSY.out] at he hd5
        dsimp only at he hd5
        subst he
        go_wp2_with fail
        refine (awake7_calls _).mono ?_
        rintro e w6 ⟨rfl, hk6⟩
        go_wp2
        go_ret
        exact ⟨rfl, (hkr.then hk5 hNH.out).trans hk6⟩
      · have hqa' : decide (q < a) = false := by simpa using hqa
        obtain ⟨hs1, hs2, hs3⟩ := fuse_out a q (by omega)
        have H3 := Lib.hid hs1
        have H4 := Lib.hid hs2
        have H5 := Lib.hid hs3
        have hmin : min q a = a := by omega
        have h6 : (fuseD a q).len [97] = a := by rw [fuse_len, hmin]
        have H6 := Lib.hid h6
        have hmin2 : min (a : Int) (q : Int) = a := by omega
        clear hs1 hs2 hs3 h6 hmin
        go_wp2_with fail
        refine (sync_calls _ h _ [97] hdr hn97).mono ?_
        rintro e w5 ⟨he, hd5, hk5⟩
        rw [H3.out] at he hd5
        dsimp only at he hd5
        subst he
        go_wp2_with fail
        refine (make_calls _ h _ [98] hd5 hn98).mono ?_
        rintro e w6 ⟨he, hd6, hk6⟩
        rw [H4.out] at he hd6
        dsimp only at he hd6
        subst he
        go_wp2_with fail
        refine (drop_calls _ h _ [97] hd6 hn97).mono ?_
        rintro e w7 ⟨he, hd7, hk7⟩
        rw [H5.out] at he hd7
        dsimp only at he hd7
        subst he
        go_wp2_with fail
        refine (len_calls _ h _ [97] hd7 hn97).mono ?_
        rintro e w' ⟨he, rfl⟩
        rw [H6.out] at he
        subst he
        go_wp2_with fail
        obtain ⟨hc1, hc2⟩ := fuse_crash a q ha32 (by omega)
        rcases hmk2 : ((fuseD a q).crash (List.replicate 32 1)).make [98] with ⟨D9, e9⟩
        rw [hmk2] at hc2
        dsimp only at hc2
        subst hc2
        have H7 := Lib.hid hc1
        have H8 := Lib.hid hmk2
        clear hc1 hmk2
        have hk8 : Keeps w7 (w7.alloc (.cells ((List.replicate 32 (1 : Int)).map (Value.int .i64)).toArray 3)) (fun _ => False) := (Keeps.refl _ _).alloc _
        have hb8 : (w7.alloc (.cells ((List.replicate 32 (1 : Int)).map (Value.int .i64)).toArray 3)).heap[w7.heap.size]? = some (.cells ((List.replicate 32 (1 : Int)).map (Value.int .i64)).toArray 3 (0, 0)) := (MapKept.heap_alloc _ _).1
        have hd8 := hd7.new hk8
        have hi8 := isInts_built (ok := fun g => ¬ h.S g ∧ g < (w7.alloc (.cells ((List.replicate 32 (1 : Int)).map (Value.int .i64)).toArray 3)).heap.size) hb8 ⟨fun hs => absurd (hd7.lt hs) (Nat.lt_irrefl _), lt_of_blk hb8⟩ (ints_ok (by decide)) (by decide)
        refine (crash_calls (w7.alloc (.cells ((List.replicate 32 (1 : Int)).map (Value.int .i64)).toArray 3)) h (fuseD a q) (List.replicate 32 1) _ hd8 (by show 1 ≤ 1000000; omega) hi8).mono ?_
        rintro e w9 ⟨rfl, hd9, hk9⟩
        clear hi8 hb8
        generalize w7.alloc (.cells ((List.replicate 32 (1 : Int)).map (Value.int .i64)).toArray 3) = w8 at *
        generalize (fuseD a q).crash (List.replicate 32 1) = D8 at *
        go_wp2_with fail
        refine (len_calls _ h _ [97] hd9 hn97).mono ?_
        rintro e w' ⟨he, rfl⟩
        rw [H7.out] at he
        subst he
        go_wp2_with fail
        refine (make_calls _ h _ [98] hd9 hn98).mono ?_
        rintro e w10 ⟨he, hd10, hk10⟩
        rw [H8.out] at he hd10
        dsimp only at he hd10
        subst he
        go_wp2_with fail
        refine (awake7_calls _).mono ?_
        rintro e w11 ⟨rfl, hk11⟩
        go_wp2
        go_ret
        exact ⟨rfl, (((((((hkr.then hk5 hNH.out).then hk6 hNH.out).then hk7 hNH.out).trans hk8).then hk9 hNH.out).then hk10 hNH.out).trans hk11)⟩
end Go.Proofs.Ytbfdkgbioabefaa
