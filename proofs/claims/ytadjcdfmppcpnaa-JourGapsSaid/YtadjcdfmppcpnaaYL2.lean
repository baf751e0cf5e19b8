import Derived.Test.YtadjcdfmppcpnaaYL1
/-! The statements' own helpers: awake of layer 7. -/
namespace Go.Proofs.Ytadjcdfmppcpnaa
open Go Go.RowKit Go.Maps Wb

theorem awake_plain : ∃ (D1 D2 D3 D4 : Dv) (s : Sec), (Dv.new 3).make [102] = (D1, 0) ∧ D1.write [102] 0 (sectorOf 5) = (D2, 0) ∧ D2.sync [102] = (D3, 0) ∧ D3.write [102] 0 (sectorOf 6) = (D4, 0) ∧
    (D4.crash [2]).read [102] 0 = (s, 7) ∧ (D4.crash [2]).len [102] = 1 ∧ used (D4.crash [2]).files = 1 ∧ (D4.crash [2]).most = 3 ∧ D4.files.length ≤ 1000000 :=
  ⟨_, _, _, _, _, rfl, rfl, rfl, rfl, rfl, rfl, rfl, rfl, by decide⟩

theorem nmOk_small {n : Nm} (h : n.length ≤ 60) : nmOk n := Nat.le_trans h (by decide)
theorem kOk_small {k : Int} (h : -1000000 ≤ k ∧ k ≤ 1000000) : kOk k := by unfold kOk; omega

theorem ints_ok {xs : List Int} (h : ∀ x ∈ xs, -1000000 ≤ x ∧ x ≤ 1000000) : ∀ x ∈ xs, kOk x := fun x hx => kOk_small (h x hx)
/-- A slice of ints that was just made. -/
theorem isInts_built {w : World} {xs : List Int} {b : Nat} {ok : Nat → Prop} {t : TypeId} (hb : w.heap[b]? = some (.cells ((xs.map (Value.int .i64)).toArray) t (0, 0))) (hok : ok b) (hx : ∀ x ∈ xs, kOk x) (hl : xs.length ≤ 140737488351232) :
    isInts w ok (.slice (some ⟨b, 0, none⟩) xs.length xs.length) xs := by
  refine ⟨_, _, rfl, Nat.le_refl _, hl, hx, .inr ⟨b, 0, rfl, hok, lt_of_blk hb, fun j x hj => ?_⟩⟩
  rw [cell_of_block hb, Nat.zero_add]
  simp [hj]

/-- What a call of New came to. -/
theorem new_any (w : World) (m : Int) {R : Ending → World → Prop} (h : ∀ (h : DH) (w' : World), isDev w' h (Dv.new m) → Keeps w w' (fun _ => False) → (∀ i, h.S i → w.heap.size ≤ i) → R (.returned (.pointer (some ⟨h.p, 0, none⟩))) w') : Calls Try.prog 21 #[.int .i64 m] w R :=
  (new_calls w m).mono fun _ w' ⟨hh, he, hd, hk, hS⟩ => he ▸ h hh w' hd hk hS

set_option maxRecDepth 100000 in
set_option maxHeartbeats 4000000 in
theorem awake7_calls (w : World) : Calls Try.prog 28 #[] w (Quiet w (.bool true)) := by
  obtain ⟨D1, D2, D3, D4, s, E1, E2, E3, E4, E5, E6, E7, E8, E9⟩ := awake_plain
  have H1 := Lib.hid E1
  have H2 := Lib.hid E2
  have H3 := Lib.hid E3
  have H4 := Lib.hid E4
  have H5 := Lib.hid E5
  have H6 := Lib.hid E6
  have H7 := Lib.hid E7
  have H8 := Lib.hid E8
  have H9 := Lib.hid E9
  have hn : nmOk [102] := nmOk_small (by decide)
  clear E1 E2 E3 E4 E5 E6 E7 E8 E9
  go_enter Try.func28, Try.ntmps28
  go_wp2_with fail
  refine new_any _ _ fun h w1 hd0 hk0 hS => ?_
  go_wp2_with fail
  refine (make_calls _ h _ [102] hd0 hn).mono ?_
  rintro e w2 ⟨he, hd1, hk1⟩
  rw [H1.out] at he hd1
  dsimp only at he hd1
  subst he
  go_wp2_with fail
  refine (sector_calls _ 5 (kOk_small (by decide))).mono ?_
  rintro e w3 ⟨rfl, hk2⟩
  have hd2 := hd1.new hk2
  go_wp2_with fail
  refine (write_calls _ h _ [102] 0 (sectorOf 5) hd2 hn).mono ?_
  rintro e w4 ⟨he, hd3, hk3⟩
  rw [H2.out] at he hd3
  dsimp only at he hd3
  subst he
  go_wp2_with fail
  refine (sync_calls _ h _ [102] hd3 hn).mono ?_
  rintro e w5 ⟨he, hd4, hk4⟩
  rw [H3.out] at he hd4
  dsimp only at he hd4
  subst he
  go_wp2_with fail
  refine (sector_calls _ 6 (kOk_small (by decide))).mono ?_
  rintro e w6 ⟨rfl, hk5⟩
  have hd5 := hd4.new hk5
  go_wp2_with fail
  refine (write_calls _ h _ [102] 0 (sectorOf 6) hd5 hn).mono ?_
  rintro e w7 ⟨he, hd6, hk6⟩
  rw [H4.out] at he hd6
  dsimp only at he hd6
  subst he
  go_wp2_with fail
  have hk7 : Keeps w7 (w7.alloc (.cells #[.int .i64 2] 3)) (fun _ => False) := (Keeps.refl _ _).alloc _
  have hb7 : (w7.alloc (.cells #[.int .i64 2] 3)).heap[w7.heap.size]? = some (.cells #[.int .i64 2] 3 (0, 0)) := (MapKept.heap_alloc _ _).1
  have hd7 := hd6.new hk7
  have hi7 : isInts (w7.alloc (.cells #[.int .i64 2] 3)) (fun g => ¬ h.S g ∧ g < (w7.alloc (.cells #[.int .i64 2] 3)).heap.size) (.slice (some ⟨w7.heap.size, 0, none⟩) 1 1) [2] :=
    isInts_built (xs := [2]) hb7 ⟨fun hs => absurd (hd6.lt hs) (Nat.lt_irrefl _), lt_of_blk hb7⟩ (ints_ok (by decide)) (by decide)
  refine (crash_calls _ h D4 [2] _ hd7 H9.out hi7).mono ?_
  rintro e w8 ⟨rfl, hd8, hk8⟩
  clear hi7 hb7
  generalize w7.alloc (.cells #[.int .i64 2] 3) = w7' at *
  go_wp2_with fail
  refine (read_calls _ h _ [102] 0 hd8 hn).mono ?_
  rintro e w9 ⟨he, hk9⟩
  rw [H5.out] at he
  dsimp only at he
  subst he
  have hd9 := hd8.new hk9
  go_wp2_with (first
    | ((with_reducible refine gd_alloc 28 ?_); refine wl_alloc_agg rfl _ rfl _ zero28 ?_; intro b1 w10 hb1 HB1 HK1; have hd10 := hd9.new HK1)
    | ((with_reducible refine gd_store 28 ?_); refine wl_store_agg rfl _ _ _ rfl b1 _ rfl _ _ HB1 (secA s) rfl (secA s) (store_secs _ _) (le_secs _ _) (info28s _) (secA_one _) ?_; intro w11 HB2 HK2; have hd11 := hd10.keptNew hd9 hb1 HK2)
    | (go_at_call 26; refine (len_calls _ h _ [102] hd11 hn).mono ?_; rintro e w' ⟨he, rfl⟩; rw [H6.out] at he; subst he)
    | (go_at_call 32; refine (used_calls _ h _ hd11).mono ?_; rintro e w' ⟨he, rfl⟩; rw [H7.out] at he; subst he)
    | (go_at_call 74; refine (most_calls _ h _ hd11).mono ?_; rintro e w' ⟨he, rfl⟩; rw [H8.out] at he; subst he)
    | fail)
  go_ret
  refine ⟨rfl, ?_⟩
  have hN : ∀ i, i < w.heap.size → h.S i → False := fun i hi hs => absurd (hS i hs) (Nat.not_le.2 hi)
  have hK := (((((((((hk0.then hk1 hN).trans hk2).then hk3 hN).then hk4 hN).trans hk5).then hk6 hN).trans hk7).then hk8 hN).trans hk9)
  have hlo := Nat.le_trans hK.size hb1
  exact (hK.trans HK1).then HK2 (fun i hi e => absurd hlo (by rw [← e]; exact Nat.not_le.2 hi))
end Go.Proofs.Ytadjcdfmppcpnaa
