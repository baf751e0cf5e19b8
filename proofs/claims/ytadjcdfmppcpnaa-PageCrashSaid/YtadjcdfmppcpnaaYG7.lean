import Derived.Test.YtadjcdfmppcpnaaYG6
import Derived.Test.YtadjcdfmppcpnaaQP
/-! Package page: Read. -/
namespace Go.Proofs.Ytadjcdfmppcpnaa
open Go Go.RowKit Go.Maps Wb

def ReadPost (w : World) (r : List UInt8 × Int) (e : Ending) (w' : World) : Prop :=
  ∃ v, e = .returned (.tuple #[v, .int .i64 r.2]) ∧ isOwn w' w.heap.size 5 v (octs r.1) ∧ Keeps w w' (fun _ => False)
theorem arr_all {w : World} {b : Nat} {s : Sec} {t : TypeId} (h : w.heap[b]? = some (.cells (secA s) t (0, 0))) : isVals w (fun i => i = b) (.slice (some ⟨b, 0, none⟩) 64 64) (octs s.1) := by
  have := arr_vals h 0 64 (by decide) 64 rfl
  rwa [List.drop_zero, List.take_of_length_le (by rw [s.2]; decide)] at this
def ReadRel (w : World) (D : Dv) (b q : Nat) (v : Value) (wr : World) : Prop :=
  (readUp D b q).2 = 0 ∧ isOwn wr w.heap.size 5 v (octs (readUp D b q).1) ∧ Keeps w wr (fun _ => False)

set_option maxRecDepth 100000 in
set_option maxHeartbeats 4000000 in
theorem read9_calls (w : World) (H : FH) (F : Pg) (hf : isFile w H F) (id : Int) : Calls Try.prog 54 #[.pointer (some ⟨H.f, 0, none⟩), .int .i64 id] w (ReadPost w (readP F id)) := by
  have hn : nmOk [112] := nmOk_small (by decide)
  have HF := Lib.hid hf
  cases hp : isPg F id with
  | false =>
    have HP := Lib.hid hp
    have HR : Hid (readP F id = ([], 1)) := by unfold Hid readP; rw [hp]; rfl
    clear hp hf
    go_enter Try.func54, Try.ntmps54
    go_wp2_with fail
    refine (is_calls _ H F HF.out id).mono ?_
    rintro e w' ⟨he, rfl⟩
    rw [HP.out] at he
    subst he
    go_wp2
    go_ret2
    exact ⟨.slice none 0 0, by rw [HR.out]; rfl, by rw [HR.out]; exact isOwn_nil _ _ _, Keeps.refl _ _⟩
  | true =>
    have hsm := isPg_small hp hf.dev.wf
    obtain ⟨k, rfl⟩ : ∃ k : Nat, id = k := ⟨id.toNat, by omega⟩
    have HP := Lib.hid hp
    have HR : Hid (readP F k = readUp F.d (k * 8) 8) := by unfold Hid readP; rw [hp]; rfl
    have hk0 : (0 : Int) ≤ k := by omega
    have hk9 : (k : Int) ≤ 12500 := hsm.2
    have HREL0 : Hid (ReadRel w F.d (k * 8) 0 (.slice none 0 0) w) := Lib.hid ⟨rfl, isOwn_nil _ _ _, Keeps.refl _ _⟩
    clear hp hf hsm
    go_enter Try.func54, Try.ntmps54
    go_wp2_with fail
    refine (is_calls _ H F HF.out k).mono ?_
    rintro e w' ⟨he, rfl⟩
    rw [HP.out] at he
    subst he
    go_wp2_with fail
    go_loopw [6, 14] (fun v i wr => ∃ q : Nat, q ≤ 8 ∧ i = .int .i64 q ∧ Hid (ReadRel w F.d (k * 8) q v wr)) (fun _ i _ => 8 - (intOf i).toNat)
    case atStart => exact ⟨0, Nat.zero_le _, rfl, HREL0⟩
    case round =>
      clear HREL0
      obtain ⟨q, hq, rfl, hrel⟩ := hrel
      have hq0 : (0 : Int) ≤ q := by omega
      by_cases hlt : q < 8
      · have hlb : decide (q < 8) = true := by simpa using hlt
        have hq9 : (q : Int) < 8 := by omega
        obtain ⟨hz, hov, hkv⟩ := hrel.out
        have HZ := Lib.hid hz
        have hfr := HF.out.new hkv
        have c0 := hfr.c0
        obtain ⟨s, e0, hr⟩ : ∃ s e0, F.d.read [112] ((k : Int) * 8 + q) = (s, e0) := ⟨_, _, rfl⟩
        have hr2 : F.d.read [112] (((k * 8 : Nat) : Int) + q) = (s, e0) := by rw [← hr]; congr 1
        have HRD := Lib.hid hr
        have HRD2 := Lib.hid hr2
        clear hr hr2 hz
        go_wp2_with fail
        refine (read_calls _ H.dev F.d [112] _ hfr.dev hn).mono ?_
        rintro e w2 ⟨he, hk2⟩
        rw [HRD.out] at he
        dsimp only at he
        subst he
        have HK2 := Lib.hid hk2
        have HOV := Lib.hid hov
        have HKV := Lib.hid hkv
        have HSZ := Lib.hid (Nat.le_trans hkv.size hk2.size)
        have HOB := Lib.hid (fun g hg => Nat.lt_of_lt_of_le (hov.blk g hg).2 hk2.size)
        have hlz : (octs (readUp F.d (k * 8) q).1).length + (octs s.1).length ≤ 1000 := by rw [octs_len, octs_len, readUp_len HZ.out, s.2]; omega
        have hl1 : (octs (readUp F.d (k * 8) q).1).length + (octs s.1).length ≤ maxLen := by simp only [maxLen]; omega
        have hl2 : ((octs (readUp F.d (k * 8) q).1).length + (octs s.1).length) * 1 ≤ 140737488355328 := by omega
        clear hk2 hov hkv hrel hlz
        by_cases hez : e0 = 0
        · subst hez
          go_wp2_with (first
            | ((with_reducible refine gd_alloc 28 ?_); refine wl_alloc_agg rfl _ rfl _ zero28 ?_; intro b8 w3 hb8 HB8 HK8)
            | ((with_reducible refine gd_store 28 ?_); refine wl_store_agg rfl _ _ _ rfl b8 _ rfl _ _ HB8 (secA s) rfl (secA s) (store_secs _ _) (le_secs _ _) (info28s _) (secA_one _) ?_; intro w4 HB4 HK4)
            | (at_builtin; refine wl_appendN rfl _ _ _ rfl 5 _ 1 Try.underlying63 info_u8 rfl w.heap.size _ (octs (readUp F.d (k * 8) q).1) rfl (((HOV.out.new HK2.out).new HK8).kept HK4 (fun g hg e => absurd (HOB.out g hg) (by rw [show g = b8 from e]; exact Nat.not_lt.2 hb8))) _ (octs s.1) rfl (arr_all HB4).rd (fun _ h => by cases h) (octs_one _) hl1 hl2 (Nat.le_trans HSZ.out (Nat.le_trans HK8.size HK4.size)) ?_; intro v' w5 hap)
            | fail)
          have hrel2 : ReadRel w F.d (k * 8) (q + 1) v' w5 := by
            have hK4 : Keeps w w4 (fun _ => False) := ((HKV.out.trans HK2.out).trans HK8).then HK4 (fun i hi e => absurd (Nat.le_trans HSZ.out hb8) (by rw [← show i = b8 from e]; exact Nat.not_le.2 hi))
            have h8 : isOwn w4 w.heap.size 5 _ _ := (((HOV.out.new HK2.out).new HK8).kept HK4 (fun g hg e => absurd (HOB.out g hg) (by rw [show g = b8 from e]; exact Nat.not_lt.2 hb8)))
            refine ⟨?_, ?_, hap.keeps h8 hK4 (Nat.le_refl _)⟩
            · rw [readUp, if_pos HZ.out, HRD2.out]; rfl
            · have h9 := hap.1
              rw [readUp, if_pos HZ.out, HRD2.out]
              have : octs ((readUp F.d (k * 8) q).1 ++ s.1) = octs (readUp F.d (k * 8) q).1 ++ octs s.1 := by simp [octs]
              rw [if_pos rfl, this]
              exact h9
          have HREL := Lib.hid hrel2
          clear hrel2 hap
          exact ⟨⟨q + 1, by omega, by go_num, HREL⟩, by simp [intOf]; omega⟩
        · have he1 : (e0 == 0) = false := by simpa using hez
          have he2 : (e0 != 0) = true := by simpa using hez
          have hR9 : Hid (readP F k = ([], e0)) := by
            unfold Hid
            have h1 : readUp F.d (k * 8) (q + 1) = ([], e0) := by rw [readUp, if_pos HZ.out, HRD2.out, if_neg hez]
            have h2 := readUp_bad (D := F.d) (b := k * 8) (q := q + 1) (by rw [h1]; exact hez) (7 - q)
            rw [HR.out, ← h1, ← h2, show q + 1 + (7 - q) = 8 by omega]
          go_wp2_with (first
            | ((with_reducible refine gd_alloc 28 ?_); refine wl_alloc_agg rfl _ rfl _ zero28 ?_; intro b8 w3 hb8 HB8 HK8)
            | ((with_reducible refine gd_store 28 ?_); refine wl_store_agg rfl _ _ _ rfl b8 _ rfl _ _ HB8 (secA s) rfl (secA s) (store_secs _ _) (le_secs _ _) (info28s _) (secA_one _) ?_; intro w4 HB4 HK4)
            | fail)
          go_ret2
          exact ⟨.slice none 0 0, by rw [hR9.out]; rfl, by rw [hR9.out]; exact isOwn_nil _ _ _, ((HKV.out.trans HK2.out).trans HK8).then HK4 (fun i hi e => absurd (Nat.le_trans HSZ.out hb8) (by rw [← show i = b8 from e]; exact Nat.not_le.2 hi))⟩
      · have hlb : decide (q < 8) = false := by simpa using hlt
        obtain rfl : q = 8 := by omega
        clear hlt
        go_wp2
        go_ret2
        obtain ⟨hz, hov, hkv⟩ := hrel.out
        exact ⟨_, by rw [HR.out, hz]; rfl, by rw [HR.out]; exact hov, hkv⟩
end Go.Proofs.Ytadjcdfmppcpnaa
