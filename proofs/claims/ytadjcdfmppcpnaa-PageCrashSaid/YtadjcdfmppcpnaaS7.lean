import Derived.Test.YtadjcdfmppcpnaaS6
/-! Package sect: Drop. -/
namespace Go.Proofs.Ytadjcdfmppcpnaa
open Go Go.RowKit Go.Maps Wb

/-- The cells but the first q of a file. -/
def delF (f : Value → Option Value) (n : Nm) (q : Nat) (v : Value) : Option Value :=
  match decW v with
  | some (m, j) => if m = n ∧ j < q then none else f v
  | none => f v
theorem delF_zero (f : Value → Option Value) (n : Nm) : delF f n 0 = f := by
  funext v; unfold delF; cases h : decW v <;> simp
theorem delF_succ (f : Value → Option Value) (n : Nm) (q : Nat) : upd (delF f n q) (whereV n q) none = delF f n (q + 1) := by
  funext v
  by_cases e : v = whereV n q
  · subst e; rw [upd_same]; simp [delF, decW_iff.2 rfl]
  · rw [upd_other _ _ e]
    unfold delF
    cases hv : decW v with
    | none => rfl
    | some x =>
      obtain ⟨m, j⟩ := x
      by_cases hm : m = n
      · have : j ≠ q := fun h => e (by rw [← h, ← hm]; exact decW_iff.1 hv)
        simp only [hm, true_and]
        by_cases h1 : j < q
        · rw [if_pos h1, if_pos (by omega)]
        · rw [if_neg h1, if_neg (by omega)]
      · simp [hm]
theorem delF_all {fs : Files} (hs : sorted fs) {n : Nm} {l : List Wb.Cell} (h : fget fs n = some l) : delF (cellF fs) n l.length = cellF (fdel fs n) := by
  funext v
  unfold delF cellF
  cases hv : decW v with
  | none => rfl
  | some x =>
    obtain ⟨m, j⟩ := x
    by_cases hm : m = n
    · subst hm
      simp only [true_and, Option.bind_some, fget_fdel_same hs, h]
      split
      · rfl
      · rw [List.getElem?_eq_none (by omega)]; rfl
    · simp [hm, fget_fdel_other _ hm]

theorem isDev.dropped {w0 w : World} {h : DH} {D : Dv} {n : Nm} {l : List Wb.Cell} (hd : isDev w0 h D) (hf : fget D.files n = some l)
    (hp : Parts w h ((fldA D h).setIfInBounds 1 (.int .i64 (used D.files - l.length))) (upd (longF D.files) (.string (bs n)) none) (delF (cellF D.files) n l.length)) :
    isDev w h { D with files := fdel D.files n } := by
  have hu : used (fdel D.files n) + l.length = used D.files := by
    have := used_fdel (fs := D.files) n
    rw [hf] at this
    simpa using this
  have hv : (used D.files : Int) - l.length = used (fdel D.files n) := by omega
  refine ⟨?_, ?_, ?_, ⟨hd.wf.most, hd.wf.fuse, hd.wf.fuse', sorted_fdel hd.wf.sorted _, by have := hd.wf.used; show used (fdel D.files n) ≤ D.most; omega, fun a ha => hd.wf.nm a (mem_fdel ha)⟩, hd.ne⟩
  · have := hp.fld
    rw [hv] at this
    simpa [fldA] using this
  · rw [longF_fdel hd.wf.sorted]; exact hp.long
  · rw [← delF_all hd.wf.sorted hf]; exact hp.cells

def DropRel (w : World) (h : DH) (D : Dv) (n : Nm) (q : Nat) (wr : World) : Prop :=
  Parts wr h (fldA D h) (longF D.files) (delF (cellF D.files) n q) ∧ Keeps w wr h.S

set_option maxRecDepth 100000 in
set_option maxHeartbeats 1000000 in
theorem drop_some (w : World) (h : DH) (D : Dv) (n : Nm) (l : List Wb.Cell) (hd : isDev w h D) (hn : nmOk n) (ht : D.thr n = 0) (hl : fget D.files n = some l) :
    Calls Try.prog 30 #[.pointer (some ⟨h.p, 0, none⟩), .string (bs n)] w (DevPost h w (.int .i64 (D.drop n).2) (D.drop n).1) := by
  have hu1 : used D.files ≤ 100000 := Nat.le_trans hd.wf.used hd.wf.most
  have hlu := used_le hl
  have hlen : l.length ≤ 100000 := by omega
  have hr : D.drop n = ({ D with files := fdel D.files n }.done, 0) := by simp [Dv.drop, ht]
  have HR := Lib.hid hr
  have HT := Lib.hid ht
  have HF : Hid (longF D.files (.string (bs n)) = some (.int .i64 l.length)) := by unfold Hid; rw [longF_at, hl]; rfl
  have HL0 := Lib.hid hl
  have HN := Lib.hid hn
  have hks : KeyOk Try.prog 9 (.string (bs n)) := keyOkS hn
  have hne := hd.ne
  have c3 := hd.c3
  clear hr ht hl hn
  go_enter Try.func30, Try.ntmps30
  go_wp2_with (first
    | (go_at_call 71; refine (there_calls _ h D n hd HN.out).mono ?_; rintro e w' ⟨he, rfl⟩; rw [HT.out] at he; subst he)
    | (at_lookup; refine wl_look_at rfl _ _ _ rfl _ keyedS Try.underlying110 _ zeroI hd.long rfl _ rfl hks _ HF.out ?_))
  go_loopw [21] (fun i wr => ∃ q : Nat, q ≤ l.length ∧ i = .int .i64 q ∧ DropRel w h D n q wr) (fun i _ => l.length - (intOf i).toNat)
  case atStart => exact ⟨0, Nat.zero_le _, rfl, by unfold DropRel; rw [delF_zero]; exact ⟨hd.parts, Keeps.refl _ _⟩⟩
  case round =>
    obtain ⟨q, hq, rfl, hp, hk⟩ := hrel
    by_cases hlt : q < l.length
    · have hkw : KeyOk Try.prog 119 (whereV n q) := keyOkW HN.out (by unfold kOk; omega)
      have c4 : wr.cell? ⟨h.p, 4, none⟩ = some (.map (some h.bc)) := hp.c 4 _ rfl
      have hlt' : decide (q < l.length) = true := by simpa using hlt
      have hq9 : (q : Int) ≤ 100000 := by omega
      go_wp2_with (first
        | (at_delete; refine wl_delete rfl _ _ _ rfl _ keyedW Try.underlying111 hp.cells rfl (whereV n q) rfl hkw ?_; intro w2 hm2 HK2)
        | fail)
      go_roundw
      case rel => exact ⟨q + 1, by omega, by go_num, by have := hp.setCells HK2 hm2 hne; rwa [delF_succ] at this, hk.then HK2 (fun i _ e => .inr (.inr e))⟩
      case measure => simp [intOf]; omega
    · have hge : decide (q < l.length) = false := by simpa using hlt
      obtain rfl : q = l.length := by omega
      have c1 : wr.cell? ⟨h.p, 1, none⟩ = some (.int .i64 (used D.files)) := hp.c 1 _ rfl
      have c3 : wr.cell? ⟨h.p, 3, none⟩ = some (.map (some h.bl)) := hp.c 3 _ rfl
      have f1 := hp.fr 1
      have b1 : (0 : Int) ≤ (used D.files : Int) - l.length := by omega
      clear hlt
      go_wp2_with (first
        | (at_delete; refine wl_delete rfl _ _ _ rfl _ keyedS Try.underlying110 (hp.setFld 1 _).long rfl (.string (bs n)) rfl hks ?_; intro w2 hm2 HK2; have hd2 := hd.dropped HL0.out ((hp.setFld 1 _).setLong HK2 hm2 hne))
        | (go_at_call 70; refine (done_calls _ h _ hd2).mono ?_; rintro e w3 ⟨rfl, hd3, HK3⟩)
        | fail)
      go_ret
      exact post_of HR.out hd3 (((hk.then (keeps_cell wr h.p 1 _) (fun i _ e => .inl e)).then HK2 (fun i _ e => .inr (.inl e))).trans HK3)

set_option maxRecDepth 100000 in
set_option maxHeartbeats 1000000 in
theorem drop_calls (w : World) (h : DH) (D : Dv) (n : Nm) (hd : isDev w h D) (hn : nmOk n) :
    Calls Try.prog 30 #[.pointer (some ⟨h.p, 0, none⟩), .string (bs n)] w (DevPost h w (.int .i64 (D.drop n).2) (D.drop n).1) := by
  by_cases ht : D.thr n = 0
  · cases hl : fget D.files n with
    | none => simp [Dv.thr, hl] at ht; split at ht <;> cases ht
    | some l => exact drop_some w h D n l hd hn ht hl
  · have hr : D.drop n = (D, D.thr n) := by simp [Dv.drop, ht]
    have HR := Lib.hid hr
    have hb1 : (D.thr n == 0) = false := by simp [ht]
    have hb2 : (D.thr n != 0) = true := by simp [ht]
    clear hr ht
    go_enter Try.func30, Try.ntmps30
    go_wp2_with (go_at_call 71; refine (there_calls _ h D n hd hn).mono ?_; rintro e w' ⟨rfl, rfl⟩)
    go_ret
    exact post_of HR.out hd (Keeps.refl _ _)
end Go.Proofs.Ytadjcdfmppcpnaa
