/- Lemmas and contracts of functions, joined. -/
import Derived.Test.YtblpkifkaoaicaaGreatQG
import Derived.Test.YtblpkifkaoaicaaGreatYApZ
namespace Go.Proofs.YtblpkifkaoaicaaGreat
open Go Go.RowKit Go.Maps Wb

end Go.Proofs.YtblpkifkaoaicaaGreat

namespace Go.Proofs.YtblpkifkaoaicaaGreat
open Go Go.RowKit Go.Maps Wb

theorem isFile.lt {w : World} {H : FH} {F : Pg} (hf : isFile w H F) {i : Nat} (hi : H.S i) : i < w.heap.size := by
  rcases hi with rfl | h | rfl | h
  · exact lt_of_blk hf.blk
  · exact hf.dev.lt h
  · exact hf.used.lt
  · exact (hf.fresh.blk i h).2
theorem openE_files (m : Int) : (Dv.new m).files.length ≤ 1000000 := Nat.zero_le _
/-- What an opening that goes well comes to. -/
theorem open_any {w : World} {h : DH} {D D' : Dv} (hd : isDev w h D) (hfl : D.files.length ≤ 1000000) (h1 : openD D = (D', 0)) (h2 : openE D = 0) {R : Ending → World → Prop}
    (hR : ∀ (H : FH) (w' : World), isFile w' H (openP D') → H.dev = h → H.lo = 0 → (∀ i, H.S i → h.S i ∨ w.heap.size ≤ i) → Keeps w w' h.S → R (.returned (.tuple #[.pointer (some ⟨H.f, 0, none⟩), .int .i64 0])) w') :
    Calls Tryz.prog 25 #[.pointer (some ⟨h.p, 0, none⟩)] w R :=
  (open_calls w h D hd hfl).mono fun e w' hp => by
    rcases hp with ⟨_, H, rfl, a1, a2, a3, a4, a5⟩ | ⟨hn, _⟩
    · rw [h1] at a1
      exact hR H w' a1 a2 a3 a4 a5
    · exact absurd h2 hn


/-- The file that a statement opened (all its blocks are new, and apart from X). -/
def Law9 (w0 wr : World) (f : Nat) (dv : DH) (F : Pg) (X : Nat → Prop) : Prop :=
  ∃ bu fv, isFile wr ⟨f, dv, bu, fv, 0⟩ F ∧ (∀ i, FH.S ⟨f, dv, bu, fv, 0⟩ i → ¬ X i ∧ w0.heap.size ≤ i) ∧ (∀ i, X i → i < wr.heap.size) ∧ Keeps w0 wr (fun _ => False)
/-- What a call on it may change. -/
def Apart (w0 : World) (X : Nat → Prop) (i : Nat) : Prop := ¬ X i ∧ w0.heap.size ≤ i
theorem Apart.no {w0 w w' : World} {X : Nat → Prop} (h0 : Keeps w0 w (fun _ => False)) (hk : Keeps w w' (Apart w0 X)) : Keeps w0 w' (fun _ => False) := h0.then hk (fun _ hi h => absurd h.2 (Nat.not_le.2 hi))
section
variable {w0 w w' : World} {f : Nat} {dv : DH} {F : Pg} {X : Nat → Prop}
theorem Law9.new (h : Law9 w0 w f dv F X) (hk : Keeps w w' (fun _ => False)) : Law9 w0 w' f dv F X := by
  obtain ⟨bu, fv, h1, h2, h3, h4⟩ := h
  exact ⟨bu, fv, h1.new hk, h2, fun i hi => Nat.lt_of_lt_of_le (h3 i hi) hk.size, h4.trans hk⟩
theorem Law9.keeps (h : Law9 w0 w f dv F X) : Keeps w0 w (fun _ => False) := by
  obtain ⟨bu, fv, h1, h2, h3, h4⟩ := h
  exact h4
/-- A block of the statement's own is written. -/
theorem Law9.wrote (h : Law9 w0 w f dv F X) (hk : Keeps w w' X) (hX : ∀ i, X i → w0.heap.size ≤ i) : Law9 w0 w' f dv F X := by
  obtain ⟨bu, fv, h1, h2, h3, h4⟩ := h
  exact ⟨bu, fv, h1.kept hk (fun i hi hs => (h2 i hs).1 hi), h2, fun i hi => Nat.lt_of_lt_of_le (h3 i hi) hk.size, h4.then hk (fun i hi h => absurd (hX i h) (Nat.not_le.2 hi))⟩
/-- What is apart is told anew: a block that was X, or is newer than the file's last change. -/
theorem Law9.more {Y : Nat → Prop} (h : Law9 w0 w f dv F X) (hk : Keeps w w' (fun _ => False)) (hY : ∀ i, Y i → X i ∨ w.heap.size ≤ i) (hl : ∀ i, Y i → i < w'.heap.size) : Law9 w0 w' f dv F Y := by
  obtain ⟨bu, fv, h1, h2, h3, h4⟩ := h
  refine ⟨bu, fv, h1.new hk, fun i hi => ⟨fun hy => ?_, (h2 i hi).2⟩, hl, h4.trans hk⟩
  rcases hY i hy with h | h
  · exact (h2 i hi).1 h
  · exact absurd (h1.lt hi) (Nat.not_lt.2 h)
theorem Law9.drew (h : Law9 w0 w f dv F X) : Law9 w0 w.drew f dv F X := h.new (Keeps.refl w _).drew
theorem law_of_post {FF : Pg} {r : Value} {e : Ending} {bu : Nat} {fv : Value} (h2 : ∀ i, FH.S ⟨f, dv, bu, fv, 0⟩ i → ¬ X i ∧ w0.heap.size ≤ i) (h3 : ∀ i, X i → i < w.heap.size) (h4 : Keeps w0 w (fun _ => False)) (hp : FilePost w ⟨f, dv, bu, fv, 0⟩ FF r e w') :
    e = .returned r ∧ Law9 w0 w' f dv FF X ∧ Keeps w w' (Apart w0 X) := by
  obtain ⟨⟨f', dv', bu', fv', lo'⟩, he, a1, a2, a3, a4, a5, a6⟩ := hp
  simp only at a2 a3 a4
  subst a2 a3 a4
  have hk : Keeps w w' (Apart w0 X) := a5.mono (fun i _ h => h2 i h)
  refine ⟨he, ⟨bu', fv', a1, fun i hi => ?_, fun i hi => Nat.lt_of_lt_of_le (h3 i hi) a5.size, Apart.no h4 hk⟩, hk⟩
  rcases a6 i hi with h | h
  · exact h2 i h
  · exact ⟨fun hx => absurd (h3 i hx) (Nat.not_lt.2 h), Nat.le_trans h4.size h⟩
theorem l_open {h : DH} {D D' : Dv} (hd : isDev w h D) (hfl : D.files.length ≤ 1000000) (h1 : openD D = (D', 0)) (h2 : openE D = 0) (hX : ∀ i, X i → i < w.heap.size ∧ ¬ h.S i) (hS : ∀ i, h.S i → w0.heap.size ≤ i) (hk : Keeps w0 w (fun _ => False)) {R : Ending → World → Prop}
    (hR : ∀ f w', Law9 w0 w' f h (openP D') X → Keeps w w' (Apart w0 X) → R (.returned (.tuple #[.pointer (some ⟨f, 0, none⟩), .int .i64 0])) w') : Calls Tryz.prog 25 #[.pointer (some ⟨h.p, 0, none⟩)] w R :=
  open_any hd hfl h1 h2 fun H w' a1 a2 a3 a4 a5 => by
    obtain ⟨f, dv, bu, fv, lo⟩ := H
    simp only at a2 a3
    subst a2 a3
    have hk2 : Keeps w w' (Apart w0 X) := a5.mono (fun i _ hh => ⟨fun hx => (hX i hx).2 hh, hS i hh⟩)
    refine hR f w' ⟨bu, fv, a1, fun i hi => ?_, fun i hi => Nat.lt_of_lt_of_le (hX i hi).1 a5.size, Apart.no hk hk2⟩ hk2
    rcases a4 i hi with h | h
    · exact ⟨fun hx => (hX i hx).2 h, hS i h⟩
    · exact ⟨fun hx => absurd (hX i hx).1 (Nat.not_lt.2 h), Nat.le_trans hk.size h⟩
set_option maxRecDepth 100000 in
theorem l_meta (h : Law9 w0 w f dv F X) : Calls Tryz.prog 61 #[.pointer (some ⟨f, 0, none⟩)] w fun e w' => e = .returned (.agg (metaA F.mt)) ∧ Law9 w0 w' f dv F X ∧ Keeps w w' (fun _ => False) := by
  have hn := fun w' hk => h.new (w' := w') hk
  obtain ⟨bu, fv, h1, _⟩ := h
  exact (meta_calls w _ F h1).mono fun e w' ⟨he, hk⟩ => ⟨he, hn w' hk, hk⟩
theorem l_put {bv : Value} {b : List UInt8} (h : Law9 w0 w f dv F X) (hdead : F.dead = false) (hk : Keeps w w' (fun _ => False)) (hb : isRd w' bv (octs b)) (hg : ∀ g, bv.ownBlock = some g → w.heap.size ≤ g ∧ g < w'.heap.size) (hbl : b.length ≤ 512) (hfl : F.fresh.length ≤ 1000000) :
    Calls Tryz.prog 103 #[.pointer (some ⟨f, 0, none⟩), bv] w' fun e w2 => ∃ p, isLeast F p ∧ e = .returned (.tuple #[.int .i64 (if (putP F b p).2 = 0 then (p : Int) else 0), .int .i64 (putP F b p).2]) ∧ Law9 w0 w2 f dv (putP F b p).1 X ∧ Keeps w' w2 (Apart w0 X) := by
  obtain ⟨bu, fv, h1, h2, h3, h4⟩ := h
  refine (put_calls w' _ F (h1.new hk) hdead bv b hb (fun g hgg => ⟨fun hs => absurd (h1.lt hs) (Nat.not_lt.2 (hg g hgg).1), (hg g hgg).2⟩) hbl hfl (Nat.zero_le _)).mono ?_
  rintro e w2 ⟨p, hp, hpost⟩
  exact ⟨p, hp, law_of_post h2 (fun i hi => Nat.lt_of_lt_of_le (h3 i hi) hk.size) (h4.trans hk) hpost⟩
theorem l_drop (h : Law9 w0 w f dv F X) (hl : F.fresh.length ≤ 140737488351232) : Calls Tryz.prog 44 #[.pointer (some ⟨f, 0, none⟩)] w fun e w' => e = .returned (.tuple #[]) ∧ Law9 w0 w' f dv (dropP F) X ∧ Keeps w w' (Apart w0 X) := by
  obtain ⟨bu, fv, h1, h2, h3, h4⟩ := h
  exact (drop9_calls w _ F h1 hl).mono fun e w' hp => law_of_post h2 h3 h4 hp
theorem Law9.wf (h : Law9 w0 w f dv F X) : F.d.wf := by
  obtain ⟨bu, fv, h1, _⟩ := h
  exact h1.dev.wf
theorem Law9.dev (h : Law9 w0 w f dv F X) : isDev w dv F.d := by
  obtain ⟨bu, fv, h1, _⟩ := h
  exact h1.dev
end
end Go.Proofs.YtblpkifkaoaicaaGreat
