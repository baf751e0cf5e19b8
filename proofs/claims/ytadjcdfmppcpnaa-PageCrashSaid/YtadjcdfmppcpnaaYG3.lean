import Derived.Test.YtadjcdfmppcpnaaYG2
import Derived.Test.YtadjcdfmppcpnaaQP
/-! Package page: how a file of pages lies in memory; what only reads. -/
namespace Go.Proofs.Ytadjcdfmppcpnaa
open Go Go.RowKit Go.Maps Wb

theorem pages_calls (w : World) (h : DH) (D : Dv) (hd : isDev w h D) : Calls Try.prog 89 #[.pointer (some ⟨h.p, 0, none⟩)] w fun e w' => e = .returned (.int .i64 (pagesOf D)) ∧ w = w' := by
  have hn : nmOk [112] := nmOk_small (by decide)
  have hl : (D.len [112] : Int) ≤ 100000 := by have := len_small hd.wf [112]; omega
  have hl0 : (0 : Int) ≤ D.len [112] := by omega
  go_enter Try.func89, Try.ntmps89
  go_wp2_with fail
  refine (len_calls _ h D [112] hd hn).mono ?_
  rintro e w' ⟨rfl, rfl⟩
  go_wp2
  go_ret
  exact ⟨rfl, rfl⟩

/-- Where it lies. -/
structure FH where
  f : Nat
  dev : DH
  bu : Nat
  fv : Value
  lo : Nat
def FH.S (H : FH) : Nat → Prop := fun i => i = H.f ∨ H.dev.S i ∨ i = H.bu ∨ H.fv.ownBlock = some i
def usedF (u : Nat → Bool) (v : Value) : Option Value :=
  match v with
  | .int .i64 k => if 0 ≤ k ∧ u k.toNat = true then some (.int .i64 1) else none
  | _ => none
def intsV (l : List Nat) : List Value := l.map fun (k : Nat) => Value.int .i64 k
def fileA (F : Pg) (H : FH) : Array Value := #[.pointer (some ⟨H.dev.p, 0, none⟩), .int .u64 F.mt.gen, .int .i64 F.mt.root, .int .i64 F.mt.count, .int .u64 F.mt.mark, .map (some H.bu), H.fv, .bool F.dead]
structure isFile (w : World) (H : FH) (F : Pg) : Prop where
  blk : w.heap[H.f]? = some (.cells (fileA F H) 145 (0, 0))
  dev : isDev w H.dev F.d
  used : isMap Try.prog 3 w H.bu (usedF F.used)
  fresh : isOwn w H.lo 3 H.fv (intsV F.fresh)
  mok : F.mt.ok
  nfd : ¬ H.dev.S H.f
  nfu : H.f ≠ H.bu
  nud : ¬ H.dev.S H.bu
  nvf : H.fv.ownBlock ≠ some H.f
  nvu : H.fv.ownBlock ≠ some H.bu
  nvd : ∀ i, H.fv.ownBlock = some i → ¬ H.dev.S i
  frs : ∀ k ∈ F.fresh, k ≤ 1000000

section
variable {w w' : World} {H : FH} {F : Pg} (hf : isFile w H F)
include hf
theorem isFile.kept {S : Nat → Prop} (hk : Keeps w w' S) (hS : ∀ i, S i → ¬ H.S i) : isFile w' H F :=
  ⟨hk.blk hf.blk (fun h => hS _ h (.inl rfl)), hf.dev.apart hk (fun i h h2 => hS i h (.inr (.inl h2))), hf.used.kept hk (fun h => hS _ h (.inr (.inr (.inl rfl)))),
    hf.fresh.kept hk (fun g hg h => hS g h (.inr (.inr (.inr hg)))), hf.mok, hf.nfd, hf.nfu, hf.nud, hf.nvf, hf.nvu, hf.nvd, hf.frs⟩
theorem isFile.new (hk : Keeps w w' (fun _ => False)) : isFile w' H F := hf.kept hk (fun _ h => h.elim)
theorem isFile.drew : isFile w.drew H F := hf.new (Keeps.refl w _).drew
theorem isFile.drewN (n : Nat) : isFile (w.drewN n) H F := hf.new ((Keeps.refl w _).drewN n)
theorem isFile.c0 : w.cell? ⟨H.f, 0, none⟩ = some (.pointer (some ⟨H.dev.p, 0, none⟩)) := by rw [cell_of_block hf.blk]; rfl
theorem isFile.c1 : w.cell? ⟨H.f, 1, none⟩ = some (.int .u64 F.mt.gen) := by rw [cell_of_block hf.blk]; rfl
theorem isFile.c5 : w.cell? ⟨H.f, 5, none⟩ = some (.map (some H.bu)) := by rw [cell_of_block hf.blk]; rfl
theorem isFile.c6 : w.cell? ⟨H.f, 6, none⟩ = some H.fv := by rw [cell_of_block hf.blk]; rfl
theorem isFile.c7 : w.cell? ⟨H.f, 7, none⟩ = some (.bool F.dead) := by rw [cell_of_block hf.blk]; rfl
theorem isFile.fr (i : Nat) : w.frozen? ⟨H.f, i, none⟩ = false := free_of_block hf.blk i
end

theorem keyedI : Keyed Try.prog 3 := int_keyed Try.underlying3
theorem keyOkI {k : Int} (h : kOk k) : KeyOk Try.prog 3 (.int .i64 k) :=
  ⟨_, keyOf_int_mk Try.underlying3 (by unfold kOk at h; simp [Lit.wf, IntKind.min, IntKind.max, IntKind.signed, IntKind.bits]; omega)⟩
theorem used_look {w : World} {b : Nat} {u : Nat → Bool} (hm : isMap Try.prog 3 w b (usedF u)) (k : Nat) (hk : k ≤ 1000000) (n : Int) (hn : n = if u k = true then 1 else 0) :
    (Instr.lookup 143 (.map (some b)) (.int .i64 k) false).run Try.prog w = .ok (.int .i64 n) w := by
  rw [hm.look keyedI Try.underlying143 (zeroI _) (keyOkI (by unfold kOk; omega)) false]
  subst hn
  have h0 : (0 : Int) ≤ k := by omega
  simp only [usedF, h0, true_and, Int.toNat_natCast, Bool.false_eq_true, if_false]
  cases u k <;> simp

theorem flen_calls (w : World) (H : FH) (F : Pg) (hf : isFile w H F) : Calls Try.prog 50 #[.pointer (some ⟨H.f, 0, none⟩)] w fun e w' => e = .returned (.int .i64 (pagesOf F.d)) ∧ w = w' := by
  have c0 := hf.c0
  go_enter Try.func50, Try.ntmps50
  go_wp2_with fail
  refine (pages_calls _ H.dev F.d hf.dev).mono ?_
  rintro e w' ⟨rfl, rfl⟩
  go_wp2
  go_ret
  exact ⟨rfl, rfl⟩

theorem is_calls (w : World) (H : FH) (F : Pg) (hf : isFile w H F) (k : Int) : Calls Try.prog 94 #[.pointer (some ⟨H.f, 0, none⟩), .int .i64 k] w fun e w' => e = .returned (.bool (isPg F k)) ∧ w = w' := by
  by_cases h2 : 2 ≤ k
  · by_cases hl : k < pagesOf F.d
    · have HP : Hid (isPg F k = true) := by unfold Hid isPg; simp [h2, hl]
      have hlb : decide (k < (pagesOf F.d : Int)) = true := decide_eq_true hl
      go_enter Try.func94, Try.ntmps94
      go_wp2_with (go_at_call 50; refine (flen_calls _ H F hf).mono ?_; rintro e w' ⟨rfl, rfl⟩)
      go_ret
      exact ⟨by rw [HP.out]; rfl, rfl⟩
    · have HP : Hid (isPg F k = false) := by unfold Hid isPg; simp [hl]
      have hlb : decide (k < (pagesOf F.d : Int)) = false := decide_eq_false hl
      go_enter Try.func94, Try.ntmps94
      go_wp2_with (go_at_call 50; refine (flen_calls _ H F hf).mono ?_; rintro e w' ⟨rfl, rfl⟩)
      go_ret
      exact ⟨by rw [HP.out]; rfl, rfl⟩
  · have HP : Hid (isPg F k = false) := by unfold Hid isPg; simp [h2]
    go_enter Try.func94, Try.ntmps94
    go_wp2
    go_ret
    exact ⟨by rw [HP.out]; rfl, rfl⟩
end Go.Proofs.Ytadjcdfmppcpnaa
