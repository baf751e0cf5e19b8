import Derived.Test.YtblpkifkaoaicaaGreatYKit
import Derived.Test.YtblpkifkaoaicaaGreatQP
import Derived.Test.YtblpkifkaoaicaaGreatChecked
import Derived.Outline
import Derived.Deep.QuietTactic
import Derived.BigQuiet
import Derived.StillTailTactics
import Derived.WalkLawsBesides
import Derived.WalkSpells
import Derived.Lib.Hide
/-! Package sect: how a device lies in memory; the contracts of what has no loop. -/
namespace Go.Proofs.YtblpkifkaoaicaaGreat
open Go Go.RowKit Go.Maps Wb

structure DH where
  p : Nat
  bl : Nat
  bc : Nat
def DH.S (h : DH) : Nat → Prop := fun b => b = h.p ∨ b = h.bl ∨ b = h.bc

def secA (s : Sec) : Array Value := (s.1.map fun b => Value.int .u8 b.toNat).toArray
def tailA (c : Wb.Cell) : Array Value := #[.bool c.nowBad, .bool c.lastBad, .bool c.there, .bool c.fresh]
def cellA (c : Wb.Cell) : Array Value := secA c.now ++ secA c.last ++ tailA c

def lenV (l : List Wb.Cell) : Value := .int .i64 l.length
def cellV (c : Wb.Cell) : Value := .agg (cellA c)
def whereV (n : Nm) (k : Int) : Value := .agg #[.string (bs n), .int .i64 k]
def decS : Value → Option Nm
  | .string s => some s.data.toList
  | _ => none
def decW : Value → Option (Nm × Nat)
  | .agg a => match a.toList with
    | [.string s, .int .i64 k] => if 0 ≤ k then some (s.data.toList, k.toNat) else none
    | _ => none
  | _ => none
theorem decS_iff {v : Value} {n : Nm} : decS v = some n ↔ v = .string (bs n) := by
  constructor
  · intro h
    cases v <;> simp [decS] at h
    subst h; simp [bs]
  · rintro rfl; simp [decS, bs]
theorem decW_iff {v : Value} {n : Nm} {k : Nat} : decW v = some (n, k) ↔ v = whereV n k := by
  constructor
  · intro h
    cases v <;> simp only [decW, reduceCtorEq] at h
    rename_i a
    split at h
    · rename_i s k' he
      split at h
      · simp only [Option.some.injEq, Prod.mk.injEq] at h
        obtain ⟨rfl, rfl⟩ := h
        unfold whereV bs
        have : a = #[.string s, .int .i64 k'] := by rw [← Array.toArray_toList (xs := a), he]
        subst this
        rw [Int.toNat_of_nonneg (by assumption)]
      · cases h
    · cases h
  · rintro rfl; simp [decW, whereV, bs]
def longF (fs : Files) (v : Value) : Option Value := (decS v).bind fun n => (fget fs n).map lenV
def cellF (fs : Files) (v : Value) : Option Value := (decW v).bind fun x => ((fget fs x.1).bind (·[x.2]?)).map cellV
theorem longF_at (fs : Files) (n : Nm) : longF fs (.string (bs n)) = (fget fs n).map lenV := by simp [longF, decS_iff.2 rfl]
theorem cellF_at (fs : Files) (n : Nm) (k : Nat) : cellF fs (whereV n k) = ((fget fs n).bind (·[k]?)).map cellV := by simp [cellF, decW_iff.2 rfl]

def fldA (D : Dv) (h : DH) : Array Value := #[.int .i64 D.most, .int .i64 (used D.files), .int .i64 D.fuse, .map (some h.bl), .map (some h.bc)]

structure isDev (w : World) (h : DH) (D : Dv) : Prop where
  fld : w.heap[h.p]? = some (.cells (fldA D h) 113 (0, 0))
  long : isMap Tryz.prog 9 w h.bl (longF D.files)
  cells : isMap Tryz.prog 128 w h.bc (cellF D.files)
  wf : D.wf
  ne : h.bl ≠ h.bc

def DevPost (h : DH) (w : World) (r : Value) (D' : Dv) (e : Ending) (w' : World) : Prop := e = .returned r ∧ isDev w' h D' ∧ Keeps w w' h.S

theorem post_of {h : DH} {w w' : World} {X : Dv × Int} {D' : Dv} {r : Int} (hR : X = (D', r)) (hd : isDev w' h D') (hk : Keeps w w' h.S) : DevPost h w (.int .i64 X.2) X.1 (.returned (.int .i64 r)) w' := by
  subst hR; exact ⟨rfl, hd, hk⟩

/-! ### facts of the types -/
theorem keyedS : Keyed Tryz.prog 9 := string_keyed Tryz.underlying9
/-- A name that Go can hold. -/
def nmOk (n : Nm) : Prop := n.length ≤ 9223372036854775807
theorem keyOkS {n : Nm} (h : nmOk n) : KeyOk Tryz.prog 9 (.string (bs n)) :=
  ⟨_, WideMaps.keyOf_string_mk Tryz.underlying9 (by rw [bs_size]; unfold nmOk at h; unfold maxLen; omega)⟩
theorem zeroI (w : World) : (zeroValue 3).run Tryz.prog w = .ok (.int .i64 0) w := by kernel_rfl

theorem Tryz.laidOut : laidOutB Tryz.prog = true := by kernel_rfl
theorem keyTypeW : Tryz.prog.keyType 128 = true := by kernel_rfl
theorem cellsW : Tryz.prog.cellsOf 128 = 2 := by kernel_rfl
theorem cellsS : Tryz.prog.cellsOf 9 = 1 := by kernel_rfl
theorem cellsI : Tryz.prog.cellsOf 3 = 1 := by kernel_rfl
theorem formedW (s : ByteArray) (k : Int) : (Value.agg #[.string s, .int .i64 k]).formed Tryz.prog 128 = true := by
  simp [Value.formed, Tryz.underlying128, cellsW]
theorem typesS : ∃ m, Tryz.prog.types.size = m + 3 := ⟨Tryz.prog.types.size - 3, by
  have : 3 < Tryz.prog.types.size := of_decide_eq_true (by kernel_rfl)
  omega⟩
theorem keyedW : Keyed Tryz.prog 128 :=
  Keyed.of_law (deep_law_gate Tryz.laidOut (of_decide_eq_true (by kernel_rfl)) (of_decide_eq_true (by kernel_rfl)) keyTypeW (by rw [Tryz.underlying128]))
def kOk (k : Int) : Prop := -9223372036854775808 ≤ k ∧ k ≤ 9223372036854775807
theorem keyOkW {n : Nm} {k : Int} (hn : nmOk n) (hk : kOk k) : KeyOk Tryz.prog 128 (whereV n k) := by
  obtain ⟨m, hm⟩ := typesS
  have hs : (bs n).size ≤ maxLen := by rw [bs_size]; unfold nmOk at hn; unfold maxLen; omega
  have hw : (Lit.int .i64 k).wf = true := by unfold kOk at hk; simp [Lit.wf, IntKind.min, IntKind.max, IntKind.signed, IntKind.bits]; omega
  refine ⟨.string (keyBytes [.string (bs n).data.toList, .int .i64 k]), ?_⟩
  unfold keyOf whereV
  simp only [Tryz.underlying128, keyTypeW, formedW, hm, Bool.and_self, if_true]
  simp [Program.keyLits, Tryz.underlying128, Tryz.underlying9, Tryz.underlying3, cellsW, cellsS, cellsI, hs, hw, Value.cells, List.mapM_cons]
theorem info28 : (Tryz.prog.info? 62).map (·.size) = some 64 := by kernel_rfl
theorem info65 : (Tryz.prog.info? 130).map (·.size) = some 132 := by kernel_rfl
theorem secA_one (s : Sec) : (secA s).all (·.oneCell') = true := by
  simp [secA, Value.oneCell']
theorem secA_size (s : Sec) : (secA s).size = 64 := by simp [secA, s.2]
theorem cellA_size (c : Wb.Cell) : (cellA c).size = 132 := by simp [cellA, tailA, secA_size]
theorem cellA_one (c : Wb.Cell) : (cellA c).all (·.oneCell') = true := by
  rw [Array.all_eq_true_iff_forall_mem]
  intro v hv
  simp only [cellA, Array.mem_append] at hv
  rcases hv with (hv | hv) | hv
  · exact (Array.all_eq_true_iff_forall_mem.1 (secA_one _)) v hv
  · exact (Array.all_eq_true_iff_forall_mem.1 (secA_one _)) v hv
  · simp only [tailA, List.mem_toArray, List.mem_cons, List.not_mem_nil, or_false] at hv
    rcases hv with rfl | rfl | rfl | rfl <;> rfl
theorem cellA_list (c : Wb.Cell) : (cellA c).toList = (secA c.now).toList ++ ((secA c.last).toList ++ (tailA c).toList) := by simp [cellA]
theorem secA_len (s : Sec) : (secA s).toList.length = 64 := by rw [Array.length_toList, secA_size]
theorem splice_now (c : Wb.Cell) (s : Sec) : Wb.splice (cellA c) 0 (secA s) = cellA { c with now := s } := by
  apply Array.toList_inj.1
  simp only [Wb.splice, List.toList_toArray, cellA_list, secA_size]
  rw [List.drop_append_of_le_length (by rw [secA_len]; omega), List.drop_eq_nil_of_le (by rw [secA_len]; omega)]
  simp [tailA]
theorem splice_last (c : Wb.Cell) (s : Sec) : Wb.splice (cellA c) 64 (secA s) = cellA { c with last := s } := by
  apply Array.toList_inj.1
  simp only [Wb.splice, List.toList_toArray, cellA_list, secA_size]
  rw [List.take_append_of_le_length (by rw [secA_len]; omega), List.take_of_length_le (by rw [secA_len]; omega),
    List.drop_append, secA_len, List.drop_eq_nil_of_le (by rw [secA_len]; omega),
    List.drop_append_of_le_length (by rw [secA_len]; omega), List.drop_eq_nil_of_le (by rw [secA_len]; omega)]
  simp [tailA]
theorem extract_now (c : Wb.Cell) : (cellA c).extract 0 (0 + (secA c.now).size) = secA c.now := by
  apply Array.toList_inj.1
  rw [Array.toList_extract, cellA_list, secA_size]
  simp only [List.extract, Nat.zero_add, List.drop_zero, Nat.sub_zero]
  rw [List.take_append_of_le_length (by rw [secA_len]; omega), List.take_of_length_le (by rw [secA_len]; omega)]
theorem cellA_tail (c : Wb.Cell) (i : Nat) : (cellA c)[128 + i]? = (tailA c)[i]? := by
  unfold cellA
  rw [Array.getElem?_append_right (by simp [secA_size])]
  simp [secA_size]
theorem cellA_set (c c' : Wb.Cell) (i : Nat) (v : Value) (h1 : c'.now = c.now) (h2 : c'.last = c.last) (h3 : (tailA c).setIfInBounds i v = tailA c') : (cellA c).setIfInBounds (128 + i) v = cellA c' := by
  apply Array.toList_inj.1
  rw [Array.toList_setIfInBounds, cellA_list, cellA_list, h1, h2, ← h3, Array.toList_setIfInBounds]
  rw [List.set_append_right _ _ (by rw [secA_len]; omega), List.set_append_right _ _ (by rw [secA_len, secA_len]; omega), secA_len, secA_len]
  rw [show 128 + i - 64 - 64 = i by omega]
theorem set128 (c : Wb.Cell) (b : Bool) : (cellA c).setIfInBounds 128 (.bool b) = cellA { c with nowBad := b } := cellA_set c _ 0 _ rfl rfl rfl
theorem set129 (c : Wb.Cell) (b : Bool) : (cellA c).setIfInBounds 129 (.bool b) = cellA { c with lastBad := b } := cellA_set c _ 1 _ rfl rfl rfl
theorem set130 (c : Wb.Cell) (b : Bool) : (cellA c).setIfInBounds 130 (.bool b) = cellA { c with there := b } := cellA_set c _ 2 _ rfl rfl rfl
theorem set131 (c : Wb.Cell) (b : Bool) : (cellA c).setIfInBounds 131 (.bool b) = cellA { c with fresh := b } := cellA_set c _ 3 _ rfl rfl rfl
theorem get128 (c : Wb.Cell) : (cellA c)[128]? = some (.bool c.nowBad) := cellA_tail c 0
theorem get129 (c : Wb.Cell) : (cellA c)[129]? = some (.bool c.lastBad) := cellA_tail c 1
theorem get130 (c : Wb.Cell) : (cellA c)[130]? = some (.bool c.there) := cellA_tail c 2
theorem get131 (c : Wb.Cell) : (cellA c)[131]? = some (.bool c.fresh) := cellA_tail c 3
theorem store_whole (A B : Array Value) (h : A.size = B.size) : Wb.splice A 0 B = B := by
  apply Array.toList_inj.1
  simp [Wb.splice, ← h]

theorem longF_fset (fs : Files) (n : Nm) (l : List Wb.Cell) : longF (fset fs n l) = upd (longF fs) (.string (bs n)) (some (lenV l)) := by
  funext v
  by_cases e : v = .string (bs n)
  · subst e; rw [upd_same, longF_at, fget_fset_same]; rfl
  · rw [upd_other _ _ e]
    unfold longF
    cases hv : decS v with
    | none => rfl
    | some m =>
      have : m ≠ n := fun h => e (by rw [← h]; exact decS_iff.1 hv)
      simp [fget_fset_other _ _ this]

/-- What was laid anew at the length: the lengths stay. -/
theorem longF_fset_same (fs : Files) (n : Nm) (l l' : List Wb.Cell) (h : fget fs n = some l) (hl : l'.length = l.length) : longF (fset fs n l') = longF fs := by
  funext v
  rw [longF_fset]
  by_cases e : v = .string (bs n)
  · subst e; rw [upd_same, longF_at, h]; simp [lenV, hl]
  · rw [upd_other _ _ e]

theorem cellF_fset_nil (fs : Files) (n : Nm) (h : fget fs n = none) : cellF (fset fs n []) = cellF fs := by
  funext v
  unfold cellF
  cases hv : decW v with
  | none => rfl
  | some x =>
    by_cases e : x.1 = n
    · simp [e, fget_fset_same, h]
    · simp [fget_fset_other _ _ e]

theorem cellF_fset_one (fs : Files) (n : Nm) (l : List Wb.Cell) (k : Nat) (c : Wb.Cell) (h : fget fs n = some l) (hk : k ≤ l.length) :
    cellF (fset fs n (if k = l.length then l ++ [c] else l.set k c)) = upd (cellF fs) (whereV n k) (some (cellV c)) := by
  funext v
  by_cases e : v = whereV n k
  · subst e; rw [upd_same, cellF_at, fget_fset_same]
    split
    · rename_i hk'; subst hk'; simp
    · rename_i hk'; rw [Option.bind_some, List.getElem?_set_self (by omega)]; rfl
  · rw [upd_other _ _ e]
    unfold cellF
    cases hv : decW v with
    | none => rfl
    | some x =>
      by_cases e1 : x.1 = n
      · have e2 : x.2 ≠ k := fun h2 => e (by rw [← h2, ← e1]; exact decW_iff.1 hv)
        simp only [e1, fget_fset_same, h, Option.bind_some]
        congr 1
        split
        · rename_i hk'; subst hk'
          rw [List.getElem?_append]
          split
          · rfl
          · rw [List.getElem?_eq_none (by simp; omega), List.getElem?_eq_none (by omega)]
        · rw [List.getElem?_set_ne (fun h => e2 h.symm)]
      · simp [fget_fset_other _ _ e1]

end Go.Proofs.YtblpkifkaoaicaaGreat
