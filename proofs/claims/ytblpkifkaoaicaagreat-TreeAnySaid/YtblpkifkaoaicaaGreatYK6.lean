import Derived.Test.YtblpkifkaoaicaaGreatYK5
import Derived.Lib.AppendStr
/-! Package octs: Short. -/
namespace Go.Proofs.YtblpkifkaoaicaaGreat
open Go Go.RowKit Go.Maps Wb Go.Lib

theorem strCells_octs (m : Nm) : strCells (bs m) = octs m := by
  unfold strCells
  rw [bs_list]
  rfl
theorem wl_appendS {P : Program} {w : World} {ops : Array Oper} {rest : List Oper} {o : Oper} {a : Act} {Q : Exit → Act → World → Prop} (hg : o.guard = none) (s x : Operand) (t u e : TypeId) (hop : o.op = .call { callee := .builtin .append, args := #[s, x], argTypes := #[t, u] })
    (ht : P.underlying t = some (.slice e)) (hu : P.underlying u = some .string) (h2 : (P.info? e).map (fun i => (i.zero, i.size, i.bytes)) = some (some (.int .u8 0), 1, 1))
    (lo : Nat) (v : Value) (l m : List UInt8) (hs : a.eval s = v) (hown : isOwn w lo e v (octs l)) (hx : a.eval x = .string (bs m)) (hroom : l.length + m.length ≤ 140737488355328) (hlo : lo ≤ w.heap.size)
    (hK : ∀ v' w', isOwn w' lo e v' (octs (l ++ m)) → Keeps w w' (fun b => v.ownBlock = some b) → wpList P ops Q rest (a.put o.dst v') w') : wpList P ops Q (o :: rest) a w := by
  obtain ⟨i, hi, hz, hs1, hb1⟩ := info_parts' h2
  refine wpList_append_own_string w hg s x t u hop lo e i ht hu hi hz hs1 hb1 v _ _ hs hown (bs m) hx (by rw [bs_size, octs_len]; unfold maxLen; omega) (by rw [bs_size, octs_len]; omega) hlo fun v' w' h3 h4 _ => ?_
  refine hK v' w' ?_ ((Keeps.refl w _).grown h4 (fun k hk _ => hk))
  have h5 : (octs l ++ strCells (bs m)).length = (octs l).length + (bs m).size := by rw [List.length_append, strCells_length]
  rw [octs_app, ← strCells_octs m]
  show w'.ownsRow lo e 1 v' _ _
  rw [h5]
  exact h3
def ShortPost (w : World) (l : List UInt8) (e : Ending) (w' : World) : Prop := ∃ v, e = .returned (.tuple #[v, .bool true]) ∧ isOwn w' w.heap.size 5 v (octs l) ∧ Keeps w w' (fun _ => False)
set_option maxRecDepth 100000 in
set_option maxHeartbeats 1000000 in
theorem short_calls (w : World) (sv : Value) (l m : List UInt8) (hv : isRd w sv (octs l)) (hs : ∀ cap, sv = .slice none 0 cap → cap = 0) (hl : l.length ≤ 1000000) (hm : m.length ≤ 255) :
    Calls Tryz.prog 134 #[sv, .string (bs m)] w (ShortPost w (l ++ (be 1 m.length ++ m))) := by
  have HV := Lib.hid hv
  have HS := Lib.hid hs
  obtain ⟨ad, n, cap, rfl⟩ : ∃ ad n cap, sv = .slice ad n cap := by
    obtain ⟨a, c, rfl, _⟩ := hv
    exact ⟨_, _, _, rfl⟩
  obtain ⟨k, hk⟩ : ∃ k, k = m.length := ⟨_, rfl⟩
  have HKL := Lib.hid hk
  have hks : ((bs m).size : Int) = k := by rw [bs_size, hk]
  have hki : (k : Int) ≤ 255 := by omega
  have hk0 : (0 : Int) ≤ k := by omega
  have hgt : decide ((255 : Int) < (k : Int)) = false := by simp; omega
  have hwk : IntKind.u64.wrap (k : Int) = k := by rw [wrap_u64]; omega
  have HI := int_calls w _ l 1 k hv hs (by decide) (by decide) (by omega) hl
  clear hv hs hk hm
  go_enter Tryz.func134, Tryz.ntmps134
  go_wp2_with fail
  refine HI.mono ?_
  rintro e w2 ⟨v2, rfl, ho2, hk2⟩
  obtain ⟨ad2, cap2, rfl⟩ : ∃ ad cap, v2 = .slice ad (octs (l ++ be 1 k)).length cap := by
    rcases ho2.2 with ⟨rfl, h0⟩ | ⟨g, cap, cur, rfl, _⟩
    · exact ⟨_, _, by rw [h0]⟩
    · exact ⟨_, _, rfl⟩
  go_wp2_with (first
    | (refine wl_appendS rfl _ _ _ _ 5 rfl Tryz.underlying36 Tryz.underlying9 info_u8 w.heap.size _ (l ++ be 1 k) m rfl ho2 rfl (by have := HKL.out; simp [be_len]; omega) hk2.size ?_; intro v3 w3 ho3 hk3)
    | fail)
  go_ret2
  refine ⟨v3, rfl, ?_, ?_⟩
  · rw [← HKL.out, ← List.append_assoc]; exact ho3
  · exact hk2.then hk3 fun i hi e => by have := (ho2.blk i e).1; omega
end Go.Proofs.YtblpkifkaoaicaaGreat
