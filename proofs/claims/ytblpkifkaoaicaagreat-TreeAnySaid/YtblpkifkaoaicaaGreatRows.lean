/-
  No cell of these rows narrows 'for every input' (looked for: loops, veiled, ifaces, maps, wideKeys, modest, calm, conditions, laid).
  DERIVED. THE GIVEN ROWS OF THIS SEAT. 8 by the template 'for every input the law returns true; each argument reads behind the call as it read before'; 0 by the template 'total and deterministic' (their statements: YtblpkifkaoaicaaGreatTotals.lean).
  GIVEN WITH THE SEED: the statements are not yours to turn. If you find one false, say at which input.
  Laid BY PROGRAM, IN A SANDBOX (cutbox-rows.mjs): the forced cells as the released guide's own fill.sh prints them over the translation fc3026810ff3969e… (all of the seat's roots in one cut). By AI agents, Wed Nov 11 2026. No macro, syntax, notation, axiom, sorry.
-/
import Derived.Test.YtblpkifkaoaicaaGreatChecked
import GoSem.Claim
import GoSem.ClaimJoined
import GoSem.ClaimMapViews
import Derived.JoinedTies
import Derived.KernelRfl
namespace Go.Proofs.YtblpkifkaoaicaaGreat
/- THE CELL 'sum', in the pinned program and in every row, IS THE sha256 OF THE DUMP (.gsa) THAT YtblpkifkaoaicaaGreatProg.lean LOADS. Nothing in Lean hashes anything: it is a label: what it is worth is what the hold of that sum in a sandbox is worth. -/
noncomputable def Tryz.pinned : Pinned := { name := "ytblpkifkaoaicaagreat", sum := "fc3026810ff3969e1d81b70f2e4b6367fae03365f8eaa82cfe920fdc8d6b284d", checked := Tryz.checked }
namespace Rows
def none {H : Type} : Left H := { results := [], args := [] }

/-- 'waybilllaw11.TreeAny': WHATEVER THE INPUT: true; the input reads as it did. -/
def treeAnySpec : ChangeSpec := { name := "treeAny", fn := fun _ => fun
  | [d1, d2, d3] => { results := [.lit (.bool true)], args := [d1, d2, d3] }
  | _ => none }
def treeAnyRow : OpenClaim := { program := "ytblpkifkaoaicaagreat", sum := "fc3026810ff3969e1d81b70f2e4b6367fae03365f8eaa82cfe920fdc8d6b284d", func := "waybill/waybilllaw11.TreeAny", spec := "treeAny", inPlace := ["internal/bytealg.abigen_runtime_cmpstring", "slices.overlaps[waybill/api.Row]"], unfollowed := true, recurses := true, plainKeys := false, apart := false }
def TreeAnySaid : Prop := treeAnyRow.holds Tryz.pinned (OpenSpec.ofChange treeAnySpec)

/-- ITS FALSE NEIGHBOUR: 'it returns false'. Refute it at one input. -/
def treeAnyWrong : ChangeSpec := { name := "treeAny", fn := fun _ => fun
  | [d1, d2, d3] => { results := [.lit (.bool false)], args := [d1, d2, d3] }
  | _ => none }
def TreeAnyWrongFalsely : Prop := treeAnyRow.holds Tryz.pinned (OpenSpec.ofChange treeAnyWrong)

/-- 'waybilllaw11.TreeNone': WHATEVER THE INPUT: true; the input reads as it did. -/
def treeNoneSpec : ChangeSpec := { name := "treeNone", fn := fun _ => fun
  | [] => { results := [.lit (.bool true)], args := [] }
  | _ => none }
def treeNoneRow : OpenClaim := { program := "ytblpkifkaoaicaagreat", sum := "fc3026810ff3969e1d81b70f2e4b6367fae03365f8eaa82cfe920fdc8d6b284d", func := "waybill/waybilllaw11.TreeNone", spec := "treeNone", inPlace := ["internal/bytealg.abigen_runtime_cmpstring", "slices.overlaps[waybill/api.Row]"], unfollowed := true, recurses := true, plainKeys := false, apart := false }
def TreeNoneSaid : Prop := treeNoneRow.holds Tryz.pinned (OpenSpec.ofChange treeNoneSpec)

/-- ITS FALSE NEIGHBOUR: 'it returns false'. Refute it at one input. -/
def treeNoneWrong : ChangeSpec := { name := "treeNone", fn := fun _ => fun
  | [] => { results := [.lit (.bool false)], args := [] }
  | _ => none }
def TreeNoneWrongFalsely : Prop := treeNoneRow.holds Tryz.pinned (OpenSpec.ofChange treeNoneWrong)

/-- 'waybilllaw11.TreeFull': WHATEVER THE INPUT: true; the input reads as it did. -/
def treeFullSpec : ChangeSpec := { name := "treeFull", fn := fun _ => fun
  | [d1, d2] => { results := [.lit (.bool true)], args := [d1, d2] }
  | _ => none }
def treeFullRow : OpenClaim := { program := "ytblpkifkaoaicaagreat", sum := "fc3026810ff3969e1d81b70f2e4b6367fae03365f8eaa82cfe920fdc8d6b284d", func := "waybill/waybilllaw11.TreeFull", spec := "treeFull", inPlace := ["internal/bytealg.abigen_runtime_cmpstring", "slices.overlaps[waybill/api.Row]"], unfollowed := true, recurses := true, plainKeys := false, apart := false }
def TreeFullSaid : Prop := treeFullRow.holds Tryz.pinned (OpenSpec.ofChange treeFullSpec)

/-- ITS FALSE NEIGHBOUR: 'it returns false'. Refute it at one input. -/
def treeFullWrong : ChangeSpec := { name := "treeFull", fn := fun _ => fun
  | [d1, d2] => { results := [.lit (.bool false)], args := [d1, d2] }
  | _ => none }
def TreeFullWrongFalsely : Prop := treeFullRow.holds Tryz.pinned (OpenSpec.ofChange treeFullWrong)

/-- 'waybilllaw11.TreeSpoilt': WHATEVER THE INPUT: true; the input reads as it did. -/
def treeSpoiltSpec : ChangeSpec := { name := "treeSpoilt", fn := fun _ => fun
  | [d1, d2, d3] => { results := [.lit (.bool true)], args := [d1, d2, d3] }
  | _ => none }
def treeSpoiltRow : OpenClaim := { program := "ytblpkifkaoaicaagreat", sum := "fc3026810ff3969e1d81b70f2e4b6367fae03365f8eaa82cfe920fdc8d6b284d", func := "waybill/waybilllaw11.TreeSpoilt", spec := "treeSpoilt", inPlace := ["internal/bytealg.abigen_runtime_cmpstring", "slices.overlaps[waybill/api.Row]", "maps.clone"], unfollowed := true, recurses := true, plainKeys := false, apart := false }
def TreeSpoiltSaid : Prop := treeSpoiltRow.holds Tryz.pinned (OpenSpec.ofChange treeSpoiltSpec)

/-- ITS FALSE NEIGHBOUR: 'it returns false'. Refute it at one input. -/
def treeSpoiltWrong : ChangeSpec := { name := "treeSpoilt", fn := fun _ => fun
  | [d1, d2, d3] => { results := [.lit (.bool false)], args := [d1, d2, d3] }
  | _ => none }
def TreeSpoiltWrongFalsely : Prop := treeSpoiltRow.holds Tryz.pinned (OpenSpec.ofChange treeSpoiltWrong)

/-- 'waybilllaw11.TreeFew': WHATEVER THE INPUT: true; the input reads as it did. -/
def treeFewSpec : ChangeSpec := { name := "treeFew", fn := fun _ => fun
  | [d1, d2] => { results := [.lit (.bool true)], args := [d1, d2] }
  | _ => none }
def treeFewRow : OpenClaim := { program := "ytblpkifkaoaicaagreat", sum := "fc3026810ff3969e1d81b70f2e4b6367fae03365f8eaa82cfe920fdc8d6b284d", func := "waybill/waybilllaw11.TreeFew", spec := "treeFew", inPlace := ["internal/bytealg.abigen_runtime_cmpstring", "slices.overlaps[waybill/api.Row]", "maps.clone"], unfollowed := true, recurses := true, plainKeys := false, apart := false }
def TreeFewSaid : Prop := treeFewRow.holds Tryz.pinned (OpenSpec.ofChange treeFewSpec)

/-- ITS FALSE NEIGHBOUR: 'it returns false'. Refute it at one input. -/
def treeFewWrong : ChangeSpec := { name := "treeFew", fn := fun _ => fun
  | [d1, d2] => { results := [.lit (.bool false)], args := [d1, d2] }
  | _ => none }
def TreeFewWrongFalsely : Prop := treeFewRow.holds Tryz.pinned (OpenSpec.ofChange treeFewWrong)

/-- 'waybilllaw11.TreePlays': WHATEVER THE INPUT: true; the input reads as it did. -/
def treePlaysSpec : ChangeSpec := { name := "treePlays", fn := fun _ => fun
  | [d] => { results := [.lit (.bool true)], args := [d] }
  | _ => none }
def treePlaysRow : OpenClaim := { program := "ytblpkifkaoaicaagreat", sum := "fc3026810ff3969e1d81b70f2e4b6367fae03365f8eaa82cfe920fdc8d6b284d", func := "waybill/waybilllaw11.TreePlays", spec := "treePlays", inPlace := ["internal/bytealg.abigen_runtime_cmpstring", "slices.overlaps[waybill/api.Row]"], unfollowed := true, recurses := true, plainKeys := false, apart := false }
def TreePlaysSaid : Prop := treePlaysRow.holds Tryz.pinned (OpenSpec.ofChange treePlaysSpec)

/-- ITS FALSE NEIGHBOUR: 'it returns false'. Refute it at one input. -/
def treePlaysWrong : ChangeSpec := { name := "treePlays", fn := fun _ => fun
  | [d] => { results := [.lit (.bool false)], args := [d] }
  | _ => none }
def TreePlaysWrongFalsely : Prop := treePlaysRow.holds Tryz.pinned (OpenSpec.ofChange treePlaysWrong)

/-- 'waybilllaw11.TreeBacks': WHATEVER THE INPUT: true; the input reads as it did. -/
def treeBacksSpec : ChangeSpec := { name := "treeBacks", fn := fun _ => fun
  | [d1, d2] => { results := [.lit (.bool true)], args := [d1, d2] }
  | _ => none }
def treeBacksRow : OpenClaim := { program := "ytblpkifkaoaicaagreat", sum := "fc3026810ff3969e1d81b70f2e4b6367fae03365f8eaa82cfe920fdc8d6b284d", func := "waybill/waybilllaw11.TreeBacks", spec := "treeBacks", inPlace := ["internal/bytealg.abigen_runtime_cmpstring", "slices.overlaps[waybill/api.Row]"], unfollowed := true, recurses := true, plainKeys := false, apart := false }
def TreeBacksSaid : Prop := treeBacksRow.holds Tryz.pinned (OpenSpec.ofChange treeBacksSpec)

/-- ITS FALSE NEIGHBOUR: 'it returns false'. Refute it at one input. -/
def treeBacksWrong : ChangeSpec := { name := "treeBacks", fn := fun _ => fun
  | [d1, d2] => { results := [.lit (.bool false)], args := [d1, d2] }
  | _ => none }
def TreeBacksWrongFalsely : Prop := treeBacksRow.holds Tryz.pinned (OpenSpec.ofChange treeBacksWrong)

/-- 'waybilllaw11.TreeCrash': WHATEVER THE INPUT: true; the input reads as it did. -/
def treeCrashSpec : ChangeSpec := { name := "treeCrash", fn := fun _ => fun
  | [d1, d2, d3] => { results := [.lit (.bool true)], args := [d1, d2, d3] }
  | _ => none }
def treeCrashRow : OpenClaim := { program := "ytblpkifkaoaicaagreat", sum := "fc3026810ff3969e1d81b70f2e4b6367fae03365f8eaa82cfe920fdc8d6b284d", func := "waybill/waybilllaw11.TreeCrash", spec := "treeCrash", inPlace := ["internal/bytealg.abigen_runtime_cmpstring", "slices.overlaps[waybill/api.Row]"], unfollowed := true, recurses := true, plainKeys := false, apart := false }
def TreeCrashSaid : Prop := treeCrashRow.holds Tryz.pinned (OpenSpec.ofChange treeCrashSpec)

/-- ITS FALSE NEIGHBOUR: 'it returns false'. Refute it at one input. -/
def treeCrashWrong : ChangeSpec := { name := "treeCrash", fn := fun _ => fun
  | [d1, d2, d3] => { results := [.lit (.bool false)], args := [d1, d2, d3] }
  | _ => none }
def TreeCrashWrongFalsely : Prop := treeCrashRow.holds Tryz.pinned (OpenSpec.ofChange treeCrashWrong)

/- THE SECOND FORM. 'bulk': how many values and letters a reading holds, each counted each time it is reached (what is shared counts as often as it is met; a slice's spare places count too). A statement '..UptoSaid' is the law's where the arguments, and the package variables that the reading takes, are together of bulk at most 1048576: NARROWER than '..Said'. Prove '..Said' where nothing that the law and all that it calls make is longer than what came in: it says more and counts as full. Else prove '..UptoSaid'. A law counts once. -/
mutual
def uptoBulk {H : Type} : DataW H → Nat
  | .lit (.string bytes) => bytes.length + 1
  | .lit _ => 1
  | .nil => 1
  | .ptr d => uptoBulk d + 1
  | .slice elems spare => uptoBulkAll elems + uptoBulkAll spare + 1
  | .agg parts => uptoBulkAll parts + 1
  | .iface _ d => uptoBulk d + 1
  | .map entries => uptoBulkEntries entries + 1
  | .held _ => 1
def uptoBulkAll {H : Type} : List (DataW H) → Nat
  | [] => 0
  | d :: r => uptoBulk d + uptoBulkAll r
def uptoBulkEntries {H : Type} : List (Lit × DataW H) → Nat
  | [] => 0
  | x :: r => uptoBulkEntry x + uptoBulkEntries r
def uptoBulkEntry {H : Type} : Lit × DataW H → Nat
  | (.string bytes, d) => bytes.length + uptoBulk d + 1
  | (_, d) => uptoBulk d + 1
 end
def uptoSmall : (H : Type) → List (DataW H) → Bool := fun _ ds => decide (uptoBulkAll ds ≤ 1048576)
def OpenSpec.upto (s : _root_.Go.ChangeSpec) : _root_.Go.OpenSpec := { _root_.Go.OpenSpec.ofChange s with cond := some uptoSmall }

/-- 'waybilllaw11.TreeAny', WHERE WHAT IT READS IS OF BULK AT MOST 1048576: true; the input reads as it did. -/
def treeAnyUptoRow : OpenClaim := { program := "ytblpkifkaoaicaagreat", sum := "fc3026810ff3969e1d81b70f2e4b6367fae03365f8eaa82cfe920fdc8d6b284d", func := "waybill/waybilllaw11.TreeAny", spec := "treeAny", inPlace := ["internal/bytealg.abigen_runtime_cmpstring", "slices.overlaps[waybill/api.Row]"], unfollowed := true, recurses := true, plainKeys := false, apart := false, narrowed := true }
def TreeAnyUptoSaid : Prop := treeAnyUptoRow.holds Tryz.pinned (OpenSpec.upto treeAnySpec)

/-- 'waybilllaw11.TreeNone', WHERE WHAT IT READS IS OF BULK AT MOST 1048576: true; the input reads as it did. -/
def treeNoneUptoRow : OpenClaim := { program := "ytblpkifkaoaicaagreat", sum := "fc3026810ff3969e1d81b70f2e4b6367fae03365f8eaa82cfe920fdc8d6b284d", func := "waybill/waybilllaw11.TreeNone", spec := "treeNone", inPlace := ["internal/bytealg.abigen_runtime_cmpstring", "slices.overlaps[waybill/api.Row]"], unfollowed := true, recurses := true, plainKeys := false, apart := false, narrowed := true }
def TreeNoneUptoSaid : Prop := treeNoneUptoRow.holds Tryz.pinned (OpenSpec.upto treeNoneSpec)

/-- 'waybilllaw11.TreeFull', WHERE WHAT IT READS IS OF BULK AT MOST 1048576: true; the input reads as it did. -/
def treeFullUptoRow : OpenClaim := { program := "ytblpkifkaoaicaagreat", sum := "fc3026810ff3969e1d81b70f2e4b6367fae03365f8eaa82cfe920fdc8d6b284d", func := "waybill/waybilllaw11.TreeFull", spec := "treeFull", inPlace := ["internal/bytealg.abigen_runtime_cmpstring", "slices.overlaps[waybill/api.Row]"], unfollowed := true, recurses := true, plainKeys := false, apart := false, narrowed := true }
def TreeFullUptoSaid : Prop := treeFullUptoRow.holds Tryz.pinned (OpenSpec.upto treeFullSpec)

/-- 'waybilllaw11.TreeSpoilt', WHERE WHAT IT READS IS OF BULK AT MOST 1048576: true; the input reads as it did. -/
def treeSpoiltUptoRow : OpenClaim := { program := "ytblpkifkaoaicaagreat", sum := "fc3026810ff3969e1d81b70f2e4b6367fae03365f8eaa82cfe920fdc8d6b284d", func := "waybill/waybilllaw11.TreeSpoilt", spec := "treeSpoilt", inPlace := ["internal/bytealg.abigen_runtime_cmpstring", "slices.overlaps[waybill/api.Row]", "maps.clone"], unfollowed := true, recurses := true, plainKeys := false, apart := false, narrowed := true }
def TreeSpoiltUptoSaid : Prop := treeSpoiltUptoRow.holds Tryz.pinned (OpenSpec.upto treeSpoiltSpec)

/-- 'waybilllaw11.TreeFew', WHERE WHAT IT READS IS OF BULK AT MOST 1048576: true; the input reads as it did. -/
def treeFewUptoRow : OpenClaim := { program := "ytblpkifkaoaicaagreat", sum := "fc3026810ff3969e1d81b70f2e4b6367fae03365f8eaa82cfe920fdc8d6b284d", func := "waybill/waybilllaw11.TreeFew", spec := "treeFew", inPlace := ["internal/bytealg.abigen_runtime_cmpstring", "slices.overlaps[waybill/api.Row]", "maps.clone"], unfollowed := true, recurses := true, plainKeys := false, apart := false, narrowed := true }
def TreeFewUptoSaid : Prop := treeFewUptoRow.holds Tryz.pinned (OpenSpec.upto treeFewSpec)

/-- 'waybilllaw11.TreePlays', WHERE WHAT IT READS IS OF BULK AT MOST 1048576: true; the input reads as it did. -/
def treePlaysUptoRow : OpenClaim := { program := "ytblpkifkaoaicaagreat", sum := "fc3026810ff3969e1d81b70f2e4b6367fae03365f8eaa82cfe920fdc8d6b284d", func := "waybill/waybilllaw11.TreePlays", spec := "treePlays", inPlace := ["internal/bytealg.abigen_runtime_cmpstring", "slices.overlaps[waybill/api.Row]"], unfollowed := true, recurses := true, plainKeys := false, apart := false, narrowed := true }
def TreePlaysUptoSaid : Prop := treePlaysUptoRow.holds Tryz.pinned (OpenSpec.upto treePlaysSpec)

/-- 'waybilllaw11.TreeBacks', WHERE WHAT IT READS IS OF BULK AT MOST 1048576: true; the input reads as it did. -/
def treeBacksUptoRow : OpenClaim := { program := "ytblpkifkaoaicaagreat", sum := "fc3026810ff3969e1d81b70f2e4b6367fae03365f8eaa82cfe920fdc8d6b284d", func := "waybill/waybilllaw11.TreeBacks", spec := "treeBacks", inPlace := ["internal/bytealg.abigen_runtime_cmpstring", "slices.overlaps[waybill/api.Row]"], unfollowed := true, recurses := true, plainKeys := false, apart := false, narrowed := true }
def TreeBacksUptoSaid : Prop := treeBacksUptoRow.holds Tryz.pinned (OpenSpec.upto treeBacksSpec)

/-- 'waybilllaw11.TreeCrash', WHERE WHAT IT READS IS OF BULK AT MOST 1048576: true; the input reads as it did. -/
def treeCrashUptoRow : OpenClaim := { program := "ytblpkifkaoaicaagreat", sum := "fc3026810ff3969e1d81b70f2e4b6367fae03365f8eaa82cfe920fdc8d6b284d", func := "waybill/waybilllaw11.TreeCrash", spec := "treeCrash", inPlace := ["internal/bytealg.abigen_runtime_cmpstring", "slices.overlaps[waybill/api.Row]"], unfollowed := true, recurses := true, plainKeys := false, apart := false, narrowed := true }
def TreeCrashUptoSaid : Prop := treeCrashUptoRow.holds Tryz.pinned (OpenSpec.upto treeCrashSpec)

end Rows
end Go.Proofs.YtblpkifkaoaicaaGreat
