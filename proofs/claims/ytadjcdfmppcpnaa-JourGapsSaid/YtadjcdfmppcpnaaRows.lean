/-
  No cell of these rows narrows 'for every input' (looked for: loops, veiled, ifaces, maps, wideKeys, modest, calm, conditions, laid).
  DERIVED. THE GIVEN ROWS OF THIS SEAT. 18 by the template 'for every input the law returns true; each argument reads behind the call as it read before'; 0 by the template 'total and deterministic' (their statements: YtadjcdfmppcpnaaTotals.lean).
  GIVEN WITH THE SEED: the statements are not yours to turn. If you find one false, say at which input.
  Laid BY PROGRAM, IN A SANDBOX (cutbox-rows.mjs): the forced cells as the released guide's own fill.sh prints them over the translation 808ab779518a3816… (all of the seat's roots in one cut). By AI agents, Wed Nov 11 2026. No macro, syntax, notation, axiom, sorry.
-/
import Derived.Test.YtadjcdfmppcpnaaChecked
import GoSem.Claim
import GoSem.ClaimJoined
import GoSem.ClaimMapViews
import Derived.JoinedTies
import Derived.KernelRfl
namespace Go.Proofs.Ytadjcdfmppcpnaa
/- THE CELL 'sum', in the pinned program and in every row, IS THE sha256 OF THE DUMP (.gsa) THAT YtadjcdfmppcpnaaProg.lean LOADS. Nothing in Lean hashes anything: it is a label: what it is worth is what the hold of that sum in a sandbox is worth. -/
noncomputable def Try.pinned : Pinned := { name := "ytadjcdfmppcpnaa", sum := "808ab779518a3816cf2979faf2ffdd3e91a90f9e7888e0786483471b14f62e45", checked := Try.checked }
namespace Rows
def none {H : Type} : Left H := { results := [], args := [] }

/-- 'waybilllaw7.SectEnds': WHATEVER THE INPUT: true; the input reads as it did. -/
def sectEndsSpec : ChangeSpec := { name := "sectEnds", fn := fun _ => fun
  | [d] => { results := [.lit (.bool true)], args := [d] }
  | _ => none }
def sectEndsRow : OpenClaim := { program := "ytadjcdfmppcpnaa", sum := "808ab779518a3816cf2979faf2ffdd3e91a90f9e7888e0786483471b14f62e45", func := "waybill/waybilllaw7.SectEnds", spec := "sectEnds", unfollowed := true, recurses := true, plainKeys := false, apart := false }
def SectEndsSaid : Prop := sectEndsRow.holds Try.pinned (OpenSpec.ofChange sectEndsSpec)

/-- ITS FALSE NEIGHBOUR: 'it returns false'. Refute it at one input. -/
def sectEndsWrong : ChangeSpec := { name := "sectEnds", fn := fun _ => fun
  | [d] => { results := [.lit (.bool false)], args := [d] }
  | _ => none }
def SectEndsWrongFalsely : Prop := sectEndsRow.holds Try.pinned (OpenSpec.ofChange sectEndsWrong)

/-- 'waybilllaw7.SectSyncs': WHATEVER THE INPUT: true; the input reads as it did. -/
def sectSyncsSpec : ChangeSpec := { name := "sectSyncs", fn := fun _ => fun
  | [d1, d2, d3] => { results := [.lit (.bool true)], args := [d1, d2, d3] }
  | _ => none }
def sectSyncsRow : OpenClaim := { program := "ytadjcdfmppcpnaa", sum := "808ab779518a3816cf2979faf2ffdd3e91a90f9e7888e0786483471b14f62e45", func := "waybill/waybilllaw7.SectSyncs", spec := "sectSyncs", unfollowed := true, recurses := true, plainKeys := false, apart := false }
def SectSyncsSaid : Prop := sectSyncsRow.holds Try.pinned (OpenSpec.ofChange sectSyncsSpec)

/-- ITS FALSE NEIGHBOUR: 'it returns false'. Refute it at one input. -/
def sectSyncsWrong : ChangeSpec := { name := "sectSyncs", fn := fun _ => fun
  | [d1, d2, d3] => { results := [.lit (.bool false)], args := [d1, d2, d3] }
  | _ => none }
def SectSyncsWrongFalsely : Prop := sectSyncsRow.holds Try.pinned (OpenSpec.ofChange sectSyncsWrong)

/-- 'waybilllaw7.SectDrops': WHATEVER THE INPUT: true; the input reads as it did. -/
def sectDropsSpec : ChangeSpec := { name := "sectDrops", fn := fun _ => fun
  | [d1, d2] => { results := [.lit (.bool true)], args := [d1, d2] }
  | _ => none }
def sectDropsRow : OpenClaim := { program := "ytadjcdfmppcpnaa", sum := "808ab779518a3816cf2979faf2ffdd3e91a90f9e7888e0786483471b14f62e45", func := "waybill/waybilllaw7.SectDrops", spec := "sectDrops", unfollowed := true, recurses := true, plainKeys := false, apart := false }
def SectDropsSaid : Prop := sectDropsRow.holds Try.pinned (OpenSpec.ofChange sectDropsSpec)

/-- ITS FALSE NEIGHBOUR: 'it returns false'. Refute it at one input. -/
def sectDropsWrong : ChangeSpec := { name := "sectDrops", fn := fun _ => fun
  | [d1, d2] => { results := [.lit (.bool false)], args := [d1, d2] }
  | _ => none }
def SectDropsWrongFalsely : Prop := sectDropsRow.holds Try.pinned (OpenSpec.ofChange sectDropsWrong)

/-- 'waybilllaw7.SectFull': WHATEVER THE INPUT: true; the input reads as it did. -/
def sectFullSpec : ChangeSpec := { name := "sectFull", fn := fun _ => fun
  | [d1, d2, d3] => { results := [.lit (.bool true)], args := [d1, d2, d3] }
  | _ => none }
def sectFullRow : OpenClaim := { program := "ytadjcdfmppcpnaa", sum := "808ab779518a3816cf2979faf2ffdd3e91a90f9e7888e0786483471b14f62e45", func := "waybill/waybilllaw7.SectFull", spec := "sectFull", unfollowed := true, recurses := true, plainKeys := false, apart := false }
def SectFullSaid : Prop := sectFullRow.holds Try.pinned (OpenSpec.ofChange sectFullSpec)

/-- ITS FALSE NEIGHBOUR: 'it returns false'. Refute it at one input. -/
def sectFullWrong : ChangeSpec := { name := "sectFull", fn := fun _ => fun
  | [d1, d2, d3] => { results := [.lit (.bool false)], args := [d1, d2, d3] }
  | _ => none }
def SectFullWrongFalsely : Prop := sectFullRow.holds Try.pinned (OpenSpec.ofChange sectFullWrong)

/-- 'waybilllaw7.SectFuse': WHATEVER THE INPUT: true; the input reads as it did. -/
def sectFuseSpec : ChangeSpec := { name := "sectFuse", fn := fun _ => fun
  | [d1, d2] => { results := [.lit (.bool true)], args := [d1, d2] }
  | _ => none }
def sectFuseRow : OpenClaim := { program := "ytadjcdfmppcpnaa", sum := "808ab779518a3816cf2979faf2ffdd3e91a90f9e7888e0786483471b14f62e45", func := "waybill/waybilllaw7.SectFuse", spec := "sectFuse", unfollowed := true, recurses := true, plainKeys := false, apart := false }
def SectFuseSaid : Prop := sectFuseRow.holds Try.pinned (OpenSpec.ofChange sectFuseSpec)

/-- ITS FALSE NEIGHBOUR: 'it returns false'. Refute it at one input. -/
def sectFuseWrong : ChangeSpec := { name := "sectFuse", fn := fun _ => fun
  | [d1, d2] => { results := [.lit (.bool false)], args := [d1, d2] }
  | _ => none }
def SectFuseWrongFalsely : Prop := sectFuseRow.holds Try.pinned (OpenSpec.ofChange sectFuseWrong)

/-- 'waybilllaw7.SectPlays': WHATEVER THE INPUT: true; the input reads as it did. -/
def sectPlaysSpec : ChangeSpec := { name := "sectPlays", fn := fun _ => fun
  | [d1, d2] => { results := [.lit (.bool true)], args := [d1, d2] }
  | _ => none }
def sectPlaysRow : OpenClaim := { program := "ytadjcdfmppcpnaa", sum := "808ab779518a3816cf2979faf2ffdd3e91a90f9e7888e0786483471b14f62e45", func := "waybill/waybilllaw7.SectPlays", spec := "sectPlays", inPlace := ["maps.clone"], unfollowed := true, recurses := true, plainKeys := false, apart := false }
def SectPlaysSaid : Prop := sectPlaysRow.holds Try.pinned (OpenSpec.ofChange sectPlaysSpec)

/-- ITS FALSE NEIGHBOUR: 'it returns false'. Refute it at one input. -/
def sectPlaysWrong : ChangeSpec := { name := "sectPlays", fn := fun _ => fun
  | [d1, d2] => { results := [.lit (.bool false)], args := [d1, d2] }
  | _ => none }
def SectPlaysWrongFalsely : Prop := sectPlaysRow.holds Try.pinned (OpenSpec.ofChange sectPlaysWrong)

/-- 'waybilllaw9.PageMeta': WHATEVER THE INPUT: true; the input reads as it did. -/
def pageMetaSpec : ChangeSpec := { name := "pageMeta", fn := fun _ => fun
  | [d1, d2] => { results := [.lit (.bool true)], args := [d1, d2] }
  | _ => none }
def pageMetaRow : OpenClaim := { program := "ytadjcdfmppcpnaa", sum := "808ab779518a3816cf2979faf2ffdd3e91a90f9e7888e0786483471b14f62e45", func := "waybill/waybilllaw9.PageMeta", spec := "pageMeta", unfollowed := true, recurses := true, plainKeys := false, apart := false }
def PageMetaSaid : Prop := pageMetaRow.holds Try.pinned (OpenSpec.ofChange pageMetaSpec)

/-- ITS FALSE NEIGHBOUR: 'it returns false'. Refute it at one input. -/
def pageMetaWrong : ChangeSpec := { name := "pageMeta", fn := fun _ => fun
  | [d1, d2] => { results := [.lit (.bool false)], args := [d1, d2] }
  | _ => none }
def PageMetaWrongFalsely : Prop := pageMetaRow.holds Try.pinned (OpenSpec.ofChange pageMetaWrong)

/-- 'waybilllaw9.PageRefuses': WHATEVER THE INPUT: true; the input reads as it did. -/
def pageRefusesSpec : ChangeSpec := { name := "pageRefuses", fn := fun _ => fun
  | [d1, d2, d3, d4] => { results := [.lit (.bool true)], args := [d1, d2, d3, d4] }
  | _ => none }
def pageRefusesRow : OpenClaim := { program := "ytadjcdfmppcpnaa", sum := "808ab779518a3816cf2979faf2ffdd3e91a90f9e7888e0786483471b14f62e45", func := "waybill/waybilllaw9.PageRefuses", spec := "pageRefuses", unfollowed := true, recurses := true, plainKeys := false, apart := false }
def PageRefusesSaid : Prop := pageRefusesRow.holds Try.pinned (OpenSpec.ofChange pageRefusesSpec)

/-- ITS FALSE NEIGHBOUR: 'it returns false'. Refute it at one input. -/
def pageRefusesWrong : ChangeSpec := { name := "pageRefuses", fn := fun _ => fun
  | [d1, d2, d3, d4] => { results := [.lit (.bool false)], args := [d1, d2, d3, d4] }
  | _ => none }
def PageRefusesWrongFalsely : Prop := pageRefusesRow.holds Try.pinned (OpenSpec.ofChange pageRefusesWrong)

/-- 'waybilllaw9.PageRoom': WHATEVER THE INPUT: true; the input reads as it did. -/
def pageRoomSpec : ChangeSpec := { name := "pageRoom", fn := fun _ => fun
  | [d] => { results := [.lit (.bool true)], args := [d] }
  | _ => none }
def pageRoomRow : OpenClaim := { program := "ytadjcdfmppcpnaa", sum := "808ab779518a3816cf2979faf2ffdd3e91a90f9e7888e0786483471b14f62e45", func := "waybill/waybilllaw9.PageRoom", spec := "pageRoom", unfollowed := true, recurses := true, plainKeys := false, apart := false }
def PageRoomSaid : Prop := pageRoomRow.holds Try.pinned (OpenSpec.ofChange pageRoomSpec)

/-- ITS FALSE NEIGHBOUR: 'it returns false'. Refute it at one input. -/
def pageRoomWrong : ChangeSpec := { name := "pageRoom", fn := fun _ => fun
  | [d] => { results := [.lit (.bool false)], args := [d] }
  | _ => none }
def PageRoomWrongFalsely : Prop := pageRoomRow.holds Try.pinned (OpenSpec.ofChange pageRoomWrong)

/-- 'waybilllaw9.PagePlays': WHATEVER THE INPUT: true; the input reads as it did. -/
def pagePlaysSpec : ChangeSpec := { name := "pagePlays", fn := fun _ => fun
  | [d] => { results := [.lit (.bool true)], args := [d] }
  | _ => none }
def pagePlaysRow : OpenClaim := { program := "ytadjcdfmppcpnaa", sum := "808ab779518a3816cf2979faf2ffdd3e91a90f9e7888e0786483471b14f62e45", func := "waybill/waybilllaw9.PagePlays", spec := "pagePlays", unfollowed := true, recurses := true, plainKeys := false, apart := false }
def PagePlaysSaid : Prop := pagePlaysRow.holds Try.pinned (OpenSpec.ofChange pagePlaysSpec)

/-- ITS FALSE NEIGHBOUR: 'it returns false'. Refute it at one input. -/
def pagePlaysWrong : ChangeSpec := { name := "pagePlays", fn := fun _ => fun
  | [d] => { results := [.lit (.bool false)], args := [d] }
  | _ => none }
def PagePlaysWrongFalsely : Prop := pagePlaysRow.holds Try.pinned (OpenSpec.ofChange pagePlaysWrong)

/-- 'waybilllaw9.PageTwice': WHATEVER THE INPUT: true; the input reads as it did. -/
def pageTwiceSpec : ChangeSpec := { name := "pageTwice", fn := fun _ => fun
  | [d] => { results := [.lit (.bool true)], args := [d] }
  | _ => none }
def pageTwiceRow : OpenClaim := { program := "ytadjcdfmppcpnaa", sum := "808ab779518a3816cf2979faf2ffdd3e91a90f9e7888e0786483471b14f62e45", func := "waybill/waybilllaw9.PageTwice", spec := "pageTwice", inPlace := ["maps.clone"], unfollowed := true, recurses := true, plainKeys := false, apart := false }
def PageTwiceSaid : Prop := pageTwiceRow.holds Try.pinned (OpenSpec.ofChange pageTwiceSpec)

/-- ITS FALSE NEIGHBOUR: 'it returns false'. Refute it at one input. -/
def pageTwiceWrong : ChangeSpec := { name := "pageTwice", fn := fun _ => fun
  | [d] => { results := [.lit (.bool false)], args := [d] }
  | _ => none }
def PageTwiceWrongFalsely : Prop := pageTwiceRow.holds Try.pinned (OpenSpec.ofChange pageTwiceWrong)

/-- 'waybilllaw9.PageCrash': WHATEVER THE INPUT: true; the input reads as it did. -/
def pageCrashSpec : ChangeSpec := { name := "pageCrash", fn := fun _ => fun
  | [d1, d2, d3] => { results := [.lit (.bool true)], args := [d1, d2, d3] }
  | _ => none }
def pageCrashRow : OpenClaim := { program := "ytadjcdfmppcpnaa", sum := "808ab779518a3816cf2979faf2ffdd3e91a90f9e7888e0786483471b14f62e45", func := "waybill/waybilllaw9.PageCrash", spec := "pageCrash", unfollowed := true, recurses := true, plainKeys := false, apart := false }
def PageCrashSaid : Prop := pageCrashRow.holds Try.pinned (OpenSpec.ofChange pageCrashSpec)

/-- ITS FALSE NEIGHBOUR: 'it returns false'. Refute it at one input. -/
def pageCrashWrong : ChangeSpec := { name := "pageCrash", fn := fun _ => fun
  | [d1, d2, d3] => { results := [.lit (.bool false)], args := [d1, d2, d3] }
  | _ => none }
def PageCrashWrongFalsely : Prop := pageCrashRow.holds Try.pinned (OpenSpec.ofChange pageCrashWrong)

/-- 'waybilllaw8.JourGaps': WHATEVER THE INPUT: true; the input reads as it did. -/
def jourGapsSpec : ChangeSpec := { name := "jourGaps", fn := fun _ => fun
  | [d1, d2, d3] => { results := [.lit (.bool true)], args := [d1, d2, d3] }
  | _ => none }
def jourGapsRow : OpenClaim := { program := "ytadjcdfmppcpnaa", sum := "808ab779518a3816cf2979faf2ffdd3e91a90f9e7888e0786483471b14f62e45", func := "waybill/waybilllaw8.JourGaps", spec := "jourGaps", unfollowed := true, recurses := true, plainKeys := false, apart := false }
def JourGapsSaid : Prop := jourGapsRow.holds Try.pinned (OpenSpec.ofChange jourGapsSpec)

/-- ITS FALSE NEIGHBOUR: 'it returns false'. Refute it at one input. -/
def jourGapsWrong : ChangeSpec := { name := "jourGaps", fn := fun _ => fun
  | [d1, d2, d3] => { results := [.lit (.bool false)], args := [d1, d2, d3] }
  | _ => none }
def JourGapsWrongFalsely : Prop := jourGapsRow.holds Try.pinned (OpenSpec.ofChange jourGapsWrong)

/-- 'waybilllaw8.JourNeeds': WHATEVER THE INPUT: true; the input reads as it did. -/
def jourNeedsSpec : ChangeSpec := { name := "jourNeeds", fn := fun _ => fun
  | [d1, d2, d3] => { results := [.lit (.bool true)], args := [d1, d2, d3] }
  | _ => none }
def jourNeedsRow : OpenClaim := { program := "ytadjcdfmppcpnaa", sum := "808ab779518a3816cf2979faf2ffdd3e91a90f9e7888e0786483471b14f62e45", func := "waybill/waybilllaw8.JourNeeds", spec := "jourNeeds", unfollowed := true, recurses := true, plainKeys := false, apart := false }
def JourNeedsSaid : Prop := jourNeedsRow.holds Try.pinned (OpenSpec.ofChange jourNeedsSpec)

/-- ITS FALSE NEIGHBOUR: 'it returns false'. Refute it at one input. -/
def jourNeedsWrong : ChangeSpec := { name := "jourNeeds", fn := fun _ => fun
  | [d1, d2, d3] => { results := [.lit (.bool false)], args := [d1, d2, d3] }
  | _ => none }
def JourNeedsWrongFalsely : Prop := jourNeedsRow.holds Try.pinned (OpenSpec.ofChange jourNeedsWrong)

/-- 'waybilllaw8.JourRoom': WHATEVER THE INPUT: true; the input reads as it did. -/
def jourRoomSpec : ChangeSpec := { name := "jourRoom", fn := fun _ => fun
  | [d1, d2] => { results := [.lit (.bool true)], args := [d1, d2] }
  | _ => none }
def jourRoomRow : OpenClaim := { program := "ytadjcdfmppcpnaa", sum := "808ab779518a3816cf2979faf2ffdd3e91a90f9e7888e0786483471b14f62e45", func := "waybill/waybilllaw8.JourRoom", spec := "jourRoom", unfollowed := true, recurses := true, plainKeys := false, apart := false }
def JourRoomSaid : Prop := jourRoomRow.holds Try.pinned (OpenSpec.ofChange jourRoomSpec)

/-- ITS FALSE NEIGHBOUR: 'it returns false'. Refute it at one input. -/
def jourRoomWrong : ChangeSpec := { name := "jourRoom", fn := fun _ => fun
  | [d1, d2] => { results := [.lit (.bool false)], args := [d1, d2] }
  | _ => none }
def JourRoomWrongFalsely : Prop := jourRoomRow.holds Try.pinned (OpenSpec.ofChange jourRoomWrong)

/-- 'waybilllaw8.JourTells': WHATEVER THE INPUT: true; the input reads as it did. -/
def jourTellsSpec : ChangeSpec := { name := "jourTells", fn := fun _ => fun
  | [d] => { results := [.lit (.bool true)], args := [d] }
  | _ => none }
def jourTellsRow : OpenClaim := { program := "ytadjcdfmppcpnaa", sum := "808ab779518a3816cf2979faf2ffdd3e91a90f9e7888e0786483471b14f62e45", func := "waybill/waybilllaw8.JourTells", spec := "jourTells", unfollowed := true, recurses := true, plainKeys := false, apart := false }
def JourTellsSaid : Prop := jourTellsRow.holds Try.pinned (OpenSpec.ofChange jourTellsSpec)

/-- ITS FALSE NEIGHBOUR: 'it returns false'. Refute it at one input. -/
def jourTellsWrong : ChangeSpec := { name := "jourTells", fn := fun _ => fun
  | [d] => { results := [.lit (.bool false)], args := [d] }
  | _ => none }
def JourTellsWrongFalsely : Prop := jourTellsRow.holds Try.pinned (OpenSpec.ofChange jourTellsWrong)

/-- 'waybilllaw8.JourFiles': WHATEVER THE INPUT: true; the input reads as it did. -/
def jourFilesSpec : ChangeSpec := { name := "jourFiles", fn := fun _ => fun
  | [d1, d2] => { results := [.lit (.bool true)], args := [d1, d2] }
  | _ => none }
def jourFilesRow : OpenClaim := { program := "ytadjcdfmppcpnaa", sum := "808ab779518a3816cf2979faf2ffdd3e91a90f9e7888e0786483471b14f62e45", func := "waybill/waybilllaw8.JourFiles", spec := "jourFiles", unfollowed := true, recurses := true, plainKeys := false, apart := false }
def JourFilesSaid : Prop := jourFilesRow.holds Try.pinned (OpenSpec.ofChange jourFilesSpec)

/-- ITS FALSE NEIGHBOUR: 'it returns false'. Refute it at one input. -/
def jourFilesWrong : ChangeSpec := { name := "jourFiles", fn := fun _ => fun
  | [d1, d2] => { results := [.lit (.bool false)], args := [d1, d2] }
  | _ => none }
def JourFilesWrongFalsely : Prop := jourFilesRow.holds Try.pinned (OpenSpec.ofChange jourFilesWrong)

/-- 'waybilllaw8.JourCrash': WHATEVER THE INPUT: true; the input reads as it did. -/
def jourCrashSpec : ChangeSpec := { name := "jourCrash", fn := fun _ => fun
  | [d1, d2, d3] => { results := [.lit (.bool true)], args := [d1, d2, d3] }
  | _ => none }
def jourCrashRow : OpenClaim := { program := "ytadjcdfmppcpnaa", sum := "808ab779518a3816cf2979faf2ffdd3e91a90f9e7888e0786483471b14f62e45", func := "waybill/waybilllaw8.JourCrash", spec := "jourCrash", unfollowed := true, recurses := true, plainKeys := false, apart := false }
def JourCrashSaid : Prop := jourCrashRow.holds Try.pinned (OpenSpec.ofChange jourCrashSpec)

/-- ITS FALSE NEIGHBOUR: 'it returns false'. Refute it at one input. -/
def jourCrashWrong : ChangeSpec := { name := "jourCrash", fn := fun _ => fun
  | [d1, d2, d3] => { results := [.lit (.bool false)], args := [d1, d2, d3] }
  | _ => none }
def JourCrashWrongFalsely : Prop := jourCrashRow.holds Try.pinned (OpenSpec.ofChange jourCrashWrong)

/- THE SECOND FORM. 'bulk': how many values and letters a reading holds, each counted each time it is reached (what is shared counts as often as it is met; a slice's spare places count too). A statement '..UptoSaid' is the law's where the arguments, and the package variables that the reading takes, are together of bulk at most 1048576: NARROWER than '..Said'. Prove '..Said' where nothing that the law and all that it calls make is longer than what came in: it says more and counts as full. Else prove '..UptoSaid'. A law counts once. -/
mutual
def uptoBulk {H : Type} : DataW H → Nat
  | .lit (.string bytes) => bytes.length + 1
  | .lit _ => 1
  | .nil => 1
  | .ptr d => uptoBulk d + 1
  | .slice elems spare => uptoBulkAll elems + uptoBulkAll spare + 1
  | .agg parts => uptoBulkAll parts + 1
  | .iface _ d => uptoBulk d + 1
  | .map entries => uptoBulkEntries entries + 1
  | .held _ => 1
def uptoBulkAll {H : Type} : List (DataW H) → Nat
  | [] => 0
  | d :: r => uptoBulk d + uptoBulkAll r
def uptoBulkEntries {H : Type} : List (Lit × DataW H) → Nat
  | [] => 0
  | x :: r => uptoBulkEntry x + uptoBulkEntries r
def uptoBulkEntry {H : Type} : Lit × DataW H → Nat
  | (.string bytes, d) => bytes.length + uptoBulk d + 1
  | (_, d) => uptoBulk d + 1
 end
def uptoSmall : (H : Type) → List (DataW H) → Bool := fun _ ds => decide (uptoBulkAll ds ≤ 1048576)
def OpenSpec.upto (s : _root_.Go.ChangeSpec) : _root_.Go.OpenSpec := { _root_.Go.OpenSpec.ofChange s with cond := some uptoSmall }

/-- 'waybilllaw7.SectEnds', WHERE WHAT IT READS IS OF BULK AT MOST 1048576: true; the input reads as it did. -/
def sectEndsUptoRow : OpenClaim := { program := "ytadjcdfmppcpnaa", sum := "808ab779518a3816cf2979faf2ffdd3e91a90f9e7888e0786483471b14f62e45", func := "waybill/waybilllaw7.SectEnds", spec := "sectEnds", unfollowed := true, recurses := true, plainKeys := false, apart := false, narrowed := true }
def SectEndsUptoSaid : Prop := sectEndsUptoRow.holds Try.pinned (OpenSpec.upto sectEndsSpec)

/-- 'waybilllaw7.SectSyncs', WHERE WHAT IT READS IS OF BULK AT MOST 1048576: true; the input reads as it did. -/
def sectSyncsUptoRow : OpenClaim := { program := "ytadjcdfmppcpnaa", sum := "808ab779518a3816cf2979faf2ffdd3e91a90f9e7888e0786483471b14f62e45", func := "waybill/waybilllaw7.SectSyncs", spec := "sectSyncs", unfollowed := true, recurses := true, plainKeys := false, apart := false, narrowed := true }
def SectSyncsUptoSaid : Prop := sectSyncsUptoRow.holds Try.pinned (OpenSpec.upto sectSyncsSpec)

/-- 'waybilllaw7.SectDrops', WHERE WHAT IT READS IS OF BULK AT MOST 1048576: true; the input reads as it did. -/
def sectDropsUptoRow : OpenClaim := { program := "ytadjcdfmppcpnaa", sum := "808ab779518a3816cf2979faf2ffdd3e91a90f9e7888e0786483471b14f62e45", func := "waybill/waybilllaw7.SectDrops", spec := "sectDrops", unfollowed := true, recurses := true, plainKeys := false, apart := false, narrowed := true }
def SectDropsUptoSaid : Prop := sectDropsUptoRow.holds Try.pinned (OpenSpec.upto sectDropsSpec)

/-- 'waybilllaw7.SectFull', WHERE WHAT IT READS IS OF BULK AT MOST 1048576: true; the input reads as it did. -/
def sectFullUptoRow : OpenClaim := { program := "ytadjcdfmppcpnaa", sum := "808ab779518a3816cf2979faf2ffdd3e91a90f9e7888e0786483471b14f62e45", func := "waybill/waybilllaw7.SectFull", spec := "sectFull", unfollowed := true, recurses := true, plainKeys := false, apart := false, narrowed := true }
def SectFullUptoSaid : Prop := sectFullUptoRow.holds Try.pinned (OpenSpec.upto sectFullSpec)

/-- 'waybilllaw7.SectFuse', WHERE WHAT IT READS IS OF BULK AT MOST 1048576: true; the input reads as it did. -/
def sectFuseUptoRow : OpenClaim := { program := "ytadjcdfmppcpnaa", sum := "808ab779518a3816cf2979faf2ffdd3e91a90f9e7888e0786483471b14f62e45", func := "waybill/waybilllaw7.SectFuse", spec := "sectFuse", unfollowed := true, recurses := true, plainKeys := false, apart := false, narrowed := true }
def SectFuseUptoSaid : Prop := sectFuseUptoRow.holds Try.pinned (OpenSpec.upto sectFuseSpec)

/-- 'waybilllaw7.SectPlays', WHERE WHAT IT READS IS OF BULK AT MOST 1048576: true; the input reads as it did. -/
def sectPlaysUptoRow : OpenClaim := { program := "ytadjcdfmppcpnaa", sum := "808ab779518a3816cf2979faf2ffdd3e91a90f9e7888e0786483471b14f62e45", func := "waybill/waybilllaw7.SectPlays", spec := "sectPlays", inPlace := ["maps.clone"], unfollowed := true, recurses := true, plainKeys := false, apart := false, narrowed := true }
def SectPlaysUptoSaid : Prop := sectPlaysUptoRow.holds Try.pinned (OpenSpec.upto sectPlaysSpec)

/-- 'waybilllaw9.PageMeta', WHERE WHAT IT READS IS OF BULK AT MOST 1048576: true; the input reads as it did. -/
def pageMetaUptoRow : OpenClaim := { program := "ytadjcdfmppcpnaa", sum := "808ab779518a3816cf2979faf2ffdd3e91a90f9e7888e0786483471b14f62e45", func := "waybill/waybilllaw9.PageMeta", spec := "pageMeta", unfollowed := true, recurses := true, plainKeys := false, apart := false, narrowed := true }
def PageMetaUptoSaid : Prop := pageMetaUptoRow.holds Try.pinned (OpenSpec.upto pageMetaSpec)

/-- 'waybilllaw9.PageRefuses', WHERE WHAT IT READS IS OF BULK AT MOST 1048576: true; the input reads as it did. -/
def pageRefusesUptoRow : OpenClaim := { program := "ytadjcdfmppcpnaa", sum := "808ab779518a3816cf2979faf2ffdd3e91a90f9e7888e0786483471b14f62e45", func := "waybill/waybilllaw9.PageRefuses", spec := "pageRefuses", unfollowed := true, recurses := true, plainKeys := false, apart := false, narrowed := true }
def PageRefusesUptoSaid : Prop := pageRefusesUptoRow.holds Try.pinned (OpenSpec.upto pageRefusesSpec)

/-- 'waybilllaw9.PageRoom', WHERE WHAT IT READS IS OF BULK AT MOST 1048576: true; the input reads as it did. -/
def pageRoomUptoRow : OpenClaim := { program := "ytadjcdfmppcpnaa", sum := "808ab779518a3816cf2979faf2ffdd3e91a90f9e7888e0786483471b14f62e45", func := "waybill/waybilllaw9.PageRoom", spec := "pageRoom", unfollowed := true, recurses := true, plainKeys := false, apart := false, narrowed := true }
def PageRoomUptoSaid : Prop := pageRoomUptoRow.holds Try.pinned (OpenSpec.upto pageRoomSpec)

/-- 'waybilllaw9.PagePlays', WHERE WHAT IT READS IS OF BULK AT MOST 1048576: true; the input reads as it did. -/
def pagePlaysUptoRow : OpenClaim := { program := "ytadjcdfmppcpnaa", sum := "808ab779518a3816cf2979faf2ffdd3e91a90f9e7888e0786483471b14f62e45", func := "waybill/waybilllaw9.PagePlays", spec := "pagePlays", unfollowed := true, recurses := true, plainKeys := false, apart := false, narrowed := true }
def PagePlaysUptoSaid : Prop := pagePlaysUptoRow.holds Try.pinned (OpenSpec.upto pagePlaysSpec)

/-- 'waybilllaw9.PageTwice', WHERE WHAT IT READS IS OF BULK AT MOST 1048576: true; the input reads as it did. -/
def pageTwiceUptoRow : OpenClaim := { program := "ytadjcdfmppcpnaa", sum := "808ab779518a3816cf2979faf2ffdd3e91a90f9e7888e0786483471b14f62e45", func := "waybill/waybilllaw9.PageTwice", spec := "pageTwice", inPlace := ["maps.clone"], unfollowed := true, recurses := true, plainKeys := false, apart := false, narrowed := true }
def PageTwiceUptoSaid : Prop := pageTwiceUptoRow.holds Try.pinned (OpenSpec.upto pageTwiceSpec)

/-- 'waybilllaw9.PageCrash', WHERE WHAT IT READS IS OF BULK AT MOST 1048576: true; the input reads as it did. -/
def pageCrashUptoRow : OpenClaim := { program := "ytadjcdfmppcpnaa", sum := "808ab779518a3816cf2979faf2ffdd3e91a90f9e7888e0786483471b14f62e45", func := "waybill/waybilllaw9.PageCrash", spec := "pageCrash", unfollowed := true, recurses := true, plainKeys := false, apart := false, narrowed := true }
def PageCrashUptoSaid : Prop := pageCrashUptoRow.holds Try.pinned (OpenSpec.upto pageCrashSpec)

/-- 'waybilllaw8.JourGaps', WHERE WHAT IT READS IS OF BULK AT MOST 1048576: true; the input reads as it did. -/
def jourGapsUptoRow : OpenClaim := { program := "ytadjcdfmppcpnaa", sum := "808ab779518a3816cf2979faf2ffdd3e91a90f9e7888e0786483471b14f62e45", func := "waybill/waybilllaw8.JourGaps", spec := "jourGaps", unfollowed := true, recurses := true, plainKeys := false, apart := false, narrowed := true }
def JourGapsUptoSaid : Prop := jourGapsUptoRow.holds Try.pinned (OpenSpec.upto jourGapsSpec)

/-- 'waybilllaw8.JourNeeds', WHERE WHAT IT READS IS OF BULK AT MOST 1048576: true; the input reads as it did. -/
def jourNeedsUptoRow : OpenClaim := { program := "ytadjcdfmppcpnaa", sum := "808ab779518a3816cf2979faf2ffdd3e91a90f9e7888e0786483471b14f62e45", func := "waybill/waybilllaw8.JourNeeds", spec := "jourNeeds", unfollowed := true, recurses := true, plainKeys := false, apart := false, narrowed := true }
def JourNeedsUptoSaid : Prop := jourNeedsUptoRow.holds Try.pinned (OpenSpec.upto jourNeedsSpec)

/-- 'waybilllaw8.JourRoom', WHERE WHAT IT READS IS OF BULK AT MOST 1048576: true; the input reads as it did. -/
def jourRoomUptoRow : OpenClaim := { program := "ytadjcdfmppcpnaa", sum := "808ab779518a3816cf2979faf2ffdd3e91a90f9e7888e0786483471b14f62e45", func := "waybill/waybilllaw8.JourRoom", spec := "jourRoom", unfollowed := true, recurses := true, plainKeys := false, apart := false, narrowed := true }
def JourRoomUptoSaid : Prop := jourRoomUptoRow.holds Try.pinned (OpenSpec.upto jourRoomSpec)

/-- 'waybilllaw8.JourTells', WHERE WHAT IT READS IS OF BULK AT MOST 1048576: true; the input reads as it did. -/
def jourTellsUptoRow : OpenClaim := { program := "ytadjcdfmppcpnaa", sum := "808ab779518a3816cf2979faf2ffdd3e91a90f9e7888e0786483471b14f62e45", func := "waybill/waybilllaw8.JourTells", spec := "jourTells", unfollowed := true, recurses := true, plainKeys := false, apart := false, narrowed := true }
def JourTellsUptoSaid : Prop := jourTellsUptoRow.holds Try.pinned (OpenSpec.upto jourTellsSpec)

/-- 'waybilllaw8.JourFiles', WHERE WHAT IT READS IS OF BULK AT MOST 1048576: true; the input reads as it did. -/
def jourFilesUptoRow : OpenClaim := { program := "ytadjcdfmppcpnaa", sum := "808ab779518a3816cf2979faf2ffdd3e91a90f9e7888e0786483471b14f62e45", func := "waybill/waybilllaw8.JourFiles", spec := "jourFiles", unfollowed := true, recurses := true, plainKeys := false, apart := false, narrowed := true }
def JourFilesUptoSaid : Prop := jourFilesUptoRow.holds Try.pinned (OpenSpec.upto jourFilesSpec)

/-- 'waybilllaw8.JourCrash', WHERE WHAT IT READS IS OF BULK AT MOST 1048576: true; the input reads as it did. -/
def jourCrashUptoRow : OpenClaim := { program := "ytadjcdfmppcpnaa", sum := "808ab779518a3816cf2979faf2ffdd3e91a90f9e7888e0786483471b14f62e45", func := "waybill/waybilllaw8.JourCrash", spec := "jourCrash", unfollowed := true, recurses := true, plainKeys := false, apart := false, narrowed := true }
def JourCrashUptoSaid : Prop := jourCrashUptoRow.holds Try.pinned (OpenSpec.upto jourCrashSpec)

end Rows
end Go.Proofs.Ytadjcdfmppcpnaa
