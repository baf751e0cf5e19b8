import Derived.Test.YtadjcdfmppcpnaaDoorChecked
import Derived.WalkKit
import Derived.Outline
import Derived.Deep.QuietTactic
import Derived.BigQuiet
import Derived.WalkLawsBesides
import Derived.WalkSpells
import Derived.Lib.Hide
/-! Layer 0: the names' numbers: the texts of errors. -/
namespace Go.Proofs.YtadjcdfmppcpnaaDoor
open Go Go.RowKit
set_option maxRecDepth 100000 in
set_option maxHeartbeats 4000000 in
theorem err16 (w : World) : Calls Tryd.prog 5 #[.int .i64 16] w fun e w' => e = .returned (.string ⟨#[101, 114, 114, 111, 114, 32, 49, 54]⟩) ∧ w = w' := by
  go_enter Tryd.func5, Tryd.ntmps5
  go_wp2
  go_ret
  exact ⟨by rfl, rfl⟩
set_option maxRecDepth 100000 in
set_option maxHeartbeats 4000000 in
theorem err0 (w : World) : Calls Tryd.prog 5 #[.int .i64 0] w fun e w' => e = .returned (.string ⟨#[101, 114, 114, 111, 114, 32, 48]⟩) ∧ w = w' := by
  go_enter Tryd.func5, Tryd.ntmps5
  go_wp2
  go_ret
  exact ⟨by rfl, rfl⟩
end Go.Proofs.YtadjcdfmppcpnaaDoor
