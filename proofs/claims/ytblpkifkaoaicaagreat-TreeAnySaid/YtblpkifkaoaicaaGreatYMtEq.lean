import Derived.Test.YtblpkifkaoaicaaGreatYG1
import Derived.Test.YtblpkifkaoaicaaGreatQT
import Derived.BigFrame
/-! Two metas, compared. -/
namespace Go.Proofs.YtblpkifkaoaicaaGreat
open Go Go.RowKit Go.Maps Wb

instance (a b : Mt) : Decidable (a = b) := decidable_of_iff (a.gen = b.gen ∧ a.root = b.root ∧ a.count = b.count ∧ a.mark = b.mark) (by
  obtain ⟨a1, a2, a3, a4⟩ := a
  obtain ⟨b1, b2, b3, b4⟩ := b
  simp)
section
variable {P : Program} {w : World} {ops : Array Oper} {rest : List Oper} {o : Oper} {a : Act} {Q : Exit → Act → World → Prop}
end
end Go.Proofs.YtblpkifkaoaicaaGreat
