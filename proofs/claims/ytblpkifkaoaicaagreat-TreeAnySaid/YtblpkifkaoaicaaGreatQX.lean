/- Lemmas and contracts of functions, joined. -/
import Derived.Test.YtblpkifkaoaicaaGreatYS11
import Derived.Test.YtblpkifkaoaicaaGreatQP
namespace Go.Proofs.YtblpkifkaoaicaaGreat
open Go Go.RowKit Go.Maps Wb

end Go.Proofs.YtblpkifkaoaicaaGreat

namespace Go.Proofs.YtblpkifkaoaicaaGreat
open Go Go.RowKit Go.Maps Wb

theorem nmOk_small {n : Nm} (h : n.length ≤ 60) : nmOk n := Nat.le_trans h (by decide)
/-- What a call of New came to. -/
theorem new_any (w : World) (m : Int) {R : Ending → World → Prop} (h : ∀ (h : DH) (w' : World), isDev w' h (Dv.new m) → Keeps w w' (fun _ => False) → (∀ i, h.S i → w.heap.size ≤ i) → R (.returned (.pointer (some ⟨h.p, 0, none⟩))) w') : Calls Tryz.prog 23 #[.int .i64 m] w R :=
  (new_calls w m).mono fun _ w' ⟨hh, he, hd, hk, hS⟩ => he ▸ h hh w' hd hk hS

end Go.Proofs.YtblpkifkaoaicaaGreat
