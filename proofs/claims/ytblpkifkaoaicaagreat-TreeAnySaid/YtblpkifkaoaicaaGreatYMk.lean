import Derived.Test.YtblpkifkaoaicaaGreatYKit
import Derived.OwnWalk
/-! make([]T, n), T of one cell. -/
namespace Wb
open Go Go.RowKit Go.Maps Go.MapKept Go.ChangeMaps
end Wb
