/- The contracts of package margin. -/
import Derived.Test.YtodkhhanlhelnaaGrpA
import Derived.Deep.RegionHeld3
namespace Go.Proofs.Ytodkhhanlhelnaa
set_option linter.all false
open Go.RowKit
end Go.Proofs.Ytodkhhanlhelnaa
