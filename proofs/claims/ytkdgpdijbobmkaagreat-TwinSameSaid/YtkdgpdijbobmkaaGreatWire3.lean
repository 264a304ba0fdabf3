/- The contracts of package wire: Command. -/
import Derived.Test.YtkdgpdijbobmkaaGreatWire2
namespace Go.Proofs.YtkdgpdijbobmkaaGreat
set_option linter.all false
open Go.RowKit
end Go.Proofs.YtkdgpdijbobmkaaGreat
