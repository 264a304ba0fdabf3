/- The contracts of the reference's small functions: Price, Side, Ahead, Order, Rest, May; and of order.May. -/
import Derived.Test.YtbnjkcgkdpildaaOrder
import Derived.Test.YtbnjkcgkdpildaaQueue
namespace Go.Proofs.Ytbnjkcgkdpildaa
set_option linter.all false
open Go.RowKit
end Go.Proofs.Ytbnjkcgkdpildaa
