
import Derived.Test.YtgfajlaibgbdoaaGreatSpL
namespace Go.Proofs.YtgfajlaibgbdoaaGreat
open Go.RowKit

end Go.Proofs.YtgfajlaibgbdoaaGreat
