/- Contracts of slices.Chunk, slices.Backward, octet.Of, octet.Put. -/
import Derived.Test.YtpbjbhcejgnhiaaDoorHI
import Derived.Test.YtpbjbhcejgnhiaaDoorHS
import Derived.Test.YtpbjbhcejgnhiaaDoorKKit
import Derived.RangeFuncRecord
set_option linter.unusedVariables false
set_option linter.unusedSimpArgs false
namespace Go.Proofs.YtpbjbhcejgnhiaaDoor.V
open Go Go.Proofs Go.RowKit

end Go.Proofs.YtpbjbhcejgnhiaaDoor.V
