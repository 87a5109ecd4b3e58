/- More helpers of worldmintref01: Bound, Has. -/
import Derived.Test.YtldmokjpfnakkaaRefHelp
namespace Go.Proofs.Ytldmokjpfnakkaa
open Go.RowKit

end Go.Proofs.Ytldmokjpfnakkaa
