/- Loops that look through a list: no function of the program in sight. -/
import Derived.Test.YtgaecldkiijmpaaPuSeg
import Derived.Test.YtgaecldkiijmpaaPuPairs
set_option linter.unusedSimpArgs false
set_option linter.unusedVariables false
namespace Go.Proofs.Ytgaecldkiijmpaa
open Go.RowKit

end Go.Proofs.Ytgaecldkiijmpaa
