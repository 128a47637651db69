/- Words of the print, as far as the law FnSlopes needs them. -/
import Derived.Test.YtpjibhedpieafaaMFnSlopesWTab
set_option linter.unusedVariables false
set_option linter.unusedSimpArgs false
namespace Go.Proofs.YtpjibhedpieafaaW.PrintLast
/-- Number i is listed too. -/
def up (b : Nat → Bool) (i : Nat) : Nat → Bool := fun j => if j = i then true else b j
end Go.Proofs.YtpjibhedpieafaaW.PrintLast
