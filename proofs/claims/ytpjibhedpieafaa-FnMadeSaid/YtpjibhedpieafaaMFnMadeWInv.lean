/- Words of the print, as far as the law FnMade needs them. -/
import Derived.Test.YtpjibhedpieafaaMFnMadeWTab
namespace Go.Proofs.YtpjibhedpieafaaW.PrintLast
/-- Number i is listed too. -/
def up (b : Nat → Bool) (i : Nat) : Nat → Bool := fun j => if j = i then true else b j
end Go.Proofs.YtpjibhedpieafaaW.PrintLast
