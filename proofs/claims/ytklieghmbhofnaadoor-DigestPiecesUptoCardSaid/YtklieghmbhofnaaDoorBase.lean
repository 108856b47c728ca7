/- The seat's program for the plain reading: which functions have no body of their own. -/
import Derived.Test.YtklieghmbhofnaaDoorRg
import Derived.Test.YtklieghmbhofnaaDoorProg
namespace Go.Proofs.YtklieghmbhofnaaDoor
open Go Go.Ev
theorem mixedOk : Tryd.prog.follows .mixedOrders = true := by kernel_rfl
def ext : Nat → Bool := fun g => Nat.beq g 0 || Nat.beq g 1 || Nat.beq g 41 || Nat.beq g 42 || Nat.beq g 43 || Nat.beq g 44 || Nat.beq g 45 || Nat.beq g 46 || Nat.beq g 47 || Nat.beq g 48 || Nat.beq g 49 || Nat.beq g 50 || Nat.beq g 51 || Nat.beq g 52 || Nat.beq g 53 || Nat.beq g 54 || Nat.beq g 55 || Nat.beq g 56 || Nat.beq g 57 || Nat.beq g 58 || Nat.beq g 59 || Nat.beq g 60 || Nat.beq g 61 || Nat.beq g 62 || Nat.beq g 63
end Go.Proofs.YtklieghmbhofnaaDoor
