/- The seat's program for the plain reading: which functions have no body of their own. -/
import Derived.Test.YtplinpkklgfdfaaRg
import Derived.Test.YtplinpkklgfdfaaProg
namespace Go.Proofs.Ytplinpkklgfdfaa
open Go Go.Ev
theorem mixedOk : Try.prog.follows .mixedOrders = true := by kernel_rfl
def ext : Nat → Bool := fun g => Nat.beq g 0 || Nat.beq g 1 || Nat.beq g 18 || Nat.beq g 19 || Nat.beq g 20 || Nat.beq g 21 || Nat.beq g 22 || Nat.beq g 23 || Nat.beq g 24 || Nat.beq g 25 || Nat.beq g 26 || Nat.beq g 27 || Nat.beq g 28 || Nat.beq g 29 || Nat.beq g 30 || Nat.beq g 31 || Nat.beq g 32 || Nat.beq g 33
end Go.Proofs.Ytplinpkklgfdfaa
