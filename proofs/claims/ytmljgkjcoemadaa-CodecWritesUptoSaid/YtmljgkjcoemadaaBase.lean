/- The seat's program for the plain reading: which functions have no body of their own. -/
import Derived.Test.YtmljgkjcoemadaaRg
import Derived.Test.YtmljgkjcoemadaaProg
namespace Go.Proofs.Ytmljgkjcoemadaa
open Go Go.Ev
theorem mixedOk : Try.prog.follows .mixedOrders = true := by kernel_rfl
def ext : Nat → Bool := fun g => Nat.beq g 0 || Nat.beq g 1 || Nat.beq g 24 || Nat.beq g 25 || Nat.beq g 26 || Nat.beq g 27 || Nat.beq g 28 || Nat.beq g 29 || Nat.beq g 30 || Nat.beq g 31 || Nat.beq g 32 || Nat.beq g 33 || Nat.beq g 34 || Nat.beq g 35 || Nat.beq g 36 || Nat.beq g 37 || Nat.beq g 38 || Nat.beq g 39
end Go.Proofs.Ytmljgkjcoemadaa
