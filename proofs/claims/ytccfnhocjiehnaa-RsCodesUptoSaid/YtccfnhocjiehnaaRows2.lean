/- gf's Rows. -/
import Derived.Test.YtccfnhocjiehnaaTimes
namespace Go.Proofs.Ytccfnhocjiehnaa
open Go.RowKit
set_option linter.unusedVariables false
set_option linter.unusedSimpArgs false

def rowBad (n : Nat) (x : Int) : Bool := decide (x < 0 ∨ (n : Int) ≤ x)
def rowsOk (n kn : Nat) (L : Nat → Nat) (f : Nat → Int) : Bool := rightB n L && (decide (1 ≤ kn ∧ kn ≤ 255) && !anyB (fun i => rowBad n (f i)) kn)
def rowsF (F : Nat → Nat → Gf.E) (f : Nat → Int) : Nat → Nat → Gf.E := fun i j => F (f i).toNat j

end Go.Proofs.Ytccfnhocjiehnaa
