/-
  No cell of these rows narrows 'for every input' (looked for: loops, veiled, ifaces, maps, wideKeys, modest, calm, conditions, laid).
  DERIVED. THE GIVEN ROWS OF THIS SEAT. 4 by the template 'for every input the law returns true; each argument reads behind the call as it read before'; 0 by the template 'total and deterministic' (their statements: YtccfnhocjiehnaaTotals.lean).
  GIVEN WITH THE SEED: the statements are not yours to turn. If you find one false, say at which input.
  Laid BY PROGRAM, IN A SANDBOX (cutbox-rows.mjs): the forced cells as the released guide's own fill.sh prints them over the translation 7ae064c8b460fbb8… (all of the seat's roots in one cut). By AI agents, Wed Nov 11 2026. No macro, syntax, notation, axiom, sorry.
-/
import Derived.Test.YtccfnhocjiehnaaChecked
import GoSem.Claim
import GoSem.ClaimJoined
import GoSem.ClaimMapViews
import Derived.JoinedTies
import Derived.KernelRfl
namespace Go.Proofs.Ytccfnhocjiehnaa
/- THE CELL 'sum', in the pinned program and in every row, IS THE sha256 OF THE DUMP (.gsa) THAT YtccfnhocjiehnaaProg.lean LOADS. Nothing in Lean hashes anything: it is a label: what it is worth is what the hold of that sum in a sandbox is worth. -/
noncomputable def Try.pinned : Pinned := { name := "ytccfnhocjiehnaa", sum := "7ae064c8b460fbb806a00b4c94e0c972ea0371ae14ac5043482ceb4a52968207", checked := Try.checked }
namespace Rows
def none {H : Type} : Left H := { results := [], args := [] }

/-- 'glacierlaw12.RsLinear': WHATEVER THE INPUT: true; the input reads as it did. -/
def rsLinearSpec : ChangeSpec := { name := "rsLinear", fn := fun _ => fun
  | [d1, d2, d3, d4, d5] => { results := [.lit (.bool true)], args := [d1, d2, d3, d4, d5] }
  | _ => none }
def rsLinearRow : OpenClaim := { program := "ytccfnhocjiehnaa", sum := "7ae064c8b460fbb806a00b4c94e0c972ea0371ae14ac5043482ceb4a52968207", func := "glacier/glacierlaw12.RsLinear", spec := "rsLinear", unfollowed := true, recurses := true, apart := false }
def RsLinearSaid : Prop := rsLinearRow.holds Try.pinned (OpenSpec.ofChange rsLinearSpec)

/-- ITS FALSE NEIGHBOUR: 'it returns false'. Refute it at one input. -/
def rsLinearWrong : ChangeSpec := { name := "rsLinear", fn := fun _ => fun
  | [d1, d2, d3, d4, d5] => { results := [.lit (.bool false)], args := [d1, d2, d3, d4, d5] }
  | _ => none }
def RsLinearWrongFalsely : Prop := rsLinearRow.holds Try.pinned (OpenSpec.ofChange rsLinearWrong)

/-- 'glacierlaw12.RsSplits': WHATEVER THE INPUT: true; the input reads as it did. -/
def rsSplitsSpec : ChangeSpec := { name := "rsSplits", fn := fun _ => fun
  | [d1, d2, d3, d4] => { results := [.lit (.bool true)], args := [d1, d2, d3, d4] }
  | _ => none }
def rsSplitsRow : OpenClaim := { program := "ytccfnhocjiehnaa", sum := "7ae064c8b460fbb806a00b4c94e0c972ea0371ae14ac5043482ceb4a52968207", func := "glacier/glacierlaw12.RsSplits", spec := "rsSplits", unfollowed := true, recurses := true, apart := false }
def RsSplitsSaid : Prop := rsSplitsRow.holds Try.pinned (OpenSpec.ofChange rsSplitsSpec)

/-- ITS FALSE NEIGHBOUR: 'it returns false'. Refute it at one input. -/
def rsSplitsWrong : ChangeSpec := { name := "rsSplits", fn := fun _ => fun
  | [d1, d2, d3, d4] => { results := [.lit (.bool false)], args := [d1, d2, d3, d4] }
  | _ => none }
def RsSplitsWrongFalsely : Prop := rsSplitsRow.holds Try.pinned (OpenSpec.ofChange rsSplitsWrong)

/-- 'glacierlaw12.RsAny': WHATEVER THE INPUT: true; the input reads as it did. -/
def rsAnySpec : ChangeSpec := { name := "rsAny", fn := fun _ => fun
  | [d1, d2, d3, d4, d5] => { results := [.lit (.bool true)], args := [d1, d2, d3, d4, d5] }
  | _ => none }
def rsAnyRow : OpenClaim := { program := "ytccfnhocjiehnaa", sum := "7ae064c8b460fbb806a00b4c94e0c972ea0371ae14ac5043482ceb4a52968207", func := "glacier/glacierlaw12.RsAny", spec := "rsAny", unfollowed := true, recurses := true, apart := false }
def RsAnySaid : Prop := rsAnyRow.holds Try.pinned (OpenSpec.ofChange rsAnySpec)

/-- ITS FALSE NEIGHBOUR: 'it returns false'. Refute it at one input. -/
def rsAnyWrong : ChangeSpec := { name := "rsAny", fn := fun _ => fun
  | [d1, d2, d3, d4, d5] => { results := [.lit (.bool false)], args := [d1, d2, d3, d4, d5] }
  | _ => none }
def RsAnyWrongFalsely : Prop := rsAnyRow.holds Try.pinned (OpenSpec.ofChange rsAnyWrong)

/-- 'glacierlaw12.RsCodes': WHATEVER THE INPUT: true; the input reads as it did. -/
def rsCodesSpec : ChangeSpec := { name := "rsCodes", fn := fun _ => fun
  | [d1, d2, d3, d4, d5] => { results := [.lit (.bool true)], args := [d1, d2, d3, d4, d5] }
  | _ => none }
def rsCodesRow : OpenClaim := { program := "ytccfnhocjiehnaa", sum := "7ae064c8b460fbb806a00b4c94e0c972ea0371ae14ac5043482ceb4a52968207", func := "glacier/glacierlaw12.RsCodes", spec := "rsCodes", unfollowed := true, recurses := true, apart := false }
def RsCodesSaid : Prop := rsCodesRow.holds Try.pinned (OpenSpec.ofChange rsCodesSpec)

/-- ITS FALSE NEIGHBOUR: 'it returns false'. Refute it at one input. -/
def rsCodesWrong : ChangeSpec := { name := "rsCodes", fn := fun _ => fun
  | [d1, d2, d3, d4, d5] => { results := [.lit (.bool false)], args := [d1, d2, d3, d4, d5] }
  | _ => none }
def RsCodesWrongFalsely : Prop := rsCodesRow.holds Try.pinned (OpenSpec.ofChange rsCodesWrong)

/- THE SECOND FORM. 'bulk': how many values and letters a reading holds, each counted each time it is reached (what is shared counts as often as it is met; a slice's spare places count too). A statement '..UptoSaid' is the law's where the arguments, and the package variables that the reading takes, are together of bulk at most 1048576: NARROWER than '..Said'. Prove '..Said' where nothing that the law and all that it calls make is longer than what came in: it says more and counts as full. Else prove '..UptoSaid'. A law counts once. -/
mutual
def uptoBulk {H : Type} : DataW H → Nat
  | .lit (.string bytes) => bytes.length + 1
  | .lit _ => 1
  | .nil => 1
  | .ptr d => uptoBulk d + 1
  | .slice elems spare => uptoBulkAll elems + uptoBulkAll spare + 1
  | .agg parts => uptoBulkAll parts + 1
  | .iface _ d => uptoBulk d + 1
  | .map entries => uptoBulkEntries entries + 1
  | .held _ => 1
def uptoBulkAll {H : Type} : List (DataW H) → Nat
  | [] => 0
  | d :: r => uptoBulk d + uptoBulkAll r
def uptoBulkEntries {H : Type} : List (Lit × DataW H) → Nat
  | [] => 0
  | x :: r => uptoBulkEntry x + uptoBulkEntries r
def uptoBulkEntry {H : Type} : Lit × DataW H → Nat
  | (.string bytes, d) => bytes.length + uptoBulk d + 1
  | (_, d) => uptoBulk d + 1
 end
def uptoSmall : (H : Type) → List (DataW H) → Bool := fun _ ds => decide (uptoBulkAll ds ≤ 1048576)
def OpenSpec.upto (s : _root_.Go.ChangeSpec) : _root_.Go.OpenSpec := { _root_.Go.OpenSpec.ofChange s with cond := some uptoSmall }

/-- 'glacierlaw12.RsLinear', WHERE WHAT IT READS IS OF BULK AT MOST 1048576: true; the input reads as it did. -/
def rsLinearUptoRow : OpenClaim := { program := "ytccfnhocjiehnaa", sum := "7ae064c8b460fbb806a00b4c94e0c972ea0371ae14ac5043482ceb4a52968207", func := "glacier/glacierlaw12.RsLinear", spec := "rsLinear", unfollowed := true, recurses := true, apart := false, narrowed := true }
def RsLinearUptoSaid : Prop := rsLinearUptoRow.holds Try.pinned (OpenSpec.upto rsLinearSpec)

/-- 'glacierlaw12.RsSplits', WHERE WHAT IT READS IS OF BULK AT MOST 1048576: true; the input reads as it did. -/
def rsSplitsUptoRow : OpenClaim := { program := "ytccfnhocjiehnaa", sum := "7ae064c8b460fbb806a00b4c94e0c972ea0371ae14ac5043482ceb4a52968207", func := "glacier/glacierlaw12.RsSplits", spec := "rsSplits", unfollowed := true, recurses := true, apart := false, narrowed := true }
def RsSplitsUptoSaid : Prop := rsSplitsUptoRow.holds Try.pinned (OpenSpec.upto rsSplitsSpec)

/-- 'glacierlaw12.RsAny', WHERE WHAT IT READS IS OF BULK AT MOST 1048576: true; the input reads as it did. -/
def rsAnyUptoRow : OpenClaim := { program := "ytccfnhocjiehnaa", sum := "7ae064c8b460fbb806a00b4c94e0c972ea0371ae14ac5043482ceb4a52968207", func := "glacier/glacierlaw12.RsAny", spec := "rsAny", unfollowed := true, recurses := true, apart := false, narrowed := true }
def RsAnyUptoSaid : Prop := rsAnyUptoRow.holds Try.pinned (OpenSpec.upto rsAnySpec)

/-- 'glacierlaw12.RsCodes', WHERE WHAT IT READS IS OF BULK AT MOST 1048576: true; the input reads as it did. -/
def rsCodesUptoRow : OpenClaim := { program := "ytccfnhocjiehnaa", sum := "7ae064c8b460fbb806a00b4c94e0c972ea0371ae14ac5043482ceb4a52968207", func := "glacier/glacierlaw12.RsCodes", spec := "rsCodes", unfollowed := true, recurses := true, apart := false, narrowed := true }
def RsCodesUptoSaid : Prop := rsCodesUptoRow.holds Try.pinned (OpenSpec.upto rsCodesSpec)

end Rows
end Go.Proofs.Ytccfnhocjiehnaa
