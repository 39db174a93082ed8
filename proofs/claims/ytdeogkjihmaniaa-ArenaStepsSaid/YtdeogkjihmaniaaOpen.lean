/-
  The facts that every row of rectolaw11 shares.
  Written by an AI agent.
-/
import Derived.Test.YtdeogkjihmaniaaThree
import Derived.Lib.SmallJoins
import Derived.OpenShut
import Derived.ShutString
import Derived.ChangeOld
import Derived.SizedLaws
import Derived.ProofKit
import Derived.Carry
import Derived.WalkKit
namespace Go.Proofs.Ytdeogkjihmaniaa
open Go.ChangeShapes Go.WideShapes Go.Deep Go.RowKit
theorem own : ownKnob Try.prog.godebug = none := by kernel_rfl
end Go.Proofs.Ytdeogkjihmaniaa
