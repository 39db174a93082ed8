/-
  No cell of these rows narrows 'for every input' (looked for: loops, veiled, ifaces, maps, wideKeys, modest, calm, conditions, laid).
  DERIVED. THE GIVEN ROWS OF THIS SEAT. 5 by the template 'for every input the law returns true; each argument reads behind the call as it read before'; 0 by the template 'total and deterministic' (their statements: YtdagjpiakbfjpaaTotals.lean).
  GIVEN WITH THE SEED: the statements are not yours to turn. If you find one false, say at which input.
  Laid BY PROGRAM, IN A SANDBOX (cutbox-rows.mjs): the forced cells as the released guide's own fill.sh prints them over the translation 8a2ecb6bf7d1e7da… (all of the seat's roots in one cut). By AI agents, Wed Nov 11 2026. No macro, syntax, notation, axiom, sorry.
-/
import Derived.Test.YtdagjpiakbfjpaaChecked
import GoSem.Claim
import GoSem.ClaimJoined
import GoSem.ClaimMapViews
import Derived.JoinedTies
import Derived.KernelRfl
namespace Go.Proofs.Ytdagjpiakbfjpaa
/- THE CELL 'sum', in the pinned program and in every row, IS THE sha256 OF THE DUMP (.gsa) THAT YtdagjpiakbfjpaaProg.lean LOADS. Nothing in Lean hashes anything: it is a label: what it is worth is what the hold of that sum in a sandbox is worth. -/
noncomputable def Try.pinned : Pinned := { name := "ytdagjpiakbfjpaa", sum := "8a2ecb6bf7d1e7da71ff0741dcec9e888feba0180c2d2e1c0fc01e6711b3ce0c", checked := Try.checked }
namespace Rows
def none {H : Type} : Left H := { results := [], args := [] }

/-- 'rectolaw09.StackScopes': WHATEVER THE INPUT: true; the input reads as it did. -/
def stackScopesSpec : ChangeSpec := { name := "stackScopes", fn := fun _ => fun
  | [d1, d2] => { results := [.lit (.bool true)], args := [d1, d2] }
  | _ => none }
def stackScopesRow : OpenClaim := { program := "ytdagjpiakbfjpaa", sum := "8a2ecb6bf7d1e7da71ff0741dcec9e888feba0180c2d2e1c0fc01e6711b3ce0c", func := "recto/rectolaw09.StackScopes", spec := "stackScopes", inPlace := ["slices.overlaps[recto/stack.Entry]"], unfollowed := true, recurses := true, apart := false }
def StackScopesSaid : Prop := stackScopesRow.holds Try.pinned (OpenSpec.ofChange stackScopesSpec)

/-- ITS FALSE NEIGHBOUR: 'it returns false'. Refute it at one input. -/
def stackScopesWrong : ChangeSpec := { name := "stackScopes", fn := fun _ => fun
  | [d1, d2] => { results := [.lit (.bool false)], args := [d1, d2] }
  | _ => none }
def StackScopesWrongFalsely : Prop := stackScopesRow.holds Try.pinned (OpenSpec.ofChange stackScopesWrong)

/-- 'rectolaw09.StackFull': WHATEVER THE INPUT: true; the input reads as it did. -/
def stackFullSpec : ChangeSpec := { name := "stackFull", fn := fun _ => fun
  | [d1, d2] => { results := [.lit (.bool true)], args := [d1, d2] }
  | _ => none }
def stackFullRow : OpenClaim := { program := "ytdagjpiakbfjpaa", sum := "8a2ecb6bf7d1e7da71ff0741dcec9e888feba0180c2d2e1c0fc01e6711b3ce0c", func := "recto/rectolaw09.StackFull", spec := "stackFull", inPlace := ["slices.overlaps[recto/stack.Entry]"], unfollowed := true, recurses := true, apart := false }
def StackFullSaid : Prop := stackFullRow.holds Try.pinned (OpenSpec.ofChange stackFullSpec)

/-- ITS FALSE NEIGHBOUR: 'it returns false'. Refute it at one input. -/
def stackFullWrong : ChangeSpec := { name := "stackFull", fn := fun _ => fun
  | [d1, d2] => { results := [.lit (.bool false)], args := [d1, d2] }
  | _ => none }
def StackFullWrongFalsely : Prop := stackFullRow.holds Try.pinned (OpenSpec.ofChange stackFullWrong)

/-- 'rectolaw09.StackBack': WHATEVER THE INPUT: true; the input reads as it did. -/
def stackBackSpec : ChangeSpec := { name := "stackBack", fn := fun _ => fun
  | [d1, d2, d3] => { results := [.lit (.bool true)], args := [d1, d2, d3] }
  | _ => none }
def stackBackRow : OpenClaim := { program := "ytdagjpiakbfjpaa", sum := "8a2ecb6bf7d1e7da71ff0741dcec9e888feba0180c2d2e1c0fc01e6711b3ce0c", func := "recto/rectolaw09.StackBack", spec := "stackBack", inPlace := ["slices.overlaps[recto/stack.Entry]"], unfollowed := true, recurses := true, apart := false }
def StackBackSaid : Prop := stackBackRow.holds Try.pinned (OpenSpec.ofChange stackBackSpec)

/-- ITS FALSE NEIGHBOUR: 'it returns false'. Refute it at one input. -/
def stackBackWrong : ChangeSpec := { name := "stackBack", fn := fun _ => fun
  | [d1, d2, d3] => { results := [.lit (.bool false)], args := [d1, d2, d3] }
  | _ => none }
def StackBackWrongFalsely : Prop := stackBackRow.holds Try.pinned (OpenSpec.ofChange stackBackWrong)

/-- 'rectolaw09.StackSteps': WHATEVER THE INPUT: true; the input reads as it did. -/
def stackStepsSpec : ChangeSpec := { name := "stackSteps", fn := fun _ => fun
  | [d1, d2, d3] => { results := [.lit (.bool true)], args := [d1, d2, d3] }
  | _ => none }
def stackStepsRow : OpenClaim := { program := "ytdagjpiakbfjpaa", sum := "8a2ecb6bf7d1e7da71ff0741dcec9e888feba0180c2d2e1c0fc01e6711b3ce0c", func := "recto/rectolaw09.StackSteps", spec := "stackSteps", inPlace := ["slices.overlaps[recto/stack.Entry]"], unfollowed := true, recurses := true, apart := false }
def StackStepsSaid : Prop := stackStepsRow.holds Try.pinned (OpenSpec.ofChange stackStepsSpec)

/-- ITS FALSE NEIGHBOUR: 'it returns false'. Refute it at one input. -/
def stackStepsWrong : ChangeSpec := { name := "stackSteps", fn := fun _ => fun
  | [d1, d2, d3] => { results := [.lit (.bool false)], args := [d1, d2, d3] }
  | _ => none }
def StackStepsWrongFalsely : Prop := stackStepsRow.holds Try.pinned (OpenSpec.ofChange stackStepsWrong)

/-- 'rectolaw09.StackNil': WHATEVER THE INPUT: true; the input reads as it did. -/
def stackNilSpec : ChangeSpec := { name := "stackNil", fn := fun _ => fun
  | [d] => { results := [.lit (.bool true)], args := [d] }
  | _ => none }
def stackNilRow : OpenClaim := { program := "ytdagjpiakbfjpaa", sum := "8a2ecb6bf7d1e7da71ff0741dcec9e888feba0180c2d2e1c0fc01e6711b3ce0c", func := "recto/rectolaw09.StackNil", spec := "stackNil", inPlace := ["slices.overlaps[recto/stack.Entry]"], unfollowed := true, recurses := true, apart := false }
def StackNilSaid : Prop := stackNilRow.holds Try.pinned (OpenSpec.ofChange stackNilSpec)

/-- ITS FALSE NEIGHBOUR: 'it returns false'. Refute it at one input. -/
def stackNilWrong : ChangeSpec := { name := "stackNil", fn := fun _ => fun
  | [d] => { results := [.lit (.bool false)], args := [d] }
  | _ => none }
def StackNilWrongFalsely : Prop := stackNilRow.holds Try.pinned (OpenSpec.ofChange stackNilWrong)

/- THE SECOND FORM. 'bulk': how many values and letters a reading holds, each counted each time it is reached (what is shared counts as often as it is met; a slice's spare places count too). A statement '..UptoSaid' is the law's where the arguments, and the package variables that the reading takes, are together of bulk at most 1048576: NARROWER than '..Said'. Prove '..Said' where nothing that the law and all that it calls make is longer than what came in: it says more and counts as full. Else prove '..UptoSaid'. A law counts once. -/
mutual
def uptoBulk {H : Type} : DataW H → Nat
  | .lit (.string bytes) => bytes.length + 1
  | .lit _ => 1
  | .nil => 1
  | .ptr d => uptoBulk d + 1
  | .slice elems spare => uptoBulkAll elems + uptoBulkAll spare + 1
  | .agg parts => uptoBulkAll parts + 1
  | .iface _ d => uptoBulk d + 1
  | .map entries => uptoBulkEntries entries + 1
  | .held _ => 1
def uptoBulkAll {H : Type} : List (DataW H) → Nat
  | [] => 0
  | d :: r => uptoBulk d + uptoBulkAll r
def uptoBulkEntries {H : Type} : List (Lit × DataW H) → Nat
  | [] => 0
  | x :: r => uptoBulkEntry x + uptoBulkEntries r
def uptoBulkEntry {H : Type} : Lit × DataW H → Nat
  | (.string bytes, d) => bytes.length + uptoBulk d + 1
  | (_, d) => uptoBulk d + 1
 end
def uptoSmall : (H : Type) → List (DataW H) → Bool := fun _ ds => decide (uptoBulkAll ds ≤ 1048576)
def OpenSpec.upto (s : _root_.Go.ChangeSpec) : _root_.Go.OpenSpec := { _root_.Go.OpenSpec.ofChange s with cond := some uptoSmall }

/-- 'rectolaw09.StackScopes', WHERE WHAT IT READS IS OF BULK AT MOST 1048576: true; the input reads as it did. -/
def stackScopesUptoRow : OpenClaim := { program := "ytdagjpiakbfjpaa", sum := "8a2ecb6bf7d1e7da71ff0741dcec9e888feba0180c2d2e1c0fc01e6711b3ce0c", func := "recto/rectolaw09.StackScopes", spec := "stackScopes", inPlace := ["slices.overlaps[recto/stack.Entry]"], unfollowed := true, recurses := true, apart := false, narrowed := true }
def StackScopesUptoSaid : Prop := stackScopesUptoRow.holds Try.pinned (OpenSpec.upto stackScopesSpec)

/-- 'rectolaw09.StackFull', WHERE WHAT IT READS IS OF BULK AT MOST 1048576: true; the input reads as it did. -/
def stackFullUptoRow : OpenClaim := { program := "ytdagjpiakbfjpaa", sum := "8a2ecb6bf7d1e7da71ff0741dcec9e888feba0180c2d2e1c0fc01e6711b3ce0c", func := "recto/rectolaw09.StackFull", spec := "stackFull", inPlace := ["slices.overlaps[recto/stack.Entry]"], unfollowed := true, recurses := true, apart := false, narrowed := true }
def StackFullUptoSaid : Prop := stackFullUptoRow.holds Try.pinned (OpenSpec.upto stackFullSpec)

/-- 'rectolaw09.StackBack', WHERE WHAT IT READS IS OF BULK AT MOST 1048576: true; the input reads as it did. -/
def stackBackUptoRow : OpenClaim := { program := "ytdagjpiakbfjpaa", sum := "8a2ecb6bf7d1e7da71ff0741dcec9e888feba0180c2d2e1c0fc01e6711b3ce0c", func := "recto/rectolaw09.StackBack", spec := "stackBack", inPlace := ["slices.overlaps[recto/stack.Entry]"], unfollowed := true, recurses := true, apart := false, narrowed := true }
def StackBackUptoSaid : Prop := stackBackUptoRow.holds Try.pinned (OpenSpec.upto stackBackSpec)

/-- 'rectolaw09.StackSteps', WHERE WHAT IT READS IS OF BULK AT MOST 1048576: true; the input reads as it did. -/
def stackStepsUptoRow : OpenClaim := { program := "ytdagjpiakbfjpaa", sum := "8a2ecb6bf7d1e7da71ff0741dcec9e888feba0180c2d2e1c0fc01e6711b3ce0c", func := "recto/rectolaw09.StackSteps", spec := "stackSteps", inPlace := ["slices.overlaps[recto/stack.Entry]"], unfollowed := true, recurses := true, apart := false, narrowed := true }
def StackStepsUptoSaid : Prop := stackStepsUptoRow.holds Try.pinned (OpenSpec.upto stackStepsSpec)

/-- 'rectolaw09.StackNil', WHERE WHAT IT READS IS OF BULK AT MOST 1048576: true; the input reads as it did. -/
def stackNilUptoRow : OpenClaim := { program := "ytdagjpiakbfjpaa", sum := "8a2ecb6bf7d1e7da71ff0741dcec9e888feba0180c2d2e1c0fc01e6711b3ce0c", func := "recto/rectolaw09.StackNil", spec := "stackNil", inPlace := ["slices.overlaps[recto/stack.Entry]"], unfollowed := true, recurses := true, apart := false, narrowed := true }
def StackNilUptoSaid : Prop := stackNilUptoRow.holds Try.pinned (OpenSpec.upto stackNilSpec)

end Rows
end Go.Proofs.Ytdagjpiakbfjpaa
