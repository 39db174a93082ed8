/-
  No cell of these rows narrows 'for every input' (looked for: loops, veiled, ifaces, maps, wideKeys, modest, calm, conditions, laid).
  DERIVED. THE GIVEN ROWS OF THIS SEAT. 6 by the template 'for every input the law returns true; each argument reads behind the call as it read before'; 0 by the template 'total and deterministic' (their statements: YtjopfgdgmniigaaTotals.lean).
  GIVEN WITH THE SEED: the statements are not yours to turn. If you find one false, say at which input.
  Laid BY PROGRAM, IN A SANDBOX (cutbox-rows.mjs): the forced cells as the released guide's own fill.sh prints them over the translation 39d8fd93d7cc5d3f… (all of the seat's roots in one cut). By AI agents, Wed Nov 11 2026. No macro, syntax, notation, axiom, sorry.
-/
import Derived.Test.YtjopfgdgmniigaaChecked
import GoSem.Claim
import GoSem.ClaimJoined
import GoSem.ClaimMapViews
import Derived.JoinedTies
import Derived.KernelRfl
namespace Go.Proofs.Ytjopfgdgmniigaa
/- THE CELL 'sum', in the pinned program and in every row, IS THE sha256 OF THE DUMP (.gsa) THAT YtjopfgdgmniigaaProg.lean LOADS. Nothing in Lean hashes anything: it is a label: what it is worth is what the hold of that sum in a sandbox is worth. -/
noncomputable def Try.pinned : Pinned := { name := "ytjopfgdgmniigaa", sum := "39d8fd93d7cc5d3f49a27a6a877380453834825236cedd3d30c693664363d554", checked := Try.checked }
namespace Rows
def none {H : Type} : Left H := { results := [], args := [] }

/-- 'rectolaw10.ActiveSteps': WHATEVER THE INPUT: true; the input reads as it did. -/
def activeStepsSpec : ChangeSpec := { name := "activeSteps", fn := fun _ => fun
  | [d1, d2, d3] => { results := [.lit (.bool true)], args := [d1, d2, d3] }
  | _ => none }
def activeStepsRow : OpenClaim := { program := "ytjopfgdgmniigaa", sum := "39d8fd93d7cc5d3f49a27a6a877380453834825236cedd3d30c693664363d554", func := "recto/rectolaw10.ActiveSteps", spec := "activeSteps", inPlace := ["slices.overlaps[recto/active.Entry]"], unfollowed := true, recurses := true, plainKeys := false, apart := false }
def ActiveStepsSaid : Prop := activeStepsRow.holds Try.pinned (OpenSpec.ofChange activeStepsSpec)

/-- ITS FALSE NEIGHBOUR: 'it returns false'. Refute it at one input. -/
def activeStepsWrong : ChangeSpec := { name := "activeSteps", fn := fun _ => fun
  | [d1, d2, d3] => { results := [.lit (.bool false)], args := [d1, d2, d3] }
  | _ => none }
def ActiveStepsWrongFalsely : Prop := activeStepsRow.holds Try.pinned (OpenSpec.ofChange activeStepsWrong)

/-- 'rectolaw10.ActiveNil': WHATEVER THE INPUT: true; the input reads as it did. -/
def activeNilSpec : ChangeSpec := { name := "activeNil", fn := fun _ => fun
  | [d] => { results := [.lit (.bool true)], args := [d] }
  | _ => none }
def activeNilRow : OpenClaim := { program := "ytjopfgdgmniigaa", sum := "39d8fd93d7cc5d3f49a27a6a877380453834825236cedd3d30c693664363d554", func := "recto/rectolaw10.ActiveNil", spec := "activeNil", inPlace := ["slices.overlaps[recto/active.Entry]"], unfollowed := true, recurses := true, plainKeys := false, apart := false }
def ActiveNilSaid : Prop := activeNilRow.holds Try.pinned (OpenSpec.ofChange activeNilSpec)

/-- ITS FALSE NEIGHBOUR: 'it returns false'. Refute it at one input. -/
def activeNilWrong : ChangeSpec := { name := "activeNil", fn := fun _ => fun
  | [d] => { results := [.lit (.bool false)], args := [d] }
  | _ => none }
def ActiveNilWrongFalsely : Prop := activeNilRow.holds Try.pinned (OpenSpec.ofChange activeNilWrong)

/-- 'rectolaw10.ActiveArk': WHATEVER THE INPUT: true; the input reads as it did. -/
def activeArkSpec : ChangeSpec := { name := "activeArk", fn := fun _ => fun
  | [d] => { results := [.lit (.bool true)], args := [d] }
  | _ => none }
def activeArkRow : OpenClaim := { program := "ytjopfgdgmniigaa", sum := "39d8fd93d7cc5d3f49a27a6a877380453834825236cedd3d30c693664363d554", func := "recto/rectolaw10.ActiveArk", spec := "activeArk", inPlace := ["slices.overlaps[recto/active.Entry]"], plainKeys := false, apart := false }
def ActiveArkSaid : Prop := activeArkRow.holds Try.pinned (OpenSpec.ofChange activeArkSpec)

/-- ITS FALSE NEIGHBOUR: 'it returns false'. Refute it at one input. -/
def activeArkWrong : ChangeSpec := { name := "activeArk", fn := fun _ => fun
  | [d] => { results := [.lit (.bool false)], args := [d] }
  | _ => none }
def ActiveArkWrongFalsely : Prop := activeArkRow.holds Try.pinned (OpenSpec.ofChange activeArkWrong)

/-- 'rectolaw10.ActiveCut': WHATEVER THE INPUT: true; the input reads as it did. -/
def activeCutSpec : ChangeSpec := { name := "activeCut", fn := fun _ => fun
  | [d1, d2] => { results := [.lit (.bool true)], args := [d1, d2] }
  | _ => none }
def activeCutRow : OpenClaim := { program := "ytjopfgdgmniigaa", sum := "39d8fd93d7cc5d3f49a27a6a877380453834825236cedd3d30c693664363d554", func := "recto/rectolaw10.ActiveCut", spec := "activeCut", inPlace := ["slices.overlaps[recto/active.Entry]"], plainKeys := false, apart := false }
def ActiveCutSaid : Prop := activeCutRow.holds Try.pinned (OpenSpec.ofChange activeCutSpec)

/-- ITS FALSE NEIGHBOUR: 'it returns false'. Refute it at one input. -/
def activeCutWrong : ChangeSpec := { name := "activeCut", fn := fun _ => fun
  | [d1, d2] => { results := [.lit (.bool false)], args := [d1, d2] }
  | _ => none }
def ActiveCutWrongFalsely : Prop := activeCutRow.holds Try.pinned (OpenSpec.ofChange activeCutWrong)

/-- 'rectolaw10.ActiveOwn': WHATEVER THE INPUT: true; the input reads as it did. -/
def activeOwnSpec : ChangeSpec := { name := "activeOwn", fn := fun _ => fun
  | [d] => { results := [.lit (.bool true)], args := [d] }
  | _ => none }
def activeOwnRow : OpenClaim := { program := "ytjopfgdgmniigaa", sum := "39d8fd93d7cc5d3f49a27a6a877380453834825236cedd3d30c693664363d554", func := "recto/rectolaw10.ActiveOwn", spec := "activeOwn", inPlace := ["slices.overlaps[recto/active.Entry]"], unfollowed := true, recurses := true, plainKeys := false, apart := false }
def ActiveOwnSaid : Prop := activeOwnRow.holds Try.pinned (OpenSpec.ofChange activeOwnSpec)

/-- ITS FALSE NEIGHBOUR: 'it returns false'. Refute it at one input. -/
def activeOwnWrong : ChangeSpec := { name := "activeOwn", fn := fun _ => fun
  | [d] => { results := [.lit (.bool false)], args := [d] }
  | _ => none }
def ActiveOwnWrongFalsely : Prop := activeOwnRow.holds Try.pinned (OpenSpec.ofChange activeOwnWrong)

/-- 'rectolaw10.ActiveFull': WHATEVER THE INPUT: true; the input reads as it did. -/
def activeFullSpec : ChangeSpec := { name := "activeFull", fn := fun _ => fun
  | [d] => { results := [.lit (.bool true)], args := [d] }
  | _ => none }
def activeFullRow : OpenClaim := { program := "ytjopfgdgmniigaa", sum := "39d8fd93d7cc5d3f49a27a6a877380453834825236cedd3d30c693664363d554", func := "recto/rectolaw10.ActiveFull", spec := "activeFull", inPlace := ["slices.overlaps[recto/active.Entry]"], plainKeys := false, apart := false }
def ActiveFullSaid : Prop := activeFullRow.holds Try.pinned (OpenSpec.ofChange activeFullSpec)

/-- ITS FALSE NEIGHBOUR: 'it returns false'. Refute it at one input. -/
def activeFullWrong : ChangeSpec := { name := "activeFull", fn := fun _ => fun
  | [d] => { results := [.lit (.bool false)], args := [d] }
  | _ => none }
def ActiveFullWrongFalsely : Prop := activeFullRow.holds Try.pinned (OpenSpec.ofChange activeFullWrong)

/- THE SECOND FORM. 'bulk': how many values and letters a reading holds, each counted each time it is reached (what is shared counts as often as it is met; a slice's spare places count too). A statement '..UptoSaid' is the law's where the arguments, and the package variables that the reading takes, are together of bulk at most 1048576: NARROWER than '..Said'. Prove '..Said' where nothing that the law and all that it calls make is longer than what came in: it says more and counts as full. Else prove '..UptoSaid'. A law counts once. -/
mutual
def uptoBulk {H : Type} : DataW H → Nat
  | .lit (.string bytes) => bytes.length + 1
  | .lit _ => 1
  | .nil => 1
  | .ptr d => uptoBulk d + 1
  | .slice elems spare => uptoBulkAll elems + uptoBulkAll spare + 1
  | .agg parts => uptoBulkAll parts + 1
  | .iface _ d => uptoBulk d + 1
  | .map entries => uptoBulkEntries entries + 1
  | .held _ => 1
def uptoBulkAll {H : Type} : List (DataW H) → Nat
  | [] => 0
  | d :: r => uptoBulk d + uptoBulkAll r
def uptoBulkEntries {H : Type} : List (Lit × DataW H) → Nat
  | [] => 0
  | x :: r => uptoBulkEntry x + uptoBulkEntries r
def uptoBulkEntry {H : Type} : Lit × DataW H → Nat
  | (.string bytes, d) => bytes.length + uptoBulk d + 1
  | (_, d) => uptoBulk d + 1
 end
def uptoSmall : (H : Type) → List (DataW H) → Bool := fun _ ds => decide (uptoBulkAll ds ≤ 1048576)
def OpenSpec.upto (s : _root_.Go.ChangeSpec) : _root_.Go.OpenSpec := { _root_.Go.OpenSpec.ofChange s with cond := some uptoSmall }

/-- 'rectolaw10.ActiveSteps', WHERE WHAT IT READS IS OF BULK AT MOST 1048576: true; the input reads as it did. -/
def activeStepsUptoRow : OpenClaim := { program := "ytjopfgdgmniigaa", sum := "39d8fd93d7cc5d3f49a27a6a877380453834825236cedd3d30c693664363d554", func := "recto/rectolaw10.ActiveSteps", spec := "activeSteps", inPlace := ["slices.overlaps[recto/active.Entry]"], unfollowed := true, recurses := true, plainKeys := false, apart := false, narrowed := true }
def ActiveStepsUptoSaid : Prop := activeStepsUptoRow.holds Try.pinned (OpenSpec.upto activeStepsSpec)

/-- 'rectolaw10.ActiveNil', WHERE WHAT IT READS IS OF BULK AT MOST 1048576: true; the input reads as it did. -/
def activeNilUptoRow : OpenClaim := { program := "ytjopfgdgmniigaa", sum := "39d8fd93d7cc5d3f49a27a6a877380453834825236cedd3d30c693664363d554", func := "recto/rectolaw10.ActiveNil", spec := "activeNil", inPlace := ["slices.overlaps[recto/active.Entry]"], unfollowed := true, recurses := true, plainKeys := false, apart := false, narrowed := true }
def ActiveNilUptoSaid : Prop := activeNilUptoRow.holds Try.pinned (OpenSpec.upto activeNilSpec)

/-- 'rectolaw10.ActiveArk', WHERE WHAT IT READS IS OF BULK AT MOST 1048576: true; the input reads as it did. -/
def activeArkUptoRow : OpenClaim := { program := "ytjopfgdgmniigaa", sum := "39d8fd93d7cc5d3f49a27a6a877380453834825236cedd3d30c693664363d554", func := "recto/rectolaw10.ActiveArk", spec := "activeArk", inPlace := ["slices.overlaps[recto/active.Entry]"], plainKeys := false, apart := false, narrowed := true }
def ActiveArkUptoSaid : Prop := activeArkUptoRow.holds Try.pinned (OpenSpec.upto activeArkSpec)

/-- 'rectolaw10.ActiveCut', WHERE WHAT IT READS IS OF BULK AT MOST 1048576: true; the input reads as it did. -/
def activeCutUptoRow : OpenClaim := { program := "ytjopfgdgmniigaa", sum := "39d8fd93d7cc5d3f49a27a6a877380453834825236cedd3d30c693664363d554", func := "recto/rectolaw10.ActiveCut", spec := "activeCut", inPlace := ["slices.overlaps[recto/active.Entry]"], plainKeys := false, apart := false, narrowed := true }
def ActiveCutUptoSaid : Prop := activeCutUptoRow.holds Try.pinned (OpenSpec.upto activeCutSpec)

/-- 'rectolaw10.ActiveOwn', WHERE WHAT IT READS IS OF BULK AT MOST 1048576: true; the input reads as it did. -/
def activeOwnUptoRow : OpenClaim := { program := "ytjopfgdgmniigaa", sum := "39d8fd93d7cc5d3f49a27a6a877380453834825236cedd3d30c693664363d554", func := "recto/rectolaw10.ActiveOwn", spec := "activeOwn", inPlace := ["slices.overlaps[recto/active.Entry]"], unfollowed := true, recurses := true, plainKeys := false, apart := false, narrowed := true }
def ActiveOwnUptoSaid : Prop := activeOwnUptoRow.holds Try.pinned (OpenSpec.upto activeOwnSpec)

/-- 'rectolaw10.ActiveFull', WHERE WHAT IT READS IS OF BULK AT MOST 1048576: true; the input reads as it did. -/
def activeFullUptoRow : OpenClaim := { program := "ytjopfgdgmniigaa", sum := "39d8fd93d7cc5d3f49a27a6a877380453834825236cedd3d30c693664363d554", func := "recto/rectolaw10.ActiveFull", spec := "activeFull", inPlace := ["slices.overlaps[recto/active.Entry]"], plainKeys := false, apart := false, narrowed := true }
def ActiveFullUptoSaid : Prop := activeFullUptoRow.holds Try.pinned (OpenSpec.upto activeFullSpec)

end Rows
end Go.Proofs.Ytjopfgdgmniigaa
