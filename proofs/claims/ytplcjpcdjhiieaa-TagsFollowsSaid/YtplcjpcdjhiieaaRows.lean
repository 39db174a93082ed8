/-
  No cell of these rows narrows 'for every input' (looked for: loops, veiled, ifaces, maps, wideKeys, modest, calm, conditions, laid).
  DERIVED. THE GIVEN ROWS OF THIS SEAT. 4 by the template 'for every input the law returns true; each argument reads behind the call as it read before'; 0 by the template 'total and deterministic' (their statements: YtplcjpcdjhiieaaTotals.lean).
  GIVEN WITH THE SEED: the statements are not yours to turn. If you find one false, say at which input.
  Laid BY PROGRAM, IN A SANDBOX (cutbox-rows.mjs): the forced cells as the released guide's own fill.sh prints them over the translation d63247611dc13c3b… (all of the seat's roots in one cut). By AI agents, Wed Nov 11 2026. No macro, syntax, notation, axiom, sorry.
-/
import Derived.Test.YtplcjpcdjhiieaaChecked
import GoSem.Claim
import GoSem.ClaimJoined
import GoSem.ClaimMapViews
import Derived.JoinedTies
import Derived.KernelRfl
namespace Go.Proofs.Ytplcjpcdjhiieaa
/- THE CELL 'sum', in the pinned program and in every row, IS THE sha256 OF THE DUMP (.gsa) THAT YtplcjpcdjhiieaaProg.lean LOADS. Nothing in Lean hashes anything: it is a label: what it is worth is what the hold of that sum in a sandbox is worth. -/
noncomputable def Try.pinned : Pinned := { name := "ytplcjpcdjhiieaa", sum := "d63247611dc13c3bb57353f74d14795b31285639ad51e0f5f29b73e777e6026e", checked := Try.checked }
namespace Rows
def none {H : Type} : Left H := { results := [], args := [] }

/-- 'rectolaw07.TagsKinds': WHATEVER THE INPUT: true; the input reads as it did. -/
def tagsKindsSpec : ChangeSpec := { name := "tagsKinds", fn := fun _ => fun
  | [d1, d2] => { results := [.lit (.bool true)], args := [d1, d2] }
  | _ => none }
def tagsKindsRow : OpenClaim := { program := "ytplcjpcdjhiieaa", sum := "d63247611dc13c3bb57353f74d14795b31285639ad51e0f5f29b73e777e6026e", func := "recto/rectolaw07.TagsKinds", spec := "tagsKinds", apart := false }
def TagsKindsSaid : Prop := tagsKindsRow.holds Try.pinned (OpenSpec.ofChange tagsKindsSpec)

/-- ITS FALSE NEIGHBOUR: 'it returns false'. Refute it at one input. -/
def tagsKindsWrong : ChangeSpec := { name := "tagsKinds", fn := fun _ => fun
  | [d1, d2] => { results := [.lit (.bool false)], args := [d1, d2] }
  | _ => none }
def TagsKindsWrongFalsely : Prop := tagsKindsRow.holds Try.pinned (OpenSpec.ofChange tagsKindsWrong)

/-- 'rectolaw07.TagsSpaces': WHATEVER THE INPUT: true; the input reads as it did. -/
def tagsSpacesSpec : ChangeSpec := { name := "tagsSpaces", fn := fun _ => fun
  | [d1, d2] => { results := [.lit (.bool true)], args := [d1, d2] }
  | _ => none }
def tagsSpacesRow : OpenClaim := { program := "ytplcjpcdjhiieaa", sum := "d63247611dc13c3bb57353f74d14795b31285639ad51e0f5f29b73e777e6026e", func := "recto/rectolaw07.TagsSpaces", spec := "tagsSpaces", apart := false }
def TagsSpacesSaid : Prop := tagsSpacesRow.holds Try.pinned (OpenSpec.ofChange tagsSpacesSpec)

/-- ITS FALSE NEIGHBOUR: 'it returns false'. Refute it at one input. -/
def tagsSpacesWrong : ChangeSpec := { name := "tagsSpaces", fn := fun _ => fun
  | [d1, d2] => { results := [.lit (.bool false)], args := [d1, d2] }
  | _ => none }
def TagsSpacesWrongFalsely : Prop := tagsSpacesRow.holds Try.pinned (OpenSpec.ofChange tagsSpacesWrong)

/-- 'rectolaw07.TagsGroups': WHATEVER THE INPUT: true; the input reads as it did. -/
def tagsGroupsSpec : ChangeSpec := { name := "tagsGroups", fn := fun _ => fun
  | [d] => { results := [.lit (.bool true)], args := [d] }
  | _ => none }
def tagsGroupsRow : OpenClaim := { program := "ytplcjpcdjhiieaa", sum := "d63247611dc13c3bb57353f74d14795b31285639ad51e0f5f29b73e777e6026e", func := "recto/rectolaw07.TagsGroups", spec := "tagsGroups", apart := false }
def TagsGroupsSaid : Prop := tagsGroupsRow.holds Try.pinned (OpenSpec.ofChange tagsGroupsSpec)

/-- ITS FALSE NEIGHBOUR: 'it returns false'. Refute it at one input. -/
def tagsGroupsWrong : ChangeSpec := { name := "tagsGroups", fn := fun _ => fun
  | [d] => { results := [.lit (.bool false)], args := [d] }
  | _ => none }
def TagsGroupsWrongFalsely : Prop := tagsGroupsRow.holds Try.pinned (OpenSpec.ofChange tagsGroupsWrong)

/-- 'rectolaw07.TagsFollows': WHATEVER THE INPUT: true; the input reads as it did. -/
def tagsFollowsSpec : ChangeSpec := { name := "tagsFollows", fn := fun _ => fun
  | [d1, d2] => { results := [.lit (.bool true)], args := [d1, d2] }
  | _ => none }
def tagsFollowsRow : OpenClaim := { program := "ytplcjpcdjhiieaa", sum := "d63247611dc13c3bb57353f74d14795b31285639ad51e0f5f29b73e777e6026e", func := "recto/rectolaw07.TagsFollows", spec := "tagsFollows", apart := false }
def TagsFollowsSaid : Prop := tagsFollowsRow.holds Try.pinned (OpenSpec.ofChange tagsFollowsSpec)

/-- ITS FALSE NEIGHBOUR: 'it returns false'. Refute it at one input. -/
def tagsFollowsWrong : ChangeSpec := { name := "tagsFollows", fn := fun _ => fun
  | [d1, d2] => { results := [.lit (.bool false)], args := [d1, d2] }
  | _ => none }
def TagsFollowsWrongFalsely : Prop := tagsFollowsRow.holds Try.pinned (OpenSpec.ofChange tagsFollowsWrong)

/- THE SECOND FORM. 'bulk': how many values and letters a reading holds, each counted each time it is reached (what is shared counts as often as it is met; a slice's spare places count too). A statement '..UptoSaid' is the law's where the arguments, and the package variables that the reading takes, are together of bulk at most 1048576: NARROWER than '..Said'. Prove '..Said' where nothing that the law and all that it calls make is longer than what came in: it says more and counts as full. Else prove '..UptoSaid'. A law counts once. -/
mutual
def uptoBulk {H : Type} : DataW H → Nat
  | .lit (.string bytes) => bytes.length + 1
  | .lit _ => 1
  | .nil => 1
  | .ptr d => uptoBulk d + 1
  | .slice elems spare => uptoBulkAll elems + uptoBulkAll spare + 1
  | .agg parts => uptoBulkAll parts + 1
  | .iface _ d => uptoBulk d + 1
  | .map entries => uptoBulkEntries entries + 1
  | .held _ => 1
def uptoBulkAll {H : Type} : List (DataW H) → Nat
  | [] => 0
  | d :: r => uptoBulk d + uptoBulkAll r
def uptoBulkEntries {H : Type} : List (Lit × DataW H) → Nat
  | [] => 0
  | x :: r => uptoBulkEntry x + uptoBulkEntries r
def uptoBulkEntry {H : Type} : Lit × DataW H → Nat
  | (.string bytes, d) => bytes.length + uptoBulk d + 1
  | (_, d) => uptoBulk d + 1
 end
def uptoSmall : (H : Type) → List (DataW H) → Bool := fun _ ds => decide (uptoBulkAll ds ≤ 1048576)
def OpenSpec.upto (s : _root_.Go.ChangeSpec) : _root_.Go.OpenSpec := { _root_.Go.OpenSpec.ofChange s with cond := some uptoSmall }

/-- 'rectolaw07.TagsKinds', WHERE WHAT IT READS IS OF BULK AT MOST 1048576: true; the input reads as it did. -/
def tagsKindsUptoRow : OpenClaim := { program := "ytplcjpcdjhiieaa", sum := "d63247611dc13c3bb57353f74d14795b31285639ad51e0f5f29b73e777e6026e", func := "recto/rectolaw07.TagsKinds", spec := "tagsKinds", apart := false, narrowed := true }
def TagsKindsUptoSaid : Prop := tagsKindsUptoRow.holds Try.pinned (OpenSpec.upto tagsKindsSpec)

/-- 'rectolaw07.TagsSpaces', WHERE WHAT IT READS IS OF BULK AT MOST 1048576: true; the input reads as it did. -/
def tagsSpacesUptoRow : OpenClaim := { program := "ytplcjpcdjhiieaa", sum := "d63247611dc13c3bb57353f74d14795b31285639ad51e0f5f29b73e777e6026e", func := "recto/rectolaw07.TagsSpaces", spec := "tagsSpaces", apart := false, narrowed := true }
def TagsSpacesUptoSaid : Prop := tagsSpacesUptoRow.holds Try.pinned (OpenSpec.upto tagsSpacesSpec)

/-- 'rectolaw07.TagsGroups', WHERE WHAT IT READS IS OF BULK AT MOST 1048576: true; the input reads as it did. -/
def tagsGroupsUptoRow : OpenClaim := { program := "ytplcjpcdjhiieaa", sum := "d63247611dc13c3bb57353f74d14795b31285639ad51e0f5f29b73e777e6026e", func := "recto/rectolaw07.TagsGroups", spec := "tagsGroups", apart := false, narrowed := true }
def TagsGroupsUptoSaid : Prop := tagsGroupsUptoRow.holds Try.pinned (OpenSpec.upto tagsGroupsSpec)

/-- 'rectolaw07.TagsFollows', WHERE WHAT IT READS IS OF BULK AT MOST 1048576: true; the input reads as it did. -/
def tagsFollowsUptoRow : OpenClaim := { program := "ytplcjpcdjhiieaa", sum := "d63247611dc13c3bb57353f74d14795b31285639ad51e0f5f29b73e777e6026e", func := "recto/rectolaw07.TagsFollows", spec := "tagsFollows", apart := false, narrowed := true }
def TagsFollowsUptoSaid : Prop := tagsFollowsUptoRow.holds Try.pinned (OpenSpec.upto tagsFollowsSpec)

end Rows
end Go.Proofs.Ytplcjpcdjhiieaa
