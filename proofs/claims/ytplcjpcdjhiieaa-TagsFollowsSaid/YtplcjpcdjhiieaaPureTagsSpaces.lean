/-
  For every space and name: in a space that is none nothing is special, ends a scope, or has HTML begin again (TagsSpaces answers true for every input).
  Written by an AI agent. Plain Lean over the printed functions.
-/
import Derived.Test.YtplcjpcdjhiieaaPTagsSpacesx4
namespace Go.Proofs.Ytplcjpcdjhiieaa.Pure
open Go.RowKit Go.Proofs.Ytplcjpcdjhiieaa.PTagsSpaces Go.Proofs.YtplcjpcdjhiieaaW.PrintWords Go.Proofs.YtplcjpcdjhiieaaW.PrintLast
set_option maxRecDepth 100000

def g6 (s : List UInt8) : Int := if s = ([120, 109, 112] : List UInt8) then 16 else if s = ([109, 97, 116, 104] : List UInt8) then 17 else if s = ([115, 118, 103] : List UInt8) then 17 else 0
theorem j6_eq (k : Nat) (a : ByteArray) (b : Bool) : tags_Group.j6 (k + 1) a b = some (if b = true then 15 else g6 a.toList) := by
  rw [show k + 1 = (k + 0) + 1 from rfl]
  simp only [tags_Group.j6, g6]
  generalize a.toList = s
  cases b <;> simp only [Bool.false_eq_true, if_true, if_false]
  (repeat' split) <;> simp_all
def g5 (s : List UInt8) : Int := if s = ([104, 114] : List UInt8) then 12 else if s = ([116, 105, 116, 108, 101] : List UInt8) then 13 else if s = ([116, 101, 120, 116, 97, 114, 101, 97] : List UInt8) then 14 else if s = ([115, 99, 114, 105, 112, 116] : List UInt8) then 15 else if s = ([115, 116, 121, 108, 101] : List UInt8) then 15 else (g6 s)
theorem j5_eq (k : Nat) (a : ByteArray) (b : Bool) : tags_Group.j5 (k + 2) a b = some (if b = true then 11 else g5 a.toList) := by
  rw [show k + 2 = (k + 1) + 1 from rfl]
  simp only [tags_Group.j5, g5, j6_eq, beq_iff_eq]
  generalize a.toList = s
  cases b <;> simp only [Bool.false_eq_true, if_true, if_false]
  (repeat' split) <;> simp_all
def g4 (s : List UInt8) : Int := if s = ([98, 114] : List UInt8) then 11 else if s = ([105, 109, 103] : List UInt8) then 11 else if s = ([105, 110, 112, 117, 116] : List UInt8) then 11 else if s = ([119, 98, 114] : List UInt8) then 11 else (g5 s)
theorem j4_eq (k : Nat) (a : ByteArray) (b : Bool) : tags_Group.j4 (k + 3) a b = some (if b = true then 10 else g4 a.toList) := by
  rw [show k + 3 = (k + 2) + 1 from rfl]
  simp only [tags_Group.j4, g4, j5_eq, beq_iff_eq]
  generalize a.toList = s
  cases b <;> simp only [Bool.false_eq_true, if_true, if_false]
  (repeat' split) <;> simp_all
def g3 (s : List UInt8) : Int := if s = ([112, 114, 101] : List UInt8) then 7 else if s = ([108, 105] : List UInt8) then 8 else if s = ([97] : List UInt8) then 9 else if s = ([98] : List UInt8) then 10 else if s = ([99, 111, 100, 101] : List UInt8) then 10 else if s = ([101, 109] : List UInt8) then 10 else if s = ([105] : List UInt8) then 10 else if s = ([115, 116, 114, 111, 110, 103] : List UInt8) then 10 else if s = ([117] : List UInt8) then 10 else (g4 s)
theorem j3_eq (k : Nat) (a : ByteArray) (b : Bool) : tags_Group.j3 (k + 4) a b = some (if b = true then 6 else g3 a.toList) := by
  rw [show k + 4 = (k + 3) + 1 from rfl]
  simp only [tags_Group.j3, g3, j4_eq, beq_iff_eq]
  generalize a.toList = s
  cases b <;> simp only [Bool.false_eq_true, if_true, if_false]
  (repeat' split) <;> simp_all
def g2 (s : List UInt8) : Int := if s = ([112] : List UInt8) then 5 else if s = ([104, 49] : List UInt8) then 6 else if s = ([104, 50] : List UInt8) then 6 else if s = ([104, 51] : List UInt8) then 6 else (g3 s)
theorem j2_eq (k : Nat) (a : ByteArray) (b : Bool) : tags_Group.j2 (k + 5) a b = some (if b = true then 4 else g2 a.toList) := by
  rw [show k + 5 = (k + 4) + 1 from rfl]
  simp only [tags_Group.j2, g2, j3_eq, beq_iff_eq]
  generalize a.toList = s
  cases b <;> simp only [Bool.false_eq_true, if_true, if_false]
  (repeat' split) <;> simp_all
def g1 (s : List UInt8) : Int := if s = ([116, 97, 98, 108, 101] : List UInt8) then 3 else if s = ([98, 108, 111, 99, 107, 113, 117, 111, 116, 101] : List UInt8) then 4 else if s = ([100, 105, 118] : List UInt8) then 4 else if s = ([111, 108] : List UInt8) then 4 else if s = ([115, 101, 99, 116, 105, 111, 110] : List UInt8) then 4 else if s = ([117, 108] : List UInt8) then 4 else (g2 s)
theorem j1_eq (k : Nat) (a : ByteArray) (b : Bool) : tags_Group.j1 (k + 6) a b = some (if b = true then 2 else g1 a.toList) := by
  rw [show k + 6 = (k + 5) + 1 from rfl]
  simp only [tags_Group.j1, g1, j2_eq, beq_iff_eq]
  generalize a.toList = s
  cases b <;> simp only [Bool.false_eq_true, if_true, if_false]
  (repeat' split) <;> simp_all
def g0 (s : List UInt8) : Int := if s = ([99, 97, 112, 116, 105, 111, 110] : List UInt8) then 2 else if s = ([116, 98, 111, 100, 121] : List UInt8) then 2 else if s = ([116, 104, 101, 97, 100] : List UInt8) then 2 else if s = ([116, 114] : List UInt8) then 2 else if s = ([116, 100] : List UInt8) then 2 else if s = ([116, 104] : List UInt8) then 2 else (g1 s)
theorem j0_eq (k : Nat) (a : ByteArray) (b : Bool) : tags_Group.j0 (k + 7) a b = some (if b = true then 1 else g0 a.toList) := by
  rw [show k + 7 = (k + 6) + 1 from rfl]
  simp only [tags_Group.j0, g0, j1_eq, beq_iff_eq]
  generalize a.toList = s
  cases b <;> simp only [Bool.false_eq_true, if_true, if_false]
  (repeat' split) <;> simp_all
def grp (s : List UInt8) : Int := if s = ([104, 116, 109, 108] : List UInt8) then 1 else if s = ([104, 101, 97, 100] : List UInt8) then 1 else if s = ([98, 111, 100, 121] : List UInt8) then 1 else if s = ([102, 114, 97, 109, 101] : List UInt8) then 1 else if s = ([102, 114, 97, 109, 101, 115, 101, 116] : List UInt8) then 1 else (g0 s)
theorem group_eq (k : Nat) (a : ByteArray) : tags_Group.f (k + 7) a = some (grp a.toList) := by
  unfold tags_Group.f grp
  simp only [j0_eq, beq_iff_eq]
  generalize a.toList = s
  (repeat' split) <;> simp_all
def names : List (List UInt8) := [[104, 116, 109, 108], [104, 101, 97, 100], [98, 111, 100, 121], [102, 114, 97, 109, 101], [102, 114, 97, 109, 101, 115, 101, 116], [99, 97, 112, 116, 105, 111, 110], [116, 98, 111, 100, 121], [116, 104, 101, 97, 100], [116, 114], [116, 100], [116, 104], [116, 97, 98, 108, 101], [98, 108, 111, 99, 107, 113, 117, 111, 116, 101], [100, 105, 118], [111, 108], [115, 101, 99, 116, 105, 111, 110], [117, 108], [112], [104, 49], [104, 50], [104, 51], [112, 114, 101], [108, 105], [97], [98], [99, 111, 100, 101], [101, 109], [105], [115, 116, 114, 111, 110, 103], [117], [98, 114], [105, 109, 103], [105, 110, 112, 117, 116], [119, 98, 114], [104, 114], [116, 105, 116, 108, 101], [116, 101, 120, 116, 97, 114, 101, 97], [115, 99, 114, 105, 112, 116], [115, 116, 121, 108, 101], [120, 109, 112], [109, 97, 116, 104], [115, 118, 103]]
theorem grp_out (s : List UInt8) (h : s ∉ names) : grp s = 0 := by
  simp only [names, List.mem_cons, List.not_mem_nil, or_false, not_or] at h
  simp only [grp, g0, g1, g2, g3, g4, g5, g6, h, if_false]
def agn (x : Int) (s : List UInt8) : Int := if x = 2 then (if s ∈ ([[109, 105], [109, 110], [109, 111], [109, 115], [109, 116, 101, 120, 116]] : List (List UInt8)) then 1 else 0) else if x = 1 then (if s ∈ ([[100, 101, 115, 99], [102, 111, 114, 101, 105, 103, 110, 111, 98, 106, 101, 99, 116], [116, 105, 116, 108, 101]] : List (List UInt8)) then 2 else 0) else 0
theorem again_eq (x : Int) (a : ByteArray) : tags_Again.f x a = some (agn x a.toList) := by
  unfold tags_Again.f agn
  simp only [List.mem_cons, List.not_mem_nil, or_false]
  generalize a.toList = s
  (repeat' split) <;> simp_all
def spc (x : Int) (s : List UInt8) : Bool := if x = 0 then (grp s != 0 && grp s != 9 && grp s != 10 && grp s != 17) else agn x s != 0
theorem special_eq (k : Nat) (x : Int) (a : ByteArray) : tags_Special.f (k + 7) x a = some (spc x a.toList) := by
  unfold tags_Special.f spc
  rw [group_eq, again_eq]
  simp only [Option.bind_some]
  (repeat' split) <;> simp_all
def ends : List (List UInt8) := [[99, 97, 112, 116, 105, 111, 110], [104, 116, 109, 108], [116, 97, 98, 108, 101], [116, 100], [116, 104]]
def enB (x : Int) (s : List UInt8) : Bool := if x = 0 then decide (s ∈ ends) else agn x s != 0
theorem ends_eq (x : Int) (a : ByteArray) : tags_Ends.f x a = some (enB x a.toList) := by
  unfold tags_Ends.f enB ends
  rw [again_eq]
  simp only [Option.bind_some, List.mem_cons, List.not_mem_nil, or_false]
  generalize a.toList = s
  (repeat' split) <;> simp_all
def brks : List (List UInt8) := [[98], [98, 105, 103], [98, 108, 111, 99, 107, 113, 117, 111, 116, 101], [98, 111, 100, 121], [98, 114], [99, 101, 110, 116, 101, 114], [99, 111, 100, 101], [100, 100], [100, 105, 118], [100, 108], [100, 116], [101, 109], [101, 109, 98, 101, 100], [104, 49], [104, 50], [104, 51], [104, 52], [104, 53], [104, 54], [104, 101, 97, 100], [104, 114], [105], [105, 109, 103], [108, 105], [108, 105, 115, 116, 105, 110, 103], [109, 101, 110, 117], [109, 101, 116, 97], [110, 111, 98, 114], [111, 108], [112], [112, 114, 101], [114, 117, 98, 121], [115], [115, 109, 97, 108, 108], [115, 112, 97, 110], [115, 116, 114, 105, 107, 101], [115, 116, 114, 111, 110, 103], [115, 117, 98], [115, 117, 112], [116, 97, 98, 108, 101], [116, 116], [117], [117, 108], [118, 97, 114]]
theorem ite_last (p : Prop) [Decidable p] : (if p then some true else some false) = some (decide p) := by by_cases h : p <;> simp [h]
theorem ite_or (p q : Prop) [Decidable p] [Decidable q] : (if p then some true else some (decide q)) = some (decide (p ∨ q)) := by by_cases h : p <;> simp [h]
theorem breaks_eq (a : ByteArray) : tags_Breaks.f a = some (decide (a.toList ∈ brks)) := by
  unfold tags_Breaks.f brks
  generalize a.toList = s
  simp only [ite_last, ite_or]
  congr 1
  rw [decide_eq_decide]
  simp only [List.mem_cons, List.not_mem_nil, or_false]
theorem td_eq (k : Nat) : rectolaw07_td.f (k + 7) = some true := by
  unfold rectolaw07_td.f
  rw [group_eq, special_eq, ends_eq, ends_eq, breaks_eq, again_eq]
  simp only [Option.bind_some]
  rw [show grp (⟨#[116, 100]⟩ : ByteArray).toList = 2 from by decide +kernel, show spc 0 (⟨#[116, 100]⟩ : ByteArray).toList = true from by decide +kernel, show enB 0 (⟨#[116, 100]⟩ : ByteArray).toList = true from by decide +kernel, show enB 1 (⟨#[116, 100]⟩ : ByteArray).toList = false from by decide +kernel, show decide ((⟨#[98]⟩ : ByteArray).toList ∈ brks) = true from by decide +kernel, show agn 2 (⟨#[109, 105]⟩ : ByteArray).toList = 1 from by decide +kernel]
  rfl
theorem TagsSpaces : rectolaw07_TagsSpaces.Pure := by
  intro x a _ _
  refine ⟨8, ?_⟩
  unfold rectolaw07_TagsSpaces.f
  have h1 := special_eq 0 x a
  have h2 := td_eq 0
  simp only [Nat.zero_add] at h1 h2
  simp only [rectolaw07_TagsSpaces.j0]
  rw [h1, h2, ends_eq, again_eq]
  simp only [Option.bind_some]
  by_cases h : 0 ≤ x ∧ x ≤ 2
  · simp [h.1, h.2]
  · have e0 : x ≠ 0 := by omega
    have e1 : x ≠ 1 := by omega
    have e2 : x ≠ 2 := by omega
    have ea : ∀ s, agn x s = 0 := fun s => by simp [agn, e1, e2]
    have es : ∀ s, spc x s = false := fun s => by simp [spc, e0, ea]
    have ee : ∀ s, enB x s = false := fun s => by simp [enB, e0, ea]
    have eb : x ≥ 0 → decide (x ≤ 2) = false := fun hx => by simp; omega
    by_cases hx : x ≥ 0
    · rw [if_pos hx, eb hx]; simp [ea, es, ee]
    · rw [if_neg hx]; simp [ea, es, ee]

end Go.Proofs.Ytplcjpcdjhiieaa.Pure
