/-
  For every space and name: the program tells special, ending, breaking elements and where HTML begins again just as the document lists them (TagsKinds answers true for every input).
  Written by an AI agent. Plain Lean over the printed functions.
-/
import Derived.Test.YtplcjpcdjhiieaaPTagsKindsx5
namespace Go.Proofs.Ytplcjpcdjhiieaa.Pure
open Go.RowKit Go.Proofs.Ytplcjpcdjhiieaa.PTagsKinds Go.Proofs.YtplcjpcdjhiieaaW.PrintWords Go.Proofs.YtplcjpcdjhiieaaW.PrintLast
set_option maxRecDepth 100000

def g6 (s : List UInt8) : Int := if s = ([120, 109, 112] : List UInt8) then 16 else if s = ([109, 97, 116, 104] : List UInt8) then 17 else if s = ([115, 118, 103] : List UInt8) then 17 else 0
theorem j6_eq (k : Nat) (a : ByteArray) (b : Bool) : tags_Group.j6 (k + 1) a b = some (if b = true then 15 else g6 a.toList) := by
  rw [show k + 1 = (k + 0) + 1 from rfl]
  simp only [tags_Group.j6, g6]
  generalize a.toList = s
  cases b <;> simp only [Bool.false_eq_true, if_true, if_false]
  (repeat' split) <;> simp_all
def g5 (s : List UInt8) : Int := if s = ([104, 114] : List UInt8) then 12 else if s = ([116, 105, 116, 108, 101] : List UInt8) then 13 else if s = ([116, 101, 120, 116, 97, 114, 101, 97] : List UInt8) then 14 else if s = ([115, 99, 114, 105, 112, 116] : List UInt8) then 15 else if s = ([115, 116, 121, 108, 101] : List UInt8) then 15 else (g6 s)
theorem j5_eq (k : Nat) (a : ByteArray) (b : Bool) : tags_Group.j5 (k + 2) a b = some (if b = true then 11 else g5 a.toList) := by
  rw [show k + 2 = (k + 1) + 1 from rfl]
  simp only [tags_Group.j5, g5, j6_eq, beq_iff_eq]
  generalize a.toList = s
  cases b <;> simp only [Bool.false_eq_true, if_true, if_false]
  (repeat' split) <;> simp_all
def g4 (s : List UInt8) : Int := if s = ([98, 114] : List UInt8) then 11 else if s = ([105, 109, 103] : List UInt8) then 11 else if s = ([105, 110, 112, 117, 116] : List UInt8) then 11 else if s = ([119, 98, 114] : List UInt8) then 11 else (g5 s)
theorem j4_eq (k : Nat) (a : ByteArray) (b : Bool) : tags_Group.j4 (k + 3) a b = some (if b = true then 10 else g4 a.toList) := by
  rw [show k + 3 = (k + 2) + 1 from rfl]
  simp only [tags_Group.j4, g4, j5_eq, beq_iff_eq]
  generalize a.toList = s
  cases b <;> simp only [Bool.false_eq_true, if_true, if_false]
  (repeat' split) <;> simp_all
def g3 (s : List UInt8) : Int := if s = ([112, 114, 101] : List UInt8) then 7 else if s = ([108, 105] : List UInt8) then 8 else if s = ([97] : List UInt8) then 9 else if s = ([98] : List UInt8) then 10 else if s = ([99, 111, 100, 101] : List UInt8) then 10 else if s = ([101, 109] : List UInt8) then 10 else if s = ([105] : List UInt8) then 10 else if s = ([115, 116, 114, 111, 110, 103] : List UInt8) then 10 else if s = ([117] : List UInt8) then 10 else (g4 s)
theorem j3_eq (k : Nat) (a : ByteArray) (b : Bool) : tags_Group.j3 (k + 4) a b = some (if b = true then 6 else g3 a.toList) := by
  rw [show k + 4 = (k + 3) + 1 from rfl]
  simp only [tags_Group.j3, g3, j4_eq, beq_iff_eq]
  generalize a.toList = s
  cases b <;> simp only [Bool.false_eq_true, if_true, if_false]
  (repeat' split) <;> simp_all
def g2 (s : List UInt8) : Int := if s = ([112] : List UInt8) then 5 else if s = ([104, 49] : List UInt8) then 6 else if s = ([104, 50] : List UInt8) then 6 else if s = ([104, 51] : List UInt8) then 6 else (g3 s)
theorem j2_eq (k : Nat) (a : ByteArray) (b : Bool) : tags_Group.j2 (k + 5) a b = some (if b = true then 4 else g2 a.toList) := by
  rw [show k + 5 = (k + 4) + 1 from rfl]
  simp only [tags_Group.j2, g2, j3_eq, beq_iff_eq]
  generalize a.toList = s
  cases b <;> simp only [Bool.false_eq_true, if_true, if_false]
  (repeat' split) <;> simp_all
def g1 (s : List UInt8) : Int := if s = ([116, 97, 98, 108, 101] : List UInt8) then 3 else if s = ([98, 108, 111, 99, 107, 113, 117, 111, 116, 101] : List UInt8) then 4 else if s = ([100, 105, 118] : List UInt8) then 4 else if s = ([111, 108] : List UInt8) then 4 else if s = ([115, 101, 99, 116, 105, 111, 110] : List UInt8) then 4 else if s = ([117, 108] : List UInt8) then 4 else (g2 s)
theorem j1_eq (k : Nat) (a : ByteArray) (b : Bool) : tags_Group.j1 (k + 6) a b = some (if b = true then 2 else g1 a.toList) := by
  rw [show k + 6 = (k + 5) + 1 from rfl]
  simp only [tags_Group.j1, g1, j2_eq, beq_iff_eq]
  generalize a.toList = s
  cases b <;> simp only [Bool.false_eq_true, if_true, if_false]
  (repeat' split) <;> simp_all
def g0 (s : List UInt8) : Int := if s = ([99, 97, 112, 116, 105, 111, 110] : List UInt8) then 2 else if s = ([116, 98, 111, 100, 121] : List UInt8) then 2 else if s = ([116, 104, 101, 97, 100] : List UInt8) then 2 else if s = ([116, 114] : List UInt8) then 2 else if s = ([116, 100] : List UInt8) then 2 else if s = ([116, 104] : List UInt8) then 2 else (g1 s)
theorem j0_eq (k : Nat) (a : ByteArray) (b : Bool) : tags_Group.j0 (k + 7) a b = some (if b = true then 1 else g0 a.toList) := by
  rw [show k + 7 = (k + 6) + 1 from rfl]
  simp only [tags_Group.j0, g0, j1_eq, beq_iff_eq]
  generalize a.toList = s
  cases b <;> simp only [Bool.false_eq_true, if_true, if_false]
  (repeat' split) <;> simp_all
def grp (s : List UInt8) : Int := if s = ([104, 116, 109, 108] : List UInt8) then 1 else if s = ([104, 101, 97, 100] : List UInt8) then 1 else if s = ([98, 111, 100, 121] : List UInt8) then 1 else if s = ([102, 114, 97, 109, 101] : List UInt8) then 1 else if s = ([102, 114, 97, 109, 101, 115, 101, 116] : List UInt8) then 1 else (g0 s)
theorem group_eq (k : Nat) (a : ByteArray) : tags_Group.f (k + 7) a = some (grp a.toList) := by
  unfold tags_Group.f grp
  simp only [j0_eq, beq_iff_eq]
  generalize a.toList = s
  (repeat' split) <;> simp_all
def names : List (List UInt8) := [[104, 116, 109, 108], [104, 101, 97, 100], [98, 111, 100, 121], [102, 114, 97, 109, 101], [102, 114, 97, 109, 101, 115, 101, 116], [99, 97, 112, 116, 105, 111, 110], [116, 98, 111, 100, 121], [116, 104, 101, 97, 100], [116, 114], [116, 100], [116, 104], [116, 97, 98, 108, 101], [98, 108, 111, 99, 107, 113, 117, 111, 116, 101], [100, 105, 118], [111, 108], [115, 101, 99, 116, 105, 111, 110], [117, 108], [112], [104, 49], [104, 50], [104, 51], [112, 114, 101], [108, 105], [97], [98], [99, 111, 100, 101], [101, 109], [105], [115, 116, 114, 111, 110, 103], [117], [98, 114], [105, 109, 103], [105, 110, 112, 117, 116], [119, 98, 114], [104, 114], [116, 105, 116, 108, 101], [116, 101, 120, 116, 97, 114, 101, 97], [115, 99, 114, 105, 112, 116], [115, 116, 121, 108, 101], [120, 109, 112], [109, 97, 116, 104], [115, 118, 103]]
theorem grp_out (s : List UInt8) (h : s ∉ names) : grp s = 0 := by
  simp only [names, List.mem_cons, List.not_mem_nil, or_false, not_or] at h
  simp only [grp, g0, g1, g2, g3, g4, g5, g6, h, if_false]
def agn (x : Int) (s : List UInt8) : Int := if x = 2 then (if s ∈ ([[109, 105], [109, 110], [109, 111], [109, 115], [109, 116, 101, 120, 116]] : List (List UInt8)) then 1 else 0) else if x = 1 then (if s ∈ ([[100, 101, 115, 99], [102, 111, 114, 101, 105, 103, 110, 111, 98, 106, 101, 99, 116], [116, 105, 116, 108, 101]] : List (List UInt8)) then 2 else 0) else 0
theorem again_eq (x : Int) (a : ByteArray) : tags_Again.f x a = some (agn x a.toList) := by
  unfold tags_Again.f agn
  simp only [List.mem_cons, List.not_mem_nil, or_false]
  generalize a.toList = s
  (repeat' split) <;> simp_all
def spc (x : Int) (s : List UInt8) : Bool := if x = 0 then (grp s != 0 && grp s != 9 && grp s != 10 && grp s != 17) else agn x s != 0
theorem special_eq (k : Nat) (x : Int) (a : ByteArray) : tags_Special.f (k + 7) x a = some (spc x a.toList) := by
  unfold tags_Special.f spc
  rw [group_eq, again_eq]
  simp only [Option.bind_some]
  (repeat' split) <;> simp_all
def ends : List (List UInt8) := [[99, 97, 112, 116, 105, 111, 110], [104, 116, 109, 108], [116, 97, 98, 108, 101], [116, 100], [116, 104]]
def enB (x : Int) (s : List UInt8) : Bool := if x = 0 then decide (s ∈ ends) else agn x s != 0
theorem ends_eq (x : Int) (a : ByteArray) : tags_Ends.f x a = some (enB x a.toList) := by
  unfold tags_Ends.f enB ends
  rw [again_eq]
  simp only [Option.bind_some, List.mem_cons, List.not_mem_nil, or_false]
  generalize a.toList = s
  (repeat' split) <;> simp_all
def brks : List (List UInt8) := [[98], [98, 105, 103], [98, 108, 111, 99, 107, 113, 117, 111, 116, 101], [98, 111, 100, 121], [98, 114], [99, 101, 110, 116, 101, 114], [99, 111, 100, 101], [100, 100], [100, 105, 118], [100, 108], [100, 116], [101, 109], [101, 109, 98, 101, 100], [104, 49], [104, 50], [104, 51], [104, 52], [104, 53], [104, 54], [104, 101, 97, 100], [104, 114], [105], [105, 109, 103], [108, 105], [108, 105, 115, 116, 105, 110, 103], [109, 101, 110, 117], [109, 101, 116, 97], [110, 111, 98, 114], [111, 108], [112], [112, 114, 101], [114, 117, 98, 121], [115], [115, 109, 97, 108, 108], [115, 112, 97, 110], [115, 116, 114, 105, 107, 101], [115, 116, 114, 111, 110, 103], [115, 117, 98], [115, 117, 112], [116, 97, 98, 108, 101], [116, 116], [117], [117, 108], [118, 97, 114]]
theorem ite_last (p : Prop) [Decidable p] : (if p then some true else some false) = some (decide p) := by by_cases h : p <;> simp [h]
theorem ite_or (p q : Prop) [Decidable p] [Decidable q] : (if p then some true else some (decide q)) = some (decide (p ∨ q)) := by by_cases h : p <;> simp [h]
theorem breaks_eq (a : ByteArray) : tags_Breaks.f a = some (decide (a.toList ∈ brks)) := by
  unfold tags_Breaks.f brks
  generalize a.toList = s
  simp only [ite_last, ite_or]
  congr 1
  rw [decide_eq_decide]
  simp only [List.mem_cons, List.not_mem_nil, or_false]
theorem td_eq (k : Nat) : rectolaw07_td.f (k + 7) = some true := by
  unfold rectolaw07_td.f
  rw [group_eq, special_eq, ends_eq, ends_eq, breaks_eq, again_eq]
  simp only [Option.bind_some]
  rw [show grp (⟨#[116, 100]⟩ : ByteArray).toList = 2 from by decide +kernel, show spc 0 (⟨#[116, 100]⟩ : ByteArray).toList = true from by decide +kernel, show enB 0 (⟨#[116, 100]⟩ : ByteArray).toList = true from by decide +kernel, show enB 1 (⟨#[116, 100]⟩ : ByteArray).toList = false from by decide +kernel, show decide ((⟨#[98]⟩ : ByteArray).toList ∈ brks) = true from by decide +kernel, show agn 2 (⟨#[109, 105]⟩ : ByteArray).toList = 1 from by decide +kernel]
  rfl
theorem in_l0 (a : ByteArray) (l : List ByteArray) (hl : l.length < 1000) (d : Nat) : ∀ (k i : Nat), l.length - i = d → i ≤ l.length → d < k →
    rectoref07_In.l0 k a l (l.length : Int) (i : Int) = some (decide (a.toList ∈ (l.drop i).map ByteArray.toList)) := by
  induction d with
  | zero =>
    intro k i hd hi hk
    obtain ⟨k, rfl⟩ : ∃ m, k = m + 1 := ⟨k - 1, by omega⟩
    simp only [rectoref07_In.l0]
    rw [if_neg (by omega), List.drop_eq_nil_of_le (by omega)]
    simp
  | succ d ih =>
    intro k i hd hi hk
    obtain ⟨k, rfl⟩ : ∃ m, k = m + 1 := ⟨k - 1, by omega⟩
    have hlt : i < l.length := by omega
    simp only [rectoref07_In.l0]
    rw [if_pos (by omega), if_pos (by omega), if_pos (by omega), show wrap64 ((i : Int) + 1) = ((i + 1 : Nat) : Int) from by unfold wrap64; omega, ih k (i + 1) (by omega) (by omega) (by omega), List.drop_eq_getElem_cons hlt]
    have hr : rdOf ByteArray.empty l (i : Int) = l[i] := by simp [rdOf, hlt]
    rw [hr]
    simp only [List.map_cons, List.mem_cons]
    by_cases h : l[i].toList = a.toList
    · rw [if_pos h]; simp [h]
    · rw [if_neg h]; simp [Ne.symm h]

theorem in_eq (k : Nat) (a : ByteArray) (l : List ByteArray) (hl : l.length < 1000) (hk : l.length < k) : rectoref07_In.f k a l = some (decide (a.toList ∈ l.map ByteArray.toList)) := by
  unfold rectoref07_In.f
  have := in_l0 a l hl l.length k 0 (by omega) (by omega) (by omega)
  simpa using this

theorem in_ag2 (k : Nat) (a : ByteArray) : rectoref07_In.f (k + 100) a ([(⟨#[109, 105]⟩ : ByteArray), (⟨#[109, 110]⟩ : ByteArray), (⟨#[109, 111]⟩ : ByteArray), (⟨#[109, 115]⟩ : ByteArray), (⟨#[109, 116, 101, 120, 116]⟩ : ByteArray)] : List ByteArray) = some (decide (a.toList ∈ ([[109, 105], [109, 110], [109, 111], [109, 115], [109, 116, 101, 120, 116]] : List (List UInt8)))) := by
  rw [in_eq _ _ _ (by simp) (by simp)]
  rw [show ([(⟨#[109, 105]⟩ : ByteArray), (⟨#[109, 110]⟩ : ByteArray), (⟨#[109, 111]⟩ : ByteArray), (⟨#[109, 115]⟩ : ByteArray), (⟨#[109, 116, 101, 120, 116]⟩ : ByteArray)] : List ByteArray).map ByteArray.toList = [[109, 105], [109, 110], [109, 111], [109, 115], [109, 116, 101, 120, 116]] from by decide +kernel]
theorem in_ag1 (k : Nat) (a : ByteArray) : rectoref07_In.f (k + 100) a ([(⟨#[100, 101, 115, 99]⟩ : ByteArray), (⟨#[102, 111, 114, 101, 105, 103, 110, 111, 98, 106, 101, 99, 116]⟩ : ByteArray), (⟨#[116, 105, 116, 108, 101]⟩ : ByteArray)] : List ByteArray) = some (decide (a.toList ∈ ([[100, 101, 115, 99], [102, 111, 114, 101, 105, 103, 110, 111, 98, 106, 101, 99, 116], [116, 105, 116, 108, 101]] : List (List UInt8)))) := by
  rw [in_eq _ _ _ (by simp) (by simp)]
  rw [show ([(⟨#[100, 101, 115, 99]⟩ : ByteArray), (⟨#[102, 111, 114, 101, 105, 103, 110, 111, 98, 106, 101, 99, 116]⟩ : ByteArray), (⟨#[116, 105, 116, 108, 101]⟩ : ByteArray)] : List ByteArray).map ByteArray.toList = [[100, 101, 115, 99], [102, 111, 114, 101, 105, 103, 110, 111, 98, 106, 101, 99, 116], [116, 105, 116, 108, 101]] from by decide +kernel]
theorem refAgain_eq (k : Nat) (x : Int) (a : ByteArray) : rectoref07_Again.f (k + 101) x a = some (agn x a.toList) := by
  unfold rectoref07_Again.f agn
  simp only [rectoref07_Again.j0]
  rw [show k + 101 = (k + 1) + 100 from by omega, in_ag2, in_ag1]
  simp only [Option.bind_some]
  by_cases h2 : x = 2
  · subst h2; simp only [if_true]; generalize a.toList = s; split <;> simp_all
  · rw [if_neg h2, if_neg h2]; simp only [Bool.false_eq_true, if_false]; generalize a.toList = s; by_cases h1 : x = 1 <;> simp only [h1, if_true, if_false] <;> by_cases h : s ∈ ([[100, 101, 115, 99], [102, 111, 114, 101, 105, 103, 110, 111, 98, 106, 101, 99, 116], [116, 105, 116, 108, 101]] : List (List UInt8)) <;> simp only [h, decide_true, decide_false, Bool.false_eq_true, if_true, if_false]
theorem in_spe (k : Nat) (a : ByteArray) : rectoref07_In.f (k + 100) a ([(⟨#[98, 108, 111, 99, 107, 113, 117, 111, 116, 101]⟩ : ByteArray), (⟨#[98, 111, 100, 121]⟩ : ByteArray), (⟨#[98, 114]⟩ : ByteArray), (⟨#[99, 97, 112, 116, 105, 111, 110]⟩ : ByteArray), (⟨#[100, 105, 118]⟩ : ByteArray), (⟨#[102, 114, 97, 109, 101]⟩ : ByteArray), (⟨#[102, 114, 97, 109, 101, 115, 101, 116]⟩ : ByteArray), (⟨#[104, 49]⟩ : ByteArray), (⟨#[104, 50]⟩ : ByteArray), (⟨#[104, 51]⟩ : ByteArray), (⟨#[104, 101, 97, 100]⟩ : ByteArray), (⟨#[104, 114]⟩ : ByteArray), (⟨#[104, 116, 109, 108]⟩ : ByteArray), (⟨#[105, 109, 103]⟩ : ByteArray), (⟨#[105, 110, 112, 117, 116]⟩ : ByteArray), (⟨#[108, 105]⟩ : ByteArray), (⟨#[111, 108]⟩ : ByteArray), (⟨#[112]⟩ : ByteArray), (⟨#[112, 114, 101]⟩ : ByteArray), (⟨#[115, 99, 114, 105, 112, 116]⟩ : ByteArray), (⟨#[115, 101, 99, 116, 105, 111, 110]⟩ : ByteArray), (⟨#[115, 116, 121, 108, 101]⟩ : ByteArray), (⟨#[116, 97, 98, 108, 101]⟩ : ByteArray), (⟨#[116, 98, 111, 100, 121]⟩ : ByteArray), (⟨#[116, 100]⟩ : ByteArray), (⟨#[116, 101, 120, 116, 97, 114, 101, 97]⟩ : ByteArray), (⟨#[116, 104]⟩ : ByteArray), (⟨#[116, 104, 101, 97, 100]⟩ : ByteArray), (⟨#[116, 105, 116, 108, 101]⟩ : ByteArray), (⟨#[116, 114]⟩ : ByteArray), (⟨#[117, 108]⟩ : ByteArray), (⟨#[119, 98, 114]⟩ : ByteArray), (⟨#[120, 109, 112]⟩ : ByteArray)] : List ByteArray) = some (decide (a.toList ∈ ([[98, 108, 111, 99, 107, 113, 117, 111, 116, 101], [98, 111, 100, 121], [98, 114], [99, 97, 112, 116, 105, 111, 110], [100, 105, 118], [102, 114, 97, 109, 101], [102, 114, 97, 109, 101, 115, 101, 116], [104, 49], [104, 50], [104, 51], [104, 101, 97, 100], [104, 114], [104, 116, 109, 108], [105, 109, 103], [105, 110, 112, 117, 116], [108, 105], [111, 108], [112], [112, 114, 101], [115, 99, 114, 105, 112, 116], [115, 101, 99, 116, 105, 111, 110], [115, 116, 121, 108, 101], [116, 97, 98, 108, 101], [116, 98, 111, 100, 121], [116, 100], [116, 101, 120, 116, 97, 114, 101, 97], [116, 104], [116, 104, 101, 97, 100], [116, 105, 116, 108, 101], [116, 114], [117, 108], [119, 98, 114], [120, 109, 112]] : List (List UInt8)))) := by
  rw [in_eq _ _ _ (by simp) (by simp)]
  rw [show ([(⟨#[98, 108, 111, 99, 107, 113, 117, 111, 116, 101]⟩ : ByteArray), (⟨#[98, 111, 100, 121]⟩ : ByteArray), (⟨#[98, 114]⟩ : ByteArray), (⟨#[99, 97, 112, 116, 105, 111, 110]⟩ : ByteArray), (⟨#[100, 105, 118]⟩ : ByteArray), (⟨#[102, 114, 97, 109, 101]⟩ : ByteArray), (⟨#[102, 114, 97, 109, 101, 115, 101, 116]⟩ : ByteArray), (⟨#[104, 49]⟩ : ByteArray), (⟨#[104, 50]⟩ : ByteArray), (⟨#[104, 51]⟩ : ByteArray), (⟨#[104, 101, 97, 100]⟩ : ByteArray), (⟨#[104, 114]⟩ : ByteArray), (⟨#[104, 116, 109, 108]⟩ : ByteArray), (⟨#[105, 109, 103]⟩ : ByteArray), (⟨#[105, 110, 112, 117, 116]⟩ : ByteArray), (⟨#[108, 105]⟩ : ByteArray), (⟨#[111, 108]⟩ : ByteArray), (⟨#[112]⟩ : ByteArray), (⟨#[112, 114, 101]⟩ : ByteArray), (⟨#[115, 99, 114, 105, 112, 116]⟩ : ByteArray), (⟨#[115, 101, 99, 116, 105, 111, 110]⟩ : ByteArray), (⟨#[115, 116, 121, 108, 101]⟩ : ByteArray), (⟨#[116, 97, 98, 108, 101]⟩ : ByteArray), (⟨#[116, 98, 111, 100, 121]⟩ : ByteArray), (⟨#[116, 100]⟩ : ByteArray), (⟨#[116, 101, 120, 116, 97, 114, 101, 97]⟩ : ByteArray), (⟨#[116, 104]⟩ : ByteArray), (⟨#[116, 104, 101, 97, 100]⟩ : ByteArray), (⟨#[116, 105, 116, 108, 101]⟩ : ByteArray), (⟨#[116, 114]⟩ : ByteArray), (⟨#[117, 108]⟩ : ByteArray), (⟨#[119, 98, 114]⟩ : ByteArray), (⟨#[120, 109, 112]⟩ : ByteArray)] : List ByteArray).map ByteArray.toList = [[98, 108, 111, 99, 107, 113, 117, 111, 116, 101], [98, 111, 100, 121], [98, 114], [99, 97, 112, 116, 105, 111, 110], [100, 105, 118], [102, 114, 97, 109, 101], [102, 114, 97, 109, 101, 115, 101, 116], [104, 49], [104, 50], [104, 51], [104, 101, 97, 100], [104, 114], [104, 116, 109, 108], [105, 109, 103], [105, 110, 112, 117, 116], [108, 105], [111, 108], [112], [112, 114, 101], [115, 99, 114, 105, 112, 116], [115, 101, 99, 116, 105, 111, 110], [115, 116, 121, 108, 101], [116, 97, 98, 108, 101], [116, 98, 111, 100, 121], [116, 100], [116, 101, 120, 116, 97, 114, 101, 97], [116, 104], [116, 104, 101, 97, 100], [116, 105, 116, 108, 101], [116, 114], [117, 108], [119, 98, 114], [120, 109, 112]] from by decide +kernel]
theorem in_end (k : Nat) (a : ByteArray) : rectoref07_In.f (k + 100) a ([(⟨#[99, 97, 112, 116, 105, 111, 110]⟩ : ByteArray), (⟨#[104, 116, 109, 108]⟩ : ByteArray), (⟨#[116, 97, 98, 108, 101]⟩ : ByteArray), (⟨#[116, 100]⟩ : ByteArray), (⟨#[116, 104]⟩ : ByteArray)] : List ByteArray) = some (decide (a.toList ∈ ([[99, 97, 112, 116, 105, 111, 110], [104, 116, 109, 108], [116, 97, 98, 108, 101], [116, 100], [116, 104]] : List (List UInt8)))) := by
  rw [in_eq _ _ _ (by simp) (by simp)]
  rw [show ([(⟨#[99, 97, 112, 116, 105, 111, 110]⟩ : ByteArray), (⟨#[104, 116, 109, 108]⟩ : ByteArray), (⟨#[116, 97, 98, 108, 101]⟩ : ByteArray), (⟨#[116, 100]⟩ : ByteArray), (⟨#[116, 104]⟩ : ByteArray)] : List ByteArray).map ByteArray.toList = [[99, 97, 112, 116, 105, 111, 110], [104, 116, 109, 108], [116, 97, 98, 108, 101], [116, 100], [116, 104]] from by decide +kernel]
theorem in_brk (k : Nat) (a : ByteArray) : rectoref07_In.f (k + 100) a ([(⟨#[98]⟩ : ByteArray), (⟨#[98, 105, 103]⟩ : ByteArray), (⟨#[98, 108, 111, 99, 107, 113, 117, 111, 116, 101]⟩ : ByteArray), (⟨#[98, 111, 100, 121]⟩ : ByteArray), (⟨#[98, 114]⟩ : ByteArray), (⟨#[99, 101, 110, 116, 101, 114]⟩ : ByteArray), (⟨#[99, 111, 100, 101]⟩ : ByteArray), (⟨#[100, 100]⟩ : ByteArray), (⟨#[100, 105, 118]⟩ : ByteArray), (⟨#[100, 108]⟩ : ByteArray), (⟨#[100, 116]⟩ : ByteArray), (⟨#[101, 109]⟩ : ByteArray), (⟨#[101, 109, 98, 101, 100]⟩ : ByteArray), (⟨#[104, 49]⟩ : ByteArray), (⟨#[104, 50]⟩ : ByteArray), (⟨#[104, 51]⟩ : ByteArray), (⟨#[104, 52]⟩ : ByteArray), (⟨#[104, 53]⟩ : ByteArray), (⟨#[104, 54]⟩ : ByteArray), (⟨#[104, 101, 97, 100]⟩ : ByteArray), (⟨#[104, 114]⟩ : ByteArray), (⟨#[105]⟩ : ByteArray), (⟨#[105, 109, 103]⟩ : ByteArray), (⟨#[108, 105]⟩ : ByteArray), (⟨#[108, 105, 115, 116, 105, 110, 103]⟩ : ByteArray), (⟨#[109, 101, 110, 117]⟩ : ByteArray), (⟨#[109, 101, 116, 97]⟩ : ByteArray), (⟨#[110, 111, 98, 114]⟩ : ByteArray), (⟨#[111, 108]⟩ : ByteArray), (⟨#[112]⟩ : ByteArray), (⟨#[112, 114, 101]⟩ : ByteArray), (⟨#[114, 117, 98, 121]⟩ : ByteArray), (⟨#[115]⟩ : ByteArray), (⟨#[115, 109, 97, 108, 108]⟩ : ByteArray), (⟨#[115, 112, 97, 110]⟩ : ByteArray), (⟨#[115, 116, 114, 105, 107, 101]⟩ : ByteArray), (⟨#[115, 116, 114, 111, 110, 103]⟩ : ByteArray), (⟨#[115, 117, 98]⟩ : ByteArray), (⟨#[115, 117, 112]⟩ : ByteArray), (⟨#[116, 97, 98, 108, 101]⟩ : ByteArray), (⟨#[116, 116]⟩ : ByteArray), (⟨#[117]⟩ : ByteArray), (⟨#[117, 108]⟩ : ByteArray), (⟨#[118, 97, 114]⟩ : ByteArray)] : List ByteArray) = some (decide (a.toList ∈ ([[98], [98, 105, 103], [98, 108, 111, 99, 107, 113, 117, 111, 116, 101], [98, 111, 100, 121], [98, 114], [99, 101, 110, 116, 101, 114], [99, 111, 100, 101], [100, 100], [100, 105, 118], [100, 108], [100, 116], [101, 109], [101, 109, 98, 101, 100], [104, 49], [104, 50], [104, 51], [104, 52], [104, 53], [104, 54], [104, 101, 97, 100], [104, 114], [105], [105, 109, 103], [108, 105], [108, 105, 115, 116, 105, 110, 103], [109, 101, 110, 117], [109, 101, 116, 97], [110, 111, 98, 114], [111, 108], [112], [112, 114, 101], [114, 117, 98, 121], [115], [115, 109, 97, 108, 108], [115, 112, 97, 110], [115, 116, 114, 105, 107, 101], [115, 116, 114, 111, 110, 103], [115, 117, 98], [115, 117, 112], [116, 97, 98, 108, 101], [116, 116], [117], [117, 108], [118, 97, 114]] : List (List UInt8)))) := by
  rw [in_eq _ _ _ (by simp) (by simp)]
  rw [show ([(⟨#[98]⟩ : ByteArray), (⟨#[98, 105, 103]⟩ : ByteArray), (⟨#[98, 108, 111, 99, 107, 113, 117, 111, 116, 101]⟩ : ByteArray), (⟨#[98, 111, 100, 121]⟩ : ByteArray), (⟨#[98, 114]⟩ : ByteArray), (⟨#[99, 101, 110, 116, 101, 114]⟩ : ByteArray), (⟨#[99, 111, 100, 101]⟩ : ByteArray), (⟨#[100, 100]⟩ : ByteArray), (⟨#[100, 105, 118]⟩ : ByteArray), (⟨#[100, 108]⟩ : ByteArray), (⟨#[100, 116]⟩ : ByteArray), (⟨#[101, 109]⟩ : ByteArray), (⟨#[101, 109, 98, 101, 100]⟩ : ByteArray), (⟨#[104, 49]⟩ : ByteArray), (⟨#[104, 50]⟩ : ByteArray), (⟨#[104, 51]⟩ : ByteArray), (⟨#[104, 52]⟩ : ByteArray), (⟨#[104, 53]⟩ : ByteArray), (⟨#[104, 54]⟩ : ByteArray), (⟨#[104, 101, 97, 100]⟩ : ByteArray), (⟨#[104, 114]⟩ : ByteArray), (⟨#[105]⟩ : ByteArray), (⟨#[105, 109, 103]⟩ : ByteArray), (⟨#[108, 105]⟩ : ByteArray), (⟨#[108, 105, 115, 116, 105, 110, 103]⟩ : ByteArray), (⟨#[109, 101, 110, 117]⟩ : ByteArray), (⟨#[109, 101, 116, 97]⟩ : ByteArray), (⟨#[110, 111, 98, 114]⟩ : ByteArray), (⟨#[111, 108]⟩ : ByteArray), (⟨#[112]⟩ : ByteArray), (⟨#[112, 114, 101]⟩ : ByteArray), (⟨#[114, 117, 98, 121]⟩ : ByteArray), (⟨#[115]⟩ : ByteArray), (⟨#[115, 109, 97, 108, 108]⟩ : ByteArray), (⟨#[115, 112, 97, 110]⟩ : ByteArray), (⟨#[115, 116, 114, 105, 107, 101]⟩ : ByteArray), (⟨#[115, 116, 114, 111, 110, 103]⟩ : ByteArray), (⟨#[115, 117, 98]⟩ : ByteArray), (⟨#[115, 117, 112]⟩ : ByteArray), (⟨#[116, 97, 98, 108, 101]⟩ : ByteArray), (⟨#[116, 116]⟩ : ByteArray), (⟨#[117]⟩ : ByteArray), (⟨#[117, 108]⟩ : ByteArray), (⟨#[118, 97, 114]⟩ : ByteArray)] : List ByteArray).map ByteArray.toList = [[98], [98, 105, 103], [98, 108, 111, 99, 107, 113, 117, 111, 116, 101], [98, 111, 100, 121], [98, 114], [99, 101, 110, 116, 101, 114], [99, 111, 100, 101], [100, 100], [100, 105, 118], [100, 108], [100, 116], [101, 109], [101, 109, 98, 101, 100], [104, 49], [104, 50], [104, 51], [104, 52], [104, 53], [104, 54], [104, 101, 97, 100], [104, 114], [105], [105, 109, 103], [108, 105], [108, 105, 115, 116, 105, 110, 103], [109, 101, 110, 117], [109, 101, 116, 97], [110, 111, 98, 114], [111, 108], [112], [112, 114, 101], [114, 117, 98, 121], [115], [115, 109, 97, 108, 108], [115, 112, 97, 110], [115, 116, 114, 105, 107, 101], [115, 116, 114, 111, 110, 103], [115, 117, 98], [115, 117, 112], [116, 97, 98, 108, 101], [116, 116], [117], [117, 108], [118, 97, 114]] from by decide +kernel]
theorem spe_in : ∀ s ∈ names, decide (s ∈ ([[98, 108, 111, 99, 107, 113, 117, 111, 116, 101], [98, 111, 100, 121], [98, 114], [99, 97, 112, 116, 105, 111, 110], [100, 105, 118], [102, 114, 97, 109, 101], [102, 114, 97, 109, 101, 115, 101, 116], [104, 49], [104, 50], [104, 51], [104, 101, 97, 100], [104, 114], [104, 116, 109, 108], [105, 109, 103], [105, 110, 112, 117, 116], [108, 105], [111, 108], [112], [112, 114, 101], [115, 99, 114, 105, 112, 116], [115, 101, 99, 116, 105, 111, 110], [115, 116, 121, 108, 101], [116, 97, 98, 108, 101], [116, 98, 111, 100, 121], [116, 100], [116, 101, 120, 116, 97, 114, 101, 97], [116, 104], [116, 104, 101, 97, 100], [116, 105, 116, 108, 101], [116, 114], [117, 108], [119, 98, 114], [120, 109, 112]] : List (List UInt8))) = (grp s != 0 && grp s != 9 && grp s != 10 && grp s != 17) := by decide +kernel
theorem spe_sub : ∀ s ∈ ([[98, 108, 111, 99, 107, 113, 117, 111, 116, 101], [98, 111, 100, 121], [98, 114], [99, 97, 112, 116, 105, 111, 110], [100, 105, 118], [102, 114, 97, 109, 101], [102, 114, 97, 109, 101, 115, 101, 116], [104, 49], [104, 50], [104, 51], [104, 101, 97, 100], [104, 114], [104, 116, 109, 108], [105, 109, 103], [105, 110, 112, 117, 116], [108, 105], [111, 108], [112], [112, 114, 101], [115, 99, 114, 105, 112, 116], [115, 101, 99, 116, 105, 111, 110], [115, 116, 121, 108, 101], [116, 97, 98, 108, 101], [116, 98, 111, 100, 121], [116, 100], [116, 101, 120, 116, 97, 114, 101, 97], [116, 104], [116, 104, 101, 97, 100], [116, 105, 116, 108, 101], [116, 114], [117, 108], [119, 98, 114], [120, 109, 112]] : List (List UInt8)), s ∈ names := by decide +kernel
theorem spe_eq (s : List UInt8) : decide (s ∈ ([[98, 108, 111, 99, 107, 113, 117, 111, 116, 101], [98, 111, 100, 121], [98, 114], [99, 97, 112, 116, 105, 111, 110], [100, 105, 118], [102, 114, 97, 109, 101], [102, 114, 97, 109, 101, 115, 101, 116], [104, 49], [104, 50], [104, 51], [104, 101, 97, 100], [104, 114], [104, 116, 109, 108], [105, 109, 103], [105, 110, 112, 117, 116], [108, 105], [111, 108], [112], [112, 114, 101], [115, 99, 114, 105, 112, 116], [115, 101, 99, 116, 105, 111, 110], [115, 116, 121, 108, 101], [116, 97, 98, 108, 101], [116, 98, 111, 100, 121], [116, 100], [116, 101, 120, 116, 97, 114, 101, 97], [116, 104], [116, 104, 101, 97, 100], [116, 105, 116, 108, 101], [116, 114], [117, 108], [119, 98, 114], [120, 109, 112]] : List (List UInt8))) = (grp s != 0 && grp s != 9 && grp s != 10 && grp s != 17) := by
  by_cases hs : s ∈ names
  · exact spe_in s hs
  · rw [grp_out s hs]
    simp only [decide_eq_false_iff_not, bne_self_eq_false, Bool.false_and]
    exact fun h => hs (spe_sub s h)
theorem refSpecial_eq (k : Nat) (x : Int) (a : ByteArray) : rectoref07_Special.f (k + 101) x a = some (if agn x a.toList = 0 then (if x = 0 then spc 0 a.toList else false) else true) := by
  unfold rectoref07_Special.f spc
  rw [refAgain_eq, show k + 101 = (k + 1) + 100 from by omega, in_spe, spe_eq]
  simp only [Option.bind_some, if_true]
  (repeat' split) <;> rfl
theorem refEnds_eq (k : Nat) (x : Int) (a : ByteArray) : rectoref07_Ends.f (k + 101) x a = some (if agn x a.toList = 0 then (if x = 0 then decide (a.toList ∈ ends) else false) else true) := by
  unfold rectoref07_Ends.f ends
  rw [refAgain_eq, show k + 101 = (k + 1) + 100 from by omega, in_end]
  simp only [Option.bind_some]
  (repeat' split) <;> rfl
theorem refBreaks_eq (k : Nat) (a : ByteArray) : rectoref07_Breaks.f (k + 100) a = some (decide (a.toList ∈ brks)) := by
  unfold rectoref07_Breaks.f brks
  rw [in_brk]
  simp only [Option.bind_some]
theorem agn_zero (s : List UInt8) : agn 0 s = 0 := by simp [agn]
theorem TagsKinds : rectolaw07_TagsKinds.Pure := by
  intro x a _ _
  refine ⟨101, ?_⟩
  unfold rectolaw07_TagsKinds.f
  have h1 := special_eq 94 x a
  have h2 := td_eq 94
  have h3 := refSpecial_eq 0 x a
  have h4 := refEnds_eq 0 x a
  have h5 := refBreaks_eq 1 a
  have h6 := refAgain_eq 0 x a
  simp only [Nat.reduceAdd] at h1 h2 h3 h4 h5 h6
  rw [h1, h2, h3, h4, h5, h6, ends_eq, again_eq, breaks_eq]
  simp only [Option.bind_some]
  by_cases e0 : x = 0
  · subst e0
    simp [agn_zero, enB]
  · by_cases ea : agn x a.toList = 0 <;> simp [e0, ea, spc, enB]


end Go.Proofs.Ytplcjpcdjhiieaa.Pure
