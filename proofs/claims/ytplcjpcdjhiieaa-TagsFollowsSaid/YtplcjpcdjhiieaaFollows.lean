/-
  For every space and name: each void element, block, heading and part is special; what ends a scope is special; no Format is special (TagsFollows answers true for every input). No condition.
  Written by an AI agent: the walk of TagsFollows and of Void by hand, over printed contracts of the functions below them.
-/
import Derived.Test.YtplcjpcdjhiieaaRows
import Derived.Test.YtplcjpcdjhiieaaPTagsSpacesx4
import Derived.Test.YtplcjpcdjhiieaaPureTagsSpaces
import Derived.WalkKit
import Derived.ProofKit
import Derived.OpenShut
import Derived.ShutString
import Derived.ChangeOld
import Derived.Below
import Derived.SizedLaws
namespace Go.Proofs.Ytplcjpcdjhiieaa.Follows
open Go.RowKit Go.Proofs.Ytplcjpcdjhiieaa.PTagsSpaces Go.Proofs.YtplcjpcdjhiieaaW.PrintWords Go.Proofs.YtplcjpcdjhiieaaW.PrintLast Go.Proofs.Ytplcjpcdjhiieaa.Pure

theorem special_any (x : Int) (a : ByteArray) (b : Bool) (h : spc x a.toList = b) (w : World) : Calls Try.prog 7 #[.int .i64 x, .string a] w fun e w' => e = .returned (.bool b) ∧ Drawn0 w w' :=
  tags_Special.calls 7 x a b w (by rw [← h]; exact special_eq 0 x a)
theorem ends_any (x : Int) (a : ByteArray) (b : Bool) (h : enB x a.toList = b) (w : World) : Calls Try.prog 9 #[.int .i64 x, .string a] w fun e w' => e = .returned (.bool b) ∧ Drawn0 w w' :=
  tags_Ends.calls x a b w (by rw [← h]; exact ends_eq x a)
theorem group_any (a : ByteArray) (g : Int) (h : grp a.toList = g) (w : World) : Calls Try.prog 16 #[.string a] w fun e w' => e = .returned (.int .i64 g) ∧ Drawn0 w w' :=
  tags_Group.calls 7 a g w (by rw [← h]; exact group_eq 0 a)
theorem td_any (w : World) : Calls Try.prog 15 #[] w fun e w' => e = .returned (.bool true) ∧ Drawn0 w w' :=
  rectolaw07_td.calls 7 true w (td_eq 0)

def voidB (g : Int) : Bool := g == 11 || g == 12
theorem void_any (a : ByteArray) (b : Bool) (h : voidB (grp a.toList) = b) (w : World) : Calls Try.prog 18 #[.string a] w fun e w' => e = .returned (.bool b) ∧ Drawn0 w w' := by
  obtain ⟨g, hg⟩ : ∃ g, grp a.toList = g := ⟨_, rfl⟩
  rw [hg] at h
  have HG : Hid (grp a.toList = g) := hg
  clear hg
  by_cases h1 : g = 11
  · subst h1
    obtain rfl : b = true := h.symm
    clear h
    go_enter Try.func18, Try.ntmps18
    go_wp2_with (go_at_call 16; (with_reducible refine (group_any a 11 HG.out _).mono ?_); rintro e w' ⟨rfl, ⟨nd, rfl⟩⟩)
    go_ret
    exact ⟨rfl, by repeat (first | exact Drawn0.refl _ | apply Drawn0.step)⟩
  · have b1 : (g == 11) = false := by simpa using h1
    simp only [voidB, b1, Bool.false_or] at h
    clear h1
    go_enter Try.func18, Try.ntmps18
    go_wp2_with (go_at_call 16; (with_reducible refine (group_any a g HG.out _).mono ?_); rintro e w' ⟨rfl, ⟨nd, rfl⟩⟩)
    go_ret
    exact ⟨by first | rfl | simp [h], by repeat (first | exact Drawn0.refl _ | apply Drawn0.step)⟩

theorem ends_in : ∀ s ∈ ends, grp s ≠ 0 ∧ grp s ≠ 9 ∧ grp s ≠ 10 ∧ grp s ≠ 17 := by decide +kernel
theorem agn_in : ∀ s ∈ ([[109, 105], [109, 110], [109, 111], [109, 115], [109, 116, 101, 120, 116], [100, 101, 115, 99], [102, 111, 114, 101, 105, 103, 110, 111, 98, 106, 101, 99, 116], [116, 105, 116, 108, 101]] : List (List UInt8)), grp s ≠ 10 := by decide +kernel
theorem agn_fmt (x : Int) (s : List UInt8) (h : grp s = 10) : agn x s = 0 := by
  by_cases hs : s ∈ ([[109, 105], [109, 110], [109, 111], [109, 115], [109, 116, 101, 120, 116], [100, 101, 115, 99], [102, 111, 114, 101, 105, 103, 110, 111, 98, 106, 101, 99, 116], [116, 105, 116, 108, 101]] : List (List UInt8))
  · exact absurd h (agn_in s hs)
  · simp only [List.mem_cons, List.not_mem_nil, or_false, not_or] at hs
    simp [agn, hs]
theorem ends_spc (x : Int) (s : List UInt8) (h : enB x s = true) : spc x s = true := by
  by_cases e0 : x = 0
  · simp only [enB, e0, if_true, decide_eq_true_eq] at h
    have := ends_in s h
    simp [spc, e0, this]
  · simpa [enB, spc, e0] using h
theorem fmt_spc (x : Int) (s : List UInt8) (h : grp s = 10) : spc x s = false := by
  by_cases e0 : x = 0 <;> simp [spc, e0, h, agn_fmt]
theorem first_spc (s : List UInt8) (h : voidB (grp s) = true ∨ grp s = 4 ∨ grp s = 6 ∨ grp s = 2) : spc 0 s = true := by
  rcases h with h | h | h | h
  · simp only [voidB, Bool.or_eq_true, beq_iff_eq] at h
    rcases h with h | h <;> simp [spc, h]
  all_goals simp [spc, h]

set_option maxHeartbeats 1600000 in
/-- The law, whatever its two inputs: true; memory as it was, but for draws. -/
theorem follows_any (x : Int) (a : ByteArray) (w : World) : Calls Try.prog 6 #[.int .i64 x, .string a] w fun e w' => e = .returned (.bool true) ∧ Drawn0 w w' := by
  obtain ⟨g, hg⟩ : ∃ g, grp a.toList = g := ⟨_, rfl⟩
  obtain ⟨v, hv⟩ : ∃ v, voidB (grp a.toList) = v := ⟨_, rfl⟩
  obtain ⟨n, hn⟩ : ∃ n, enB x a.toList = n := ⟨_, rfl⟩
  obtain ⟨p, hp⟩ : ∃ p, spc x a.toList = p := ⟨_, rfl⟩
  have F0 := first_spc a.toList
  have F1 := ends_spc x a.toList
  have F2 := fmt_spc x a.toList
  have HV : Hid (voidB (grp a.toList) = v) := hv
  have HG : Hid (grp a.toList = g) := hg
  have HN : Hid (enB x a.toList = n) := hn
  have HP : Hid (spc x a.toList = p) := hp
  rw [hv, hg] at F0
  rw [hn, hp] at F1
  rw [hg, hp] at F2
  clear hv hg hn hp
  obtain ⟨f, hf⟩ : ∃ f : Bool, f = true ↔ (v = true ∨ g = 4 ∨ g = 6 ∨ g = 2) := ⟨decide (v = true ∨ g = 4 ∨ g = 6 ∨ g = 2), by simp⟩
  have last : n = true ∧ g ≠ 10 ∧ p = true ∨ n = false ∧ g = 10 ∧ p = false ∨ n = false ∧ g ≠ 10 := by
    cases n
    · by_cases e : g = 10
      · exact .inr (.inl ⟨rfl, e, F2 e⟩)
      · exact .inr (.inr ⟨rfl, e⟩)
    · have hp := F1 rfl
      exact .inl ⟨rfl, fun e => by simp [F2 e] at hp, hp⟩
  clear F1 F2 hf f
  have HF : Hid (v = true ∨ g = 4 ∨ g = 6 ∨ g = 2 → spc 0 a.toList = true) := F0
  clear F0
  have parts : v = true ∨ v = false ∧ g = 4 ∨ v = false ∧ g = 6 ∨ v = false ∧ g = 2 ∨ v = false ∧ g ≠ 4 ∧ g ≠ 6 ∧ g ≠ 2 := by
    cases v
    · by_cases h4 : g = 4
      · exact .inr (.inl ⟨rfl, h4⟩)
      by_cases h6 : g = 6
      · exact .inr (.inr (.inl ⟨rfl, h6⟩))
      by_cases h2 : g = 2
      · exact .inr (.inr (.inr (.inl ⟨rfl, h2⟩)))
      exact .inr (.inr (.inr (.inr ⟨rfl, h4, h6, h2⟩)))
    · exact .inl rfl
  rcases parts with rfl | ⟨rfl, rfl⟩ | ⟨rfl, rfl⟩ | ⟨rfl, rfl⟩ | ⟨rfl, h4, h6, h2⟩
  all_goals first | (have H0 : spc 0 a.toList = true := HF.out (Or.inl rfl)) | (have H0 : spc 0 a.toList = true := HF.out (Or.inr (Or.inl rfl))) | (have H0 : spc 0 a.toList = true := HF.out (Or.inr (Or.inr (Or.inl rfl)))) | (have H0 : spc 0 a.toList = true := HF.out (Or.inr (Or.inr (Or.inr rfl)))) | skip
  all_goals rcases last with ⟨rfl, h10, rfl⟩ | ⟨rfl, h10, rfl⟩ | ⟨rfl, h10⟩
  all_goals first | (subst h10) | skip
  all_goals first | (exact absurd h10 (by decide)) | skip
  all_goals try (have b10 : (g == 10) = false := by simpa using h10)
  all_goals try (have c10 : (g != 10) = true := by simpa using h10)
  all_goals try (have b4 : (g == 4) = false := by simpa using h4)
  all_goals try (have b6 : (g == 6) = false := by simpa using h6)
  all_goals try (have b2 : (g == 2) = false := by simpa using h2)
  all_goals try (have HS0 : Hid (spc 0 a.toList = true) := H0)
  all_goals clear HF
  all_goals try clear H0
  all_goals go_enter Try.func6, Try.ntmps6
  all_goals go_wp2_with (first | (go_at_call 16; (with_reducible refine (group_any a _ HG.out _).mono ?_); rintro e w' ⟨rfl, ⟨nd, rfl⟩⟩) | (go_at_call 18; (with_reducible refine (void_any a _ HV.out _).mono ?_); rintro e w' ⟨rfl, ⟨nd, rfl⟩⟩) | (go_at_call_of 7 (Value.int .i64 0); (with_reducible refine (special_any 0 a _ HS0.out _).mono ?_); rintro e w' ⟨rfl, ⟨nd, rfl⟩⟩) | (go_at_call 7; (with_reducible refine (special_any x a _ HP.out _).mono ?_); rintro e w' ⟨rfl, ⟨nd, rfl⟩⟩) | (go_at_call 9; (with_reducible refine (ends_any x a _ HN.out _).mono ?_); rintro e w' ⟨rfl, ⟨nd, rfl⟩⟩) | (go_at_call 15; (with_reducible refine (td_any _).mono ?_); rintro e w' ⟨rfl, ⟨nd, rfl⟩⟩))
  all_goals go_ret
  all_goals exact ⟨rfl, by repeat (first | exact Drawn0.refl _ | apply Drawn0.step)⟩

end Go.Proofs.Ytplcjpcdjhiieaa.Follows
namespace Go.Proofs.Ytplcjpcdjhiieaa.tagsFollows
open Go.ChangeShapes Go.WideShapes Go.ChangeAt Go.RowKit
open Go.ChangeMaps (open_string shut_string)
set_option linter.unusedVariables false
theorem own : ownKnob Try.prog.godebug = none := by kernel_rfl
set_option maxRecDepth 100000 in
theorem lifted (os : Os) (started : os.Started) (H : Type) (enc : TypeId × Value → H) :
    ReturnsInHanded {} Try.checked os 6 .any (Rows.tagsFollowsSpec.pre6 enc Try.prog Try.f6 Rows.tagsFollowsRow.domain false) (Rows.tagsFollowsSpec.post enc Try.prog Try.f6 false true false false) := by
  refine returnsInHanded_of_change_sized (C := Try.checked) own started (by kernel_rfl) Try.func6
    (ChangeSpec.witness6 (enc := enc) (C := Try.checked) false ⟨#[], #[.int .i64 0, .string ByteArray.empty], []⟩ 8 (by kernel_rfl) (by kernel_rfl) (by kernel_rfl) (by kernel_rfl)) ?_
  intro W base args ds gs before hval0 hW hcnd hsz0 _
  have hsz : (DataW.weightsEach Try.prog (Try.f6.params.toList ++ Rows.tagsFollowsSpec.plain.varTypes Try.prog) (ds ++ gs)).all (· ≤ reachBytes) = true := hsz0
  have hval : ∀ (j : Nat) t v, Try.f6.params[j]? = some t → args[j]? = some v → Value.okWide Try.prog W .any base t v := hval0
  have hW' := hW
  obtain ⟨p, q, hA0, hV, rfl, hfz, hnd⟩ := hW
  have hA : DataW.TrodAll enc Try.prog W 0 (fun _ => true) true Try.f6.params.toList args.toList ds p := hA0
  rw [Try.params6] at hA hval hsz
  obtain ⟨v0, vs0, d0, ds0, p0, q0, hargs, rfl, rfl, h0, r0⟩ := trodAll_cons hA
  obtain ⟨v1, vs1, d1, ds1, p1, q1, rfl, rfl, rfl, h1, r1⟩ := trodAll_cons r0
  obtain ⟨rfl, rfl, rfl⟩ := trodAll_nil r1
  obtain rfl : args = #[v0, v1] := by cases args; simp_all
  obtain ⟨rfl, rfl⟩ := trodVars_none hV
  obtain ⟨a0, rfl, rfl, rfl, w0⟩ := open_int Try.underlying3 (hval 0 3 v0 rfl rfl) h0
  obtain ⟨a1, rfl, rfl, rfl, y1⟩ := open_string Try.underlying9 (hval 1 9 v1 rfl rfl) h1
  have w1 : a1.size ≤ 140737488351232 := by
    have z := sized_string hsz (j := 1) (t := 9) rfl rfl
    rw [Array.length_toList] at z
    exact z
  clear hA0 hval0 hsz0 hsz
  refine (Follows.follows_any a0 a1 W).mono fun e W' ⟨he, hd⟩ => ?_
  subst he
  have bel := hd.below
  exact ⟨_, rfl, _, _, _, [], _, [], hW', trodAll_mk1 (shut_bool Try.underlying4 _), (trodAll_cons_mk (shut_int Try.underlying3 w0) (trodAll_cons_mk (shut_string Try.underlying9 y1) trodAll_mk0)), rfl, bel.frame _, fun h => by cases h⟩
theorem over : Rows.tagsFollowsRow.holds Try.pinned (OpenSpec.ofChange Rows.tagsFollowsSpec) :=
  OpenClaim.holds_of_wide 6 Try.f6 rfl rfl rfl rfl rfl rfl rfl ⟨rfl, rfl, rfl, rfl, rfl⟩ rfl rfl rfl rfl rfl (by kernel_rfl) Try.func6 (by kernel_rfl)
    (of_decide_eq_true (by kernel_rfl)) (by unfold Func.isWrapper; first | (rw [if_pos (by decide +kernel)]; kernel_rfl) | (rw [if_neg (by decide +kernel)]; exact ⟨rfl, rfl⟩))
    (fun os started H enc _ => lifted os started H enc)
theorem proved : Rows.TagsFollowsSaid := over
#print axioms proved
end Go.Proofs.Ytplcjpcdjhiieaa.tagsFollows
namespace Go.Proofs.Ytplcjpcdjhiieaa
/-- The row, under a short name, for the claim. -/
theorem tagsFollows_holds : Rows.TagsFollowsSaid := tagsFollows.proved
end Go.Proofs.Ytplcjpcdjhiieaa
