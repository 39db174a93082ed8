/-
  rectolaw10.ActiveFull returns true for every number.
  Written by an AI agent.
-/
import Derived.Test.YtjopfgdgmniigaaInsL
import Derived.Test.YtjopfgdgmniigaaOpen
import Derived.Test.YtjopfgdgmniigaaRows
namespace Go.Proofs.Ytjopfgdgmniigaa
open Go.RowKit Go.Maps

def marksL (k : Nat) : List Ent := List.replicate (if k < 100 then k else 100) markE
def bE : Ent := ⟨false, 0, ⟨#[98]⟩, []⟩

theorem marksL_succ (k : Nat) : markS (marksL k) = marksL (k + 1) := by
  unfold markS marksL
  by_cases h : k < 100
  · rw [if_pos h]
    by_cases h1 : k + 1 < 100
    · rw [if_pos h1, if_neg (by simp; omega), ← List.replicate_succ']
    · have : k = 99 := by omega
      subst this
      rfl
  · have h1 : ¬ k + 1 < 100 := by omega
    simp [h, h1]
theorem marksL_res (k : Nat) : markR (marksL k) = if k < 100 then 0 else 5 := by
  unfold markR marksL
  by_cases h : k < 100
  · rw [if_pos h, if_neg (by simp; omega), if_pos h]
  · rw [if_neg h, if_pos (by simp), if_neg h]
theorem marksL_length (k : Nat) : (marksL k).length = if k < 100 then k else 100 := by simp [marksL]
theorem addL_length_ge (es : List Ent) (e : Ent) (h : (es.drop (partE es)).countP (alikeE · e) = 0) : addL es e = es ++ [e] := by
  unfold addL
  rw [h]
  simp
theorem part_marks (n : Nat) : partE (List.replicate n markE) = n := by
  unfold partE
  cases n with
  | zero => rfl
  | succ n =>
    rw [List.reverse_replicate, List.replicate_succ, partR_cons]
    simp [markE]
theorem marks_add (k : Nat) : addS (marksL k) bE = if k < 100 then marksL k ++ [bE] else marksL k := by
  unfold addS
  rw [if_neg (by decide), marksL_length]
  by_cases h : k < 100
  · rw [if_pos h, if_neg (by omega), if_pos h, addL_length_ge]
    unfold marksL
    rw [part_marks, List.drop_eq_nil_of_le (by simp)]
    rfl
  · rw [if_neg h, if_pos rfl, if_neg h]
theorem marks_addR (k : Nat) : addR (marksL k) bE = if k < 100 then 0 else 5 := by
  unfold addR
  rw [if_neg (by decide), marksL_length]
  by_cases h : k < 100
  · rw [if_pos h, if_neg (by omega), if_pos h]
  · rw [if_neg h, if_pos rfl, if_neg h]
theorem marks_insR (k : Nat) : insR (addS (marksL k) bE) 0 bE = if k < 99 then 0 else 5 := by
  rw [marks_add]
  unfold insR insB
  by_cases h : k < 100
  · rw [if_pos h]
    have hl : (marksL k ++ [bE]).length = k + 1 := by simp [marksL_length, h]
    rw [hl]
    rw [if_neg (by simp [wrongB, bE]; omega)]
    by_cases h9 : k < 99
    · rw [if_neg (by omega), if_pos h9]
    · rw [if_pos (by omega), if_neg h9]
  · rw [if_neg h]
    rw [marksL_length, if_neg h]
    rw [if_neg (by simp [wrongB, bE]), if_pos rfl, if_neg (by omega)]

theorem mark_n {w : World} {B lb k : Nat} {r : Int} (h : ListIs w B lb 63 33 (marksL k)) (hr : (if k < 100 then 0 else 5) = r) : Calls Try.prog 24 #[ptr lb] w (AddIt B lb (marksL (k + 1)) r w) := by
  subst hr
  have := mark_any h (by rw [marksL_length]; split <;> omega)
  rw [marksL_succ, marksL_res] at this
  exact this
theorem full_add {w : World} {B lb k : Nat} {r : Int} (h : ListIs w B lb 63 33 (marksL k)) (hr : (if k < 100 then 0 else 5) = r) : Calls Try.prog 22 #[ptr lb, .agg #[.bool false, i64 0, .string ⟨#[98]⟩, .slice none 0 0]] w (AddIt B lb (addS (marksL k) bE) r w) := by
  subst hr
  have := add_any (mk := false) (id := 0) (nm := ⟨#[98]⟩) h (by rw [marksL_length]; split <;> omega) (AtrsAt.nil w B)
  rw [show (⟨false, 0, ⟨#[98]⟩, []⟩ : Ent) = bE from rfl, marks_addR] at this
  exact this
theorem full_ins {w : World} {B lb k : Nat} {r : Int} (h : ListIs w B lb 63 33 (addS (marksL k) bE)) (hr : (if k < 99 then 0 else 5) = r) : Calls Try.prog 23 #[ptr lb, .int .i64 0, .agg #[.bool false, i64 0, .string ⟨#[98]⟩, .slice none 0 0]] w (AddIt B lb (insS (addS (marksL k) bE) 0 bE) r w) := by
  subst hr
  have := ins_any (mk := false) (id := 0) (p := 0) (nm := ⟨#[98]⟩) h (addS_length _ (by rw [marksL_length]; split <;> omega)) (AtrsAt.nil w B)
  rw [show (⟨false, 0, ⟨#[98]⟩, []⟩ : Ent) = bE from rfl, marks_insR] at this
  exact this

set_option maxHeartbeats 4000000 in
theorem activeFull_out {w : World} {n : Int} (hn : n < 0 ∨ 120 < n) : Calls Try.prog 8 #[i64 n] w fun e w' => e = .returned (.bool true) ∧ Below w.heap.size w w' := by
  by_cases h0 : n < 0
  · have z1 : decide (n < 0) = true := by simpa using h0
    clear hn
    go_enter Try.func8, Try.ntmps8
    go_wp2_with (first
      | (go_at_call 9; (with_reducible refine (new_any _).mono ?_); rintro e w1 ⟨rfl, hl, hb⟩; have H1 := Lib.hid hb; clear hl hb)
      | (go_at_call 10; (with_reducible refine (four_any _).mono ?_); rintro e w2 ⟨rfl, hb⟩; have H2 := Lib.hid hb; clear hb))
    go_ret
    exact ⟨rfl, H1.out.trans (H2.out.mono H1.out.size)⟩
  · have z1 : decide (n < 0) = false := by simpa using h0
    have z2 : decide (120 < n) = true := by simp; omega
    clear hn
    go_enter Try.func8, Try.ntmps8
    go_wp2_with (first
      | (go_at_call 9; (with_reducible refine (new_any _).mono ?_); rintro e w1 ⟨rfl, hl, hb⟩; have H1 := Lib.hid hb; clear hl hb)
      | (go_at_call 10; (with_reducible refine (four_any _).mono ?_); rintro e w2 ⟨rfl, hb⟩; have H2 := Lib.hid hb; clear hb))
    go_ret
    exact ⟨rfl, H1.out.trans (H2.out.mono H1.out.size)⟩

set_option maxHeartbeats 8000000 in
set_option maxRecDepth 100000 in
theorem activeFull_main {w : World} {n : Nat} (hn : n ≤ 120) : Calls Try.prog 8 #[i64 n] w fun e w' => e = .returned (.bool true) ∧ Below w.heap.size w w' := by
  have z1 : decide ((n : Int) < 0) = false := by simp
  have z2 : decide ((120 : Int) < (n : Int)) = false := by simp; omega
  go_enter Try.func8, Try.ntmps8
  go_wp2_with (first
    | (go_at_call 9; (with_reducible refine (new_any _).mono ?_); rintro e w1 ⟨rfl, hl1, hb⟩; have H1 := Lib.hid (And.intro hl1 hb); clear hl1 hb))
  go_loopw [4] (fun i wr => ∃ k : Nat, k ≤ n ∧ i = i64 k ∧ Hid (ListIs wr w.heap.size w.heap.size 63 33 (marksL k)) ∧ Below w.heap.size w wr) (fun i _ => n - (intOf i).toNat)
  case atStart => exact ⟨0, Nat.zero_le _, rfl, Lib.hid H1.out.1, H1.out.2⟩
  case round =>
    obtain ⟨k, hk, rfl, HK, hbel⟩ := hrel
    have HBE := Lib.hid hbel
    clear hbel
    by_cases hlt : k < n
    · by_cases h100 : k < 100
      · have z3 : decide ((k : Int) < 100) = true := by simp; omega
        go_wp2_with (first | (go_at_call 24; (with_reducible refine (mark_n HK.out (if_pos h100)).mono ?_); rintro e w2 ⟨rfl, hl2, hf2⟩; have H2 := Lib.hid (And.intro hl2 hf2); clear hl2 hf2))
        go_roundw
        case rel => exact ⟨k + 1, by omega, by go_num, Lib.hid H2.out.1, HBE.out.trans (below_of_fr H2.out.2 HBE.out.size)⟩
        case measure => simp [intOf]; omega
      · have z3 : decide ((k : Int) < 100) = false := by simp; omega
        go_wp2_with (first | (go_at_call 24; (with_reducible refine (mark_n HK.out (if_neg h100)).mono ?_); rintro e w2 ⟨rfl, hl2, hf2⟩; have H2 := Lib.hid (And.intro hl2 hf2); clear hl2 hf2))
        go_roundw
        case rel => exact ⟨k + 1, by omega, by go_num, Lib.hid H2.out.1, HBE.out.trans (below_of_fr H2.out.2 HBE.out.size)⟩
        case measure => simp [intOf]; omega
    · have hkn : k = n := by omega
      subst hkn
      by_cases h100 : k < 100
      · have z3 : decide ((100 : Int) ≤ (k : Int)) = false := by simp; omega
        by_cases h99 : k < 99
        · have z4 : decide ((99 : Int) ≤ (k : Int)) = false := by simp; omega
          go_wp2_with (first
            | (go_at_call 22; (with_reducible refine (full_add HK.out (if_pos h100)).mono ?_); rintro e w2 ⟨rfl, hl2, hf2⟩; have H2 := Lib.hid (And.intro hl2 hf2); clear hl2 hf2)
            | (go_at_call 23; (with_reducible refine (full_ins H2.out.1 (if_pos h99)).mono ?_); rintro e w3 ⟨rfl, _, hf3⟩; have H3 := Lib.hid hf3; clear hf3)
            | (go_at_call 10; (with_reducible refine (four_any _).mono ?_); rintro e w4 ⟨rfl, hb⟩; have H4 := Lib.hid hb; clear hb))
          go_ret
          have b1 := HBE.out.trans (below_of_fr H2.out.2 HBE.out.size)
          have b2 := b1.trans (below_of_fr H3.out b1.size)
          exact ⟨rfl, b2.trans (H4.out.mono b2.size)⟩
        · have z4 : decide ((99 : Int) ≤ (k : Int)) = true := by simp; omega
          go_wp2_with (first
            | (go_at_call 22; (with_reducible refine (full_add HK.out (if_pos h100)).mono ?_); rintro e w2 ⟨rfl, hl2, hf2⟩; have H2 := Lib.hid (And.intro hl2 hf2); clear hl2 hf2)
            | (go_at_call 23; (with_reducible refine (full_ins H2.out.1 (if_neg h99)).mono ?_); rintro e w3 ⟨rfl, _, hf3⟩; have H3 := Lib.hid hf3; clear hf3)
            | (go_at_call 10; (with_reducible refine (four_any _).mono ?_); rintro e w4 ⟨rfl, hb⟩; have H4 := Lib.hid hb; clear hb))
          go_ret
          have b1 := HBE.out.trans (below_of_fr H2.out.2 HBE.out.size)
          have b2 := b1.trans (below_of_fr H3.out b1.size)
          exact ⟨rfl, b2.trans (H4.out.mono b2.size)⟩
      · have z3 : decide ((100 : Int) ≤ (k : Int)) = true := by simp; omega
        have z4 : decide ((99 : Int) ≤ (k : Int)) = true := by simp; omega
        go_wp2_with (first
          | (go_at_call 22; (with_reducible refine (full_add HK.out (if_neg h100)).mono ?_); rintro e w2 ⟨rfl, hl2, hf2⟩; have H2 := Lib.hid (And.intro hl2 hf2); clear hl2 hf2)
          | (go_at_call 23; (with_reducible refine (full_ins H2.out.1 (if_neg (by omega))).mono ?_); rintro e w3 ⟨rfl, _, hf3⟩; have H3 := Lib.hid hf3; clear hf3)
          | (go_at_call 10; (with_reducible refine (four_any _).mono ?_); rintro e w4 ⟨rfl, hb⟩; have H4 := Lib.hid hb; clear hb))
        go_ret
        have b1 := HBE.out.trans (below_of_fr H2.out.2 HBE.out.size)
        have b2 := b1.trans (below_of_fr H3.out b1.size)
        exact ⟨rfl, b2.trans (H4.out.mono b2.size)⟩

theorem activeFull_walk {w : World} {n : Int} : Calls Try.prog 8 #[i64 n] w fun e w' => e = .returned (.bool true) ∧ Below w.heap.size w w' := by
  by_cases h : n < 0 ∨ 120 < n
  · exact activeFull_out h
  · obtain ⟨k, rfl⟩ : ∃ k : Nat, n = (k : Int) := ⟨n.toNat, by omega⟩
    exact activeFull_main (by omega)

namespace activeFull
open Go.ChangeShapes Go.WideShapes Go.ChangeAt Go.RowKit Go.Joins Go.Deep
open Go.ChangeMaps (open_string shut_string)
set_option linter.unusedVariables false
set_option maxRecDepth 100000 in
theorem lifted (os : Os) (started : os.Started) (H : Type) (enc : TypeId × Value → H) :
    ReturnsInHanded {} Try.checked os 8 .any (Rows.activeFullSpec.pre6 enc Try.prog Try.f8 Rows.activeFullRow.domain false) (Rows.activeFullSpec.post enc Try.prog Try.f8 false true false false) := by
  refine returnsInHanded_of_change_sized (C := Try.checked) own started (by kernel_rfl) Try.func8
    (ChangeSpec.witness6 (enc := enc) (C := Try.checked) false ⟨#[], #[.int .i64 0], []⟩ 8 (by kernel_rfl) (by kernel_rfl) (by kernel_rfl) (by kernel_rfl)) ?_
  intro W base args ds gs before hval0 hW hcnd hsz0 _
  have hval : ∀ (j : Nat) t v, Try.f8.params[j]? = some t → args[j]? = some v → Value.okWide Try.prog W .any base t v := hval0
  have hW' := hW
  obtain ⟨p, q, hA0, hV, rfl, hfz, hnd⟩ := hW
  have hA : DataW.TrodAll enc Try.prog W 0 (fun _ => true) true Try.f8.params.toList args.toList ds p := hA0
  rw [Try.params8] at hA hval
  obtain ⟨v0, vs0, d0, ds0, p0, q0, hargs, rfl, rfl, h0, r0⟩ := trodAll_cons hA
  obtain ⟨rfl, rfl, rfl⟩ := trodAll_nil r0
  obtain rfl : args = #[v0] := by cases args; simp_all
  obtain ⟨rfl, rfl⟩ := trodVars_none hV
  obtain ⟨a0, rfl, rfl, rfl, w0⟩ := open_int Try.underlying3 (hval 0 3 v0 rfl rfl) h0
  clear hA0 hval0 hsz0
  refine activeFull_walk.mono fun e W' ⟨he, bel⟩ => ?_
  subst he
  exact ⟨_, rfl, _, _, _, [], _, [], hW', trodAll_mk1 (shut_bool Try.underlying4 _), (trodAll_cons_mk (shut_int Try.underlying3 w0) trodAll_mk0), rfl, bel.frame _, fun h => by cases h⟩
theorem over : Rows.activeFullRow.holds Try.pinned (OpenSpec.ofChange Rows.activeFullSpec) :=
  OpenClaim.holds_of_wide 8 Try.f8 rfl rfl rfl rfl rfl rfl rfl ⟨rfl, rfl, rfl, rfl, rfl⟩ rfl rfl rfl rfl rfl (by kernel_rfl) Try.func8 (by kernel_rfl)
    (of_decide_eq_true (by kernel_rfl)) (by unfold Func.isWrapper; first | (rw [if_pos (by decide +kernel)]; kernel_rfl) | (rw [if_neg (by decide +kernel)]; exact ⟨rfl, rfl⟩))
    (fun os started H enc _ => lifted os started H enc)
end activeFull
/-- The row: whatever the number, true. -/
theorem activeFull_holds : Rows.ActiveFullSaid := activeFull.over

end Go.Proofs.Ytjopfgdgmniigaa
