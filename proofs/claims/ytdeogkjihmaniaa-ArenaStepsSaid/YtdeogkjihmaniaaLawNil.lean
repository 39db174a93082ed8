/-
  rectolaw11.ArenaNil returns true for every step.
  Written by an AI agent.
-/
import Derived.Test.YtdeogkjihmaniaaOpen
import Derived.Test.YtdeogkjihmaniaaRows
namespace Go.Proofs.Ytdeogkjihmaniaa
open Go.RowKit

theorem nil_is (id : Int) (w : World) : Calls Try.prog 35 #[.pointer none, i64 id] w fun e w' => e = .returned (.bool false) ∧ w = w' := by
  go_enter Try.func35, Try.ntmps35
  go_wp2
  all_goals go_ret
  all_goals exact ⟨rfl, rfl⟩
theorem nil_element (id : Int) (w : World) : Calls Try.prog 32 #[.pointer none, i64 id] w fun e w' => e = .returned (.bool false) ∧ w = w' := by
  go_enter Try.func32, Try.ntmps32
  go_wp2_with (first | (go_at_call 35; (with_reducible refine (nil_is _ _).mono ?_); rintro e w' ⟨rfl, rfl⟩))
  all_goals go_ret
  all_goals exact ⟨rfl, rfl⟩
theorem nil_add (kind space : Int) (nm tx : ByteArray) (w : World) : Calls Try.prog 31 #[.pointer none, .agg #[i64 kind, i64 space, .string nm, .slice none 0 0, .string tx, .slice none 0 0]] w fun e w' => e = .returned (.tuple #[i64 0, i64 7]) ∧ Below w.heap.size w w' := by
  go_enter Try.func31, Try.ntmps31
  go_wp2
  all_goals go_ret2
  all_goals exact ⟨rfl, (Below.refl _ _).alloc (Nat.le_refl _) _⟩
theorem nil_clone (w : World) : Calls Try.prog 34 #[.slice none 0 0] w fun e w' => e = .returned (.slice none 0 0) ∧ w = w' := by
  have e1 := eqlNA w 0 0
  go_enter Try.func34, Try.ntmps34
  go_wp2
  go_ret
  exact ⟨rfl, rfl⟩
theorem nil_elem (space : Int) (nm : ByteArray) (w : World) : Calls Try.prog 14 #[.pointer none, i64 space, .string nm, .slice none 0 0] w fun e w' => e = .returned (.tuple #[i64 0, i64 7]) ∧ Below w.heap.size w w' := by
  go_enter Try.func14, Try.ntmps14
  go_wp2_with (first
    | (go_at_call 34; (with_reducible refine (nil_clone _).mono ?_); rintro e w' ⟨rfl, rfl⟩)
    | (go_at_call 31; (with_reducible refine (nil_add _ _ _ _ _).mono ?_); rintro e w' ⟨rfl, hb⟩; have HB := Lib.hid hb; clear hb))
  go_ret2
  exact ⟨rfl, HB.out⟩
theorem nil_comment (tx : ByteArray) (w : World) : Calls Try.prog 11 #[.pointer none, .string tx] w fun e w' => e = .returned (.tuple #[i64 0, i64 7]) ∧ Below w.heap.size w w' := by
  go_enter Try.func11, Try.ntmps11
  go_wp2_with (first
    | (go_at_call 31; (with_reducible refine (nil_add _ _ _ _ _).mono ?_); rintro e w' ⟨rfl, hb⟩; have HB := Lib.hid hb; clear hb))
  go_ret2
  exact ⟨rfl, HB.out⟩
theorem nil_parent (id : Int) (w : World) : Calls Try.prog 22 #[.pointer none, i64 id] w fun e w' => e = .returned (.tuple #[i64 0, .bool false]) ∧ w = w' := by
  go_enter Try.func22, Try.ntmps22
  go_wp2_with (first | (go_at_call 35; (with_reducible refine (nil_is _ _).mono ?_); rintro e w' ⟨rfl, rfl⟩))
  all_goals go_ret2
  all_goals exact ⟨rfl, rfl⟩
theorem nil_app (p id : Int) (w : World) : Calls Try.prog 15 #[.pointer none, i64 p, i64 id] w fun e w' => e = .returned (i64 1) ∧ w = w' := by
  go_enter Try.func15, Try.ntmps15
  go_wp2_with (first | (go_at_call 32; (with_reducible refine (nil_element _ _).mono ?_); rintro e w' ⟨rfl, rfl⟩))
  go_ret
  exact ⟨rfl, rfl⟩
theorem nil_bef (p id : Int) (w : World) : Calls Try.prog 28 #[.pointer none, i64 p, i64 id] w fun e w' => e = .returned (i64 1) ∧ w = w' := by
  go_enter Try.func28, Try.ntmps28
  go_wp2_with (first | (go_at_call 35; (with_reducible refine (nil_is _ _).mono ?_); rintro e w' ⟨rfl, rfl⟩))
  go_ret
  exact ⟨rfl, rfl⟩
theorem nil_det (id : Int) (w : World) : Calls Try.prog 27 #[.pointer none, i64 id] w fun e w' => e = .returned (i64 1) ∧ w = w' := by
  go_enter Try.func27, Try.ntmps27
  go_wp2_with (first | (go_at_call 35; (with_reducible refine (nil_is _ _).mono ?_); rintro e w' ⟨rfl, rfl⟩))
  go_ret
  exact ⟨rfl, rfl⟩
theorem nil_give (p id : Int) (w : World) : Calls Try.prog 29 #[.pointer none, i64 p, i64 id] w fun e w' => e = .returned (i64 1) ∧ w = w' := by
  go_enter Try.func29, Try.ntmps29
  go_wp2_with (first | (go_at_call 32; (with_reducible refine (nil_element _ _).mono ?_); rintro e w' ⟨rfl, rfl⟩))
  go_ret
  exact ⟨rfl, rfl⟩
theorem nil_words (p : Int) (s : ByteArray) (w : World) : Calls Try.prog 12 #[.pointer none, i64 p, .string s] w fun e w' => e = .returned (i64 1) ∧ w = w' := by
  go_enter Try.func12, Try.ntmps12
  go_wp2_with (first | (go_at_call 32; (with_reducible refine (nil_element _ _).mono ?_); rintro e w' ⟨rfl, rfl⟩))
  go_ret
  exact ⟨rfl, rfl⟩
theorem nil_wordsB (p : Int) (s : ByteArray) (w : World) : Calls Try.prog 30 #[.pointer none, i64 p, .string s] w fun e w' => e = .returned (i64 1) ∧ w = w' := by
  go_enter Try.func30, Try.ntmps30
  go_wp2_with (first | (go_at_call 35; (with_reducible refine (nil_is _ _).mono ?_); rintro e w' ⟨rfl, rfl⟩))
  go_ret
  exact ⟨rfl, rfl⟩
theorem nil_kids (id : Int) (w : World) : Calls Try.prog 17 #[.pointer none, i64 id] w fun e w' => e = .returned (.slice none 0 0) ∧ w = w' := by
  go_enter Try.func17, Try.ntmps17
  go_wp2_with (first | (go_at_call 35; (with_reducible refine (nil_is _ _).mono ?_); rintro e w' ⟨rfl, rfl⟩))
  go_ret
  exact ⟨rfl, rfl⟩
theorem nil_len (w : World) : Calls Try.prog 13 #[.pointer none] w fun e w' => e = .returned (i64 0) ∧ w = w' := by
  go_enter Try.func13, Try.ntmps13
  go_wp2
  go_ret
  exact ⟨rfl, rfl⟩
theorem nil_tree (w : World) : Calls Try.prog 16 #[.pointer none] w fun e w' => e = .returned (.slice none 0 0) ∧ w = w' := by
  go_enter Try.func16, Try.ntmps16
  go_wp2
  go_ret
  exact ⟨rfl, rfl⟩

set_option maxHeartbeats 4000000 in
set_option maxRecDepth 100000 in
theorem arenaNil_main (what p q : Int) (s : ByteArray) (w : World) : Calls Try.prog 8 #[.agg #[i64 what, i64 p, i64 q, .string s]] w fun e w' => e = .returned (.bool true) ∧ Below w.heap.size w w' := by
  have hbx := Blk.new w 49 #[i64 what, i64 p, i64 q, .string s]
  have HBX := Lib.hid (And.intro hbx ((Below.refl w.heap.size w).alloc (Nat.le_refl _) (.cells #[i64 what, i64 p, i64 q, .string s] 49)))
  clear hbx
  go_enter Try.func8, Try.ntmps8
  simp only [List.append]
  go_wp2_with (first
    | (go_at_call 14; (with_reducible refine (nil_elem _ _ _).mono ?_); rintro e w1 ⟨rfl, hb⟩; have hp1 : Blk w1 w.heap.size 49 _ := blk_kept HBX.out.1 hb; have a1 := hp1.cell 1 (i64 p) rfl; have a2 := hp1.cell 2 (i64 q) rfl; have a3 := hp1.cell 3 (.string s) rfl; have H1 := Lib.hid (And.intro hp1 (HBX.out.2.trans (hb.mono HBX.out.2.size))); clear hp1 hb)
    | (go_at_call 11; (with_reducible refine (nil_comment _ _).mono ?_); rintro e w2 ⟨rfl, hb⟩; have hp2 : Blk w2 w.heap.size 49 _ := blk_kept H1.out.1 hb; have b1 := hp2.cell 1 (i64 p) rfl; have b2 := hp2.cell 2 (i64 q) rfl; have b3 := hp2.cell 3 (.string s) rfl; have H2 := Lib.hid (H1.out.2.trans (hb.mono H1.out.2.size)); clear hp2 hb)
    | (go_at_call 22; (with_reducible refine (nil_parent _ _).mono ?_); rintro e w' ⟨rfl, rfl⟩)
    | (go_at_call 15; (with_reducible refine (nil_app _ _ _).mono ?_); rintro e w' ⟨rfl, rfl⟩)
    | (go_at_call 28; (with_reducible refine (nil_bef _ _ _).mono ?_); rintro e w' ⟨rfl, rfl⟩)
    | (go_at_call 27; (with_reducible refine (nil_det _ _).mono ?_); rintro e w' ⟨rfl, rfl⟩)
    | (go_at_call 29; (with_reducible refine (nil_give _ _ _).mono ?_); rintro e w' ⟨rfl, rfl⟩)
    | (go_at_call 12; (with_reducible refine (nil_words _ _ _).mono ?_); rintro e w' ⟨rfl, rfl⟩)
    | (go_at_call 30; (with_reducible refine (nil_wordsB _ _ _).mono ?_); rintro e w' ⟨rfl, rfl⟩)
    | (go_at_call 17; (with_reducible refine (nil_kids _ _).mono ?_); rintro e w' ⟨rfl, rfl⟩)
    | (go_at_call 13; (with_reducible refine (nil_len _).mono ?_); rintro e w' ⟨rfl, rfl⟩)
    | (go_at_call 16; (with_reducible refine (nil_tree _).mono ?_); rintro e w' ⟨rfl, rfl⟩)
    | (go_at_call 10; (with_reducible refine (three_any _).mono ?_); rintro e w3 ⟨rfl, hb⟩; have H3 := Lib.hid hb; clear hb))
  all_goals go_ret
  all_goals exact ⟨rfl, H2.out.trans (H3.out.mono H2.out.size)⟩

theorem cells3 : Try.prog.cellsOf 3 = 1 := by kernel_rfl
theorem cells9 : Try.prog.cellsOf 9 = 1 := by kernel_rfl
theorem cells49 : Try.prog.cellsOf 49 = 4 := by kernel_rfl
section
open Go.ChangeShapes Go.WideShapes Go.Deep
variable {H : Type} {enc : TypeId × Value → H} {w : World} {base : Nat} {spare : Nat → Bool} {held : Bool}
/-- A step's four cells, opened. -/
theorem open_step {n : Nat} {cs : List Value} {x : DataW H × List MemPlace} (h : DataW.trod enc Try.prog w base spare held n 49 cs = some x) :
    ∃ (what p q : Int) (s : ByteArray), cs = [i64 what, i64 p, i64 q, .string s] := by
  obtain ⟨xs, n', _, hxx, hlen, hxl, hf⟩ := DataW.trod_struct Try.underlying49 h
  rw [cells49] at hlen
  match cs, hlen with
  | [c0, c1, c2, c3], _ =>
    have g : ∀ i, i < 4 → ∃ y, xs[i]? = some y := fun i hi => ⟨_, List.getElem?_eq_getElem (by rw [hxl]; exact hi)⟩
    obtain ⟨y0, e0⟩ := g 0 (by omega)
    obtain ⟨y1, e1⟩ := g 1 (by omega)
    obtain ⟨y2, e2⟩ := g 2 (by omega)
    obtain ⟨y3, e3⟩ := g 3 (by omega)
    have t0 : DataW.trod enc Try.prog w base spare held n' 3 (([c0, c1, c2, c3].drop 0).take (Try.prog.cellsOf 3)) = some y0 := (hf 0 _ rfl).trans e0
    have t1 : DataW.trod enc Try.prog w base spare held n' 3 (([c0, c1, c2, c3].drop 1).take (Try.prog.cellsOf 3)) = some y1 := (hf 1 _ rfl).trans e1
    have t2 : DataW.trod enc Try.prog w base spare held n' 3 (([c0, c1, c2, c3].drop 2).take (Try.prog.cellsOf 3)) = some y2 := (hf 2 _ rfl).trans e2
    have t3 : DataW.trod enc Try.prog w base spare held n' 9 (([c0, c1, c2, c3].drop 3).take (Try.prog.cellsOf 9)) = some y3 := (hf 3 _ rfl).trans e3
    rw [cells3] at t0 t1 t2
    rw [cells9] at t3
    obtain ⟨a, k0, _, _⟩ := DataW.trod_int Try.underlying3 t0
    obtain ⟨b, k1, _, _⟩ := DataW.trod_int Try.underlying3 t1
    obtain ⟨c, k2, _, _⟩ := DataW.trod_int Try.underlying3 t2
    obtain ⟨s, k3, _, _⟩ := DataW.trod_string Try.underlying9 t3
    obtain rfl := List.singleton_inj.1 k0
    obtain rfl := List.singleton_inj.1 k1
    obtain rfl := List.singleton_inj.1 k2
    obtain rfl := List.singleton_inj.1 k3
    exact ⟨a, b, c, s, rfl⟩
end

namespace arenaNil
open Go.ChangeShapes Go.WideShapes Go.ChangeAt Go.RowKit Go.Joins Go.Deep
open Go.ChangeMaps (open_string shut_string)
set_option linter.unusedVariables false
set_option maxRecDepth 100000 in
theorem lifted (os : Os) (started : os.Started) (H : Type) (enc : TypeId × Value → H) :
    ReturnsInHanded {} Try.checked os 8 .any (Rows.arenaNilSpec.pre6 enc Try.prog Try.f8 Rows.arenaNilRow.domain false) (Rows.arenaNilSpec.post enc Try.prog Try.f8 false true false false) := by
  refine returnsInHanded_of_change_sized (C := Try.checked) own started (by kernel_rfl) Try.func8
    (ChangeSpec.witness6 (enc := enc) (C := Try.checked) false ⟨#[], #[.agg #[.int .i64 0, .int .i64 0, .int .i64 0, .string ByteArray.empty]], []⟩ 8 (by kernel_rfl) (by kernel_rfl) (by kernel_rfl) (by kernel_rfl)) ?_
  intro W base args ds gs before hval0 hW hcnd hsz0 _
  have hval : ∀ (j : Nat) t v, Try.f8.params[j]? = some t → args[j]? = some v → Value.okWide Try.prog W .any base t v := hval0
  have hW' := hW
  obtain ⟨p, q, hA0, hV, rfl, hfz, hnd⟩ := hW
  have hA : DataW.TrodAll enc Try.prog W 0 (fun _ => true) true Try.f8.params.toList args.toList ds p := hA0
  rw [Try.params8] at hA hval
  obtain ⟨v0, vs0, d0, ds0, p0, q0, hargs, rfl, rfl, h0, r0⟩ := trodAll_cons hA
  obtain ⟨rfl, rfl, rfl⟩ := trodAll_nil r0
  obtain rfl : args = #[v0] := by cases args; simp_all
  obtain ⟨rfl, rfl⟩ := trodVars_none hV
  have h0k := h0
  have hlt : ∀ x ∈ p0, x.block < W.heap.size := fun x hx => by simpa using hW'.lt x (by simp [hx])
  obtain ⟨cs, rfl, hsz⟩ := okWide_struct Try.underlying49 (hval 0 49 v0 rfl rfl)
  obtain ⟨fuel, hf⟩ := h0
  obtain ⟨what, k, id, s, he⟩ := open_step hf
  have hcs : cs = #[i64 what, i64 k, i64 id, .string s] := by
    have he' : cs.toList = _ := he
    cases cs
    simpa using he'
  subst hcs
  clear hA0 hval0 hsz0
  refine (arenaNil_main what k id s W).mono fun e W' ⟨he, bel⟩ => ?_
  subst he
  exact ⟨_, rfl, _, _, _, [], _, [], hW', trodAll_mk1 (shut_bool Try.underlying4 _), (trodAll_cons_mk (Below.trod laid (by kernel_rfl) (of_decide_eq_true (by kernel_rfl)) h0k bel hlt) trodAll_mk0), rfl, bel.frame _, fun h => by cases h⟩
theorem over : Rows.arenaNilRow.holds Try.pinned (OpenSpec.ofChange Rows.arenaNilSpec) :=
  OpenClaim.holds_of_wide 8 Try.f8 rfl rfl rfl rfl rfl rfl rfl ⟨rfl, rfl, rfl, rfl, rfl⟩ rfl rfl rfl rfl rfl (by kernel_rfl) Try.func8 (by kernel_rfl)
    (of_decide_eq_true (by kernel_rfl)) (by unfold Func.isWrapper; first | (rw [if_pos (by decide +kernel)]; kernel_rfl) | (rw [if_neg (by decide +kernel)]; exact ⟨rfl, rfl⟩))
    (fun os started H enc _ => lifted os started H enc)
end arenaNil
/-- The row: whatever the step, true. -/
theorem arenaNil_holds : Rows.ArenaNilSaid := arenaNil.over
end Go.Proofs.Ytdeogkjihmaniaa
