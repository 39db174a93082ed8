/-
  rectolaw09.StackNil returns true for every step: a nil stack is empty.
  Written by an AI agent.
-/
import Derived.Test.YtdagjpiakbfjpaaNil
import Derived.Test.YtdagjpiakbfjpaaOpen
import Derived.Test.YtdagjpiakbfjpaaRows
import Derived.BigGuard
import Derived.BigCall
namespace Go.Proofs.Ytdagjpiakbfjpaa
open Go.RowKit

theorem nil_insert_n {p id sp r : Int} {nm : ByteArray} {w : World} (hr : (if p = 0 then (7 : Int) else 1) = r) : Calls Try.prog 12 #[.pointer none, i64 p, .agg #[i64 id, i64 sp, .string nm]] w fun e w' => e = .returned (i64 r) ∧ Below w.heap.size w w' := by
  subst hr
  exact nil_insert p id sp nm w

set_option maxHeartbeats 8000000 in
set_option maxRecDepth 100000 in
theorem stackNil_main (what p id sp : Int) (nm n1 n2 : ByteArray) (w : World) :
    Calls Try.prog 7 #[.agg #[i64 what, i64 p, i64 id, i64 sp, .string nm, .string n1, .string n2]] w fun e w' => e = .returned (.bool true) ∧ Below w.heap.size w w' := by
  have hb := Blk.new w 46 #[i64 what, i64 p, i64 id, i64 sp, .string nm, .string n1, .string n2]
  have x0 := hb.cell 0 (i64 what) rfl
  have x1 := hb.cell 1 (i64 p) rfl
  have x2 := hb.cell 2 (i64 id) rfl
  have x3 := hb.cell 3 (i64 sp) rfl
  have x4 := hb.cell 4 (.string nm) rfl
  have x5 := hb.cell 5 (.string n1) rfl
  obtain ⟨w0, hw0⟩ : ∃ w0, w.alloc (.cells #[i64 what, i64 p, i64 id, i64 sp, .string nm, .string n1, .string n2] 46) = w0 := ⟨_, rfl⟩
  have b0 : Below w.heap.size w w0 := by rw [← hw0]; exact (Below.refl _ w).alloc (Nat.le_refl _) _
  rw [hw0] at hb x0 x1 x2 x3 x4 x5
  have HB := Lib.hid (And.intro hb b0)
  clear hb b0
  by_cases h0 : p = 0
  · have y1 : (p == 0) = true := by simpa using h0
    have hpr : (if p = 0 then (7 : Int) else 1) = 7 := if_pos h0
    clear h0
    go_enter Try.func7, Try.ntmps7
    simp only [List.append]
    go_wp2_with (first
      | (go_at_call 23; (with_reducible refine (nil_pop _).mono ?_); rintro e w1 ⟨rfl, hb⟩; have hbx1 := hb.alloc hb.size (.cells #[i64 0, i64 0, .string ⟨#[]⟩] 27); have H1 := Lib.hid hbx1; clear hbx1)
      | (go_at_call 16; (with_reducible refine (nil_top _).mono ?_); rintro e w2 ⟨rfl, hb⟩; have hbx2 := (H1.out.trans (hb.mono H1.out.size)).alloc (H1.out.trans (hb.mono H1.out.size)).size (.cells #[i64 0, i64 0, .string ⟨#[]⟩] 27); have c2_1 := (blk_kept HB.out.1 hbx2).cell 1 (i64 p) rfl; have c2_2 := (blk_kept HB.out.1 hbx2).cell 2 (i64 id) rfl; have c2_3 := (blk_kept HB.out.1 hbx2).cell 3 (i64 sp) rfl; have c2_4 := (blk_kept HB.out.1 hbx2).cell 4 (.string nm) rfl; have H2 := Lib.hid hbx2; clear hbx2)
      | (go_at_call 12; (with_reducible refine (nil_insert_n hpr).mono ?_); rintro e w3 ⟨rfl, hb⟩; have hbx3 := H2.out.trans (hb.mono H2.out.size); have c3_2 := (blk_kept HB.out.1 hbx3).cell 2 (i64 id) rfl; have c3_3 := (blk_kept HB.out.1 hbx3).cell 3 (i64 sp) rfl; have c3_4 := (blk_kept HB.out.1 hbx3).cell 4 (.string nm) rfl; have H3 := Lib.hid hbx3; clear hbx3)
      | (go_at_call 10; (with_reducible refine (nil_push _ _ _ _).mono ?_); rintro e w4 ⟨rfl, hb⟩; have hbx4 := H3.out.trans (hb.mono H3.out.size); have c4_1 := (blk_kept HB.out.1 hbx4).cell 1 (i64 p) rfl; have H4 := Lib.hid hbx4; clear hbx4)
      | (go_at_call 13; (with_reducible refine (nil_all _).mono ?_); rintro e w5 ⟨ad5, cc5, rfl, hown5, hb⟩; have hbx5 := H4.out.trans (hb.mono H4.out.size); have c5_0 := (blk_kept HB.out.1 hbx5).cell 0 (i64 what) rfl; have c5_5 := (blk_kept HB.out.1 hbx5).cell 5 (.string n1) rfl; have H5 := Lib.hid hbx5; clear hbx5)
      | (go_at_call 11; (with_reducible refine (nil_in (NamesAt.one w5 n1 9)).mono ?_); rintro e w6 ⟨rfl, hb⟩; have hbx6 := (H5.out.alloc H5.out.size (.cells #[.string n1] 9)).trans (hb.mono (H5.out.alloc H5.out.size (.cells #[.string n1] 9)).size); have c6_5 := (blk_kept HB.out.1 hbx6).cell 5 (.string n1) rfl; have H6 := Lib.hid hbx6; clear hbx6)
      | (go_at_call 15; (with_reducible refine (nil_to (NamesAt.one w6 n1 9)).mono ?_); rintro e w7 ⟨rfl, hb⟩; have hbx7 := (H6.out.alloc H6.out.size (.cells #[.string n1] 9)).trans (hb.mono (H6.out.alloc H6.out.size (.cells #[.string n1] 9)).size); have c7_5 := (blk_kept HB.out.1 hbx7).cell 5 (.string n1) rfl; have H7 := Lib.hid hbx7; clear hbx7)
      | (go_at_call 14; (with_reducible refine (nil_back (NamesAt.one w7 n1 9)).mono ?_); rintro e w8 ⟨rfl, hb⟩; have hbx8 := (H7.out.alloc H7.out.size (.cells #[.string n1] 9)).trans (hb.mono (H7.out.alloc H7.out.size (.cells #[.string n1] 9)).size); have c8_5 := (blk_kept HB.out.1 hbx8).cell 5 (.string n1) rfl; have H8 := Lib.hid hbx8; clear hbx8)
      | (go_at_call 24; (with_reducible refine (nil_implied _ _).mono ?_); rintro e w9 ⟨rfl, hb⟩; have hbx9 := H8.out.trans (hb.mono H8.out.size); have c9_2 := (blk_kept HB.out.1 hbx9).cell 2 (i64 id) rfl; have H9 := Lib.hid hbx9; clear hbx9)
      | (go_at_call 19; (with_reducible refine (nil_find _ _).mono ?_); rintro e w10 ⟨rfl, rfl⟩)
      | (go_at_call 25; (with_reducible refine (nil_remove _ _).mono ?_); rintro e w11 ⟨rfl, rfl⟩)
      | (go_at_call 9; (with_reducible refine (cell_any _).mono ?_); rintro e w12 ⟨rfl, hb⟩; have H12 := Lib.hid hb; clear hb))
    all_goals go_ret
    all_goals exact ⟨rfl, (HB.out.2.trans (H9.out.mono HB.out.2.size)).trans (H12.out.mono (HB.out.2.trans (H9.out.mono HB.out.2.size)).size)⟩
  · have y1 : (p == 0) = false := by simpa using h0
    have y2 : (p != 0) = true := by simpa using h0
    have hpr : (if p = 0 then (7 : Int) else 1) = 1 := if_neg h0
    clear h0
    go_enter Try.func7, Try.ntmps7
    simp only [List.append]
    go_wp2_with (first
      | (go_at_call 23; (with_reducible refine (nil_pop _).mono ?_); rintro e w1 ⟨rfl, hb⟩; have hbx1 := hb.alloc hb.size (.cells #[i64 0, i64 0, .string ⟨#[]⟩] 27); have H1 := Lib.hid hbx1; clear hbx1)
      | (go_at_call 16; (with_reducible refine (nil_top _).mono ?_); rintro e w2 ⟨rfl, hb⟩; have hbx2 := (H1.out.trans (hb.mono H1.out.size)).alloc (H1.out.trans (hb.mono H1.out.size)).size (.cells #[i64 0, i64 0, .string ⟨#[]⟩] 27); have c2_1 := (blk_kept HB.out.1 hbx2).cell 1 (i64 p) rfl; have c2_2 := (blk_kept HB.out.1 hbx2).cell 2 (i64 id) rfl; have c2_3 := (blk_kept HB.out.1 hbx2).cell 3 (i64 sp) rfl; have c2_4 := (blk_kept HB.out.1 hbx2).cell 4 (.string nm) rfl; have H2 := Lib.hid hbx2; clear hbx2)
      | (go_at_call 12; (with_reducible refine (nil_insert_n hpr).mono ?_); rintro e w3 ⟨rfl, hb⟩; have hbx3 := H2.out.trans (hb.mono H2.out.size); have c3_2 := (blk_kept HB.out.1 hbx3).cell 2 (i64 id) rfl; have c3_3 := (blk_kept HB.out.1 hbx3).cell 3 (i64 sp) rfl; have c3_4 := (blk_kept HB.out.1 hbx3).cell 4 (.string nm) rfl; have H3 := Lib.hid hbx3; clear hbx3)
      | (go_at_call 10; (with_reducible refine (nil_push _ _ _ _).mono ?_); rintro e w4 ⟨rfl, hb⟩; have hbx4 := H3.out.trans (hb.mono H3.out.size); have c4_1 := (blk_kept HB.out.1 hbx4).cell 1 (i64 p) rfl; have H4 := Lib.hid hbx4; clear hbx4)
      | (go_at_call 13; (with_reducible refine (nil_all _).mono ?_); rintro e w5 ⟨ad5, cc5, rfl, hown5, hb⟩; have hbx5 := H4.out.trans (hb.mono H4.out.size); have c5_0 := (blk_kept HB.out.1 hbx5).cell 0 (i64 what) rfl; have c5_5 := (blk_kept HB.out.1 hbx5).cell 5 (.string n1) rfl; have H5 := Lib.hid hbx5; clear hbx5)
      | (go_at_call 11; (with_reducible refine (nil_in (NamesAt.one w5 n1 9)).mono ?_); rintro e w6 ⟨rfl, hb⟩; have hbx6 := (H5.out.alloc H5.out.size (.cells #[.string n1] 9)).trans (hb.mono (H5.out.alloc H5.out.size (.cells #[.string n1] 9)).size); have c6_5 := (blk_kept HB.out.1 hbx6).cell 5 (.string n1) rfl; have H6 := Lib.hid hbx6; clear hbx6)
      | (go_at_call 15; (with_reducible refine (nil_to (NamesAt.one w6 n1 9)).mono ?_); rintro e w7 ⟨rfl, hb⟩; have hbx7 := (H6.out.alloc H6.out.size (.cells #[.string n1] 9)).trans (hb.mono (H6.out.alloc H6.out.size (.cells #[.string n1] 9)).size); have c7_5 := (blk_kept HB.out.1 hbx7).cell 5 (.string n1) rfl; have H7 := Lib.hid hbx7; clear hbx7)
      | (go_at_call 14; (with_reducible refine (nil_back (NamesAt.one w7 n1 9)).mono ?_); rintro e w8 ⟨rfl, hb⟩; have hbx8 := (H7.out.alloc H7.out.size (.cells #[.string n1] 9)).trans (hb.mono (H7.out.alloc H7.out.size (.cells #[.string n1] 9)).size); have c8_5 := (blk_kept HB.out.1 hbx8).cell 5 (.string n1) rfl; have H8 := Lib.hid hbx8; clear hbx8)
      | (go_at_call 24; (with_reducible refine (nil_implied _ _).mono ?_); rintro e w9 ⟨rfl, hb⟩; have hbx9 := H8.out.trans (hb.mono H8.out.size); have c9_2 := (blk_kept HB.out.1 hbx9).cell 2 (i64 id) rfl; have H9 := Lib.hid hbx9; clear hbx9)
      | (go_at_call 19; (with_reducible refine (nil_find _ _).mono ?_); rintro e w10 ⟨rfl, rfl⟩)
      | (go_at_call 25; (with_reducible refine (nil_remove _ _).mono ?_); rintro e w11 ⟨rfl, rfl⟩)
      | (go_at_call 9; (with_reducible refine (cell_any _).mono ?_); rintro e w12 ⟨rfl, hb⟩; have H12 := Lib.hid hb; clear hb))
    all_goals go_ret
    all_goals exact ⟨rfl, (HB.out.2.trans (H9.out.mono HB.out.2.size)).trans (H12.out.mono (HB.out.2.trans (H9.out.mono HB.out.2.size)).size)⟩


theorem cells46 : Try.prog.cellsOf 46 = 7 := by kernel_rfl
section
variable {H : Type} {enc : TypeId × Value → H} {w : World} {base : Nat} {spare : Nat → Bool} {held : Bool}
/-- A step's seven cells, opened. -/
theorem open_step {n : Nat} {cs : List Value} {x : DataW H × List MemPlace} (h : DataW.trod enc Try.prog w base spare held n 46 cs = some x) :
    ∃ (what k id sp : Int) (nm n1 n2 : ByteArray), cs = [i64 what, i64 k, i64 id, i64 sp, .string nm, .string n1, .string n2] := by
  obtain ⟨xs, n', _, hxx, hlen, hxl, hf⟩ := DataW.trod_struct Try.underlying46 h
  rw [cells46] at hlen
  match cs, hlen with
  | [c0, c1, c2, c3, c4, c5, c6], _ =>
    have g : ∀ i, i < 5 → ∃ y, xs[i]? = some y := fun i hi => ⟨_, List.getElem?_eq_getElem (by rw [hxl]; exact hi)⟩
    obtain ⟨y0, e0⟩ := g 0 (by omega)
    obtain ⟨y1, e1⟩ := g 1 (by omega)
    obtain ⟨y2, e2⟩ := g 2 (by omega)
    obtain ⟨y3, e3⟩ := g 3 (by omega)
    obtain ⟨y4, e4⟩ := g 4 (by omega)
    have t0 : DataW.trod enc Try.prog w base spare held n' 3 (([c0, c1, c2, c3, c4, c5, c6].drop 0).take (Try.prog.cellsOf 3)) = some y0 := (hf 0 _ rfl).trans e0
    have t1 : DataW.trod enc Try.prog w base spare held n' 3 (([c0, c1, c2, c3, c4, c5, c6].drop 1).take (Try.prog.cellsOf 3)) = some y1 := (hf 1 _ rfl).trans e1
    have t2 : DataW.trod enc Try.prog w base spare held n' 27 (([c0, c1, c2, c3, c4, c5, c6].drop 2).take (Try.prog.cellsOf 27)) = some y2 := (hf 2 _ rfl).trans e2
    have t3 : DataW.trod enc Try.prog w base spare held n' 9 (([c0, c1, c2, c3, c4, c5, c6].drop 5).take (Try.prog.cellsOf 9)) = some y3 := (hf 3 _ rfl).trans e3
    have t4 : DataW.trod enc Try.prog w base spare held n' 9 (([c0, c1, c2, c3, c4, c5, c6].drop 6).take (Try.prog.cellsOf 9)) = some y4 := (hf 4 _ rfl).trans e4
    rw [cells3] at t0 t1
    rw [cells27] at t2
    rw [cells9] at t3 t4
    obtain ⟨a, k0, _, w0⟩ := DataW.trod_int Try.underlying3 t0
    obtain ⟨b, k1, _, w1⟩ := DataW.trod_int Try.underlying3 t1
    obtain ⟨n1, k3, _, w3⟩ := DataW.trod_string Try.underlying9 t3
    obtain ⟨n2, k4, _, w4⟩ := DataW.trod_string Try.underlying9 t4
    obtain rfl := List.singleton_inj.1 k0
    obtain rfl := List.singleton_inj.1 k1
    obtain rfl := List.singleton_inj.1 k3
    obtain rfl := List.singleton_inj.1 k4
    obtain ⟨id, sp, nm, he, _, _, _⟩ := open_ent t2
    replace he : [c2, c3, c4] = [i64 id, i64 sp, .string nm] := he
    simp only [List.cons.injEq, and_true] at he
    obtain ⟨rfl, rfl, rfl⟩ := he
    exact ⟨a, b, id, sp, nm, n1, n2, rfl⟩
end

namespace stackNil
open Go.ChangeShapes Go.WideShapes Go.ChangeAt Go.RowKit Go.Joins Go.Deep
open Go.ChangeMaps (open_string shut_string)
set_option linter.unusedVariables false
set_option maxRecDepth 100000 in
theorem lifted (os : Os) (started : os.Started) (H : Type) (enc : TypeId × Value → H) :
    ReturnsInHanded {} Try.checked os 7 .any (Rows.stackNilSpec.pre6 enc Try.prog Try.f7 Rows.stackNilRow.domain false) (Rows.stackNilSpec.post enc Try.prog Try.f7 false true false false) := by
  refine returnsInHanded_of_change_sized (C := Try.checked) own started (by kernel_rfl) Try.func7
    (ChangeSpec.witness6 (enc := enc) (C := Try.checked) false ⟨#[], #[.agg #[.int .i64 0, .int .i64 0, .int .i64 0, .int .i64 0, .string ByteArray.empty, .string ByteArray.empty, .string ByteArray.empty]], []⟩ 8 (by kernel_rfl) (by kernel_rfl) (by kernel_rfl) (by kernel_rfl)) ?_
  intro W base args ds gs before hval0 hW hcnd hsz0 _
  have hval : ∀ (j : Nat) t v, Try.f7.params[j]? = some t → args[j]? = some v → Value.okWide Try.prog W .any base t v := hval0
  have hW' := hW
  obtain ⟨p, q, hA0, hV, rfl, hfz, hnd⟩ := hW
  have hA : DataW.TrodAll enc Try.prog W 0 (fun _ => true) true Try.f7.params.toList args.toList ds p := hA0
  rw [Try.params7] at hA hval
  obtain ⟨v0, vs0, d0, ds0, p0, q0, hargs, rfl, rfl, h0, r0⟩ := trodAll_cons hA
  obtain ⟨rfl, rfl, rfl⟩ := trodAll_nil r0
  obtain rfl : args = #[v0] := by cases args; simp_all
  obtain ⟨rfl, rfl⟩ := trodVars_none hV
  have h0k := h0
  have hlt : ∀ x ∈ p0, x.block < W.heap.size := fun x hx => by simpa using hW'.lt x (by simp [hx])
  obtain ⟨cs, rfl, hsz⟩ := okWide_struct Try.underlying46 (hval 0 46 v0 rfl rfl)
  obtain ⟨fuel, hf⟩ := h0
  obtain ⟨what, k, id, sp, nm, n1, n2, he⟩ := open_step hf
  have hcs : cs = #[i64 what, i64 k, i64 id, i64 sp, .string nm, .string n1, .string n2] := by
    have he' : cs.toList = _ := he
    cases cs
    simpa using he'
  subst hcs
  clear hA0 hval0 hsz0
  refine (stackNil_main what k id sp nm n1 n2 W).mono fun e W' ⟨he, bel⟩ => ?_
  subst he
  exact ⟨_, rfl, _, _, _, [], _, [], hW', trodAll_mk1 (shut_bool Try.underlying4 _), (trodAll_cons_mk (Below.trod laid (by kernel_rfl) (of_decide_eq_true (by kernel_rfl)) h0k bel hlt) trodAll_mk0), rfl, bel.frame _, fun h => by cases h⟩
theorem over : Rows.stackNilRow.holds Try.pinned (OpenSpec.ofChange Rows.stackNilSpec) :=
  OpenClaim.holds_of_wide 7 Try.f7 rfl rfl rfl rfl rfl rfl rfl ⟨rfl, rfl, rfl, rfl, rfl⟩ rfl rfl rfl rfl rfl (by kernel_rfl) Try.func7 (by kernel_rfl)
    (of_decide_eq_true (by kernel_rfl)) (by unfold Func.isWrapper; first | (rw [if_pos (by decide +kernel)]; kernel_rfl) | (rw [if_neg (by decide +kernel)]; exact ⟨rfl, rfl⟩))
    (fun os started H enc _ => lifted os started H enc)
end stackNil
/-- The row: whatever the step, true. -/
theorem stackNil_holds : Rows.StackNilSaid := stackNil.over
end Go.Proofs.Ytdagjpiakbfjpaa
