/-
  Arguments of rectolaw10's laws, opened.
  Written by an AI agent.
-/
import Derived.Test.YtjopfgdgmniigaaPut
import Derived.Lib.SmallJoins
import Derived.OpenShut
import Derived.ShutString
import Derived.ChangeOld
import Derived.SizedLaws
import Derived.ProofKit
import Derived.Carry
import Derived.WalkKit
namespace Go.Proofs.Ytjopfgdgmniigaa
open Go.ChangeShapes Go.WideShapes Go.Deep Go.RowKit

theorem own : ownKnob Try.prog.godebug = none := by kernel_rfl
theorem cells33 : Try.prog.cellsOf 33 = 4 := by kernel_rfl
theorem cells3 : Try.prog.cellsOf 3 = 1 := by kernel_rfl
theorem cells4 : Try.prog.cellsOf 4 = 1 := by kernel_rfl
theorem cells31 : Try.prog.cellsOf 31 = 1 := by kernel_rfl
theorem cells35 : Try.prog.cellsOf 35 = 6 := by kernel_rfl

section
variable {H : Type} {enc : TypeId × Value → H} {w : World} {base : Nat} {spare : Nat → Bool} {held : Bool}
/-- An entry's four cells, opened. -/
theorem open_ent {n : Nat} {cs : List Value} {x : DataW H × List MemPlace} (h : DataW.trod enc Try.prog w base spare held n 33 cs = some x) :
    ∃ (mk : Bool) (id : Int) (nm : ByteArray) (va : Value) (y : DataW H × List MemPlace) (m : Nat), cs = [.bool mk, i64 id, .string nm, va] ∧ (Lit.int .i64 id).wf = true ∧ nm.size ≤ maxLen ∧
      (∃ ad na c, va = .slice ad na c) ∧ DataW.trod enc Try.prog w base spare held m 31 [va] = some y ∧ ∀ q ∈ y.1.weights Try.prog 31, q ∈ x.1.weights Try.prog 33 := by
  obtain ⟨xs, n', _, hxx, hlen, hxl, hf⟩ := DataW.trod_struct Try.underlying33 h
  rw [cells33] at hlen
  match cs, hlen with
  | [c0, c1, c2, c3], _ =>
    have g : ∀ i, i < 4 → ∃ y, xs[i]? = some y := fun i hi => ⟨_, List.getElem?_eq_getElem (by rw [hxl]; exact hi)⟩
    obtain ⟨y0, e0⟩ := g 0 (by omega)
    obtain ⟨y1, e1⟩ := g 1 (by omega)
    obtain ⟨y2, e2⟩ := g 2 (by omega)
    obtain ⟨y3, e3⟩ := g 3 (by omega)
    have t0 : DataW.trod enc Try.prog w base spare held n' 4 (([c0, c1, c2, c3].drop 0).take (Try.prog.cellsOf 4)) = some y0 := (hf 0 _ rfl).trans e0
    have t1 : DataW.trod enc Try.prog w base spare held n' 3 (([c0, c1, c2, c3].drop 1).take (Try.prog.cellsOf 3)) = some y1 := (hf 1 _ rfl).trans e1
    have t2 : DataW.trod enc Try.prog w base spare held n' 9 (([c0, c1, c2, c3].drop 2).take (Try.prog.cellsOf 9)) = some y2 := (hf 2 _ rfl).trans e2
    have t3 : DataW.trod enc Try.prog w base spare held n' 31 (([c0, c1, c2, c3].drop 3).take (Try.prog.cellsOf 31)) = some y3 := (hf 3 _ rfl).trans e3
    rw [cells4] at t0
    rw [cells3] at t1
    rw [cells9] at t2
    rw [cells31] at t3
    obtain ⟨b, k0, _⟩ := DataW.trod_bool Try.underlying4 t0
    obtain ⟨i, k1, _, w1⟩ := DataW.trod_int Try.underlying3 t1
    obtain ⟨s, k2, _, w2⟩ := DataW.trod_string Try.underlying9 t2
    obtain rfl := List.singleton_inj.1 k0
    obtain rfl := List.singleton_inj.1 k1
    obtain rfl := List.singleton_inj.1 k2
    refine ⟨b, i, s, c3, y3, n', rfl, w1, w2, ?_, t3, fun q hq => ?_⟩
    rotate_left
    · rw [hxx]
      simp only [DataW.weights, Try.underlying33]
      exact DataW.weights_mem_each (j := 3) (t := 31) rfl (by rw [List.getElem?_map, e3]; rfl) q hq
    rcases DataW.trod_slice Try.underlying31 t3 with ⟨hc, _⟩ | ⟨a, len, cap, _, _, _, _, hc, _⟩
    · exact ⟨none, 0, 0, List.singleton_inj.1 hc⟩
    · exact ⟨some a, len, cap, List.singleton_inj.1 hc⟩

/-- A step's six cells, opened. -/
theorem open_step {n : Nat} {cs : List Value} {x : DataW H × List MemPlace} (h : DataW.trod enc Try.prog w base spare held n 35 cs = some x) :
    ∃ (what k : Int) (mk : Bool) (id : Int) (nm : ByteArray) (va : Value) (y : DataW H × List MemPlace) (m : Nat), cs = [i64 what, i64 k, .bool mk, i64 id, .string nm, va] ∧ (Lit.int .i64 what).wf = true ∧ (Lit.int .i64 k).wf = true ∧ (Lit.int .i64 id).wf = true ∧ nm.size ≤ maxLen ∧
      (∃ ad na c, va = .slice ad na c) ∧ DataW.trod enc Try.prog w base spare held m 31 [va] = some y ∧ ∀ q ∈ y.1.weights Try.prog 31, q ∈ x.1.weights Try.prog 35 := by
  obtain ⟨xs, n', _, hxx, hlen, hxl, hf⟩ := DataW.trod_struct Try.underlying35 h
  rw [cells35] at hlen
  match cs, hlen with
  | [c0, c1, c2, c3, c4, c5], _ =>
    have g : ∀ i, i < 3 → ∃ y, xs[i]? = some y := fun i hi => ⟨_, List.getElem?_eq_getElem (by rw [hxl]; exact hi)⟩
    obtain ⟨y0, e0⟩ := g 0 (by omega)
    obtain ⟨y1, e1⟩ := g 1 (by omega)
    obtain ⟨y2, e2⟩ := g 2 (by omega)
    have t0 : DataW.trod enc Try.prog w base spare held n' 3 (([c0, c1, c2, c3, c4, c5].drop 0).take (Try.prog.cellsOf 3)) = some y0 := (hf 0 _ rfl).trans e0
    have t1 : DataW.trod enc Try.prog w base spare held n' 3 (([c0, c1, c2, c3, c4, c5].drop 1).take (Try.prog.cellsOf 3)) = some y1 := (hf 1 _ rfl).trans e1
    have t2 : DataW.trod enc Try.prog w base spare held n' 33 (([c0, c1, c2, c3, c4, c5].drop 2).take (Try.prog.cellsOf 33)) = some y2 := (hf 2 _ rfl).trans e2
    rw [cells3] at t0 t1
    rw [cells33] at t2
    obtain ⟨a, k0, _, w0⟩ := DataW.trod_int Try.underlying3 t0
    obtain ⟨b, k1, _, w1⟩ := DataW.trod_int Try.underlying3 t1
    obtain rfl := List.singleton_inj.1 k0
    obtain rfl := List.singleton_inj.1 k1
    obtain ⟨mk, id, nm, va, y, m, he, q1, q2, q3, q4, q5⟩ := open_ent t2
    replace he : [c2, c3, c4, c5] = [.bool mk, i64 id, .string nm, va] := he
    simp only [List.cons.injEq, and_true] at he
    obtain ⟨rfl, rfl, rfl, rfl⟩ := he
    refine ⟨a, b, mk, id, nm, c5, y, m, rfl, w0, w1, q1, q2, q3, q4, fun q hq => ?_⟩
    rw [hxx]
    simp only [DataW.weights, Try.underlying35]
    exact DataW.weights_mem_each (j := 2) (t := 33) rfl (by rw [List.getElem?_map, e2]; rfl) q (q5 q hq)
end
end Go.Proofs.Ytjopfgdgmniigaa
