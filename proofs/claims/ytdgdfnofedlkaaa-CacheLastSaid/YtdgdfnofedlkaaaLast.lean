/-
  The plain law behind rectolaw33.CacheLast: what a cache keeps of an ID is what was put last of it.
  Written by an AI agent.
-/
import Derived.Test.YtdgdfnofedlkaaaOpen
namespace Go.Proofs.Ytdgdfnofedlkaaa
open Go.RowKit Go.Maps

/-- Does a step say something about an ID? -/
def pickB (id : Int) (t : Stp) : Bool := (t.what == 7) || ((t.id == id) && ((t.what == 0) || (t.what == 1) || (t.what == 2) || (t.what == 6)))
/-- The last step that does. -/
def lastOf (id : Int) (p : List Stp) : Stp := p.foldl (fun a t => if pickB id t then t else a) ⟨7, 0, ⟨#[]⟩⟩

theorem lastOf_snoc (id : Int) (p : List Stp) (x : Stp) : lastOf id (p ++ [x]) = if pickB id x then x else lastOf id p := by
  simp [lastOf]
theorem lastOf_take {id : Int} {l : List Stp} {j : Nat} {x : Stp} (h : l[j]? = some x) : lastOf id (l.take (j + 1)) = if pickB id x then x else lastOf id (l.take j) := by
  rw [List.take_add_one, h]
  exact lastOf_snoc id _ x

/-- The state that a cache keeps, told by the steps. -/
def Told (st : List Txt) (p : List Stp) : Prop := ∀ y ∈ st, (lastOf y.1 p).what ≤ 2 ∧ (lastOf y.1 p).s = y.2

theorem Told.nil (p : List Stp) : Told [] p := fun y hy => by cases hy

theorem mem_drp {id : Int} {st : List Txt} {y : Txt} (h : y ∈ drp id st) : y ∈ st ∧ y.1 ≠ id := by
  unfold drp at h
  rw [List.mem_filter] at h
  exact ⟨h.1, by simpa using h.2⟩

theorem Told.other {st : List Txt} {p : List Stp} {x : Stp} (h : Told st p) (hx : ∀ y ∈ st, pickB y.1 x = false) : Told st (p ++ [x]) := fun y hy => by
  rw [lastOf_snoc, if_neg (by simp [hx y hy])]
  exact h y hy

theorem Told.sub {st st' : List Txt} {p : List Stp} (h : Told st p) (hs : ∀ y ∈ st', y ∈ st) : Told st' p := fun y hy => h y (hs y hy)

theorem pick_ne {id : Int} {x : Stp} (h7 : x.what ≠ 7) (h : id ≠ x.id) : pickB id x = false := by
  unfold pickB
  rw [show (x.what == 7) = false by simpa using h7, show (x.id == id) = false by simpa using fun e => h e.symm]
  rfl

theorem Told.drop {st : List Txt} {p : List Stp} {x : Stp} (h : Told st p) (h6 : x.what = 6) : Told (drp x.id st) (p ++ [x]) :=
  (h.sub fun y hy => (mem_drp hy).1).other fun y hy => pick_ne (by omega) (mem_drp hy).2

theorem Told.put {most bytes : Int} {st : List Txt} {p : List Stp} {x : Stp} (h : Told st p) (hx : x.what = 0 ∨ x.what = 1 ∨ x.what = 2) : Told (putL most bytes x.id x.s st) (p ++ [x]) := by
  have hd : Told (drp x.id st) (p ++ [x]) := (h.sub fun y hy => (mem_drp hy).1).other fun y hy => pick_ne (by omega) (mem_drp hy).2
  unfold putL
  split
  · exact hd
  · obtain ⟨r, hr⟩ := trim_prefix most (bytes - x.s.size) (drp x.id st).length (drp x.id st)
    intro y hy
    rcases List.mem_cons.1 hy with rfl | hy
    · have hp : pickB x.id x = true := by
        unfold pickB
        rcases hx with e | e | e <;> simp [e]
      simp only
      rw [lastOf_snoc, if_pos hp]
      exact ⟨by omega, rfl⟩
    · exact hd y (by rw [hr]; exact List.mem_append_left _ hy)

theorem gotS_mem {id : Int} {st : List Txt} (h : hasB id st = true) : (id, gotS id st) ∈ st := by
  unfold gotS
  cases hf : st.find? (fun x => x.1 == id) with
  | none =>
    rw [List.find?_eq_none] at hf
    obtain ⟨y, hy, he⟩ := List.any_eq_true.1 h
    exact absurd he (hf y hy)
  | some y =>
    have h1 := List.find?_some hf
    have h2 := List.mem_of_find?_eq_some hf
    simp only [Option.map_some, Option.getD_some]
    have : y.1 = id := by simpa using h1
    rw [← this]
    exact h2

theorem Told.got {st : List Txt} {p : List Stp} {id : Int} (h : Told st p) : Told (gotL id st) p := by
  unfold gotL
  split
  · rename_i hb
    intro y hy
    rcases List.mem_cons.1 hy with rfl | hy
    · exact h _ (gotS_mem hb)
    · exact h _ (mem_drp hy).1
  · exact h

theorem Told.look {st : List Txt} {p : List Stp} {x : Stp} (h : Told st p) (h0 : x.what ≠ 0) (h1 : x.what ≠ 1) (h2 : x.what ≠ 2) (h6 : x.what ≠ 6) (h7 : x.what ≠ 7) : Told (gotL x.id st) (p ++ [x]) :=
  (h.got).other fun y _ => by unfold pickB; simp [h0, h1, h2, h6, h7]

/-- What is got is what the last step put. -/
theorem Told.last {st : List Txt} {p : List Stp} {id : Int} (h : Told st p) (hb : hasB id st = true) : (lastOf id p).what ≤ 2 ∧ (lastOf id p).s = gotS id st := h _ (gotS_mem hb)

end Go.Proofs.Ytdgdfnofedlkaaa
