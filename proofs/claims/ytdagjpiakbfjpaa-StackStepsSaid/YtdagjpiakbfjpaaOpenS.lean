/-
  rectolaw09.StackSteps' arguments, opened.
  Written by an AI agent.
-/
import Derived.Test.YtdagjpiakbfjpaaOpen
import Derived.Test.YtdagjpiakbfjpaaDoesA
import Derived.OpenShut
namespace Go.Proofs.Ytdagjpiakbfjpaa
open Go.RowKit

theorem cells46 : Try.prog.cellsOf 46 = 7 := by kernel_rfl
def StepsAt (w : World) (v : Value) (l : List Sp) : Prop :=
  ∃ ad c, v = .slice ad l.length c ∧ (l ≠ [] → ∃ g off, ad = some ⟨g, off, none⟩ ∧ g < w.heap.size ∧ ∀ (k : Nat) (x : Sp), l[k]? = some x →
    w.cell? ⟨g, off + k * 7, none⟩ = some (i64 x.what) ∧ w.cell? ⟨g, off + k * 7 + 1, none⟩ = some (i64 x.at_) ∧ w.cell? ⟨g, off + k * 7 + 2, none⟩ = some (i64 x.e.id) ∧ w.cell? ⟨g, off + k * 7 + 3, none⟩ = some (i64 x.e.space) ∧ w.cell? ⟨g, off + k * 7 + 4, none⟩ = some (.string x.e.name) ∧ w.cell? ⟨g, off + k * 7 + 5, none⟩ = some (.string x.n1) ∧ w.cell? ⟨g, off + k * 7 + 6, none⟩ = some (.string x.n2))

section
variable {H : Type} {enc : TypeId × Value → H} {w : World} {base : Nat} {spare : Nat → Bool} {held : Bool}
theorem open_step {n : Nat} {cs : List Value} {x : DataW H × List MemPlace} (h : DataW.trod enc Try.prog w base spare held n 46 cs = some x) :
    ∃ (a b id sp : Int) (nm n1 n2 : ByteArray), cs = [i64 a, i64 b, i64 id, i64 sp, .string nm, .string n1, .string n2] := by
  obtain ⟨xs, n', _, hxx, hlen, hxl, hf⟩ := DataW.trod_struct Try.underlying46 h
  rw [cells46] at hlen
  match cs, hlen with
  | [c0, c1, c2, c3, c4, c5, c6], _ =>
    have g : ∀ i, i < 5 → ∃ y, xs[i]? = some y := fun i hi => ⟨_, List.getElem?_eq_getElem (by rw [hxl]; exact hi)⟩
    obtain ⟨y0, e0⟩ := g 0 (by omega)
    obtain ⟨y1, e1⟩ := g 1 (by omega)
    obtain ⟨y2, e2⟩ := g 2 (by omega)
    obtain ⟨y3, e3⟩ := g 3 (by omega)
    obtain ⟨y4, e4⟩ := g 4 (by omega)
    have t0 : DataW.trod enc Try.prog w base spare held n' 3 (([c0, c1, c2, c3, c4, c5, c6].drop 0).take (Try.prog.cellsOf 3)) = some y0 := (hf 0 _ rfl).trans e0
    have t1 : DataW.trod enc Try.prog w base spare held n' 3 (([c0, c1, c2, c3, c4, c5, c6].drop 1).take (Try.prog.cellsOf 3)) = some y1 := (hf 1 _ rfl).trans e1
    have t2 : DataW.trod enc Try.prog w base spare held n' 27 (([c0, c1, c2, c3, c4, c5, c6].drop 2).take (Try.prog.cellsOf 27)) = some y2 := (hf 2 _ rfl).trans e2
    have t3 : DataW.trod enc Try.prog w base spare held n' 9 (([c0, c1, c2, c3, c4, c5, c6].drop 5).take (Try.prog.cellsOf 9)) = some y3 := (hf 3 _ rfl).trans e3
    have t4 : DataW.trod enc Try.prog w base spare held n' 9 (([c0, c1, c2, c3, c4, c5, c6].drop 6).take (Try.prog.cellsOf 9)) = some y4 := (hf 4 _ rfl).trans e4
    rw [cells3] at t0 t1
    rw [cells9] at t3 t4
    rw [cells27] at t2
    obtain ⟨i, k0, _, w0⟩ := DataW.trod_int Try.underlying3 t0
    obtain ⟨j, k1, _, w1⟩ := DataW.trod_int Try.underlying3 t1
    obtain ⟨id, sp, nm, k2, _⟩ := open_ent t2
    obtain ⟨s3, k3, _, w3⟩ := DataW.trod_string Try.underlying9 t3
    obtain ⟨s4, k4, _, w4⟩ := DataW.trod_string Try.underlying9 t4
    simp only [List.drop_zero, List.take_succ_cons, List.take_zero, List.drop_succ_cons, List.cons.injEq, and_true] at k0 k1 k2 k3 k4
    subst k0 k1 k3 k4
    obtain ⟨rfl, rfl, rfl⟩ := k2
    exact ⟨i, j, id, sp, nm, s3, s4, rfl⟩
end

/-- A slice of steps that came in, as a list. -/
theorem open_stepsT {H : Type} {enc : TypeId × Value → H} {W : World} {spare : Nat → Bool} {held : Bool} {v : Value} {d : DataW H} {ps : List MemPlace}
    {r : Reach} {b0 : Nat} (hv : Value.okWide Try.prog W r b0 39 v) (h : DataW.Trod enc Try.prog W 0 spare held 39 v d ps) :
    ∃ l : List Sp, StepsAt W v l ∧ l.length ≤ 9223372036854775807 := by
  obtain ⟨av, lv, cv, rfl⟩ := Go.WideShapes.okWide_slice Try.underlying39 hv
  obtain ⟨fuel, hf⟩ := h
  rcases Go.Deep.open_slice Try.underlying39 hf with ⟨hcs, _⟩ | ⟨a, len, cap, m, q, D, Pl, hcs, _, hl, hm, hmm, hxx, hi⟩
  · rw [List.singleton_inj.1 hcs]
    exact ⟨[], ⟨none, 0, rfl, fun h => absurd rfl h⟩, by simp⟩
  · rw [List.singleton_inj.1 hcs]
    have hlm : len ≤ m := by rw [hmm]; split <;> omega
    have hex : ∀ i, i < len → ∃ y : Sp, W.cell? (a.add (i * 7)) = some (i64 y.what) ∧ W.cell? (a.add (i * 7 + 1)) = some (i64 y.at_) ∧ W.cell? (a.add (i * 7 + 2)) = some (i64 y.e.id) ∧ W.cell? (a.add (i * 7 + 3)) = some (i64 y.e.space) ∧ W.cell? (a.add (i * 7 + 4)) = some (.string y.e.name) ∧ W.cell? (a.add (i * 7 + 5)) = some (.string y.n1) ∧ W.cell? (a.add (i * 7 + 6)) = some (.string y.n2) := by
      intro i hi'
      obtain ⟨cs, hc, ht⟩ := hi i (by omega)
      rw [cells46] at hc
      obtain ⟨x0, x1, id, sp, nm, s3, s4, rfl⟩ := open_step ht
      obtain ⟨_, _, hat⟩ := World.cells?_some hc
      have z0 := hat 0 (by omega)
      have z1 := hat 1 (by omega)
      have z2 := hat 2 (by omega)
      have z3 := hat 3 (by omega)
      have z4 := hat 4 (by omega)
      have z5 := hat 5 (by omega)
      have z6 := hat 6 (by omega)
      rw [Go.Deep.add_add] at z0 z1 z2 z3 z4 z5 z6
      exact ⟨⟨x0, x1, ⟨id, sp, nm⟩, s3, s4⟩, by simpa using z0, by simpa using z1, by simpa using z2, by simpa using z3, by simpa using z4, by simpa using z5, by simpa using z6⟩
    let f : Nat → Sp := fun i => if h : i < len then (hex i h).choose else ⟨0, 0, zeroEnt, ⟨#[]⟩, ⟨#[]⟩⟩
    have hf' : ∀ i (h : i < len), f i = (hex i h).choose := fun i h => by simp only [f]; rw [dif_pos h]
    have hml : len ≤ 9223372036854775807 := by
      have h1 := Nat.le_trans hl hm
      unfold maxLen at h1
      exact h1
    refine ⟨(List.range len).map f, ⟨some a, cap, by simp, fun hne => ?_⟩, by simpa using hml⟩
    have hl0 : 0 < len := by
      rcases Nat.eq_zero_or_pos len with h | h
      · rw [h] at hne; simp at hne
      · exact h
    have h0 := cell_some (hex 0 hl0).choose_spec.1
    simp only [Nat.zero_mul, Addr.add, if_true] at h0
    obtain ⟨g, off, sp⟩ := a
    obtain ⟨rfl, hg⟩ := h0
    refine ⟨g, off, rfl, hg, fun k x hx => ?_⟩
    rw [List.getElem?_map] at hx
    have hk : k < len := by
      rcases Nat.lt_or_ge k len with h | h
      · exact h
      · rw [List.getElem?_eq_none (by simpa using h)] at hx; simp at hx
    rw [List.getElem?_range hk] at hx
    simp only [Option.map_some, Option.some.injEq] at hx
    subst hx
    rw [hf' k hk]
    have ha : ∀ q, (⟨g, off, none⟩ : Addr).add q = ⟨g, off + q, none⟩ := fun q => by unfold Addr.add; split <;> simp_all
    obtain ⟨y, hy⟩ : ∃ y, (hex k hk).choose = y := ⟨_, rfl⟩
    have hs := (hex k hk).choose_spec
    rw [hy] at hs ⊢
    simp only [ha] at hs
    exact hs

/-- Two names by value, opened. -/
theorem open_pair {H : Type} {enc : TypeId × Value → H} {W : World} {spare : Nat → Bool} {held : Bool} {v : Value} {d : DataW H} {ps : List MemPlace}
    {r : Reach} {b0 : Nat} (hv : Value.okWide Try.prog W r b0 40 v) (h : DataW.Trod enc Try.prog W 0 spare held 40 v d ps) :
    ∃ l : ByteArray × ByteArray, v = .agg #[.string l.1, .string l.2] ∧ True := by
  have hv' : ∃ cs, v = .agg cs ∧ cs.size = Try.prog.cellsOf 40 := by
    simp only [Value.okWide, Try.underlying40] at hv
    obtain ⟨cs, h1, h2, _⟩ := hv
    exact ⟨cs, h1, h2⟩
  obtain ⟨cs, rfl, hs⟩ := hv'
  obtain ⟨fuel, hf⟩ := h
  obtain ⟨xs, m, _, _, _, hxl, hi⟩ := DataW.trod_array Try.underlying40 hf
  rw [show Try.prog.cellsOf 40 = 2 by kernel_rfl] at hs
  obtain ⟨l⟩ := cs
  match l, hs with
  | [c0, c1], _ =>
    obtain ⟨y0, e0⟩ : ∃ y, xs[0]? = some y := ⟨_, List.getElem?_eq_getElem (by omega)⟩
    obtain ⟨y1, e1⟩ : ∃ y, xs[1]? = some y := ⟨_, List.getElem?_eq_getElem (by omega)⟩
    have t0 := (hi 0 (by omega)).trans e0
    have t1 := (hi 1 (by omega)).trans e1
    rw [cells9] at t0 t1
    obtain ⟨s0, k0, _⟩ := DataW.trod_string Try.underlying9 t0
    obtain ⟨s1, k1, _⟩ := DataW.trod_string Try.underlying9 t1
    simp [Value.cells] at k0 k1
    subst k0 k1
    exact ⟨(s0, s1), rfl, trivial⟩
end Go.Proofs.Ytdagjpiakbfjpaa
