/-
  Arguments of rectolaw09's laws, opened: a list of entries.
  Written by an AI agent.
-/
import Derived.Test.YtdagjpiakbfjpaaCell
import Derived.Lib.SmallJoins
import Derived.OpenShut
import Derived.ShutString
import Derived.ChangeOld
import Derived.SizedLaws
import Derived.ProofKit
import Derived.Carry
import Derived.WalkKit
namespace Go.Proofs.Ytdagjpiakbfjpaa
open Go.ChangeShapes Go.WideShapes Go.Deep Go.RowKit

theorem own : ownKnob Try.prog.godebug = none := by kernel_rfl
theorem cells27 : Try.prog.cellsOf 27 = 3 := by kernel_rfl
theorem cells3 : Try.prog.cellsOf 3 = 1 := by kernel_rfl
theorem cells9 : Try.prog.cellsOf 9 = 1 := by kernel_rfl

/-- The slice v reads as these entries. -/
def EntsAt (w : World) (v : Value) (l : List Ent) : Prop :=
  ∃ ad c, v = .slice ad l.length c ∧ (l ≠ [] → ∃ g off, ad = some ⟨g, off, none⟩ ∧ g < w.heap.size ∧ ∀ (k : Nat) (e : Ent), l[k]? = some e →
    w.cell? ⟨g, off + k * 3, none⟩ = some (i64 e.id) ∧ w.cell? ⟨g, off + k * 3 + 1, none⟩ = some (i64 e.space) ∧ w.cell? ⟨g, off + k * 3 + 2, none⟩ = some (.string e.name))

theorem cell_some {w : World} {a : Addr} {v : Value} (h : w.cell? a = some v) : a.spot = none ∧ a.block < w.heap.size := by
  unfold World.cell? at h
  cases hb : w.heap[a.block]? with
  | none => simp [hb] at h
  | some o =>
    refine ⟨?_, (Array.getElem?_eq_some_iff.1 hb).1⟩
    rw [hb] at h
    cases o with
    | cells c e fr =>
      cases hs : a.spot with
      | none => rfl
      | some y => simp [hs] at h
    | _ => simp at h

section
variable {H : Type} {enc : TypeId × Value → H} {w : World} {base : Nat} {spare : Nat → Bool} {held : Bool}
/-- An entry's three cells, opened. -/
theorem open_ent {n : Nat} {cs : List Value} {x : DataW H × List MemPlace} (h : DataW.trod enc Try.prog w base spare held n 27 cs = some x) :
    ∃ (id sp : Int) (nm : ByteArray), cs = [i64 id, i64 sp, .string nm] ∧ (Lit.int .i64 id).wf = true ∧ (Lit.int .i64 sp).wf = true ∧ nm.size ≤ maxLen := by
  obtain ⟨xs, n', _, hxx, hlen, hxl, hf⟩ := DataW.trod_struct Try.underlying27 h
  rw [cells27] at hlen
  match cs, hlen with
  | [c0, c1, c2], _ =>
    have g : ∀ i, i < 3 → ∃ y, xs[i]? = some y := fun i hi => ⟨_, List.getElem?_eq_getElem (by rw [hxl]; exact hi)⟩
    obtain ⟨y0, e0⟩ := g 0 (by omega)
    obtain ⟨y1, e1⟩ := g 1 (by omega)
    obtain ⟨y2, e2⟩ := g 2 (by omega)
    have t0 : DataW.trod enc Try.prog w base spare held n' 3 (([c0, c1, c2].drop 0).take (Try.prog.cellsOf 3)) = some y0 := (hf 0 _ rfl).trans e0
    have t1 : DataW.trod enc Try.prog w base spare held n' 3 (([c0, c1, c2].drop 1).take (Try.prog.cellsOf 3)) = some y1 := (hf 1 _ rfl).trans e1
    have t2 : DataW.trod enc Try.prog w base spare held n' 9 (([c0, c1, c2].drop 2).take (Try.prog.cellsOf 9)) = some y2 := (hf 2 _ rfl).trans e2
    rw [cells3] at t0 t1
    rw [cells9] at t2
    obtain ⟨i, k0, _, w0⟩ := DataW.trod_int Try.underlying3 t0
    obtain ⟨j, k1, _, w1⟩ := DataW.trod_int Try.underlying3 t1
    obtain ⟨s, k2, _, w2⟩ := DataW.trod_string Try.underlying9 t2
    obtain rfl := List.singleton_inj.1 k0
    obtain rfl := List.singleton_inj.1 k1
    obtain rfl := List.singleton_inj.1 k2
    exact ⟨i, j, s, rfl, w0, w1, w2⟩
end

/-- A slice of entries that came in, as a list. -/
theorem open_ents {H : Type} {enc : TypeId × Value → H} {W : World} {spare : Nat → Bool} {held : Bool} {v : Value} {d : DataW H} {ps : List MemPlace}
    {r : Reach} {b0 : Nat} (hv : Value.okWide Try.prog W r b0 22 v) (h : DataW.Trod enc Try.prog W 0 spare held 22 v d ps) :
    ∃ l : List Ent, EntsAt W v l ∧ l.length ≤ 9223372036854775807 := by
  obtain ⟨av, lv, cv, rfl⟩ := Go.WideShapes.okWide_slice Try.underlying22 hv
  obtain ⟨fuel, hf⟩ := h
  rcases Go.Deep.open_slice Try.underlying22 hf with ⟨hcs, _⟩ | ⟨a, len, cap, m, q, D, Pl, hcs, _, hl, hm, hmm, hxx, hi⟩
  · rw [List.singleton_inj.1 hcs]
    exact ⟨[], ⟨none, 0, rfl, fun h => absurd rfl h⟩, by simp⟩
  · rw [List.singleton_inj.1 hcs]
    have hlm : len ≤ m := by rw [hmm]; split <;> omega
    have hex : ∀ i, i < len → ∃ y : Ent, W.cell? (a.add (i * 3)) = some (i64 y.id) ∧ W.cell? (a.add (i * 3 + 1)) = some (i64 y.space) ∧ W.cell? (a.add (i * 3 + 2)) = some (.string y.name) := by
      intro i hi'
      obtain ⟨cs, hc, ht⟩ := hi i (by omega)
      rw [cells27] at hc
      obtain ⟨id, sp, nm, rfl, _⟩ := open_ent ht
      obtain ⟨_, _, hat⟩ := World.cells?_some hc
      have z0 := hat 0 (by omega)
      have z1 := hat 1 (by omega)
      have z2 := hat 2 (by omega)
      rw [Go.Deep.add_add] at z0 z1 z2
      exact ⟨⟨id, sp, nm⟩, by simpa using z0, by simpa using z1, by simpa using z2⟩
    let f : Nat → Ent := fun i => if h : i < len then (hex i h).choose else zeroEnt
    have hf' : ∀ i, i < len → W.cell? (a.add (i * 3)) = some (i64 (f i).id) ∧ W.cell? (a.add (i * 3 + 1)) = some (i64 (f i).space) ∧ W.cell? (a.add (i * 3 + 2)) = some (.string (f i).name) := by
      intro i h
      have : f i = (hex i h).choose := by simp only [f]; rw [dif_pos h]
      rw [this]
      exact (hex i h).choose_spec
    have hml : len ≤ 9223372036854775807 := by
      have h1 := Nat.le_trans hl hm
      unfold maxLen at h1
      exact h1
    refine ⟨(List.range len).map f, ⟨some a, cap, by simp, fun hne => ?_⟩, by simpa using hml⟩
    have hl0 : 0 < len := by
      rcases Nat.eq_zero_or_pos len with h | h
      · rw [h] at hne; simp at hne
      · exact h
    have h0 := cell_some (hf' 0 hl0).1
    simp only [Nat.zero_mul, Addr.add, if_true] at h0
    obtain ⟨g, off, sp⟩ := a
    obtain ⟨rfl, hg⟩ := h0
    refine ⟨g, off, rfl, hg, fun k x hx => ?_⟩
    rw [List.getElem?_map] at hx
    have hk : k < len := by
      rcases Nat.lt_or_ge k len with h | h
      · exact h
      · rw [List.getElem?_eq_none (by simpa using h)] at hx; simp at hx
    rw [List.getElem?_range hk] at hx
    simp only [Option.map_some, Option.some.injEq] at hx
    subst hx
    have ha : ∀ q, (⟨g, off, none⟩ : Addr).add q = ⟨g, off + q, none⟩ := fun q => by unfold Addr.add; split <;> simp_all
    have := hf' k hk
    simp only [ha] at this
    exact this
end Go.Proofs.Ytdagjpiakbfjpaa
