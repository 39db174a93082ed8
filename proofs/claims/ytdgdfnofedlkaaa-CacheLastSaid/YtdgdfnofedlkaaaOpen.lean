/-
  A slice of steps that came in, read as a list; the facts that every row of rectolaw33 shares.
  Written by an AI agent; 'open_slice_fields' is the guides' own block (extra-structs.md), copied as it says.
-/
import Derived.Test.YtdgdfnofedlkaaaDoes
import Derived.Deep.Slices
import Derived.Deep.Fields
import Derived.ChangeSame
import Derived.OpenShut
import Derived.ShutString
import Derived.ChangeOld
import Derived.SizedLaws
import Derived.ProofKit
import Derived.Carry
import Derived.Lib.SmallJoins
import Derived.WalkKit
namespace Go.Proofs.Ytdgdfnofedlkaaa
open Go.ChangeShapes Go.WideShapes Go.Deep Go.RowKit
section
variable {H : Type} {enc : TypeId × Value → H} {P : Program} {w : World} {base : Nat} {spare : Nat → Bool} {held : Bool}
theorem open_slice_fields {t e : TypeId} {fs : Array Field} {fuel : Nat} {cs : List Value} {x : DataW H × List MemPlace} (ht : P.underlying t = some (.slice e)) (he : P.underlying e = some (.struct fs))
    (hone : oneCellFields P fs = true) (hC : P.cellsOf e = fs.size) (h : DataW.trod enc P w base spare held fuel t cs = some x) :
    (cs = [.slice none 0 0] ∧ x = (.nil, [])) ∨
    ∃ (a : Addr) (len cap m : Nat) (D : Nat → DataW H) (Pl : Nat → List MemPlace), cs = [.slice (some a) len cap] ∧ base ≤ a.block ∧ len ≤ cap ∧ cap ≤ maxLen ∧ m = (if spare a.block then cap else len) ∧
      x = (.slice ((List.range len).map D) ((List.range (m - len)).map fun j => D (len + j)), MemPlace.row a (m * fs.size) ++ (List.range m).flatMap Pl) ∧
      ∀ i, i < m → ∃ (ys : List (DataW H × List MemPlace)) (n : Nat), D i = .agg (ys.map (·.1)) ∧ Pl i = ys.flatMap (·.2) ∧ ys.length = fs.size ∧
        ∀ (j : Nat) (f : Field), fs[j]? = some f → ∃ (v : Value) (y : DataW H × List MemPlace), w.cell? (a.add (i * fs.size + j)) = some v ∧ ys[j]? = some y ∧ DataW.trod enc P w base spare held n f.type [v] = some y := by
  rcases open_slice ht h with h0 | ⟨a, len, cap, m, n, D, Pl, hcs, hb, hl, hm, hmm, hx, hi⟩
  · exact .inl h0
  · refine .inr ⟨a, len, cap, m, D, Pl, hcs, hb, hl, hm, hmm, by rw [hC] at hx; exact hx, fun i him => ?_⟩
    obtain ⟨cs', hc, ht'⟩ := hi i him
    rw [hC] at hc
    obtain ⟨ys, n', hn', hy, hlen, hyl, hf⟩ := DataW.trod_struct he ht'
    obtain ⟨_, hcl, hat⟩ := World.cells?_some hc
    simp only [Prod.mk.injEq] at hy
    refine ⟨ys, n', hy.1, hy.2, hyl, fun j f hj => ?_⟩
    obtain ⟨ho, hk⟩ := hone_of hone j f hj
    have hjl : j < fs.size := (Array.getElem?_eq_some_iff.1 hj).1
    have hcell := hat j hjl
    have hv : cs'[j]? = some (cs'[j]'(by omega)) := List.getElem?_eq_getElem (by omega)
    have h1 := hf j f hj
    rw [ho, hk] at h1
    have hone' : (cs'.drop j).take 1 = [cs'[j]'(by omega)] := by
      rw [List.drop_eq_getElem_cons (by omega)]
      rfl
    rw [hone'] at h1
    have hys : ys[j]? = some (ys[j]'(by omega)) := List.getElem?_eq_getElem (by omega)
    refine ⟨_, _, ?_, hys, h1.trans hys⟩
    rw [← Go.Deep.add_add, hcell, hv]
end

theorem laid : laidOutB Try.prog = true := by kernel_rfl
theorem own : ownKnob Try.prog.godebug = none := by kernel_rfl

theorem cell_some {w : World} {a : Addr} {v : Value} (h : w.cell? a = some v) : a.spot = none ∧ a.block < w.heap.size := by
  unfold World.cell? at h
  cases hb : w.heap[a.block]? with
  | none => simp [hb] at h
  | some o =>
    refine ⟨?_, (Array.getElem?_eq_some_iff.1 hb).1⟩
    rw [hb] at h
    cases o with
    | cells c e fr =>
      cases hs : a.spot with
      | none => rfl
      | some y => simp [hs] at h
    | _ => simp at h

/-- The argument, opened: a list of steps, whose numbers are numbers. -/
theorem open_steps {H : Type} {enc : TypeId × Value → H} {W : World} {spare : Nat → Bool} {held : Bool} {v : Value} {d : DataW H} {ps : List MemPlace}
    {r : Reach} {b0 : Nat} (hv : Value.okWide Try.prog W r b0 22 v) (h : DataW.Trod enc Try.prog W 0 spare held 22 v d ps) :
    ∃ l : List Stp, StepsAt W v l ∧ ∀ x ∈ l, (Lit.int .i64 x.id).wf = true := by
  obtain ⟨av, lv, cv, rfl⟩ := okWide_slice Try.underlying22 hv
  have hc1 : ∀ c, (Value.slice av lv cv).cells.toList = [c] → Value.slice av lv cv = c := fun c h => List.singleton_inj.1 h
  obtain ⟨fuel, hf⟩ := h
  rcases open_slice_fields Try.underlying22 Try.underlying34 (by kernel_rfl) (by kernel_rfl) hf with ⟨hcs, _⟩ | ⟨a, len, cap, m, D, Pl, hcs, _, hl, hm, hmm, _, hi⟩
  · rw [hc1 _ hcs]
    exact ⟨[], ⟨none, 0, rfl, by simp, fun h => absurd rfl h⟩, fun x hx => by cases hx⟩
  · rw [hc1 _ hcs]
    have hlm : len ≤ m := by rw [hmm]; split <;> omega
    have hex : ∀ i, i < len → ∃ x : Stp, W.cell? (a.add (i * 3)) = some (i64 x.what) ∧ W.cell? (a.add (i * 3 + 1)) = some (i64 x.id) ∧ W.cell? (a.add (i * 3 + 2)) = some (.string x.s) ∧ (Lit.int .i64 x.id).wf = true := by
      intro i hi'
      obtain ⟨ys, n, _, _, _, hfld⟩ := hi i (by omega)
      obtain ⟨v0, y0, c0, _, t0⟩ := hfld 0 _ rfl
      obtain ⟨v1, y1, c1, _, t1⟩ := hfld 1 _ rfl
      obtain ⟨v2, y2, c2, _, t2⟩ := hfld 2 _ rfl
      obtain ⟨n0, e0, _, _⟩ := DataW.trod_int Try.underlying3 t0
      obtain ⟨n1, e1, _, w1⟩ := DataW.trod_int Try.underlying3 t1
      obtain ⟨s2, e2, _, _⟩ := DataW.trod_string Try.underlying9 t2
      obtain rfl := List.singleton_inj.1 e0
      obtain rfl := List.singleton_inj.1 e1
      obtain rfl := List.singleton_inj.1 e2
      exact ⟨⟨n0, n1, s2⟩, c0, c1, c2, w1⟩
    let f : Nat → Stp := fun i => if h : i < len then (hex i h).choose else ⟨0, 0, ⟨#[]⟩⟩
    have hf' : ∀ i, i < len → W.cell? (a.add (i * 3)) = some (i64 (f i).what) ∧ W.cell? (a.add (i * 3 + 1)) = some (i64 (f i).id) ∧ W.cell? (a.add (i * 3 + 2)) = some (.string (f i).s) ∧ (Lit.int .i64 (f i).id).wf = true := by
      intro i h
      have : f i = (hex i h).choose := by simp only [f]; rw [dif_pos h]
      rw [this]
      exact (hex i h).choose_spec
    refine ⟨(List.range len).map f, ⟨some a, cap, by simp, ?_, ?_⟩, ?_⟩
    · simp; exact Nat.le_trans hl hm
    · intro hne
      have hl0 : 0 < len := by
        rcases Nat.eq_zero_or_pos len with h | h
        · rw [h] at hne; simp at hne
        · exact h
      have h0 := cell_some (hf' 0 hl0).1
      simp only [Nat.zero_mul, Addr.add, if_true] at h0
      obtain ⟨g, off, sp⟩ := a
      obtain ⟨rfl, hg⟩ := h0
      refine ⟨g, off, rfl, hg, fun k x hx => ?_⟩
      rw [List.getElem?_map] at hx
      have hk : k < len := by
        rcases Nat.lt_or_ge k len with h | h
        · exact h
        · rw [List.getElem?_eq_none (by simpa using h)] at hx; simp at hx
      rw [List.getElem?_range hk] at hx
      simp only [Option.map_some, Option.some.injEq] at hx
      subst hx
      have ha : ∀ q, (⟨g, off, none⟩ : Addr).add q = ⟨g, off + q, none⟩ := fun q => by unfold Addr.add; split <;> simp_all
      have := hf' k hk
      simp only [ha] at this
      exact ⟨this.1, this.2.1, this.2.2.1⟩
    · intro x hx
      rw [List.mem_map] at hx
      obtain ⟨i, hi', rfl⟩ := hx
      exact (hf' i (List.mem_range.1 hi')).2.2.2
end Go.Proofs.Ytdgdfnofedlkaaa
