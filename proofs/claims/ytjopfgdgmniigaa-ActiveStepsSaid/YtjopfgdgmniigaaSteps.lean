/-
  Steps that came in, as a list.
  Written by an AI agent.
-/
import Derived.Test.YtjopfgdgmniigaaOpen
namespace Go.Proofs.Ytjopfgdgmniigaa
open Go.RowKit Go.Maps

/-- A step: what, a number, an entry. -/
structure Stp where
  what : Int
  n : Int
  e : Ent

/-- The slice v reads as these steps. -/
def StepsAt (w : World) (v : Value) (l : List (Stp × Value)) : Prop :=
  ∃ ad c, v = .slice ad l.length c ∧ l.length ≤ 9223372036854775807 ∧ (∀ x ∈ l, AtrsAt w w.heap.size x.2 x.1.e.attrs) ∧ (l ≠ [] → ∃ g off, ad = some ⟨g, off, none⟩ ∧ g < w.heap.size ∧ ∀ (k : Nat) (x : Stp × Value), l[k]? = some x →
    w.cell? ⟨g, off + k * 6, none⟩ = some (i64 x.1.what) ∧ w.cell? ⟨g, off + k * 6 + 1, none⟩ = some (i64 x.1.n) ∧ w.cell? ⟨g, off + k * 6 + 2, none⟩ = some (.bool x.1.e.mark) ∧
      w.cell? ⟨g, off + k * 6 + 3, none⟩ = some (i64 x.1.e.id) ∧ w.cell? ⟨g, off + k * 6 + 4, none⟩ = some (.string x.1.e.name) ∧ w.cell? ⟨g, off + k * 6 + 5, none⟩ = some x.2)

theorem cell_some {w : World} {a : Addr} {v : Value} (h : w.cell? a = some v) : a.spot = none ∧ a.block < w.heap.size := by
  unfold World.cell? at h
  cases hb : w.heap[a.block]? with
  | none => simp [hb] at h
  | some o =>
    refine ⟨?_, (Array.getElem?_eq_some_iff.1 hb).1⟩
    rw [hb] at h
    cases o with
    | cells c e fr =>
      cases hs : a.spot with
      | none => rfl
      | some y => simp [hs] at h
    | _ => simp at h

/-- Attributes that came in, as a list. -/
theorem open_atrs {H : Type} {enc : TypeId × Value → H} {W : World} {spare : Nat → Bool} {held : Bool} {fuel : Nat} {v : Value} {x : DataW H × List MemPlace} (h : DataW.trod enc Try.prog W 0 spare held fuel 31 [v] = some x) (hw : ∀ q ∈ x.1.weights Try.prog 31, q ≤ reachBytes) :
    ∃ l : List Atr, AtrsAt W W.heap.size v l := by
  rcases Go.Deep.open_slice Try.underlying31 h with ⟨hcs, _⟩ | ⟨a, len, cap, m, q, D, Pl, hcs, _, hl, hm, hmm, hxx, hi⟩
  · obtain rfl := List.singleton_inj.1 hcs
    exact ⟨[], none, 0, rfl, Nat.le_refl _, by simp, by simp, fun h => absurd rfl h⟩
  · obtain rfl := List.singleton_inj.1 hcs
    have hlm : len ≤ m := by rw [hmm]; split <;> omega
    have hex : ∀ i, i < len → ∃ y : Atr, W.cell? (a.add (i * 2)) = some (.string y.1) ∧ W.cell? (a.add (i * 2 + 1)) = some (.string y.2) ∧ AtrOk y := by
      intro i hi'
      obtain ⟨cs, hc, ht⟩ := hi i (by omega)
      rw [cells60] at hc
      obtain ⟨xs, n', _, _, hlen, hxl, hf⟩ := DataW.trod_struct Try.underlying60 ht
      rw [cells60] at hlen
      match cs, hlen with
      | [c0, c1], _ =>
        have g : ∀ i, i < 2 → ∃ y, xs[i]? = some y := fun i hi => ⟨_, List.getElem?_eq_getElem (by rw [hxl]; exact hi)⟩
        obtain ⟨y0, e0⟩ := g 0 (by omega)
        obtain ⟨y1, e1⟩ := g 1 (by omega)
        have t0 : DataW.trod enc Try.prog W 0 spare held n' 9 (([c0, c1].drop 0).take (Try.prog.cellsOf 9)) = some y0 := (hf 0 _ rfl).trans e0
        have t1 : DataW.trod enc Try.prog W 0 spare held n' 9 (([c0, c1].drop 1).take (Try.prog.cellsOf 9)) = some y1 := (hf 1 _ rfl).trans e1
        rw [cells9] at t0 t1
        obtain ⟨s0, k0, _, w0⟩ := DataW.trod_string Try.underlying9 t0
        obtain ⟨s1, k1, _, w1⟩ := DataW.trod_string Try.underlying9 t1
        obtain rfl := List.singleton_inj.1 k0
        obtain rfl := List.singleton_inj.1 k1
        obtain ⟨_, _, hat⟩ := World.cells?_some hc
        have z0 := hat 0 (by omega)
        have z1 := hat 1 (by omega)
        rw [Go.Deep.add_add] at z0 z1
        exact ⟨(s0, s1), by simpa using z0, by simpa using z1, w0, w1⟩
    have hbytes : Try.prog.bytesOf 60 = 32 := by kernel_rfl
    have hlen : len ≤ 4398046511104 := by
      have := hw ((len + (m - len)) * 32) (by
        rw [hxx]
        simp [DataW.weights, Try.underlying31, hbytes])
      unfold reachBytes at this
      omega
    let f : Nat → Atr := fun i => if h : i < len then (hex i h).choose else (⟨#[]⟩, ⟨#[]⟩)
    have hf' : ∀ i, i < len → W.cell? (a.add (i * 2)) = some (.string (f i).1) ∧ W.cell? (a.add (i * 2 + 1)) = some (.string (f i).2) ∧ AtrOk (f i) := by
      intro i h
      have : f i = (hex i h).choose := by simp only [f]; rw [dif_pos h]
      rw [this]
      exact (hex i h).choose_spec
    refine ⟨(List.range len).map f, some a, cap, by simp, by simpa using hl, by simpa using hlen, ?_, ?_⟩
    · intro x hx
      rw [List.mem_map] at hx
      obtain ⟨i, hi', rfl⟩ := hx
      exact (hf' i (List.mem_range.1 hi')).2.2
    · intro hne
      have hl0 : 0 < len := by
        rcases Nat.eq_zero_or_pos len with h | h
        · rw [h] at hne; simp at hne
        · exact h
      have h0 := cell_some (hf' 0 hl0).1
      simp only [Nat.zero_mul, Addr.add, if_true] at h0
      obtain ⟨g, off, sp⟩ := a
      obtain ⟨rfl, hg⟩ := h0
      refine ⟨g, off, rfl, hg, .inl hg, fun k x hx => ?_⟩
      rw [List.getElem?_map] at hx
      have hk : k < len := by
        rcases Nat.lt_or_ge k len with h | h
        · exact h
        · rw [List.getElem?_eq_none (by simpa using h)] at hx; simp at hx
      rw [List.getElem?_range hk] at hx
      simp only [Option.map_some, Option.some.injEq] at hx
      subst hx
      have ha : ∀ q, (⟨g, off, none⟩ : Addr).add q = ⟨g, off + q, none⟩ := fun q => by unfold Addr.add; split <;> simp_all
      have := hf' k hk
      simp only [ha] at this
      exact ⟨this.1, this.2.1⟩

theorem weightsAll_mem {H : Type} {P : Program} {t : TypeId} : ∀ {ds : List (DataW H)} {d : DataW H}, d ∈ ds → ∀ q ∈ d.weights P t, q ∈ DataW.weightsAll P t ds
  | [], _, h, _, _ => by cases h
  | c :: r, d, h, q, hq => by
    rw [DataW.weightsAll, List.mem_append]
    rcases List.mem_cons.1 h with rfl | h
    · exact .inl hq
    · exact .inr (weightsAll_mem h q hq)

/-- The argument, opened: a list of steps. -/
theorem open_steps {H : Type} {enc : TypeId × Value → H} {W : World} {spare : Nat → Bool} {held : Bool} {v : Value} {d : DataW H} {ps : List MemPlace}
    {r : Reach} {b0 : Nat} (hv : Value.okWide Try.prog W r b0 22 v) (h : DataW.Trod enc Try.prog W 0 spare held 22 v d ps) (hw : ∀ q ∈ d.weights Try.prog 22, q ≤ reachBytes) :
    ∃ l : List (Stp × Value), StepsAt W v l ∧ ∀ x ∈ l, (Lit.int .i64 x.1.what).wf = true ∧ (Lit.int .i64 x.1.n).wf = true ∧ (Lit.int .i64 x.1.e.id).wf = true := by
  obtain ⟨av, lv, cv, rfl⟩ := Go.WideShapes.okWide_slice Try.underlying22 hv
  obtain ⟨fuel, hf⟩ := h
  rcases Go.Deep.open_slice Try.underlying22 hf with ⟨hcs, _⟩ | ⟨a, len, cap, m, q, D, Pl, hcs, _, hl, hm, hmm, hxx, hi⟩
  · rw [List.singleton_inj.1 hcs]
    exact ⟨[], ⟨none, 0, rfl, by simp, by simp, fun h => absurd rfl h⟩, by simp⟩
  · rw [List.singleton_inj.1 hcs]
    have hlm : len ≤ m := by rw [hmm]; split <;> omega
    have hex : ∀ i, i < len → ∃ y : Stp × Value, W.cell? (a.add (i * 6)) = some (i64 y.1.what) ∧ W.cell? (a.add (i * 6 + 1)) = some (i64 y.1.n) ∧ W.cell? (a.add (i * 6 + 2)) = some (.bool y.1.e.mark) ∧
        W.cell? (a.add (i * 6 + 3)) = some (i64 y.1.e.id) ∧ W.cell? (a.add (i * 6 + 4)) = some (.string y.1.e.name) ∧ W.cell? (a.add (i * 6 + 5)) = some y.2 ∧ AtrsAt W W.heap.size y.2 y.1.e.attrs ∧
        (Lit.int .i64 y.1.what).wf = true ∧ (Lit.int .i64 y.1.n).wf = true ∧ (Lit.int .i64 y.1.e.id).wf = true := by
      intro i hi'
      obtain ⟨cs, hc, ht⟩ := hi i (by omega)
      rw [cells35] at hc
      obtain ⟨what, k, mk, id, nm, va, y, m', rfl, w0, w1, w2, _, _, t3, hwt⟩ := open_step ht
      obtain ⟨l, hl⟩ := open_atrs t3 (fun q hq => hw q (by
        have h1 := hwt q hq
        rw [(Prod.mk.inj hxx).1]
        simp only [DataW.weights, Try.underlying22, List.mem_cons, List.mem_append]
        exact .inr (.inl (weightsAll_mem (List.mem_map.2 ⟨i, List.mem_range.2 hi', rfl⟩) q h1))))
      obtain ⟨_, _, hat⟩ := World.cells?_some hc
      have z0 := hat 0 (by omega)
      have z1 := hat 1 (by omega)
      have z2 := hat 2 (by omega)
      have z3 := hat 3 (by omega)
      have z4 := hat 4 (by omega)
      have z5 := hat 5 (by omega)
      rw [Go.Deep.add_add] at z0 z1 z2 z3 z4 z5
      exact ⟨(⟨what, k, ⟨mk, id, nm, l⟩⟩, va), by simpa using z0, by simpa using z1, by simpa using z2, by simpa using z3, by simpa using z4, by simpa using z5, hl, w0, w1, w2⟩
    let f : Nat → Stp × Value := fun i => if h : i < len then (hex i h).choose else (⟨0, 0, ⟨false, 0, ⟨#[]⟩, []⟩⟩, .slice none 0 0)
    have hf' : ∀ i (h : i < len), f i = (hex i h).choose := fun i h => by simp only [f]; rw [dif_pos h]
    refine ⟨(List.range len).map f, ⟨some a, cap, by simp, by
      have h1 := Nat.le_trans hl hm
      unfold maxLen at h1
      simpa using h1, ?_, ?_⟩, ?_⟩
    · intro x hx
      rw [List.mem_map] at hx
      obtain ⟨i, hi', rfl⟩ := hx
      have hil := List.mem_range.1 hi'
      rw [hf' i hil]
      exact (hex i hil).choose_spec.2.2.2.2.2.2.1
    · intro hne
      have hl0 : 0 < len := by
        rcases Nat.eq_zero_or_pos len with h | h
        · rw [h] at hne; simp at hne
        · exact h
      have h0 := cell_some (hex 0 hl0).choose_spec.1
      simp only [Nat.zero_mul, Addr.add, if_true] at h0
      obtain ⟨g, off, sp⟩ := a
      obtain ⟨rfl, hg⟩ := h0
      refine ⟨g, off, rfl, hg, fun k x hx => ?_⟩
      rw [List.getElem?_map] at hx
      have hk : k < len := by
        rcases Nat.lt_or_ge k len with h | h
        · exact h
        · rw [List.getElem?_eq_none (by simpa using h)] at hx; simp at hx
      rw [List.getElem?_range hk] at hx
      simp only [Option.map_some, Option.some.injEq] at hx
      subst hx
      rw [hf' k hk]
      have ha : ∀ q, (⟨g, off, none⟩ : Addr).add q = ⟨g, off + q, none⟩ := fun q => by unfold Addr.add; split <;> simp_all
      obtain ⟨y, hy⟩ : ∃ y, (hex k hk).choose = y := ⟨_, rfl⟩
      have hs := (hex k hk).choose_spec
      rw [hy] at hs ⊢
      obtain ⟨e0, e1, e2, e3, e4, e5, _⟩ := hs
      rw [ha] at e0 e1 e2 e3 e4 e5
      exact ⟨e0, e1, e2, e3, e4, e5⟩
    · intro x hx
      rw [List.mem_map] at hx
      obtain ⟨i, hi', rfl⟩ := hx
      have hil := List.mem_range.1 hi'
      rw [hf' i hil]
      exact (hex i hil).choose_spec.2.2.2.2.2.2.2
end Go.Proofs.Ytjopfgdgmniigaa
