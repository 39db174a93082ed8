/-
  The blocks of an arena's kids; what a call leaves; a node's cells turned.
  Written by an AI agent.
-/
import Derived.Test.YtdeogkjihmaniaaIns
namespace Go.Proofs.Ytdeogkjihmaniaa
open Go.RowKit

/-- The blocks that hold kids. -/
def foot (l : List It) (k : Nat) : Prop := ∃ e ∈ l, e.kv.ownBlock = some k

/-- What a method leaves: kinds, rows of numbers, where kids lie. -/
structure Went (B : Nat) (l : List It) (w : World) (l' : List It) (w' : World) : Prop where
  fr : Fr B AK w w'
  ints : ∀ k, k < w.heap.size → ¬ foot l k → ∀ cs fr, w.heap[k]? = some (.cells cs 3 fr) → w'.heap[k]? = w.heap[k]?
  foot : ∀ k, foot l' k → foot l k ∨ w.heap.size ≤ k

section
variable {B : Nat} {l l' l'' : List It} {w w' w'' : World}
theorem Went.refl (B : Nat) (l : List It) (w : World) : Went B l w l w := ⟨Fr.refl _ _ _, fun _ _ _ _ _ _ => rfl, fun _ h => .inl h⟩
theorem Went.trans (h : Went B l w l' w') (h' : Went B l' w' l'' w'') : Went B l w l'' w'' :=
  ⟨h.fr.trans h'.fr, fun k hk hf cs fr ho => by
    have h1 := h.ints k hk hf cs fr ho
    refine (h'.ints k (Nat.lt_of_lt_of_le hk h.fr.size) (fun hn => ?_) cs fr (h1.trans ho)).trans h1
    rcases h.foot k hn with h2 | h2
    · exact hf h2
    · omega, fun k hk => by
    rcases h'.foot k hk with h2 | h2
    · exact h.foot k h2
    · exact .inr (Nat.le_trans h.fr.size h2)⟩
theorem Went.of_below (h : Below w.heap.size w w') (B : Nat) (l : List It) : Went B l w l w' := ⟨Fr.of_below h B AK, fun k hk _ _ _ _ => h.block k hk, fun _ h => .inl h⟩
theorem Went.below (h : Went B l w l' w') (hB : B ≤ w.heap.size) : Below B w w' := ⟨h.fr.os, h.fr.tape, h.fr.output, h.fr.size, fun k hk => h.fr.block k (Nat.lt_of_lt_of_le hk hB) (.inl hk)⟩
/-- A row of numbers that is none of the kids' stays. -/
theorem Went.own (h : Went B l w l' w') {base n c : Nat} {v : Value} {xs : List Value} (hv : w.ownsRow base 3 c v n xs) (hn : ∀ k, v.ownBlock = some k → ¬ Go.Proofs.Ytdeogkjihmaniaa.foot l k) : w'.ownsRow base 3 c v n xs := by
  refine ⟨hv.1, ?_⟩
  rcases hv.2 with h0 | ⟨g, cap, cur, rfl, hb, hg, rest⟩
  · exact .inl h0
  · exact .inr ⟨g, cap, cur, rfl, hb, (h.ints g (Array.getElem?_eq_some_iff.1 hg).1 (hn g rfl) _ _ hg).trans hg, rest⟩
end

theorem foot_lt {w : World} {B : Nat} {l : List It} (h : ∀ e ∈ l, ItAt w B e) {k : Nat} (hk : foot l k) : B ≤ k ∧ k < w.heap.size := by
  obtain ⟨e, he, hk⟩ := hk
  exact (h e he).kids.lt k hk
theorem ArenaAt.foot_lt {w : World} {B a : Nat} {v : Value} {l : List It} (h : ArenaAt w B a v l) {k : Nat} (hk : foot l k) : B ≤ k ∧ k < w.heap.size := Go.Proofs.Ytdeogkjihmaniaa.foot_lt h.its hk

theorem mem_set {l : List It} {p : Nat} {e f : It} (h : f ∈ l.set p e) : f = e ∨ f ∈ l := by
  rcases List.mem_or_eq_of_mem_set h with h | h
  · exact .inr h
  · exact .inl h

theorem foot_set {l : List It} {p : Nat} {e : It} {k : Nat} (h : foot (l.set p e) k) : foot l k ∨ e.kv.ownBlock = some k := by
  obtain ⟨f, hf, hk⟩ := h
  rcases mem_set hf with rfl | hf
  · exact .inr hk
  · exact .inl ⟨f, hf, hk⟩

theorem apart_set {l : List It} {p : Nat} {e : It} (h : Apart l) (hn : ∀ j f, l[j]? = some f → j ≠ p → ∀ k, f.kv.ownBlock = some k → e.kv.ownBlock ≠ some k) : Apart (l.set p e) := by
  intro i j f f' hi hj hne k hk
  rw [List.getElem?_set] at hi hj
  by_cases hip : p = i
  · rw [if_pos hip] at hi
    rw [if_neg (by omega)] at hj
    split at hi
    · obtain rfl := Option.some.inj hi
      exact fun hc => hn j f' hj (by omega) k hc hk
    · cases hi
  · rw [if_neg hip] at hi
    by_cases hjp : p = j
    · rw [if_pos hjp] at hj
      split at hj
      · obtain rfl := Option.some.inj hj
        exact hn i f hi (by omega) k hk
      · cases hj
    · rw [if_neg hjp] at hj
      exact h i j f f' hi hj hne k hk

theorem own_grown {w w3 : World} {B n c : Nat} {t : TypeId} {v : Value} {xs : List Value} {row : Option Nat} (h : w.ownsRow B t c v n xs) (hg : w.grownBy w3 row) (hr : ∀ g, row = some g → ∃ cs t', w.heap[g]? = some (.cells cs t' (0, 0)) ∧ t' ≠ t) : w3.ownsRow B t c v n xs := by
  cases hv : v.ownBlock with
  | none => exact h.kept hg (.inl hv)
  | some k =>
    refine h.kept hg (.inr fun e => ?_)
    rw [hv] at e
    obtain ⟨cs, t', h1, h2⟩ := hr k e.symm
    obtain ⟨_, cs', h3⟩ := own_kind h k hv
    rw [h1] at h3
    injection h3 with h3
    injection h3 with h3 h4
    exact h2 h4

/-- The kids of a node turned: the row by a callee, the cell behind it. -/
theorem ArenaAt.kids_turn {w w3 : World} {B a p g n c : Nat} {v3 : Value} {l : List It} {ep : It} {ks : List Int} (h : ArenaAt w B a (.slice (some ⟨g, 0, none⟩) n c) l) (hp : l[p]? = some ep)
    (hg : w.grownBy w3 ep.kv.ownBlock) (h3 : w3.ownsRow B 3 1 v3 ks.length (ks.map i64)) (hl : ∀ k, v3.ownBlock = some k → ep.kv.ownBlock = some k ∨ w.heap.size ≤ k) (hf : ks.length ≤ 1000000) :
    ArenaAt (w3.setCell ⟨g, p * 8 + 7, none⟩ v3) B a (.slice (some ⟨g, 0, none⟩) n c) (l.set p { ep with kids := ks, kv := v3 }) ∧ Went B l w (l.set p { ep with kids := ks, kv := v3 }) (w3.setCell ⟨g, p * 8 + 7, none⟩ v3) ∧
      Blk w3 a 67 #[.slice (some ⟨g, 0, none⟩) n c] ∧ w3.ownsRow B 64 8 (.slice (some ⟨g, 0, none⟩) n c) l.length (flatI l) := by
  have hpl : p < l.length := (List.getElem?_eq_some_iff.1 hp).1
  have hkind : ∀ k, ep.kv.ownBlock = some k → ∃ cs t', w.heap[k]? = some (.cells cs t' (0, 0)) ∧ t' ≠ 64 := fun k hk => by
    obtain ⟨_, cs, h1⟩ := own_kind (h.its ep (List.mem_of_getElem? hp)).kids k hk
    exact ⟨cs, 3, h1, by decide⟩
  have hrow : w3.ownsRow B 64 8 (.slice (some ⟨g, 0, none⟩) n c) l.length (flatI l) := own_grown h.row hg hkind
  have hln : n = l.length := by
    obtain ⟨ad, c', e⟩ := own_slice h.row
    simp only [Value.slice.injEq] at e
    exact e.2.1
  subst hln
  have hblk : Blk w3 a 67 #[.slice (some ⟨g, 0, none⟩) l.length c] := (hg.block a h.blk.lt (fun e => by
    obtain ⟨_, cs, h1⟩ := own_kind (h.its ep (List.mem_of_getElem? hp)).kids a e.symm
    have := h.blk.symm.trans h1
    injection this with this
    injection this with _ this
    exact absurd this (by decide))).trans h.blk
  obtain ⟨hgB, cs64, hg64⟩ := own_kind hrow g rfl
  obtain ⟨hst, hgr⟩ := hrow.stored (p * 8 + 7) v3
  have hset := flatI_set l p ep { ep with kids := ks, kv := v3 } 7 v3 hp (by omega) rfl
  rw [hset] at hst
  have hga : a ≠ g := fun e => by
    subst e
    have := hblk.symm.trans hg64
    injection this with this
    injection this with _ this
    exact absurd this (by decide)
  have fr3 : Fr B AK w w3 := (Fr.refl B AK w).grown hg (fun k hk => by
    obtain ⟨h1, cs, h2⟩ := own_kind (h.its ep (List.mem_of_getElem? hp)).kids k hk
    exact ⟨h1, _, h2, rfl⟩)
  have fr4 : Fr B AK w (w3.setCell ⟨g, p * 8 + 7, none⟩ v3) := fr3.setCell hg64 rfl hgB _ _
  have hkept : ∀ {base m : Nat} {v : Value} {xs : List Value}, w.ownsRow base 3 1 v m xs → (∀ k, v.ownBlock = some k → ep.kv.ownBlock ≠ some k) → (w3.setCell ⟨g, p * 8 + 7, none⟩ v3).ownsRow base 3 1 v m xs := by
    intro base m v xs h1 h2
    refine own_setCell (h1.kept hg ?_) hg64 (by decide) _ _
    cases hv : v.ownBlock with
    | none => exact .inl rfl
    | some k => exact .inr fun e => h2 k hv e.symm
  refine ⟨⟨hblk.far hga _, h.low, by rw [List.length_set]; exact hst, by rw [List.length_set]; exact h.few, fun e he => ?_, ?_⟩, ⟨fr4, fun k hk hnf cs fr ho => ?_, fun k hk => ?_⟩, hblk, hrow⟩
  · obtain ⟨i, hi⟩ := List.getElem?_of_mem he
    rw [List.getElem?_set] at hi
    by_cases hip : p = i
    · rw [if_pos hip, if_pos (by omega)] at hi
      obtain rfl := Option.some.inj hi
      exact ⟨(h.its ep (List.mem_of_getElem? hp)).atrs.fr fr4 (Nat.le_refl _) (fun _ _ => rfl), own_setCell h3 hg64 (by decide) _ _, hf⟩
    · rw [if_neg hip] at hi
      have h1 := h.its e (List.mem_of_getElem? hi)
      exact ⟨h1.atrs.fr fr4 (Nat.le_refl _) (fun _ _ => rfl), hkept h1.kids (fun k hk => h.apart i p e ep hi hp (by omega) k hk), h1.few⟩
  · refine apart_set h.apart fun j f hj hne k hk hc => ?_
    rcases hl k hc with h1 | h1
    · exact h.apart j p f ep hj hp hne k hk h1
    · have := ((h.its f (List.mem_of_getElem? hj)).kids.lt k hk).2
      omega
  · have hkg : k ≠ g := by
      rintro rfl
      have h1 : w3.heap[k]? = w.heap[k]? := hg.block k hk (fun e => hnf ⟨ep, List.mem_of_getElem? hp, e.symm⟩)
      rw [ho] at h1
      have := hg64.symm.trans h1
      injection this with this
      injection this with _ this
      exact absurd this (by decide)
    refine (Below.heap_setCell w3 ⟨g, p * 8 + 7, none⟩ v3 k hkg).trans (hg.block k hk fun e => hnf ⟨ep, List.mem_of_getElem? hp, e.symm⟩)
  · rcases foot_set hk with h1 | h1
    · exact .inl h1
    · rcases hl k h1 with h2 | h2
      · exact .inl ⟨ep, List.mem_of_getElem? hp, h2⟩
      · exact .inr h2

/-- Another cell of a node turned. -/
theorem ArenaAt.cell_turn {w : World} {B a p g n c j : Nat} {u : Value} {l : List It} {e e' : It} (h : ArenaAt w B a (.slice (some ⟨g, 0, none⟩) n c) l) (hp : l[p]? = some e) (hj : j < 8) (hu : (cellsI e).set j u = cellsI e')
    (h1 : e'.kv = e.kv) (h2 : e'.kids = e.kids) (h3 : e'.av = e.av) (h4 : e'.attrs = e.attrs) :
    ArenaAt (w.setCell ⟨g, p * 8 + j, none⟩ u) B a (.slice (some ⟨g, 0, none⟩) n c) (l.set p e') ∧ Went B l w (l.set p e') (w.setCell ⟨g, p * 8 + j, none⟩ u) := by
  have hln : n = l.length := by
    obtain ⟨ad, c', e⟩ := own_slice h.row
    simp only [Value.slice.injEq] at e
    exact e.2.1
  subst hln
  have hpl : p < l.length := (List.getElem?_eq_some_iff.1 hp).1
  obtain ⟨hgB, cs64, hg64⟩ := own_kind h.row g rfl
  obtain ⟨hst, hgr⟩ := h.row.stored (p * 8 + j) u
  rw [flatI_set l p e e' j u hp hj hu] at hst
  have hga : a ≠ g := fun e => by
    subst e
    have := h.blk.symm.trans hg64
    injection this with this
    injection this with _ this
    exact absurd this (by decide)
  have fr4 : Fr B AK w (w.setCell ⟨g, p * 8 + j, none⟩ u) := (Fr.refl B AK w).setCell hg64 rfl hgB _ _
  have hit : ∀ f ∈ l, ItAt (w.setCell ⟨g, p * 8 + j, none⟩ u) B f := fun f hf => ⟨(h.its f hf).atrs.fr fr4 (Nat.le_refl _) (fun _ _ => rfl), own_setCell (h.its f hf).kids hg64 (by decide) _ _, (h.its f hf).few⟩
  refine ⟨⟨h.blk.far hga _, h.low, by rw [List.length_set]; exact hst, by rw [List.length_set]; exact h.few, fun f hf => ?_, ?_⟩, ⟨fr4, fun k hk hnf cs fr ho => ?_, fun k hk => ?_⟩⟩
  · rcases mem_set hf with rfl | hf
    · have := hit e (List.mem_of_getElem? hp)
      exact ⟨by rw [h3, h4]; exact this.atrs, by rw [h1, h2]; exact this.kids, by rw [h2]; exact this.few⟩
    · exact hit f hf
  · refine apart_set h.apart fun i f hi hne k hk => ?_
    rw [h1]
    exact h.apart i p f e hi hp hne k hk
  · refine Below.heap_setCell w ⟨g, p * 8 + j, none⟩ u k ?_
    rintro rfl
    have := hg64.symm.trans ho
    injection this with this
    injection this with _ this
    exact absurd this (by decide)
  · rcases foot_set hk with h5 | h5
    · exact .inl h5
    · rw [h1] at h5
      exact .inl ⟨e, List.mem_of_getElem? hp, h5⟩

theorem ArenaAt.slice {w : World} {B a : Nat} {v : Value} {l : List It} (h : ArenaAt w B a v l) (hne : l ≠ []) : ∃ g c, v = .slice (some ⟨g, 0, none⟩) l.length c ∧ l.length ≤ c ∧ c ≤ 9223372036854775807 ∧ B ≤ g ∧ g < w.heap.size := by
  obtain ⟨ad, c, rfl, h1, h2, h3⟩ := h.form
  obtain ⟨g, rfl, h4, h5, _⟩ := h3 hne
  exact ⟨g, c, rfl, h1, h2, h4, h5⟩

end Go.Proofs.Ytdeogkjihmaniaa
