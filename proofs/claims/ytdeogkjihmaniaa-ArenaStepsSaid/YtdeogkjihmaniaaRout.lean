/-
  What the document's Nodes gathers: rows of nodes whose attributes are shared with the document's arena.
  Written by an AI agent.
-/
import Derived.Test.YtdeogkjihmaniaaRkids
import Derived.Test.YtdeogkjihmaniaaSame
import Derived.Deep.RegionHeldLaw
import Derived.Deep.AppendLies
namespace Go.Proofs.Ytdeogkjihmaniaa
open Go.RowKit

/-- What Nodes has gathered: out's row, with its attributes and kids. -/
structure ROut (w : World) (B base : Nat) (v : Value) (xs : List Tn) : Prop where
  row : w.ownsRow base 39 6 v xs.length (flatN xs)
  atrs : ∀ x ∈ xs, AtrsAt w B x.av x.t.attrs
  kids : ∀ x ∈ xs, TrsAt (fun k => base ≤ k ∧ v.ownBlock ≠ some k) (AtrsAt w B) w x.kv x.t.kids

theorem ROut.nil (w : World) (B base : Nat) : ROut w B base (.slice none 0 0) [] := ⟨World.ownsRow_nil _ _ _ _, by simp, by simp⟩
theorem ROut.below {w w' : World} {B base : Nat} {v : Value} {xs : List Tn} (h : ROut w B base v xs) (hb : Below w.heap.size w w') : ROut w' B base v xs :=
  ⟨own_below h.row hb, fun x hx => (h.atrs x hx).below hb, fun x hx => (h.kids x hx).turn hb.size (fun k hk hd => ⟨hb.block k hk, hd⟩) (fun _ _ h => h.below hb)⟩

/-- All of it, as trees. -/
theorem ROut.trs {w : World} {B base : Nat} {v : Value} {xs : List Tn} (h : ROut w B base v xs) : TrsAt (fun k => base ≤ k) (AtrsAt w B) w v (xs.map (·.t)) := by
  rcases h.row.2 with ⟨rfl, h0⟩ | ⟨g, cap, cur, rfl, hb, hg, hnc, hm, _, _⟩
  · rw [List.length_eq_zero_iff.1 h0]; exact .nil
  · unfold maxLen at hm
    have hgl : g < w.heap.size := (Array.getElem?_eq_some_iff.1 hg).1
    have hx : ∀ (k : Nat) (t : Tr), (xs.map (·.t))[k]? = some t → ∃ x, xs[k]? = some x ∧ x.t = t := fun k t ht => by
      rw [List.getElem?_map] at ht
      cases hk : xs[k]? with
      | none => rw [hk] at ht; cases ht
      | some x => rw [hk] at ht; exact ⟨x, rfl, by simpa using ht⟩
    have hc := h.row.cells (g := g) rfl
    have ea : ∀ j, (⟨g, 0, none⟩ : Addr).add j = ⟨g, j, none⟩ := fun j => by unfold Addr.add; split <;> simp_all
    have hlen : xs.length = (xs.map (·.t)).length := by simp
    rw [hlen]
    refine .row (fun k => match xs[k]? with | some x => x.av | none => .slice none 0 0) (fun k => match xs[k]? with | some x => x.kv | none => .slice none 0 0) hgl hb ⟨_, _, hg⟩ (by rw [← hlen]; exact hnc) hm (fun k t ht => ?_) (fun k t ht => ?_) (fun k t ht => ?_)
    · obtain ⟨x, hk, rfl⟩ := hx k t ht
      have hj : ∀ j u, j < 6 → (cellsN x)[j]? = some u → w.cell? ⟨g, k * 6 + j, none⟩ = some u := fun j u hj hu => by
        have := hc (k * 6 + j) u ((flatN_get xs k x hk j hj).trans hu)
        rw [ea] at this
        exact this
      rw [hk]
      exact ⟨hj 0 _ (by omega) rfl, hj 1 _ (by omega) rfl, hj 2 _ (by omega) rfl, hj 3 _ (by omega) rfl, hj 4 _ (by omega) rfl, hj 5 _ (by omega) rfl⟩
    · obtain ⟨x, hk, rfl⟩ := hx k t ht
      rw [hk]
      exact h.atrs x (List.mem_of_getElem? hk)
    · obtain ⟨x, hk, rfl⟩ := hx k t ht
      rw [hk]
      exact (h.kids x (List.mem_of_getElem? hk)).turn (Nat.le_refl _) (fun _ _ hd => ⟨rfl, hd.1⟩) (fun _ _ h => h)

/-- A row of attributes is none of the gathered nodes'. -/
theorem ROut.apart {w : World} {B base : Nat} {v : Value} {xs : List Tn} (h : ROut w B base v xs) (hB : B ≤ base) {k : Nat} (hk : k < B ∨ ∃ cs fr, w.heap[k]? = some (.cells cs 32 fr)) : v.ownBlock ≠ some k := fun e => by
  obtain ⟨hb, cs, hc⟩ := own_kind h.row k e
  rcases hk with hk | ⟨cs2, fr, hk⟩
  · omega
  · rw [hc] at hk
    simp at hk

/-- A node put behind the others: by append. -/
theorem ROut.push {w w2 : World} {B base : Nat} {v v2 : Value} {xs : List Tn} {x : Tn} {W : World} (h : ROut w B base v xs) (hB : B ≤ base) (hx : AtrsAt w B x.av x.t.attrs) (hk : TrsAt (fun k => base ≤ k ∧ v.ownBlock ≠ some k) (AtrsAt w B) w x.kv x.t.kids)
    (hb : Below w.heap.size w W) (h2 : w2.ownsRow base 39 6 v2 (xs.length + 1) (flatN xs ++ cellsN x)) (hg : W.grownBy w2 v.ownBlock) (hl : v2.ownBlock = v.ownBlock ∨ v2.ownBlock = some W.heap.size) : ROut w2 B base v2 (xs ++ [x]) := by
  have hkeep : ∀ k, k < w.heap.size → v.ownBlock ≠ some k → w2.heap[k]? = w.heap[k]? := fun k hk hne => (hg.block k (Nat.lt_of_lt_of_le hk hb.size) (fun e => hne e.symm)).trans (hb.block k hk)
  have hsz := Nat.le_trans hb.size hg.size
  have hA : ∀ u l, AtrsAt w B u l → AtrsAt w2 B u l := fun u l hu => hu.same hsz fun k _ hlt hor => hkeep k hlt (h.apart hB hor)
  have hT : ∀ {u : Value} {ts : List Tr}, TrsAt (fun k => base ≤ k ∧ v.ownBlock ≠ some k) (AtrsAt w B) w u ts → TrsAt (fun k => base ≤ k ∧ v2.ownBlock ≠ some k) (AtrsAt w2 B) w2 u ts := fun hu =>
    hu.turn hsz (fun k hk hd => ⟨hkeep k hk hd.2, hd.1, fun e => by
      rcases hl with hl | hl
      · exact hd.2 (hl.symm.trans e)
      · rw [hl] at e
        have := Option.some.inj e
        have := hb.size
        omega⟩) hA
  refine ⟨?_, fun y hy => ?_, fun y hy => ?_⟩
  · rw [List.length_append, flatN_append]
    simpa [flatN] using h2
  · rcases List.mem_append.1 hy with hy | hy
    · exact hA _ _ (h.atrs y hy)
    · obtain rfl := List.mem_singleton.1 hy
      exact hA _ _ hx
  · rcases List.mem_append.1 hy with hy | hy
    · exact hT (h.kids y hy)
    · obtain rfl := List.mem_singleton.1 hy
      exact hT hk

/-- The last one's text made longer. -/
theorem ROut.text {w : World} {B base g n c j : Nat} {xs : List Tn} {x : Tn} {s : ByteArray} (h : ROut w B base (.slice (some ⟨g, 0, none⟩) n c) xs) (hB : B ≤ base) (hj : xs[j]? = some x) :
    ROut (w.setCell ⟨g, j * 6 + 4, none⟩ (.string s)) B base (.slice (some ⟨g, 0, none⟩) n c) (xs.set j { x with t := { x.t with text := s } }) ∧ w.frozen? ⟨g, j * 6 + 4, none⟩ = false := by
  have hln : n = xs.length := by
    obtain ⟨ad, c', e⟩ := own_slice h.row
    simp only [Value.slice.injEq] at e
    exact e.2.1
  subst hln
  obtain ⟨hst, _⟩ := h.row.stored (j * 6 + 4) (.string s)
  rw [flatN_set xs j x { x with t := { x.t with text := s } } 4 (.string s) hj (by omega) rfl] at hst
  have hA : ∀ u l, AtrsAt w B u l → AtrsAt (w.setCell ⟨g, j * 6 + 4, none⟩ (.string s)) B u l := fun u l hu => hu.same (by simp) fun k _ _ hor => Below.heap_setCell w ⟨g, j * 6 + 4, none⟩ (.string s) k (fun e => h.apart hB hor (by rw [e]; rfl))
  have hT : ∀ y ∈ xs, TrsAt (fun k => base ≤ k ∧ (Value.slice (some ⟨g, 0, none⟩) xs.length c).ownBlock ≠ some k) (AtrsAt (w.setCell ⟨g, j * 6 + 4, none⟩ (.string s)) B) (w.setCell ⟨g, j * 6 + 4, none⟩ (.string s)) y.kv y.t.kids := fun y hy =>
    (h.kids y hy).turn (by simp) (fun k _ hd => ⟨Below.heap_setCell w ⟨g, j * 6 + 4, none⟩ (.string s) k (fun e => hd.2 (by rw [e]; rfl)), hd⟩) hA
  refine ⟨⟨by rw [List.length_set]; exact hst, fun y hy => ?_, fun y hy => ?_⟩, own_fro h.row _⟩
  · rcases List.mem_or_eq_of_mem_set hy with hy | rfl
    · exact hA _ _ (h.atrs y hy)
    · exact hA _ _ (h.atrs x (List.mem_of_getElem? hj))
  · rcases List.mem_or_eq_of_mem_set hy with hy | rfl
    · exact hT y hy
    · exact hT x (List.mem_of_getElem? hj)

theorem ROut.cells {w : World} {B base g n c k : Nat} {xs : List Tn} {x : Tn} (h : ROut w B base (.slice (some ⟨g, 0, none⟩) n c) xs) (hk : xs[k]? = some x) :
    w.cell? ⟨g, k * 6, none⟩ = some (i64 x.t.kind) ∧ w.cell? ⟨g, k * 6 + 4, none⟩ = some (.string x.t.text) := by
  have hc := h.row.cells (g := g) rfl
  have ea : ∀ j, (⟨g, 0, none⟩ : Addr).add j = ⟨g, j, none⟩ := fun j => by unfold Addr.add; split <;> simp_all
  have hj : ∀ j u, j < 6 → (cellsN x)[j]? = some u → w.cell? ⟨g, k * 6 + j, none⟩ = some u := fun j u hj hu => by
    have := hc (k * 6 + j) u ((flatN_get xs k x hk j hj).trans hu)
    rw [ea] at this
    exact this
  exact ⟨hj 0 _ (by omega) rfl, hj 4 _ (by omega) rfl⟩

/-- What the document's Nodes hands out. -/
def RNodesIt (B : Nat) (ts : List Tr) (w : World) (e : Ending) (w' : World) : Prop :=
  ∃ v, e = .returned v ∧ TrsAt (fun k => w.heap.size ≤ k) (AtrsAt w' B) w' v ts ∧ Below w.heap.size w w'
/-- A node as the program's arena would have it. -/
def itOf (nd : Nd) : It := ⟨nd.kind, nd.space, nd.name, nd.attrs, nd.text, nd.par, [], .slice none 0 0, .slice none 0 0⟩
theorem itOf_nd (nd : Nd) : ndI (itOf nd) = nd := rfl
end Go.Proofs.Ytdeogkjihmaniaa
