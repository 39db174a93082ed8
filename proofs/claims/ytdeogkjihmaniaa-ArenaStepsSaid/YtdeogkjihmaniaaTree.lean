/-
  Trees of nodes in memory.
  Written by an AI agent.
-/
import Derived.Test.YtdeogkjihmaniaaWrite
namespace Go.Proofs.Ytdeogkjihmaniaa
open Go.RowKit

/-- A node with all that is below it. -/
structure Tr where
  kind : Int
  space : Int
  name : ByteArray
  attrs : List Atr
  text : ByteArray
  kids : List Tr

/-- A node put behind others: texts side by side are one. -/
def pushT (out : List Tr) (n : Tr) : List Tr :=
  match out.getLast? with
  | some z => if n.kind = 2 ∧ z.kind = 2 then out.dropLast ++ [{ z with text := z.text ++ n.text }] else out ++ [n]
  | none => [n]

def treeStep (S : St) (sub : Int → List Tr) (out : List Tr) (k : Int) : List Tr := match S.get k with
  | some nd => pushT out ⟨nd.kind, nd.space, nd.name, nd.attrs, nd.text, sub k⟩
  | none => out

/-- An element's kids as nodes, n levels deep. -/
def treeOf (S : St) : Nat → Int → List Tr
  | 0, _ => []
  | n + 1, id => (S.kids id).foldl (treeStep S (treeOf S n)) []

/-- The slice v reads as these trees: rows in blocks that D lets, attributes as R says. -/
inductive TrsAt (D : Nat → Prop) (R : Value → List Atr → Prop) (w : World) : Value → List Tr → Prop
  | nil : TrsAt D R w (.slice none 0 0) []
  | row {g cap : Nat} {ts : List Tr} (av kv : Nat → Value) (hg : g < w.heap.size) (hD : D g) (hT : ∃ cs fr, w.heap[g]? = some (.cells cs 39 fr)) (hc : ts.length ≤ cap) (hm : cap ≤ 9223372036854775807)
      (hcell : ∀ (k : Nat) (t : Tr), ts[k]? = some t → w.cell? ⟨g, k * 6, none⟩ = some (i64 t.kind) ∧ w.cell? ⟨g, k * 6 + 1, none⟩ = some (i64 t.space) ∧ w.cell? ⟨g, k * 6 + 2, none⟩ = some (.string t.name) ∧
        w.cell? ⟨g, k * 6 + 3, none⟩ = some (av k) ∧ w.cell? ⟨g, k * 6 + 4, none⟩ = some (.string t.text) ∧ w.cell? ⟨g, k * 6 + 5, none⟩ = some (kv k))
      (hR : ∀ (k : Nat) (t : Tr), ts[k]? = some t → R (av k) t.attrs)
      (hk : ∀ (k : Nat) (t : Tr), ts[k]? = some t → TrsAt D R w (kv k) t.kids) : TrsAt D R w (.slice (some ⟨g, 0, none⟩) ts.length cap) ts

section
variable {D D' : Nat → Prop} {R R' : Value → List Atr → Prop} {w w' : World} {v : Value} {ts : List Tr}
theorem TrsAt.turn (h : TrsAt D R w v ts) (hs : w.heap.size ≤ w'.heap.size) (hb : ∀ k, k < w.heap.size → D k → w'.heap[k]? = w.heap[k]? ∧ D' k) (hR : ∀ u l, R u l → R' u l) : TrsAt D' R' w' v ts := by
  induction h with
  | nil => exact .nil
  | row av kv hg hD hT hc hm hcell hr hk ih =>
    obtain ⟨e, hd⟩ := hb _ hg hD
    have hc' : ∀ o, w'.cell? ⟨_, o, none⟩ = w.cell? ⟨_, o, none⟩ := fun o => World.cell?_of_block (w := w) (a := ⟨_, o, none⟩) e
    refine .row av kv (Nat.lt_of_lt_of_le hg hs) hd (by obtain ⟨cs, fr, ht⟩ := hT; exact ⟨cs, fr, e.trans ht⟩) hc hm (fun k t ht => ?_) (fun k t ht => hR _ _ (hr k t ht)) (fun k t ht => ih k t ht)
    obtain ⟨h1, h2, h3, h4, h5, h6⟩ := hcell k t ht
    exact ⟨(hc' _).trans h1, (hc' _).trans h2, (hc' _).trans h3, (hc' _).trans h4, (hc' _).trans h5, (hc' _).trans h6⟩
/-- Over a frame that keeps rows of nodes. -/
theorem TrsAt.turnT (h : TrsAt D R w v ts) (hs : w.heap.size ≤ w'.heap.size) (hb : ∀ k cs fr, k < w.heap.size → D k → w.heap[k]? = some (.cells cs 39 fr) → w'.heap[k]? = w.heap[k]? ∧ D' k) (hR : ∀ u l, R u l → R' u l) : TrsAt D' R' w' v ts := by
  induction h with
  | nil => exact .nil
  | row av kv hg hD hT hc hm hcell hr hk ih =>
    obtain ⟨cs, fr, ht⟩ := hT
    obtain ⟨e, hd⟩ := hb _ cs fr hg hD ht
    have hc' : ∀ o, w'.cell? ⟨_, o, none⟩ = w.cell? ⟨_, o, none⟩ := fun o => World.cell?_of_block (w := w) (a := ⟨_, o, none⟩) e
    refine .row av kv (Nat.lt_of_lt_of_le hg hs) hd ⟨cs, fr, e.trans ht⟩ hc hm (fun k t ht => ?_) (fun k t ht => hR _ _ (hr k t ht)) (fun k t ht => ih k t ht)
    obtain ⟨h1, h2, h3, h4, h5, h6⟩ := hcell k t ht
    exact ⟨(hc' _).trans h1, (hc' _).trans h2, (hc' _).trans h3, (hc' _).trans h4, (hc' _).trans h5, (hc' _).trans h6⟩
theorem TrsAt.form (h : TrsAt D R w v ts) : ∃ ad c, v = .slice ad ts.length c := by
  cases h with
  | nil => exact ⟨none, 0, rfl⟩
  | row => exact ⟨_, _, rfl⟩
end

/-- A node in memory. -/
structure Tn where
  t : Tr
  av : Value
  kv : Value
def cellsN (x : Tn) : List Value := [i64 x.t.kind, i64 x.t.space, .string x.t.name, x.av, .string x.t.text, x.kv]
def flatN : List Tn → List Value
  | [] => []
  | x :: r => cellsN x ++ flatN r
theorem flatN_length (l : List Tn) : (flatN l).length = l.length * 6 := by
  induction l with
  | nil => rfl
  | cons e r ih => simp [flatN, cellsN, ih]; omega
theorem flatN_append (a b : List Tn) : flatN (a ++ b) = flatN a ++ flatN b := by
  induction a with
  | nil => rfl
  | cons e r ih => simp [flatN, ih]
theorem flatN_get (l : List Tn) : ∀ (k : Nat) (e : Tn), l[k]? = some e → ∀ j, j < 6 → (flatN l)[k * 6 + j]? = (cellsN e)[j]? := by
  induction l with
  | nil => intro k e h; simp at h
  | cons q r ih =>
    intro k e h j hj
    show (cellsN q ++ flatN r)[k * 6 + j]? = _
    cases k with
    | zero =>
      simp at h
      subst h
      rw [List.getElem?_append_left (by simp [cellsN]; omega), Nat.zero_mul, Nat.zero_add]
    | succ k =>
      rw [List.getElem?_append_right (by simp [cellsN]; omega)]
      rw [show (k + 1) * 6 + j - (cellsN q).length = k * 6 + j from by simp [cellsN]; omega]
      exact ih k e (by simpa using h) j hj
theorem flatN_set (l : List Tn) : ∀ (k : Nat) (e e' : Tn) (j : Nat) (u : Value), l[k]? = some e → j < 6 → (cellsN e).set j u = cellsN e' → (flatN l).set (k * 6 + j) u = flatN (l.set k e') := by
  induction l with
  | nil => intro k e e' j u h; simp at h
  | cons q r ih =>
    intro k e e' j u h hj hu
    cases k with
    | zero =>
      simp at h
      subst h
      show (cellsN q ++ flatN r).set _ u = cellsN e' ++ flatN r
      rw [← hu, Nat.zero_mul, Nat.zero_add, List.set_append_left _ _ (by simp [cellsN]; omega)]
    | succ k =>
      show (cellsN q ++ flatN r).set _ u = cellsN q ++ flatN (r.set k e')
      rw [← ih k e e' j u (by simpa using h) hj hu]
      rw [List.set_append_right _ _ (by simp [cellsN]; omega)]
      rw [show (k + 1) * 6 + j - (cellsN q).length = k * 6 + j from by simp [cellsN]; omega]

theorem info39 : (Try.prog.info? 39).map (fun i => (i.zero, i.size, i.bytes)) = some (some (.agg #[.int .i64 0, .int .i64 0, .string ⟨#[]⟩, .slice none 0 0, .string ⟨#[]⟩, .slice none 0 0]), 6, 96) := by kernel_rfl

/-- Attributes in rows of the call's own. -/
def OwnA (base : Nat) (w : World) (v : Value) (l : List Atr) : Prop := w.ownsRow base 32 2 v l.length (flatA l) ∧ l.length ≤ 1000000

/-- What nodes has gathered: out's row, with its attributes and kids. -/
structure OutAt (w : World) (base : Nat) (v : Value) (xs : List Tn) : Prop where
  row : w.ownsRow base 39 6 v xs.length (flatN xs)
  atrs : ∀ x ∈ xs, OwnA base w x.av x.t.attrs
  kids : ∀ x ∈ xs, TrsAt (fun k => base ≤ k ∧ v.ownBlock ≠ some k) (OwnA base w) w x.kv x.t.kids

theorem OutAt.nil (w : World) (base : Nat) : OutAt w base (.slice none 0 0) [] := ⟨World.ownsRow_nil _ _ _ _, by simp, by simp⟩
theorem OwnA.below {w w' : World} {base : Nat} {v : Value} {l : List Atr} (h : OwnA base w v l) (hb : Below w.heap.size w w') : OwnA base w' v l := ⟨own_below h.1 hb, h.2⟩
theorem OutAt.below {w w' : World} {base : Nat} {v : Value} {xs : List Tn} (h : OutAt w base v xs) (hb : Below w.heap.size w w') : OutAt w' base v xs :=
  ⟨own_below h.row hb, fun x hx => (h.atrs x hx).below hb, fun x hx => (h.kids x hx).turn hb.size (fun k hk hd => ⟨hb.block k hk, hd⟩) (fun _ _ h => h.below hb)⟩

/-- All of it, as trees. -/
theorem OutAt.trs {w : World} {base : Nat} {v : Value} {xs : List Tn} (h : OutAt w base v xs) : TrsAt (fun k => base ≤ k) (OwnA base w) w v (xs.map (·.t)) := by
  rcases h.row.2 with ⟨rfl, h0⟩ | ⟨g, cap, cur, rfl, hb, hg, hnc, hm, _, _⟩
  · rw [List.length_eq_zero_iff.1 h0]; exact .nil
  · unfold maxLen at hm
    have hgl : g < w.heap.size := (Array.getElem?_eq_some_iff.1 hg).1
    have hx : ∀ (k : Nat) (t : Tr), (xs.map (·.t))[k]? = some t → ∃ x, xs[k]? = some x ∧ x.t = t := fun k t ht => by
      rw [List.getElem?_map] at ht
      cases hk : xs[k]? with
      | none => rw [hk] at ht; cases ht
      | some x => rw [hk] at ht; exact ⟨x, rfl, by simpa using ht⟩
    have hc := h.row.cells (g := g) rfl
    have ea : ∀ j, (⟨g, 0, none⟩ : Addr).add j = ⟨g, j, none⟩ := fun j => by unfold Addr.add; split <;> simp_all
    have hlen : xs.length = (xs.map (·.t)).length := by simp
    rw [hlen]
    refine .row (fun k => match xs[k]? with | some x => x.av | none => .slice none 0 0) (fun k => match xs[k]? with | some x => x.kv | none => .slice none 0 0) hgl hb ⟨_, _, hg⟩ (by rw [← hlen]; exact hnc) hm (fun k t ht => ?_) (fun k t ht => ?_) (fun k t ht => ?_)
    · obtain ⟨x, hk, rfl⟩ := hx k t ht
      have hj : ∀ j u, j < 6 → (cellsN x)[j]? = some u → w.cell? ⟨g, k * 6 + j, none⟩ = some u := fun j u hj hu => by
        have := hc (k * 6 + j) u ((flatN_get xs k x hk j hj).trans hu)
        rw [ea] at this
        exact this
      rw [hk]
      exact ⟨hj 0 _ (by omega) rfl, hj 1 _ (by omega) rfl, hj 2 _ (by omega) rfl, hj 3 _ (by omega) rfl, hj 4 _ (by omega) rfl, hj 5 _ (by omega) rfl⟩
    · obtain ⟨x, hk, rfl⟩ := hx k t ht
      rw [hk]
      exact h.atrs x (List.mem_of_getElem? hk)
    · obtain ⟨x, hk, rfl⟩ := hx k t ht
      rw [hk]
      exact (h.kids x (List.mem_of_getElem? hk)).turn (Nat.le_refl _) (fun _ _ hd => ⟨rfl, hd.1⟩) (fun _ _ h => h)

/-- A node put behind the others: by append. -/
theorem OutAt.push {w w2 : World} {base : Nat} {v v2 : Value} {xs : List Tn} {x : Tn} {W : World} (h : OutAt w base v xs) (hx : OwnA base w x.av x.t.attrs) (hk : TrsAt (fun k => base ≤ k ∧ v.ownBlock ≠ some k) (OwnA base w) w x.kv x.t.kids)
    (hb : Below w.heap.size w W) (h2 : w2.ownsRow base 39 6 v2 (xs.length + 1) (flatN xs ++ cellsN x)) (hg : W.grownBy w2 v.ownBlock) (hl : v2.ownBlock = v.ownBlock ∨ v2.ownBlock = some W.heap.size) : OutAt w2 base v2 (xs ++ [x]) := by
  have hkeep : ∀ k, k < w.heap.size → v.ownBlock ≠ some k → w2.heap[k]? = w.heap[k]? := fun k hk hne => (hg.block k (Nat.lt_of_lt_of_le hk hb.size) (fun e => hne e.symm)).trans (hb.block k hk)
  have hsz := Nat.le_trans hb.size hg.size
  have hA : ∀ u l, OwnA base w u l → OwnA base w2 u l := fun u l hu => by
    refine ⟨own_grown (own_below hu.1 hb) hg (fun g hgk => ?_), hu.2⟩
    obtain ⟨_, cs, hc⟩ := own_kind h.row g hgk
    exact ⟨cs, 39, (hb.block g (Array.getElem?_eq_some_iff.1 hc).1).trans hc, by decide⟩
  have hT : ∀ {u : Value} {ts : List Tr}, TrsAt (fun k => base ≤ k ∧ v.ownBlock ≠ some k) (OwnA base w) w u ts → TrsAt (fun k => base ≤ k ∧ v2.ownBlock ≠ some k) (OwnA base w2) w2 u ts := fun hu =>
    hu.turn hsz (fun k hk hd => ⟨hkeep k hk hd.2, hd.1, fun e => by
      rcases hl with hl | hl
      · exact hd.2 (hl.symm.trans e)
      · rw [hl] at e
        have := Option.some.inj e
        have := hb.size
        omega⟩) hA
  refine ⟨?_, fun y hy => ?_, fun y hy => ?_⟩
  · rw [List.length_append, flatN_append]
    simpa [flatN] using h2
  · rcases List.mem_append.1 hy with hy | hy
    · exact hA _ _ (h.atrs y hy)
    · obtain rfl := List.mem_singleton.1 hy
      exact hA _ _ hx
  · rcases List.mem_append.1 hy with hy | hy
    · exact hT (h.kids y hy)
    · obtain rfl := List.mem_singleton.1 hy
      exact hT hk

/-- The last one's text made longer. -/
theorem OutAt.text {w : World} {base g n c j : Nat} {xs : List Tn} {x : Tn} {s : ByteArray} (h : OutAt w base (.slice (some ⟨g, 0, none⟩) n c) xs) (hj : xs[j]? = some x) :
    OutAt (w.setCell ⟨g, j * 6 + 4, none⟩ (.string s)) base (.slice (some ⟨g, 0, none⟩) n c) (xs.set j { x with t := { x.t with text := s } }) ∧ w.frozen? ⟨g, j * 6 + 4, none⟩ = false := by
  have hln : n = xs.length := by
    obtain ⟨ad, c', e⟩ := own_slice h.row
    simp only [Value.slice.injEq] at e
    exact e.2.1
  subst hln
  obtain ⟨hgB, cs, hg⟩ := own_kind h.row g rfl
  obtain ⟨hst, _⟩ := h.row.stored (j * 6 + 4) (.string s)
  rw [flatN_set xs j x { x with t := { x.t with text := s } } 4 (.string s) hj (by omega) rfl] at hst
  have hA : ∀ u l, OwnA base w u l → OwnA base (w.setCell ⟨g, j * 6 + 4, none⟩ (.string s)) u l := fun u l hu => ⟨own_setCell hu.1 hg (by decide) _ _, hu.2⟩
  have hT : ∀ y ∈ xs, TrsAt (fun k => base ≤ k ∧ (Value.slice (some ⟨g, 0, none⟩) xs.length c).ownBlock ≠ some k) (OwnA base (w.setCell ⟨g, j * 6 + 4, none⟩ (.string s))) (w.setCell ⟨g, j * 6 + 4, none⟩ (.string s)) y.kv y.t.kids := fun y hy =>
    (h.kids y hy).turn (by simp) (fun k _ hd => ⟨Below.heap_setCell w ⟨g, j * 6 + 4, none⟩ (.string s) k (fun e => hd.2 (by rw [e]; rfl)), hd⟩) hA
  refine ⟨⟨by rw [List.length_set]; exact hst, fun y hy => ?_, fun y hy => ?_⟩, own_fro h.row _⟩
  · rcases List.mem_or_eq_of_mem_set hy with hy | rfl
    · exact hA _ _ (h.atrs y hy)
    · exact hA _ _ (h.atrs x (List.mem_of_getElem? hj))
  · rcases List.mem_or_eq_of_mem_set hy with hy | rfl
    · exact hT y hy
    · exact hT x (List.mem_of_getElem? hj)

theorem OutAt.cells {w : World} {base g n c k : Nat} {xs : List Tn} {x : Tn} (h : OutAt w base (.slice (some ⟨g, 0, none⟩) n c) xs) (hk : xs[k]? = some x) :
    w.cell? ⟨g, k * 6, none⟩ = some (i64 x.t.kind) ∧ w.cell? ⟨g, k * 6 + 4, none⟩ = some (.string x.t.text) := by
  have hc := h.row.cells (g := g) rfl
  have ea : ∀ j, (⟨g, 0, none⟩ : Addr).add j = ⟨g, j, none⟩ := fun j => by unfold Addr.add; split <;> simp_all
  have hj : ∀ j u, j < 6 → (cellsN x)[j]? = some u → w.cell? ⟨g, k * 6 + j, none⟩ = some u := fun j u hj hu => by
    have := hc (k * 6 + j) u ((flatN_get xs k x hk j hj).trans hu)
    rw [ea] at this
    exact this
  exact ⟨hj 0 _ (by omega) rfl, hj 4 _ (by omega) rfl⟩

end Go.Proofs.Ytdeogkjihmaniaa
