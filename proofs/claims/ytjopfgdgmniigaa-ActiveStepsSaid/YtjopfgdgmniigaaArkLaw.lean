/-
  The plain law behind rectolaw10.ActiveArk.
  Written by an AI agent.
-/
import Derived.Test.YtjopfgdgmniigaaRefs
namespace Go.Proofs.Ytjopfgdgmniigaa
open Go.RowKit Go.Maps

/-- Those alike to e since the last mark, counted on. -/
def ark (e : Ent) (n : Nat) (x : Ent) : Nat := if x.mark then 0 else if alikeE x e then n + 1 else n
def arkF (e : Ent) (es : List Ent) : Nat := es.foldl (ark e) 0

theorem cnt_mem {x : Atr} {l : List Atr} (h : cnt x l = 1) : x ∈ l := by
  unfold cnt at h
  have : l.filter (fun y => decide (y = x)) ≠ [] := by intro e; rw [e] at h; simp at h
  obtain ⟨y, hy⟩ := List.exists_mem_of_ne_nil _ this
  rw [List.mem_filter] at hy
  have := of_decide_eq_true hy.2
  rw [← this]; exact hy.1

theorem cnt_cons (x y : Atr) (l : List Atr) : cnt x (y :: l) = (if y = x then 1 else 0) + cnt x l := by
  unfold cnt
  rw [List.filter_cons]
  split <;> rename_i h
  · rw [if_pos (of_decide_eq_true h)]; simp; omega
  · rw [if_neg (by simpa using h)]; omega

/-- As many, each once, all there: then all of the other are here. -/
theorem all_there : ∀ (l m : List Atr), (∀ x ∈ l, cnt x l = 1) → (∀ x ∈ l, x ∈ m) → m.length ≤ l.length → ∀ x ∈ m, x ∈ l
  | [], m, _, _, h, x, hx => by
    have : m = [] := List.length_eq_zero_iff.1 (by simpa using h)
    rw [this] at hx; cases hx
  | a :: l, m, h1, h2, h3, x, hx => by
    by_cases hxa : x = a
    · rw [hxa]; simp
    · have ham := h2 a (by simp)
      have hnot : a ∉ l := by
        intro hal
        have := h1 a (by simp)
        rw [cnt_cons, if_pos rfl] at this
        have h0 : cnt a l = 0 := by omega
        unfold cnt at h0
        rw [List.length_eq_zero_iff, List.filter_eq_nil_iff] at h0
        exact h0 a hal (by simp)
      have := all_there l (m.eraseP fun y => decide (y = a)) (fun y hy => by
          have := h1 y (List.mem_cons_of_mem _ hy)
          rw [cnt_cons, if_neg (by intro e; exact hnot (by rw [e]; exact hy))] at this
          omega) (fun y hy => by
          have hya : y ≠ a := by intro e; exact hnot (by rw [← e]; exact hy)
          exact (List.mem_eraseP_of_neg (by simpa using hya)).2 (h2 y (List.mem_cons_of_mem _ hy))) (by
          have := List.length_eraseP_of_mem (p := fun y => decide (y = a)) ham (by simp)
          simp at h3; omega) x ((List.mem_eraseP_of_neg (by simpa using hxa)).2 hx)
      exact List.mem_cons_of_mem _ this

theorem alikeE_trans {x e e0 : Ent} (h1 : alikeE x e = true) (h2 : alikeE e0 e = true) : alikeE x e0 = true := by
  unfold alikeE alikeB at *
  simp only [Bool.and_eq_true, decide_eq_true_eq, List.all_eq_true] at *
  obtain ⟨⟨a1, a2⟩, a3⟩ := h1
  obtain ⟨⟨b1, b2⟩, b3⟩ := h2
  refine ⟨⟨a1.trans b1.symm, a2.trans b2.symm⟩, fun p hp => ⟨(a3 p hp).1, ?_⟩⟩
  have hpe := cnt_mem (a3 p hp).2
  have hp0 := all_there e0.attrs e.attrs (fun y hy => (b3 y hy).1) (fun y hy => cnt_mem (b3 y hy).2) (by omega) p hpe
  exact (b3 p hp0).1

theorem ark_mono {e e0 : Ent} (h : ∀ x, alikeE x e = true → alikeE x e0 = true) : ∀ (l : List Ent) (n m : Nat), n ≤ m → l.foldl (ark e) n ≤ l.foldl (ark e0) m
  | [], _, _, h => h
  | x :: l, n, m, hnm => by
    simp only [List.foldl_cons]
    apply ark_mono h
    unfold ark
    cases x.mark
    · simp only [Bool.false_eq_true, if_false]
      cases h1 : alikeE x e
      · simp only [Bool.false_eq_true, if_false]
        split <;> omega
      · rw [h x h1]; simp; omega
    · simp
theorem ark_nomark {e : Ent} : ∀ (l : List Ent) (n : Nat), (∀ x ∈ l, x.mark = false) → l.foldl (ark e) n = n + l.countP (alikeE · e)
  | [], n, _ => by simp
  | x :: l, n, h => by
    simp only [List.foldl_cons]
    rw [ark_nomark l _ (fun y hy => h y (List.mem_cons_of_mem _ hy)), List.countP_cons]
    unfold ark
    rw [h x (by simp)]
    simp only [Bool.false_eq_true, if_false]
    split <;> omega

theorem partE_snoc (es : List Ent) (x : Ent) : partE (es ++ [x]) = if x.mark then es.length + 1 else partE es := by
  unfold partE
  rw [List.reverse_append]
  simp only [List.reverse_cons, List.reverse_nil, List.nil_append, List.singleton_append]
  rw [partR_cons]
  simp

theorem rev_rec {P : List Ent → Prop} (h0 : P []) (h1 : ∀ l x, P l → P (l ++ [x])) (l : List Ent) : P l := by
  have : ∀ r : List Ent, P r.reverse := by
    intro r
    induction r with
    | nil => exact h0
    | cons x r ih => rw [List.reverse_cons]; exact h1 _ _ ih
  have := this l.reverse
  rwa [List.reverse_reverse] at this

theorem part_nomark (es : List Ent) : ∀ x ∈ es.drop (partE es), x.mark = false := by
  induction es using rev_rec with
  | h0 => simp
  | h1 l x ih =>
    intro y hy
    rw [partE_snoc] at hy
    cases hx : x.mark
    · rw [hx] at hy
      simp only [Bool.false_eq_true, if_false] at hy
      rw [List.drop_append_of_le_length (partE_le l), List.mem_append] at hy
      rcases hy with hy | hy
      · exact ih y hy
      · rw [List.mem_singleton.1 hy]; exact hx
    · rw [hx] at hy
      simp at hy
theorem ark_part (e : Ent) (es : List Ent) : arkF e es = (es.drop (partE es)).countP (alikeE · e) := by
  unfold arkF
  induction es using rev_rec with
  | h0 => simp
  | h1 l x ih =>
    rw [List.foldl_append, ih, partE_snoc]
    simp only [List.foldl_cons, List.foldl_nil]
    unfold ark
    cases hx : x.mark
    · simp only [Bool.false_eq_true, if_false]
      rw [List.drop_append_of_le_length (partE_le l), List.countP_append]
      simp only [List.countP_cons, List.countP_nil]
      split <;> simp_all
    · simp

theorem arkF_snoc {e x : Ent} (es : List Ent) (hx : x.mark = false) : arkF e (es ++ [x]) = arkF e es + if alikeE x e then 1 else 0 := by
  unfold arkF
  rw [List.foldl_append]
  simp only [List.foldl_cons, List.foldl_nil]
  unfold ark
  rw [hx]
  simp only [Bool.false_eq_true, if_false]
  split <;> rfl

def ArkInv (es : List Ent) : Prop := ∀ e, arkF e es ≤ 3

theorem ark_nil : ArkInv [] := fun e => by simp [arkF]
theorem ark_markE {es : List Ent} : ArkInv (es ++ [markE]) := fun e => by
  unfold arkF
  rw [List.foldl_append]
  simp [ark, markE]
theorem ark_markS {es : List Ent} (h : ArkInv es) : ArkInv (markS es) := by
  unfold markS
  split
  · exact h
  · exact ark_markE

/-- One more entry behind those that leave room. -/
theorem ark_room {es : List Ent} {e0 : Ent} (h : ArkInv es) (h0 : arkF e0 es ≤ 2) (hm : e0.mark = false) : ArkInv (es ++ [e0]) := by
  intro e
  rw [arkF_snoc _ hm]
  cases ha : alikeE e0 e
  · simpa using h e
  · have := ark_mono (e := e) (e0 := e0) (fun x hx => alikeE_trans hx ha) es 0 0 (Nat.le_refl _)
    unfold arkF at *
    simp
    omega

theorem ark_addL {es : List Ent} {e0 : Ent} (h : ArkInv es) (hm : e0.mark = false) : ArkInv (addL es e0) := by
  unfold addL
  rw [← ark_part]
  split
  · rename_i h3
    have hj : (es.drop (partE es)).findIdx (alikeE · e0) < (es.drop (partE es)).length := by
      rw [ark_part] at h3
      apply List.findIdx_lt_length_of_exists
      have : 0 < (es.drop (partE es)).countP (alikeE · e0) := by omega
      rw [List.countP_pos_iff] at this
      exact this
    obtain ⟨j, hjd⟩ : ∃ j, (es.drop (partE es)).findIdx (alikeE · e0) = j := ⟨_, rfl⟩
    have hal := List.findIdx_getElem (w := hj)
    have hget : (es.drop (partE es))[j]? = some ((es.drop (partE es))[(es.drop (partE es)).findIdx (alikeE · e0)]) := by
      rw [← hjd]; exact List.getElem?_eq_getElem hj
    rw [hjd] at hj ⊢
    obtain ⟨x, hxd⟩ : ∃ x, (es.drop (partE es))[(es.drop (partE es)).findIdx (alikeE · e0)] = x := ⟨_, rfl⟩
    rw [hxd] at hget hal
    rw [List.getElem?_drop] at hget
    obtain ⟨q, hq⟩ : ∃ q, partE es + j = q := ⟨_, rfl⟩
    rw [hq] at hget ⊢
    have hql : q < es.length := (List.getElem?_eq_some_iff.1 hget).1
    have hsp : es = es.take q ++ x :: es.drop (q + 1) := by
      have h1 := List.take_append_drop q es
      rw [List.drop_eq_getElem_cons hql] at h1
      have : es[q] = x := (List.getElem?_eq_some_iff.1 hget).2
      rw [this] at h1
      exact h1.symm
    have her : es.eraseIdx q = es.take q ++ es.drop (q + 1) := List.eraseIdx_eq_take_drop_succ _ _
    have hnm : ∀ y ∈ x :: es.drop (q + 1), y.mark = false := by
      intro y hy
      apply part_nomark es
      rw [← hq] at hy
      rcases List.mem_cons.1 hy with rfl | hy
      · have : es[partE es + j]? = some y := by rw [hq]; exact hget
        rw [← List.getElem?_drop] at this
        exact List.mem_of_getElem? this
      · rw [Nat.add_assoc, ← List.drop_drop] at hy
        exact List.mem_of_mem_drop hy
    have hF : ∀ e, arkF e es = arkF e (es.take q) + (if alikeE x e then 1 else 0) + (es.drop (q + 1)).countP (alikeE · e) := by
      intro e
      rw [show arkF e es = arkF e (es.take q ++ x :: es.drop (q + 1)) from by rw [← hsp]]
      unfold arkF
      rw [List.foldl_append, ark_nomark _ _ hnm, List.countP_cons]
      omega
    have hG : ∀ e, arkF e (es.eraseIdx q) = arkF e (es.take q) + (es.drop (q + 1)).countP (alikeE · e) := by
      intro e
      rw [her]
      unfold arkF
      rw [List.foldl_append, ark_nomark _ _ (fun y hy => hnm y (List.mem_cons_of_mem _ hy))]
    apply ark_room
    · intro e
      have := h e
      rw [hF e] at this
      rw [hG e]
      omega
    · have := h e0
      rw [hF e0, if_pos hal] at this
      rw [hG e0]
      omega
    · exact hm
  · exact ark_room h (by omega) hm

theorem ark_addS {es : List Ent} {e0 : Ent} (h : ArkInv es) : ArkInv (addS es e0) := by
  unfold addS
  split
  · exact h
  · split
    · exact h
    · rename_i hw _
      refine ark_addL h ?_
      unfold wrongB at hw
      cases hm : e0.mark
      · rfl
      · rw [hm] at hw; simp at hw

end Go.Proofs.Ytjopfgdgmniigaa
