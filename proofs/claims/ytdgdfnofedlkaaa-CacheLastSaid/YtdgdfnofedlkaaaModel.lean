/-
  The cache in plain lists: texts by their IDs, the one that was used last first.
  Written by an AI agent. No program is named here.
-/
namespace Go.Proofs.Ytdgdfnofedlkaaa

abbrev Txt := Int × ByteArray

def hasB (id : Int) (st : List Txt) : Bool := st.any fun x => x.1 == id
def drp (id : Int) (st : List Txt) : List Txt := st.filter fun x => x.1 != id

theorem hasB_iff {id : Int} {st : List Txt} : hasB id st = true ↔ id ∈ st.map (·.1) := by
  simp [hasB]
theorem hasB_false {id : Int} {st : List Txt} : hasB id st = false ↔ id ∉ st.map (·.1) := by
  rw [← hasB_iff]; cases hasB id st <;> simp

theorem drp_none {id : Int} {st : List Txt} (h : id ∉ st.map (·.1)) : drp id st = st := by
  refine List.filter_eq_self.2 fun x hx => ?_
  have : x.1 ≠ id := fun e => h (e ▸ List.mem_map.2 ⟨x, hx, rfl⟩)
  simpa using this

theorem drp_mid {A C : List Txt} {x : Txt} (hn : ((A ++ x :: C).map (·.1)).Nodup) : drp x.1 (A ++ x :: C) = A ++ C := by
  have h1 : x.1 ∉ A.map (·.1) := fun h => by
    rw [List.map_append, List.map_cons, List.nodup_append] at hn
    exact hn.2.2 _ h x.1 (by simp) rfl
  have h2 : x.1 ∉ C.map (·.1) := fun h => by
    rw [List.map_append, List.map_cons, List.nodup_append] at hn
    exact (List.nodup_cons.1 hn.2.1).1 h
  have e1 := drp_none h1
  have e2 := drp_none h2
  unfold drp at *
  rw [List.filter_append, List.filter_cons, e1, e2]
  simp

theorem drp_not {id : Int} {st : List Txt} : id ∉ (drp id st).map (·.1) := by
  intro h
  obtain ⟨x, hx, rfl⟩ := List.mem_map.1 h
  have := (List.mem_filter.1 hx).2
  simp at this

/-- How many bytes texts have. -/
def tot (st : List Txt) : Int := (st.map fun x => (x.2.size : Int)).sum

theorem tot_nil : tot [] = 0 := rfl
theorem tot_cons (x : Txt) (st : List Txt) : tot (x :: st) = x.2.size + tot st := by simp [tot]
theorem tot_append (a b : List Txt) : tot (a ++ b) = tot a + tot b := by simp [tot]
theorem tot_nonneg (st : List Txt) : 0 ≤ tot st := by
  induction st with
  | nil => simp [tot]
  | cons x r ih => rw [tot_cons]; omega
theorem tot_mid (A C : List Txt) (x : Txt) : tot (A ++ x :: C) = x.2.size + tot (A ++ C) := by
  rw [tot_append, tot_cons, tot_append]; omega
theorem tot_perm {a b : List Txt} (h : a.Perm b) : tot a = tot b := by
  induction h with
  | nil => rfl
  | cons x _ ih => rw [tot_cons, tot_cons, ih]
  | swap x y l => rw [tot_cons, tot_cons, tot_cons, tot_cons]; omega
  | trans _ _ h1 h2 => rw [h1, h2]

end Go.Proofs.Ytdgdfnofedlkaaa
