/-
  The plain law behind rectolaw10.ActiveCut.
  Written by an AI agent.
-/
import Derived.Test.YtjopfgdgmniigaaMark
namespace Go.Proofs.Ytjopfgdgmniigaa
open Go.RowKit Go.Maps

def stopB (opn : List Int) (e : Ent) : Bool := e.mark || opn.contains e.id

theorem cutR_spec (opn : List Int) : ∀ (r : List Ent), (∀ (i : Nat) (x : Ent), r.reverse[i]? = some x → cutR opn r ≤ i → stopB opn x = false) ∧ (∀ x, 0 < cutR opn r → r.reverse[cutR opn r - 1]? = some x → stopB opn x = true)
  | [] => ⟨fun i x h => by simp at h, fun x h => by simp [cutR] at h⟩
  | e :: r => by
    obtain ⟨h1, h2⟩ := cutR_spec opn r
    have hle := cutR_le opn r
    rw [cutR_cons, List.reverse_cons]
    by_cases hs : stopB opn e = true
    · have hs' : (e.mark || opn.contains e.id) = true := hs
      rw [if_pos hs']
      refine ⟨fun i x hx hi => ?_, fun x _ hx => ?_⟩
      · have := (List.getElem?_eq_some_iff.1 hx).1
        simp at this
        omega
      · rw [Nat.add_sub_cancel, List.getElem?_append_right (by simp)] at hx
        simp at hx
        rw [← hx]; exact hs
    · have hs' : ¬ (e.mark || opn.contains e.id) = true := hs
      rw [if_neg hs']
      refine ⟨fun i x hx hi => ?_, fun x h0 hx => ?_⟩
      · rcases Nat.lt_or_ge i r.length with hlt | hge
        · rw [List.getElem?_append_left (by simpa using hlt)] at hx
          exact h1 i x hx hi
        · rw [List.getElem?_append_right (by simpa using hge)] at hx
          have hi0 : i - r.reverse.length = 0 := by
            have := (List.getElem?_eq_some_iff.1 hx).1
            simp at this
            simp; omega
          rw [hi0] at hx
          simp at hx
          rw [← hx]
          exact Bool.eq_false_iff.2 hs
      · rw [List.getElem?_append_left (by simp; omega)] at hx
        exact h2 x h0 hx

theorem cutE_spec (opn : List Int) (es : List Ent) : (∀ (i : Nat) (x : Ent), es[i]? = some x → cutE opn es ≤ i → stopB opn x = false) ∧ (∀ x, 0 < cutE opn es → es[cutE opn es - 1]? = some x → stopB opn x = true) := by
  have := cutR_spec opn es.reverse
  rw [List.reverse_reverse] at this
  exact this

end Go.Proofs.Ytjopfgdgmniigaa
