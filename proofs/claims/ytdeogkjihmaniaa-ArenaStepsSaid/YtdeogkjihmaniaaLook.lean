/-
  arena.New, Len, is, element, Parent, walked.
  Written by an AI agent.
-/
import Derived.Test.YtdeogkjihmaniaaItem
namespace Go.Proofs.Ytdeogkjihmaniaa
open Go.RowKit

theorem new_any (w : World) : Calls Try.prog 9 #[] w fun e w' => e = .returned (ptr (w.heap.size + 1)) ∧ (∃ v, ArenaAt w' w.heap.size (w.heap.size + 1) v [rootI]) ∧ Below w.heap.size w w' := by
  go_enter Try.func9, Try.ntmps9
  go_wp2
  go_ret
  refine ⟨by simp [ptr], ⟨.slice (some ⟨w.heap.size, 0, none⟩) 1 1, ?_⟩, ((Below.refl _ w).alloc (Nat.le_refl _) _).alloc (by simp) _⟩
  have hb := Blk.new (w.alloc (.cells (cellsI rootI).toArray 64)) 67 #[.slice (some ⟨w.heap.size, 0, none⟩) 1 1]
  simp only [World.size_alloc] at hb
  refine ⟨hb, by simp, ?_, by simp, ?_, ?_⟩
  · exact (World.ownsRow_lit w (cellsI rootI).toArray 1 (Nat.le_refl _) (by unfold maxLen; omega) rfl).alloc _
  · intro e he
    simp at he
    subst he
    exact ⟨AtrsAt.nil _ _, World.ownsRow_nil _ _ _ _, by simp [rootI]⟩
  · intro i j e f hi hj hne
    have h1 := (List.getElem?_eq_some_iff.1 hi).1
    have h2 := (List.getElem?_eq_some_iff.1 hj).1
    simp at h1 h2
    omega

theorem len_any {w : World} {B a n : Nat} {v : Value} {l : List It} (h : ArenaAt w B a v l) (hn : l.length = n) : Calls Try.prog 13 #[ptr a] w fun e w' => e = .returned (i64 n) ∧ w' = w := by
  obtain ⟨ad, c, rfl, _⟩ := h.form
  rw [hn] at h
  have c0 := h.blk.cell 0 (.slice ad n c) rfl
  clear h hn
  go_enter Try.func13, Try.ntmps13
  go_wp2
  go_ret
  exact ⟨rfl, rfl⟩

def isB (l : List It) (id : Int) : Bool := decide (0 ≤ id) && decide (id < l.length)

theorem is_any {w : World} {B a : Nat} {v : Value} {l : List It} {id : Int} {r : Bool} (h : ArenaAt w B a v l) (hr : isB l id = r) : Calls Try.prog 35 #[ptr a, i64 id] w fun e w' => e = .returned (.bool r) ∧ w' = w := by
  subst hr
  obtain ⟨ad, c, rfl, _⟩ := h.form
  obtain ⟨n, hn⟩ : ∃ n, l.length = n := ⟨_, rfl⟩
  unfold isB
  rw [hn] at h ⊢
  have c0 := h.blk.cell 0 (.slice ad n c) rfl
  clear h hn
  by_cases h1 : 0 ≤ id
  · have z1 : decide (id < 0) = false := by simp; omega
    rw [decide_eq_true h1]
    by_cases h2 : id < (n : Int)
    · have z2 : decide (id < (n : Int)) = true := decide_eq_true h2
      rw [z2]
      clear h2
      go_enter Try.func35, Try.ntmps35
      go_wp2
      go_ret
      exact ⟨rfl, rfl⟩
    · have z2 : decide (id < (n : Int)) = false := decide_eq_false h2
      rw [z2]
      clear h2
      go_enter Try.func35, Try.ntmps35
      go_wp2
      go_ret
      exact ⟨rfl, rfl⟩
  · have z1 : decide (id < 0) = true := by simp; omega
    rw [decide_eq_false h1]
    skip
    go_enter Try.func35, Try.ntmps35
    go_wp2
    all_goals go_ret
    all_goals exact ⟨rfl, rfl⟩

/-- The node that a number names. -/
def getI (l : List It) (id : Int) : Option It := if 0 ≤ id then l[id.toNat]? else none
theorem getI_nat (l : List It) (k : Nat) : getI l (k : Int) = l[k]? := by unfold getI; rw [if_pos (by omega)]; rfl
theorem isB_get (l : List It) (id : Int) : isB l id = (getI l id).isSome := by
  unfold isB getI
  by_cases h : 0 ≤ id
  · rw [if_pos h, decide_eq_true h, Bool.true_and]
    by_cases h2 : id < l.length
    · rw [decide_eq_true h2, List.getElem?_eq_getElem (by omega)]
      rfl
    · rw [decide_eq_false h2, List.getElem?_eq_none (by omega)]
      rfl
  · rw [if_neg h, decide_eq_false h]
    rfl
theorem getI_some {l : List It} {id : Int} {e : It} (h : getI l id = some e) : ∃ k : Nat, id = k ∧ l[k]? = some e ∧ k < l.length := by
  unfold getI at h
  split at h
  · exact ⟨id.toNat, by omega, h, (List.getElem?_eq_some_iff.1 h).1⟩
  · cases h

def elemB (l : List It) (id : Int) : Bool := match getI l id with
  | some e => decide (e.kind = 1)
  | none => false

theorem element_any {w : World} {B a : Nat} {v : Value} {l : List It} {id : Int} {r : Bool} (h : ArenaAt w B a v l) (hr : elemB l id = r) : Calls Try.prog 32 #[ptr a, i64 id] w fun e w' => e = .returned (.bool r) ∧ w' = w := by
  subst hr
  have H := Lib.hid h
  unfold elemB
  have hi := isB_get l id
  cases hg : getI l id with
  | none =>
    rw [hg] at hi
    have HI := Lib.hid (hi.trans rfl : isB l id = false)
    clear hi hg h
    go_enter Try.func32, Try.ntmps32
    go_wp2_with (first
      | (go_at_call 35; (with_reducible refine (is_any H.out HI.out).mono ?_); rintro e w1 ⟨rfl, rfl⟩))
    go_ret
    exact ⟨rfl, rfl⟩
  | some e =>
    rw [hg] at hi
    have HI := Lib.hid (hi.trans rfl : isB l id = true)
    obtain ⟨k, rfl, hk, hkl⟩ := getI_some hg
    obtain ⟨ad, c, rfl, hlc, hc9, hr⟩ := h.form
    obtain ⟨g, rfl, hgB, hgs, hc⟩ := hr (fun e => by rw [e] at hk; simp at hk)
    obtain ⟨d0, _⟩ := hc k e hk
    have c0 := h.blk.cell 0 (.slice (some ⟨g, 0, none⟩) l.length c) rfl
    obtain ⟨n, hn⟩ : ∃ n, l.length = n := ⟨_, rfl⟩
    rw [hn] at hlc hkl c0
    obtain ⟨ki, hki⟩ : ∃ ki, e.kind = ki := ⟨_, rfl⟩
    dsimp only
    rw [hki] at d0 ⊢
    clear hi hg h hr hc hn hk hki hgB hgs
    by_cases hk1 : ki = 1
    · have z : (ki == 1) = true := by simpa using hk1
      rw [decide_eq_true hk1]
      clear hk1
      go_enter Try.func32, Try.ntmps32
      go_wp2_with (first
        | (go_at_call 35; (with_reducible refine (is_any H.out HI.out).mono ?_); rintro e w1 ⟨rfl, rfl⟩))
      go_ret
      exact ⟨rfl, rfl⟩
    · have z : (ki == 1) = false := by simpa using hk1
      rw [decide_eq_false hk1]
      clear hk1
      go_enter Try.func32, Try.ntmps32
      go_wp2_with (first
        | (go_at_call 35; (with_reducible refine (is_any H.out HI.out).mono ?_); rintro e w1 ⟨rfl, rfl⟩))
      go_ret
      exact ⟨rfl, rfl⟩

/-- A node's parent, as Parent tells it. -/
def parP (l : List It) (id : Int) : Int × Bool := match getI l id with
  | some e => if e.par = -1 then (0, false) else (e.par, true)
  | none => (0, false)

theorem parent_any {w : World} {B a : Nat} {v : Value} {l : List It} {id p : Int} {r : Bool} (h : ArenaAt w B a v l) (hr : parP l id = (p, r)) : Calls Try.prog 22 #[ptr a, i64 id] w fun e w' => e = .returned (.tuple #[i64 p, .bool r]) ∧ w' = w := by
  have H := Lib.hid h
  unfold parP at hr
  have hi := isB_get l id
  cases hg : getI l id with
  | none =>
    rw [hg] at hi hr
    cases hr
    have HI := Lib.hid (hi.trans rfl : isB l id = false)
    clear hi hg h
    go_enter Try.func22, Try.ntmps22
    go_wp2_with (first
      | (go_at_call 35; (with_reducible refine (is_any H.out HI.out).mono ?_); rintro e w1 ⟨rfl, rfl⟩))
    go_ret2
    exact ⟨rfl, rfl⟩
  | some e =>
    rw [hg] at hi hr
    have HI := Lib.hid (hi.trans rfl : isB l id = true)
    obtain ⟨k, rfl, hk, hkl⟩ := getI_some hg
    obtain ⟨ad, c, rfl, hlc, hc9, hrr⟩ := h.form
    obtain ⟨g, rfl, hgB, hgs, hc⟩ := hrr (fun e => by rw [e] at hk; simp at hk)
    obtain ⟨_, _, _, _, _, _, d6, _⟩ := hc k e hk
    have c0 := h.blk.cell 0 (.slice (some ⟨g, 0, none⟩) l.length c) rfl
    obtain ⟨n, hn⟩ : ∃ n, l.length = n := ⟨_, rfl⟩
    rw [hn] at hlc hkl c0
    obtain ⟨ki, hki⟩ : ∃ ki, e.par = ki := ⟨_, rfl⟩
    dsimp only at hr
    rw [hki] at d6 hr
    clear hi hg h hrr hc hn hk hki hgB hgs
    by_cases hk1 : ki = -1
    · have z : (ki == -1) = true := by simpa using hk1
      rw [if_pos hk1] at hr
      cases hr
      clear hk1
      go_enter Try.func22, Try.ntmps22
      go_wp2_with (first
        | (go_at_call 35; (with_reducible refine (is_any H.out HI.out).mono ?_); rintro e w1 ⟨rfl, rfl⟩))
      go_ret2
      exact ⟨rfl, rfl⟩
    · have z : (ki == -1) = false := by simpa using hk1
      rw [if_neg hk1] at hr
      cases hr
      clear hk1
      go_enter Try.func22, Try.ntmps22
      go_wp2_with (first
        | (go_at_call 35; (with_reducible refine (is_any H.out HI.out).mono ?_); rintro e w1 ⟨rfl, rfl⟩))
      go_ret2
      exact ⟨rfl, rfl⟩

end Go.Proofs.Ytdeogkjihmaniaa
