/-
  (*List).Mark, walked.
  Written by an AI agent.
-/
import Derived.Test.YtjopfgdgmniigaaFour
namespace Go.Proofs.Ytjopfgdgmniigaa
open Go.RowKit Go.Maps

def markE : Ent := ⟨true, 0, ⟨#[]⟩, []⟩

set_option maxHeartbeats 2000000 in
theorem mark_full {w : World} {B lb : Nat} {es : List Ent} (h : ListIs w B lb 63 33 es) (hl : es.length = 100) : Calls Try.prog 24 #[ptr lb] w fun e w' => e = .returned (i64 5) ∧ w' = w := by
  obtain ⟨v, ps, ⟨hb, hB, hrow⟩, rfl⟩ := h
  obtain ⟨rd, rc, rfl⟩ := own_slice hrow.1
  have hlp : ps.length = 100 := by simpa using hl
  have c0 := hb.cell 0 _ rfl
  rw [hlp] at c0
  clear hb hrow hl hlp
  go_enter Try.func24, Try.ntmps24
  go_wp2
  go_ret
  exact ⟨rfl, rfl⟩

set_option maxHeartbeats 2000000 in
theorem mark_ok {w : World} {B lb : Nat} {es : List Ent} (h : ListIs w B lb 63 33 es) (hl : es.length < 100) : Calls Try.prog 24 #[ptr lb] w (AddIt B lb (es ++ [markE]) 0 w) := by
  obtain ⟨v, ps, hlist, rfl⟩ := h
  obtain ⟨rd, rc, hv⟩ := own_slice hlist.2.2.1
  subst hv
  obtain ⟨n, hn⟩ : ∃ n, ps.length = n := ⟨_, rfl⟩
  have c0 := hlist.1.cell 0 _ rfl
  have hn100 : n < 100 := by rw [← hn]; simpa using hl
  have HL := Lib.hid hlist
  rw [hn] at c0 HL
  have HN := Lib.hid hn
  have n100 : ((n : Int) == 100) = false := by simp; omega
  clear hlist hl hn
  go_enter Try.func24, Try.ntmps24
  go_wp2_with (first | (go_at_call 44; (with_reducible refine (put_n (l := []) HL.out HN.out (by omega) (AtrsAt.nil _ _)).mono ?_); rintro e w5 ⟨rfl, v5, va5, hl5, _, hf5⟩; have H5 := Lib.hid (And.intro hl5 hf5); clear hl5 hf5))
  go_ret
  exact ⟨rfl, ⟨_, _, H5.out.1, by simp [markE]⟩, H5.out.2⟩

/-- Add, whatever is added; what it answers. -/
def addS (es : List Ent) (e : Ent) : List Ent := if wrongB e.mark e.id then es else if es.length = 100 then es else addL es e
def addR (es : List Ent) (e : Ent) : Int := if wrongB e.mark e.id then 1 else if es.length = 100 then 5 else 0
def markS (es : List Ent) : List Ent := if es.length = 100 then es else es ++ [markE]
def markR (es : List Ent) : Int := if es.length = 100 then 5 else 0

theorem addS_length {es : List Ent} (e : Ent) (h : es.length ≤ 100) : (addS es e).length ≤ 100 := by
  unfold addS
  split
  · exact h
  · split
    · exact h
    · have := addL_length es e
      omega
theorem markS_length {es : List Ent} (h : es.length ≤ 100) : (markS es).length ≤ 100 := by
  unfold markS
  split
  · exact h
  · simp; omega

theorem add_any {w : World} {B lb : Nat} {es : List Ent} {va : Value} {mk : Bool} {id : Int} {nm : ByteArray} {l : List Atr} (h : ListIs w B lb 63 33 es) (hl : es.length ≤ 100) (ha : AtrsAt w B va l) :
    Calls Try.prog 22 #[ptr lb, .agg #[.bool mk, i64 id, .string nm, va]] w (AddIt B lb (addS es ⟨mk, id, nm, l⟩) (addR es ⟨mk, id, nm, l⟩) w) := by
  unfold addS addR
  simp only
  cases hw : wrongB mk id
  · by_cases h100 : es.length = 100
    · simp only [Bool.false_eq_true, if_false, h100, if_true]
      exact add_full h h100 ha hw
    · simp only [Bool.false_eq_true, if_false, h100]
      exact add_ok h (by omega) ha hw
  · simp only [if_true]
    exact add_wrong h ha hw

theorem mark_any {w : World} {B lb : Nat} {es : List Ent} (h : ListIs w B lb 63 33 es) (hl : es.length ≤ 100) : Calls Try.prog 24 #[ptr lb] w (AddIt B lb (markS es) (markR es) w) := by
  unfold markS markR
  by_cases h100 : es.length = 100
  · simp only [h100, if_true]
    exact (mark_full h h100).mono fun e w' ⟨he, hw⟩ => by
      subst hw
      exact ⟨he, h, Fr.refl _ _ _⟩
  · simp only [h100, if_false]
    exact mark_ok h (by omega)

end Go.Proofs.Ytjopfgdgmniigaa
