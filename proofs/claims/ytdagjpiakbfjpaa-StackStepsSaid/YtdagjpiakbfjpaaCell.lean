/-
  rectolaw09.cell, walked: it returns true.
  Written by an AI agent.
-/
import Derived.Test.YtdagjpiakbfjpaaIn
namespace Go.Proofs.Ytdagjpiakbfjpaa
open Go.RowKit

theorem push_n {w : World} {B lb : Nat} {es es' : List Ent} {id sp r : Int} {nm : ByteArray} (h : Stk w B lb es) (hl : es.length ≤ 200) (hs : pushS es ⟨id, sp, nm⟩ = es') (hr : pushR es = r) :
    Calls Try.prog 10 #[ptr lb, .agg #[i64 id, i64 sp, .string nm]] w (StkIt B lb es' (i64 r) w) := by
  subst hs hr
  exact push_stk h hl
theorem in_n {w : World} {B lb : Nat} {es : List Ent} {scope : Int} {va : Value} {ns : List ByteArray} {r : Bool} (h : Stk w B lb es) (ha : NamesAt w va ns) (hr : inB scope ns es = r) :
    Calls Try.prog 11 #[ptr lb, i64 scope, va] w fun e w' => e = .returned (.bool r) ∧ Below w.heap.size w w' := by
  subst hr
  exact in_stk h ha
theorem find_n {w : World} {B lb : Nat} {es : List Ent} {id r : Int} (h : Stk w B lb es) (hr : findE id es = r) : Calls Try.prog 19 #[ptr lb, i64 id] w fun e w' => e = .returned (i64 r) ∧ w' = w := by
  subst hr
  exact find_stk h id
theorem implied_n {w : World} {B lb : Nat} {es es' : List Ent} {but : ByteArray} {r : Int} (h : Stk w B lb es) (hl : es.length ≤ 1000) (hs : popW (impP but) es = es') (hr : (es.length : Int) - (es'.length : Int) = r) :
    Calls Try.prog 24 #[ptr lb, .string but] w fun e w' => e = .returned (i64 r) ∧ Stk w' B lb es' ∧ Fr B LK w w' := by
  subst hs hr
  exact (implied_stk but h hl).mono fun e w' h => ⟨h.1, h.2.1, h.2.2.1⟩

def e1 : Ent := ⟨0, 0, ⟨#[104, 116, 109, 108]⟩⟩
def e2 : Ent := ⟨0, 0, ⟨#[116, 97, 98, 108, 101]⟩⟩
def e3 : Ent := ⟨0, 0, ⟨#[116, 100]⟩⟩
def e4 : Ent := ⟨4, 0, ⟨#[112]⟩⟩
theorem cell_in1 : inB 0 [⟨#[112]⟩] [e1, e2, e3, e4] = true := by decide +kernel
theorem cell_in2 : inB 0 [⟨#[116, 97, 98, 108, 101]⟩] [e1, e2, e3, e4] = false := by decide +kernel
theorem cell_in3 : inB 2 [⟨#[116, 97, 98, 108, 101]⟩] [e1, e2, e3, e4] = true := by decide +kernel
theorem cell_find : findE 4 [e1, e2, e3, e4] = 3 := by decide +kernel
theorem cell_imp : popW (impP ⟨#[]⟩) [e1, e2, e3, e4] = [e1, e2, e3] := by
  have : popW (impP ⟨#[]⟩) ([e1, e2, e3] ++ [e4]) = popW (impP ⟨#[]⟩) [e1, e2, e3] := by
    rw [popW_snoc, show impP ⟨#[]⟩ e4 = true from by decide +kernel]; rfl
  refine this.trans ?_
  have h2 := popW_snoc (impP ⟨#[]⟩) [e1, e2] e3
  rw [show impP ⟨#[]⟩ e3 = false from by decide +kernel] at h2
  exact h2

set_option maxHeartbeats 8000000 in
set_option maxRecDepth 100000 in
theorem cell_any (w : World) : Calls Try.prog 9 #[] w fun e w' => e = .returned (.bool true) ∧ Below w.heap.size w w' := by
  go_enter Try.func9, Try.ntmps9
  go_wp2_with (first
    | (go_at_call 8; (with_reducible refine (new_any _).mono ?_); rintro e w1 ⟨rfl, hs, hb⟩; have H1 := Lib.hid (And.intro hs hb); clear hs hb)
    | (go_at_call 10; (with_reducible refine (push_n (es' := [e1]) H1.out.1 (by simp) rfl rfl).mono ?_); rintro e w2 ⟨rfl, hs, hf⟩; have H2 := Lib.hid (And.intro hs (H1.out.2.trans (below_of_fr hf H1.out.2.size))); clear hs hf)
    | (go_at_call 10; (with_reducible refine (push_n (es' := [e1, e2]) H2.out.1 (by simp) rfl rfl).mono ?_); rintro e w3 ⟨rfl, hs, hf⟩; have H3 := Lib.hid (And.intro hs (H2.out.2.trans (below_of_fr hf H2.out.2.size))); clear hs hf)
    | (go_at_call 10; (with_reducible refine (push_n (es' := [e1, e2, e3]) H3.out.1 (by simp) rfl rfl).mono ?_); rintro e w4 ⟨rfl, hs, hf⟩; have H4 := Lib.hid (And.intro hs (H3.out.2.trans (below_of_fr hf H3.out.2.size))); clear hs hf)
    | (go_at_call 10; (with_reducible refine (push_n (es' := [e1, e2, e3, e4]) H4.out.1 (by simp) rfl rfl).mono ?_); rintro e w5 ⟨rfl, hs, hf⟩; have H5 := Lib.hid (And.intro hs (H4.out.2.trans (below_of_fr hf H4.out.2.size))); clear hs hf)
    | (go_at_call 11; (with_reducible refine (in_n (H5.out.1.below ((Below.refl _ w5).alloc (Nat.le_refl _) _)) (NamesAt.one w5 ⟨#[112]⟩ 9) cell_in1).mono ?_); rintro e w6 ⟨rfl, hb⟩; have hb2 := ((Below.refl _ w5).alloc (Nat.le_refl _) _).trans (hb.mono (by simp)); have H6 := Lib.hid (And.intro (H5.out.1.below hb2) (H5.out.2.trans (hb2.mono H5.out.2.size))); clear hb hb2)
    | (go_at_call 11; (with_reducible refine (in_n (H6.out.1.below ((Below.refl _ w6).alloc (Nat.le_refl _) _)) (NamesAt.one w6 ⟨#[116, 97, 98, 108, 101]⟩ 9) cell_in2).mono ?_); rintro e w7 ⟨rfl, hb⟩; have hb2 := ((Below.refl _ w6).alloc (Nat.le_refl _) _).trans (hb.mono (by simp)); have H7 := Lib.hid (And.intro (H6.out.1.below hb2) (H6.out.2.trans (hb2.mono H6.out.2.size))); clear hb hb2)
    | (go_at_call 11; (with_reducible refine (in_n (H7.out.1.below ((Below.refl _ w7).alloc (Nat.le_refl _) _)) (NamesAt.one w7 ⟨#[116, 97, 98, 108, 101]⟩ 9) cell_in3).mono ?_); rintro e w8 ⟨rfl, hb⟩; have hb2 := ((Below.refl _ w7).alloc (Nat.le_refl _) _).trans (hb.mono (by simp)); have H8 := Lib.hid (And.intro (H7.out.1.below hb2) (H7.out.2.trans (hb2.mono H7.out.2.size))); clear hb hb2)
    | (go_at_call 19; (with_reducible refine (find_n H8.out.1 cell_find).mono ?_); rintro e w9 ⟨rfl, rfl⟩)
    | (go_at_call 24; (with_reducible refine (implied_n H8.out.1 (by simp) cell_imp (r := 1) rfl).mono ?_); rintro e w9 ⟨rfl, hs, hf⟩; have H9 := Lib.hid (H8.out.2.trans (below_of_fr hf H8.out.2.size)); clear hs hf))
  go_ret
  exact ⟨rfl, H9.out⟩

end Go.Proofs.Ytdagjpiakbfjpaa
