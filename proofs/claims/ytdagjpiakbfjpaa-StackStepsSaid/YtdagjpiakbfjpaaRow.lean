/-
  A stack's entries in memory; slices.Insert at the end.
  Written by an AI agent.
-/
import Derived.Test.YtdagjpiakbfjpaaProg
import Derived.Test.YtdagjpiakbfjpaaSplice
import Derived.Lib.Hide
import Derived.OwnWalk
import Derived.Outline
import Derived.RegionTactic
import Derived.Deep.QuietTactic
import Derived.BigQuiet
import Derived.Handy
import Derived.KernelRfl
import Derived.Deep.LoopGhost
import Derived.Deep.RegionHeld3
import Derived.Deep.RegionWith
import Derived.StillTailTactics
namespace Go.Proofs.Ytdagjpiakbfjpaa
open Go.RowKit

theorem laid : laidOutB Try.prog = true := by kernel_rfl

/-- An entry: ID, space, name. -/
structure Ent where
  id : Int
  space : Int
  name : ByteArray

def cellsE (e : Ent) : List Value := [i64 e.id, i64 e.space, .string e.name]
def aggE (e : Ent) : Value := .agg #[i64 e.id, i64 e.space, .string e.name]
def flatE : List Ent → List Value
  | [] => []
  | e :: r => i64 e.id :: i64 e.space :: .string e.name :: flatE r
theorem flatE_length (l : List Ent) : (flatE l).length = l.length * 3 := by
  induction l with
  | nil => rfl
  | cons e r ih => simp [flatE, ih]; omega
theorem flatE_append (a b : List Ent) : flatE (a ++ b) = flatE a ++ flatE b := by
  induction a with
  | nil => rfl
  | cons e r ih => simp [flatE, ih]
theorem flatE_get (l : List Ent) : ∀ (k : Nat) (e : Ent), l[k]? = some e → (flatE l)[k * 3]? = some (i64 e.id) ∧ (flatE l)[k * 3 + 1]? = some (i64 e.space) ∧ (flatE l)[k * 3 + 2]? = some (.string e.name) := by
  induction l with
  | nil => intro k e h; simp at h
  | cons q r ih =>
    intro k e h
    cases k with
    | zero => simp at h; subst h; simp [flatE]
    | succ k =>
      have := ih k e (by simpa using h)
      rw [show (k + 1) * 3 = k * 3 + 1 + 1 + 1 from by omega]
      simpa [flatE] using this
theorem flatE_take (l : List Ent) : ∀ k, (flatE l).take (k * 3) = flatE (l.take k) := by
  induction l with
  | nil => intro k; simp [flatE]
  | cons e r ih =>
    intro k
    cases k with
    | zero => simp [flatE]
    | succ k =>
      rw [show (k + 1) * 3 = k * 3 + 1 + 1 + 1 from by omega]
      simp [flatE, ih]
theorem flatE_drop (l : List Ent) : ∀ k, (flatE l).drop (k * 3) = flatE (l.drop k) := by
  induction l with
  | nil => intro k; simp [flatE]
  | cons e r ih =>
    intro k
    cases k with
    | zero => simp
    | succ k =>
      rw [show (k + 1) * 3 = k * 3 + 1 + 1 + 1 from by omega]
      simp [flatE, ih]
theorem flatE_one (l : List Ent) : ∀ u ∈ flatE l, u.oneCell' = true := by
  induction l with
  | nil => simp [flatE]
  | cons e r ih =>
    intro u hu
    simp only [flatE, List.mem_cons] at hu
    rcases hu with rfl | rfl | rfl | hu
    · rfl
    · rfl
    · rfl
    · exact ih u hu

/-- The stack at block lb holds just these entries. -/
def StkAt (w : World) (B lb : Nat) (v : Value) (es : List Ent) : Prop := Blk w lb 59 #[v] ∧ B ≤ lb ∧ w.ownsRow B 27 3 v es.length (flatE es) ∧ es.length ≤ 1000000
def Stk (w : World) (B lb : Nat) (es : List Ent) : Prop := ∃ v, StkAt w B lb v es

theorem blk_kept {w w' : World} {g : Nat} {t : TypeId} {cs : Array Value} (h : Blk w g t cs) (hb : Below w.heap.size w w') : Blk w' g t cs := (hb.block g h.lt).trans h
theorem own_below {w w' : World} {base : Nat} {e : TypeId} {size : Nat} {v : Value} {n : Nat} {xs : List Value} (h : w.ownsRow base e size v n xs) (hb : Below w.heap.size w w') : w'.ownsRow base e size v n xs := by
  refine ⟨h.1, h.2.imp id fun ⟨g, cap, cur, hv, hg, hh, r⟩ => ⟨g, cap, cur, hv, hg, (hb.block g (Array.getElem?_eq_some_iff.1 hh).1).trans hh, r⟩⟩
theorem StkAt.below {w w' : World} {B lb : Nat} {v : Value} {es : List Ent} (h : StkAt w B lb v es) (hb : Below w.heap.size w w') : StkAt w' B lb v es := ⟨blk_kept h.1 hb, h.2.1, own_below h.2.2.1 hb, h.2.2.2⟩
theorem Stk.below {w w' : World} {B lb : Nat} {es : List Ent} (h : Stk w B lb es) (hb : Below w.heap.size w w') : Stk w' B lb es := by
  obtain ⟨v, h⟩ := h
  exact ⟨v, h.below hb⟩

/-- Where the entries lie. -/
theorem StkAt.form {w : World} {B lb : Nat} {v : Value} {es : List Ent} (h : StkAt w B lb v es) :
    ∃ ad c, v = .slice ad es.length c ∧ es.length ≤ c ∧ c ≤ 9223372036854775807 ∧ (es ≠ [] → ∃ g, ad = some ⟨g, 0, none⟩ ∧ B ≤ g ∧ g < w.heap.size ∧ ∀ (k : Nat) (e : Ent), es[k]? = some e →
      w.cell? ⟨g, k * 3, none⟩ = some (i64 e.id) ∧ w.cell? ⟨g, k * 3 + 1, none⟩ = some (i64 e.space) ∧ w.cell? ⟨g, k * 3 + 2, none⟩ = some (.string e.name)) := by
  rcases h.2.2.1.2 with ⟨rfl, h0⟩ | ⟨g, cap, cur, rfl, hb, hg, hnc, hm, _, _⟩
  · exact ⟨none, 0, by rw [h0], by omega, by omega, fun hne => absurd (List.length_eq_zero_iff.1 h0) hne⟩
  · unfold maxLen at hm
    refine ⟨_, cap, rfl, hnc, hm, fun _ => ⟨g, rfl, hb, (Array.getElem?_eq_some_iff.1 hg).1, fun k e hk => ?_⟩⟩
    obtain ⟨f0, f1, f2⟩ := flatE_get es k e hk
    have hc := h.2.2.1.cells (g := g) rfl
    have ea : ∀ j, (⟨g, 0, none⟩ : Addr).add j = ⟨g, j, none⟩ := fun j => by unfold Addr.add; split <;> simp_all
    have h0 := hc _ _ f0
    have h1 := hc _ _ f1
    have h2 := hc _ _ f2
    rw [ea] at h0 h1 h2
    exact ⟨h0, h1, h2⟩

theorem info27 : (Try.prog.info? 27).map (fun i => (i.zero, i.size, i.bytes)) = some (some (.agg #[.int .i64 0, .int .i64 0, .string ⟨#[]⟩]), 3, 32) := by kernel_rfl

def InsIt (B n : Nat) (v : Value) (xs : List Value) (w : World) (e : Ending) (w' : World) : Prop :=
  ∃ v', e = .returned v' ∧ w'.ownsRow B 27 3 v' n xs ∧ w.grownBy w' v.ownBlock

set_option maxHeartbeats 1000000 in
theorem insert_end {w : World} {B n g2 : Nat} {v : Value} {xs x : List Value} (hown : w.ownsRow B 27 3 v n xs) (hn : n ≤ 1000000) (hB : B ≤ w.heap.size) (hx : x.length = 3) (hx1 : ∀ u ∈ x, u.oneCell' = true)
    (hnews : ∀ (j : Nat) (u : Value), x[j]? = some u → w.cell? ((⟨g2, 0, none⟩ : Addr).add j) = some u) :
    Calls Try.prog 29 #[v, i64 n, .slice (some ⟨g2, 0, none⟩) 1 1] w (InsIt B (n + 1) v (xs ++ x) w) := by
  obtain ⟨i0, hi, hz0, hz1, hz2⟩ := info_parts info27
  have HO := Lib.hid hown
  have HNW := Lib.hid hnews
  have HX := Lib.hid (And.intro hx hx1)
  rcases hown.2 with ⟨rfl, rfl⟩ | ⟨g, cap, cur, rfl, hb, hg, hnc, hm, _, _⟩
  · clear hown hnews hx hx1
    go_enter Try.func29, Try.ntmps29
    go_wp2_with (first
      | (at_builtin; refine wpList_append_own _ rfl (.tmp 23) (.tmp 24) 22 rfl B 27 i0 _ 3 32 Try.underlying22 hi hz0 hz1 hz2 rfl (by decide) _ _ _ rfl HO.out ⟨g2, 0, none⟩ 1 1 x rfl (by rw [HX.out.1]) HNW.out HX.out.2 (by unfold maxLen; omega) (by omega) hB ?_; intro v' w' hown' hgrow _; have HF := Lib.hid (And.intro hown' hgrow); clear hown' hgrow))
    go_ret
    exact ⟨_, rfl, by simpa using HF.out.1, HF.out.2⟩
  · unfold maxLen at hm
    clear hown hnews hg hx hx1
    go_enter Try.func29, Try.ntmps29
    go_wp2_with (first
      | (at_builtin; refine wpList_append_own _ rfl (.tmp 23) (.tmp 24) 22 rfl B 27 i0 _ 3 32 Try.underlying22 hi hz0 hz1 hz2 rfl (by decide) _ _ _ rfl HO.out ⟨g2, 0, none⟩ 1 1 x rfl (by rw [HX.out.1]) HNW.out HX.out.2 (by unfold maxLen; omega) (by omega) hB ?_; intro v' w' hown' hgrow _; have HF := Lib.hid (And.intro hown' hgrow); clear hown' hgrow))
    all_goals go_ret
    all_goals exact ⟨_, rfl, HF.out.1, HF.out.2⟩

end Go.Proofs.Ytdagjpiakbfjpaa
