/-
  slices.Clone at attributes; Element and Comment of an arena, walked.
  Written by an AI agent.
-/
import Derived.Test.YtdeogkjihmaniaaAdd
namespace Go.Proofs.Ytdeogkjihmaniaa
open Go.RowKit

def flatA : List Atr → List Value
  | [] => []
  | x :: r => .string x.1 :: .string x.2 :: flatA r
theorem flatA_length (l : List Atr) : (flatA l).length = l.length * 2 := by
  induction l with
  | nil => rfl
  | cons x r ih => simp [flatA, ih]; omega
theorem flatA_get (l : List Atr) : ∀ (k : Nat) (h : k < l.length), (flatA l)[k * 2]? = some (.string l[k].1) ∧ (flatA l)[k * 2 + 1]? = some (.string l[k].2) := by
  induction l with
  | nil => intro k h; simp at h
  | cons x r ih =>
    intro k h
    cases k with
    | zero => simp [flatA]
    | succ k =>
      have := ih k (by simpa using h)
      rw [show (k + 1) * 2 = k * 2 + 1 + 1 from by omega]
      simpa [flatA] using this
theorem flatA_one (l : List Atr) : ∀ u ∈ flatA l, u.oneCell' = true := by
  induction l with
  | nil => simp [flatA]
  | cons x r ih =>
    intro u hu
    simp only [flatA, List.mem_cons] at hu
    rcases hu with rfl | rfl | hu
    · rfl
    · rfl
    · exact ih u hu
theorem flatA_split (l : List Atr) (j : Nat) (u : Value) (h : (flatA l)[j]? = some u) : ∃ k x, l[k]? = some x ∧ ((j = k * 2 ∧ u = .string x.1) ∨ (j = k * 2 + 1 ∧ u = .string x.2)) := by
  have hj : j < l.length * 2 := by
    have := (List.getElem?_eq_some_iff.1 h).1
    rwa [flatA_length] at this
  have hk : j / 2 < l.length := by omega
  obtain ⟨f1, f2⟩ := flatA_get l (j / 2) hk
  refine ⟨j / 2, l[j / 2], List.getElem?_eq_getElem hk, ?_⟩
  rcases Nat.mod_two_eq_zero_or_one j with hm | hm
  · left
    have e : j = j / 2 * 2 := by omega
    rw [← e, h] at f1
    exact ⟨e, Option.some.inj f1⟩
  · right
    have e : j = j / 2 * 2 + 1 := by omega
    rw [← e, h] at f2
    exact ⟨e, Option.some.inj f2⟩

/-- A row of the call's own reads as these attributes. -/
theorem AtrsAt.of_own {w : World} {B base : Nat} {v : Value} {l : List Atr} (h : w.ownsRow base 32 2 v l.length (flatA l)) (hl : l.length ≤ 1000000) : AtrsAt w B v l := by
  rcases h.2 with ⟨rfl, hn⟩ | ⟨g, cap, cur, rfl, hb, hg, hn, hm, _, _⟩
  · exact ⟨none, 0, by rw [hn], by omega, hl, fun hne => absurd (List.length_eq_zero_iff.1 hn) hne⟩
  · refine ⟨_, cap, rfl, hn, hl, fun _ => ⟨g, 0, rfl, (Array.getElem?_eq_some_iff.1 hg).1, .inr ⟨_, _, hg⟩, fun k x hx => ?_⟩⟩
    obtain ⟨hk, rfl⟩ := List.getElem?_eq_some_iff.1 hx
    obtain ⟨f1, f2⟩ := flatA_get l k hk
    have hc := h.cells (g := g) rfl
    have e : ∀ j, (⟨g, 0, none⟩ : Addr).add j = ⟨g, 0 + j, none⟩ := fun j => by unfold Addr.add; split <;> simp_all
    have h1 := hc _ _ f1
    have h2 := hc _ _ f2
    rw [e] at h1 h2
    exact ⟨h1, h2⟩

theorem eqlSA (w : World) (a : Addr) (n c : Nat) : (binOp .eql 33 (.slice (some a) n c) (.slice none 0 0)).run Try.prog w = .ok (.bool false) w := by
  kernel_rfl
theorem eqlNA (w : World) (n c : Nat) : (binOp .eql 33 (.slice none n c) (.slice none 0 0)).run Try.prog w = .ok (.bool true) w := by
  kernel_rfl

def CloneIt (l : List Atr) (w : World) (e : Ending) (w' : World) : Prop :=
  ∃ v', e = .returned v' ∧ w'.ownsRow w.heap.size 32 2 v' l.length (flatA l) ∧ Below w.heap.size w w'

set_option maxHeartbeats 1000000 in
theorem cloneA_any {w : World} {B : Nat} {v : Value} {l : List Atr} (h : AtrsAt w B v l) : Calls Try.prog 34 #[v] w (CloneIt l w) := by
  obtain ⟨ad, c, rfl, hlc, hl, hr⟩ := h
  obtain ⟨i0, hi, hz0, hz1, hz2⟩ := info_parts info32
  cases ad with
  | none =>
    have hl0 : l = [] := Classical.byContradiction fun hne => by
      obtain ⟨g, off, he, _⟩ := hr hne
      cases he
    subst hl0
    clear hr
    have e1 := eqlNA w 0 c
    simp only [List.length_nil]
    go_enter Try.func34, Try.ntmps34
    go_wp2
    go_ret
    exact ⟨_, rfl, World.ownsRow_nil _ _ _ _, Below.refl _ _⟩
  | some a =>
    obtain ⟨n, hn⟩ : ∃ n, l.length = n := ⟨_, rfl⟩
    have hnews : ∀ (j : Nat) (u : Value), (flatA l)[j]? = some u → w.cell? (a.add j) = some u := by
      intro j u hu
      obtain ⟨k, x, hx, hj⟩ := flatA_split l j u hu
      obtain ⟨g, off, he, _, _, hc⟩ := hr (fun e => by rw [e] at hx; simp at hx)
      obtain ⟨d0, d1⟩ := hc k x hx
      obtain rfl := Option.some.inj he
      have e : ∀ j, (⟨g, off, none⟩ : Addr).add j = ⟨g, off + j, none⟩ := fun j => by unfold Addr.add; split <;> simp_all
      rw [e]
      rcases hj with ⟨rfl, rfl⟩ | ⟨rfl, rfl⟩
      · exact d0
      · exact d1
    have ha : ∀ (j : Nat) (u : Value), (flatA l)[j]? = some u → (w.alloc (.cells #[] 32)).cell? (a.add j) = some u := by
      intro j u hu
      have hc := hnews j u hu
      have hlt : (a.add j).block < w.heap.size := by
        have : w.cell? (a.add j) ≠ none := by rw [hc]; simp
        unfold World.cell? at this
        cases hb : w.heap[(a.add j).block]? with
        | none => simp [hb] at this
        | some o => exact (Array.getElem?_eq_some_iff.1 hb).1
      exact (((Below.refl w.heap.size w).alloc (Nat.le_refl _) _).cell (p := a.add j) hlt).trans hc
    have HN := Lib.hid hn
    have HA := Lib.hid ha
    rw [hn] at hl hlc ⊢
    clear hr hnews ha hn
    have e1 := eqlSA w a n c
    go_enter Try.func34, Try.ntmps34
    go_wp2_with (first
      | (at_builtin; refine wpList_append_own _ rfl (.tmp 5) (.tmp 6) 33 rfl w.heap.size 32 i0 _ 2 32 Try.underlying33 hi hz0 hz1 hz2 rfl (by decide) _ _ _ rfl (own_empty w 32 2) _ _ _ (flatA l) rfl ?c0 ?c1 (flatA_one l) ?c3 ?c4 ?c5 ?_))
    case c0 => rw [flatA_length, HN.out]
    case c1 => exact HA.out
    case c3 => unfold maxLen; omega
    case c4 => omega
    case c5 => simp
    intro v' w' hown hgrow _
    have hb : Below w.heap.size w w' := ((Below.refl _ w).alloc (Nat.le_refl _) _).grown hgrow (by simp) (fun k hk => by cases hk; exact Nat.le_refl _)
    have HO := Lib.hid (And.intro hown hb)
    clear hown hgrow hb
    go_wp2
    go_ret
    exact ⟨_, rfl, by rw [HN.out]; simpa using HO.out.1, HO.out.2⟩


theorem AtrsAt.few {w : World} {B : Nat} {v : Value} {l : List Atr} (h : AtrsAt w B v l) : l.length ≤ 1000000 := by
  obtain ⟨_, _, _, _, h, _⟩ := h; exact h

/-- What Element leaves. -/
def ElemIt (B a : Nat) (l : List It) (space : Int) (nm : ByteArray) (ats : List Atr) (n : Nat) (w : World) (e : Ending) (w' : World) : Prop :=
  e = .returned (.tuple #[i64 n, i64 0]) ∧ ∃ v' av, ArenaAt w' B a v' (l ++ [newI 1 space nm ats ⟨#[]⟩ av]) ∧ Went B l w (l ++ [newI 1 space nm ats ⟨#[]⟩ av]) w' ∧ w'.ownsRow w.heap.size 32 2 av ats.length (flatA ats)

theorem elem_full {w : World} {B a : Nat} {v va : Value} {l : List It} {space : Int} {nm : ByteArray} {ats : List Atr} (h : ArenaAt w B a v l) (hl : l.length = 600) (ha : AtrsAt w B va ats) :
    Calls Try.prog 14 #[ptr a, i64 space, .string nm, va] w fun e w' => e = .returned (.tuple #[i64 0, i64 5]) ∧ Below w.heap.size w w' := by
  have hf := ha.few
  have H := Lib.hid (And.intro h (And.intro hl (And.intro ha hf)))
  obtain ⟨aad, ac, rfl⟩ := ha.form
  clear h hl ha hf
  go_enter Try.func14, Try.ntmps14
  go_wp2_with (first
    | (go_at_call 34; (with_reducible refine (cloneA_any H.out.2.2.1).mono ?_); rintro e w1 ⟨v1, rfl, hown, hbel⟩; obtain ⟨ad1, c1, rfl⟩ := own_slice hown; have HO := Lib.hid (And.intro hown hbel); clear hown hbel)
    | (go_at_call 31; (with_reducible refine (add_full (H.out.1.below HO.out.2) H.out.2.1 (AtrsAt.of_own HO.out.1 H.out.2.2.2)).mono ?_); rintro e w2 ⟨rfl, hbel2⟩; have HP := Lib.hid hbel2; clear hbel2))
  go_ret2
  exact ⟨rfl, HO.out.2.trans (HP.out.mono HO.out.2.size)⟩

theorem elem_any {w : World} {B a n : Nat} {v va : Value} {l : List It} {space : Int} {nm : ByteArray} {ats : List Atr} (h : ArenaAt w B a v l) (hn : l.length = n) (hl : n < 600) (ha : AtrsAt w B va ats) :
    Calls Try.prog 14 #[ptr a, i64 space, .string nm, va] w (ElemIt B a l space nm ats n w) := by
  have hf := ha.few
  have H := Lib.hid (And.intro h (And.intro hn (And.intro ha hf)))
  obtain ⟨aad, ac, rfl⟩ := ha.form
  clear h hn ha hf
  go_enter Try.func14, Try.ntmps14
  go_wp2_with (first
    | (go_at_call 34; (with_reducible refine (cloneA_any H.out.2.2.1).mono ?_); rintro e w1 ⟨v1, rfl, hown, hbel⟩; obtain ⟨ad1, c1, rfl⟩ := own_slice hown; have HO := Lib.hid (And.intro hown hbel); clear hown hbel)
    | (go_at_call 31; (with_reducible refine (add_any (H.out.1.below HO.out.2) H.out.2.1 hl (AtrsAt.of_own HO.out.1 H.out.2.2.2)).mono ?_); rintro e w2 ⟨rfl, v2, h2, hw2⟩; have HP := Lib.hid (And.intro h2 hw2); clear h2 hw2))
  go_ret2
  exact ⟨rfl, v2, _, HP.out.1, (Went.of_below HO.out.2 B l).trans HP.out.2, HP.out.2.fr.own HO.out.1 (fun _ _ => rfl)⟩

theorem comment_full {w : World} {B a : Nat} {v : Value} {l : List It} {tx : ByteArray} (h : ArenaAt w B a v l) (hl : l.length = 600) :
    Calls Try.prog 11 #[ptr a, .string tx] w fun e w' => e = .returned (.tuple #[i64 0, i64 5]) ∧ Below w.heap.size w w' := by
  have H := Lib.hid (And.intro h hl)
  clear h hl
  go_enter Try.func11, Try.ntmps11
  go_wp2_with (first
    | (go_at_call 31; (with_reducible refine (add_full H.out.1 H.out.2 (AtrsAt.nil _ _)).mono ?_); rintro e w2 ⟨rfl, hbel2⟩; have HP := Lib.hid hbel2; clear hbel2))
  go_ret2
  exact ⟨rfl, HP.out⟩

theorem comment_any {w : World} {B a n : Nat} {v : Value} {l : List It} {tx : ByteArray} (h : ArenaAt w B a v l) (hn : l.length = n) (hl : n < 600) :
    Calls Try.prog 11 #[ptr a, .string tx] w (AddIt B a l (newI 3 0 ⟨#[]⟩ [] tx (.slice none 0 0)) n w) := by
  have H := Lib.hid (And.intro h hn)
  clear h hn
  go_enter Try.func11, Try.ntmps11
  go_wp2_with (first
    | (go_at_call 31; (with_reducible refine (add_any H.out.1 H.out.2 hl (AtrsAt.nil _ _)).mono ?_); rintro e w2 ⟨rfl, v2, h2, hw2⟩; have HP := Lib.hid (And.intro h2 hw2); clear h2 hw2))
  go_ret2
  exact ⟨rfl, v2, HP.out.1, HP.out.2⟩

end Go.Proofs.Ytdeogkjihmaniaa
