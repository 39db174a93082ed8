/-
  (*Stack).To, walked; the plain law behind rectolaw09.StackBack.
  Written by an AI agent.
-/
import Derived.Test.YtdagjpiakbfjpaaInsW
import Derived.Test.YtdagjpiakbfjpaaCell
namespace Go.Proofs.Ytdagjpiakbfjpaa
open Go.RowKit

def toN (b : Bool) : Int := if b then 1 else 0

theorem back_n {w : World} {B lb n : Nat} {es q : List Ent} {va : Value} {ns : List ByteArray} (h : Stk w B lb es) (ha : NamesAt w va ns) (hl : es.length ≤ 1000) (hq : popW (backP ns) es = q) (hn : n + q.length = es.length) :
    Calls Try.prog 14 #[ptr lb, va] w fun e w' => e = .returned (i64 n) ∧ Stk w' B lb q ∧ Fr B LK w w' ∧ w.grownBy w' (some lb) := by
  subst hq
  refine (back_stk h ha hl).mono fun e w' h => ⟨?_, h.2⟩
  rw [h.1]
  congr 2
  omega

set_option maxHeartbeats 2000000 in
theorem to_n {w : World} {B lb n : Nat} {es q : List Ent} {va : Value} {ns : List ByteArray} {te : Ent} {tb : Bool} (h : Stk w B lb es) (ha : NamesAt w va ns) (hl : es.length ≤ 1000) (hq : popW (backP ns) es = q) (hn : n + q.length = es.length) (h1 : topE q = te) (h2 : topB q = tb) :
    Calls Try.prog 15 #[ptr lb, va] w fun e w' => e = .returned (i64 (if tb then (n : Int) + 1 else (n : Int))) ∧ Stk w' B lb q.dropLast ∧ Fr B LK w w' ∧ w.grownBy w' (some lb) := by
  have HA := Lib.hid (And.intro h (And.intro ha (And.intro hq (And.intro hn (And.intro h1 h2)))))
  obtain ⟨ad, ca, rfl, _, _⟩ := ha
  have hn1000 : n ≤ 1000 := by omega
  have hwr : IntKind.i64.wrap ((n : Int) + 1) = (n : Int) + 1 := IntWalk.i64_in _ (by omega)
  clear h hq hn h1 h2
  cases tb
  all_goals
    go_enter Try.func15, Try.ntmps15
    go_wp2_with (first
      | (go_at_call 14; (with_reducible refine (back_n HA.out.1 HA.out.2.1 hl HA.out.2.2.1 HA.out.2.2.2.1).mono ?_); rintro e w1 ⟨rfl, hs1, hf1, hg1⟩; have H1 := Lib.hid (And.intro hs1 (And.intro hf1 hg1)); clear hs1 hf1 hg1)
      | (go_at_call 23; (with_reducible refine (pop_n H1.out.1 HA.out.2.2.2.2.1 HA.out.2.2.2.2.2).mono ?_); rintro e w2 ⟨rfl, hs2, hf2, hg2⟩; have H2 := Lib.hid (And.intro hs2 (And.intro hf2 hg2)); clear hs2 hf2 hg2))
    go_ret
    have b2 := (Below.refl w2.heap.size w2).alloc (Nat.le_refl _) (.cells #[i64 te.id, i64 te.space, .string te.name] 27)
    exact ⟨rfl, H2.out.1.below b2, (H1.out.2.1.trans H2.out.2.1).trans (Fr.of_below b2 B LK), (H1.out.2.2.trans H2.out.2.2).trans (grown_below b2)⟩

theorem Stk.grown {w w' : World} {B ls lt : Nat} {es et : List Ent} (h : Stk w B ls es) (ht : Stk w B lt et) (hne : ls ≠ lt) (hg : w.grownBy w' (some lt)) : Stk w' B ls es := by
  obtain ⟨vs, hs⟩ := h
  obtain ⟨vt, ht⟩ := ht
  have hbl : ∀ k, k < w.heap.size → k ≠ lt → w'.heap[k]? = w.heap[k]? := fun k hk hkl => hg.block k hk (fun e => hkl (Option.some.inj e))
  refine ⟨vs, (hbl ls hs.1.lt hne).trans hs.1, hs.2.1, ?_, hs.2.2.2⟩
  refine ⟨hs.2.2.1.1, ?_⟩
  have hfar := own_far hs ht.1
  rcases hs.2.2.1.2 with hn | ⟨g, cap, cur, rfl, hb, hgg, rest⟩
  · exact .inl hn
  · exact .inr ⟨g, cap, cur, rfl, hb, (hbl g (Array.getElem?_eq_some_iff.1 hgg).1 (fun e => hfar (by rw [← e]; rfl))).trans hgg, rest⟩

theorem inR_has {s : Int} {ns : List ByteArray} : ∀ l, inR s ns l = true → ∃ e ∈ l, isB ns e = true
  | [], h => by simp [inR] at h
  | e :: l, h => by
    rw [inR] at h
    split at h
    · rename_i hi
      exact ⟨e, by simp, hi⟩
    · split at h
      · cases h
      · obtain ⟨x, hx, hi⟩ := inR_has l h
        exact ⟨x, by simp [hx], hi⟩

theorem drop_nil {p : Ent → Bool} : ∀ l : List Ent, l.dropWhile p = [] → ∀ x ∈ l, p x = true
  | [], _, x, hx => by cases hx
  | y :: l, h, x, hx => by
    rw [List.dropWhile_cons] at h
    split at h
    · rename_i hy
      rcases List.mem_cons.1 hx with rfl | hx
      · exact hy
      · exact drop_nil l h x hx
    · cases h
theorem back_law {s : Int} {nm : ByteArray} {es : List Ent} (h : inB s [nm] es = true) : topB (popW (backP [nm]) es) = true ∧ (topE (popW (backP [nm]) es)).name = nm ∧ (topE (popW (backP [nm]) es)).space = 0 := by
  obtain ⟨x, hx, hi⟩ := inR_has _ h
  unfold popW
  obtain ⟨y, r, hyr⟩ : ∃ y r, es.reverse.dropWhile (backP [nm]) = y :: r := by
    cases hd : es.reverse.dropWhile (backP [nm]) with
    | nil =>
      have := drop_nil _ hd x (by simpa using hx)
      unfold backP at this
      rw [hi] at this
      cases this
    | cons y r => exact ⟨y, r, rfl⟩
  have hy : isB [nm] y = true := by
    have := List.head?_dropWhile_not (backP [nm]) es.reverse
    rw [hyr] at this
    simp at this
    unfold backP at this
    simpa using this
  rw [hyr]
  have ht : topE (y :: r).reverse = y := by
    unfold topE
    rw [List.reverse_cons, List.getLast?_append]
    simp
  have hb : topB (y :: r).reverse = true := by
    unfold topB
    simp
  rw [ht]
  refine ⟨hb, ?_⟩
  unfold isB memN at hy
  simp at hy
  exact ⟨hy.2, hy.1⟩

theorem new_w (w : World) : Calls Try.prog 8 #[] w fun e w' => e = .returned (ptr w.heap.size) ∧ StkAt w' w.heap.size w.heap.size (.slice none 0 0) [] ∧ Below w.heap.size w w' := by
  go_enter Try.func8, Try.ntmps8
  go_wp2
  go_ret
  exact ⟨rfl, ⟨Blk.new w 59 _, Nat.le_refl _, World.ownsRow_nil _ _ _ _, by simp⟩, (Below.refl _ w).alloc (Nat.le_refl _) _⟩
theorem StkAt.low {w : World} {B B' lb : Nat} {v : Value} {es : List Ent} (h : StkAt w B lb v es) (hB : B' ≤ B) : StkAt w B' lb v es := ⟨h.1, Nat.le_trans hB h.2.1, own_mono h.2.2.1 hB, h.2.2.2⟩

end Go.Proofs.Ytdagjpiakbfjpaa
