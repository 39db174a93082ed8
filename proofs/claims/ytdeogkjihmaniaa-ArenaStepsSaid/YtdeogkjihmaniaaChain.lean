/-
  Who is below whom: chains of parents. Plain lists of numbers.
  Written by an AI agent.
-/
import Derived.Test.YtdeogkjihmaniaaPut
namespace Go.Proofs.Ytdeogkjihmaniaa

/-- From x up, n steps at most: is t met? -/
def upF (ps : List Int) : Nat → Int → Int → Bool
  | 0, x, t => decide (x = t)
  | n + 1, x, t => if x = t then true else if x < 0 then false else upF ps n (ps.getD x.toNat (-1)) t

/-- x is t, or below it. -/
inductive Und (ps : List Int) (t : Nat) : Nat → Prop
  | here : Und ps t t
  | up {x p : Nat} : ps[x]? = some (p : Int) → Und ps t p → Und ps t x

/-- Parents are nodes, and chains of them end. -/
structure PGood (ps : List Int) : Prop where
  rng : ∀ (k : Nat) (q : Int), ps[k]? = some q → q = -1 ∨ ∃ p : Nat, q = p ∧ p < ps.length
  rank : ∃ r : Nat → Nat, ∀ (k p : Nat), ps[k]? = some (p : Int) → r p < r k

theorem countP_lt {α : Type} (l : List α) (p q : α → Bool) (h : ∀ x ∈ l, p x = true → q x = true) (x0 : α) (h0 : x0 ∈ l) (hq : q x0 = true) (hp : p x0 = false) : l.countP p < l.countP q := by
  induction l with
  | nil => cases h0
  | cons y r ih =>
    have hle : r.countP p ≤ r.countP q := List.countP_mono_left (fun x hx => h x (by simp [hx]))
    rw [List.countP_cons, List.countP_cons]
    rcases List.mem_cons.1 h0 with rfl | h0
    · rw [hq, hp]; simp; omega
    · have := ih (fun x hx => h x (by simp [hx])) h0
      have hy := h y (by simp)
      cases hpy : p y
      · simp only [Bool.false_eq_true, if_false]; omega
      · rw [hy hpy]; simp; omega

theorem PGood.bounded {ps : List Int} (h : PGood ps) : ∃ r : Nat → Nat, (∀ (k p : Nat), ps[k]? = some (p : Int) → r p < r k) ∧ ∀ k, k < ps.length → r k < ps.length := by
  obtain ⟨r, hr⟩ := h.rank
  refine ⟨fun k => (List.range ps.length).countP fun j => decide (r j < r k), fun k p hk => ?_, fun k hk => ?_⟩
  · have hlt := hr k p hk
    have hp : p < ps.length := by
      rcases h.rng k p hk with h1 | ⟨q, h1, h2⟩
      · omega
      · omega
    exact countP_lt _ _ _ (fun x _ hx => by simp at hx ⊢; omega) p (List.mem_range.2 hp) (by simpa using hlt) (by simp)
  · have := countP_lt (List.range ps.length) (fun j => decide (r j < r k)) (fun _ => true) (fun _ _ _ => rfl) k (List.mem_range.2 hk) rfl (by simp)
    simpa using this

theorem upF_neg (ps : List Int) (t : Nat) : ∀ n, upF ps n (-1) t = false
  | 0 => by simp [upF]
  | n + 1 => by
    unfold upF
    rw [if_neg (by omega), if_pos (by omega)]

theorem upF_iff {ps : List Int} {r : Nat → Nat} (h : PGood ps) (hr : ∀ (k p : Nat), ps[k]? = some (p : Int) → r p < r k) : ∀ (n x : Nat), x < ps.length → r x < n → ∀ t : Nat, (upF ps n x t = true ↔ Und ps t x)
  | 0, x, _, hn, _ => by omega
  | n + 1, x, hx, hn, t => by
    unfold upF
    by_cases he : (x : Int) = t
    · rw [if_pos he]
      have : x = t := by omega
      subst this
      exact ⟨fun _ => .here, fun _ => rfl⟩
    · rw [if_neg he, if_neg (by omega)]
      have hg : ps[x]? = some ps[x] := List.getElem?_eq_getElem hx
      have hd : ps.getD ((x : Int).toNat) (-1) = ps[x] := by
        rw [List.getD_eq_getElem?_getD, Int.toNat_natCast, hg]; rfl
      rw [hd]
      rcases h.rng x _ hg with h1 | ⟨p, h1, h2⟩
      · rw [h1, upF_neg]
        refine ⟨fun h => (by cases h), fun hu => ?_⟩
        cases hu with
        | here => omega
        | up hq _ => rw [hg, h1] at hq; injection hq; omega
      · rw [h1] at hg ⊢
        have := hr x p hg
        rw [upF_iff h hr n p h2 (by omega) t]
        refine ⟨fun hu => .up hg hu, fun hu => ?_⟩
        cases hu with
        | here => omega
        | up hq hu =>
          rw [hg] at hq
          injection hq with hq
          obtain rfl := Int.ofNat.inj hq
          exact hu

def und (ps : List Int) (x t : Int) : Bool := upF ps ps.length x t
theorem und_iff {ps : List Int} (h : PGood ps) {x t : Nat} (hx : x < ps.length) : und ps x t = true ↔ Und ps t x := by
  obtain ⟨r, hr, hb⟩ := h.bounded
  exact upF_iff h hr ps.length x hx (hb x hx) t

open Classical in
theorem PGood.put {ps : List Int} {id p : Nat} (h : PGood ps) (hid : id < ps.length) (hp : p < ps.length) (hn : ¬ Und ps id p) : PGood (ps.set id (p : Int)) := by
  obtain ⟨r, hr⟩ := h.rank
  refine ⟨fun k q hk => ?_, fun x => if Und ps id x then r x + r p + 1 else r x, fun k q hk => ?_⟩
  · rw [List.getElem?_set] at hk
    rw [List.length_set]
    split at hk
    · rename_i he
      subst he
      injection hk with hk
      exact .inr ⟨p, hk.symm, hp⟩
    · exact h.rng k q hk
  · rw [List.getElem?_set] at hk
    show (if Und ps id q then r q + r p + 1 else r q) < (if Und ps id k then r k + r p + 1 else r k)
    by_cases hik : id = k
    · subst hik
      simp only [hid, if_true] at hk
      injection hk with hk
      obtain rfl : p = q := Int.ofNat.inj hk
      rw [if_neg hn, if_pos .here]
      omega
    · rw [if_neg hik] at hk
      have h1 := hr k q hk
      by_cases hu : Und ps id k
      · rw [if_pos hu]
        have : Und ps id q := by
          cases hu with
          | here => omega
          | up hq hu =>
            rw [hk] at hq
            injection hq with hq
            obtain rfl := Int.ofNat.inj hq
            exact hu
        rw [if_pos this]; omega
      · rw [if_neg hu, if_neg (fun hq => hu (.up hk hq))]
        exact h1

theorem PGood.loosen {ps : List Int} (id : Nat) (h : PGood ps) : PGood (ps.set id (-1)) := by
  obtain ⟨r, hr⟩ := h.rank
  refine ⟨fun k q hk => ?_, r, fun k q hk => ?_⟩
  · rw [List.length_set]
    rw [List.getElem?_set] at hk
    split at hk
    · split at hk
      · injection hk with hk; exact .inl hk.symm
      · cases hk
    · exact h.rng k q hk
  · rw [List.getElem?_set] at hk
    split at hk
    · split at hk
      · injection hk with hk; omega
      · cases hk
    · exact hr k q hk

theorem PGood.add {ps : List Int} (h : PGood ps) : PGood (ps ++ [-1]) := by
  obtain ⟨r, hr⟩ := h.rank
  refine ⟨fun k q hk => ?_, r, fun k q hk => ?_⟩
  · rw [List.length_append]
    rw [List.getElem?_append] at hk
    split at hk
    · rcases h.rng k q hk with h1 | ⟨p, h1, h2⟩
      · exact .inl h1
      · exact .inr ⟨p, h1, by simp; omega⟩
    · left
      have : k - ps.length = 0 := by
        cases hz : k - ps.length with
        | zero => rfl
        | succ m => rw [hz] at hk; simp at hk
      rw [this] at hk
      simpa using hk.symm
  · rw [List.getElem?_append] at hk
    split at hk
    · exact hr k q hk
    · have : k - ps.length = 0 := by
        cases hz : k - ps.length with
        | zero => rfl
        | succ m => rw [hz] at hk; simp at hk
      rw [this] at hk
      simp at hk

theorem PGood.root : PGood [-1] := by
  refine ⟨fun k q hk => ?_, fun _ => 0, fun k q hk => ?_⟩
  · cases k with
    | zero => simp at hk; exact .inl hk.symm
    | succ k => simp at hk
  · cases k with
    | zero => simp at hk
    | succ k => simp at hk

end Go.Proofs.Ytdeogkjihmaniaa
