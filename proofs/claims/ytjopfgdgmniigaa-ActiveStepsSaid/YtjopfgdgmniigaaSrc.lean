/-
  append from a source that may be nil; a row cut in two, its head and its tail, whatever its capacity.
  Written by an AI agent. No program is named here.
-/
import Derived.Test.YtjopfgdgmniigaaSplice
import Derived.Maps.AppendAt
import Derived.Laws.AppendOwnNone
import Derived.Lib.Hide
namespace Go.Proofs.Ytjopfgdgmniigaa
open Go.RowKit

/-- The source of an append: these cells lie there; nil is of no elements. -/
def Src (w : World) (ao : Option Addr) (m c : Nat) (news : List Value) : Prop := (ao = none → m = 0 ∧ c = 0) ∧ ∀ ad, ao = some ad → ∀ j u, news[j]? = some u → w.cell? (ad.add j) = some u
theorem Src.below {w w' : World} {ao : Option Addr} {m c : Nat} {news : List Value} (h : Src w ao m c news) (hb : Below w.heap.size w w') : Src w' ao m c news :=
  ⟨h.1, fun ad hd j u hu => by
    have := h.2 ad hd j u hu
    exact (hb.cell (World.block_lt_of_cell? _ _ this)).trans this⟩

theorem wpList_append_src {P : Program} {w : World} {ops : Array Oper} {rest : List Oper} {o : Oper} {a : Act} {Q : Exit → Act → World → Prop} (hgd : o.guard = none) (s x : Operand) (t : TypeId)
    (ho : o.op = .call { callee := .builtin .append, args := #[s, x], argTypes := #[t, t] })
    (base : Nat) (e : TypeId) (i : TypeInfo) (z : Value) (size bytes : Nat) (ht : P.underlying t = some (.slice e)) (hi : P.info? e = some i) (hz : i.zero = some z)
    (hsize : i.size = size) (hby : i.bytes = bytes) (hzs : z.cells.size = size) (hsz : 0 < size)
    (v : Value) (n : Nat) (xs : List Value) (hs : a.eval s = v) (hown : w.ownsRow base e size v n xs)
    (ao : Option Addr) (m c : Nat) (news : List Value) (hx : a.eval x = .slice ao m c) (hl : news.length = m * size) (hsrc : Src w ao m c news) (h1 : ∀ u ∈ news, u.oneCell' = true)
    (h63 : n + m ≤ maxLen) (hbytes : (n + m) * bytes ≤ 140737488355328) (hbase : base ≤ w.heap.size)
    (h : ∀ v' w', w'.ownsRow base e size v' (n + m) (xs ++ news) → w.grownBy w' v.ownBlock → (v'.ownBlock = v.ownBlock ∨ v'.ownBlock = some w.heap.size) → wpList P ops Q rest (a.put o.dst v') w') :
    wpList P ops Q (o :: rest) a w := by
  cases ao with
  | some ad => exact wpList_append_own_at w hgd s x t ho base e i z size bytes ht hi hz hsize hby hzs hsz v n xs hs hown ad m c news hx hl (hsrc.2 ad rfl) h1 h63 hbytes hbase (fun v' w' a1 a2 _ a4 => h v' w' a1 a2 a4)
  | none =>
    obtain ⟨rfl, rfl⟩ := hsrc.1 rfl
    have hnn : news = [] := List.eq_nil_of_length_eq_zero (by simpa using hl)
    subst hnn
    refine wpList_append_own_none hgd s x t ho base e i size ht hi v n xs hs hown hx ?_
    exact h v w (by simpa using hown) (World.grownBy.refl _ _) (.inl rfl)

theorem addr_add (g o j : Nat) : (⟨g, o, none⟩ : Addr).add j = ⟨g, o + j, none⟩ := by unfold Addr.add; split <;> simp_all

/-- 'x[:k]' and 'x[k:]' of a row of the call's own: what they are, and what lies there. -/
theorem own_cut2 {P : Program} {w : World} {t e : TypeId} {B n c size : Nat} {ad : Option Addr} {xs : List Value} (ht : P.underlying t = some (.slice (P.elem t))) (hsz : ∀ w, (sizeOf (P.elem t)).run P w = .ok size w)
    (h : w.ownsRow B e size (.slice ad n c) n xs) {k : Nat} {l : Int} (hl : l = (k : Int)) (hk : k ≤ n) :
    ((∀ w', (Instr.slice t (.slice ad n c) none (some (.int .i64 l)) none).run P w' = .ok (.slice ad k c) w') ∧ Src w ad k c (xs.take (k * size))) ∧
    ∃ ao cc, (∀ w', (Instr.slice t (.slice ad n c) (some (.int .i64 l)) none none).run P w' = .ok (.slice ao (n - k) cc) w') ∧ Src w ao (n - k) cc (xs.drop (k * size)) ∧ (k < n → ∃ g, g < w.heap.size ∧ ad = some ⟨g, 0, none⟩ ∧ ao = some ⟨g, k * size, none⟩) := by
  subst hl
  rcases h.2 with ⟨hv, h0⟩ | ⟨g, cap, cur, hv, hB, hg, hnc, hrest⟩
  · simp only [Value.slice.injEq] at hv
    obtain ⟨rfl, _, rfl⟩ := hv
    obtain rfl : k = 0 := by omega
    refine ⟨⟨fun w' => ?_, (fun _ => ⟨rfl, rfl⟩), (fun ad hd => by cases hd)⟩, none, 0, fun w' => ?_, ⟨(fun _ => ⟨by omega, rfl⟩), (fun ad hd => by cases hd)⟩, fun h => by omega⟩
    · rw [run_slice_h (P := P) w' t none n 0 ht .i64 ((0 : Nat) : Int) (by omega) (by omega), hsz]
      simp [Result.andThen, sliced]
    · rw [run_slice_l (P := P) w' t none n 0 ht .i64 ((0 : Nat) : Int) (by omega) (by omega), hsz]
      simp [Result.andThen, sliced]
  · simp only [Value.slice.injEq, true_and] at hv
    obtain ⟨rfl, rfl⟩ := hv
    have hread : ∀ j u, xs[j]? = some u → w.cell? ⟨g, j, none⟩ = some u := by
      intro j u hu
      have := h.cells (g := g) rfl j u hu
      rw [addr_add] at this
      simpa using this
    refine ⟨⟨fun w' => ?_, (fun hd => by cases hd), fun a hd j u hu => ?_⟩, if c = k then some ⟨g, 0, none⟩ else some ⟨g, k * size, none⟩, c - k, fun w' => ?_, ⟨(fun hd => by split at hd <;> cases hd), fun a hd j u hu => ?_⟩, fun hkn => ⟨g, (Array.getElem?_eq_some_iff.1 hg).1, rfl, by rw [if_neg (by omega)]⟩⟩
    · rw [run_slice_h (P := P) w' t _ n c ht .i64 (k : Int) (by omega) (by omega), hsz]
      simp [Result.andThen, sliced, addr_add]
    · obtain rfl := Option.some.inj hd
      rw [addr_add]
      simp only [Nat.zero_add]
      rw [List.getElem?_take] at hu
      split at hu
      · exact hread j u hu
      · cases hu
    · rw [run_slice_l (P := P) w' t _ n c ht .i64 (k : Int) (by omega) (by omega), hsz]
      simp [Result.andThen, sliced, addr_add]
    · rw [List.getElem?_drop] at hu
      have hj : k * size + j < xs.length := (List.getElem?_eq_some_iff.1 hu).1
      rw [h.1] at hj
      split at hd
      · rename_i hck
        exfalso
        have : k = n := by omega
        subst this
        omega
      · obtain rfl := Option.some.inj hd
        rw [addr_add]
        exact hread _ u hu
end Go.Proofs.Ytjopfgdgmniigaa
