/-
  slices.Delete of one entry, walked.
  Written by an AI agent.
-/
import Derived.Test.YtjopfgdgmniigaaPut
import Derived.OwnWalk
import Derived.Laws.IdiomCopy
import Derived.StillTailTactics
namespace Go.Proofs.Ytjopfgdgmniigaa
open Go.RowKit Go.Maps

/-- A row, cut to its first entries. -/
theorem own_cut {w : World} {B g n cap k : Nat} {xs : List Value} (h : w.ownsRow B 33 4 (.slice (some ⟨g, 0, none⟩) n cap) n xs) (hk : k ≤ n) : w.ownsRow B 33 4 (.slice (some ⟨g, 0, none⟩) k cap) k (xs.take (k * 4)) := by
  rcases h.2 with ⟨he, _⟩ | ⟨g', cap', cur, he, hb, hg, hnc, hm, hsz, hx⟩
  · cases he
  · simp only [Value.slice.injEq, Option.some.injEq, Addr.mk.injEq, and_true] at he
    obtain ⟨rfl, _, rfl⟩ := he
    refine ⟨by rw [List.length_take, h.1]; omega, .inr ⟨g, cap, cur, rfl, hb, hg, by omega, hm, hsz, ?_⟩⟩
    rw [← hx, List.take_take, Nat.min_eq_left (by omega)]

theorem flatP_one (ps : List (Ent × Value)) (h : ∀ p ∈ ps, p.2.oneCell' = true) : ∀ u ∈ flatP ps, u.oneCell' = true := by
  induction ps with
  | nil => simp [flatP]
  | cons p r ih =>
    intro u hu
    simp only [flatP, List.mem_cons] at hu
    rcases hu with rfl | rfl | rfl | rfl | hu
    · rfl
    · rfl
    · rfl
    · exact h p (by simp)
    · exact ih (fun q hq => h q (by simp [hq])) u hu

theorem own_spare {w : World} {B g n cap j : Nat} {xs : List Value} (h : w.ownsRow B 33 4 (.slice (some ⟨g, 0, none⟩) n cap) n xs) (hj : j < cap * 4) : ∃ u, w.cell? ⟨g, j, none⟩ = some u := by
  rcases h.2 with ⟨he, _⟩ | ⟨g', cap', cur, he, hb, hg, hnc, hm, hsz, hx⟩
  · cases he
  · simp only [Value.slice.injEq, Option.some.injEq, Addr.mk.injEq, and_true] at he
    obtain ⟨rfl, _, rfl⟩ := he
    rw [cell_of_row w g j cur 33 (0, 0) hg]
    exact ⟨_, Array.getElem?_eq_getElem (by omega)⟩

theorem clear_one (w : World) (g o c m : Nat) (ty : TypeId) (hm : m = 1) (hc : ∀ j, j < 4 → (w.cell? ⟨g, o + j, none⟩).isSome = true) (hf : ∀ j, j < 4 → w.frozen? ⟨g, o + j, none⟩ = false) :
    (Builtin.clear_ #[38] ty #[.slice (some ⟨g, o, none⟩) m c]).run Try.prog w = .ok (.tuple #[]) (w.setCells g o [.bool false, .int .i64 0, .string ⟨#[]⟩, .slice none 0 0]) := by
  subst hm
  have hst := run_storeCells_cells (P := Try.prog) g o [.bool false, .int .i64 0, .string ⟨#[]⟩, .slice none 0 0] 0 w (by simpa using hc) (by simpa using hf) (by intro v hv; simp at hv; rcases hv with rfl | rfl | rfl | rfl <;> rfl)
  simp only [Nat.add_zero] at hst
  have hz : (Builtin.zeroCells #[.bool false, .int .i64 0, .string ⟨#[]⟩, .slice none 0 0] 1).toList = [.bool false, .int .i64 0, .string ⟨#[]⟩, .slice none 0 0] := by kernel_rfl
  simp [Builtin.clear_, run_underlying Try.underlying38, Value.cells, hz, hst]

theorem past_end {g cap n B : Nat} {xs : List Value} : ∀ (vs : List Value) {w : World} {o : Nat}, w.ownsRow B 33 4 (.slice (some ⟨g, 0, none⟩) n cap) n xs → n * 4 ≤ o →
    (w.setCells g o vs).ownsRow B 33 4 (.slice (some ⟨g, 0, none⟩) n cap) n xs ∧ w.grownBy (w.setCells g o vs) (some g)
  | [], w, o, h, _ => ⟨h, World.grownBy.refl _ _⟩
  | v :: r, w, o, h, ho => by
    have h1 : (w.setCell ⟨g, o, none⟩ v).ownsRow B 33 4 (.slice (some ⟨g, 0, none⟩) n cap) n xs := by
      rcases h.2 with ⟨he, _⟩ | ⟨g', cap', cur, he, hb, hg, hnc, hm, hsz, hx⟩
      · cases he
      · simp only [Value.slice.injEq, Option.some.injEq, Addr.mk.injEq, and_true] at he
        obtain ⟨rfl, _, rfl⟩ := he
        refine ⟨h.1, .inr ⟨g, cap, cur.setIfInBounds o v, rfl, hb, Blk.put hg o v, hnc, hm, by simpa using hsz, ?_⟩⟩
        rw [← hx, Array.toList_setIfInBounds, List.take_set_of_le (by omega)]
    obtain ⟨h2, h3⟩ := past_end r h1 (o := o + 1) (by omega)
    refine ⟨h2, ⟨h3.os, h3.tape, h3.output, ?_, fun i hi hne => ?_⟩⟩
    · have := h3.size
      rw [World.size_setCell] at this
      exact this
    · have hne' : i ≠ g := fun e => hne (by rw [e])
      exact (h3.block i (by simpa using hi) hne).trans (Below.heap_setCell w ⟨g, o, none⟩ v i hne')

def DelIt (B g n cap : Nat) (xs : List Value) (w : World) (e : Ending) (w' : World) : Prop :=
  e = .returned (.slice (some ⟨g, 0, none⟩) n cap) ∧ w'.ownsRow B 33 4 (.slice (some ⟨g, 0, none⟩) n cap) n xs ∧ w.grownBy w' (some g)

set_option maxHeartbeats 2000000 in
theorem delete_one {w : World} {B g cap a k : Nat} {A C : List (Ent × Value)} {p : Ent × Value} (hown : w.ownsRow B 33 4 (.slice (some ⟨g, 0, none⟩) (a + 1 + k) cap) (a + 1 + k) (flatP (A ++ p :: C))) (hA : A.length = a) (hC : C.length = k) (hl : a + 1 + k ≤ 1000000) (h1 : ∀ p ∈ C, p.2.oneCell' = true) :
    Calls Try.prog 43 #[.slice (some ⟨g, 0, none⟩) (a + 1 + k) cap, i64 a, .int .i64 ((a : Int) + 1)] w (DelIt B g (a + k) cap (flatP (A ++ C)) w) := by
  have hcap : a + 1 + k ≤ cap ∧ cap ≤ 9223372036854775807 := by
    rcases hown.2 with ⟨he, _⟩ | ⟨g', cap', cur, he, _, _, hnc, hm, _, _⟩
    · cases he
    · simp only [Value.slice.injEq] at he
      unfold maxLen at hm
      omega
  obtain ⟨hc1, hc2⟩ := hcap
  have hcut : w.ownsRow B 33 4 (.slice (some ⟨g, 0, none⟩) a cap) a (flatP A) := by
    have := own_cut hown (k := a) (by omega)
    rw [flatP_append, List.take_append_of_le_length (by rw [flatP_length, hA]; omega), List.take_of_length_le (by rw [flatP_length, hA]; omega)] at this
    exact this
  have hnews : ∀ (j : Nat) (u : Value), (flatP C)[j]? = some u → w.cell? ⟨g, (a + 1) * 4 + j, none⟩ = some u := by
    intro j u hu
    have hj : j < k * 4 := by
      have := (List.getElem?_eq_some_iff.1 hu).1
      rwa [flatP_length, hC] at this
    have hc := hown.cells (g := g) rfl ((a + 1) * 4 + j) u (by
      rw [show A ++ p :: C = (A ++ [p]) ++ C by simp, flatP_append, List.getElem?_append_right (by rw [flatP_length]; simp; omega), flatP_length]
      rw [show (a + 1) * 4 + j - (A ++ [p]).length * 4 = j by simp; omega]
      exact hu)
    have e : (⟨g, 0, none⟩ : Addr).add ((a + 1) * 4 + j) = ⟨g, (a + 1) * 4 + j, none⟩ := by unfold Addr.add; split <;> simp_all
    rw [e] at hc
    exact hc
  have HC := Lib.hid (And.intro hcut hnews)
  have HL := Lib.hid (And.intro hA hC)
  have hne : ((a : Int) == (a : Int) + 1) = false := by simp; omega
  obtain ⟨i0, hi, hz0, hz1, hz2⟩ := info_parts info33
  clear hown hcut hnews hA hC
  go_enter Try.func43, Try.ntmps43
  go_wp2_with fail
  have s0 : a ≤ cap := by omega
  have s1 : (a : Int) ≤ (cap : Int) := by omega
  have s2 : (0 : Int) ≤ (a : Int) + 1 := by omega
  have s3 : (a : Int) + 1 ≤ (a : Int) + 1 + (k : Int) := by omega
  have s4 : ((a : Int) + 1).toNat = a + 1 := by omega
  have s5 : a + 1 ≤ a + 1 + k := by omega
  have s6 : a + 1 ≤ cap := by omega
  go_still_tail 6, (by kernel_rfl)
  change wpList _ _ _ _ _ w.drew
  go_wp2_with (first
    | (at_builtin; refine wpList_append_fits_any _ rfl (.tmp 22) (.tmp 25) 38 rfl B 33 i0 4 Try.underlying38 hi hz1 g a cap (flatP A) rfl HC.out.1 _ _ _ (flatP C) rfl ?c0 ?c1 ?c2 (flatP_one C h1) ?c4 ?_))
  case c0 => rw [flatP_length, HL.out.2]
  case c2.inl =>
    intro j u hu
    have hk0 : k = 0 := by omega
    have hC0 : C = [] := List.length_eq_zero_iff.1 (by rw [HL.out.2, hk0])
    rw [hC0] at hu
    simp [flatP] at hu
  case c2.inr =>
    intro j u hu
    exact HC.out.2 j u hu
  case c4 => omega
  all_goals (
    intro w2 hown2 hgrow
    have hclr := fun c => clear_one w2 g ((a + k) * 4) c (a + 1 + k - (a + k)) 0 (by omega) (fun j hj => by
      obtain ⟨u, hu⟩ := own_spare hown2 (j := (a + k) * 4 + j) (by omega)
      rw [hu]; rfl) (fun j _ => hown2.frozenAt _)
    have s7 : ((a : Int) + (k : Int)) ≤ (a : Int) + 1 + (k : Int) := by omega
    have HO := Lib.hid (And.intro hown2 hgrow)
    clear hown2 hgrow
    go_wp2)
  all_goals go_ret
  all_goals (try (have hq : cap = a + 1 := by assumption
                  subst hq))
  all_goals (
    obtain ⟨h1, h2⟩ := past_end [.bool false, .int .i64 0, .string ⟨#[]⟩, .slice none 0 0] HO.out.1 (o := (a + k) * 4) (Nat.le_refl _)
    exact ⟨rfl, by rw [flatP_append]; exact h1, ⟨h2.os.trans HO.out.2.os, h2.tape.trans HO.out.2.tape, h2.output.trans HO.out.2.output, Nat.le_trans HO.out.2.size h2.size, fun i hi hne => (h2.block i (Nat.lt_of_lt_of_le hi HO.out.2.size) hne).trans (HO.out.2.block i hi hne)⟩⟩)
end Go.Proofs.Ytjopfgdgmniigaa
