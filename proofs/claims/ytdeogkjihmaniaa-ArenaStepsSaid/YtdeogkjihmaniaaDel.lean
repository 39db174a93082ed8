/-
  slices.Delete of one number, walked.
  Written by an AI agent.
-/
import Derived.Test.YtdeogkjihmaniaaFree
import Derived.Laws.IdiomCopy
namespace Go.Proofs.Ytdeogkjihmaniaa
open Go.RowKit

theorem own_spare {w : World} {B g n cap j : Nat} {xs : List Value} (h : w.ownsRow B 3 1 (.slice (some ⟨g, 0, none⟩) n cap) n xs) (hj : j < cap) : ∃ u, w.cell? ⟨g, j, none⟩ = some u := by
  rcases h.2 with ⟨he, _⟩ | ⟨g', cap', cur, he, hb, hg, hnc, hm, hsz, hx⟩
  · cases he
  · simp only [Value.slice.injEq, Option.some.injEq, Addr.mk.injEq, and_true] at he
    obtain ⟨rfl, _, rfl⟩ := he
    rw [cell_of_row w g j cur 3 (0, 0) hg]
    exact ⟨_, Array.getElem?_eq_getElem (by omega)⟩

theorem clear_one (w : World) (g o c m : Nat) (ty : TypeId) (hm : m = 1) (hc : (w.cell? ⟨g, o, none⟩).isSome = true) (hf : w.frozen? ⟨g, o, none⟩ = false) :
    (Builtin.clear_ #[40] ty #[.slice (some ⟨g, o, none⟩) m c]).run Try.prog w = .ok (.tuple #[]) (w.setCells g o [.int .i64 0]) := by
  subst hm
  have hst := run_storeCells_cells (P := Try.prog) g o [.int .i64 0] 0 w (fun j hj => by (obtain rfl : j = 0 := by simpa using hj); simpa using hc) (fun j hj => by (obtain rfl : j = 0 := by simpa using hj); simpa using hf) (by intro v hv; simp at hv; subst hv; rfl)
  simp only [Nat.add_zero] at hst
  have hz : (Builtin.zeroCells #[.int .i64 0] 1).toList = [.int .i64 0] := by kernel_rfl
  simp [Builtin.clear_, run_underlying Try.underlying40, Value.cells, hz, hst]

theorem past_end {g cap n B o : Nat} {xs : List Value} {v : Value} {w : World} (h : w.ownsRow B 3 1 (.slice (some ⟨g, 0, none⟩) n cap) n xs) (ho : n ≤ o) :
    (w.setCells g o [v]).ownsRow B 3 1 (.slice (some ⟨g, 0, none⟩) n cap) n xs ∧ w.grownBy (w.setCells g o [v]) (some g) := by
  refine ⟨?_, (h.stored o v).2⟩
  have := (h.stored o v).1
  rw [List.set_eq_of_length_le (by have := own_length1 h; omega)] at this
  exact this

def DelIt (B g n cap : Nat) (xs : List Value) (w : World) (e : Ending) (w' : World) : Prop :=
  e = .returned (.slice (some ⟨g, 0, none⟩) n cap) ∧ w'.ownsRow B 3 1 (.slice (some ⟨g, 0, none⟩) n cap) n xs ∧ w.grownBy w' (some g)

set_option maxHeartbeats 2000000 in
theorem delete_one {w : World} {B g cap a k : Nat} {A C : List Int} {x : Int} (hown : w.ownsRow B 3 1 (.slice (some ⟨g, 0, none⟩) (a + 1 + k) cap) (a + 1 + k) ((A ++ x :: C).map i64)) (hA : A.length = a) (hC : C.length = k) (_hl : a + 1 + k ≤ 1000000) :
    Calls Try.prog 50 #[.slice (some ⟨g, 0, none⟩) (a + 1 + k) cap, i64 a, .int .i64 ((a : Int) + 1)] w (DelIt B g (a + k) cap ((A ++ C).map i64) w) := by
  have hcap : a + 1 + k ≤ cap ∧ cap ≤ 9223372036854775807 := by
    rcases hown.2 with ⟨he, _⟩ | ⟨g', cap', cur, he, _, _, hnc, hm, _, _⟩
    · cases he
    · simp only [Value.slice.injEq] at he
      unfold maxLen at hm
      omega
  obtain ⟨hc1, hc2⟩ := hcap
  have hcut : w.ownsRow B 3 1 (.slice (some ⟨g, 0, none⟩) a cap) a (A.map i64) := by
    have := own_short1 hown (k := a) (by omega)
    rw [List.map_append, List.take_append_of_le_length (by simp; omega), List.take_of_length_le (by simp; omega)] at this
    exact this
  have hnews : ∀ (j : Nat) (u : Value), (C.map i64)[j]? = some u → w.cell? ⟨g, a + 1 + j, none⟩ = some u := by
    intro j u hu
    have hj : j < k := by
      have := (List.getElem?_eq_some_iff.1 hu).1
      simpa [hC] using this
    rw [hown.cellAt (a + 1 + j) (by omega)]
    rw [show A ++ x :: C = (A ++ [x]) ++ C by simp, List.map_append, List.getElem?_append_right (by simp; omega)]
    rw [show a + 1 + j - ((A ++ [x]).map i64).length = j by simp; omega]
    exact hu
  have HC := Lib.hid (And.intro hcut hnews)
  have HL := Lib.hid (And.intro hA hC)
  have hne : ((a : Int) == (a : Int) + 1) = false := by simp; omega
  obtain ⟨i0, hi, hz0, hz1, hz2⟩ := info_parts info3
  clear hown hcut hnews hA hC
  go_enter Try.func50, Try.ntmps50
  go_wp2_with fail
  have s0 : a ≤ cap := by omega
  have s1 : (a : Int) ≤ (cap : Int) := by omega
  have s2 : (0 : Int) ≤ (a : Int) + 1 := by omega
  have s3 : (a : Int) + 1 ≤ (a : Int) + 1 + (k : Int) := by omega
  have s4 : ((a : Int) + 1).toNat = a + 1 := by omega
  have s5 : a + 1 ≤ a + 1 + k := by omega
  have s6 : a + 1 ≤ cap := by omega
  go_still_tail 6, (by kernel_rfl)
  change wpList _ _ _ _ _ w.drew
  go_wp2_with (first
    | (at_builtin; refine wpList_append_fits_any _ rfl (.tmp 22) (.tmp 25) 40 rfl B 3 i0 1 Try.underlying40 hi hz1 g a cap (A.map i64) rfl HC.out.1 _ _ _ (C.map i64) rfl ?c0 ?c1 ?c2 (ints_one C) ?c4 ?_))
  case c0 => simp [HL.out.2]
  case c2.inl =>
    intro j u hu
    have hk0 : k = 0 := by omega
    have hC0 : C = [] := List.length_eq_zero_iff.1 (by rw [HL.out.2, hk0])
    rw [hC0] at hu
    simp at hu
  case c2.inr =>
    intro j u hu
    exact HC.out.2 j (i64 u) (by rw [List.getElem?_map, hu]; rfl)
  case c4 => omega
  all_goals (
    intro w2 hown2 hgrow
    have hclr := fun c => clear_one w2 g (a + k) c (a + 1 + k - (a + k)) 0 (by omega) (by
      obtain ⟨u, hu⟩ := own_spare hown2 (j := a + k) (by omega)
      rw [hu]; rfl) (hown2.frozenAt _)
    have s7 : ((a : Int) + (k : Int)) ≤ (a : Int) + 1 + (k : Int) := by omega
    have HO := Lib.hid (And.intro hown2 hgrow)
    clear hown2 hgrow
    go_wp2)
  all_goals go_ret
  all_goals (try (have hq : cap = a + 1 := by assumption
                  subst hq))
  all_goals (
    obtain ⟨h1, h2⟩ := past_end (v := .int .i64 0) HO.out.1 (o := a + k) (Nat.le_refl _)
    exact ⟨rfl, by rw [List.map_append]; exact h1, ⟨h2.os.trans HO.out.2.os, h2.tape.trans HO.out.2.tape, h2.output.trans HO.out.2.output, Nat.le_trans HO.out.2.size h2.size, fun i hi hne => (h2.block i (Nat.lt_of_lt_of_le hi HO.out.2.size) hne).trans (HO.out.2.block i hi hne)⟩⟩)
end Go.Proofs.Ytdeogkjihmaniaa
