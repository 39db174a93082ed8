/-
  rectolaw10.four, walked: it returns true.
  Written by an AI agent.
-/
import Derived.Test.YtjopfgdgmniigaaCut
namespace Go.Proofs.Ytjopfgdgmniigaa
open Go.RowKit Go.Maps

def fourE (k : Nat) : Ent := ⟨false, (k : Int), ⟨#[98]⟩, []⟩
def fourL : Nat → List Ent
  | 0 => []
  | k + 1 => addL (fourL k) (fourE k)

theorem addL_length (es : List Ent) (e : Ent) : (addL es e).length ≤ es.length + 1 := by
  unfold addL
  split
  · rw [List.length_append, List.length_eraseIdx]
    split <;> simp
  · simp
theorem fourL_length (k : Nat) : (fourL k).length ≤ k := by
  induction k with
  | zero => simp [fourL]
  | succ k ih =>
    have := addL_length (fourL k) (fourE k)
    unfold fourL
    omega
theorem fourL_4 : fourL 4 = [fourE 1, fourE 2, fourE 3] := by rfl
theorem four_cut : cutL [2] [fourE 1, fourE 2, fourE 3] = [2] := by rfl
theorem four_find : findE 0 [fourE 1, fourE 2, fourE 3] = -1 := by rfl

theorem AtrsAt.nil (w : World) (B : Nat) : AtrsAt w B (.slice none 0 0) [] := ⟨none, 0, rfl, Nat.le_refl _, by simp, by simp, fun h => absurd rfl h⟩
theorem ints_one (w : World) (x : Int) : IntsAt (w.alloc (.cells #[i64 x] 3)) (.slice (some ⟨w.heap.size, 0, none⟩) 1 1) [x] := by
  refine ⟨_, 1, rfl, by simp, fun _ => ⟨w.heap.size, 0, rfl, by simp, fun k y hy => ?_⟩⟩
  have hb := Blk.new w 3 #[i64 x]
  match k, hy with
  | 0, hy => exact hb.cell 0 _ (by simp at hy; subst hy; rfl)

/-- All, with its length. -/
theorem all_n {w : World} {B lb : Nat} {es : List Ent} {n : Nat} (h : ListIs w B lb 63 33 es) (hn : es.length = n) : Calls Try.prog 14 #[ptr lb] w fun e w' =>
    ∃ ad c ps, e = .returned (.slice ad n c) ∧ RowE w' w.heap.size 33 (.slice ad n c) ps ∧ ps.map (·.1) = es ∧ Below w.heap.size w w' := by
  refine (all_any h).mono ?_
  rintro e w' ⟨v, ps, rfl, hrow, hps, hb⟩
  have hl : ps.length = n := by rw [← hn, ← hps]; simp
  obtain ⟨ad, c, rfl⟩ := own_slice hrow.1
  rw [hl] at hrow ⊢
  exact ⟨ad, c, ps, rfl, hrow, hps, hb⟩
theorem cut_n {w : World} {B lb : Nat} {es : List Ent} {vo : Value} {opn xs : List Int} (h : ListIs w B lb 63 33 es) (ho : IntsAt w vo opn) (hx : cutL opn es = xs) : Calls Try.prog 19 #[ptr lb, vo] w (CutIt xs w) := by
  subst hx
  exact cut_any h ho
theorem find_n {w : World} {B lb : Nat} {es : List Ent} (h : ListIs w B lb 63 33 es) (id : Int) {r : Int} (hr : findE id es = r) : Calls Try.prog 12 #[ptr lb, i64 id] w fun e w' => e = .returned (i64 r) ∧ Below w.heap.size w w' := by
  subst hr
  exact find_any h id
theorem ints_true {w : World} {va vb : Value} {xs : List Int} (ha : IntsAt w va xs) (hb : IntsAt w vb xs) :
    Calls Try.prog 18 #[va, vb] w fun e w' => e = .returned (.bool true) ∧ ∃ n, w.drewN n = w' := by
  have := ints_any ha hb
  rw [decide_eq_true rfl] at this
  exact this
theorem below_of_fr {B : Nat} {T : Obj → Bool} {a w : World} (h : Fr B T a w) (hB : B ≤ a.heap.size) : Below B a w := ⟨h.os, h.tape, h.output, h.size, fun k hk => h.block k (Nat.lt_of_lt_of_le hk hB) (.inl hk)⟩

theorem four_up {wr w2 w3 : World} {B lb : Nat} {es : List Ent} {o o' : Obj} (h : ListIs wr B lb 63 33 es) (h2 : Below wr.heap.size wr w2) (h3 : Below (w2.alloc o).heap.size (w2.alloc o) w3) (n : Nat) : ListIs ((w3.alloc o').drewN n) B lb 63 33 es :=
  ((((h.below h2).below ((Below.refl _ w2).alloc (Nat.le_refl _) o)).below h3).below ((Below.refl _ w3).alloc (Nat.le_refl _) o')).drewN n
theorem RowE.first {w : World} {B : Nat} {ad : Option Addr} {n c : Nat} {ps : List (Ent × Value)} {e : Ent} {es : List Ent} (h : RowE w B 33 (.slice ad n c) ps) (hp : ps.map (·.1) = e :: es) :
    ∃ g, ad = some ⟨g, 0, none⟩ ∧ g < w.heap.size ∧ w.cell? ⟨g, 1, none⟩ = some (i64 e.id) := by
  obtain ⟨ad', c', he, _, _, hr⟩ := h.form
  simp only [Value.slice.injEq] at he
  cases ps with
  | nil => simp at hp
  | cons p r =>
    obtain ⟨g, ha, _, hg, hc⟩ := hr (by simp)
    simp only [List.map_cons, List.cons.injEq] at hp
    have := (hc 0 p rfl).2.1
    rw [hp.1] at this
    exact ⟨g, he.1.trans ha, hg, by simpa using this⟩

set_option maxHeartbeats 4000000 in
theorem four_any (w : World) : Calls Try.prog 10 #[] w fun e w' => e = .returned (.bool true) ∧ Below w.heap.size w w' := by
  go_enter Try.func10, Try.ntmps10
  go_wp2_with (first | (go_at_call 9; (with_reducible refine (new_any _).mono ?_); rintro e w1 ⟨rfl, hl, hb⟩; have H1 := Lib.hid (And.intro hl hb); clear hl hb))
  go_loopw [2] (fun i wr => ∃ k : Nat, k ≤ 4 ∧ i = i64 k ∧ Hid (ListIs wr w.heap.size w.heap.size 63 33 (fourL k)) ∧ Below w.heap.size w wr) (fun i _ => 4 - (intOf i).toNat)
  case atStart => exact ⟨0, by omega, rfl, Lib.hid H1.out.1, H1.out.2⟩
  case round =>
    obtain ⟨k, hk, rfl, HK, hbel⟩ := hrel
    have HBE := Lib.hid hbel
    clear hbel
    by_cases hlt : k < 4
    · go_wp2_with (first | (go_at_call 22; (with_reducible refine (add_ok (l := []) HK.out (by have := fourL_length k; omega) (AtrsAt.nil _ _) (by unfold wrongB; simp)).mono ?_); rintro e w2 ⟨rfl, hl2, hf2⟩; have H2 := Lib.hid (And.intro hl2 hf2); clear hl2 hf2))
      go_roundw
      case rel => exact ⟨k + 1, by omega, by go_num, Lib.hid H2.out.1, HBE.out.trans (below_of_fr H2.out.2 HBE.out.size)⟩
      case measure => simp [intOf]; omega
    · have hk4 : k = 4 := by omega
      subst hk4
      have hl := HK.out
      rw [fourL_4] at hl
      have HL := Lib.hid hl
      clear hl
      go_wp2_with (first
        | (go_at_call 14; (with_reducible refine (all_n (n := 3) HL.out rfl).mono ?_); rintro e w2 ⟨ad, c, ps, rfl, hrow, hps, hb2⟩; obtain ⟨g, had, hg, hc1⟩ := RowE.first hrow hps; subst had; have hc2 : w2.cell? ⟨g, 1, none⟩ = some (i64 1) := hc1; clear hc1; have H2 := Lib.hid hb2; clear hrow hps hb2)
        | (go_at_call 19; (with_reducible refine (cut_n ((HL.out.below H2.out).below ((Below.refl _ w2).alloc (Nat.le_refl _) _)) (ints_one w2 2) four_cut).mono ?_); rintro e w3 ⟨v3, rfl, hi3, hb3⟩; have H3 := Lib.hid (And.intro hi3 hb3); clear hi3 hb3)
        | (go_at_call 18; (with_reducible refine (ints_true (H3.out.1.below ((Below.refl _ w3).alloc (Nat.le_refl _) _)) (ints_one w3 2)).mono ?_); rintro e w4 ⟨rfl, n4, rfl⟩)
        | (go_at_call 12; (with_reducible refine (find_n (four_up HL.out H2.out H3.out.2 n4) 0 four_find).mono ?_); rintro e w5 ⟨rfl, hb5⟩; have H5 := Lib.hid hb5; clear hb5))
      go_ret
      have b1 := HBE.out.trans (H2.out.mono HBE.out.size)
      have b2 := (b1.alloc b1.size (.cells #[i64 2] 3)).trans (H3.out.2.mono (Nat.le_trans b1.size (by simp)))
      have b3 := below_drewN (b2.alloc b2.size (.cells #[i64 2] 3)) n4
      exact ⟨rfl, b3.trans (H5.out.mono b3.size)⟩

end Go.Proofs.Ytjopfgdgmniigaa
