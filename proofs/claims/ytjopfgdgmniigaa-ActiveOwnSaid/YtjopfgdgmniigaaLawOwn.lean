/-
  rectolaw10.ActiveOwn returns true for every text.
  Written by an AI agent.
-/
import Derived.Test.YtjopfgdgmniigaaOwn1
import Derived.Test.YtjopfgdgmniigaaLast
import Derived.Test.YtjopfgdgmniigaaOpen
import Derived.Test.YtjopfgdgmniigaaRows
namespace Go.Proofs.Ytjopfgdgmniigaa
open Go.RowKit Go.Maps

def xA : Atr := (⟨#[120]⟩, ⟨#[49]⟩)
def oneE : Ent := ⟨false, 3, ⟨#[97]⟩, [xA]⟩

theorem own_xA {w : World} {B : Nat} {ua : Option Addr} {uc : Nat} (h : w.ownsRow B 60 2 (.slice ua 1 uc) 1 (flatA [xA])) : ∃ g cur, ua = some ⟨g, 0, none⟩ ∧ B ≤ g ∧ Blk w g 60 cur ∧ w.cell? ⟨g, 1, none⟩ = some (.string ⟨#[49]⟩) := by
  rcases h.2 with ⟨he, h0⟩ | ⟨g, cap, cur, he, hb, hg, _⟩
  · omega
  · simp only [Value.slice.injEq] at he
    refine ⟨g, cur, he.1, hb, hg, ?_⟩
    have hc := h.cells (g := g) (by rw [he.1]; rfl) 1 (.string ⟨#[49]⟩) rfl
    have e : (⟨g, 0, none⟩ : Addr).add 1 = ⟨g, 1, none⟩ := by unfold Addr.add; split <;> simp_all
    rw [e] at hc
    exact hc

theorem last_one {w : World} {B lb : Nat} (h : ListIs w B lb 63 33 [oneE]) : Calls Try.prog 16 #[ptr lb, .string ⟨#[97]⟩] w fun e w' =>
    ∃ g uc cur, e = .returned (.tuple #[.agg #[.bool false, i64 3, .string ⟨#[97]⟩, .slice (some ⟨g, 0, none⟩) 1 uc], .bool true]) ∧ w.heap.size ≤ g ∧ Blk w' g 60 cur ∧ w'.cell? ⟨g, 1, none⟩ = some (.string ⟨#[49]⟩) ∧ Below w.heap.size w w' := by
  have hl : lastF ⟨#[97]⟩ [oneE] = some oneE := by
    unfold lastF
    have hp : partE [oneE] = 0 := rfl
    rw [hp]
    simp [oneE]
  refine (last_ent h ⟨#[97]⟩).mono ?_
  rintro e w' ⟨⟨e0, ua, uc, hf, rfl, hown⟩ | ⟨hn, _⟩, hb⟩
  · rw [hl] at hf
    obtain rfl := Option.some.inj hf
    obtain ⟨g, cur, rfl, hg, hblk, hc⟩ := own_xA hown
    exact ⟨g, uc, cur, rfl, hg, hblk, hc, hb⟩
  · rw [hl] at hn; cases hn

theorem all_one {w : World} {B lb : Nat} (h : ListIs w B lb 63 33 [oneE]) : Calls Try.prog 14 #[ptr lb] w fun e w' =>
    ∃ g2 c2 g3 uc cur, e = .returned (.slice (some ⟨g2, 0, none⟩) 1 c2) ∧ w'.cell? ⟨g2, 3, none⟩ = some (.slice (some ⟨g3, 0, none⟩) 1 uc) ∧ w.heap.size ≤ g3 ∧ Blk w' g3 60 cur ∧ w'.cell? ⟨g3, 1, none⟩ = some (.string ⟨#[49]⟩) ∧ Below w.heap.size w w' := by
  refine (all_rows h).mono ?_
  rintro e w' ⟨v, ps, rfl, hrow, hown, hps, hb⟩
  obtain ⟨p, rfl⟩ : ∃ p, ps = [p] := by
    cases ps with
    | nil => simp at hps
    | cons p r =>
      cases r with
      | nil => exact ⟨p, rfl⟩
      | cons q r => simp at hps
  have hp : p.1 = oneE := by simpa using hps
  obtain ⟨ad, c, hv, _, _, hr⟩ := hrow.form
  obtain ⟨g2, had, _, _, hc⟩ := hr (by simp)
  have h3 := (hc 0 p rfl).2.2.2
  have ho := hown p (by simp)
  rw [hp] at ho
  obtain ⟨ua, uc, hs⟩ := own_slice ho
  rw [hs] at ho h3
  obtain ⟨g3, cur, rfl, hg, hblk, hc3⟩ := own_xA ho
  have h3' : w'.cell? ⟨g2, 3, none⟩ = some (.slice (some ⟨g3, 0, none⟩) 1 uc) := by
    have h4 : (0 : Nat) * 4 + 3 = 3 := rfl
    rw [h4] at h3
    exact h3
  refine ⟨g2, c, g3, uc, cur, ?_, h3', hg, hblk, hc3, hb⟩
  rw [hv, had]
  rfl

theorem atrs_new (w : World) (B : Nat) : AtrsAt (w.alloc (.cells #[.string ⟨#[120]⟩, .string ⟨#[49]⟩] 60)) B (.slice (some ⟨w.heap.size, 0, none⟩) 1 1) [xA] := by
  have hb := Blk.new w 60 #[.string ⟨#[120]⟩, .string ⟨#[49]⟩]
  refine ⟨_, 1, rfl, Nat.le_refl _, by simp, ?_, fun _ => ⟨w.heap.size, 0, rfl, by simp, .inr ⟨_, _, hb⟩, fun k x hk => ?_⟩⟩
  · intro x hx
    rw [List.mem_singleton.1 hx]
    exact ⟨by decide, by decide⟩
  · match k, hk with
    | 0, hk =>
      simp at hk
      subst hk
      exact ⟨hb.cell 0 _ rfl, hb.cell 1 _ rfl⟩

/-- The list keeps its entry, whatever is done to the row that was handed in. -/
theorem own_after {w1 w2 : World} {B lb A0 base : Nat} {v va : Value} {cur : Array Value} (h : ListAt w2 B lb 63 33 v [(oneE, va)]) (ho : w2.ownsRow base 60 2 va 1 (flatA [xA])) (hA : A0 < base) (hb : Blk w2 A0 60 cur) (u : Value) (_ : w1.heap.size ≤ base) :
    ListIs (w2.setCell ⟨A0, 1, none⟩ u) B lb 63 33 [oneE] := by
  have ho2 : (w2.setCell ⟨A0, 1, none⟩ u).ownsRow base 60 2 va 1 (flatA [xA]) := by
    refine ⟨ho.1, ?_⟩
    rcases ho.2 with hn | ⟨g', cap, cur', rfl, hbg, hgg, rest⟩
    · exact .inl hn
    · exact .inr ⟨g', cap, cur', rfl, hbg, (Below.heap_setCell w2 ⟨A0, 1, none⟩ u g' (by simp only; omega)).trans hgg, rest⟩
  have hne : lb ≠ A0 := h.1.ne hb (by decide)
  refine ⟨v, [(oneE, va)], ⟨h.1.far (p := ⟨A0, 1, none⟩) hne u, h.2.1, own_setCell h.2.2.1 hb (by decide) 1 u, h.2.2.2.1, ?_⟩, rfl⟩
  intro p hp
  rw [List.mem_singleton.1 hp]
  exact AtrsAt.of_own (l := [xA]) ho2 (by simp) (by intro x hx; rw [List.mem_singleton.1 hx]; exact ⟨by decide, by decide⟩)

set_option maxHeartbeats 8000000 in
set_option maxRecDepth 100000 in
theorem activeOwn_walk {w : World} {s : ByteArray} : Calls Try.prog 7 #[.string s] w fun e w' => e = .returned (.bool true) ∧ Below w.heap.size w w' := by
  go_enter Try.func7, Try.ntmps7
  go_wp2_with (first
    | (go_at_call 9; (with_reducible refine (new_any _).mono ?_); rintro e w1 ⟨rfl, hl1, hb1⟩; have HA := Lib.hid (Blk.new w1 60 #[.string ⟨#[120]⟩, .string ⟨#[49]⟩]); have H1 := Lib.hid (And.intro (hl1.below ((Below.refl _ w1).alloc (Nat.le_refl _) (.cells #[.string ⟨#[120]⟩, .string ⟨#[49]⟩] 60))) (hb1.alloc hb1.size (.cells #[.string ⟨#[120]⟩, .string ⟨#[49]⟩] 60))); have hlo := hb1.size; clear hl1 hb1)
    | (go_at_call 22; (with_reducible refine (add_first H1.out.1 (atrs_new w1 _) rfl).mono ?_); rintro e w2 ⟨rfl, v2, va2, hl2, ho2, hf2⟩; have hg := hf2.blk HA.out (.inr rfl); have c01 := hg.cell 1 (.string ⟨#[49]⟩) rfl; have f01 := hg.fro 1; have H3 := Lib.hid (And.intro (own_after (w1 := w1) hl2 ho2 (by simp) hg (.string s) (by simp)) ((H1.out.2.trans (below_of_fr hf2 H1.out.2.size)).setCell (p := ⟨w1.heap.size, 1, none⟩) hlo (.string s))); clear hg hl2 ho2 hf2)
    | (go_at_call 16; (with_reducible refine (last_one H3.out.1).mono ?_); rintro e w4 ⟨g, uc, cur, rfl, hg, hblk, hc, hb⟩; have hbx := Blk.new w4 33 #[.bool false, i64 3, .string ⟨#[97]⟩, .slice (some ⟨g, 0, none⟩) 1 uc]; have x3 := hbx.cell 3 (.slice (some ⟨g, 0, none⟩) 1 uc) rfl; have hg2 := hblk.alloc (.cells #[.bool false, i64 3, .string ⟨#[97]⟩, .slice (some ⟨g, 0, none⟩) 1 uc] 33); have g1 := (((Below.refl _ w4).alloc (Nat.le_refl _) (.cells #[.bool false, i64 3, .string ⟨#[97]⟩, .slice (some ⟨g, 0, none⟩) 1 uc] 33)).cell (p := ⟨g, 1, none⟩) hblk.lt).trans hc; have gf := hg2.fro 1; have hb6 := (hb.alloc hb.size (.cells #[.bool false, i64 3, .string ⟨#[97]⟩, .slice (some ⟨g, 0, none⟩) 1 uc] 33)).setCell (p := ⟨g, 1, none⟩) hg (.string s); have H6 := Lib.hid (And.intro (H3.out.1.below hb6) (H3.out.2.trans (hb6.mono H3.out.2.size))); clear hg hblk hc hb hbx hg2 hb6)
    | (go_at_call 14; (with_reducible refine (all_one H6.out.1).mono ?_); rintro e w7 ⟨g2, c2, g3, uc3, cur3, rfl, hc2, hg3, hblk3, hc3, hb7⟩; have k1 := hc2; have k2 := hc3; have kf := hblk3.fro 1; have hb8 := hb7.setCell (p := ⟨g3, 1, none⟩) hg3 (.string s); have H8 := Lib.hid (And.intro (H6.out.1.below hb8) (H6.out.2.trans (hb8.mono H6.out.2.size))); clear hc2 hg3 hblk3 hc3 hb7 hb8)
    | (go_at_call 16; (with_reducible refine (last_one H8.out.1).mono ?_); rintro e w9 ⟨g9, uc9, cur9, rfl, hg, hblk, hc, hb⟩; have hbx := Blk.new w9 33 #[.bool false, i64 3, .string ⟨#[97]⟩, .slice (some ⟨g9, 0, none⟩) 1 uc9]; have x93 := hbx.cell 3 (.slice (some ⟨g9, 0, none⟩) 1 uc9) rfl; have g91 := (((Below.refl _ w9).alloc (Nat.le_refl _) (.cells #[.bool false, i64 3, .string ⟨#[97]⟩, .slice (some ⟨g9, 0, none⟩) 1 uc9] 33)).cell (p := ⟨g9, 1, none⟩) hblk.lt).trans hc; have H9 := Lib.hid (H8.out.2.trans ((hb.alloc hb.size (.cells #[.bool false, i64 3, .string ⟨#[97]⟩, .slice (some ⟨g9, 0, none⟩) 1 uc9] 33)).mono H8.out.2.size)); clear hg hblk hc hb hbx)
    | (go_at_call 10; (with_reducible refine (four_any _).mono ?_); rintro e w10 ⟨rfl, hb⟩; have H10 := Lib.hid hb; clear hb))
  go_ret
  exact ⟨rfl, H9.out.trans (H10.out.mono H9.out.size)⟩

namespace activeOwn
open Go.ChangeShapes Go.WideShapes Go.ChangeAt Go.RowKit Go.Joins Go.Deep
open Go.ChangeMaps (open_string shut_string)
set_option linter.unusedVariables false
set_option maxRecDepth 100000 in
theorem lifted (os : Os) (started : os.Started) (H : Type) (enc : TypeId × Value → H) :
    ReturnsInHanded {} Try.checked os 7 .any (Rows.activeOwnSpec.pre6 enc Try.prog Try.f7 Rows.activeOwnRow.domain false) (Rows.activeOwnSpec.post enc Try.prog Try.f7 false true false false) := by
  refine returnsInHanded_of_change_sized (C := Try.checked) own started (by kernel_rfl) Try.func7
    (ChangeSpec.witness6 (enc := enc) (C := Try.checked) false ⟨#[], #[.string ByteArray.empty], []⟩ 8 (by kernel_rfl) (by kernel_rfl) (by kernel_rfl) (by kernel_rfl)) ?_
  intro W base args ds gs before hval0 hW hcnd hsz0 _
  have hval : ∀ (j : Nat) t v, Try.f7.params[j]? = some t → args[j]? = some v → Value.okWide Try.prog W .any base t v := hval0
  have hW' := hW
  obtain ⟨p, q, hA0, hV, rfl, hfz, hnd⟩ := hW
  have hA : DataW.TrodAll enc Try.prog W 0 (fun _ => true) true Try.f7.params.toList args.toList ds p := hA0
  rw [Try.params7] at hA hval
  obtain ⟨v0, vs0, d0, ds0, p0, q0, hargs, rfl, rfl, h0, r0⟩ := trodAll_cons hA
  obtain ⟨rfl, rfl, rfl⟩ := trodAll_nil r0
  obtain rfl : args = #[v0] := by cases args; simp_all
  obtain ⟨rfl, rfl⟩ := trodVars_none hV
  obtain ⟨s, rfl, rfl, rfl, w0⟩ := open_string Try.underlying9 (hval 0 9 v0 rfl rfl) h0
  clear hA0 hval0 hsz0
  refine activeOwn_walk.mono fun e W' ⟨he, bel⟩ => ?_
  subst he
  exact ⟨_, rfl, _, _, _, [], _, [], hW', trodAll_mk1 (shut_bool Try.underlying4 _), (trodAll_cons_mk (shut_string Try.underlying9 w0) trodAll_mk0), rfl, bel.frame _, fun h => by cases h⟩
theorem over : Rows.activeOwnRow.holds Try.pinned (OpenSpec.ofChange Rows.activeOwnSpec) :=
  OpenClaim.holds_of_wide 7 Try.f7 rfl rfl rfl rfl rfl rfl rfl ⟨rfl, rfl, rfl, rfl, rfl⟩ rfl rfl rfl rfl rfl (by kernel_rfl) Try.func7 (by kernel_rfl)
    (of_decide_eq_true (by kernel_rfl)) (by unfold Func.isWrapper; first | (rw [if_pos (by decide +kernel)]; kernel_rfl) | (rw [if_neg (by decide +kernel)]; exact ⟨rfl, rfl⟩))
    (fun os started H enc _ => lifted os started H enc)
end activeOwn
/-- The row: whatever the text, true. -/
theorem activeOwn_holds : Rows.ActiveOwnSaid := activeOwn.over

end Go.Proofs.Ytjopfgdgmniigaa
