/-
  rectolaw11.ArenaFull returns true for every number.
  Written by an AI agent.
-/
import Derived.Test.YtdeogkjihmaniaaOpen
import Derived.Test.YtdeogkjihmaniaaRows
namespace Go.Proofs.Ytdeogkjihmaniaa
open Go.RowKit

/-- An arena with a root and k loose nodes. -/
def CC (w : World) (B a k : Nat) : Prop := ∃ v l S, ArenaAt w B a v l ∧ Mod l S ∧ Good S ∧ Short S ∧ S.l.length = k + 1 ∧ S.row = []

theorem CC.below {w w' : World} {B a k : Nat} (h : CC w B a k) (hb : Below w.heap.size w w') : CC w' B a k := by
  obtain ⟨v, l, S, h, r⟩ := h; exact ⟨v, l, S, h.below hb, r⟩

theorem short_add {S : St} (h : Short S) {nd : Nd} (hn : nd.text.size ≤ TB) : Short (S.add nd) := by
  intro x hx
  rcases List.mem_append.1 hx with hx | hx
  · exact h x hx
  · obtain rfl := List.mem_singleton.1 hx; exact hn

theorem cc_comment {w : World} {B a k : Nat} (h : CC w B a k) (hk : k < 599) (hB : B ≤ w.heap.size) : Calls Try.prog 11 #[ptr a, .string ⟨#[99]⟩] w fun e w' => e = .returned (.tuple #[.int .i64 ((k : Int) + 1), .int .i64 0]) ∧ CC w' B a (k + 1) ∧ Below B w w' := by
  obtain ⟨v, l, S, h, m, g, s, hl, hr⟩ := h
  refine (comment_any (n := k + 1) (tx := ⟨#[99]⟩) h (m.len.trans hl) (by omega)).mono ?_
  rintro e w' ⟨rfl, v', h1, h2⟩
  exact ⟨rfl, ⟨v', _, _, h1, m.add g rfl rfl, g.add _ (by omega) rfl, short_add s (by show _ ≤ TB; unfold TB; decide), by simp [St.add, hl], hr⟩, h2.below hB⟩
theorem cc_full {w : World} {B a k : Nat} (h : CC w B a k) (hk : k = 599) (hB : B ≤ w.heap.size) : Calls Try.prog 11 #[ptr a, .string ⟨#[99]⟩] w fun e w' => e = .returned (.tuple #[.int .i64 0, .int .i64 5]) ∧ CC w' B a k ∧ Below B w w' := by
  have H := h
  obtain ⟨v, l, S, h, m, g, s, hl, hr⟩ := h
  refine (comment_full (tx := ⟨#[99]⟩) h (by rw [m.len, hl, hk])).mono ?_
  rintro e w' ⟨rfl, hb⟩
  exact ⟨rfl, H.below hb, hb.mono hB⟩

theorem elem_root {S : St} (g : Good S) : S.elem 0 = true := by
  obtain ⟨nd, h1, h2, _⟩ := g.root
  have : S.get 0 = some nd := (St.get_nat (k := 0)).trans h1
  unfold St.elem
  rw [this]
  simpa using h2

theorem cc_words {w : World} {B a k : Nat} (h : CC w B a k) (hk : k < 599) (hB : B ≤ w.heap.size) : Calls Try.prog 12 #[ptr a, .int .i64 0, .string ⟨#[120]⟩] w fun e w' => e = .returned (.int .i64 0) ∧ (∃ S, Ar w' B a S ∧ Good S ∧ S.l.length = k + 2) ∧ Below B w w' := by
  obtain ⟨v, l, S, h, m, g, s, hl, hr⟩ := h
  have e1 : S.words 0 ⟨#[120]⟩ = (0, (S.add ⟨2, 0, ⟨#[]⟩, [], ⟨#[120]⟩, -1⟩).put 0 S.l.length 0) := by
    unfold St.words
    rw [elem_root g]
    have hk0 : S.kids 0 = [] := by unfold St.kids; rw [hr]; rfl
    have h1 : ¬ S.l.length = 600 := by omega
    simp [St.write, St.prev, hk0, St.fresh, h1, hr]
  have gw := g.words 0 ⟨#[120]⟩
  refine (words_any (p := 0) (s := ⟨#[120]⟩) h m g (txt0 s (by decide))).mono ?_
  rintro e w' ⟨rfl, v', l', h1, h2, h3⟩
  rw [e1] at h3 gw ⊢
  refine ⟨rfl, ⟨_, ⟨v', l', h1, h3⟩, gw, ?_⟩, h2.below hB⟩
  show (St.setPar _ _ _).length = _
  rw [setPar_length]
  simp [St.add, hl]
theorem cc_wfull {w : World} {B a k : Nat} (h : CC w B a k) (hk : k = 599) (hB : B ≤ w.heap.size) : Calls Try.prog 12 #[ptr a, .int .i64 0, .string ⟨#[120]⟩] w fun e w' => e = .returned (.int .i64 5) ∧ (∃ S, Ar w' B a S ∧ Good S ∧ S.l.length = 600) ∧ Below B w w' := by
  obtain ⟨v, l, S, h, m, g, s, hl, hr⟩ := h
  have e1 : S.words 0 ⟨#[120]⟩ = (5, S) := by
    unfold St.words
    rw [elem_root g]
    have hk0 : S.kids 0 = [] := by unfold St.kids; rw [hr]; rfl
    have h1 : S.l.length = 600 := by omega
    simp [St.write, St.prev, hk0, St.fresh, h1]
  refine (words_any (p := 0) (s := ⟨#[120]⟩) h m g (txt0 s (by decide))).mono ?_
  rintro e w' ⟨rfl, v', l', h1, h2, h3⟩
  rw [e1] at h3 ⊢
  exact ⟨rfl, ⟨_, ⟨v', l', h1, h3⟩, g, (by show S.l.length = 600; omega)⟩, h2.below hB⟩
theorem ar_empty {w : World} {B a n : Nat} (h : ∃ S, Ar w B a S ∧ Good S ∧ S.l.length = n) (hB : B ≤ w.heap.size) : Calls Try.prog 12 #[ptr a, .int .i64 0, .string ⟨#[]⟩] w fun e w' => e = .returned (.int .i64 1) ∧ (∃ S, Ar w' B a S ∧ Good S ∧ S.l.length = n) ∧ Below B w w' := by
  obtain ⟨S, ⟨v, l, h, m⟩, g, hl⟩ := h
  refine (words_bad (p := 0) (s := ⟨#[]⟩) h m (by simp)).mono ?_
  rintro e w' ⟨rfl, v', l', h1, h2, h3⟩
  exact ⟨rfl, ⟨S, ⟨v', l', h1, h3⟩, g, hl⟩, h2.below hB⟩
theorem ar_len {w : World} {B a n : Nat} {m : Int} (h : ∃ S, Ar w B a S ∧ Good S ∧ S.l.length = n) (hm : m = (n : Int)) : Calls Try.prog 13 #[ptr a] w fun e w' => e = .returned (.int .i64 m) ∧ w = w' := by
  obtain ⟨S, h, g, hl⟩ := h
  subst hm
  exact len_ar h hl

theorem new_cc (w : World) : Calls Try.prog 9 #[] w fun e w' => e = .returned (ptr (w.heap.size + 1)) ∧ CC w' w.heap.size (w.heap.size + 1) 0 ∧ Below w.heap.size w w' :=
  (new_any w).mono fun _ _ ⟨h1, ⟨v, h2⟩, h3⟩ => ⟨h1, ⟨v, _, S0, h2, mod0, good0, by intro nd h; simp only [S0, List.mem_cons, List.not_mem_nil, or_false] at h; subst h; exact Nat.zero_le _, rfl, rfl⟩, h3⟩

theorem arenaFull_out {w : World} {n : Int} (hn : n < 0 ∨ 700 < n) : Calls Try.prog 3 #[i64 n] w fun e w' => e = .returned (.bool true) ∧ Below w.heap.size w w' := by
  by_cases h0 : n < 0
  · have z1 : decide (n < 0) = true := by simpa using h0
    clear hn
    go_enter Try.func3, Try.ntmps3
    go_wp2_with (first
      | (go_at_call 9; (with_reducible refine (new_cc w).mono ?_); rintro e w1 ⟨rfl, h, hb⟩; have H1 := Lib.hid hb; clear h hb)
      | (go_at_call 10; (with_reducible refine (three_any _).mono ?_); rintro e w2 ⟨rfl, hb⟩; have H2 := Lib.hid hb; clear hb))
    go_ret
    exact ⟨rfl, H1.out.trans (H2.out.mono H1.out.size)⟩
  · have z1 : decide (n < 0) = false := by simpa using h0
    have z2 : decide (700 < n) = true := by simp; omega
    clear hn
    go_enter Try.func3, Try.ntmps3
    go_wp2_with (first
      | (go_at_call 9; (with_reducible refine (new_cc w).mono ?_); rintro e w1 ⟨rfl, h, hb⟩; have H1 := Lib.hid hb; clear h hb)
      | (go_at_call 10; (with_reducible refine (three_any _).mono ?_); rintro e w2 ⟨rfl, hb⟩; have H2 := Lib.hid hb; clear hb))
    go_ret
    exact ⟨rfl, H1.out.trans (H2.out.mono H1.out.size)⟩

set_option maxHeartbeats 8000000 in
set_option maxRecDepth 100000 in
theorem arenaFull_main {w : World} {n : Nat} (hn : n ≤ 700) : Calls Try.prog 3 #[i64 n] w fun e w' => e = .returned (.bool true) ∧ Below w.heap.size w w' := by
  have z1 : decide ((n : Int) < 0) = false := by simp
  have z2 : decide ((700 : Int) < (n : Int)) = false := by simp; omega
  go_enter Try.func3, Try.ntmps3
  go_wp2_with (first
    | (go_at_call 9; (with_reducible refine (new_cc w).mono ?_); rintro e w1 ⟨rfl, hl1, hb⟩; have H1 := Lib.hid (And.intro hl1 hb); clear hl1 hb))
  go_loopw [4, 5, 6] (fun i _ _ wr => ∃ k : Nat, k ≤ n ∧ i = i64 k ∧ Hid (CC wr w.heap.size (w.heap.size + 1) (if k < 599 then k else 599)) ∧ Below w.heap.size w wr) (fun i _ _ _ => n - (intOf i).toNat)
  case atStart => exact ⟨0, Nat.zero_le _, rfl, Lib.hid H1.out.1, H1.out.2⟩
  case round =>
    obtain ⟨k, hk, rfl, HK, hbel⟩ := hrel
    have HBE := Lib.hid hbel
    clear hbel
    by_cases hlt : k < n
    · by_cases h99 : k < 599
      · have z3 : decide ((k : Int) < 599) = true := by simp; omega
        have z4 : ((k : Int) + 1 != (k : Int) + 1) = false := by simp
        rw [if_pos h99] at HK
        go_wp2_with (first | (go_at_call 11; (with_reducible refine (cc_comment HK.out h99 HBE.out.size).mono ?_); rintro e w2 ⟨rfl, hl2, hf2⟩; have H2 := Lib.hid (And.intro hl2 hf2); clear hl2 hf2))
        go_roundw
        case rel =>
          refine ⟨k + 1, by omega, by go_num, ?_, HBE.out.trans H2.out.2⟩
          by_cases h98 : k + 1 < 599
          · rw [if_pos h98]; exact Lib.hid H2.out.1
          · rw [if_neg h98]
            have : k + 1 = 599 := by omega
            rw [← this]; exact Lib.hid H2.out.1
        case measure => simp [intOf]; omega
      · have z3 : decide ((k : Int) < 599) = false := by simp; omega
        rw [if_neg h99] at HK
        go_wp2_with (first | (go_at_call 11; (with_reducible refine (cc_full HK.out rfl HBE.out.size).mono ?_); rintro e w2 ⟨rfl, hl2, hf2⟩; have H2 := Lib.hid (And.intro hl2 hf2); clear hl2 hf2))
        go_roundw
        case rel => exact ⟨k + 1, by omega, by go_num, by rw [if_neg (by omega)]; exact Lib.hid H2.out.1, HBE.out.trans H2.out.2⟩
        case measure => simp [intOf]; omega
    · have hkn : k = n := by omega
      subst hkn
      by_cases h99 : k < 599
      · have z3 : decide ((k : Int) < 599) = true := by simp; omega
        rw [if_pos h99] at HK
        have z5 : ((k : Int) + 2 == (k : Int) + 2) = true := by simp
        by_cases h98 : k = 598
        · subst h98
          go_wp2_with (first
            | (go_at_call 12; (with_reducible refine (cc_words HK.out h99 HBE.out.size).mono ?_); rintro e w2 ⟨rfl, hl2, hf2⟩; have H2 := Lib.hid (And.intro hl2 hf2); clear hl2 hf2)
            | (go_at_call 12; (with_reducible refine (ar_empty H2.out.1 (Nat.le_trans HBE.out.size H2.out.2.size)).mono ?_); rintro e w3 ⟨rfl, hl3, hf3⟩; have H3 := Lib.hid (And.intro hl3 hf3); clear hl3 hf3)
            | (go_at_call 13; (with_reducible refine (ar_len (m := 600) H3.out.1 (by simp)).mono ?_); rintro e w4 ⟨rfl, rfl⟩)
            | (go_at_call 10; (with_reducible refine (three_any _).mono ?_); rintro e w4 ⟨rfl, hb⟩; have H4 := Lib.hid hb; clear hb))
          go_ret
          have b2 := (HBE.out.trans H2.out.2).trans H3.out.2
          exact ⟨rfl, b2.trans (H4.out.mono b2.size)⟩
        · have z6 : ((k : Int) + 2) < 600 := by omega
          go_wp2_with (first
            | (go_at_call 12; (with_reducible refine (cc_words HK.out h99 HBE.out.size).mono ?_); rintro e w2 ⟨rfl, hl2, hf2⟩; have H2 := Lib.hid (And.intro hl2 hf2); clear hl2 hf2)
            | (go_at_call 12; (with_reducible refine (ar_empty H2.out.1 (Nat.le_trans HBE.out.size H2.out.2.size)).mono ?_); rintro e w3 ⟨rfl, hl3, hf3⟩; have H3 := Lib.hid (And.intro hl3 hf3); clear hl3 hf3)
            | (go_at_call 13; (with_reducible refine (ar_len (m := (k : Int) + 2) H3.out.1 (by omega)).mono ?_); rintro e w4 ⟨rfl, rfl⟩)
            | (go_at_call 10; (with_reducible refine (three_any _).mono ?_); rintro e w4 ⟨rfl, hb⟩; have H4 := Lib.hid hb; clear hb))
          go_ret
          have b2 := (HBE.out.trans H2.out.2).trans H3.out.2
          exact ⟨rfl, b2.trans (H4.out.mono b2.size)⟩
      · have z3 : decide ((k : Int) < 599) = false := by simp; omega
        have z6 : 600 < ((k : Int) + 2) := by omega
        rw [if_neg h99] at HK
        go_wp2_with (first
          | (go_at_call 12; (with_reducible refine (cc_wfull HK.out rfl HBE.out.size).mono ?_); rintro e w2 ⟨rfl, hl2, hf2⟩; have H2 := Lib.hid (And.intro hl2 hf2); clear hl2 hf2)
          | (go_at_call 12; (with_reducible refine (ar_empty H2.out.1 (Nat.le_trans HBE.out.size H2.out.2.size)).mono ?_); rintro e w3 ⟨rfl, hl3, hf3⟩; have H3 := Lib.hid (And.intro hl3 hf3); clear hl3 hf3)
          | (go_at_call 13; (with_reducible refine (ar_len (m := 600) H3.out.1 rfl).mono ?_); rintro e w4 ⟨rfl, rfl⟩)
          | (go_at_call 10; (with_reducible refine (three_any _).mono ?_); rintro e w4 ⟨rfl, hb⟩; have H4 := Lib.hid hb; clear hb))
        go_ret
        have b2 := (HBE.out.trans H2.out.2).trans H3.out.2
        exact ⟨rfl, b2.trans (H4.out.mono b2.size)⟩

theorem arenaFull_walk {w : World} {n : Int} : Calls Try.prog 3 #[i64 n] w fun e w' => e = .returned (.bool true) ∧ Below w.heap.size w w' := by
  by_cases h : n < 0 ∨ 700 < n
  · exact arenaFull_out h
  · obtain ⟨k, rfl⟩ : ∃ k : Nat, n = (k : Int) := ⟨n.toNat, by omega⟩
    exact arenaFull_main (by omega)

namespace arenaFull
open Go.ChangeShapes Go.WideShapes Go.ChangeAt Go.RowKit Go.Joins Go.Deep
open Go.ChangeMaps (open_string shut_string)
set_option linter.unusedVariables false
set_option maxRecDepth 100000 in
theorem lifted (os : Os) (started : os.Started) (H : Type) (enc : TypeId × Value → H) :
    ReturnsInHanded {} Try.checked os 3 .any (Rows.arenaFullSpec.pre6 enc Try.prog Try.f3 Rows.arenaFullRow.domain false) (Rows.arenaFullSpec.post enc Try.prog Try.f3 false true false false) := by
  refine returnsInHanded_of_change_sized (C := Try.checked) own started (by kernel_rfl) Try.func3
    (ChangeSpec.witness6 (enc := enc) (C := Try.checked) false ⟨#[], #[.int .i64 0], []⟩ 8 (by kernel_rfl) (by kernel_rfl) (by kernel_rfl) (by kernel_rfl)) ?_
  intro W base args ds gs before hval0 hW hcnd hsz0 _
  have hval : ∀ (j : Nat) t v, Try.f3.params[j]? = some t → args[j]? = some v → Value.okWide Try.prog W .any base t v := hval0
  have hW' := hW
  obtain ⟨p, q, hA0, hV, rfl, hfz, hnd⟩ := hW
  have hA : DataW.TrodAll enc Try.prog W 0 (fun _ => true) true Try.f3.params.toList args.toList ds p := hA0
  rw [Try.params3] at hA hval
  obtain ⟨v0, vs0, d0, ds0, p0, q0, hargs, rfl, rfl, h0, r0⟩ := trodAll_cons hA
  obtain ⟨rfl, rfl, rfl⟩ := trodAll_nil r0
  obtain rfl : args = #[v0] := by cases args; simp_all
  obtain ⟨rfl, rfl⟩ := trodVars_none hV
  obtain ⟨a0, rfl, rfl, rfl, w0⟩ := open_int Try.underlying3 (hval 0 3 v0 rfl rfl) h0
  clear hA0 hval0 hsz0
  refine (arenaFull_walk).mono fun e W' ⟨he, bel⟩ => ?_
  subst he
  exact ⟨_, rfl, _, _, _, [], _, [], hW', trodAll_mk1 (shut_bool Try.underlying4 _), (trodAll_cons_mk (shut_int Try.underlying3 w0) trodAll_mk0), rfl, bel.frame _, fun h => by cases h⟩
theorem over : Rows.arenaFullRow.holds Try.pinned (OpenSpec.ofChange Rows.arenaFullSpec) :=
  OpenClaim.holds_of_wide 3 Try.f3 rfl rfl rfl rfl rfl rfl rfl ⟨rfl, rfl, rfl, rfl, rfl⟩ rfl rfl rfl rfl rfl (by kernel_rfl) Try.func3 (by kernel_rfl)
    (of_decide_eq_true (by kernel_rfl)) (by unfold Func.isWrapper; first | (rw [if_pos (by decide +kernel)]; kernel_rfl) | (rw [if_neg (by decide +kernel)]; exact ⟨rfl, rfl⟩))
    (fun os started H enc _ => lifted os started H enc)
end arenaFull
/-- The row: whatever the input, true. -/
theorem arenaFull_holds : Rows.ArenaFullSaid := arenaFull.over


end Go.Proofs.Ytdeogkjihmaniaa
