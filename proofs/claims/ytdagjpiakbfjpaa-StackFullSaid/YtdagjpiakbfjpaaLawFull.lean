/-
  rectolaw09.StackFull returns true for every two numbers.
  Written by an AI agent.
-/
import Derived.Test.YtdagjpiakbfjpaaOpen
import Derived.Test.YtdagjpiakbfjpaaRows
namespace Go.Proofs.Ytdagjpiakbfjpaa
open Go.RowKit

def idE (i : Nat) : Ent := ⟨(i : Int), 0, ⟨#[]⟩⟩
def fullL (k : Nat) : List Ent := (List.range (if k < 200 then k else 200)).map idE
theorem fullL_length (k : Nat) : (fullL k).length = if k < 200 then k else 200 := by simp [fullL]
theorem fullL_succ (k : Nat) : pushS (fullL k) (idE k) = fullL (k + 1) := by
  unfold pushS
  rw [fullL_length]
  unfold fullL
  by_cases h : k < 200
  · rw [if_pos h]
    rw [if_neg (by omega)]
    by_cases h1 : k + 1 < 200
    · rw [if_pos h1, List.range_succ, List.map_append]
      rfl
    · have : k = 199 := by omega
      subst this
      rw [if_neg h1, List.range_succ, List.map_append]
      rfl
  · have h1 : ¬ k + 1 < 200 := by omega
    rw [if_neg h, if_pos rfl, if_neg h1]
theorem fullL_res (k : Nat) : pushR (fullL k) = if k < 200 then 0 else 5 := by
  unfold pushR
  rw [fullL_length]
  by_cases h : k < 200
  · rw [if_pos h, if_neg (by omega), if_pos h]
  · rw [if_neg h, if_pos rfl, if_neg h]
theorem full_push {w : World} {B lb k : Nat} {r : Int} (h : Stk w B lb (fullL k)) (hr : (if k < 200 then 0 else 5) = r) : Calls Try.prog 10 #[ptr lb, .agg #[i64 k, i64 0, .string ⟨#[]⟩]] w (StkIt B lb (fullL (k + 1)) (i64 r) w) := by
  subst hr
  exact push_n h (by rw [fullL_length]; split <;> omega) (fullL_succ k) (fullL_res k)
theorem ins_n {w : World} {B lb : Nat} {es es' : List Ent} {p id sp r : Int} {nm : ByteArray} (h : Stk w B lb es) (hl : es.length ≤ 200) (hs : insS es p ⟨id, sp, nm⟩ = es') (hr : insR es p = r) :
    Calls Try.prog 12 #[ptr lb, i64 p, .agg #[i64 id, i64 sp, .string nm]] w (StkIt B lb es' (i64 r) w) := by
  subst hs hr
  exact ins_stk h hl

theorem all_at {w : World} {B lb n k : Nat} {es : List Ent} {e : Ent} (h : Stk w B lb es) (hn : es.length = n) (hk : es[k]? = some e) : Calls Try.prog 13 #[ptr lb] w fun r w' =>
    ∃ g c, r = .returned (.slice (some ⟨g, 0, none⟩) n c) ∧ w'.cell? ⟨g, k * 3, none⟩ = some (i64 e.id) ∧ Below w.heap.size w w' := by
  refine (all_stk h hn).mono ?_
  rintro r w' ⟨ad, c, rfl, hown, hb⟩
  have hkl : k < es.length := (List.getElem?_eq_some_iff.1 hk).1
  rcases hown.2 with ⟨he, h0⟩ | ⟨g, cap, cur, he, _⟩
  · omega
  · simp only [Value.slice.injEq] at he
    obtain ⟨rfl, _, rfl⟩ := he
    have hc := hown.cells (g := g) rfl _ _ (flatE_get es k e hk).1
    have ea : (⟨g, 0, none⟩ : Addr).add (k * 3) = ⟨g, k * 3, none⟩ := by unfold Addr.add; split <;> simp_all
    rw [ea] at hc
    exact ⟨g, c, rfl, hc, hb⟩

set_option maxHeartbeats 4000000 in
theorem full_out {w : World} {n p : Int} (hn : n < 0 ∨ 250 < n) : Calls Try.prog 4 #[i64 n, i64 p] w fun e w' => e = .returned (.bool true) ∧ Below w.heap.size w w' := by
  by_cases h0 : n < 0
  · have z1 : decide (n < 0) = true := by simpa using h0
    clear hn
    go_enter Try.func4, Try.ntmps4
    go_wp2_with (first
      | (go_at_call 8; (with_reducible refine (new_any _).mono ?_); rintro e w1 ⟨rfl, hs, hb⟩; have H1 := Lib.hid hb; clear hs hb)
      | (go_at_call 9; (with_reducible refine (cell_any _).mono ?_); rintro e w2 ⟨rfl, hb⟩; have H2 := Lib.hid hb; clear hb))
    go_ret
    exact ⟨rfl, H1.out.trans (H2.out.mono H1.out.size)⟩
  · have z1 : decide (n < 0) = false := by simpa using h0
    have z2 : decide (250 < n) = true := by simp; omega
    clear hn
    go_enter Try.func4, Try.ntmps4
    go_wp2_with (first
      | (go_at_call 8; (with_reducible refine (new_any _).mono ?_); rintro e w1 ⟨rfl, hs, hb⟩; have H1 := Lib.hid hb; clear hs hb)
      | (go_at_call 9; (with_reducible refine (cell_any _).mono ?_); rintro e w2 ⟨rfl, hb⟩; have H2 := Lib.hid hb; clear hb))
    go_ret
    exact ⟨rfl, H1.out.trans (H2.out.mono H1.out.size)⟩

set_option maxHeartbeats 8000000 in
set_option maxRecDepth 100000 in
theorem full_main {w : World} {n : Nat} {p : Int} (hn : n ≤ 250) : Calls Try.prog 4 #[i64 n, i64 p] w fun e w' => e = .returned (.bool true) ∧ Below w.heap.size w w' := by
  have z1 : decide ((n : Int) < 0) = false := by simp
  have z2 : decide ((250 : Int) < (n : Int)) = false := by simp; omega
  go_enter Try.func4, Try.ntmps4
  go_wp2_with (first
    | (go_at_call 8; (with_reducible refine (new_any _).mono ?_); rintro e w1 ⟨rfl, hl1, hb⟩; have H1 := Lib.hid (And.intro hl1 hb); clear hl1 hb))
  go_loopw [6] (fun i wr => ∃ k : Nat, k ≤ n ∧ i = i64 k ∧ Hid (Stk wr w.heap.size w.heap.size (fullL k)) ∧ Below w.heap.size w wr) (fun i _ => n - (intOf i).toNat)
  case atStart => exact ⟨0, Nat.zero_le _, rfl, Lib.hid H1.out.1, H1.out.2⟩
  case round =>
    obtain ⟨k, hk, rfl, HK, hbel⟩ := hrel
    have HBE := Lib.hid hbel
    clear hbel
    by_cases hlt : k < n
    · by_cases h200 : k < 200
      · have z3 : decide ((k : Int) < 200) = true := by simp; omega
        go_wp2_with (first | (go_at_call 10; (with_reducible refine (full_push HK.out (if_pos h200)).mono ?_); rintro e w2 ⟨rfl, hl2, hf2⟩; have H2 := Lib.hid (And.intro hl2 hf2); clear hl2 hf2))
        go_roundw
        case rel => exact ⟨k + 1, by omega, by go_num, Lib.hid H2.out.1, HBE.out.trans (below_of_fr H2.out.2 HBE.out.size)⟩
        case measure => simp [intOf]; omega
      · have z3 : decide ((k : Int) < 200) = false := by simp; omega
        go_wp2_with (first | (go_at_call 10; (with_reducible refine (full_push HK.out (if_neg h200)).mono ?_); rintro e w2 ⟨rfl, hl2, hf2⟩; have H2 := Lib.hid (And.intro hl2 hf2); clear hl2 hf2))
        go_roundw
        case rel => exact ⟨k + 1, by omega, by go_num, Lib.hid H2.out.1, HBE.out.trans (below_of_fr H2.out.2 HBE.out.size)⟩
        case measure => simp [intOf]; omega
    · have hkn : k = n := by omega
      subst hkn
      by_cases h200 : k < 200
      · have hm : (fullL k).length = k := by rw [fullL_length, if_pos h200]
        have f1 : (k : Int) < 200 := by omega
        have f2 : ¬ ((200 : Int) < (k : Int)) := by omega
        have f3 : (k : Int) ≤ 200 := by omega
        have f4 : ¬ ((200 : Int) ≤ (k : Int)) := by omega
        obtain ⟨S, hS⟩ : ∃ S, insS (fullL k) p ⟨7, 0, ⟨#[]⟩⟩ = S := ⟨_, rfl⟩
        obtain ⟨R, hR⟩ : ∃ R, insR (fullL k) p = R := ⟨_, rfl⟩
        have HS := Lib.hid (And.intro hS (And.intro hR hm))
        have hm200 : k ≤ 200 := by omega
        have hbad : insBad (fullL k) p = (decide (p < 0) || decide ((k : Int) < p)) := by unfold insBad; rw [hm]; try rfl
        unfold insR at hR
        unfold insS at hS
        rw [hbad, hm] at hR hS
        clear hm hbad
        by_cases hp0 : p < 0
        · have y1 : decide (p < 0) = true := by simpa using hp0
          rw [y1] at hR hS
          simp only [Bool.true_or, if_true] at hR hS
          subst hR
          clear hp0 hS
          go_wp2_with (first
            | (go_at_call 12; (with_reducible refine (ins_n (id := 7) (sp := 0) (nm := ⟨#[]⟩) HK.out (by rw [HS.out.2.2]; exact hm200) HS.out.1 HS.out.2.1).mono ?_); rintro e w2 ⟨rfl, hl2, hf2⟩; have H2 := Lib.hid (And.intro hl2 (HBE.out.trans (below_of_fr hf2 HBE.out.size))); clear hl2 hf2)
            | (go_at_call 9; (with_reducible refine (cell_any _).mono ?_); rintro e w4 ⟨rfl, hb⟩; have H4 := Lib.hid hb; clear hb))
          all_goals go_ret
          all_goals exact ⟨rfl, H2.out.2.trans (H4.out.mono H2.out.2.size)⟩
        · have y1 : decide (p < 0) = false := by simpa using hp0
          by_cases hpm : (k : Int) < p
          · have y2 : decide ((k : Int) < p) = true := by simpa using hpm
            rw [y1, y2] at hR hS
            simp only [Bool.or_true, if_true] at hR hS
            subst hR
            clear hp0 hpm hS
            go_wp2_with (first
              | (go_at_call 12; (with_reducible refine (ins_n (id := 7) (sp := 0) (nm := ⟨#[]⟩) HK.out (by rw [HS.out.2.2]; exact hm200) HS.out.1 HS.out.2.1).mono ?_); rintro e w2 ⟨rfl, hl2, hf2⟩; have H2 := Lib.hid (And.intro hl2 (HBE.out.trans (below_of_fr hf2 HBE.out.size))); clear hl2 hf2)
              | (go_at_call 9; (with_reducible refine (cell_any _).mono ?_); rintro e w4 ⟨rfl, hb⟩; have H4 := Lib.hid hb; clear hb))
            all_goals go_ret
            all_goals exact ⟨rfl, H2.out.2.trans (H4.out.mono H2.out.2.size)⟩
          · have y2 : decide ((k : Int) < p) = false := by simpa using hpm
            rw [y1, y2] at hR hS
            simp only [Bool.or_self, Bool.false_eq_true, if_false] at hR hS
            rw [if_neg (by omega)] at hR hS
            have y3 : ((k : Int) == 200) = false := by simp; omega
            subst hR
            obtain ⟨j, rfl⟩ : ∃ j : Nat, p = (j : Int) := ⟨p.toNat, by omega⟩
            have hjm : j ≤ k := by omega
            have hjl : j < k + 1 := by omega
            have hml : (fullL k).length = k := HS.out.2.2
            have hlen : S.length = k + 1 := by rw [← hS, Int.toNat_natCast, List.length_append, List.length_take, List.length_cons, List.length_drop, hml]; omega
            have hget : S[j]? = some ⟨7, 0, ⟨#[]⟩⟩ := by
              rw [← hS, Int.toNat_natCast, List.getElem?_append_right (by rw [List.length_take, hml]; omega), List.length_take, hml, Nat.min_eq_left hjm, Nat.sub_self]
              rfl
            have HG := Lib.hid (And.intro hlen hget)
            clear hp0 hpm hS hlen hget hml hjm
            go_wp2_with (first
              | (go_at_call 12; (with_reducible refine (ins_n (id := 7) (sp := 0) (nm := ⟨#[]⟩) HK.out (by rw [HS.out.2.2]; exact hm200) HS.out.1 HS.out.2.1).mono ?_); rintro e w2 ⟨rfl, hl2, hf2⟩; have H2 := Lib.hid (And.intro hl2 (HBE.out.trans (below_of_fr hf2 HBE.out.size))); clear hl2 hf2)
              | (go_at_call 13; (with_reducible refine (all_at H2.out.1 HG.out.1 HG.out.2).mono ?_); rintro e w3 ⟨g3, c3, rfl, hc3, hb3⟩; have k3 := hc3; have H3 := Lib.hid (H2.out.2.trans (hb3.mono H2.out.2.size)); clear hc3 hb3)
              | (go_at_call 9; (with_reducible refine (cell_any _).mono ?_); rintro e w4 ⟨rfl, hb⟩; have H4 := Lib.hid hb; clear hb))
            all_goals go_ret
            all_goals exact ⟨rfl, H3.out.trans (H4.out.mono H3.out.size)⟩
      · have hm : (fullL k).length = 200 := by rw [fullL_length, if_neg h200]
        by_cases he : k = 200
        · subst he
          obtain ⟨S, hS⟩ : ∃ S, insS (fullL 200) p ⟨7, 0, ⟨#[]⟩⟩ = S := ⟨_, rfl⟩
          obtain ⟨R, hR⟩ : ∃ R, insR (fullL 200) p = R := ⟨_, rfl⟩
          have HS := Lib.hid (And.intro hS (And.intro hR hm))
          have hm200 : 200 ≤ 200 := by omega
          have hbad : insBad (fullL 200) p = (decide (p < 0) || decide ((200 : Int) < p)) := by unfold insBad; rw [hm]; try rfl
          unfold insR at hR
          unfold insS at hS
          rw [hbad, hm] at hR hS
          clear hm hbad
          by_cases hp0 : p < 0
          · have y1 : decide (p < 0) = true := by simpa using hp0
            rw [y1] at hR hS
            simp only [Bool.true_or, if_true] at hR hS
            subst hR
            clear hp0 hS
            go_wp2_with (first
              | (go_at_call 12; (with_reducible refine (ins_n (id := 7) (sp := 0) (nm := ⟨#[]⟩) HK.out (by rw [HS.out.2.2]; exact hm200) HS.out.1 HS.out.2.1).mono ?_); rintro e w2 ⟨rfl, hl2, hf2⟩; have H2 := Lib.hid (And.intro hl2 (HBE.out.trans (below_of_fr hf2 HBE.out.size))); clear hl2 hf2)
              | (go_at_call 9; (with_reducible refine (cell_any _).mono ?_); rintro e w4 ⟨rfl, hb⟩; have H4 := Lib.hid hb; clear hb))
            all_goals go_ret
            all_goals exact ⟨rfl, H2.out.2.trans (H4.out.mono H2.out.2.size)⟩
          · have y1 : decide (p < 0) = false := by simpa using hp0
            by_cases hpm : (200 : Int) < p
            · have y2 : decide ((200 : Int) < p) = true := by simpa using hpm
              rw [y1, y2] at hR hS
              simp only [Bool.or_true, if_true] at hR hS
              subst hR
              clear hp0 hpm hS
              go_wp2_with (first
                | (go_at_call 12; (with_reducible refine (ins_n (id := 7) (sp := 0) (nm := ⟨#[]⟩) HK.out (by rw [HS.out.2.2]; exact hm200) HS.out.1 HS.out.2.1).mono ?_); rintro e w2 ⟨rfl, hl2, hf2⟩; have H2 := Lib.hid (And.intro hl2 (HBE.out.trans (below_of_fr hf2 HBE.out.size))); clear hl2 hf2)
                | (go_at_call 9; (with_reducible refine (cell_any _).mono ?_); rintro e w4 ⟨rfl, hb⟩; have H4 := Lib.hid hb; clear hb))
              all_goals go_ret
              all_goals exact ⟨rfl, H2.out.2.trans (H4.out.mono H2.out.2.size)⟩
            · have y2 : decide ((200 : Int) < p) = false := by simpa using hpm
              rw [y1, y2] at hR hS
              simp only [Bool.or_self, Bool.false_eq_true, if_false] at hR hS
              simp only [if_true] at hR hS
              subst hR
              clear hp0 hpm hS
              go_wp2_with (first
                | (go_at_call 12; (with_reducible refine (ins_n (id := 7) (sp := 0) (nm := ⟨#[]⟩) HK.out (by rw [HS.out.2.2]; exact hm200) HS.out.1 HS.out.2.1).mono ?_); rintro e w2 ⟨rfl, hl2, hf2⟩; have H2 := Lib.hid (And.intro hl2 (HBE.out.trans (below_of_fr hf2 HBE.out.size))); clear hl2 hf2)
                | (go_at_call 9; (with_reducible refine (cell_any _).mono ?_); rintro e w4 ⟨rfl, hb⟩; have H4 := Lib.hid hb; clear hb))
              all_goals go_ret
              all_goals exact ⟨rfl, H2.out.2.trans (H4.out.mono H2.out.2.size)⟩
        · have f1 : (200 : Int) < (k : Int) := by omega
          have f2 : ¬ ((k : Int) < 200) := by omega
          have f3 : (200 : Int) ≤ (k : Int) := by omega
          have f4 : ¬ ((k : Int) ≤ 200) := by omega
          obtain ⟨S, hS⟩ : ∃ S, insS (fullL k) p ⟨7, 0, ⟨#[]⟩⟩ = S := ⟨_, rfl⟩
          obtain ⟨R, hR⟩ : ∃ R, insR (fullL k) p = R := ⟨_, rfl⟩
          have HS := Lib.hid (And.intro hS (And.intro hR hm))
          have hm200 : 200 ≤ 200 := by omega
          have hbad : insBad (fullL k) p = (decide (p < 0) || decide ((200 : Int) < p)) := by unfold insBad; rw [hm]; try rfl
          unfold insR at hR
          unfold insS at hS
          rw [hbad, hm] at hR hS
          clear hm hbad
          by_cases hp0 : p < 0
          · have y1 : decide (p < 0) = true := by simpa using hp0
            rw [y1] at hR hS
            simp only [Bool.true_or, if_true] at hR hS
            subst hR
            clear hp0 hS
            go_wp2_with (first
              | (go_at_call 12; (with_reducible refine (ins_n (id := 7) (sp := 0) (nm := ⟨#[]⟩) HK.out (by rw [HS.out.2.2]; exact hm200) HS.out.1 HS.out.2.1).mono ?_); rintro e w2 ⟨rfl, hl2, hf2⟩; have H2 := Lib.hid (And.intro hl2 (HBE.out.trans (below_of_fr hf2 HBE.out.size))); clear hl2 hf2)
              | (go_at_call 9; (with_reducible refine (cell_any _).mono ?_); rintro e w4 ⟨rfl, hb⟩; have H4 := Lib.hid hb; clear hb))
            all_goals go_ret
            all_goals exact ⟨rfl, H2.out.2.trans (H4.out.mono H2.out.2.size)⟩
          · have y1 : decide (p < 0) = false := by simpa using hp0
            by_cases hpm : (200 : Int) < p
            · have y2 : decide ((200 : Int) < p) = true := by simpa using hpm
              rw [y1, y2] at hR hS
              simp only [Bool.or_true, if_true] at hR hS
              subst hR
              clear hp0 hpm hS
              go_wp2_with (first
                | (go_at_call 12; (with_reducible refine (ins_n (id := 7) (sp := 0) (nm := ⟨#[]⟩) HK.out (by rw [HS.out.2.2]; exact hm200) HS.out.1 HS.out.2.1).mono ?_); rintro e w2 ⟨rfl, hl2, hf2⟩; have H2 := Lib.hid (And.intro hl2 (HBE.out.trans (below_of_fr hf2 HBE.out.size))); clear hl2 hf2)
                | (go_at_call 9; (with_reducible refine (cell_any _).mono ?_); rintro e w4 ⟨rfl, hb⟩; have H4 := Lib.hid hb; clear hb))
              all_goals go_ret
              all_goals exact ⟨rfl, H2.out.2.trans (H4.out.mono H2.out.2.size)⟩
            · have y2 : decide ((200 : Int) < p) = false := by simpa using hpm
              rw [y1, y2] at hR hS
              simp only [Bool.or_self, Bool.false_eq_true, if_false] at hR hS
              simp only [if_true] at hR hS
              subst hR
              clear hp0 hpm hS
              go_wp2_with (first
                | (go_at_call 12; (with_reducible refine (ins_n (id := 7) (sp := 0) (nm := ⟨#[]⟩) HK.out (by rw [HS.out.2.2]; exact hm200) HS.out.1 HS.out.2.1).mono ?_); rintro e w2 ⟨rfl, hl2, hf2⟩; have H2 := Lib.hid (And.intro hl2 (HBE.out.trans (below_of_fr hf2 HBE.out.size))); clear hl2 hf2)
                | (go_at_call 9; (with_reducible refine (cell_any _).mono ?_); rintro e w4 ⟨rfl, hb⟩; have H4 := Lib.hid hb; clear hb))
              all_goals go_ret
              all_goals exact ⟨rfl, H2.out.2.trans (H4.out.mono H2.out.2.size)⟩

theorem stackFull_walk {w : World} {n p : Int} : Calls Try.prog 4 #[i64 n, i64 p] w fun e w' => e = .returned (.bool true) ∧ Below w.heap.size w w' := by
  by_cases h : n < 0 ∨ 250 < n
  · exact full_out h
  · obtain ⟨k, rfl⟩ : ∃ k : Nat, n = (k : Int) := ⟨n.toNat, by omega⟩
    exact full_main (by omega)

namespace stackFull
open Go.ChangeShapes Go.WideShapes Go.ChangeAt Go.RowKit Go.Joins Go.Deep
open Go.ChangeMaps (open_string shut_string)
set_option linter.unusedVariables false
set_option maxRecDepth 100000 in
theorem lifted (os : Os) (started : os.Started) (H : Type) (enc : TypeId × Value → H) :
    ReturnsInHanded {} Try.checked os 4 .any (Rows.stackFullSpec.pre6 enc Try.prog Try.f4 Rows.stackFullRow.domain false) (Rows.stackFullSpec.post enc Try.prog Try.f4 false true false false) := by
  refine returnsInHanded_of_change_sized (C := Try.checked) own started (by kernel_rfl) Try.func4
    (ChangeSpec.witness6 (enc := enc) (C := Try.checked) false ⟨#[], #[.int .i64 0, .int .i64 0], []⟩ 8 (by kernel_rfl) (by kernel_rfl) (by kernel_rfl) (by kernel_rfl)) ?_
  intro W base args ds gs before hval0 hW hcnd hsz0 _
  have hval : ∀ (j : Nat) t v, Try.f4.params[j]? = some t → args[j]? = some v → Value.okWide Try.prog W .any base t v := hval0
  have hW' := hW
  obtain ⟨p, q, hA0, hV, rfl, hfz, hnd⟩ := hW
  have hA : DataW.TrodAll enc Try.prog W 0 (fun _ => true) true Try.f4.params.toList args.toList ds p := hA0
  rw [Try.params4] at hA hval
  obtain ⟨v0, vs0, d0, ds0, p0, q0, hargs, rfl, rfl, h0, r0⟩ := trodAll_cons hA
  obtain ⟨v1, vs1, d1, ds1, p1, q1, rfl, rfl, rfl, h1, r1⟩ := trodAll_cons r0
  obtain ⟨rfl, rfl, rfl⟩ := trodAll_nil r1
  obtain rfl : args = #[v0, v1] := by cases args; simp_all
  obtain ⟨rfl, rfl⟩ := trodVars_none hV
  obtain ⟨a0, rfl, rfl, rfl, w0⟩ := open_int Try.underlying3 (hval 0 3 v0 rfl rfl) h0
  obtain ⟨a1, rfl, rfl, rfl, w1⟩ := open_int Try.underlying3 (hval 1 3 v1 rfl rfl) h1
  clear hA0 hval0 hsz0
  refine (stackFull_walk).mono fun e W' ⟨he, bel⟩ => ?_
  subst he
  exact ⟨_, rfl, _, _, _, [], _, [], hW', trodAll_mk1 (shut_bool Try.underlying4 _), (trodAll_cons_mk (shut_int Try.underlying3 w0) (trodAll_cons_mk (shut_int Try.underlying3 w1) trodAll_mk0)), rfl, bel.frame _, fun h => by cases h⟩
theorem over : Rows.stackFullRow.holds Try.pinned (OpenSpec.ofChange Rows.stackFullSpec) :=
  OpenClaim.holds_of_wide 4 Try.f4 rfl rfl rfl rfl rfl rfl rfl ⟨rfl, rfl, rfl, rfl, rfl⟩ rfl rfl rfl rfl rfl (by kernel_rfl) Try.func4 (by kernel_rfl)
    (of_decide_eq_true (by kernel_rfl)) (by unfold Func.isWrapper; first | (rw [if_pos (by decide +kernel)]; kernel_rfl) | (rw [if_neg (by decide +kernel)]; exact ⟨rfl, rfl⟩))
    (fun os started H enc _ => lifted os started H enc)
end stackFull
/-- The row: whatever the input, true. -/
theorem stackFull_holds : Rows.StackFullSaid := stackFull.over


end Go.Proofs.Ytdagjpiakbfjpaa
