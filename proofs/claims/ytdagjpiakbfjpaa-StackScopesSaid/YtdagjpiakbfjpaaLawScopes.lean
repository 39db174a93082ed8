/-
  rectolaw09.StackScopes returns true for every input.
  Written by an AI agent.
-/
import Derived.Test.YtdagjpiakbfjpaaOpen
import Derived.Test.YtdagjpiakbfjpaaRows
namespace Go.Proofs.Ytdagjpiakbfjpaa
open Go.RowKit

theorem endB_seven (e : Ent) : endB 7 e = endB 0 e := by
  unfold endB
  simp
theorem endB_list (e : Ent) (h : endB 0 e = true) : endB 1 e = true := by
  unfold endB at *
  simp at h
  simp [h]
theorem endB_table (e : Ent) (h : endB 2 e = true) : endB 0 e = true := by
  unfold endB at *
  simp only [if_true] at h
  unfold isB tblN memN at h
  simp at h
  simp
  unfold tagB
  rw [if_pos h.1]
  unfold memN htmlN
  rcases h.2 with h2 | h2 <;> simp [h2]

theorem inR_mono {s s' : Int} {ns : List ByteArray} (h : ∀ e, endB s' e = true → endB s e = true) : ∀ l, inR s ns l = true → inR s' ns l = true
  | [], h1 => by simp [inR] at h1
  | e :: l, h1 => by
    rw [inR] at h1 ⊢
    split
    · rfl
    · rename_i hi
      rw [if_neg hi] at h1
      split at h1
      · cases h1
      · rename_i he
        rw [if_neg (fun h2 => he (h e h2))]
        exact inR_mono h l h1
theorem inR_nil (s : Int) : ∀ l, inR s [] l = false
  | [] => rfl
  | e :: l => by
    rw [inR]
    have : isB [] e = false := by simp [isB, memN]
    rw [this]
    simp only [Bool.false_eq_true, if_false]
    split
    · rfl
    · exact inR_nil s l

theorem scopes_law (ns : List ByteArray) (es : List Ent) : (inB 1 ns es = true → inB 0 ns es = true) ∧ (inB 0 ns es = true → inB 2 ns es = true) ∧ inB 7 ns es = inB 0 ns es ∧ inB 0 [] es = false := by
  refine ⟨inR_mono endB_list _, inR_mono endB_table _, ?_, inR_nil 0 _⟩
  apply Bool.eq_iff_iff.2
  exact ⟨inR_mono (fun e h => by rw [endB_seven]; exact h) _, inR_mono (fun e h => by rw [endB_seven] at h; exact h) _⟩

theorem pushS_take {l : List Ent} {k : Nat} {e : Ent} (h : l[k]? = some e) (hk : k < 200) : pushS (l.take k) e = l.take (k + 1) := by
  have hl : (l.take k).length ≠ 200 := by rw [List.length_take]; omega
  unfold pushS
  rw [if_neg hl, List.take_add_one, h]
  rfl

set_option maxHeartbeats 4000000 in
theorem scopes_long {w : World} {v : Value} {l : List Ent} {nm : ByteArray} (h : EntsAt w v l) (hb : 100 < l.length) :
    Calls Try.prog 3 #[v, .string nm] w fun e w' => e = .returned (.bool true) ∧ Below w.heap.size w w' := by
  obtain ⟨ad, c, rfl, _⟩ := h
  obtain ⟨n, hn⟩ : ∃ n, l.length = n := ⟨_, rfl⟩
  rw [hn] at hb ⊢
  clear hn
  have z1 : decide ((100 : Int) < (n : Int)) = true := by simp; omega
  clear hb
  go_enter Try.func3, Try.ntmps3
  go_wp2_with (first
    | (go_at_call 8; (with_reducible refine (new_any _).mono ?_); rintro e w1 ⟨rfl, hs, hb⟩; have H1 := Lib.hid hb; clear hs hb)
    | (go_at_call 9; (with_reducible refine (cell_any _).mono ?_); rintro e w2 ⟨rfl, hb⟩; have H2 := Lib.hid hb; clear hb))
  go_ret
  exact ⟨rfl, H1.out.trans (H2.out.mono H1.out.size)⟩

set_option maxHeartbeats 8000000 in
set_option maxRecDepth 100000 in
theorem scopes_main {w : World} {v : Value} {l : List Ent} {nm : ByteArray} (h : EntsAt w v l) (hl : l.length ≤ 100) :
    Calls Try.prog 3 #[v, .string nm] w fun e w' => e = .returned (.bool true) ∧ Below w.heap.size w w' := by
  obtain ⟨ad, c, rfl, hr⟩ := h
  obtain ⟨n, hn⟩ : ∃ n, l.length = n := ⟨_, rfl⟩
  rw [hn] at hl ⊢
  have HN := Lib.hid hn
  have HR := Lib.hid hr
  have z1 : decide ((100 : Int) < (n : Int)) = false := by simp; omega
  clear hn hr
  go_enter Try.func3, Try.ntmps3
  go_wp2_with (first
    | (go_at_call 8; (with_reducible refine (new_any _).mono ?_); rintro e w1 ⟨rfl, hs, hb⟩; have H1 := Lib.hid (And.intro hs hb); clear hs hb))
  go_loopw [26] (fun i wr => ∃ k : Nat, k ≤ n ∧ i = i64 k ∧ Hid (Stk wr w.heap.size w.heap.size (l.take k)) ∧ Below w.heap.size w wr) (fun i _ => n - (intOf i).toNat)
  case atStart => exact ⟨0, Nat.zero_le _, rfl, Lib.hid H1.out.1, H1.out.2⟩
  case round =>
    obtain ⟨k, hk, rfl, HK, hbel⟩ := hrel
    have HBE := Lib.hid hbel
    by_cases hlt : k < n
    · obtain ⟨⟨id, sp, en⟩, hx⟩ : ∃ x, l[k]? = some x := ⟨_, List.getElem?_eq_getElem (by rw [HN.out]; exact hlt)⟩
      obtain ⟨g, off, had, hg, hc⟩ := HR.out (fun e => by rw [e] at hx; simp at hx)
      obtain ⟨d0, d1, d2⟩ := hc k _ hx
      have e0 := (hbel.cell (p := ⟨g, _, none⟩) hg).trans d0
      have e1 := (hbel.cell (p := ⟨g, _, none⟩) hg).trans d1
      have e2 := (hbel.cell (p := ⟨g, _, none⟩) hg).trans d2
      simp only at e0 e1 e2
      have hps := pushS_take hx (by omega)
      have HX := Lib.hid hps
      have HAD := Lib.hid had
      have hbox := Blk.new wr 27 #[i64 id, i64 sp, .string en]
      have x0 := hbox.cell 0 (i64 id) rfl
      have x1 := hbox.cell 1 (i64 sp) rfl
      have x2 := hbox.cell 2 (.string en) rfl
      clear hx hc d0 d1 d2 hps had hbel hbox
      rw [HAD.out]
      go_wp2_with (first
        | (go_at_call 10; (with_reducible refine (push_n (HK.out.below ((Below.refl _ wr).alloc (Nat.le_refl _) _)) (by rw [List.length_take]; omega) HX.out rfl).mono ?_); rintro e w2 ⟨rfl, hs, hf⟩; have H2 := Lib.hid (And.intro hs hf); clear hs hf))
      go_roundw
      case rel =>
        have b1 := HBE.out.alloc HBE.out.size (.cells #[i64 id, i64 sp, .string en] 27)
        exact ⟨k + 1, by omega, by go_num, Lib.hid H2.out.1, b1.trans (below_of_fr H2.out.2 b1.size)⟩
      case measure => simp [intOf]; omega
    · have hkn : k = n := by omega
      have hes : l.take k = l := List.take_of_length_le (by rw [HN.out]; omega)
      rw [hes] at HK
      obtain ⟨a, ha⟩ : ∃ a, inB 0 [nm] l = a := ⟨_, rfl⟩
      obtain ⟨b, hb⟩ : ∃ b, inB 1 [nm] l = b := ⟨_, rfl⟩
      obtain ⟨c2, hc2⟩ : ∃ c, inB 2 [nm] l = c := ⟨_, rfl⟩
      obtain ⟨q1, q2, q3, q4⟩ := scopes_law [nm] l
      rw [ha] at q1 q2 q3
      rw [hb] at q1
      rw [hc2] at q2
      have HABC := Lib.hid (And.intro ha (And.intro hb (And.intro hc2 (And.intro q3 q4))))
      have hcase : (a = false ∧ b = false ∧ c2 = false) ∨ (a = false ∧ b = false ∧ c2 = true) ∨ (a = true ∧ b = false ∧ c2 = true) ∨ (a = true ∧ b = true ∧ c2 = true) := by
        cases a <;> cases b <;> cases c2 <;> simp_all
      clear hes ha hb hc2 q1 q2 q3 q4 hbel
      rcases hcase with ⟨rfl, rfl, rfl⟩ | ⟨rfl, rfl, rfl⟩ | ⟨rfl, rfl, rfl⟩ | ⟨rfl, rfl, rfl⟩
      all_goals
        go_wp2_with (first
          | (go_at_call 11; (with_reducible refine (in_n (HK.out.below ((Below.refl _ wr).alloc (Nat.le_refl _) _)) (NamesAt.one wr nm 9) HABC.out.1).mono ?_); rintro e w2 ⟨rfl, hb⟩; have hb2 := ((Below.refl _ wr).alloc (Nat.le_refl _) _).trans (hb.mono (by simp)); have H2 := Lib.hid (And.intro (HK.out.below hb2) (HBE.out.trans (hb2.mono HBE.out.size))); clear hb hb2)
          | (go_at_call 11; (with_reducible refine (in_n (H2.out.1.below ((Below.refl _ w2).alloc (Nat.le_refl _) _)) (NamesAt.one w2 nm 9) HABC.out.2.1).mono ?_); rintro e w3 ⟨rfl, hb⟩; have hb2 := ((Below.refl _ w2).alloc (Nat.le_refl _) _).trans (hb.mono (by simp)); have H3 := Lib.hid (And.intro (H2.out.1.below hb2) (H2.out.2.trans (hb2.mono H2.out.2.size))); clear hb hb2)
          | (go_at_call 11; (with_reducible refine (in_n (H3.out.1.below ((Below.refl _ w3).alloc (Nat.le_refl _) _)) (NamesAt.one w3 nm 9) HABC.out.2.2.1).mono ?_); rintro e w4 ⟨rfl, hb⟩; have hb2 := ((Below.refl _ w3).alloc (Nat.le_refl _) _).trans (hb.mono (by simp)); have H4 := Lib.hid (And.intro (H3.out.1.below hb2) (H3.out.2.trans (hb2.mono H3.out.2.size))); clear hb hb2)
          | (go_at_call 11; (with_reducible refine (in_n (H4.out.1.below ((Below.refl _ w4).alloc (Nat.le_refl _) _)) (NamesAt.one w4 nm 9) HABC.out.2.2.2.1).mono ?_); rintro e w5 ⟨rfl, hb⟩; have hb2 := ((Below.refl _ w4).alloc (Nat.le_refl _) _).trans (hb.mono (by simp)); have H5 := Lib.hid (And.intro (H4.out.1.below hb2) (H4.out.2.trans (hb2.mono H4.out.2.size))); clear hb hb2)
          | (go_at_call 11; (with_reducible refine (in_n H5.out.1 (NamesAt.nil w5 none 0) HABC.out.2.2.2.2).mono ?_); rintro e w6 ⟨rfl, hb⟩; have H6 := Lib.hid (H5.out.2.trans (hb.mono H5.out.2.size)); clear hb)
          | (go_at_call 9; (with_reducible refine (cell_any _).mono ?_); rintro e w7 ⟨rfl, hb⟩; have H7 := Lib.hid hb; clear hb))
      all_goals go_ret
      all_goals exact ⟨rfl, H6.out.trans (H7.out.mono H6.out.size)⟩

theorem stackScopes_walk {w : World} {v : Value} {l : List Ent} {nm : ByteArray} (h : EntsAt w v l) : Calls Try.prog 3 #[v, .string nm] w fun e w' => e = .returned (.bool true) ∧ Below w.heap.size w w' := by
  by_cases hb : 100 < l.length
  · exact scopes_long h hb
  · exact scopes_main h (by omega)

namespace stackScopes
open Go.ChangeShapes Go.WideShapes Go.ChangeAt Go.RowKit Go.Joins Go.Deep
open Go.ChangeMaps (open_string shut_string)
set_option linter.unusedVariables false
set_option maxRecDepth 100000 in
theorem lifted (os : Os) (started : os.Started) (H : Type) (enc : TypeId × Value → H) :
    ReturnsInHanded {} Try.checked os 3 .any (Rows.stackScopesSpec.pre6 enc Try.prog Try.f3 Rows.stackScopesRow.domain false) (Rows.stackScopesSpec.post enc Try.prog Try.f3 false true false false) := by
  refine returnsInHanded_of_change_sized (C := Try.checked) own started (by kernel_rfl) Try.func3
    (ChangeSpec.witness6 (enc := enc) (C := Try.checked) false ⟨#[], #[.slice none 0 0, .string ByteArray.empty], []⟩ 8 (by kernel_rfl) (by kernel_rfl) (by kernel_rfl) (by kernel_rfl)) ?_
  intro W base args ds gs before hval0 hW hcnd hsz0 _
  have hval : ∀ (j : Nat) t v, Try.f3.params[j]? = some t → args[j]? = some v → Value.okWide Try.prog W .any base t v := hval0
  have hW' := hW
  obtain ⟨p, q, hA0, hV, rfl, hfz, hnd⟩ := hW
  have hA : DataW.TrodAll enc Try.prog W 0 (fun _ => true) true Try.f3.params.toList args.toList ds p := hA0
  rw [Try.params3] at hA hval
  obtain ⟨v0, vs0, d0, ds0, p0, q0, hargs, rfl, rfl, h0, r0⟩ := trodAll_cons hA
  obtain ⟨v1, vs1, d1, ds1, p1, q1, rfl, rfl, rfl, h1, r1⟩ := trodAll_cons r0
  obtain ⟨rfl, rfl, rfl⟩ := trodAll_nil r1
  obtain rfl : args = #[v0, v1] := by cases args; simp_all
  obtain ⟨rfl, rfl⟩ := trodVars_none hV
  have h0k := h0
  have hlt0 : ∀ x ∈ p0, x.block < W.heap.size := fun x hx => by simpa using hW'.lt x (by simp [hx])
  obtain ⟨l0, hl0, hw0⟩ := open_ents (hval 0 22 v0 rfl rfl) h0
  obtain ⟨a1, rfl, rfl, rfl, w1⟩ := open_string Try.underlying9 (hval 1 9 v1 rfl rfl) h1
  clear hA0 hval0 hsz0
  refine (stackScopes_walk hl0).mono fun e W' ⟨he, bel⟩ => ?_
  subst he
  exact ⟨_, rfl, _, _, _, [], _, [], hW', trodAll_mk1 (shut_bool Try.underlying4 _), (trodAll_cons_mk (Below.trod laid (by kernel_rfl) (of_decide_eq_true (by kernel_rfl)) h0k bel hlt0) (trodAll_cons_mk (shut_string Try.underlying9 w1) trodAll_mk0)), rfl, bel.frame _, fun h => by cases h⟩
theorem over : Rows.stackScopesRow.holds Try.pinned (OpenSpec.ofChange Rows.stackScopesSpec) :=
  OpenClaim.holds_of_wide 3 Try.f3 rfl rfl rfl rfl rfl rfl rfl ⟨rfl, rfl, rfl, rfl, rfl⟩ rfl rfl rfl rfl rfl (by kernel_rfl) Try.func3 (by kernel_rfl)
    (of_decide_eq_true (by kernel_rfl)) (by unfold Func.isWrapper; first | (rw [if_pos (by decide +kernel)]; kernel_rfl) | (rw [if_neg (by decide +kernel)]; exact ⟨rfl, rfl⟩))
    (fun os started H enc _ => lifted os started H enc)
end stackScopes
/-- The row: whatever the input, true. -/
theorem stackScopes_holds : Rows.StackScopesSaid := stackScopes.over


end Go.Proofs.Ytdagjpiakbfjpaa
