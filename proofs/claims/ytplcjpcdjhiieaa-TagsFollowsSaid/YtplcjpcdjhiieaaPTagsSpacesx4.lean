-- PRINTED BY print.sh 35421559b90ae4d0a3588c463048766b98c2df88dd9212a6774a882060cdf62d: not written by this session
import Derived.Test.YtplcjpcdjhiieaaPTagsSpacesx0
import Derived.Test.YtplcjpcdjhiieaaPTagsSpacesx1
import Derived.Test.YtplcjpcdjhiieaaPTagsSpacesx2
import Derived.Test.YtplcjpcdjhiieaaPTagsSpacesx3
namespace Go.Proofs.Ytplcjpcdjhiieaa.PTagsSpaces
open Go.RowKit Go.Proofs.YtplcjpcdjhiieaaW.PrintWords Go.Proofs.YtplcjpcdjhiieaaW.PrintLast Go.Proofs.YtplcjpcdjhiieaaW.PrintMore
attribute [local go_sem] max2_int min2_int max_two min_two max_three min_three max_four min_four   -- for this text's walks alone
set_option linter.unusedVariables false
set_option linter.unusedSimpArgs false

/-! ### rectolaw07_td: function 15 -/
def rectolaw07_td.f (k : Nat)  : Option (Bool) := (tags_Group.f k (⟨#[116, 100]⟩ : ByteArray)).bind fun t104 => (if t104 = 2 then ((tags_Special.f k 0 (⟨#[116, 100]⟩ : ByteArray)).bind fun t105 => (if t105 = true then ((tags_Ends.f 0 (⟨#[116, 100]⟩ : ByteArray)).bind fun t106 => (if t106 = true then ((tags_Ends.f 1 (⟨#[116, 100]⟩ : ByteArray)).bind fun t107 => (if t107 = true then (some false) else ((tags_Breaks.f (⟨#[98]⟩ : ByteArray)).bind fun t108 => (if t108 = true then ((tags_Again.f 2 (⟨#[109, 105]⟩ : ByteArray)).bind fun t109 => (some (t109 == 1))) else (some false))))) else (some false))) else (some false))) else (some false))
theorem rectolaw07_td.mono : ∀ k, LeO (rectolaw07_td.f k ) (rectolaw07_td.f (k + 1) ) := by
  intro  k
  unfold rectolaw07_td.f
  repeat' first
      | (with_reducible exact tags_Group.mono _ _)
      | (with_reducible exact tags_Special.mono _ _ _)
      | (with_reducible exact LeO.refl _)
      | (with_reducible exact LeO.none _)
      | (with_reducible refine LeO.ite ?_ ?_)
      | (with_reducible refine LeO.bind ?_ (fun _ => ?_))
      | exact tags_Group.mono _ _
      | exact tags_Special.mono _ _ _
      | exact LeO.none _
      | refine LeO.ite ?_ ?_
      | refine LeO.bind ?_ (fun _ => ?_)
set_option maxHeartbeats 8000000 in
set_option maxRecDepth 100000 in
theorem rectolaw07_td.calls (k : Nat)  (r : Bool) (w : World) (h : rectolaw07_td.f k  = some r) :
    Calls Try.prog 15 #[] w fun e w' => e = .returned (.bool r) ∧ Drawn0 w w' := by
  have H : ((tags_Group.f k (⟨#[116, 100]⟩ : ByteArray)).bind fun t104 => (if t104 = 2 then ((tags_Special.f k 0 (⟨#[116, 100]⟩ : ByteArray)).bind fun t105 => (if t105 = true then ((tags_Ends.f 0 (⟨#[116, 100]⟩ : ByteArray)).bind fun t106 => (if t106 = true then ((tags_Ends.f 1 (⟨#[116, 100]⟩ : ByteArray)).bind fun t107 => (if t107 = true then (some false) else ((tags_Breaks.f (⟨#[98]⟩ : ByteArray)).bind fun t108 => (if t108 = true then ((tags_Again.f 2 (⟨#[109, 105]⟩ : ByteArray)).bind fun t109 => (some (t109 == 1))) else (some false))))) else (some false))) else (some false))) else (some false))) = some r := h
  clear h
  replace H := Option.bind_eq_some_iff.mp H
  obtain ⟨t104, A10, H⟩ := H
  replace H : (if t104 = 2 then ((tags_Special.f k 0 (⟨#[116, 100]⟩ : ByteArray)).bind fun t105 => (if t105 = true then ((tags_Ends.f 0 (⟨#[116, 100]⟩ : ByteArray)).bind fun t106 => (if t106 = true then ((tags_Ends.f 1 (⟨#[116, 100]⟩ : ByteArray)).bind fun t107 => (if t107 = true then (some false) else ((tags_Breaks.f (⟨#[98]⟩ : ByteArray)).bind fun t108 => (if t108 = true then ((tags_Again.f 2 (⟨#[109, 105]⟩ : ByteArray)).bind fun t109 => (some (t109 == 1))) else (some false))))) else (some false))) else (some false))) else (some false)) = some r := H
  have A1 := Aside0.mk A10
  clear A10
  by_cases c2 : t104 = 2
  · rw [if_pos c2] at H
    have c2b0 : (t104 == 2) = true := beq_iff_eq.mpr c2
    have c2b1 : (t104 != 2) = false := bne_eq_false_iff_eq.mpr c2
    clear c2
    replace H := Option.bind_eq_some_iff.mp H
    obtain ⟨t105, A30, H⟩ := H
    replace H : (if t105 = true then ((tags_Ends.f 0 (⟨#[116, 100]⟩ : ByteArray)).bind fun t106 => (if t106 = true then ((tags_Ends.f 1 (⟨#[116, 100]⟩ : ByteArray)).bind fun t107 => (if t107 = true then (some false) else ((tags_Breaks.f (⟨#[98]⟩ : ByteArray)).bind fun t108 => (if t108 = true then ((tags_Again.f 2 (⟨#[109, 105]⟩ : ByteArray)).bind fun t109 => (some (t109 == 1))) else (some false))))) else (some false))) else (some false)) = some r := H
    have A3 := Aside0.mk A30
    clear A30
    by_cases c4 : t105 = true
    · subst c4
      have H1 : ((tags_Ends.f 0 (⟨#[116, 100]⟩ : ByteArray)).bind fun t106 => (if t106 = true then ((tags_Ends.f 1 (⟨#[116, 100]⟩ : ByteArray)).bind fun t107 => (if t107 = true then (some false) else ((tags_Breaks.f (⟨#[98]⟩ : ByteArray)).bind fun t108 => (if t108 = true then ((tags_Again.f 2 (⟨#[109, 105]⟩ : ByteArray)).bind fun t109 => (some (t109 == 1))) else (some false))))) else (some false))) = some r := by rw [if_pos rfl] at H; exact H
      clear H
      have H := H1
      clear H1
      replace H := Option.bind_eq_some_iff.mp H
      obtain ⟨t106, A50, H⟩ := H
      replace H : (if t106 = true then ((tags_Ends.f 1 (⟨#[116, 100]⟩ : ByteArray)).bind fun t107 => (if t107 = true then (some false) else ((tags_Breaks.f (⟨#[98]⟩ : ByteArray)).bind fun t108 => (if t108 = true then ((tags_Again.f 2 (⟨#[109, 105]⟩ : ByteArray)).bind fun t109 => (some (t109 == 1))) else (some false))))) else (some false)) = some r := H
      have A5 := Aside0.mk A50
      clear A50
      by_cases c6 : t106 = true
      · subst c6
        have H1 : ((tags_Ends.f 1 (⟨#[116, 100]⟩ : ByteArray)).bind fun t107 => (if t107 = true then (some false) else ((tags_Breaks.f (⟨#[98]⟩ : ByteArray)).bind fun t108 => (if t108 = true then ((tags_Again.f 2 (⟨#[109, 105]⟩ : ByteArray)).bind fun t109 => (some (t109 == 1))) else (some false))))) = some r := by rw [if_pos rfl] at H; exact H
        clear H
        have H := H1
        clear H1
        replace H := Option.bind_eq_some_iff.mp H
        obtain ⟨t107, A70, H⟩ := H
        replace H : (if t107 = true then (some false) else ((tags_Breaks.f (⟨#[98]⟩ : ByteArray)).bind fun t108 => (if t108 = true then ((tags_Again.f 2 (⟨#[109, 105]⟩ : ByteArray)).bind fun t109 => (some (t109 == 1))) else (some false)))) = some r := H
        have A7 := Aside0.mk A70
        clear A70
        by_cases c8 : t107 = true
        · subst c8
          have H1 : (some false) = some r := by rw [if_pos rfl] at H; exact H
          clear H
          have H := H1
          clear H1
          obtain rfl := Option.some.inj H
          go_enter Try.func15, Try.ntmps15
          go_wp2_with (first | ((with_reducible refine gate_callee (f := 16) rfl ?_); refine goesL_ (some 1) rfl rfl Try.func16 (by kernel_rfl) rfl #[.string (⟨#[116, 100]⟩ : ByteArray)] rfl (by (try simp only [List.map_toArray, List.map_cons, List.map_nil]); first | done | rfl | (simp only [List.length_drop, List.length_take]; rfl)) ?_; (with_reducible refine (tags_Group.calls k (⟨#[116, 100]⟩ : ByteArray) t104 _ A1.out).mono ?_); rintro e w' ⟨rfl, ⟨nd, rfl⟩⟩; refine ⟨_, rfl, ?_⟩) | (go_at_call 7; (with_reducible refine (tags_Special.calls k 0 (⟨#[116, 100]⟩ : ByteArray) true _ A3.out).mono ?_); rintro e w' ⟨rfl, ⟨nd, rfl⟩⟩) | (go_at_call 9; (with_reducible refine (tags_Ends.calls 0 (⟨#[116, 100]⟩ : ByteArray) true _ A5.out).mono ?_); rintro e w' ⟨rfl, ⟨nd, rfl⟩⟩) | (go_at_call 9; (with_reducible refine (tags_Ends.calls 1 (⟨#[116, 100]⟩ : ByteArray) true _ A7.out).mono ?_); rintro e w' ⟨rfl, ⟨nd, rfl⟩⟩))
          go_ret
          exact ⟨by first | rfl | (simp; done) | (simp [*]; done), by repeat (first | exact Drawn0.refl _ | apply Drawn0.step)⟩
        · replace c8 := Bool.eq_false_iff.mpr c8
          subst c8
          have H1 : ((tags_Breaks.f (⟨#[98]⟩ : ByteArray)).bind fun t108 => (if t108 = true then ((tags_Again.f 2 (⟨#[109, 105]⟩ : ByteArray)).bind fun t109 => (some (t109 == 1))) else (some false))) = some r := by rw [if_neg (show ¬ (false = true) by decide)] at H; exact H
          clear H
          have H := H1
          clear H1
          replace H := Option.bind_eq_some_iff.mp H
          obtain ⟨t108, A90, H⟩ := H
          replace H : (if t108 = true then ((tags_Again.f 2 (⟨#[109, 105]⟩ : ByteArray)).bind fun t109 => (some (t109 == 1))) else (some false)) = some r := H
          have A9 := Aside0.mk A90
          clear A90
          by_cases c10 : t108 = true
          · subst c10
            have H1 : ((tags_Again.f 2 (⟨#[109, 105]⟩ : ByteArray)).bind fun t109 => (some (t109 == 1))) = some r := by rw [if_pos rfl] at H; exact H
            clear H
            have H := H1
            clear H1
            replace H := Option.bind_eq_some_iff.mp H
            obtain ⟨t109, A110, H⟩ := H
            replace H : (some (t109 == 1)) = some r := H
            have A11 := Aside0.mk A110
            clear A110
            obtain rfl := Option.some.inj H
            go_enter Try.func15, Try.ntmps15
            go_wp2_with (first | ((with_reducible refine gate_callee (f := 16) rfl ?_); refine goesL_ (some 1) rfl rfl Try.func16 (by kernel_rfl) rfl #[.string (⟨#[116, 100]⟩ : ByteArray)] rfl (by (try simp only [List.map_toArray, List.map_cons, List.map_nil]); first | done | rfl | (simp only [List.length_drop, List.length_take]; rfl)) ?_; (with_reducible refine (tags_Group.calls k (⟨#[116, 100]⟩ : ByteArray) t104 _ A1.out).mono ?_); rintro e w' ⟨rfl, ⟨nd, rfl⟩⟩; refine ⟨_, rfl, ?_⟩) | (go_at_call 7; (with_reducible refine (tags_Special.calls k 0 (⟨#[116, 100]⟩ : ByteArray) true _ A3.out).mono ?_); rintro e w' ⟨rfl, ⟨nd, rfl⟩⟩) | (go_at_call 9; (with_reducible refine (tags_Ends.calls 0 (⟨#[116, 100]⟩ : ByteArray) true _ A5.out).mono ?_); rintro e w' ⟨rfl, ⟨nd, rfl⟩⟩) | (go_at_call 9; (with_reducible refine (tags_Ends.calls 1 (⟨#[116, 100]⟩ : ByteArray) false _ A7.out).mono ?_); rintro e w' ⟨rfl, ⟨nd, rfl⟩⟩) | (go_at_call 11; (with_reducible refine (tags_Breaks.calls (⟨#[98]⟩ : ByteArray) true _ A9.out).mono ?_); rintro e w' ⟨rfl, ⟨nd, rfl⟩⟩) | (go_at_call 13; (with_reducible refine (tags_Again.calls 2 (⟨#[109, 105]⟩ : ByteArray) t109 _ A11.out).mono ?_); rintro e w' ⟨rfl, ⟨nd, rfl⟩⟩))
            go_ret
            exact ⟨by first | rfl | (simp; done) | (simp [*]; done), by repeat (first | exact Drawn0.refl _ | apply Drawn0.step)⟩
          · replace c10 := Bool.eq_false_iff.mpr c10
            subst c10
            have H1 : (some false) = some r := by rw [if_neg (show ¬ (false = true) by decide)] at H; exact H
            clear H
            have H := H1
            clear H1
            obtain rfl := Option.some.inj H
            go_enter Try.func15, Try.ntmps15
            go_wp2_with (first | ((with_reducible refine gate_callee (f := 16) rfl ?_); refine goesL_ (some 1) rfl rfl Try.func16 (by kernel_rfl) rfl #[.string (⟨#[116, 100]⟩ : ByteArray)] rfl (by (try simp only [List.map_toArray, List.map_cons, List.map_nil]); first | done | rfl | (simp only [List.length_drop, List.length_take]; rfl)) ?_; (with_reducible refine (tags_Group.calls k (⟨#[116, 100]⟩ : ByteArray) t104 _ A1.out).mono ?_); rintro e w' ⟨rfl, ⟨nd, rfl⟩⟩; refine ⟨_, rfl, ?_⟩) | (go_at_call 7; (with_reducible refine (tags_Special.calls k 0 (⟨#[116, 100]⟩ : ByteArray) true _ A3.out).mono ?_); rintro e w' ⟨rfl, ⟨nd, rfl⟩⟩) | (go_at_call 9; (with_reducible refine (tags_Ends.calls 0 (⟨#[116, 100]⟩ : ByteArray) true _ A5.out).mono ?_); rintro e w' ⟨rfl, ⟨nd, rfl⟩⟩) | (go_at_call 9; (with_reducible refine (tags_Ends.calls 1 (⟨#[116, 100]⟩ : ByteArray) false _ A7.out).mono ?_); rintro e w' ⟨rfl, ⟨nd, rfl⟩⟩) | (go_at_call 11; (with_reducible refine (tags_Breaks.calls (⟨#[98]⟩ : ByteArray) false _ A9.out).mono ?_); rintro e w' ⟨rfl, ⟨nd, rfl⟩⟩))
            go_ret
            exact ⟨by first | rfl | (simp; done) | (simp [*]; done), by repeat (first | exact Drawn0.refl _ | apply Drawn0.step)⟩
      · replace c6 := Bool.eq_false_iff.mpr c6
        subst c6
        have H1 : (some false) = some r := by rw [if_neg (show ¬ (false = true) by decide)] at H; exact H
        clear H
        have H := H1
        clear H1
        obtain rfl := Option.some.inj H
        go_enter Try.func15, Try.ntmps15
        go_wp2_with (first | ((with_reducible refine gate_callee (f := 16) rfl ?_); refine goesL_ (some 1) rfl rfl Try.func16 (by kernel_rfl) rfl #[.string (⟨#[116, 100]⟩ : ByteArray)] rfl (by (try simp only [List.map_toArray, List.map_cons, List.map_nil]); first | done | rfl | (simp only [List.length_drop, List.length_take]; rfl)) ?_; (with_reducible refine (tags_Group.calls k (⟨#[116, 100]⟩ : ByteArray) t104 _ A1.out).mono ?_); rintro e w' ⟨rfl, ⟨nd, rfl⟩⟩; refine ⟨_, rfl, ?_⟩) | (go_at_call 7; (with_reducible refine (tags_Special.calls k 0 (⟨#[116, 100]⟩ : ByteArray) true _ A3.out).mono ?_); rintro e w' ⟨rfl, ⟨nd, rfl⟩⟩) | (go_at_call 9; (with_reducible refine (tags_Ends.calls 0 (⟨#[116, 100]⟩ : ByteArray) false _ A5.out).mono ?_); rintro e w' ⟨rfl, ⟨nd, rfl⟩⟩))
        go_ret
        exact ⟨by first | rfl | (simp; done) | (simp [*]; done), by repeat (first | exact Drawn0.refl _ | apply Drawn0.step)⟩
    · replace c4 := Bool.eq_false_iff.mpr c4
      subst c4
      have H1 : (some false) = some r := by rw [if_neg (show ¬ (false = true) by decide)] at H; exact H
      clear H
      have H := H1
      clear H1
      obtain rfl := Option.some.inj H
      go_enter Try.func15, Try.ntmps15
      go_wp2_with (first | ((with_reducible refine gate_callee (f := 16) rfl ?_); refine goesL_ (some 1) rfl rfl Try.func16 (by kernel_rfl) rfl #[.string (⟨#[116, 100]⟩ : ByteArray)] rfl (by (try simp only [List.map_toArray, List.map_cons, List.map_nil]); first | done | rfl | (simp only [List.length_drop, List.length_take]; rfl)) ?_; (with_reducible refine (tags_Group.calls k (⟨#[116, 100]⟩ : ByteArray) t104 _ A1.out).mono ?_); rintro e w' ⟨rfl, ⟨nd, rfl⟩⟩; refine ⟨_, rfl, ?_⟩) | (go_at_call 7; (with_reducible refine (tags_Special.calls k 0 (⟨#[116, 100]⟩ : ByteArray) false _ A3.out).mono ?_); rintro e w' ⟨rfl, ⟨nd, rfl⟩⟩))
      go_ret
      exact ⟨by first | rfl | (simp; done) | (simp [*]; done), by repeat (first | exact Drawn0.refl _ | apply Drawn0.step)⟩
  · rw [if_neg c2] at H
    have c2b0 : (t104 == 2) = false := beq_eq_false_iff_ne.mpr c2
    have c2b1 : (t104 != 2) = true := bne_iff_ne.mpr c2
    obtain rfl := Option.some.inj H
    go_enter Try.func15, Try.ntmps15
    go_wp2_with (first | ((with_reducible refine gate_callee (f := 16) rfl ?_); refine goesL_ (some 1) rfl rfl Try.func16 (by kernel_rfl) rfl #[.string (⟨#[116, 100]⟩ : ByteArray)] rfl (by (try simp only [List.map_toArray, List.map_cons, List.map_nil]); first | done | rfl | (simp only [List.length_drop, List.length_take]; rfl)) ?_; (with_reducible refine (tags_Group.calls k (⟨#[116, 100]⟩ : ByteArray) t104 _ A1.out).mono ?_); rintro e w' ⟨rfl, ⟨nd, rfl⟩⟩; refine ⟨_, rfl, ?_⟩))
    go_ret
    exact ⟨by first | rfl | (simp; done) | (simp [*]; done), by repeat (first | exact Drawn0.refl _ | apply Drawn0.step)⟩

/-! ### rectolaw07_TagsSpaces: function 4 -/
def rectolaw07_TagsSpaces.j0 : Nat → Int → ByteArray → Bool → Option (Bool)
  | 0, _, _, _ => none
  | k + 1, x0, x1, x10 => if x10 = true then ((rectolaw07_td.f k).bind fun t110 => (some t110)) else ((tags_Special.f k x0 x1).bind fun t111 => (if t111 = true then (some false) else ((tags_Ends.f x0 x1).bind fun t112 => (if t112 = true then (some false) else ((tags_Again.f x0 x1).bind fun t113 => (if t113 = 0 then ((rectolaw07_td.f k).bind fun t114 => (some t114)) else (some false)))))))
def rectolaw07_TagsSpaces.f (k : Nat) (a0 : Int) (a1 : ByteArray) : Option (Bool) := if a0 ≥ 0 then (rectolaw07_TagsSpaces.j0 k a0 a1 (decide (a0 ≤ 2))) else (rectolaw07_TagsSpaces.j0 k a0 a1 false)
theorem rectolaw07_TagsSpaces.mono_l : ∀ k, (∀ y0 y1 y2, LeO (rectolaw07_TagsSpaces.j0 k y0 y1 y2) (rectolaw07_TagsSpaces.j0 (k + 1) y0 y1 y2))
  | 0 => fun _ _ _ r h => by simp [rectolaw07_TagsSpaces.j0] at h
  | k + 1 => by
    have ih0 := rectolaw07_TagsSpaces.mono_l k
    · intro y0 y1 y2
      unfold rectolaw07_TagsSpaces.j0
      repeat' first
      | (with_reducible exact ih0 _ _ _)
      | (with_reducible exact rectolaw07_td.mono _)
      | (with_reducible exact tags_Special.mono _ _ _)
      | (with_reducible exact LeO.refl _)
      | (with_reducible exact LeO.none _)
      | (with_reducible refine LeO.ite ?_ ?_)
      | (with_reducible refine LeO.bind ?_ (fun _ => ?_))
      | exact ih0 _ _ _
      | exact rectolaw07_td.mono _
      | exact tags_Special.mono _ _ _
      | exact LeO.none _
      | refine LeO.ite ?_ ?_
      | refine LeO.bind ?_ (fun _ => ?_)
theorem rectolaw07_TagsSpaces.mono : ∀ a0 a1 k, LeO (rectolaw07_TagsSpaces.f k a0 a1) (rectolaw07_TagsSpaces.f (k + 1) a0 a1) := by
  intro a0 a1 k
  have ih0 := rectolaw07_TagsSpaces.mono_l k
  unfold rectolaw07_TagsSpaces.f
  repeat' first
      | (with_reducible exact ih0 _ _ _)
      | (with_reducible exact rectolaw07_td.mono _)
      | (with_reducible exact tags_Special.mono _ _ _)
      | (with_reducible exact LeO.refl _)
      | (with_reducible exact LeO.none _)
      | (with_reducible refine LeO.ite ?_ ?_)
      | (with_reducible refine LeO.bind ?_ (fun _ => ?_))
      | exact ih0 _ _ _
      | exact rectolaw07_td.mono _
      | exact tags_Special.mono _ _ _
      | exact LeO.none _
      | refine LeO.ite ?_ ?_
      | refine LeO.bind ?_ (fun _ => ?_)
set_option maxHeartbeats 8000000 in
set_option maxRecDepth 100000 in
theorem rectolaw07_TagsSpaces.calls (k : Nat) (a0 : Int) (a1 : ByteArray) (r : Bool) (w : World) (h : rectolaw07_TagsSpaces.f k a0 a1 = some r) :
    Calls Try.prog 4 #[.int .i64 a0, .string a1] w fun e w' => e = .returned (.bool r) ∧ Drawn0 w w' := by
  have H : (if a0 ≥ 0 then (rectolaw07_TagsSpaces.j0 k a0 a1 (decide (a0 ≤ 2))) else (rectolaw07_TagsSpaces.j0 k a0 a1 false)) = some r := h
  clear h
  have HC3 := Aside0.mk H
  clear H
  go_enter Try.func4, Try.ntmps4
  go_upto_region 1 with (fail)
  go_cut [10] (fun v10 wc => ∃ (kq : Nat) (x10_2 : Bool), v10 = .bool x10_2 ∧ Aside0 (rectolaw07_TagsSpaces.j0 kq a0 a1 x10_2 = some r) ∧ Aside0 (kq ≤ k) ∧ Drawn0 w wc)
  case first =>
    have H := HC3.out
    clear HC3
    by_cases c4 : a0 ≥ 0
    · rw [if_pos c4] at H
      have c4b0 : decide (0 ≤ a0) = true := decide_eq_true c4
      clear c4
      (first | rw [c4b0] | (simp only [i64_w, i32_w]; rw [c4b0]) | skip)
      have H' := Aside0.mk H
      clear H
      go_wp2
      go_meet
      case rel => exact ⟨_, (decide (a0 ≤ 2)), (by first | rfl | (simp; done) | (simp [*]; done)), H', ⟨by first | omega | exact Nat.le_refl _⟩, by repeat (first | exact Drawn0.refl _ | apply Drawn0.step)⟩
    · rw [if_neg c4] at H
      have c4b0 : decide (0 ≤ a0) = false := decide_eq_false c4
      clear c4
      (first | rw [c4b0] | (simp only [i64_w, i32_w]; rw [c4b0]) | skip)
      have H' := Aside0.mk H
      clear H
      go_wp2
      go_meet
      case rel => exact ⟨_, (false), (by first | rfl | (simp; done) | (simp [*]; done)), H', ⟨by first | omega | exact Nat.le_refl _⟩, by repeat (first | exact Drawn0.refl _ | apply Drawn0.step)⟩
  case rest =>
    clear HC3
    try clear p2
    try clear c4
    try clear c4b0
    obtain ⟨kq, x10_2, rfl, HA, HJ2, ⟨mc2, rfl⟩⟩ := hcut
    cases kq with
    | zero => exact absurd HA.out (by simp [rectolaw07_TagsSpaces.j0])
    | succ kj2 =>
      have H := HA.out
      clear HA
      simp only [rectolaw07_TagsSpaces.j0] at H
      by_cases c5 : x10_2 = true
      · subst c5
        have H1 : ((rectolaw07_td.f kj2).bind fun t110 => (some t110)) = some r := by rw [if_pos rfl] at H; exact H
        clear H
        have H := H1
        clear H1
        replace H := Option.bind_eq_some_iff.mp H
        obtain ⟨t110, A60, H⟩ := H
        replace H : (some t110) = some r := H
        have A6 := Aside0.mk A60
        clear A60
        obtain rfl := Option.some.inj H
        go_wp2_with (first | ((with_reducible refine gate_callee (f := 15) rfl ?_); refine goesL_ (some 11) rfl rfl Try.func15 (by kernel_rfl) rfl #[] rfl (by (try simp only [List.map_toArray, List.map_cons, List.map_nil]); first | done | rfl | (simp only [List.length_drop, List.length_take]; rfl)) ?_; (with_reducible refine (rectolaw07_td.calls kj2  t110 _ A6.out).mono ?_); rintro e w' ⟨rfl, ⟨nd, rfl⟩⟩; refine ⟨_, rfl, ?_⟩))
        go_ret
        exact ⟨by first | rfl | (simp; done) | (simp [*]; done), by repeat (first | exact Drawn0.refl _ | apply Drawn0.step)⟩
      · replace c5 := Bool.eq_false_iff.mpr c5
        subst c5
        have H1 : ((tags_Special.f kj2 a0 a1).bind fun t111 => (if t111 = true then (some false) else ((tags_Ends.f a0 a1).bind fun t112 => (if t112 = true then (some false) else ((tags_Again.f a0 a1).bind fun t113 => (if t113 = 0 then ((rectolaw07_td.f kj2).bind fun t114 => (some t114)) else (some false))))))) = some r := by rw [if_neg (show ¬ (false = true) by decide)] at H; exact H
        clear H
        have H := H1
        clear H1
        replace H := Option.bind_eq_some_iff.mp H
        obtain ⟨t111, A70, H⟩ := H
        replace H : (if t111 = true then (some false) else ((tags_Ends.f a0 a1).bind fun t112 => (if t112 = true then (some false) else ((tags_Again.f a0 a1).bind fun t113 => (if t113 = 0 then ((rectolaw07_td.f kj2).bind fun t114 => (some t114)) else (some false)))))) = some r := H
        have A7 := Aside0.mk A70
        clear A70
        by_cases c8 : t111 = true
        · subst c8
          have H1 : (some false) = some r := by rw [if_pos rfl] at H; exact H
          clear H
          have H := H1
          clear H1
          obtain rfl := Option.some.inj H
          go_wp2_with (first | ((with_reducible refine gate_callee (f := 7) rfl ?_); refine goesL_ (some 14) rfl rfl Try.func7 (by kernel_rfl) rfl #[.int .i64 a0, .string a1] rfl (by (try simp only [List.map_toArray, List.map_cons, List.map_nil]); first | done | rfl | (simp only [List.length_drop, List.length_take]; rfl)) ?_; (with_reducible refine (tags_Special.calls kj2 a0 a1 true _ A7.out).mono ?_); rintro e w' ⟨rfl, ⟨nd, rfl⟩⟩; refine ⟨_, rfl, ?_⟩))
          go_ret
          exact ⟨by first | rfl | (simp; done) | (simp [*]; done), by repeat (first | exact Drawn0.refl _ | apply Drawn0.step)⟩
        · replace c8 := Bool.eq_false_iff.mpr c8
          subst c8
          have H1 : ((tags_Ends.f a0 a1).bind fun t112 => (if t112 = true then (some false) else ((tags_Again.f a0 a1).bind fun t113 => (if t113 = 0 then ((rectolaw07_td.f kj2).bind fun t114 => (some t114)) else (some false))))) = some r := by rw [if_neg (show ¬ (false = true) by decide)] at H; exact H
          clear H
          have H := H1
          clear H1
          replace H := Option.bind_eq_some_iff.mp H
          obtain ⟨t112, A90, H⟩ := H
          replace H : (if t112 = true then (some false) else ((tags_Again.f a0 a1).bind fun t113 => (if t113 = 0 then ((rectolaw07_td.f kj2).bind fun t114 => (some t114)) else (some false)))) = some r := H
          have A9 := Aside0.mk A90
          clear A90
          by_cases c10 : t112 = true
          · subst c10
            have H1 : (some false) = some r := by rw [if_pos rfl] at H; exact H
            clear H
            have H := H1
            clear H1
            obtain rfl := Option.some.inj H
            go_wp2_with (first | ((with_reducible refine gate_callee (f := 7) rfl ?_); refine goesL_ (some 14) rfl rfl Try.func7 (by kernel_rfl) rfl #[.int .i64 a0, .string a1] rfl (by (try simp only [List.map_toArray, List.map_cons, List.map_nil]); first | done | rfl | (simp only [List.length_drop, List.length_take]; rfl)) ?_; (with_reducible refine (tags_Special.calls kj2 a0 a1 false _ A7.out).mono ?_); rintro e w' ⟨rfl, ⟨nd, rfl⟩⟩; refine ⟨_, rfl, ?_⟩) | (go_at_call 9; (with_reducible refine (tags_Ends.calls a0 a1 true _ A9.out).mono ?_); rintro e w' ⟨rfl, ⟨nd, rfl⟩⟩))
            go_ret
            exact ⟨by first | rfl | (simp; done) | (simp [*]; done), by repeat (first | exact Drawn0.refl _ | apply Drawn0.step)⟩
          · replace c10 := Bool.eq_false_iff.mpr c10
            subst c10
            have H1 : ((tags_Again.f a0 a1).bind fun t113 => (if t113 = 0 then ((rectolaw07_td.f kj2).bind fun t114 => (some t114)) else (some false))) = some r := by rw [if_neg (show ¬ (false = true) by decide)] at H; exact H
            clear H
            have H := H1
            clear H1
            replace H := Option.bind_eq_some_iff.mp H
            obtain ⟨t113, A110, H⟩ := H
            replace H : (if t113 = 0 then ((rectolaw07_td.f kj2).bind fun t114 => (some t114)) else (some false)) = some r := H
            have A11 := Aside0.mk A110
            clear A110
            by_cases c12 : t113 = 0
            · rw [if_pos c12] at H
              have c12b0 : (t113 == 0) = true := beq_iff_eq.mpr c12
              have c12b1 : (t113 != 0) = false := bne_eq_false_iff_eq.mpr c12
              clear c12
              replace H := Option.bind_eq_some_iff.mp H
              obtain ⟨t114, A130, H⟩ := H
              replace H : (some t114) = some r := H
              have A13 := Aside0.mk A130
              clear A130
              obtain rfl := Option.some.inj H
              go_wp2_with (first | ((with_reducible refine gate_callee (f := 7) rfl ?_); refine goesL_ (some 14) rfl rfl Try.func7 (by kernel_rfl) rfl #[.int .i64 a0, .string a1] rfl (by (try simp only [List.map_toArray, List.map_cons, List.map_nil]); first | done | rfl | (simp only [List.length_drop, List.length_take]; rfl)) ?_; (with_reducible refine (tags_Special.calls kj2 a0 a1 false _ A7.out).mono ?_); rintro e w' ⟨rfl, ⟨nd, rfl⟩⟩; refine ⟨_, rfl, ?_⟩) | (go_at_call 9; (with_reducible refine (tags_Ends.calls a0 a1 false _ A9.out).mono ?_); rintro e w' ⟨rfl, ⟨nd, rfl⟩⟩) | (go_at_call 13; (with_reducible refine (tags_Again.calls a0 a1 t113 _ A11.out).mono ?_); rintro e w' ⟨rfl, ⟨nd, rfl⟩⟩) | (go_at_call 15; (with_reducible refine (rectolaw07_td.calls kj2  t114 _ A13.out).mono ?_); rintro e w' ⟨rfl, ⟨nd, rfl⟩⟩))
              go_ret
              exact ⟨by first | rfl | (simp; done) | (simp [*]; done), by repeat (first | exact Drawn0.refl _ | apply Drawn0.step)⟩
            · rw [if_neg c12] at H
              have c12b0 : (t113 == 0) = false := beq_eq_false_iff_ne.mpr c12
              have c12b1 : (t113 != 0) = true := bne_iff_ne.mpr c12
              obtain rfl := Option.some.inj H
              go_wp2_with (first | ((with_reducible refine gate_callee (f := 7) rfl ?_); refine goesL_ (some 14) rfl rfl Try.func7 (by kernel_rfl) rfl #[.int .i64 a0, .string a1] rfl (by (try simp only [List.map_toArray, List.map_cons, List.map_nil]); first | done | rfl | (simp only [List.length_drop, List.length_take]; rfl)) ?_; (with_reducible refine (tags_Special.calls kj2 a0 a1 false _ A7.out).mono ?_); rintro e w' ⟨rfl, ⟨nd, rfl⟩⟩; refine ⟨_, rfl, ?_⟩) | (go_at_call 9; (with_reducible refine (tags_Ends.calls a0 a1 false _ A9.out).mono ?_); rintro e w' ⟨rfl, ⟨nd, rfl⟩⟩) | (go_at_call 13; (with_reducible refine (tags_Again.calls a0 a1 t113 _ A11.out).mono ?_); rintro e w' ⟨rfl, ⟨nd, rfl⟩⟩))
              go_ret
              exact ⟨by first | rfl | (simp; done) | (simp [*]; done), by repeat (first | exact Drawn0.refl _ | apply Drawn0.step)⟩

/-- THE ONE PURE STATEMENT of rectolaw07_TagsSpaces: yours. -/
def rectolaw07_TagsSpaces.Pure : Prop := ∀ (a0 : Int) (a1 : ByteArray), (Lit.int .i64 a0).wf = true → a1.size ≤ 140737488351232 → ∃ k, rectolaw07_TagsSpaces.f k a0 a1 = some true
theorem rectolaw07_TagsSpaces.walk (P : rectolaw07_TagsSpaces.Pure) (a0 : Int) (a1 : ByteArray) (w : World) (w0 : (Lit.int .i64 a0).wf = true) (w1 : a1.size ≤ 140737488351232) :
    Calls Try.prog 4 #[.int .i64 a0, .string a1] w fun e w' => e = .returned (.bool true) ∧ Below w.heap.size w w' := by
  obtain ⟨k, h⟩ := P a0 a1 w0 w1
  refine (rectolaw07_TagsSpaces.calls k a0 a1 true w h).mono ?_
  rintro e w' ⟨rfl, hd⟩
  exact ⟨rfl, hd.below⟩

end Go.Proofs.Ytplcjpcdjhiieaa.PTagsSpaces
