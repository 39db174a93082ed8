-- PRINTED BY print.sh 35421559b90ae4d0a3588c463048766b98c2df88dd9212a6774a882060cdf62d: not written by this session
import Derived.Test.YtplcjpcdjhiieaaPTagsSpacesx0
namespace Go.Proofs.Ytplcjpcdjhiieaa.PTagsSpaces
open Go.RowKit Go.Proofs.YtplcjpcdjhiieaaW.PrintWords Go.Proofs.YtplcjpcdjhiieaaW.PrintLast Go.Proofs.YtplcjpcdjhiieaaW.PrintMore
attribute [local go_sem] max2_int min2_int max_two min_two max_three min_three max_four min_four   -- for this text's walks alone
set_option linter.unusedVariables false
set_option linter.unusedSimpArgs false

/-! ### tags_Again: function 13 -/
def tags_Again.f (a0 : Int) (a1 : ByteArray) : Option (Int) := if a0 = 2 then (if a1.toList = ([109, 105] : List UInt8) then (some 1) else (if a1.toList = ([109, 110] : List UInt8) then (some 1) else (if a1.toList = ([109, 111] : List UInt8) then (some 1) else (if a1.toList = ([109, 115] : List UInt8) then (some 1) else (if a1.toList = ([109, 116, 101, 120, 116] : List UInt8) then (some 1) else (some 0)))))) else (if a0 = 1 then (if a1.toList = ([100, 101, 115, 99] : List UInt8) then (some 2) else (if a1.toList = ([102, 111, 114, 101, 105, 103, 110, 111, 98, 106, 101, 99, 116] : List UInt8) then (some 2) else (if a1.toList = ([116, 105, 116, 108, 101] : List UInt8) then (some 2) else (some 0)))) else (some 0))
set_option maxHeartbeats 8000000 in
set_option maxRecDepth 100000 in
theorem tags_Again.calls (a0 : Int) (a1 : ByteArray) (r : Int) (w : World) (h : tags_Again.f a0 a1 = some r) :
    Calls Try.prog 13 #[.int .i64 a0, .string a1] w fun e w' => e = .returned (.int .i64 r) ∧ Drawn0 w w' := by
  have H : (if a0 = 2 then (if a1.toList = ([109, 105] : List UInt8) then (some 1) else (if a1.toList = ([109, 110] : List UInt8) then (some 1) else (if a1.toList = ([109, 111] : List UInt8) then (some 1) else (if a1.toList = ([109, 115] : List UInt8) then (some 1) else (if a1.toList = ([109, 116, 101, 120, 116] : List UInt8) then (some 1) else (some 0)))))) else (if a0 = 1 then (if a1.toList = ([100, 101, 115, 99] : List UInt8) then (some 2) else (if a1.toList = ([102, 111, 114, 101, 105, 103, 110, 111, 98, 106, 101, 99, 116] : List UInt8) then (some 2) else (if a1.toList = ([116, 105, 116, 108, 101] : List UInt8) then (some 2) else (some 0)))) else (some 0))) = some r := h
  clear h
  by_cases c3 : a0 = 2
  · rw [if_pos c3] at H
    have c3b0 : (a0 == 2) = true := beq_iff_eq.mpr c3
    have c3b1 : (a0 != 2) = false := bne_eq_false_iff_eq.mpr c3
    clear c3
    by_cases c4 : a1.toList = ([109, 105] : List UInt8)
    · rw [if_pos c4] at H
      have c4b0 : (a1.toList == ([109, 105] : List UInt8)) = true := beq_iff_eq.mpr c4
      have c4b1 : (a1.toList != ([109, 105] : List UInt8)) = false := bne_eq_false_iff_eq.mpr c4
      clear c4
      obtain rfl := Option.some.inj H
      go_enter Try.func13, Try.ntmps13
      go_wp2
      go_ret
      exact ⟨by first | rfl | (simp; done) | (simp [*]; done), by repeat (first | exact Drawn0.refl _ | apply Drawn0.step)⟩
    · rw [if_neg c4] at H
      have c4b0 : (a1.toList == ([109, 105] : List UInt8)) = false := beq_eq_false_iff_ne.mpr c4
      have c4b1 : (a1.toList != ([109, 105] : List UInt8)) = true := bne_iff_ne.mpr c4
      by_cases c5 : a1.toList = ([109, 110] : List UInt8)
      · rw [if_pos c5] at H
        have c5b0 : (a1.toList == ([109, 110] : List UInt8)) = true := beq_iff_eq.mpr c5
        have c5b1 : (a1.toList != ([109, 110] : List UInt8)) = false := bne_eq_false_iff_eq.mpr c5
        clear c5
        obtain rfl := Option.some.inj H
        go_enter Try.func13, Try.ntmps13
        go_wp2
        go_ret
        exact ⟨by first | rfl | (simp; done) | (simp [*]; done), by repeat (first | exact Drawn0.refl _ | apply Drawn0.step)⟩
      · rw [if_neg c5] at H
        have c5b0 : (a1.toList == ([109, 110] : List UInt8)) = false := beq_eq_false_iff_ne.mpr c5
        have c5b1 : (a1.toList != ([109, 110] : List UInt8)) = true := bne_iff_ne.mpr c5
        by_cases c6 : a1.toList = ([109, 111] : List UInt8)
        · rw [if_pos c6] at H
          have c6b0 : (a1.toList == ([109, 111] : List UInt8)) = true := beq_iff_eq.mpr c6
          have c6b1 : (a1.toList != ([109, 111] : List UInt8)) = false := bne_eq_false_iff_eq.mpr c6
          clear c6
          obtain rfl := Option.some.inj H
          go_enter Try.func13, Try.ntmps13
          go_wp2
          go_ret
          exact ⟨by first | rfl | (simp; done) | (simp [*]; done), by repeat (first | exact Drawn0.refl _ | apply Drawn0.step)⟩
        · rw [if_neg c6] at H
          have c6b0 : (a1.toList == ([109, 111] : List UInt8)) = false := beq_eq_false_iff_ne.mpr c6
          have c6b1 : (a1.toList != ([109, 111] : List UInt8)) = true := bne_iff_ne.mpr c6
          by_cases c7 : a1.toList = ([109, 115] : List UInt8)
          · rw [if_pos c7] at H
            have c7b0 : (a1.toList == ([109, 115] : List UInt8)) = true := beq_iff_eq.mpr c7
            have c7b1 : (a1.toList != ([109, 115] : List UInt8)) = false := bne_eq_false_iff_eq.mpr c7
            clear c7
            obtain rfl := Option.some.inj H
            go_enter Try.func13, Try.ntmps13
            go_wp2
            go_ret
            exact ⟨by first | rfl | (simp; done) | (simp [*]; done), by repeat (first | exact Drawn0.refl _ | apply Drawn0.step)⟩
          · rw [if_neg c7] at H
            have c7b0 : (a1.toList == ([109, 115] : List UInt8)) = false := beq_eq_false_iff_ne.mpr c7
            have c7b1 : (a1.toList != ([109, 115] : List UInt8)) = true := bne_iff_ne.mpr c7
            by_cases c8 : a1.toList = ([109, 116, 101, 120, 116] : List UInt8)
            · rw [if_pos c8] at H
              have c8b0 : (a1.toList == ([109, 116, 101, 120, 116] : List UInt8)) = true := beq_iff_eq.mpr c8
              have c8b1 : (a1.toList != ([109, 116, 101, 120, 116] : List UInt8)) = false := bne_eq_false_iff_eq.mpr c8
              clear c8
              obtain rfl := Option.some.inj H
              go_enter Try.func13, Try.ntmps13
              go_wp2
              go_ret
              exact ⟨by first | rfl | (simp; done) | (simp [*]; done), by repeat (first | exact Drawn0.refl _ | apply Drawn0.step)⟩
            · rw [if_neg c8] at H
              have c8b0 : (a1.toList == ([109, 116, 101, 120, 116] : List UInt8)) = false := beq_eq_false_iff_ne.mpr c8
              have c8b1 : (a1.toList != ([109, 116, 101, 120, 116] : List UInt8)) = true := bne_iff_ne.mpr c8
              obtain rfl := Option.some.inj H
              go_enter Try.func13, Try.ntmps13
              go_wp2
              go_ret
              exact ⟨by first | rfl | (simp; done) | (simp [*]; done), by repeat (first | exact Drawn0.refl _ | apply Drawn0.step)⟩
  · rw [if_neg c3] at H
    have c3b0 : (a0 == 2) = false := beq_eq_false_iff_ne.mpr c3
    have c3b1 : (a0 != 2) = true := bne_iff_ne.mpr c3
    by_cases c9 : a0 = 1
    · rw [if_pos c9] at H
      have c9b0 : (a0 == 1) = true := beq_iff_eq.mpr c9
      have c9b1 : (a0 != 1) = false := bne_eq_false_iff_eq.mpr c9
      clear c9
      by_cases c10 : a1.toList = ([100, 101, 115, 99] : List UInt8)
      · rw [if_pos c10] at H
        have c10b0 : (a1.toList == ([100, 101, 115, 99] : List UInt8)) = true := beq_iff_eq.mpr c10
        have c10b1 : (a1.toList != ([100, 101, 115, 99] : List UInt8)) = false := bne_eq_false_iff_eq.mpr c10
        clear c10
        obtain rfl := Option.some.inj H
        go_enter Try.func13, Try.ntmps13
        go_wp2
        go_ret
        exact ⟨by first | rfl | (simp; done) | (simp [*]; done), by repeat (first | exact Drawn0.refl _ | apply Drawn0.step)⟩
      · rw [if_neg c10] at H
        have c10b0 : (a1.toList == ([100, 101, 115, 99] : List UInt8)) = false := beq_eq_false_iff_ne.mpr c10
        have c10b1 : (a1.toList != ([100, 101, 115, 99] : List UInt8)) = true := bne_iff_ne.mpr c10
        by_cases c11 : a1.toList = ([102, 111, 114, 101, 105, 103, 110, 111, 98, 106, 101, 99, 116] : List UInt8)
        · rw [if_pos c11] at H
          have c11b0 : (a1.toList == ([102, 111, 114, 101, 105, 103, 110, 111, 98, 106, 101, 99, 116] : List UInt8)) = true := beq_iff_eq.mpr c11
          have c11b1 : (a1.toList != ([102, 111, 114, 101, 105, 103, 110, 111, 98, 106, 101, 99, 116] : List UInt8)) = false := bne_eq_false_iff_eq.mpr c11
          clear c11
          obtain rfl := Option.some.inj H
          go_enter Try.func13, Try.ntmps13
          go_wp2
          go_ret
          exact ⟨by first | rfl | (simp; done) | (simp [*]; done), by repeat (first | exact Drawn0.refl _ | apply Drawn0.step)⟩
        · rw [if_neg c11] at H
          have c11b0 : (a1.toList == ([102, 111, 114, 101, 105, 103, 110, 111, 98, 106, 101, 99, 116] : List UInt8)) = false := beq_eq_false_iff_ne.mpr c11
          have c11b1 : (a1.toList != ([102, 111, 114, 101, 105, 103, 110, 111, 98, 106, 101, 99, 116] : List UInt8)) = true := bne_iff_ne.mpr c11
          by_cases c12 : a1.toList = ([116, 105, 116, 108, 101] : List UInt8)
          · rw [if_pos c12] at H
            have c12b0 : (a1.toList == ([116, 105, 116, 108, 101] : List UInt8)) = true := beq_iff_eq.mpr c12
            have c12b1 : (a1.toList != ([116, 105, 116, 108, 101] : List UInt8)) = false := bne_eq_false_iff_eq.mpr c12
            clear c12
            obtain rfl := Option.some.inj H
            go_enter Try.func13, Try.ntmps13
            go_wp2
            go_ret
            exact ⟨by first | rfl | (simp; done) | (simp [*]; done), by repeat (first | exact Drawn0.refl _ | apply Drawn0.step)⟩
          · rw [if_neg c12] at H
            have c12b0 : (a1.toList == ([116, 105, 116, 108, 101] : List UInt8)) = false := beq_eq_false_iff_ne.mpr c12
            have c12b1 : (a1.toList != ([116, 105, 116, 108, 101] : List UInt8)) = true := bne_iff_ne.mpr c12
            obtain rfl := Option.some.inj H
            go_enter Try.func13, Try.ntmps13
            go_wp2
            go_ret
            exact ⟨by first | rfl | (simp; done) | (simp [*]; done), by repeat (first | exact Drawn0.refl _ | apply Drawn0.step)⟩
    · rw [if_neg c9] at H
      have c9b0 : (a0 == 1) = false := beq_eq_false_iff_ne.mpr c9
      have c9b1 : (a0 != 1) = true := bne_iff_ne.mpr c9
      obtain rfl := Option.some.inj H
      go_enter Try.func13, Try.ntmps13
      go_wp2
      go_ret
      exact ⟨by first | rfl | (simp; done) | (simp [*]; done), by repeat (first | exact Drawn0.refl _ | apply Drawn0.step)⟩

end Go.Proofs.Ytplcjpcdjhiieaa.PTagsSpaces
