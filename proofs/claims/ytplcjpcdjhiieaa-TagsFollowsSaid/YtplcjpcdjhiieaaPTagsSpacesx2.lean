-- PRINTED BY print.sh 35421559b90ae4d0a3588c463048766b98c2df88dd9212a6774a882060cdf62d: not written by this session
import Derived.Test.YtplcjpcdjhiieaaPTagsSpacesx0
namespace Go.Proofs.Ytplcjpcdjhiieaa.PTagsSpaces
open Go.RowKit Go.Proofs.YtplcjpcdjhiieaaW.PrintWords Go.Proofs.YtplcjpcdjhiieaaW.PrintLast Go.Proofs.YtplcjpcdjhiieaaW.PrintMore
attribute [local go_sem] max2_int min2_int max_two min_two max_three min_three max_four min_four   -- for this text's walks alone
set_option linter.unusedVariables false
set_option linter.unusedSimpArgs false

/-! ### tags_Group: function 16 -/
mutual
def tags_Group.j0 : Nat → ByteArray → Bool → Option (Int)
  | 0, _, _ => none
  | k + 1, x3, x4 => if x4 = true then (some 1) else (if x3.toList = ([99, 97, 112, 116, 105, 111, 110] : List UInt8) then (tags_Group.j1 k x3 (x3.toList == ([99, 97, 112, 116, 105, 111, 110] : List UInt8))) else (if x3.toList = ([116, 98, 111, 100, 121] : List UInt8) then (tags_Group.j1 k x3 (x3.toList == ([116, 98, 111, 100, 121] : List UInt8))) else (if x3.toList = ([116, 104, 101, 97, 100] : List UInt8) then (tags_Group.j1 k x3 (x3.toList == ([116, 104, 101, 97, 100] : List UInt8))) else (if x3.toList = ([116, 114] : List UInt8) then (tags_Group.j1 k x3 (x3.toList == ([116, 114] : List UInt8))) else (if x3.toList = ([116, 100] : List UInt8) then (tags_Group.j1 k x3 (x3.toList == ([116, 100] : List UInt8))) else (tags_Group.j1 k x3 (x3.toList == ([116, 104] : List UInt8))))))))
def tags_Group.j1 : Nat → ByteArray → Bool → Option (Int)
  | 0, _, _ => none
  | k + 1, x3, x10 => if x10 = true then (some 2) else (if x3.toList = ([116, 97, 98, 108, 101] : List UInt8) then (some 3) else (if x3.toList = ([98, 108, 111, 99, 107, 113, 117, 111, 116, 101] : List UInt8) then (tags_Group.j2 k x3 (x3.toList == ([98, 108, 111, 99, 107, 113, 117, 111, 116, 101] : List UInt8))) else (if x3.toList = ([100, 105, 118] : List UInt8) then (tags_Group.j2 k x3 (x3.toList == ([100, 105, 118] : List UInt8))) else (if x3.toList = ([111, 108] : List UInt8) then (tags_Group.j2 k x3 (x3.toList == ([111, 108] : List UInt8))) else (if x3.toList = ([115, 101, 99, 116, 105, 111, 110] : List UInt8) then (tags_Group.j2 k x3 (x3.toList == ([115, 101, 99, 116, 105, 111, 110] : List UInt8))) else (tags_Group.j2 k x3 (x3.toList == ([117, 108] : List UInt8))))))))
def tags_Group.j2 : Nat → ByteArray → Bool → Option (Int)
  | 0, _, _ => none
  | k + 1, x3, x19 => if x19 = true then (some 4) else (if x3.toList = ([112] : List UInt8) then (some 5) else (if x3.toList = ([104, 49] : List UInt8) then (tags_Group.j3 k x3 (x3.toList == ([104, 49] : List UInt8))) else (if x3.toList = ([104, 50] : List UInt8) then (tags_Group.j3 k x3 (x3.toList == ([104, 50] : List UInt8))) else (tags_Group.j3 k x3 (x3.toList == ([104, 51] : List UInt8))))))
def tags_Group.j3 : Nat → ByteArray → Bool → Option (Int)
  | 0, _, _ => none
  | k + 1, x3, x27 => if x27 = true then (some 6) else (if x3.toList = ([112, 114, 101] : List UInt8) then (some 7) else (if x3.toList = ([108, 105] : List UInt8) then (some 8) else (if x3.toList = ([97] : List UInt8) then (some 9) else (if x3.toList = ([98] : List UInt8) then (tags_Group.j4 k x3 (x3.toList == ([98] : List UInt8))) else (if x3.toList = ([99, 111, 100, 101] : List UInt8) then (tags_Group.j4 k x3 (x3.toList == ([99, 111, 100, 101] : List UInt8))) else (if x3.toList = ([101, 109] : List UInt8) then (tags_Group.j4 k x3 (x3.toList == ([101, 109] : List UInt8))) else (if x3.toList = ([105] : List UInt8) then (tags_Group.j4 k x3 (x3.toList == ([105] : List UInt8))) else (if x3.toList = ([115, 116, 114, 111, 110, 103] : List UInt8) then (tags_Group.j4 k x3 (x3.toList == ([115, 116, 114, 111, 110, 103] : List UInt8))) else (tags_Group.j4 k x3 (x3.toList == ([117] : List UInt8)))))))))))
def tags_Group.j4 : Nat → ByteArray → Bool → Option (Int)
  | 0, _, _ => none
  | k + 1, x3, x37 => if x37 = true then (some 10) else (if x3.toList = ([98, 114] : List UInt8) then (tags_Group.j5 k x3 (x3.toList == ([98, 114] : List UInt8))) else (if x3.toList = ([105, 109, 103] : List UInt8) then (tags_Group.j5 k x3 (x3.toList == ([105, 109, 103] : List UInt8))) else (if x3.toList = ([105, 110, 112, 117, 116] : List UInt8) then (tags_Group.j5 k x3 (x3.toList == ([105, 110, 112, 117, 116] : List UInt8))) else (tags_Group.j5 k x3 (x3.toList == ([119, 98, 114] : List UInt8))))))
def tags_Group.j5 : Nat → ByteArray → Bool → Option (Int)
  | 0, _, _ => none
  | k + 1, x3, x44 => if x44 = true then (some 11) else (if x3.toList = ([104, 114] : List UInt8) then (some 12) else (if x3.toList = ([116, 105, 116, 108, 101] : List UInt8) then (some 13) else (if x3.toList = ([116, 101, 120, 116, 97, 114, 101, 97] : List UInt8) then (some 14) else (if x3.toList = ([115, 99, 114, 105, 112, 116] : List UInt8) then (tags_Group.j6 k x3 (x3.toList == ([115, 99, 114, 105, 112, 116] : List UInt8))) else (tags_Group.j6 k x3 (x3.toList == ([115, 116, 121, 108, 101] : List UInt8)))))))
def tags_Group.j6 : Nat → ByteArray → Bool → Option (Int)
  | 0, _, _ => none
  | k + 1, x3, x55 => if x55 = true then (some 15) else (if x3.toList = ([120, 109, 112] : List UInt8) then (some 16) else (if x3.toList = ([109, 97, 116, 104] : List UInt8) then (some 17) else (if x3.toList = ([115, 118, 103] : List UInt8) then (some 17) else (some 0))))
end
def tags_Group.f (k : Nat) (a0 : ByteArray) : Option (Int) := if a0.toList = ([104, 116, 109, 108] : List UInt8) then (tags_Group.j0 k a0 (a0.toList == ([104, 116, 109, 108] : List UInt8))) else (if a0.toList = ([104, 101, 97, 100] : List UInt8) then (tags_Group.j0 k a0 (a0.toList == ([104, 101, 97, 100] : List UInt8))) else (if a0.toList = ([98, 111, 100, 121] : List UInt8) then (tags_Group.j0 k a0 (a0.toList == ([98, 111, 100, 121] : List UInt8))) else (if a0.toList = ([102, 114, 97, 109, 101] : List UInt8) then (tags_Group.j0 k a0 (a0.toList == ([102, 114, 97, 109, 101] : List UInt8))) else (tags_Group.j0 k a0 (a0.toList == ([102, 114, 97, 109, 101, 115, 101, 116] : List UInt8))))))
theorem tags_Group.mono_l : ∀ k, (∀ y0 y1, LeO (tags_Group.j0 k y0 y1) (tags_Group.j0 (k + 1) y0 y1)) ∧ (∀ y0 y1, LeO (tags_Group.j1 k y0 y1) (tags_Group.j1 (k + 1) y0 y1)) ∧ (∀ y0 y1, LeO (tags_Group.j2 k y0 y1) (tags_Group.j2 (k + 1) y0 y1)) ∧ (∀ y0 y1, LeO (tags_Group.j3 k y0 y1) (tags_Group.j3 (k + 1) y0 y1)) ∧ (∀ y0 y1, LeO (tags_Group.j4 k y0 y1) (tags_Group.j4 (k + 1) y0 y1)) ∧ (∀ y0 y1, LeO (tags_Group.j5 k y0 y1) (tags_Group.j5 (k + 1) y0 y1)) ∧ (∀ y0 y1, LeO (tags_Group.j6 k y0 y1) (tags_Group.j6 (k + 1) y0 y1))
  | 0 => ⟨fun _ _ r h => by simp [tags_Group.j0] at h, fun _ _ r h => by simp [tags_Group.j1] at h, fun _ _ r h => by simp [tags_Group.j2] at h, fun _ _ r h => by simp [tags_Group.j3] at h, fun _ _ r h => by simp [tags_Group.j4] at h, fun _ _ r h => by simp [tags_Group.j5] at h, fun _ _ r h => by simp [tags_Group.j6] at h⟩
  | k + 1 => by
    obtain ⟨ih0, ih1, ih2, ih3, ih4, ih5, ih6⟩ := tags_Group.mono_l k
    refine ⟨?_, ?_, ?_, ?_, ?_, ?_, ?_⟩
    · intro y0 y1
      unfold tags_Group.j0
      repeat' first
      | (with_reducible exact ih0 _ _)
      | (with_reducible exact ih1 _ _)
      | (with_reducible exact ih2 _ _)
      | (with_reducible exact ih3 _ _)
      | (with_reducible exact ih4 _ _)
      | (with_reducible exact ih5 _ _)
      | (with_reducible exact ih6 _ _)
      | (with_reducible exact LeO.refl _)
      | (with_reducible exact LeO.none _)
      | (with_reducible refine LeO.ite ?_ ?_)
      | (with_reducible refine LeO.bind ?_ (fun _ => ?_))
      | exact ih0 _ _
      | exact ih1 _ _
      | exact ih2 _ _
      | exact ih3 _ _
      | exact ih4 _ _
      | exact ih5 _ _
      | exact ih6 _ _
      | exact LeO.none _
      | refine LeO.ite ?_ ?_
      | refine LeO.bind ?_ (fun _ => ?_)
    · intro y0 y1
      unfold tags_Group.j1
      repeat' first
      | (with_reducible exact ih0 _ _)
      | (with_reducible exact ih1 _ _)
      | (with_reducible exact ih2 _ _)
      | (with_reducible exact ih3 _ _)
      | (with_reducible exact ih4 _ _)
      | (with_reducible exact ih5 _ _)
      | (with_reducible exact ih6 _ _)
      | (with_reducible exact LeO.refl _)
      | (with_reducible exact LeO.none _)
      | (with_reducible refine LeO.ite ?_ ?_)
      | (with_reducible refine LeO.bind ?_ (fun _ => ?_))
      | exact ih0 _ _
      | exact ih1 _ _
      | exact ih2 _ _
      | exact ih3 _ _
      | exact ih4 _ _
      | exact ih5 _ _
      | exact ih6 _ _
      | exact LeO.none _
      | refine LeO.ite ?_ ?_
      | refine LeO.bind ?_ (fun _ => ?_)
    · intro y0 y1
      unfold tags_Group.j2
      repeat' first
      | (with_reducible exact ih0 _ _)
      | (with_reducible exact ih1 _ _)
      | (with_reducible exact ih2 _ _)
      | (with_reducible exact ih3 _ _)
      | (with_reducible exact ih4 _ _)
      | (with_reducible exact ih5 _ _)
      | (with_reducible exact ih6 _ _)
      | (with_reducible exact LeO.refl _)
      | (with_reducible exact LeO.none _)
      | (with_reducible refine LeO.ite ?_ ?_)
      | (with_reducible refine LeO.bind ?_ (fun _ => ?_))
      | exact ih0 _ _
      | exact ih1 _ _
      | exact ih2 _ _
      | exact ih3 _ _
      | exact ih4 _ _
      | exact ih5 _ _
      | exact ih6 _ _
      | exact LeO.none _
      | refine LeO.ite ?_ ?_
      | refine LeO.bind ?_ (fun _ => ?_)
    · intro y0 y1
      unfold tags_Group.j3
      repeat' first
      | (with_reducible exact ih0 _ _)
      | (with_reducible exact ih1 _ _)
      | (with_reducible exact ih2 _ _)
      | (with_reducible exact ih3 _ _)
      | (with_reducible exact ih4 _ _)
      | (with_reducible exact ih5 _ _)
      | (with_reducible exact ih6 _ _)
      | (with_reducible exact LeO.refl _)
      | (with_reducible exact LeO.none _)
      | (with_reducible refine LeO.ite ?_ ?_)
      | (with_reducible refine LeO.bind ?_ (fun _ => ?_))
      | exact ih0 _ _
      | exact ih1 _ _
      | exact ih2 _ _
      | exact ih3 _ _
      | exact ih4 _ _
      | exact ih5 _ _
      | exact ih6 _ _
      | exact LeO.none _
      | refine LeO.ite ?_ ?_
      | refine LeO.bind ?_ (fun _ => ?_)
    · intro y0 y1
      unfold tags_Group.j4
      repeat' first
      | (with_reducible exact ih0 _ _)
      | (with_reducible exact ih1 _ _)
      | (with_reducible exact ih2 _ _)
      | (with_reducible exact ih3 _ _)
      | (with_reducible exact ih4 _ _)
      | (with_reducible exact ih5 _ _)
      | (with_reducible exact ih6 _ _)
      | (with_reducible exact LeO.refl _)
      | (with_reducible exact LeO.none _)
      | (with_reducible refine LeO.ite ?_ ?_)
      | (with_reducible refine LeO.bind ?_ (fun _ => ?_))
      | exact ih0 _ _
      | exact ih1 _ _
      | exact ih2 _ _
      | exact ih3 _ _
      | exact ih4 _ _
      | exact ih5 _ _
      | exact ih6 _ _
      | exact LeO.none _
      | refine LeO.ite ?_ ?_
      | refine LeO.bind ?_ (fun _ => ?_)
    · intro y0 y1
      unfold tags_Group.j5
      repeat' first
      | (with_reducible exact ih0 _ _)
      | (with_reducible exact ih1 _ _)
      | (with_reducible exact ih2 _ _)
      | (with_reducible exact ih3 _ _)
      | (with_reducible exact ih4 _ _)
      | (with_reducible exact ih5 _ _)
      | (with_reducible exact ih6 _ _)
      | (with_reducible exact LeO.refl _)
      | (with_reducible exact LeO.none _)
      | (with_reducible refine LeO.ite ?_ ?_)
      | (with_reducible refine LeO.bind ?_ (fun _ => ?_))
      | exact ih0 _ _
      | exact ih1 _ _
      | exact ih2 _ _
      | exact ih3 _ _
      | exact ih4 _ _
      | exact ih5 _ _
      | exact ih6 _ _
      | exact LeO.none _
      | refine LeO.ite ?_ ?_
      | refine LeO.bind ?_ (fun _ => ?_)
    · intro y0 y1
      unfold tags_Group.j6
      repeat' first
      | (with_reducible exact ih0 _ _)
      | (with_reducible exact ih1 _ _)
      | (with_reducible exact ih2 _ _)
      | (with_reducible exact ih3 _ _)
      | (with_reducible exact ih4 _ _)
      | (with_reducible exact ih5 _ _)
      | (with_reducible exact ih6 _ _)
      | (with_reducible exact LeO.refl _)
      | (with_reducible exact LeO.none _)
      | (with_reducible refine LeO.ite ?_ ?_)
      | (with_reducible refine LeO.bind ?_ (fun _ => ?_))
      | exact ih0 _ _
      | exact ih1 _ _
      | exact ih2 _ _
      | exact ih3 _ _
      | exact ih4 _ _
      | exact ih5 _ _
      | exact ih6 _ _
      | exact LeO.none _
      | refine LeO.ite ?_ ?_
      | refine LeO.bind ?_ (fun _ => ?_)
theorem tags_Group.mono : ∀ a0 k, LeO (tags_Group.f k a0) (tags_Group.f (k + 1) a0) := by
  intro a0 k
  obtain ⟨ih0, ih1, ih2, ih3, ih4, ih5, ih6⟩ := tags_Group.mono_l k
  unfold tags_Group.f
  repeat' first
      | (with_reducible exact ih0 _ _)
      | (with_reducible exact ih1 _ _)
      | (with_reducible exact ih2 _ _)
      | (with_reducible exact ih3 _ _)
      | (with_reducible exact ih4 _ _)
      | (with_reducible exact ih5 _ _)
      | (with_reducible exact ih6 _ _)
      | (with_reducible exact LeO.refl _)
      | (with_reducible exact LeO.none _)
      | (with_reducible refine LeO.ite ?_ ?_)
      | (with_reducible refine LeO.bind ?_ (fun _ => ?_))
      | exact ih0 _ _
      | exact ih1 _ _
      | exact ih2 _ _
      | exact ih3 _ _
      | exact ih4 _ _
      | exact ih5 _ _
      | exact ih6 _ _
      | exact LeO.none _
      | refine LeO.ite ?_ ?_
      | refine LeO.bind ?_ (fun _ => ?_)
set_option maxHeartbeats 8000000 in
set_option maxRecDepth 100000 in
theorem tags_Group.calls (k : Nat) (a0 : ByteArray) (r : Int) (w : World) (h : tags_Group.f k a0 = some r) :
    Calls Try.prog 16 #[.string a0] w fun e w' => e = .returned (.int .i64 r) ∧ Drawn0 w w' := by
  have H : (if a0.toList = ([104, 116, 109, 108] : List UInt8) then (tags_Group.j0 k a0 (a0.toList == ([104, 116, 109, 108] : List UInt8))) else (if a0.toList = ([104, 101, 97, 100] : List UInt8) then (tags_Group.j0 k a0 (a0.toList == ([104, 101, 97, 100] : List UInt8))) else (if a0.toList = ([98, 111, 100, 121] : List UInt8) then (tags_Group.j0 k a0 (a0.toList == ([98, 111, 100, 121] : List UInt8))) else (if a0.toList = ([102, 114, 97, 109, 101] : List UInt8) then (tags_Group.j0 k a0 (a0.toList == ([102, 114, 97, 109, 101] : List UInt8))) else (tags_Group.j0 k a0 (a0.toList == ([102, 114, 97, 109, 101, 115, 101, 116] : List UInt8))))))) = some r := h
  clear h
  have HC2 := Aside0.mk H
  clear H
  go_enter Try.func16, Try.ntmps16
  go_upto_if 4 with (fail)
  go_cut [4] (fun v4 wc => ∃ (kq : Nat) (x4_1 : Bool), v4 = .bool x4_1 ∧ Aside0 (tags_Group.j0 kq a0 x4_1 = some r) ∧ Aside0 (kq ≤ k) ∧ Drawn0 w wc)
  case first =>
    have H := HC2.out
    clear HC2
    by_cases c3 : a0.toList = ([104, 116, 109, 108] : List UInt8)
    · rw [if_pos c3] at H
      have c3b0 : (a0.toList == ([104, 116, 109, 108] : List UInt8)) = true := beq_iff_eq.mpr c3
      have c3b1 : (a0.toList != ([104, 116, 109, 108] : List UInt8)) = false := bne_eq_false_iff_eq.mpr c3
      clear c3
      (first | rw [c3b0] | (simp only [i64_w, i32_w]; rw [c3b0]) | skip)
      have H' := Aside0.mk H
      clear H
      go_wp2
      go_meet
      case rel => exact ⟨_, ((a0.toList == ([104, 116, 109, 108] : List UInt8))), (by first | rfl | (simp; done) | (simp [*]; done)), H', ⟨by first | omega | exact Nat.le_refl _⟩, by repeat (first | exact Drawn0.refl _ | apply Drawn0.step)⟩
    · rw [if_neg c3] at H
      have c3b0 : (a0.toList == ([104, 116, 109, 108] : List UInt8)) = false := beq_eq_false_iff_ne.mpr c3
      have c3b1 : (a0.toList != ([104, 116, 109, 108] : List UInt8)) = true := bne_iff_ne.mpr c3
      (first | rw [c3b0] | (simp only [i64_w, i32_w]; rw [c3b0]) | skip)
      by_cases c4 : a0.toList = ([104, 101, 97, 100] : List UInt8)
      · rw [if_pos c4] at H
        have c4b0 : (a0.toList == ([104, 101, 97, 100] : List UInt8)) = true := beq_iff_eq.mpr c4
        have c4b1 : (a0.toList != ([104, 101, 97, 100] : List UInt8)) = false := bne_eq_false_iff_eq.mpr c4
        clear c4
        have H' := Aside0.mk H
        clear H
        go_wp2
        go_meet
        case rel => exact ⟨_, ((a0.toList == ([104, 101, 97, 100] : List UInt8))), (by first | rfl | (simp; done) | (simp [*]; done)), H', ⟨by first | omega | exact Nat.le_refl _⟩, by repeat (first | exact Drawn0.refl _ | apply Drawn0.step)⟩
      · rw [if_neg c4] at H
        have c4b0 : (a0.toList == ([104, 101, 97, 100] : List UInt8)) = false := beq_eq_false_iff_ne.mpr c4
        have c4b1 : (a0.toList != ([104, 101, 97, 100] : List UInt8)) = true := bne_iff_ne.mpr c4
        by_cases c5 : a0.toList = ([98, 111, 100, 121] : List UInt8)
        · rw [if_pos c5] at H
          have c5b0 : (a0.toList == ([98, 111, 100, 121] : List UInt8)) = true := beq_iff_eq.mpr c5
          have c5b1 : (a0.toList != ([98, 111, 100, 121] : List UInt8)) = false := bne_eq_false_iff_eq.mpr c5
          clear c5
          have H' := Aside0.mk H
          clear H
          go_wp2
          go_meet
          case rel => exact ⟨_, ((a0.toList == ([98, 111, 100, 121] : List UInt8))), (by first | rfl | (simp; done) | (simp [*]; done)), H', ⟨by first | omega | exact Nat.le_refl _⟩, by repeat (first | exact Drawn0.refl _ | apply Drawn0.step)⟩
        · rw [if_neg c5] at H
          have c5b0 : (a0.toList == ([98, 111, 100, 121] : List UInt8)) = false := beq_eq_false_iff_ne.mpr c5
          have c5b1 : (a0.toList != ([98, 111, 100, 121] : List UInt8)) = true := bne_iff_ne.mpr c5
          by_cases c6 : a0.toList = ([102, 114, 97, 109, 101] : List UInt8)
          · rw [if_pos c6] at H
            have c6b0 : (a0.toList == ([102, 114, 97, 109, 101] : List UInt8)) = true := beq_iff_eq.mpr c6
            have c6b1 : (a0.toList != ([102, 114, 97, 109, 101] : List UInt8)) = false := bne_eq_false_iff_eq.mpr c6
            clear c6
            have H' := Aside0.mk H
            clear H
            go_wp2
            go_meet
            case rel => exact ⟨_, ((a0.toList == ([102, 114, 97, 109, 101] : List UInt8))), (by first | rfl | (simp; done) | (simp [*]; done)), H', ⟨by first | omega | exact Nat.le_refl _⟩, by repeat (first | exact Drawn0.refl _ | apply Drawn0.step)⟩
          · rw [if_neg c6] at H
            have c6b0 : (a0.toList == ([102, 114, 97, 109, 101] : List UInt8)) = false := beq_eq_false_iff_ne.mpr c6
            have c6b1 : (a0.toList != ([102, 114, 97, 109, 101] : List UInt8)) = true := bne_iff_ne.mpr c6
            have H' := Aside0.mk H
            clear H
            go_wp2
            go_meet
            case rel => exact ⟨_, ((a0.toList == ([102, 114, 97, 109, 101, 115, 101, 116] : List UInt8))), (by first | rfl | (simp; done) | (simp [*]; done)), H', ⟨by first | omega | exact Nat.le_refl _⟩, by repeat (first | exact Drawn0.refl _ | apply Drawn0.step)⟩
  case rest =>
    clear HC2
    try clear c1
    try clear p2
    try clear c3
    try clear c3b0
    try clear c3b1
    try clear c4
    try clear c4b0
    try clear c4b1
    try clear c5
    try clear c5b0
    try clear c5b1
    try clear c6
    try clear c6b0
    try clear c6b1
    obtain ⟨kq, x4_1, rfl, HA, HJ1, ⟨mc1, rfl⟩⟩ := hcut
    cases kq with
    | zero => exact absurd HA.out (by simp [tags_Group.j0])
    | succ kj1 =>
      have H := HA.out
      clear HA
      simp only [tags_Group.j0] at H
      by_cases c7 : x4_1 = true
      · subst c7
        have H1 : (some 1) = some r := by rw [if_pos rfl] at H; exact H
        clear H
        have H := H1
        clear H1
        obtain rfl := Option.some.inj H
        go_wp2
        go_ret
        exact ⟨by first | rfl | (simp; done) | (simp [*]; done), by repeat (first | exact Drawn0.refl _ | apply Drawn0.step)⟩
      · replace c7 := Bool.eq_false_iff.mpr c7
        subst c7
        have H1 : (if a0.toList = ([99, 97, 112, 116, 105, 111, 110] : List UInt8) then (tags_Group.j1 kj1 a0 (a0.toList == ([99, 97, 112, 116, 105, 111, 110] : List UInt8))) else (if a0.toList = ([116, 98, 111, 100, 121] : List UInt8) then (tags_Group.j1 kj1 a0 (a0.toList == ([116, 98, 111, 100, 121] : List UInt8))) else (if a0.toList = ([116, 104, 101, 97, 100] : List UInt8) then (tags_Group.j1 kj1 a0 (a0.toList == ([116, 104, 101, 97, 100] : List UInt8))) else (if a0.toList = ([116, 114] : List UInt8) then (tags_Group.j1 kj1 a0 (a0.toList == ([116, 114] : List UInt8))) else (if a0.toList = ([116, 100] : List UInt8) then (tags_Group.j1 kj1 a0 (a0.toList == ([116, 100] : List UInt8))) else (tags_Group.j1 kj1 a0 (a0.toList == ([116, 104] : List UInt8)))))))) = some r := by rw [if_neg (show ¬ (false = true) by decide)] at H; exact H
        clear H
        have H := H1
        clear H1
        have HC8 := Aside0.mk H
        clear H
        go_upto_if 10 with (fail)
        go_cut [10] (fun v10 wc => ∃ (kq : Nat) (x10_7 : Bool), v10 = .bool x10_7 ∧ Aside0 (tags_Group.j1 kq a0 x10_7 = some r) ∧ Aside0 (kq ≤ kj1) ∧ Drawn0 w wc)
        case first =>
          have H := HC8.out
          clear HC8
          by_cases c9 : a0.toList = ([99, 97, 112, 116, 105, 111, 110] : List UInt8)
          · rw [if_pos c9] at H
            have c9b0 : (a0.toList == ([99, 97, 112, 116, 105, 111, 110] : List UInt8)) = true := beq_iff_eq.mpr c9
            have c9b1 : (a0.toList != ([99, 97, 112, 116, 105, 111, 110] : List UInt8)) = false := bne_eq_false_iff_eq.mpr c9
            clear c9
            (first | rw [c9b0] | (simp only [i64_w, i32_w]; rw [c9b0]) | skip)
            have H' := Aside0.mk H
            clear H
            go_wp2
            go_meet
            case rel => exact ⟨_, ((a0.toList == ([99, 97, 112, 116, 105, 111, 110] : List UInt8))), (by first | rfl | (simp; done) | (simp [*]; done)), H', ⟨by have := HJ1.out; first | omega | exact Nat.le_refl _⟩, by repeat (first | exact Drawn0.refl _ | apply Drawn0.step)⟩
          · rw [if_neg c9] at H
            have c9b0 : (a0.toList == ([99, 97, 112, 116, 105, 111, 110] : List UInt8)) = false := beq_eq_false_iff_ne.mpr c9
            have c9b1 : (a0.toList != ([99, 97, 112, 116, 105, 111, 110] : List UInt8)) = true := bne_iff_ne.mpr c9
            (first | rw [c9b0] | (simp only [i64_w, i32_w]; rw [c9b0]) | skip)
            by_cases c10 : a0.toList = ([116, 98, 111, 100, 121] : List UInt8)
            · rw [if_pos c10] at H
              have c10b0 : (a0.toList == ([116, 98, 111, 100, 121] : List UInt8)) = true := beq_iff_eq.mpr c10
              have c10b1 : (a0.toList != ([116, 98, 111, 100, 121] : List UInt8)) = false := bne_eq_false_iff_eq.mpr c10
              clear c10
              have H' := Aside0.mk H
              clear H
              go_wp2
              go_meet
              case rel => exact ⟨_, ((a0.toList == ([116, 98, 111, 100, 121] : List UInt8))), (by first | rfl | (simp; done) | (simp [*]; done)), H', ⟨by have := HJ1.out; first | omega | exact Nat.le_refl _⟩, by repeat (first | exact Drawn0.refl _ | apply Drawn0.step)⟩
            · rw [if_neg c10] at H
              have c10b0 : (a0.toList == ([116, 98, 111, 100, 121] : List UInt8)) = false := beq_eq_false_iff_ne.mpr c10
              have c10b1 : (a0.toList != ([116, 98, 111, 100, 121] : List UInt8)) = true := bne_iff_ne.mpr c10
              by_cases c11 : a0.toList = ([116, 104, 101, 97, 100] : List UInt8)
              · rw [if_pos c11] at H
                have c11b0 : (a0.toList == ([116, 104, 101, 97, 100] : List UInt8)) = true := beq_iff_eq.mpr c11
                have c11b1 : (a0.toList != ([116, 104, 101, 97, 100] : List UInt8)) = false := bne_eq_false_iff_eq.mpr c11
                clear c11
                have H' := Aside0.mk H
                clear H
                go_wp2
                go_meet
                case rel => exact ⟨_, ((a0.toList == ([116, 104, 101, 97, 100] : List UInt8))), (by first | rfl | (simp; done) | (simp [*]; done)), H', ⟨by have := HJ1.out; first | omega | exact Nat.le_refl _⟩, by repeat (first | exact Drawn0.refl _ | apply Drawn0.step)⟩
              · rw [if_neg c11] at H
                have c11b0 : (a0.toList == ([116, 104, 101, 97, 100] : List UInt8)) = false := beq_eq_false_iff_ne.mpr c11
                have c11b1 : (a0.toList != ([116, 104, 101, 97, 100] : List UInt8)) = true := bne_iff_ne.mpr c11
                by_cases c12 : a0.toList = ([116, 114] : List UInt8)
                · rw [if_pos c12] at H
                  have c12b0 : (a0.toList == ([116, 114] : List UInt8)) = true := beq_iff_eq.mpr c12
                  have c12b1 : (a0.toList != ([116, 114] : List UInt8)) = false := bne_eq_false_iff_eq.mpr c12
                  clear c12
                  have H' := Aside0.mk H
                  clear H
                  go_wp2
                  go_meet
                  case rel => exact ⟨_, ((a0.toList == ([116, 114] : List UInt8))), (by first | rfl | (simp; done) | (simp [*]; done)), H', ⟨by have := HJ1.out; first | omega | exact Nat.le_refl _⟩, by repeat (first | exact Drawn0.refl _ | apply Drawn0.step)⟩
                · rw [if_neg c12] at H
                  have c12b0 : (a0.toList == ([116, 114] : List UInt8)) = false := beq_eq_false_iff_ne.mpr c12
                  have c12b1 : (a0.toList != ([116, 114] : List UInt8)) = true := bne_iff_ne.mpr c12
                  by_cases c13 : a0.toList = ([116, 100] : List UInt8)
                  · rw [if_pos c13] at H
                    have c13b0 : (a0.toList == ([116, 100] : List UInt8)) = true := beq_iff_eq.mpr c13
                    have c13b1 : (a0.toList != ([116, 100] : List UInt8)) = false := bne_eq_false_iff_eq.mpr c13
                    clear c13
                    have H' := Aside0.mk H
                    clear H
                    go_wp2
                    go_meet
                    case rel => exact ⟨_, ((a0.toList == ([116, 100] : List UInt8))), (by first | rfl | (simp; done) | (simp [*]; done)), H', ⟨by have := HJ1.out; first | omega | exact Nat.le_refl _⟩, by repeat (first | exact Drawn0.refl _ | apply Drawn0.step)⟩
                  · rw [if_neg c13] at H
                    have c13b0 : (a0.toList == ([116, 100] : List UInt8)) = false := beq_eq_false_iff_ne.mpr c13
                    have c13b1 : (a0.toList != ([116, 100] : List UInt8)) = true := bne_iff_ne.mpr c13
                    have H' := Aside0.mk H
                    clear H
                    go_wp2
                    go_meet
                    case rel => exact ⟨_, ((a0.toList == ([116, 104] : List UInt8))), (by first | rfl | (simp; done) | (simp [*]; done)), H', ⟨by have := HJ1.out; first | omega | exact Nat.le_refl _⟩, by repeat (first | exact Drawn0.refl _ | apply Drawn0.step)⟩
        case rest =>
          clear HC8
          try clear c1
          try clear p2
          try clear c3
          try clear c3b0
          try clear c3b1
          try clear c4
          try clear c4b0
          try clear c4b1
          try clear c5
          try clear c5b0
          try clear c5b1
          try clear c6
          try clear c6b0
          try clear c6b1
          try clear c7
          try clear c9
          try clear c9b0
          try clear c9b1
          try clear c10
          try clear c10b0
          try clear c10b1
          try clear c11
          try clear c11b0
          try clear c11b1
          try clear c12
          try clear c12b0
          try clear c12b1
          try clear c13
          try clear c13b0
          try clear c13b1
          try clear p2
          obtain ⟨kq, x10_7, rfl, HA, HJ7, ⟨mc7, rfl⟩⟩ := hcut
          cases kq with
          | zero => exact absurd HA.out (by simp [tags_Group.j1])
          | succ kj7 =>
            have H := HA.out
            clear HA
            simp only [tags_Group.j1] at H
            by_cases c14 : x10_7 = true
            · subst c14
              have H1 : (some 2) = some r := by rw [if_pos rfl] at H; exact H
              clear H
              have H := H1
              clear H1
              obtain rfl := Option.some.inj H
              go_wp2
              go_ret
              exact ⟨by first | rfl | (simp; done) | (simp [*]; done), by repeat (first | exact Drawn0.refl _ | apply Drawn0.step)⟩
            · replace c14 := Bool.eq_false_iff.mpr c14
              subst c14
              have H1 : (if a0.toList = ([116, 97, 98, 108, 101] : List UInt8) then (some 3) else (if a0.toList = ([98, 108, 111, 99, 107, 113, 117, 111, 116, 101] : List UInt8) then (tags_Group.j2 kj7 a0 (a0.toList == ([98, 108, 111, 99, 107, 113, 117, 111, 116, 101] : List UInt8))) else (if a0.toList = ([100, 105, 118] : List UInt8) then (tags_Group.j2 kj7 a0 (a0.toList == ([100, 105, 118] : List UInt8))) else (if a0.toList = ([111, 108] : List UInt8) then (tags_Group.j2 kj7 a0 (a0.toList == ([111, 108] : List UInt8))) else (if a0.toList = ([115, 101, 99, 116, 105, 111, 110] : List UInt8) then (tags_Group.j2 kj7 a0 (a0.toList == ([115, 101, 99, 116, 105, 111, 110] : List UInt8))) else (tags_Group.j2 kj7 a0 (a0.toList == ([117, 108] : List UInt8)))))))) = some r := by rw [if_neg (show ¬ (false = true) by decide)] at H; exact H
              clear H
              have H := H1
              clear H1
              by_cases c15 : a0.toList = ([116, 97, 98, 108, 101] : List UInt8)
              · rw [if_pos c15] at H
                have c15b0 : (a0.toList == ([116, 97, 98, 108, 101] : List UInt8)) = true := beq_iff_eq.mpr c15
                have c15b1 : (a0.toList != ([116, 97, 98, 108, 101] : List UInt8)) = false := bne_eq_false_iff_eq.mpr c15
                clear c15
                obtain rfl := Option.some.inj H
                go_wp2
                go_ret
                exact ⟨by first | rfl | (simp; done) | (simp [*]; done), by repeat (first | exact Drawn0.refl _ | apply Drawn0.step)⟩
              · rw [if_neg c15] at H
                have c15b0 : (a0.toList == ([116, 97, 98, 108, 101] : List UInt8)) = false := beq_eq_false_iff_ne.mpr c15
                have c15b1 : (a0.toList != ([116, 97, 98, 108, 101] : List UInt8)) = true := bne_iff_ne.mpr c15
                have HC16 := Aside0.mk H
                clear H
                go_upto_if 19 with (fail)
                go_cut [19] (fun v19 wc => ∃ (kq : Nat) (x19_15 : Bool), v19 = .bool x19_15 ∧ Aside0 (tags_Group.j2 kq a0 x19_15 = some r) ∧ Aside0 (kq ≤ kj7) ∧ Drawn0 w wc)
                case first =>
                  have H := HC16.out
                  clear HC16
                  by_cases c17 : a0.toList = ([98, 108, 111, 99, 107, 113, 117, 111, 116, 101] : List UInt8)
                  · rw [if_pos c17] at H
                    have c17b0 : (a0.toList == ([98, 108, 111, 99, 107, 113, 117, 111, 116, 101] : List UInt8)) = true := beq_iff_eq.mpr c17
                    have c17b1 : (a0.toList != ([98, 108, 111, 99, 107, 113, 117, 111, 116, 101] : List UInt8)) = false := bne_eq_false_iff_eq.mpr c17
                    clear c17
                    (first | rw [c17b0] | (simp only [i64_w, i32_w]; rw [c17b0]) | skip)
                    have H' := Aside0.mk H
                    clear H
                    go_wp2
                    go_meet
                    case rel => exact ⟨_, ((a0.toList == ([98, 108, 111, 99, 107, 113, 117, 111, 116, 101] : List UInt8))), (by first | rfl | (simp; done) | (simp [*]; done)), H', ⟨by have := HJ1.out; have := HJ7.out; first | omega | exact Nat.le_refl _⟩, by repeat (first | exact Drawn0.refl _ | apply Drawn0.step)⟩
                  · rw [if_neg c17] at H
                    have c17b0 : (a0.toList == ([98, 108, 111, 99, 107, 113, 117, 111, 116, 101] : List UInt8)) = false := beq_eq_false_iff_ne.mpr c17
                    have c17b1 : (a0.toList != ([98, 108, 111, 99, 107, 113, 117, 111, 116, 101] : List UInt8)) = true := bne_iff_ne.mpr c17
                    (first | rw [c17b0] | (simp only [i64_w, i32_w]; rw [c17b0]) | skip)
                    by_cases c18 : a0.toList = ([100, 105, 118] : List UInt8)
                    · rw [if_pos c18] at H
                      have c18b0 : (a0.toList == ([100, 105, 118] : List UInt8)) = true := beq_iff_eq.mpr c18
                      have c18b1 : (a0.toList != ([100, 105, 118] : List UInt8)) = false := bne_eq_false_iff_eq.mpr c18
                      clear c18
                      have H' := Aside0.mk H
                      clear H
                      go_wp2
                      go_meet
                      case rel => exact ⟨_, ((a0.toList == ([100, 105, 118] : List UInt8))), (by first | rfl | (simp; done) | (simp [*]; done)), H', ⟨by have := HJ1.out; have := HJ7.out; first | omega | exact Nat.le_refl _⟩, by repeat (first | exact Drawn0.refl _ | apply Drawn0.step)⟩
                    · rw [if_neg c18] at H
                      have c18b0 : (a0.toList == ([100, 105, 118] : List UInt8)) = false := beq_eq_false_iff_ne.mpr c18
                      have c18b1 : (a0.toList != ([100, 105, 118] : List UInt8)) = true := bne_iff_ne.mpr c18
                      by_cases c19 : a0.toList = ([111, 108] : List UInt8)
                      · rw [if_pos c19] at H
                        have c19b0 : (a0.toList == ([111, 108] : List UInt8)) = true := beq_iff_eq.mpr c19
                        have c19b1 : (a0.toList != ([111, 108] : List UInt8)) = false := bne_eq_false_iff_eq.mpr c19
                        clear c19
                        have H' := Aside0.mk H
                        clear H
                        go_wp2
                        go_meet
                        case rel => exact ⟨_, ((a0.toList == ([111, 108] : List UInt8))), (by first | rfl | (simp; done) | (simp [*]; done)), H', ⟨by have := HJ1.out; have := HJ7.out; first | omega | exact Nat.le_refl _⟩, by repeat (first | exact Drawn0.refl _ | apply Drawn0.step)⟩
                      · rw [if_neg c19] at H
                        have c19b0 : (a0.toList == ([111, 108] : List UInt8)) = false := beq_eq_false_iff_ne.mpr c19
                        have c19b1 : (a0.toList != ([111, 108] : List UInt8)) = true := bne_iff_ne.mpr c19
                        by_cases c20 : a0.toList = ([115, 101, 99, 116, 105, 111, 110] : List UInt8)
                        · rw [if_pos c20] at H
                          have c20b0 : (a0.toList == ([115, 101, 99, 116, 105, 111, 110] : List UInt8)) = true := beq_iff_eq.mpr c20
                          have c20b1 : (a0.toList != ([115, 101, 99, 116, 105, 111, 110] : List UInt8)) = false := bne_eq_false_iff_eq.mpr c20
                          clear c20
                          have H' := Aside0.mk H
                          clear H
                          go_wp2
                          go_meet
                          case rel => exact ⟨_, ((a0.toList == ([115, 101, 99, 116, 105, 111, 110] : List UInt8))), (by first | rfl | (simp; done) | (simp [*]; done)), H', ⟨by have := HJ1.out; have := HJ7.out; first | omega | exact Nat.le_refl _⟩, by repeat (first | exact Drawn0.refl _ | apply Drawn0.step)⟩
                        · rw [if_neg c20] at H
                          have c20b0 : (a0.toList == ([115, 101, 99, 116, 105, 111, 110] : List UInt8)) = false := beq_eq_false_iff_ne.mpr c20
                          have c20b1 : (a0.toList != ([115, 101, 99, 116, 105, 111, 110] : List UInt8)) = true := bne_iff_ne.mpr c20
                          have H' := Aside0.mk H
                          clear H
                          go_wp2
                          go_meet
                          case rel => exact ⟨_, ((a0.toList == ([117, 108] : List UInt8))), (by first | rfl | (simp; done) | (simp [*]; done)), H', ⟨by have := HJ1.out; have := HJ7.out; first | omega | exact Nat.le_refl _⟩, by repeat (first | exact Drawn0.refl _ | apply Drawn0.step)⟩
                case rest =>
                  clear HC16
                  try clear c1
                  try clear c2
                  try clear p2
                  try clear c3
                  try clear c3b0
                  try clear c3b1
                  try clear c4
                  try clear c4b0
                  try clear c4b1
                  try clear c5
                  try clear c5b0
                  try clear c5b1
                  try clear c6
                  try clear c6b0
                  try clear c6b1
                  try clear c7
                  try clear c9
                  try clear c9b0
                  try clear c9b1
                  try clear c10
                  try clear c10b0
                  try clear c10b1
                  try clear c11
                  try clear c11b0
                  try clear c11b1
                  try clear c12
                  try clear c12b0
                  try clear c12b1
                  try clear c13
                  try clear c13b0
                  try clear c13b1
                  try clear c14
                  try clear c15
                  try clear c15b0
                  try clear c15b1
                  try clear c16
                  try clear c17
                  try clear c17b0
                  try clear c17b1
                  try clear c18
                  try clear c18b0
                  try clear c18b1
                  try clear c19
                  try clear c19b0
                  try clear c19b1
                  try clear c20
                  try clear c20b0
                  try clear c20b1
                  try clear p2
                  obtain ⟨kq, x19_15, rfl, HA, HJ15, ⟨mc15, rfl⟩⟩ := hcut
                  cases kq with
                  | zero => exact absurd HA.out (by simp [tags_Group.j2])
                  | succ kj15 =>
                    have H := HA.out
                    clear HA
                    simp only [tags_Group.j2] at H
                    by_cases c21 : x19_15 = true
                    · subst c21
                      have H1 : (some 4) = some r := by rw [if_pos rfl] at H; exact H
                      clear H
                      have H := H1
                      clear H1
                      obtain rfl := Option.some.inj H
                      go_wp2
                      go_ret
                      exact ⟨by first | rfl | (simp; done) | (simp [*]; done), by repeat (first | exact Drawn0.refl _ | apply Drawn0.step)⟩
                    · replace c21 := Bool.eq_false_iff.mpr c21
                      subst c21
                      have H1 : (if a0.toList = ([112] : List UInt8) then (some 5) else (if a0.toList = ([104, 49] : List UInt8) then (tags_Group.j3 kj15 a0 (a0.toList == ([104, 49] : List UInt8))) else (if a0.toList = ([104, 50] : List UInt8) then (tags_Group.j3 kj15 a0 (a0.toList == ([104, 50] : List UInt8))) else (tags_Group.j3 kj15 a0 (a0.toList == ([104, 51] : List UInt8)))))) = some r := by rw [if_neg (show ¬ (false = true) by decide)] at H; exact H
                      clear H
                      have H := H1
                      clear H1
                      by_cases c22 : a0.toList = ([112] : List UInt8)
                      · rw [if_pos c22] at H
                        have c22b0 : (a0.toList == ([112] : List UInt8)) = true := beq_iff_eq.mpr c22
                        have c22b1 : (a0.toList != ([112] : List UInt8)) = false := bne_eq_false_iff_eq.mpr c22
                        clear c22
                        obtain rfl := Option.some.inj H
                        go_wp2
                        go_ret
                        exact ⟨by first | rfl | (simp; done) | (simp [*]; done), by repeat (first | exact Drawn0.refl _ | apply Drawn0.step)⟩
                      · rw [if_neg c22] at H
                        have c22b0 : (a0.toList == ([112] : List UInt8)) = false := beq_eq_false_iff_ne.mpr c22
                        have c22b1 : (a0.toList != ([112] : List UInt8)) = true := bne_iff_ne.mpr c22
                        have HC23 := Aside0.mk H
                        clear H
                        go_upto_if 27 with (fail)
                        go_cut [27] (fun v27 wc => ∃ (kq : Nat) (x27_22 : Bool), v27 = .bool x27_22 ∧ Aside0 (tags_Group.j3 kq a0 x27_22 = some r) ∧ Aside0 (kq ≤ kj15) ∧ Drawn0 w wc)
                        case first =>
                          have H := HC23.out
                          clear HC23
                          by_cases c24 : a0.toList = ([104, 49] : List UInt8)
                          · rw [if_pos c24] at H
                            have c24b0 : (a0.toList == ([104, 49] : List UInt8)) = true := beq_iff_eq.mpr c24
                            have c24b1 : (a0.toList != ([104, 49] : List UInt8)) = false := bne_eq_false_iff_eq.mpr c24
                            clear c24
                            (first | rw [c24b0] | (simp only [i64_w, i32_w]; rw [c24b0]) | skip)
                            have H' := Aside0.mk H
                            clear H
                            go_wp2
                            go_meet
                            case rel => exact ⟨_, ((a0.toList == ([104, 49] : List UInt8))), (by first | rfl | (simp; done) | (simp [*]; done)), H', ⟨by have := HJ1.out; have := HJ7.out; have := HJ15.out; first | omega | exact Nat.le_refl _⟩, by repeat (first | exact Drawn0.refl _ | apply Drawn0.step)⟩
                          · rw [if_neg c24] at H
                            have c24b0 : (a0.toList == ([104, 49] : List UInt8)) = false := beq_eq_false_iff_ne.mpr c24
                            have c24b1 : (a0.toList != ([104, 49] : List UInt8)) = true := bne_iff_ne.mpr c24
                            (first | rw [c24b0] | (simp only [i64_w, i32_w]; rw [c24b0]) | skip)
                            by_cases c25 : a0.toList = ([104, 50] : List UInt8)
                            · rw [if_pos c25] at H
                              have c25b0 : (a0.toList == ([104, 50] : List UInt8)) = true := beq_iff_eq.mpr c25
                              have c25b1 : (a0.toList != ([104, 50] : List UInt8)) = false := bne_eq_false_iff_eq.mpr c25
                              clear c25
                              have H' := Aside0.mk H
                              clear H
                              go_wp2
                              go_meet
                              case rel => exact ⟨_, ((a0.toList == ([104, 50] : List UInt8))), (by first | rfl | (simp; done) | (simp [*]; done)), H', ⟨by have := HJ1.out; have := HJ7.out; have := HJ15.out; first | omega | exact Nat.le_refl _⟩, by repeat (first | exact Drawn0.refl _ | apply Drawn0.step)⟩
                            · rw [if_neg c25] at H
                              have c25b0 : (a0.toList == ([104, 50] : List UInt8)) = false := beq_eq_false_iff_ne.mpr c25
                              have c25b1 : (a0.toList != ([104, 50] : List UInt8)) = true := bne_iff_ne.mpr c25
                              have H' := Aside0.mk H
                              clear H
                              go_wp2
                              go_meet
                              case rel => exact ⟨_, ((a0.toList == ([104, 51] : List UInt8))), (by first | rfl | (simp; done) | (simp [*]; done)), H', ⟨by have := HJ1.out; have := HJ7.out; have := HJ15.out; first | omega | exact Nat.le_refl _⟩, by repeat (first | exact Drawn0.refl _ | apply Drawn0.step)⟩
                        case rest =>
                          clear HC23
                          try clear c1
                          try clear c2
                          try clear p2
                          try clear c3
                          try clear c3b0
                          try clear c3b1
                          try clear c4
                          try clear c4b0
                          try clear c4b1
                          try clear c5
                          try clear c5b0
                          try clear c5b1
                          try clear c6
                          try clear c6b0
                          try clear c6b1
                          try clear c7
                          try clear c9
                          try clear c9b0
                          try clear c9b1
                          try clear c10
                          try clear c10b0
                          try clear c10b1
                          try clear c11
                          try clear c11b0
                          try clear c11b1
                          try clear c12
                          try clear c12b0
                          try clear c12b1
                          try clear c13
                          try clear c13b0
                          try clear c13b1
                          try clear c14
                          try clear c15
                          try clear c15b0
                          try clear c15b1
                          try clear c16
                          try clear c17
                          try clear c17b0
                          try clear c17b1
                          try clear c18
                          try clear c18b0
                          try clear c18b1
                          try clear c19
                          try clear c19b0
                          try clear c19b1
                          try clear c20
                          try clear c20b0
                          try clear c20b1
                          try clear c21
                          try clear c22
                          try clear c22b0
                          try clear c22b1
                          try clear c24
                          try clear c24b0
                          try clear c24b1
                          try clear c25
                          try clear c25b0
                          try clear c25b1
                          try clear p2
                          obtain ⟨kq, x27_22, rfl, HA, HJ22, ⟨mc22, rfl⟩⟩ := hcut
                          cases kq with
                          | zero => exact absurd HA.out (by simp [tags_Group.j3])
                          | succ kj22 =>
                            have H := HA.out
                            clear HA
                            simp only [tags_Group.j3] at H
                            by_cases c26 : x27_22 = true
                            · subst c26
                              have H1 : (some 6) = some r := by rw [if_pos rfl] at H; exact H
                              clear H
                              have H := H1
                              clear H1
                              obtain rfl := Option.some.inj H
                              go_wp2
                              go_ret
                              exact ⟨by first | rfl | (simp; done) | (simp [*]; done), by repeat (first | exact Drawn0.refl _ | apply Drawn0.step)⟩
                            · replace c26 := Bool.eq_false_iff.mpr c26
                              subst c26
                              have H1 : (if a0.toList = ([112, 114, 101] : List UInt8) then (some 7) else (if a0.toList = ([108, 105] : List UInt8) then (some 8) else (if a0.toList = ([97] : List UInt8) then (some 9) else (if a0.toList = ([98] : List UInt8) then (tags_Group.j4 kj22 a0 (a0.toList == ([98] : List UInt8))) else (if a0.toList = ([99, 111, 100, 101] : List UInt8) then (tags_Group.j4 kj22 a0 (a0.toList == ([99, 111, 100, 101] : List UInt8))) else (if a0.toList = ([101, 109] : List UInt8) then (tags_Group.j4 kj22 a0 (a0.toList == ([101, 109] : List UInt8))) else (if a0.toList = ([105] : List UInt8) then (tags_Group.j4 kj22 a0 (a0.toList == ([105] : List UInt8))) else (if a0.toList = ([115, 116, 114, 111, 110, 103] : List UInt8) then (tags_Group.j4 kj22 a0 (a0.toList == ([115, 116, 114, 111, 110, 103] : List UInt8))) else (tags_Group.j4 kj22 a0 (a0.toList == ([117] : List UInt8))))))))))) = some r := by rw [if_neg (show ¬ (false = true) by decide)] at H; exact H
                              clear H
                              have H := H1
                              clear H1
                              by_cases c27 : a0.toList = ([112, 114, 101] : List UInt8)
                              · rw [if_pos c27] at H
                                have c27b0 : (a0.toList == ([112, 114, 101] : List UInt8)) = true := beq_iff_eq.mpr c27
                                have c27b1 : (a0.toList != ([112, 114, 101] : List UInt8)) = false := bne_eq_false_iff_eq.mpr c27
                                clear c27
                                obtain rfl := Option.some.inj H
                                go_wp2
                                go_ret
                                exact ⟨by first | rfl | (simp; done) | (simp [*]; done), by repeat (first | exact Drawn0.refl _ | apply Drawn0.step)⟩
                              · rw [if_neg c27] at H
                                have c27b0 : (a0.toList == ([112, 114, 101] : List UInt8)) = false := beq_eq_false_iff_ne.mpr c27
                                have c27b1 : (a0.toList != ([112, 114, 101] : List UInt8)) = true := bne_iff_ne.mpr c27
                                by_cases c28 : a0.toList = ([108, 105] : List UInt8)
                                · rw [if_pos c28] at H
                                  have c28b0 : (a0.toList == ([108, 105] : List UInt8)) = true := beq_iff_eq.mpr c28
                                  have c28b1 : (a0.toList != ([108, 105] : List UInt8)) = false := bne_eq_false_iff_eq.mpr c28
                                  clear c28
                                  obtain rfl := Option.some.inj H
                                  go_wp2
                                  go_ret
                                  exact ⟨by first | rfl | (simp; done) | (simp [*]; done), by repeat (first | exact Drawn0.refl _ | apply Drawn0.step)⟩
                                · rw [if_neg c28] at H
                                  have c28b0 : (a0.toList == ([108, 105] : List UInt8)) = false := beq_eq_false_iff_ne.mpr c28
                                  have c28b1 : (a0.toList != ([108, 105] : List UInt8)) = true := bne_iff_ne.mpr c28
                                  by_cases c29 : a0.toList = ([97] : List UInt8)
                                  · rw [if_pos c29] at H
                                    have c29b0 : (a0.toList == ([97] : List UInt8)) = true := beq_iff_eq.mpr c29
                                    have c29b1 : (a0.toList != ([97] : List UInt8)) = false := bne_eq_false_iff_eq.mpr c29
                                    clear c29
                                    obtain rfl := Option.some.inj H
                                    go_wp2
                                    go_ret
                                    exact ⟨by first | rfl | (simp; done) | (simp [*]; done), by repeat (first | exact Drawn0.refl _ | apply Drawn0.step)⟩
                                  · rw [if_neg c29] at H
                                    have c29b0 : (a0.toList == ([97] : List UInt8)) = false := beq_eq_false_iff_ne.mpr c29
                                    have c29b1 : (a0.toList != ([97] : List UInt8)) = true := bne_iff_ne.mpr c29
                                    have HC30 := Aside0.mk H
                                    clear H
                                    go_upto_if 37 with (fail)
                                    go_cut [37] (fun v37 wc => ∃ (kq : Nat) (x37_29 : Bool), v37 = .bool x37_29 ∧ Aside0 (tags_Group.j4 kq a0 x37_29 = some r) ∧ Aside0 (kq ≤ kj22) ∧ Drawn0 w wc)
                                    case first =>
                                      have H := HC30.out
                                      clear HC30
                                      by_cases c31 : a0.toList = ([98] : List UInt8)
                                      · rw [if_pos c31] at H
                                        have c31b0 : (a0.toList == ([98] : List UInt8)) = true := beq_iff_eq.mpr c31
                                        have c31b1 : (a0.toList != ([98] : List UInt8)) = false := bne_eq_false_iff_eq.mpr c31
                                        clear c31
                                        (first | rw [c31b0] | (simp only [i64_w, i32_w]; rw [c31b0]) | skip)
                                        have H' := Aside0.mk H
                                        clear H
                                        go_wp2
                                        go_meet
                                        case rel => exact ⟨_, ((a0.toList == ([98] : List UInt8))), (by first | rfl | (simp; done) | (simp [*]; done)), H', ⟨by have := HJ1.out; have := HJ7.out; have := HJ15.out; have := HJ22.out; first | omega | exact Nat.le_refl _⟩, by repeat (first | exact Drawn0.refl _ | apply Drawn0.step)⟩
                                      · rw [if_neg c31] at H
                                        have c31b0 : (a0.toList == ([98] : List UInt8)) = false := beq_eq_false_iff_ne.mpr c31
                                        have c31b1 : (a0.toList != ([98] : List UInt8)) = true := bne_iff_ne.mpr c31
                                        (first | rw [c31b0] | (simp only [i64_w, i32_w]; rw [c31b0]) | skip)
                                        by_cases c32 : a0.toList = ([99, 111, 100, 101] : List UInt8)
                                        · rw [if_pos c32] at H
                                          have c32b0 : (a0.toList == ([99, 111, 100, 101] : List UInt8)) = true := beq_iff_eq.mpr c32
                                          have c32b1 : (a0.toList != ([99, 111, 100, 101] : List UInt8)) = false := bne_eq_false_iff_eq.mpr c32
                                          clear c32
                                          have H' := Aside0.mk H
                                          clear H
                                          go_wp2
                                          go_meet
                                          case rel => exact ⟨_, ((a0.toList == ([99, 111, 100, 101] : List UInt8))), (by first | rfl | (simp; done) | (simp [*]; done)), H', ⟨by have := HJ1.out; have := HJ7.out; have := HJ15.out; have := HJ22.out; first | omega | exact Nat.le_refl _⟩, by repeat (first | exact Drawn0.refl _ | apply Drawn0.step)⟩
                                        · rw [if_neg c32] at H
                                          have c32b0 : (a0.toList == ([99, 111, 100, 101] : List UInt8)) = false := beq_eq_false_iff_ne.mpr c32
                                          have c32b1 : (a0.toList != ([99, 111, 100, 101] : List UInt8)) = true := bne_iff_ne.mpr c32
                                          by_cases c33 : a0.toList = ([101, 109] : List UInt8)
                                          · rw [if_pos c33] at H
                                            have c33b0 : (a0.toList == ([101, 109] : List UInt8)) = true := beq_iff_eq.mpr c33
                                            have c33b1 : (a0.toList != ([101, 109] : List UInt8)) = false := bne_eq_false_iff_eq.mpr c33
                                            clear c33
                                            have H' := Aside0.mk H
                                            clear H
                                            go_wp2
                                            go_meet
                                            case rel => exact ⟨_, ((a0.toList == ([101, 109] : List UInt8))), (by first | rfl | (simp; done) | (simp [*]; done)), H', ⟨by have := HJ1.out; have := HJ7.out; have := HJ15.out; have := HJ22.out; first | omega | exact Nat.le_refl _⟩, by repeat (first | exact Drawn0.refl _ | apply Drawn0.step)⟩
                                          · rw [if_neg c33] at H
                                            have c33b0 : (a0.toList == ([101, 109] : List UInt8)) = false := beq_eq_false_iff_ne.mpr c33
                                            have c33b1 : (a0.toList != ([101, 109] : List UInt8)) = true := bne_iff_ne.mpr c33
                                            by_cases c34 : a0.toList = ([105] : List UInt8)
                                            · rw [if_pos c34] at H
                                              have c34b0 : (a0.toList == ([105] : List UInt8)) = true := beq_iff_eq.mpr c34
                                              have c34b1 : (a0.toList != ([105] : List UInt8)) = false := bne_eq_false_iff_eq.mpr c34
                                              clear c34
                                              have H' := Aside0.mk H
                                              clear H
                                              go_wp2
                                              go_meet
                                              case rel => exact ⟨_, ((a0.toList == ([105] : List UInt8))), (by first | rfl | (simp; done) | (simp [*]; done)), H', ⟨by have := HJ1.out; have := HJ7.out; have := HJ15.out; have := HJ22.out; first | omega | exact Nat.le_refl _⟩, by repeat (first | exact Drawn0.refl _ | apply Drawn0.step)⟩
                                            · rw [if_neg c34] at H
                                              have c34b0 : (a0.toList == ([105] : List UInt8)) = false := beq_eq_false_iff_ne.mpr c34
                                              have c34b1 : (a0.toList != ([105] : List UInt8)) = true := bne_iff_ne.mpr c34
                                              by_cases c35 : a0.toList = ([115, 116, 114, 111, 110, 103] : List UInt8)
                                              · rw [if_pos c35] at H
                                                have c35b0 : (a0.toList == ([115, 116, 114, 111, 110, 103] : List UInt8)) = true := beq_iff_eq.mpr c35
                                                have c35b1 : (a0.toList != ([115, 116, 114, 111, 110, 103] : List UInt8)) = false := bne_eq_false_iff_eq.mpr c35
                                                clear c35
                                                have H' := Aside0.mk H
                                                clear H
                                                go_wp2
                                                go_meet
                                                case rel => exact ⟨_, ((a0.toList == ([115, 116, 114, 111, 110, 103] : List UInt8))), (by first | rfl | (simp; done) | (simp [*]; done)), H', ⟨by have := HJ1.out; have := HJ7.out; have := HJ15.out; have := HJ22.out; first | omega | exact Nat.le_refl _⟩, by repeat (first | exact Drawn0.refl _ | apply Drawn0.step)⟩
                                              · rw [if_neg c35] at H
                                                have c35b0 : (a0.toList == ([115, 116, 114, 111, 110, 103] : List UInt8)) = false := beq_eq_false_iff_ne.mpr c35
                                                have c35b1 : (a0.toList != ([115, 116, 114, 111, 110, 103] : List UInt8)) = true := bne_iff_ne.mpr c35
                                                have H' := Aside0.mk H
                                                clear H
                                                go_wp2
                                                go_meet
                                                case rel => exact ⟨_, ((a0.toList == ([117] : List UInt8))), (by first | rfl | (simp; done) | (simp [*]; done)), H', ⟨by have := HJ1.out; have := HJ7.out; have := HJ15.out; have := HJ22.out; first | omega | exact Nat.le_refl _⟩, by repeat (first | exact Drawn0.refl _ | apply Drawn0.step)⟩
                                    case rest =>
                                      clear HC30
                                      try clear c1
                                      try clear c2
                                      try clear p2
                                      try clear c3
                                      try clear c3b0
                                      try clear c3b1
                                      try clear c4
                                      try clear c4b0
                                      try clear c4b1
                                      try clear c5
                                      try clear c5b0
                                      try clear c5b1
                                      try clear c6
                                      try clear c6b0
                                      try clear c6b1
                                      try clear c7
                                      try clear c9
                                      try clear c9b0
                                      try clear c9b1
                                      try clear c10
                                      try clear c10b0
                                      try clear c10b1
                                      try clear c11
                                      try clear c11b0
                                      try clear c11b1
                                      try clear c12
                                      try clear c12b0
                                      try clear c12b1
                                      try clear c13
                                      try clear c13b0
                                      try clear c13b1
                                      try clear c14
                                      try clear c15
                                      try clear c15b0
                                      try clear c15b1
                                      try clear c16
                                      try clear c17
                                      try clear c17b0
                                      try clear c17b1
                                      try clear c18
                                      try clear c18b0
                                      try clear c18b1
                                      try clear c19
                                      try clear c19b0
                                      try clear c19b1
                                      try clear c20
                                      try clear c20b0
                                      try clear c20b1
                                      try clear c21
                                      try clear c22
                                      try clear c22b0
                                      try clear c22b1
                                      try clear c24
                                      try clear c24b0
                                      try clear c24b1
                                      try clear c25
                                      try clear c25b0
                                      try clear c25b1
                                      try clear c26
                                      try clear c27
                                      try clear c27b0
                                      try clear c27b1
                                      try clear c28
                                      try clear c28b0
                                      try clear c28b1
                                      try clear c29
                                      try clear c29b0
                                      try clear c29b1
                                      try clear c31
                                      try clear c31b0
                                      try clear c31b1
                                      try clear c32
                                      try clear c32b0
                                      try clear c32b1
                                      try clear c33
                                      try clear c33b0
                                      try clear c33b1
                                      try clear c34
                                      try clear c34b0
                                      try clear c34b1
                                      try clear c35
                                      try clear c35b0
                                      try clear c35b1
                                      try clear p2
                                      obtain ⟨kq, x37_29, rfl, HA, HJ29, ⟨mc29, rfl⟩⟩ := hcut
                                      cases kq with
                                      | zero => exact absurd HA.out (by simp [tags_Group.j4])
                                      | succ kj29 =>
                                        have H := HA.out
                                        clear HA
                                        simp only [tags_Group.j4] at H
                                        by_cases c36 : x37_29 = true
                                        · subst c36
                                          have H1 : (some 10) = some r := by rw [if_pos rfl] at H; exact H
                                          clear H
                                          have H := H1
                                          clear H1
                                          obtain rfl := Option.some.inj H
                                          go_wp2
                                          go_ret
                                          exact ⟨by first | rfl | (simp; done) | (simp [*]; done), by repeat (first | exact Drawn0.refl _ | apply Drawn0.step)⟩
                                        · replace c36 := Bool.eq_false_iff.mpr c36
                                          subst c36
                                          have H1 : (if a0.toList = ([98, 114] : List UInt8) then (tags_Group.j5 kj29 a0 (a0.toList == ([98, 114] : List UInt8))) else (if a0.toList = ([105, 109, 103] : List UInt8) then (tags_Group.j5 kj29 a0 (a0.toList == ([105, 109, 103] : List UInt8))) else (if a0.toList = ([105, 110, 112, 117, 116] : List UInt8) then (tags_Group.j5 kj29 a0 (a0.toList == ([105, 110, 112, 117, 116] : List UInt8))) else (tags_Group.j5 kj29 a0 (a0.toList == ([119, 98, 114] : List UInt8)))))) = some r := by rw [if_neg (show ¬ (false = true) by decide)] at H; exact H
                                          clear H
                                          have H := H1
                                          clear H1
                                          have HC37 := Aside0.mk H
                                          clear H
                                          go_upto_if 44 with (fail)
                                          go_cut [44] (fun v44 wc => ∃ (kq : Nat) (x44_36 : Bool), v44 = .bool x44_36 ∧ Aside0 (tags_Group.j5 kq a0 x44_36 = some r) ∧ Aside0 (kq ≤ kj29) ∧ Drawn0 w wc)
                                          case first =>
                                            have H := HC37.out
                                            clear HC37
                                            by_cases c38 : a0.toList = ([98, 114] : List UInt8)
                                            · rw [if_pos c38] at H
                                              have c38b0 : (a0.toList == ([98, 114] : List UInt8)) = true := beq_iff_eq.mpr c38
                                              have c38b1 : (a0.toList != ([98, 114] : List UInt8)) = false := bne_eq_false_iff_eq.mpr c38
                                              clear c38
                                              (first | rw [c38b0] | (simp only [i64_w, i32_w]; rw [c38b0]) | skip)
                                              have H' := Aside0.mk H
                                              clear H
                                              go_wp2
                                              go_meet
                                              case rel => exact ⟨_, ((a0.toList == ([98, 114] : List UInt8))), (by first | rfl | (simp; done) | (simp [*]; done)), H', ⟨by have := HJ1.out; have := HJ7.out; have := HJ15.out; have := HJ22.out; have := HJ29.out; first | omega | exact Nat.le_refl _⟩, by repeat (first | exact Drawn0.refl _ | apply Drawn0.step)⟩
                                            · rw [if_neg c38] at H
                                              have c38b0 : (a0.toList == ([98, 114] : List UInt8)) = false := beq_eq_false_iff_ne.mpr c38
                                              have c38b1 : (a0.toList != ([98, 114] : List UInt8)) = true := bne_iff_ne.mpr c38
                                              (first | rw [c38b0] | (simp only [i64_w, i32_w]; rw [c38b0]) | skip)
                                              by_cases c39 : a0.toList = ([105, 109, 103] : List UInt8)
                                              · rw [if_pos c39] at H
                                                have c39b0 : (a0.toList == ([105, 109, 103] : List UInt8)) = true := beq_iff_eq.mpr c39
                                                have c39b1 : (a0.toList != ([105, 109, 103] : List UInt8)) = false := bne_eq_false_iff_eq.mpr c39
                                                clear c39
                                                have H' := Aside0.mk H
                                                clear H
                                                go_wp2
                                                go_meet
                                                case rel => exact ⟨_, ((a0.toList == ([105, 109, 103] : List UInt8))), (by first | rfl | (simp; done) | (simp [*]; done)), H', ⟨by have := HJ1.out; have := HJ7.out; have := HJ15.out; have := HJ22.out; have := HJ29.out; first | omega | exact Nat.le_refl _⟩, by repeat (first | exact Drawn0.refl _ | apply Drawn0.step)⟩
                                              · rw [if_neg c39] at H
                                                have c39b0 : (a0.toList == ([105, 109, 103] : List UInt8)) = false := beq_eq_false_iff_ne.mpr c39
                                                have c39b1 : (a0.toList != ([105, 109, 103] : List UInt8)) = true := bne_iff_ne.mpr c39
                                                by_cases c40 : a0.toList = ([105, 110, 112, 117, 116] : List UInt8)
                                                · rw [if_pos c40] at H
                                                  have c40b0 : (a0.toList == ([105, 110, 112, 117, 116] : List UInt8)) = true := beq_iff_eq.mpr c40
                                                  have c40b1 : (a0.toList != ([105, 110, 112, 117, 116] : List UInt8)) = false := bne_eq_false_iff_eq.mpr c40
                                                  clear c40
                                                  have H' := Aside0.mk H
                                                  clear H
                                                  go_wp2
                                                  go_meet
                                                  case rel => exact ⟨_, ((a0.toList == ([105, 110, 112, 117, 116] : List UInt8))), (by first | rfl | (simp; done) | (simp [*]; done)), H', ⟨by have := HJ1.out; have := HJ7.out; have := HJ15.out; have := HJ22.out; have := HJ29.out; first | omega | exact Nat.le_refl _⟩, by repeat (first | exact Drawn0.refl _ | apply Drawn0.step)⟩
                                                · rw [if_neg c40] at H
                                                  have c40b0 : (a0.toList == ([105, 110, 112, 117, 116] : List UInt8)) = false := beq_eq_false_iff_ne.mpr c40
                                                  have c40b1 : (a0.toList != ([105, 110, 112, 117, 116] : List UInt8)) = true := bne_iff_ne.mpr c40
                                                  have H' := Aside0.mk H
                                                  clear H
                                                  go_wp2
                                                  go_meet
                                                  case rel => exact ⟨_, ((a0.toList == ([119, 98, 114] : List UInt8))), (by first | rfl | (simp; done) | (simp [*]; done)), H', ⟨by have := HJ1.out; have := HJ7.out; have := HJ15.out; have := HJ22.out; have := HJ29.out; first | omega | exact Nat.le_refl _⟩, by repeat (first | exact Drawn0.refl _ | apply Drawn0.step)⟩
                                          case rest =>
                                            clear HC37
                                            try clear c1
                                            try clear c2
                                            try clear p2
                                            try clear c3
                                            try clear c3b0
                                            try clear c3b1
                                            try clear c4
                                            try clear c4b0
                                            try clear c4b1
                                            try clear c5
                                            try clear c5b0
                                            try clear c5b1
                                            try clear c6
                                            try clear c6b0
                                            try clear c6b1
                                            try clear c7
                                            try clear c9
                                            try clear c9b0
                                            try clear c9b1
                                            try clear c10
                                            try clear c10b0
                                            try clear c10b1
                                            try clear c11
                                            try clear c11b0
                                            try clear c11b1
                                            try clear c12
                                            try clear c12b0
                                            try clear c12b1
                                            try clear c13
                                            try clear c13b0
                                            try clear c13b1
                                            try clear c14
                                            try clear c15
                                            try clear c15b0
                                            try clear c15b1
                                            try clear c16
                                            try clear c17
                                            try clear c17b0
                                            try clear c17b1
                                            try clear c18
                                            try clear c18b0
                                            try clear c18b1
                                            try clear c19
                                            try clear c19b0
                                            try clear c19b1
                                            try clear c20
                                            try clear c20b0
                                            try clear c20b1
                                            try clear c21
                                            try clear c22
                                            try clear c22b0
                                            try clear c22b1
                                            try clear c24
                                            try clear c24b0
                                            try clear c24b1
                                            try clear c25
                                            try clear c25b0
                                            try clear c25b1
                                            try clear c26
                                            try clear c27
                                            try clear c27b0
                                            try clear c27b1
                                            try clear c28
                                            try clear c28b0
                                            try clear c28b1
                                            try clear c29
                                            try clear c29b0
                                            try clear c29b1
                                            try clear c31
                                            try clear c31b0
                                            try clear c31b1
                                            try clear c32
                                            try clear c32b0
                                            try clear c32b1
                                            try clear c33
                                            try clear c33b0
                                            try clear c33b1
                                            try clear c34
                                            try clear c34b0
                                            try clear c34b1
                                            try clear c35
                                            try clear c35b0
                                            try clear c35b1
                                            try clear c36
                                            try clear c38
                                            try clear c38b0
                                            try clear c38b1
                                            try clear c39
                                            try clear c39b0
                                            try clear c39b1
                                            try clear c40
                                            try clear c40b0
                                            try clear c40b1
                                            try clear p2
                                            obtain ⟨kq, x44_36, rfl, HA, HJ36, ⟨mc36, rfl⟩⟩ := hcut
                                            cases kq with
                                            | zero => exact absurd HA.out (by simp [tags_Group.j5])
                                            | succ kj36 =>
                                              have H := HA.out
                                              clear HA
                                              simp only [tags_Group.j5] at H
                                              by_cases c41 : x44_36 = true
                                              · subst c41
                                                have H1 : (some 11) = some r := by rw [if_pos rfl] at H; exact H
                                                clear H
                                                have H := H1
                                                clear H1
                                                obtain rfl := Option.some.inj H
                                                go_wp2
                                                go_ret
                                                exact ⟨by first | rfl | (simp; done) | (simp [*]; done), by repeat (first | exact Drawn0.refl _ | apply Drawn0.step)⟩
                                              · replace c41 := Bool.eq_false_iff.mpr c41
                                                subst c41
                                                have H1 : (if a0.toList = ([104, 114] : List UInt8) then (some 12) else (if a0.toList = ([116, 105, 116, 108, 101] : List UInt8) then (some 13) else (if a0.toList = ([116, 101, 120, 116, 97, 114, 101, 97] : List UInt8) then (some 14) else (if a0.toList = ([115, 99, 114, 105, 112, 116] : List UInt8) then (tags_Group.j6 kj36 a0 (a0.toList == ([115, 99, 114, 105, 112, 116] : List UInt8))) else (tags_Group.j6 kj36 a0 (a0.toList == ([115, 116, 121, 108, 101] : List UInt8))))))) = some r := by rw [if_neg (show ¬ (false = true) by decide)] at H; exact H
                                                clear H
                                                have H := H1
                                                clear H1
                                                by_cases c42 : a0.toList = ([104, 114] : List UInt8)
                                                · rw [if_pos c42] at H
                                                  have c42b0 : (a0.toList == ([104, 114] : List UInt8)) = true := beq_iff_eq.mpr c42
                                                  have c42b1 : (a0.toList != ([104, 114] : List UInt8)) = false := bne_eq_false_iff_eq.mpr c42
                                                  clear c42
                                                  obtain rfl := Option.some.inj H
                                                  go_wp2
                                                  go_ret
                                                  exact ⟨by first | rfl | (simp; done) | (simp [*]; done), by repeat (first | exact Drawn0.refl _ | apply Drawn0.step)⟩
                                                · rw [if_neg c42] at H
                                                  have c42b0 : (a0.toList == ([104, 114] : List UInt8)) = false := beq_eq_false_iff_ne.mpr c42
                                                  have c42b1 : (a0.toList != ([104, 114] : List UInt8)) = true := bne_iff_ne.mpr c42
                                                  by_cases c43 : a0.toList = ([116, 105, 116, 108, 101] : List UInt8)
                                                  · rw [if_pos c43] at H
                                                    have c43b0 : (a0.toList == ([116, 105, 116, 108, 101] : List UInt8)) = true := beq_iff_eq.mpr c43
                                                    have c43b1 : (a0.toList != ([116, 105, 116, 108, 101] : List UInt8)) = false := bne_eq_false_iff_eq.mpr c43
                                                    clear c43
                                                    obtain rfl := Option.some.inj H
                                                    go_wp2
                                                    go_ret
                                                    exact ⟨by first | rfl | (simp; done) | (simp [*]; done), by repeat (first | exact Drawn0.refl _ | apply Drawn0.step)⟩
                                                  · rw [if_neg c43] at H
                                                    have c43b0 : (a0.toList == ([116, 105, 116, 108, 101] : List UInt8)) = false := beq_eq_false_iff_ne.mpr c43
                                                    have c43b1 : (a0.toList != ([116, 105, 116, 108, 101] : List UInt8)) = true := bne_iff_ne.mpr c43
                                                    by_cases c44 : a0.toList = ([116, 101, 120, 116, 97, 114, 101, 97] : List UInt8)
                                                    · rw [if_pos c44] at H
                                                      have c44b0 : (a0.toList == ([116, 101, 120, 116, 97, 114, 101, 97] : List UInt8)) = true := beq_iff_eq.mpr c44
                                                      have c44b1 : (a0.toList != ([116, 101, 120, 116, 97, 114, 101, 97] : List UInt8)) = false := bne_eq_false_iff_eq.mpr c44
                                                      clear c44
                                                      obtain rfl := Option.some.inj H
                                                      go_wp2
                                                      go_ret
                                                      exact ⟨by first | rfl | (simp; done) | (simp [*]; done), by repeat (first | exact Drawn0.refl _ | apply Drawn0.step)⟩
                                                    · rw [if_neg c44] at H
                                                      have c44b0 : (a0.toList == ([116, 101, 120, 116, 97, 114, 101, 97] : List UInt8)) = false := beq_eq_false_iff_ne.mpr c44
                                                      have c44b1 : (a0.toList != ([116, 101, 120, 116, 97, 114, 101, 97] : List UInt8)) = true := bne_iff_ne.mpr c44
                                                      have HC45 := Aside0.mk H
                                                      clear H
                                                      go_upto_if 55 with (fail)
                                                      go_cut [55] (fun v55 wc => ∃ (kq : Nat) (x55_44 : Bool), v55 = .bool x55_44 ∧ Aside0 (tags_Group.j6 kq a0 x55_44 = some r) ∧ Aside0 (kq ≤ kj36) ∧ Drawn0 w wc)
                                                      case first =>
                                                        have H := HC45.out
                                                        clear HC45
                                                        by_cases c46 : a0.toList = ([115, 99, 114, 105, 112, 116] : List UInt8)
                                                        · rw [if_pos c46] at H
                                                          have c46b0 : (a0.toList == ([115, 99, 114, 105, 112, 116] : List UInt8)) = true := beq_iff_eq.mpr c46
                                                          have c46b1 : (a0.toList != ([115, 99, 114, 105, 112, 116] : List UInt8)) = false := bne_eq_false_iff_eq.mpr c46
                                                          clear c46
                                                          (first | rw [c46b0] | (simp only [i64_w, i32_w]; rw [c46b0]) | skip)
                                                          have H' := Aside0.mk H
                                                          clear H
                                                          go_wp2
                                                          go_meet
                                                          case rel => exact ⟨_, ((a0.toList == ([115, 99, 114, 105, 112, 116] : List UInt8))), (by first | rfl | (simp; done) | (simp [*]; done)), H', ⟨by have := HJ1.out; have := HJ7.out; have := HJ15.out; have := HJ22.out; have := HJ29.out; have := HJ36.out; first | omega | exact Nat.le_refl _⟩, by repeat (first | exact Drawn0.refl _ | apply Drawn0.step)⟩
                                                        · rw [if_neg c46] at H
                                                          have c46b0 : (a0.toList == ([115, 99, 114, 105, 112, 116] : List UInt8)) = false := beq_eq_false_iff_ne.mpr c46
                                                          have c46b1 : (a0.toList != ([115, 99, 114, 105, 112, 116] : List UInt8)) = true := bne_iff_ne.mpr c46
                                                          (first | rw [c46b0] | (simp only [i64_w, i32_w]; rw [c46b0]) | skip)
                                                          have H' := Aside0.mk H
                                                          clear H
                                                          go_wp2
                                                          go_meet
                                                          case rel => exact ⟨_, ((a0.toList == ([115, 116, 121, 108, 101] : List UInt8))), (by first | rfl | (simp; done) | (simp [*]; done)), H', ⟨by have := HJ1.out; have := HJ7.out; have := HJ15.out; have := HJ22.out; have := HJ29.out; have := HJ36.out; first | omega | exact Nat.le_refl _⟩, by repeat (first | exact Drawn0.refl _ | apply Drawn0.step)⟩
                                                      case rest =>
                                                        clear HC45
                                                        try clear c1
                                                        try clear c2
                                                        try clear p2
                                                        try clear c3
                                                        try clear c3b0
                                                        try clear c3b1
                                                        try clear c4
                                                        try clear c4b0
                                                        try clear c4b1
                                                        try clear c5
                                                        try clear c5b0
                                                        try clear c5b1
                                                        try clear c6
                                                        try clear c6b0
                                                        try clear c6b1
                                                        try clear c7
                                                        try clear c9
                                                        try clear c9b0
                                                        try clear c9b1
                                                        try clear c10
                                                        try clear c10b0
                                                        try clear c10b1
                                                        try clear c11
                                                        try clear c11b0
                                                        try clear c11b1
                                                        try clear c12
                                                        try clear c12b0
                                                        try clear c12b1
                                                        try clear c13
                                                        try clear c13b0
                                                        try clear c13b1
                                                        try clear c14
                                                        try clear c15
                                                        try clear c15b0
                                                        try clear c15b1
                                                        try clear c16
                                                        try clear c17
                                                        try clear c17b0
                                                        try clear c17b1
                                                        try clear c18
                                                        try clear c18b0
                                                        try clear c18b1
                                                        try clear c19
                                                        try clear c19b0
                                                        try clear c19b1
                                                        try clear c20
                                                        try clear c20b0
                                                        try clear c20b1
                                                        try clear c21
                                                        try clear c22
                                                        try clear c22b0
                                                        try clear c22b1
                                                        try clear c24
                                                        try clear c24b0
                                                        try clear c24b1
                                                        try clear c25
                                                        try clear c25b0
                                                        try clear c25b1
                                                        try clear c26
                                                        try clear c27
                                                        try clear c27b0
                                                        try clear c27b1
                                                        try clear c28
                                                        try clear c28b0
                                                        try clear c28b1
                                                        try clear c29
                                                        try clear c29b0
                                                        try clear c29b1
                                                        try clear c31
                                                        try clear c31b0
                                                        try clear c31b1
                                                        try clear c32
                                                        try clear c32b0
                                                        try clear c32b1
                                                        try clear c33
                                                        try clear c33b0
                                                        try clear c33b1
                                                        try clear c34
                                                        try clear c34b0
                                                        try clear c34b1
                                                        try clear c35
                                                        try clear c35b0
                                                        try clear c35b1
                                                        try clear c36
                                                        try clear c38
                                                        try clear c38b0
                                                        try clear c38b1
                                                        try clear c39
                                                        try clear c39b0
                                                        try clear c39b1
                                                        try clear c40
                                                        try clear c40b0
                                                        try clear c40b1
                                                        try clear c41
                                                        try clear c42
                                                        try clear c42b0
                                                        try clear c42b1
                                                        try clear c43
                                                        try clear c43b0
                                                        try clear c43b1
                                                        try clear c44
                                                        try clear c44b0
                                                        try clear c44b1
                                                        try clear c46
                                                        try clear c46b0
                                                        try clear c46b1
                                                        try clear p2
                                                        obtain ⟨kq, x55_44, rfl, HA, HJ44, ⟨mc44, rfl⟩⟩ := hcut
                                                        cases kq with
                                                        | zero => exact absurd HA.out (by simp [tags_Group.j6])
                                                        | succ kj44 =>
                                                          have H := HA.out
                                                          clear HA
                                                          simp only [tags_Group.j6] at H
                                                          by_cases c47 : x55_44 = true
                                                          · subst c47
                                                            have H1 : (some 15) = some r := by rw [if_pos rfl] at H; exact H
                                                            clear H
                                                            have H := H1
                                                            clear H1
                                                            obtain rfl := Option.some.inj H
                                                            go_wp2
                                                            go_ret
                                                            exact ⟨by first | rfl | (simp; done) | (simp [*]; done), by repeat (first | exact Drawn0.refl _ | apply Drawn0.step)⟩
                                                          · replace c47 := Bool.eq_false_iff.mpr c47
                                                            subst c47
                                                            have H1 : (if a0.toList = ([120, 109, 112] : List UInt8) then (some 16) else (if a0.toList = ([109, 97, 116, 104] : List UInt8) then (some 17) else (if a0.toList = ([115, 118, 103] : List UInt8) then (some 17) else (some 0)))) = some r := by rw [if_neg (show ¬ (false = true) by decide)] at H; exact H
                                                            clear H
                                                            have H := H1
                                                            clear H1
                                                            by_cases c48 : a0.toList = ([120, 109, 112] : List UInt8)
                                                            · rw [if_pos c48] at H
                                                              have c48b0 : (a0.toList == ([120, 109, 112] : List UInt8)) = true := beq_iff_eq.mpr c48
                                                              have c48b1 : (a0.toList != ([120, 109, 112] : List UInt8)) = false := bne_eq_false_iff_eq.mpr c48
                                                              clear c48
                                                              obtain rfl := Option.some.inj H
                                                              go_wp2
                                                              go_ret
                                                              exact ⟨by first | rfl | (simp; done) | (simp [*]; done), by repeat (first | exact Drawn0.refl _ | apply Drawn0.step)⟩
                                                            · rw [if_neg c48] at H
                                                              have c48b0 : (a0.toList == ([120, 109, 112] : List UInt8)) = false := beq_eq_false_iff_ne.mpr c48
                                                              have c48b1 : (a0.toList != ([120, 109, 112] : List UInt8)) = true := bne_iff_ne.mpr c48
                                                              by_cases c49 : a0.toList = ([109, 97, 116, 104] : List UInt8)
                                                              · rw [if_pos c49] at H
                                                                have c49b0 : (a0.toList == ([109, 97, 116, 104] : List UInt8)) = true := beq_iff_eq.mpr c49
                                                                have c49b1 : (a0.toList != ([109, 97, 116, 104] : List UInt8)) = false := bne_eq_false_iff_eq.mpr c49
                                                                clear c49
                                                                obtain rfl := Option.some.inj H
                                                                go_wp2
                                                                go_ret
                                                                exact ⟨by first | rfl | (simp; done) | (simp [*]; done), by repeat (first | exact Drawn0.refl _ | apply Drawn0.step)⟩
                                                              · rw [if_neg c49] at H
                                                                have c49b0 : (a0.toList == ([109, 97, 116, 104] : List UInt8)) = false := beq_eq_false_iff_ne.mpr c49
                                                                have c49b1 : (a0.toList != ([109, 97, 116, 104] : List UInt8)) = true := bne_iff_ne.mpr c49
                                                                by_cases c50 : a0.toList = ([115, 118, 103] : List UInt8)
                                                                · rw [if_pos c50] at H
                                                                  have c50b0 : (a0.toList == ([115, 118, 103] : List UInt8)) = true := beq_iff_eq.mpr c50
                                                                  have c50b1 : (a0.toList != ([115, 118, 103] : List UInt8)) = false := bne_eq_false_iff_eq.mpr c50
                                                                  clear c50
                                                                  obtain rfl := Option.some.inj H
                                                                  go_wp2
                                                                  go_ret
                                                                  exact ⟨by first | rfl | (simp; done) | (simp [*]; done), by repeat (first | exact Drawn0.refl _ | apply Drawn0.step)⟩
                                                                · rw [if_neg c50] at H
                                                                  have c50b0 : (a0.toList == ([115, 118, 103] : List UInt8)) = false := beq_eq_false_iff_ne.mpr c50
                                                                  have c50b1 : (a0.toList != ([115, 118, 103] : List UInt8)) = true := bne_iff_ne.mpr c50
                                                                  obtain rfl := Option.some.inj H
                                                                  go_wp2
                                                                  go_ret
                                                                  exact ⟨by first | rfl | (simp; done) | (simp [*]; done), by repeat (first | exact Drawn0.refl _ | apply Drawn0.step)⟩

end Go.Proofs.Ytplcjpcdjhiieaa.PTagsSpaces
