/-
  A nil stack's functions, walked; (*Stack).To.
  Written by an AI agent.
-/
import Derived.Test.YtdagjpiakbfjpaaCell
namespace Go.Proofs.Ytdagjpiakbfjpaa
open Go.RowKit

theorem nil_top (w : World) : Calls Try.prog 16 #[.pointer none] w fun e w' => e = .returned (.tuple #[.agg #[i64 0, i64 0, .string ⟨#[]⟩], .bool false]) ∧ Below w.heap.size w w' := by
  go_enter Try.func16, Try.ntmps16
  go_wp2
  have k1 := Blk.new w 27 #[i64 0, i64 0, .string ⟨#[]⟩]
  exact bodyPost_ret (results_top rfl rfl k1 rfl) rfl ⟨rfl, (Below.refl _ w).alloc (Nat.le_refl _) _⟩

set_option maxHeartbeats 2000000 in
theorem nil_pop (w : World) : Calls Try.prog 23 #[.pointer none] w fun e w' => e = .returned (.tuple #[.agg #[i64 0, i64 0, .string ⟨#[]⟩], .bool false]) ∧ Below w.heap.size w w' := by
  have b0 := Lib.hid ((Below.refl _ w).alloc (Nat.le_refl w.heap.size) (.cells #[i64 0, i64 0, .string ⟨#[]⟩] 27))
  have hres := Lib.hid (Blk.new w 27 #[i64 0, i64 0, .string ⟨#[]⟩])
  go_enter Try.func23, Try.ntmps23
  go_wp2_with (first
    | (go_at_call 16; (with_reducible refine (nil_top _).mono ?_); rintro e w1 ⟨rfl, hb1⟩; have g0 := (blk_kept hres.out hb1).alloc (.cells #[i64 0, i64 0, .string ⟨#[]⟩] 27); have r0 := g0.cell 0 (i64 0) rfl; have r1 := g0.cell 1 (i64 0) rfl; have r2 := g0.cell 2 (.string ⟨#[]⟩) rfl; have f0 := g0.fro 0; have f1 := g0.fro 1; have f2 := g0.fro 2; have hx := Blk.new w1 27 #[i64 0, i64 0, .string ⟨#[]⟩]; have x0 := hx.cell 0 (i64 0) rfl; have x1 := hx.cell 1 (i64 0) rfl; have x2 := hx.cell 2 (.string ⟨#[]⟩) rfl; have H1 := Lib.hid (And.intro hb1 g0); clear hb1 g0 hx))
  have k1 := ((H1.out.2.put 0 (i64 0)).put 1 (i64 0)).put 2 (.string ⟨#[]⟩)
  have bw := (b0.out.trans (H1.out.1.mono b0.out.size)).alloc (b0.out.trans (H1.out.1.mono b0.out.size)).size (.cells #[i64 0, i64 0, .string ⟨#[]⟩] 27)
  have bw3 := ((bw.setCell (p := ⟨w.heap.size, 0, none⟩) (Nat.le_refl _) (i64 0)).setCell (p := ⟨w.heap.size, 1, none⟩) (Nat.le_refl _) (i64 0)).setCell (p := ⟨w.heap.size, 2, none⟩) (Nat.le_refl _) (.string ⟨#[]⟩)
  exact bodyPost_ret (results_pop rfl rfl k1 rfl) rfl ⟨rfl, bw3⟩

theorem nil_insert (p id sp : Int) (nm : ByteArray) (w : World) : Calls Try.prog 12 #[.pointer none, i64 p, .agg #[i64 id, i64 sp, .string nm]] w fun e w' => e = .returned (i64 (if p = 0 then 7 else 1)) ∧ Below w.heap.size w w' := by
  have b0 := Lib.hid ((Below.refl _ w).alloc (Nat.le_refl w.heap.size) (.cells #[i64 id, i64 sp, .string nm] 27))
  by_cases h0 : p < 0
  · have y1 : decide (p < 0) = true := by simpa using h0
    rw [if_neg (by omega)]
    go_enter Try.func12, Try.ntmps12
    go_wp2
    go_ret
    exact ⟨rfl, b0.out⟩
  · have y1 : decide (p < 0) = false := by simpa using h0
    by_cases h1 : 0 < p
    · have y2 : decide (0 < p) = true := by simpa using h1
      rw [if_neg (by omega)]
      go_enter Try.func12, Try.ntmps12
      go_wp2
      go_ret
      exact ⟨rfl, b0.out⟩
    · have y2 : decide (0 < p) = false := by simpa using h1
      rw [if_pos (by omega)]
      go_enter Try.func12, Try.ntmps12
      go_wp2
      go_ret
      exact ⟨rfl, b0.out⟩
theorem nil_push (id sp : Int) (nm : ByteArray) (w : World) : Calls Try.prog 10 #[.pointer none, .agg #[i64 id, i64 sp, .string nm]] w fun e w' => e = .returned (i64 7) ∧ Below w.heap.size w w' := by
  go_enter Try.func10, Try.ntmps10
  go_wp2
  go_ret
  exact ⟨rfl, (Below.refl _ w).alloc (Nat.le_refl _) _⟩
theorem nil_all (w : World) : Calls Try.prog 13 #[.pointer none] w (AllIt [] 0 w) := by
  go_enter Try.func13, Try.ntmps13
  go_wp2
  go_ret
  exact ⟨none, 0, rfl, World.ownsRow_nil _ _ _ _, Below.refl _ _⟩
theorem nil_in {w : World} {scope : Int} {va : Value} {ns : List ByteArray} (ha : NamesAt w va ns) : Calls Try.prog 11 #[.pointer none, i64 scope, va] w fun e w' => e = .returned (.bool false) ∧ Below w.heap.size w w' := by
  refine (in_go (es := []) (len := 0) (fun w0 _ => nil_all w0) ha rfl (by omega)).mono fun e w' h => ?_
  have := in_of (es := []) rfl h
  exact this
theorem nil_find (id : Int) (w : World) : Calls Try.prog 19 #[.pointer none, i64 id] w fun e w' => e = .returned (i64 (-1)) ∧ w' = w := by
  go_enter Try.func19, Try.ntmps19
  go_wp2
  go_ret
  exact ⟨rfl, rfl⟩
theorem nil_remove (id : Int) (w : World) : Calls Try.prog 25 #[.pointer none, i64 id] w fun e w' => e = .returned (.bool false) ∧ w' = w := by
  go_enter Try.func25, Try.ntmps25
  go_wp2_with (first | (go_at_call 19; (with_reducible refine (nil_find _ _).mono ?_); rintro e w1 ⟨rfl, rfl⟩))
  go_ret
  exact ⟨rfl, rfl⟩

set_option maxHeartbeats 2000000 in
theorem nil_back {w : World} {va : Value} {ns : List ByteArray} (ha : NamesAt w va ns) : Calls Try.prog 14 #[.pointer none, va] w fun e w' => e = .returned (i64 0) ∧ Below w.heap.size w w' := by
  obtain ⟨ad, ca, rfl, _, _⟩ := ha
  go_enter Try.func14, Try.ntmps14
  go_wp2_with (first
    | (go_at_call 16; (with_reducible refine (nil_top _).mono ?_); rintro e w1 ⟨rfl, hb1⟩; have H1 := Lib.hid hb1; clear hb1))
  go_loopw [5, 6, 7] (fun n p o wr => n = i64 0 ∧ p = ptr w1.heap.size ∧ o = .bool false ∧ Below w.heap.size w wr) (fun _ _ _ _ => 0)
  case atStart => exact ⟨rfl, rfl, rfl, H1.out.alloc H1.out.size _⟩
  case round =>
    obtain ⟨rfl, rfl, rfl, hbel⟩ := hrel
    go_wp2
    go_ret
    exact ⟨rfl, hbel⟩

set_option maxHeartbeats 2000000 in
theorem nil_implied (but : ByteArray) (w : World) : Calls Try.prog 24 #[.pointer none, .string but] w fun e w' => e = .returned (i64 0) ∧ Below w.heap.size w w' := by
  go_enter Try.func24, Try.ntmps24
  go_wp2_with (first
    | (go_at_call 16; (with_reducible refine (nil_top _).mono ?_); rintro e w1 ⟨rfl, hb1⟩; have H1 := Lib.hid hb1; clear hb1))
  go_loopw [5, 6, 7] (fun n p o wr => n = i64 0 ∧ p = ptr w1.heap.size ∧ o = .bool false ∧ Below w.heap.size w wr) (fun _ _ _ _ => 0)
  case atStart => exact ⟨rfl, rfl, rfl, H1.out.alloc H1.out.size _⟩
  case round =>
    obtain ⟨rfl, rfl, rfl, hbel⟩ := hrel
    go_wp2
    go_ret
    exact ⟨rfl, hbel⟩

set_option maxHeartbeats 2000000 in
theorem nil_to {w : World} {va : Value} {ns : List ByteArray} (ha : NamesAt w va ns) : Calls Try.prog 15 #[.pointer none, va] w fun e w' => e = .returned (i64 0) ∧ Below w.heap.size w w' := by
  have HA := Lib.hid ha
  obtain ⟨ad, ca, rfl, _, _⟩ := ha
  go_enter Try.func15, Try.ntmps15
  go_wp2_with (first
    | (go_at_call 14; (with_reducible refine (nil_back HA.out).mono ?_); rintro e w1 ⟨rfl, hb1⟩; have H1 := Lib.hid hb1; clear hb1)
    | (go_at_call 23; (with_reducible refine (nil_pop _).mono ?_); rintro e w2 ⟨rfl, hb2⟩; have H2 := Lib.hid (H1.out.trans (hb2.mono H1.out.size)); clear hb2))
  go_ret
  exact ⟨rfl, H2.out.alloc H2.out.size _⟩

end Go.Proofs.Ytdagjpiakbfjpaa
