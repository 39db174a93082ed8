/-
  A nil list's methods, walked.
  Written by an AI agent.
-/
import Derived.Test.YtjopfgdgmniigaaFour
import Derived.Laws.ResultCell
namespace Go.Proofs.Ytjopfgdgmniigaa
open Go.RowKit Go.Maps

theorem nil_clear (w : World) : Calls Try.prog 21 #[.pointer none] w fun e w' => e = .returned (.tuple #[]) ∧ w' = w := by
  go_enter Try.func21, Try.ntmps21
  go_wp2
  all_goals go_returns
  all_goals exact ⟨rfl, rfl⟩
theorem nil_find (id : Int) (w : World) : Calls Try.prog 12 #[.pointer none, i64 id] w fun e w' => e = .returned (i64 (-1)) ∧ w' = w := by
  go_enter Try.func12, Try.ntmps12
  go_wp2
  go_ret
  exact ⟨rfl, rfl⟩
theorem nil_mark (w : World) : Calls Try.prog 24 #[.pointer none] w fun e w' => e = .returned (i64 7) ∧ w' = w := by
  go_enter Try.func24, Try.ntmps24
  go_wp2
  go_ret
  exact ⟨rfl, rfl⟩
theorem nil_all (w : World) : Calls Try.prog 14 #[.pointer none] w fun e w' => e = .returned (.slice none 0 0) ∧ w' = w := by
  go_enter Try.func14, Try.ntmps14
  go_wp2
  go_ret
  exact ⟨rfl, rfl⟩
theorem nil_cut (v : Value) (w : World) : Calls Try.prog 19 #[.pointer none, v] w fun e w' => e = .returned (.slice none 0 0) ∧ w' = w := by
  go_enter Try.func19, Try.ntmps19
  go_wp2
  go_ret
  exact ⟨rfl, rfl⟩
theorem nil_remove (id : Int) (w : World) : Calls Try.prog 25 #[.pointer none, i64 id] w fun e w' => e = .returned (.bool false) ∧ w' = w := by
  go_enter Try.func25, Try.ntmps25
  go_wp2_with (first | (go_at_call 12; (with_reducible refine (nil_find _ _).mono ?_); rintro e w' ⟨rfl, rfl⟩))
  go_ret
  exact ⟨rfl, rfl⟩
theorem nil_swap (id : Int) (mk : Bool) (i : Int) (nm : ByteArray) (ad : Option Addr) (n c : Nat) (w : World) : Calls Try.prog 26 #[.pointer none, i64 id, .agg #[.bool mk, i64 i, .string nm, .slice ad n c]] w fun e w' => e = .returned (.bool false) ∧ Below w.heap.size w w' := by
  go_enter Try.func26, Try.ntmps26
  go_wp2_with (first | (go_at_call 12; (with_reducible refine (nil_find _ _).mono ?_); rintro e w' ⟨rfl, rfl⟩))
  go_ret
  exact ⟨rfl, (Below.refl _ _).alloc (Nat.le_refl _) _⟩
theorem nil_add (mk : Bool) (i : Int) (nm : ByteArray) (ad : Option Addr) (n c : Nat) (w : World) : Calls Try.prog 22 #[.pointer none, .agg #[.bool mk, i64 i, .string nm, .slice ad n c]] w fun e w' => e = .returned (i64 (if wrongB mk i then 1 else 7)) ∧ Below w.heap.size w w' := by
  cases hw : wrongB mk i
  all_goals
    have HW := Lib.hid hw
    clear hw
    go_enter Try.func22, Try.ntmps22
    go_wp2_with (first | (go_at_call 41; (with_reducible refine wrong_any.mono ?_); rintro e w1 ⟨rfl, hb⟩; rw [HW.out]; have HB := Lib.hid hb; clear hb))
    go_ret
    have b1 := ((Below.refl w.heap.size w).alloc (Nat.le_refl _) (.cells #[.bool mk, i64 i, .string nm, .slice ad n c] 33))
    exact ⟨rfl, b1.trans (HB.out.mono b1.size)⟩
theorem nil_insert (mk : Bool) (i : Int) (nm : ByteArray) (ad : Option Addr) (n c : Nat) (w : World) : Calls Try.prog 23 #[.pointer none, i64 0, .agg #[.bool mk, i64 i, .string nm, .slice ad n c]] w fun e w' => e = .returned (i64 (if wrongB mk i then 1 else 7)) ∧ Below w.heap.size w w' := by
  cases hw : wrongB mk i
  all_goals
    have HW := Lib.hid hw
    clear hw
    go_enter Try.func23, Try.ntmps23
    go_wp2_with (first | (go_at_call 41; (with_reducible refine wrong_any.mono ?_); rintro e w1 ⟨rfl, hb⟩; rw [HW.out]; have HB := Lib.hid hb; clear hb))
    go_ret
    have b1 := ((Below.refl w.heap.size w).alloc (Nat.le_refl _) (.cells #[.bool mk, i64 i, .string nm, .slice ad n c] 33))
    exact ⟨rfl, b1.trans (HB.out.mono b1.size)⟩
theorem results_cell_cell {fn : Func} {p u : Tmp} {ty ty2 : TypeId} (h : fn.results = #[.cell p ty, .cell u ty2]) (tmps : Array Value) (P : Program) (w : World) :
    (results fn tmps).run P w =
      ((asAddr (tmps.getD p undef)).run P w).andThen fun a w₁ => ((loadVar ty a).run P w₁).andThen fun v w₂ => ((asAddr (tmps.getD u undef)).run P w₂).andThen fun b w₃ => ((loadVar ty2 b).run P w₃).andThen fun x w₄ => .ok (.tuple #[v, x]) w₄ := by
  simp only [results, h]
  simp [Sem.run_bind, Result.andThen]
theorem results_last {w : World} {tmps : Array Value} {g1 g2 : Nat} {cs : Array Value} {b : Bool} (hp : tmps.getD 4 undef = ptr g1) (hq : tmps.getD 5 undef = ptr g2) (h1 : Blk w g1 33 cs) (h2 : Blk w g2 4 #[.bool b]) (hs : cs.size = 4) :
    (results Try.f16 tmps).run Try.prog w = .ok (.tuple #[.agg cs, .bool b]) w := by
  have hi : (Try.prog.info? 33).map (·.size) = some cs.size := by
    rw [hs]
    have := info33
    cases hh : Try.prog.info? 33 with
    | none => rw [hh] at this; cases this
    | some j => rw [hh] at this; simp at this; simp [this]
  have hl1 := run_loadVar_row (P := Try.prog) w g1 33 33 cs (0, 0) _ h1 Try.underlying33 rfl hi
  have hc := h2.cell 0 (.bool b) rfl
  have hl2 : (loadVar 4 ⟨g2, 0, none⟩).run Try.prog w = .ok (.bool b) w := by
    have ha : (isAgg 4).run Try.prog w = .ok false w := by kernel_rfl
    simp [loadVar, Sem.run_bind, ha, Result.andThen, hc]
  rw [results_cell_cell rfl, hp, hq]
  simp [asAddr, Result.andThen, hl1, hl2]

theorem nil_last (nm : ByteArray) (w : World) : Calls Try.prog 16 #[.pointer none, .string nm] w fun e w' => e = .returned (.tuple #[.agg #[.bool false, i64 0, .string ⟨#[]⟩, .slice none 0 0], .bool false]) ∧ Below w.heap.size w w' := by
  go_enter Try.func16, Try.ntmps16
  go_wp2
  have b1 := (Blk.new (w.alloc (.cells #[.string nm] 9)) 33 #[.bool false, i64 0, .string ⟨#[]⟩, .slice none 0 0]).alloc (.cells #[.bool false] 4)
  have b2 := Blk.new ((w.alloc (.cells #[.string nm] 9)).alloc (.cells #[.bool false, i64 0, .string ⟨#[]⟩, .slice none 0 0] 33)) 4 #[.bool false]
  simp only [World.size_alloc] at b1 b2
  exact bodyPost_ret (results_last rfl rfl b1 b2 rfl) rfl ⟨rfl, ((((Below.refl _ w).alloc (Nat.le_refl _) _).alloc (by simp) _).alloc (by simp; omega) _)⟩

theorem blk_kept {w w' : World} {g : Nat} {t : TypeId} {cs : Array Value} (h : Blk w g t cs) (hb : Below w.heap.size w w') : Blk w' g t cs := (hb.block g h.lt).trans h

set_option maxHeartbeats 8000000 in
set_option maxRecDepth 100000 in
theorem activeNil_mark (what n : Int) (id : Int) (nm : ByteArray) (ad : Option Addr) (na c : Nat) (w : World) :
    Calls Try.prog 4 #[.agg #[i64 what, i64 n, .bool true, i64 id, .string nm, .slice ad na c]] w fun e w' => e = .returned (.bool true) ∧ Below w.heap.size w w' := by
  have hb := Blk.new w 35 #[i64 what, i64 n, .bool true, i64 id, .string nm, .slice ad na c]
  have HB := Lib.hid hb
  clear hb
  have HW := Lib.hid (show (if wrongB true id then (1 : Int) else 7) = 1 by unfold wrongB; simp)
  go_enter Try.func4, Try.ntmps4
  go_wp2_with (first
    | (go_at_call 21; (with_reducible refine (nil_clear _).mono ?_); rintro e w' ⟨rfl, rfl⟩)
    | (go_at_call 16; (with_reducible refine (nil_last _ _).mono ?_); rintro e w1 ⟨rfl, hb1⟩; have hk := blk_kept HB.out hb1; have q1 := Blk.cell hk 1 (i64 n) rfl; have q2 := Blk.cell hk 2 (.bool true) rfl; have q3 := Blk.cell hk 3 (i64 id) rfl; have q4 := Blk.cell hk 4 (.string nm) rfl; have q5 := Blk.cell hk 5 (.slice ad na c) rfl; have q0 := hk.lt; have H1 := Lib.hid (And.intro hk hb1); clear hk hb1)
    | (go_at_call 22; (with_reducible refine (nil_add _ _ _ _ _ _ _).mono ?_); rintro e w2 ⟨rfl, hb2⟩; rw [HW.out]; have hk := blk_kept (H1.out.1.alloc _) hb2; have r1 := Blk.cell hk 1 (i64 n) rfl; have r2 := Blk.cell hk 2 (.bool true) rfl; have r3 := Blk.cell hk 3 (i64 id) rfl; have r4 := Blk.cell hk 4 (.string nm) rfl; have r5 := Blk.cell hk 5 (.slice ad na c) rfl; have H2 := Lib.hid (And.intro hk hb2); clear hk hb2)
    | (go_at_call 23; (with_reducible refine (nil_insert _ _ _ _ _ _ _).mono ?_); rintro e w3 ⟨rfl, hb3⟩; rw [HW.out]; have hk := blk_kept H2.out.1 hb3; have s1 := Blk.cell hk 1 (i64 n) rfl; have s2 := Blk.cell hk 2 (.bool true) rfl; have s3 := Blk.cell hk 3 (i64 id) rfl; have s4 := Blk.cell hk 4 (.string nm) rfl; have s5 := Blk.cell hk 5 (.slice ad na c) rfl; have H3 := Lib.hid (And.intro hk hb3); clear hk hb3)
    | (go_at_call 24; (with_reducible refine (nil_mark _).mono ?_); rintro e w' ⟨rfl, rfl⟩)
    | (go_at_call 12; (with_reducible refine (nil_find _ _).mono ?_); rintro e w' ⟨rfl, rfl⟩)
    | (go_at_call 25; (with_reducible refine (nil_remove _ _).mono ?_); rintro e w' ⟨rfl, rfl⟩)
    | (go_at_call 26; (with_reducible refine (nil_swap _ _ _ _ _ _ _ _).mono ?_); rintro e w4 ⟨rfl, hb4⟩; have H4 := Lib.hid hb4; clear hb4)
    | (go_at_call 14; (with_reducible refine (nil_all _).mono ?_); rintro e w' ⟨rfl, rfl⟩)
    | (go_at_call 19; (with_reducible refine (nil_cut _ _).mono ?_); rintro e w' ⟨rfl, rfl⟩)
    | (go_at_call 10; (with_reducible refine (four_any _).mono ?_); rintro e w5 ⟨rfl, hb5⟩; have H5 := Lib.hid hb5; clear hb5))
  go_ret
  have b0 := (Below.refl w.heap.size w).alloc (Nat.le_refl _) (.cells #[i64 what, i64 n, .bool true, i64 id, .string nm, .slice ad na c] 35)
  have b1 := b0.trans (H1.out.2.mono b0.size)
  have b2 := b1.alloc b1.size (.cells #[.bool false, i64 0, .string ⟨#[]⟩, .slice none 0 0] 33)
  have b3 := b2.trans (H2.out.2.mono b2.size)
  have b4 := b3.trans (H3.out.2.mono b3.size)
  have b5 := b4.trans (H4.out.mono b4.size)
  exact ⟨rfl, b5.trans (H5.out.mono b5.size)⟩

set_option maxHeartbeats 8000000 in
set_option maxRecDepth 100000 in
theorem activeNil_neg (what n : Int) (id : Int) (nm : ByteArray) (ad : Option Addr) (na c : Nat) (w : World) (hi : id < 0) :
    Calls Try.prog 4 #[.agg #[i64 what, i64 n, .bool false, i64 id, .string nm, .slice ad na c]] w fun e w' => e = .returned (.bool true) ∧ Below w.heap.size w w' := by
  have hb := Blk.new w 35 #[i64 what, i64 n, .bool false, i64 id, .string nm, .slice ad na c]
  have HB := Lib.hid hb
  clear hb
  have h1 : decide (id < 0) = true := by simpa using hi
  have HW := Lib.hid (show (if wrongB false id then (1 : Int) else 7) = 1 by unfold wrongB; simp [hi])
  clear hi
  go_enter Try.func4, Try.ntmps4
  go_wp2_with (first
    | (go_at_call 21; (with_reducible refine (nil_clear _).mono ?_); rintro e w' ⟨rfl, rfl⟩)
    | (go_at_call 16; (with_reducible refine (nil_last _ _).mono ?_); rintro e w1 ⟨rfl, hb1⟩; have hk := blk_kept HB.out hb1; have q1 := Blk.cell hk 1 (i64 n) rfl; have q2 := Blk.cell hk 2 (.bool false) rfl; have q3 := Blk.cell hk 3 (i64 id) rfl; have q4 := Blk.cell hk 4 (.string nm) rfl; have q5 := Blk.cell hk 5 (.slice ad na c) rfl; have q0 := hk.lt; have H1 := Lib.hid (And.intro hk hb1); clear hk hb1)
    | (go_at_call 22; (with_reducible refine (nil_add _ _ _ _ _ _ _).mono ?_); rintro e w2 ⟨rfl, hb2⟩; rw [HW.out]; have hk := blk_kept (H1.out.1.alloc _) hb2; have r1 := Blk.cell hk 1 (i64 n) rfl; have r2 := Blk.cell hk 2 (.bool false) rfl; have r3 := Blk.cell hk 3 (i64 id) rfl; have r4 := Blk.cell hk 4 (.string nm) rfl; have r5 := Blk.cell hk 5 (.slice ad na c) rfl; have H2 := Lib.hid (And.intro hk hb2); clear hk hb2)
    | (go_at_call 23; (with_reducible refine (nil_insert _ _ _ _ _ _ _).mono ?_); rintro e w3 ⟨rfl, hb3⟩; rw [HW.out]; have hk := blk_kept H2.out.1 hb3; have s1 := Blk.cell hk 1 (i64 n) rfl; have s2 := Blk.cell hk 2 (.bool false) rfl; have s3 := Blk.cell hk 3 (i64 id) rfl; have s4 := Blk.cell hk 4 (.string nm) rfl; have s5 := Blk.cell hk 5 (.slice ad na c) rfl; have H3 := Lib.hid (And.intro hk hb3); clear hk hb3)
    | (go_at_call 24; (with_reducible refine (nil_mark _).mono ?_); rintro e w' ⟨rfl, rfl⟩)
    | (go_at_call 12; (with_reducible refine (nil_find _ _).mono ?_); rintro e w' ⟨rfl, rfl⟩)
    | (go_at_call 25; (with_reducible refine (nil_remove _ _).mono ?_); rintro e w' ⟨rfl, rfl⟩)
    | (go_at_call 26; (with_reducible refine (nil_swap _ _ _ _ _ _ _ _).mono ?_); rintro e w4 ⟨rfl, hb4⟩; have H4 := Lib.hid hb4; clear hb4)
    | (go_at_call 14; (with_reducible refine (nil_all _).mono ?_); rintro e w' ⟨rfl, rfl⟩)
    | (go_at_call 19; (with_reducible refine (nil_cut _ _).mono ?_); rintro e w' ⟨rfl, rfl⟩)
    | (go_at_call 10; (with_reducible refine (four_any _).mono ?_); rintro e w5 ⟨rfl, hb5⟩; have H5 := Lib.hid hb5; clear hb5))
  go_ret
  have b0 := (Below.refl w.heap.size w).alloc (Nat.le_refl _) (.cells #[i64 what, i64 n, .bool false, i64 id, .string nm, .slice ad na c] 35)
  have b1 := b0.trans (H1.out.2.mono b0.size)
  have b2 := b1.alloc b1.size (.cells #[.bool false, i64 0, .string ⟨#[]⟩, .slice none 0 0] 33)
  have b3 := b2.trans (H2.out.2.mono b2.size)
  have b4 := b3.trans (H3.out.2.mono b3.size)
  have b5 := b4.trans (H4.out.mono b4.size)
  exact ⟨rfl, b5.trans (H5.out.mono b5.size)⟩

set_option maxHeartbeats 8000000 in
set_option maxRecDepth 100000 in
theorem activeNil_good (what n : Int) (id : Int) (nm : ByteArray) (ad : Option Addr) (na c : Nat) (w : World) (hi : ¬ id < 0) :
    Calls Try.prog 4 #[.agg #[i64 what, i64 n, .bool false, i64 id, .string nm, .slice ad na c]] w fun e w' => e = .returned (.bool true) ∧ Below w.heap.size w w' := by
  have hb := Blk.new w 35 #[i64 what, i64 n, .bool false, i64 id, .string nm, .slice ad na c]
  have HB := Lib.hid hb
  clear hb
  have h1 : decide (id < 0) = false := by simpa using hi
  have HW := Lib.hid (show (if wrongB false id then (1 : Int) else 7) = 7 by unfold wrongB; simp [hi])
  clear hi
  go_enter Try.func4, Try.ntmps4
  go_wp2_with (first
    | (go_at_call 21; (with_reducible refine (nil_clear _).mono ?_); rintro e w' ⟨rfl, rfl⟩)
    | (go_at_call 16; (with_reducible refine (nil_last _ _).mono ?_); rintro e w1 ⟨rfl, hb1⟩; have hk := blk_kept HB.out hb1; have q1 := Blk.cell hk 1 (i64 n) rfl; have q2 := Blk.cell hk 2 (.bool false) rfl; have q3 := Blk.cell hk 3 (i64 id) rfl; have q4 := Blk.cell hk 4 (.string nm) rfl; have q5 := Blk.cell hk 5 (.slice ad na c) rfl; have q0 := hk.lt; have H1 := Lib.hid (And.intro hk hb1); clear hk hb1)
    | (go_at_call 22; (with_reducible refine (nil_add _ _ _ _ _ _ _).mono ?_); rintro e w2 ⟨rfl, hb2⟩; rw [HW.out]; have hk := blk_kept (H1.out.1.alloc _) hb2; have r1 := Blk.cell hk 1 (i64 n) rfl; have r2 := Blk.cell hk 2 (.bool false) rfl; have r3 := Blk.cell hk 3 (i64 id) rfl; have r4 := Blk.cell hk 4 (.string nm) rfl; have r5 := Blk.cell hk 5 (.slice ad na c) rfl; have H2 := Lib.hid (And.intro hk hb2); clear hk hb2)
    | (go_at_call 23; (with_reducible refine (nil_insert _ _ _ _ _ _ _).mono ?_); rintro e w3 ⟨rfl, hb3⟩; rw [HW.out]; have hk := blk_kept H2.out.1 hb3; have s1 := Blk.cell hk 1 (i64 n) rfl; have s2 := Blk.cell hk 2 (.bool false) rfl; have s3 := Blk.cell hk 3 (i64 id) rfl; have s4 := Blk.cell hk 4 (.string nm) rfl; have s5 := Blk.cell hk 5 (.slice ad na c) rfl; have H3 := Lib.hid (And.intro hk hb3); clear hk hb3)
    | (go_at_call 24; (with_reducible refine (nil_mark _).mono ?_); rintro e w' ⟨rfl, rfl⟩)
    | (go_at_call 12; (with_reducible refine (nil_find _ _).mono ?_); rintro e w' ⟨rfl, rfl⟩)
    | (go_at_call 25; (with_reducible refine (nil_remove _ _).mono ?_); rintro e w' ⟨rfl, rfl⟩)
    | (go_at_call 26; (with_reducible refine (nil_swap _ _ _ _ _ _ _ _).mono ?_); rintro e w4 ⟨rfl, hb4⟩; have H4 := Lib.hid hb4; clear hb4)
    | (go_at_call 14; (with_reducible refine (nil_all _).mono ?_); rintro e w' ⟨rfl, rfl⟩)
    | (go_at_call 19; (with_reducible refine (nil_cut _ _).mono ?_); rintro e w' ⟨rfl, rfl⟩)
    | (go_at_call 10; (with_reducible refine (four_any _).mono ?_); rintro e w5 ⟨rfl, hb5⟩; have H5 := Lib.hid hb5; clear hb5))
  go_ret
  have b0 := (Below.refl w.heap.size w).alloc (Nat.le_refl _) (.cells #[i64 what, i64 n, .bool false, i64 id, .string nm, .slice ad na c] 35)
  have b1 := b0.trans (H1.out.2.mono b0.size)
  have b2 := b1.alloc b1.size (.cells #[.bool false, i64 0, .string ⟨#[]⟩, .slice none 0 0] 33)
  have b3 := b2.trans (H2.out.2.mono b2.size)
  have b4 := b3.trans (H3.out.2.mono b3.size)
  have b5 := b4.trans (H4.out.mono b4.size)
  exact ⟨rfl, b5.trans (H5.out.mono b5.size)⟩

theorem activeNil_walk (what n : Int) (mk : Bool) (id : Int) (nm : ByteArray) (ad : Option Addr) (na c : Nat) (w : World) :
    Calls Try.prog 4 #[.agg #[i64 what, i64 n, .bool mk, i64 id, .string nm, .slice ad na c]] w fun e w' => e = .returned (.bool true) ∧ Below w.heap.size w w' := by
  cases mk
  · by_cases hi : id < 0
    · exact activeNil_neg what n id nm ad na c w hi
    · exact activeNil_good what n id nm ad na c w hi
  · exact activeNil_mark what n id nm ad na c w

end Go.Proofs.Ytjopfgdgmniigaa
