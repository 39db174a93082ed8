/-
  The cache's methods, walked: a new cache; one that is cleared.
  Written by an AI agent.
-/
import Derived.Test.YtdgdfnofedlkaaaWalksB
namespace Go.Proofs.Ytdgdfnofedlkaaa
open Go.RowKit Go.Maps

set_option maxHeartbeats 1000000 in
theorem clear_raw (cb : Nat) (v0 v1 v2 v3 v4 v5 v6 : Value) (w : World) (hb : Blk w cb 54 #[v0, v1, v2, v3, v4, v5, v6]) :
    Calls Try.prog 18 #[ptr cb] w fun e w' => e = .returned (.tuple #[]) ∧
      ((((((w.setCell ⟨cb, 2, none⟩ (.map (some (w.heap.size + 1)))).setCell ⟨cb, 3, none⟩ (ptr w.heap.size)).setCell ⟨cb, 4, none⟩ (i64 0)).setCell ⟨cb, 5, none⟩ (i64 0)).setCell ⟨cb, 6, none⟩ (i64 0)).alloc
        (.cells #[i64 0, .string ⟨#[]⟩, ptr w.heap.size, ptr w.heap.size] 56)).alloc (.map #[] 0) = w' := by
  have hlt := hb.lt
  have hmm := @run_makeMap Try.prog
  have c2 := hb.cell 2 v2 rfl
  have c3 := hb.cell 3 v3 rfl
  have c4 := hb.cell 4 v4 rfl
  have c5 := hb.cell 5 v5 rfl
  have c6 := hb.cell 6 v6 rfl
  have f2 := hb.fro 2
  have f3 := hb.fro 3
  have f4 := hb.fro 4
  have f5 := hb.fro 5
  have f6 := hb.fro 6
  have n1 : cb ≠ w.heap.size := by omega
  clear hb
  go_enter Try.func18, Try.ntmps18
  go_wp2
  go_end0
  exact ⟨rfl, rfl⟩

/-- A cleared cache is empty. -/
theorem clear_mem {w : World} {B cb : Nat} {most bytes : Int} {v2 v3 v4 v5 v6 : Value} (hb : Blk w cb 54 #[i64 most, i64 bytes, v2, v3, v4, v5, v6]) (hB : B ≤ cb) (h1 : 1 ≤ most) (h2 : most ≤ 1000) (h3 : 0 ≤ bytes) (h4 : bytes ≤ 65536)
    {w' : World} (hw : ((((((w.setCell ⟨cb, 2, none⟩ (.map (some (w.heap.size + 1)))).setCell ⟨cb, 3, none⟩ (ptr w.heap.size)).setCell ⟨cb, 4, none⟩ (i64 0)).setCell ⟨cb, 5, none⟩ (i64 0)).setCell ⟨cb, 6, none⟩ (i64 0)).alloc
        (.cells #[i64 0, .string ⟨#[]⟩, ptr w.heap.size, ptr w.heap.size] 56)).alloc (.map #[] 0) = w') :
    Cache Try.prog w' B cb most bytes [] 0 0 ∧ Fr B CK w w' := by
  have hlt := hb.lt
  have b2 := hb.put 2 (.map (some (w.heap.size + 1)))
  have b3 := b2.put 3 (ptr w.heap.size)
  have b4 := b3.put 4 (i64 0)
  have b5 := b4.put 5 (i64 0)
  have b6 := b5.put 6 (i64 0)
  have F : Fr B CK w _ := (((((Fr.refl B CK w).setCell hb rfl hB 2 (.map (some (w.heap.size + 1)))).setCell b2 rfl hB 3 (ptr w.heap.size)).setCell b3 rfl hB 4 (i64 0)).setCell b4 rfl hB 5 (i64 0)).setCell b5 rfl hB 6 (i64 0)
  obtain ⟨w5, hw5⟩ : ∃ w5, ((((w.setCell ⟨cb, 2, none⟩ (.map (some (w.heap.size + 1)))).setCell ⟨cb, 3, none⟩ (ptr w.heap.size)).setCell ⟨cb, 4, none⟩ (i64 0)).setCell ⟨cb, 5, none⟩ (i64 0)).setCell ⟨cb, 6, none⟩ (i64 0) = w5 := ⟨_, rfl⟩
  have hs : w5.heap.size = w.heap.size := by rw [← hw5]; simp
  rw [hw5] at hw b6 F
  have n1 := Blk.new w5 56 #[i64 0, .string ⟨#[]⟩, ptr w.heap.size, ptr w.heap.size]
  rw [hs] at n1
  have m1 := MapIs.made (w5.alloc (.cells #[i64 0, .string ⟨#[]⟩, ptr w.heap.size, ptr w.heap.size] 56)) Try.prog 3
  have hs2 : (w5.alloc (.cells #[i64 0, .string ⟨#[]⟩, ptr w.heap.size, ptr w.heap.size] 56)).heap.size = w.heap.size + 1 := by simp [hs]
  rw [hs2] at m1
  subst hw
  refine ⟨⟨w.heap.size + 1, w.heap.size, [], fun _ => (0, ⟨#[]⟩), fun _ => w.heap.size, fun _ => w.heap.size, [], ?_, m1, by simp, ⟨by simp, by simp, by simp⟩, ?_, rfl, by simp, ?_, ?_⟩, (F.alloc _).alloc _⟩
  · exact (b6.alloc _).alloc _
  · intro c hc
    obtain rfl : c = w.heap.size := by simpa using hc
    exact n1.alloc _
  · refine ⟨hB, by omega, fun c hc => ?_⟩
    obtain rfl : c = w.heap.size := by simpa using hc
    omega
  · exact ⟨h3, by simp; omega, h1, h2, h4⟩

def MadeIt (most bytes : Int) (w : World) (e : Ending) (w' : World) : Prop :=
  e = .returned (.tuple #[ptr w.heap.size, i64 0]) ∧ Cache Try.prog w' w.heap.size w.heap.size most bytes [] 0 0 ∧ Fr w.heap.size CK w w'

theorem clear_any {w : World} {B cb : Nat} {most bytes hits misses : Int} {st : List Txt} (h : Cache Try.prog w B cb most bytes st hits misses) :
    Calls Try.prog 18 #[ptr cb] w fun e w' => e = .returned (.tuple #[]) ∧ Cache Try.prog w' B cb most bytes [] 0 0 ∧ Fr B CK w w' := by
  obtain ⟨mb, rb, L, tx, pv, nx, M, h⟩ := h
  have hf := h.fits
  have ht := tot_nonneg st
  exact (clear_raw cb _ _ _ _ _ _ _ w h.blk).mono fun e w' ⟨he, hw⟩ => ⟨he, clear_mem h.blk h.base.1 (by omega) (by omega) (by omega) (by omega) hw⟩

theorem new_yes (most bytes : Int) (w : World) (h1 : 1 ≤ most) (h2 : most ≤ 1000) (h3 : 0 ≤ bytes) (h4 : bytes ≤ 65536) :
    Calls Try.prog 7 #[i64 most, i64 bytes] w (MadeIt most bytes w) := by
  have hb := Blk.new w 54 #[i64 most, i64 bytes, .map none, .pointer none, i64 0, i64 0, i64 0]
  go_enter Try.func7, Try.ntmps7
  go_wp2_with (go_at_call 18; (with_reducible refine (clear_raw w.heap.size (i64 most) (i64 bytes) (.map none) (.pointer none) (i64 0) (i64 0) (i64 0) _ hb).mono ?_); rintro e w1 ⟨rfl, hw⟩; have HW := Lib.hid hw; clear hw)
  go_ret2
  have g := clear_mem (B := w.heap.size) hb (Nat.le_refl _) h1 h2 h3 h4 HW.out
  exact ⟨rfl, g.1, ((Fr.refl _ _ w).alloc _).trans g.2⟩

theorem new_no (most bytes : Int) (w : World) (h : most < 1 ∨ 1000 < most ∨ bytes < 0 ∨ 65536 < bytes) :
    Calls Try.prog 7 #[i64 most, i64 bytes] w fun e w' => e = .returned (.tuple #[.pointer none, i64 1]) ∧ w = w' := by
  by_cases h1 : most < 1
  · clear h
    go_enter Try.func7, Try.ntmps7
    go_wp2
    go_ret2
    exact ⟨rfl, rfl⟩
  by_cases h2 : 1000 < most
  · clear h
    go_enter Try.func7, Try.ntmps7
    go_wp2
    go_ret2
    exact ⟨rfl, rfl⟩
  by_cases h3 : bytes < 0
  · clear h
    go_enter Try.func7, Try.ntmps7
    go_wp2
    go_ret2
    exact ⟨rfl, rfl⟩
  have h4 : 65536 < bytes := by omega
  clear h
  go_enter Try.func7, Try.ntmps7
  go_wp2
  go_ret2
  exact ⟨rfl, rfl⟩

/-- A NIL CACHE. -/
theorem nil_clear (w : World) : Calls Try.prog 18 #[.pointer none] w fun e w' => e = .returned (.tuple #[]) ∧ w = w' := by
  go_enter Try.func18, Try.ntmps18
  go_wp2
  all_goals go_returns
  all_goals exact ⟨rfl, rfl⟩
theorem nil_get (id : Int) (w : World) : Calls Try.prog 19 #[.pointer none, i64 id] w fun e w' => e = .returned (.tuple #[.string ⟨#[]⟩, .bool false]) ∧ w = w' := by
  go_enter Try.func19, Try.ntmps19
  go_wp2
  go_ret2
  exact ⟨rfl, rfl⟩
theorem nil_drop (id : Int) (w : World) : Calls Try.prog 17 #[.pointer none, i64 id] w fun e w' => e = .returned (.bool false) ∧ w = w' := by
  go_enter Try.func17, Try.ntmps17
  go_wp2
  go_ret
  exact ⟨rfl, rfl⟩
theorem nil_put (id : Int) (s : ByteArray) (w : World) : Calls Try.prog 16 #[.pointer none, i64 id, .string s] w fun e w' => e = .returned (.bool false) ∧ w = w' := by
  go_enter Try.func16, Try.ntmps16
  go_wp2
  go_ret
  exact ⟨rfl, rfl⟩
theorem nil_ids (w : World) : Calls Try.prog 15 #[.pointer none] w fun e w' => e = .returned (.slice none 0 0) ∧ w = w' := by
  go_enter Try.func15, Try.ntmps15
  go_wp2
  go_ret
  exact ⟨rfl, rfl⟩
theorem nil_bytes (w : World) : Calls Try.prog 11 #[.pointer none] w fun e w' => e = .returned (i64 0) ∧ w = w' := by
  go_enter Try.func11, Try.ntmps11
  go_wp2
  go_ret
  exact ⟨rfl, rfl⟩
theorem nil_counts (w : World) : Calls Try.prog 13 #[.pointer none] w fun e w' => e = .returned (.tuple #[i64 0, i64 0]) ∧ w = w' := by
  go_enter Try.func13, Try.ntmps13
  go_wp2
  go_ret2
  exact ⟨rfl, rfl⟩

end Go.Proofs.Ytdgdfnofedlkaaa
