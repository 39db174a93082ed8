/-
  rectolaw33.two, walked: the small case that each statement asks. It answers true.
  Written by an AI agent.
-/
import Derived.Test.YtdgdfnofedlkaaaRefD
import Derived.Test.YtdgdfnofedlkaaaInts
namespace Go.Proofs.Ytdgdfnofedlkaaa
open Go.RowKit Go.Maps

theorem put_eq {w : World} {B cb : Nat} {most bytes hits misses : Int} {st st' : List Txt} {b : Bool} (h : Cache Try.prog w B cb most bytes st hits misses) (id : Int) (s : ByteArray) (hw : (Lit.int .i64 id).wf = true)
    (hL : putL most bytes id s st = st') (hb : decide ((s.size : Int) ≤ bytes) = b) :
    Calls Try.prog 16 #[ptr cb, i64 id, .string s] w (PutIt B cb most bytes hits misses st' b w) := by
  subst hL hb
  exact put_any h id s hw
theorem get_eq {w : World} {B cb : Nat} {most bytes hits misses : Int} {st st' : List Txt} {s : ByteArray} {hits' : Int} (h : Cache Try.prog w B cb most bytes st hits misses) (id : Int) (hw : (Lit.int .i64 id).wf = true)
    (h0 : 0 ≤ hits) (h1 : hits < 9223372036854775807) (h2 : 0 ≤ misses) (h3 : misses < 9223372036854775807) (hS : gotS id st = s) (hL : gotL id st = st') (hb : hasB id st = true) (hh : hits + 1 = hits') :
    Calls Try.prog 19 #[ptr cb, i64 id] w fun e w' => e = .returned (.tuple #[.string s, .bool true]) ∧ Cache Try.prog w' B cb most bytes st' hits' misses ∧ Fr B CK w w' := by
  subst hh
  have := get_any h id hw h0 h1 h2 h3
  rw [hS, hL, hb] at this
  simpa using this

theorem Cache.below {w w' : World} {B cb : Nat} {most bytes hits misses : Int} {st : List Txt} (h : Cache Try.prog w B cb most bytes st hits misses) (hb : Below w.heap.size w w') : Cache Try.prog w' B cb most bytes st hits misses := by
  obtain ⟨mb, rb, L, tx, pv, nx, M, h⟩ := h
  exact ⟨mb, rb, L, tx, pv, nx, M, (hb.block cb h.blk.lt).trans h.blk, h.map.same (hb.block mb h.map.lt), h.perm, h.ring, fun c hc => (hb.block c (h.nodes c hc).lt).trans (h.nodes c hc), h.text, h.ids, h.base, h.fits⟩
theorem Cache.fr {w w' : World} {B B' cb : Nat} {T : Obj → Bool} {most bytes hits misses : Int} {st : List Txt} (h : Cache Try.prog w B cb most bytes st hits misses) (hf : Fr B' T w w')
    (h54 : ∀ cs fr, T (.cells cs 54 fr) = false) (h56 : ∀ cs fr, T (.cells cs 56 fr) = false) (hm : ∀ es c, T (.map es c) = false) : Cache Try.prog w' B cb most bytes st hits misses := by
  obtain ⟨mb, rb, L, tx, pv, nx, M, h⟩ := h
  exact ⟨mb, rb, L, tx, pv, nx, M, hf.blk h.blk (.inr (h54 _ _)), h.map.fr hf (.inr hm), h.perm, h.ring, fun c hc => hf.blk (h.nodes c hc) (.inr (h56 _ _)), h.text, h.ids, h.base, h.fits⟩

theorem ints_lit (w : World) (a b : Int) : IntsAt (w.alloc (.cells #[i64 a, i64 b] 3)) (.slice (some ⟨w.heap.size, 0, none⟩) 2 2) [a, b] := by
  refine ⟨_, 2, rfl, by simp, fun _ => ⟨w.heap.size, 0, rfl, by simp, fun k x hx => ?_⟩⟩
  have hb := Blk.new w 3 #[i64 a, i64 b]
  match k, hx with
  | 0, hx => exact hb.cell 0 _ (by simp at hx; subst hx; rfl)
  | 1, hx => exact hb.cell 1 _ (by simp at hx; subst hx; rfl)

set_option maxHeartbeats 4000000 in
set_option maxRecDepth 100000 in
theorem two_any (w : World) : Calls Try.prog 8 #[] w fun e w' => e = .returned (.bool true) ∧ Below w.heap.size w w' := by
  go_enter Try.func8, Try.ntmps8
  go_wp2_with fail
  refine (new_yes 2 100 w (by decide) (by decide) (by decide) (by decide)).mono ?_
  rintro e w1 ⟨rfl, hc1, hf1⟩
  have HC1 := Lib.hid hc1
  have HF1 := Lib.hid hf1
  clear hc1 hf1
  go_wp2_with fail
  refine (put_eq HC1.out 1 ⟨#[97]⟩ (by decide) (st' := [(1, ⟨#[97]⟩)]) (b := true) rfl rfl).mono ?_
  rintro e w2 ⟨rfl, hc2, hf2⟩
  have HC2 := Lib.hid hc2
  have HF2 := Lib.hid hf2
  clear hc2 hf2
  go_wp2_with fail
  refine (put_eq HC2.out 2 ⟨#[98]⟩ (by decide) (st' := [(2, ⟨#[98]⟩), (1, ⟨#[97]⟩)]) (b := true) rfl rfl).mono ?_
  rintro e w3 ⟨rfl, hc3, hf3⟩
  have HC3 := Lib.hid hc3
  have HF3 := Lib.hid hf3
  clear hc3 hf3
  go_wp2_with fail
  refine (get_eq HC3.out 1 (by decide) (by decide) (by decide) (by decide) (by decide) (s := ⟨#[97]⟩) (st' := [(1, ⟨#[97]⟩), (2, ⟨#[98]⟩)]) (hits' := 1) rfl rfl rfl rfl).mono ?_
  rintro e w4 ⟨rfl, hc4, hf4⟩
  have HC4 := Lib.hid hc4
  have HF4 := Lib.hid hf4
  clear hc4 hf4
  go_wp2_with fail
  refine (put_eq HC4.out 3 ⟨#[99, 99]⟩ (by decide) (st' := [(3, ⟨#[99, 99]⟩), (1, ⟨#[97]⟩)]) (b := true) rfl rfl).mono ?_
  rintro e w5 ⟨rfl, hc5, hf5⟩
  have HC5 := Lib.hid hc5
  have HF5 := Lib.hid hf5
  clear hc5 hf5
  go_wp2_with fail
  refine (counts_any HC5.out).mono ?_
  rintro e w6 ⟨rfl, n6, rfl⟩
  have HC6 := Lib.hid (HC5.out.below (below_drewN (Below.refl _ w5) n6))
  go_wp2_with fail
  refine (ids_any HC6.out).mono ?_
  rintro e w7 ⟨v, rfl, hown, hbel⟩
  have HO := Lib.hid hown
  have HB := Lib.hid hbel
  obtain ⟨ad, cp, rfl⟩ := own_slice hown
  clear hown hbel
  go_wp2_with fail
  refine (ints_any (xs := [3, 1]) (ys := [3, 1]) ((IntsAt.of_own HO.out (by simp)).below ((Below.refl _ _).alloc (Nat.le_refl _) _)) (ints_lit w7 3 1)).mono ?_
  rintro e w8 ⟨rfl, n8, rfl⟩
  go_wp2_with fail
  refine (bytes_any (HC6.out.below (below_drewN (HB.out.alloc (HB.out.size) _) n8))).mono ?_
  rintro e w9 ⟨rfl, rfl⟩
  have ht : (tot [(3, (⟨#[99, 99]⟩ : ByteArray)), (1, ⟨#[97]⟩)] == 3) = true := rfl
  go_wp2
  go_ret
  have F := HF1.out.trans (HF2.out.trans (HF3.out.trans (HF4.out.trans HF5.out)))
  exact ⟨rfl, below_drewN (((below_drewN F.below n6).trans (HB.out.mono F.size)).alloc (Nat.le_trans F.size HB.out.size) _) n8⟩

end Go.Proofs.Ytdgdfnofedlkaaa
