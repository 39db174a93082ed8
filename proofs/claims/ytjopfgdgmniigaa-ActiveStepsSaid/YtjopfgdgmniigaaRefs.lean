/-
  rectoref10.times, rectoref10.Alike, rectolaw10.ref, walked.
  Written by an AI agent.
-/
import Derived.Test.YtjopfgdgmniigaaMark
import Derived.Test.YtjopfgdgmniigaaNil
namespace Go.Proofs.Ytjopfgdgmniigaa
open Go.RowKit Go.Maps

theorem cnt_take {l : List Atr} {k : Nat} {y : Atr} (x : Atr) (h : l[k]? = some y) : cnt x (l.take (k + 1)) = cnt x (l.take k) + if y = x then 1 else 0 := by
  rw [List.take_add_one, h]
  exact cnt_snoc x y _

set_option maxHeartbeats 2000000 in
theorem times_any {w : World} {B : Nat} {v : Value} {l : List Atr} (a b : ByteArray) (h : AtrsAt w B v l) : Calls Try.prog 45 #[v, .agg #[.string a, .string b]] w fun e w' => e = .returned (i64 (cnt (a, b) l)) ∧ Below w.heap.size w w' := by
  obtain ⟨ad, c, rfl, hlc, hl, _, hr⟩ := h
  obtain ⟨n, hn⟩ : ∃ n, l.length = n := ⟨_, rfl⟩
  rw [hn] at hlc hl ⊢
  have HN := Lib.hid hn
  have HR := Lib.hid hr
  have hbox := Blk.new w 60 #[.string a, .string b]
  have y0 := hbox.cell 0 (.string a) rfl
  have y1 := hbox.cell 1 (.string b) rfl
  clear hn hr hbox
  go_enter Try.func45, Try.ntmps45
  go_wp2
  go_loopw [5, 10] (fun s i wr => ∃ k : Nat, k ≤ n ∧ i = i64 k ∧ s = i64 (cnt (a, b) (l.take k)) ∧ Below (w.heap.size + 1) (w.alloc (.cells #[.string a, .string b] 60)) wr) (fun _ i _ => n - (intOf i).toNat)
  case atStart => exact ⟨0, Nat.zero_le _, rfl, rfl, Below.refl _ _⟩
  case round =>
    obtain ⟨k, hk, rfl, rfl, hbel⟩ := hrel
    obtain ⟨q, hq⟩ : ∃ q, cnt (a, b) (l.take k) = q := ⟨_, rfl⟩
    have hqn : q ≤ k := by rw [← hq]; exact Nat.le_trans (cnt_le _ _) (List.length_take_le _ _)
    rw [hq]
    by_cases hlt : k < n
    · obtain ⟨x, hx⟩ : ∃ x, l[k]? = some x := ⟨_, List.getElem?_eq_getElem (by rw [HN.out]; exact hlt)⟩
      obtain ⟨xa, xb⟩ := x
      obtain ⟨g, off, had, hg, _, hc⟩ := HR.out (fun e => by rw [e] at hx; simp at hx)
      obtain ⟨d0, d1⟩ := hc k _ hx
      have up := fun (o : Nat) => (hbel.cell (p := ⟨g, o, none⟩) (by simp only; omega)).trans (((Below.refl w.heap.size w).alloc (Nat.le_refl _) (.cells #[.string a, .string b] 60)).cell (p := ⟨g, o, none⟩) hg)
      have e0 := (up _).trans d0
      have e1 := (up _).trans d1
      have f0 := (hbel.cell (p := ⟨w.heap.size, 0, none⟩) (by simp)).trans y0
      have f1 := (hbel.cell (p := ⟨w.heap.size, 1, none⟩) (by simp)).trans y1
      have hbz := hbel.size
      have f0' : (wr.alloc (.cells #[.string xa, .string xb] 60)).cell? ⟨w.heap.size, 0, none⟩ = some (.string a) := (((Below.refl wr.heap.size wr).alloc (Nat.le_refl _) _).cell (p := ⟨w.heap.size, 0, none⟩) (by simp at hbz; simp; omega)).trans f0
      have f1' : (wr.alloc (.cells #[.string xa, .string xb] 60)).cell? ⟨w.heap.size, 1, none⟩ = some (.string b) := (((Below.refl wr.heap.size wr).alloc (Nat.le_refl _) _).cell (p := ⟨w.heap.size, 1, none⟩) (by simp at hbz; simp; omega)).trans f1
      simp only at e0 e1
      have hstep := cnt_take (a, b) hx
      rw [hq] at hstep
      have HX := Lib.hid (And.intro hstep hbel)
      have HAD := Lib.hid had
      have hwrap : IntKind.i64.wrap ((q : Int) + 1) = (q : Int) + 1 := IntWalk.i64_in _ (by omega)
      clear hc hx had d0 d1 hstep hbel up hq f0 f1 hbz
      rw [HAD.out]
      have hbl : Below (w.heap.size + 1) (w.alloc (.cells #[.string a, .string b] 60)) (wr.alloc (.cells #[.string xa, .string xb] 60)) := HX.out.2.alloc (by have := HX.out.2.size; simp at this; omega) _
      go_wp2
      · rename_i h1 h2
        refine ⟨⟨k + 1, by omega, by go_num, ?_, hbl⟩, by simp [intOf]; omega⟩
        rw [HX.out.1, if_pos (by rw [toList_inj h1, toList_inj h2])]
        go_num
      · rename_i h1 h2
        refine ⟨⟨k + 1, by omega, by go_num, ?_, hbl⟩, by simp [intOf]; omega⟩
        rw [HX.out.1, if_neg (by intro h; injection h with _ h; exact h2 (by rw [h]))]
        rfl
      · rename_i h1
        refine ⟨⟨k + 1, by omega, by go_num, ?_, hbl⟩, by simp [intOf]; omega⟩
        rw [HX.out.1, if_neg (by intro h; injection h with h _; exact h1 (by rw [h]))]
        rfl
    · have hkn : k = n := by omega
      rw [List.take_of_length_le (by have := HN.out; omega)] at hq
      go_wp2
      go_ret
      exact ⟨by rw [hq]; rfl, ((Below.refl w.heap.size w).alloc (Nat.le_refl _) _).trans (hbel.mono (by simp))⟩

set_option maxHeartbeats 1000000 in
theorem ref_any {w : World} {mk : Bool} {id : Int} {nm : ByteArray} {ad : Option Addr} {n c : Nat} :
    Calls Try.prog 28 #[.agg #[.bool mk, i64 id, .string nm, .slice ad n c]] w fun e w' => e = .returned (.agg #[.bool mk, i64 id, .string nm, .slice ad n c]) ∧ Below w.heap.size w w' := by
  go_enter Try.func28, Try.ntmps28
  go_wp2
  have k1 := Blk.new (w.alloc (.cells #[.bool mk, i64 id, .string nm, .slice ad n c] 33)) 41 #[.bool mk, i64 id, .string nm, .slice ad n c]
  simp only [World.size_alloc] at k1
  exact bodyPost_ret (results_cell_row rfl _ _ (w.heap.size + 1) 41 _ (0, 0) _ rfl k1 Try.underlying41 rfl (by kernel_rfl)) rfl ⟨rfl, ((Below.refl w.heap.size w).alloc (Nat.le_refl _) _).alloc (by simp) _⟩

theorem times_n {w : World} {B q : Nat} {v : Value} {l : List Atr} {a b : ByteArray} (h : AtrsAt w B v l) (hq : cnt (a, b) l = q) : Calls Try.prog 45 #[v, .agg #[.string a, .string b]] w fun e w' => e = .returned (i64 q) ∧ Below w.heap.size w w' := by
  subst hq
  exact times_any a b h

theorem alikeB_ok {n n' : ByteArray} {l l' : List Atr} (h : (l.all fun x => decide (cnt x l = 1) && decide (cnt x l' = 1)) = true) : alikeB n l n' l' = (decide (n = n') && decide (l.length = l'.length)) := by
  unfold alikeB
  rw [h]
  simp

set_option maxHeartbeats 4000000 in
theorem alike27 {w : World} {B : Nat} {m m' : Bool} {i i' : Int} {n n' : ByteArray} {v v' : Value} {l l' : List Atr} (h : AtrsAt w B v l) (h' : AtrsAt w B v' l') :
    Calls Try.prog 27 #[.agg #[.bool m, i64 i, .string n, v], .agg #[.bool m', i64 i', .string n', v']] w fun e w' => e = .returned (.bool (alikeB n l n' l')) ∧ Below w.heap.size w w' := by
  have H := Lib.hid (And.intro h h')
  obtain ⟨ad, c, rfl, hlc, hl, hok, hr⟩ := h
  obtain ⟨ad', c', rfl, hlc', hl', hok', hr'⟩ := h'
  obtain ⟨r, hr0⟩ : ∃ r, alikeB n l n' l' = r := ⟨_, rfl⟩
  obtain ⟨N, hN⟩ : ∃ N, l.length = N := ⟨_, rfl⟩
  obtain ⟨N', hN'⟩ : ∃ N', l'.length = N' := ⟨_, rfl⟩
  rw [hr0]
  rw [hN] at hl hlc H ⊢
  rw [hN'] at hl' hlc' H ⊢
  have HR0 := Lib.hid hr0
  have HNN := Lib.hid (And.intro hN hN')
  have HRR := Lib.hid hr
  clear hr0 hN hN' hok hok' hr hr'
  obtain ⟨w0, hw0⟩ : ∃ w0, (w.alloc (.cells #[.bool m, i64 i, .string n, .slice ad N c] 41)).alloc (.cells #[.bool m', i64 i', .string n', .slice ad' N' c'] 41) = w0 := ⟨_, rfl⟩
  have a0 := (Blk.new w 41 #[.bool m, i64 i, .string n, .slice ad N c]).alloc (.cells #[.bool m', i64 i', .string n', .slice ad' N' c'] 41)
  have a1 := Blk.new (w.alloc (.cells #[.bool m, i64 i, .string n, .slice ad N c] 41)) 41 #[.bool m', i64 i', .string n', .slice ad' N' c']
  have bw := ((Below.refl w.heap.size w).alloc (Nat.le_refl _) (.cells #[.bool m, i64 i, .string n, .slice ad N c] 41)).alloc (by simp) (.cells #[.bool m', i64 i', .string n', .slice ad' N' c'] 41)
  simp only [World.size_alloc] at a1
  rw [hw0] at a0 a1 bw
  have HA := Lib.hid (And.intro a0 (And.intro a1 bw))
  have z0 := a0.cell 3 (.slice ad N c) rfl
  clear a0 a1 bw
  go_enter Try.func27, Try.ntmps27
  go_wp2
  clear hw0 z0
  go_loopw [10] (fun i wr => ∃ k : Nat, k ≤ N ∧ i = i64 k ∧ Hid (((l.take k).all fun x => decide (cnt x l = 1) && decide (cnt x l' = 1)) = true) ∧ Below w0.heap.size w0 wr) (fun i _ => N - (intOf i).toNat)
  case atStart => exact ⟨0, Nat.zero_le _, rfl, Lib.hid rfl, Below.refl _ _⟩
  case round =>
    obtain ⟨k, hk, rfl, HG, hbel⟩ := hrel
    have HBE := Lib.hid hbel
    by_cases hlt : k < N
    · obtain ⟨x, hx⟩ : ∃ x, l[k]? = some x := ⟨_, List.getElem?_eq_getElem (by rw [HNN.out.1]; exact hlt)⟩
      obtain ⟨xa, xb⟩ := x
      obtain ⟨g, off, had, hg, _, hc⟩ := HRR.out (fun e => by rw [e] at hx; simp at hx)
      obtain ⟨d0, d1⟩ := hc k _ hx
      have up := fun (o : Nat) => (hbel.cell (p := ⟨g, o, none⟩) (Nat.lt_of_lt_of_le hg HA.out.2.2.size)).trans (HA.out.2.2.cell (p := ⟨g, o, none⟩) hg)
      have e0 := (up _).trans d0
      have e1 := (up _).trans d1
      simp only at e0 e1
      have hb0 : Below w0.heap.size w0 (wr.alloc (.cells #[.string xa, .string xb] 60)) := hbel.alloc hbel.size _
      have hbx := Blk.new wr 60 #[.string xa, .string xb]
      have x0 := hbx.cell 0 (.string xa) rfl
      have x1 := hbx.cell 1 (.string xb) rfl
      have f0 := (blk_kept HA.out.1 hb0).cell 3 (.slice ad N c) rfl
      have f1 := (blk_kept HA.out.2.1 hb0).cell 3 (.slice ad' N' c') rfl
      have HL0 := Lib.hid ((H.out.1.below HA.out.2.2).below hb0)
      have HL1 := Lib.hid ((H.out.2.below HA.out.2.2).below hb0)
      have HB0 := Lib.hid hb0
      have hsz1 : w.heap.size + 1 < wr.heap.size := Nat.lt_of_lt_of_le HA.out.2.1.lt hbel.size
      obtain ⟨q, hq⟩ : ∃ q, cnt (xa, xb) l = q := ⟨_, rfl⟩
      obtain ⟨q', hq'⟩ : ∃ q', cnt (xa, xb) l' = q' := ⟨_, rfl⟩
      have HX := Lib.hid (And.intro hx (And.intro hq hq'))
      have HAD := Lib.hid had
      clear hc hx had d0 d1 hbel hb0 hbx hq hq' up
      rw [HAD.out]
      by_cases hq1 : q = 1
      · have n3 : ((q : Int) != 1) = false := by simp; omega
        by_cases hq1' : q' = 1
        · have n4 : ((q' : Int) != 1) = false := by simp; omega
          go_wp2_with (first
            | (go_at_call 45; (with_reducible refine (times_n HL0.out HX.out.2.1).mono ?_); rintro e w1 ⟨rfl, hb1⟩; have g1 := (hb1.cell (p := ⟨w.heap.size + 1, 3, none⟩) (by simp; omega)).trans f1; have g2 := (hb1.cell (p := ⟨wr.heap.size, 0, none⟩) (by simp)).trans x0; have g3 := (hb1.cell (p := ⟨wr.heap.size, 1, none⟩) (by simp)).trans x1; have H1 := Lib.hid hb1; clear hb1)
            | (go_at_call 45; (with_reducible refine (times_n (HL1.out.below H1.out) HX.out.2.2).mono ?_); rintro e w2 ⟨rfl, hb2⟩; have H2 := Lib.hid hb2; clear hb2))
          go_roundw
          case rel =>
            have b1 := HB0.out.trans (H1.out.mono HB0.out.size)
            refine ⟨k + 1, by omega, by go_num, Lib.hid ?_, b1.trans (H2.out.mono b1.size)⟩
            rw [List.take_add_one, HX.out.1, List.all_append, HG.out]
            simp [HX.out.2.1, HX.out.2.2, hq1, hq1']
          case measure => simp [intOf]; omega
        · have n4 : ((q' : Int) != 1) = true := by simp; omega
          have hrf := alike_no (n := n) (n' := n') (l' := l') HX.out.1 (by rw [HX.out.2.1, HX.out.2.2]; exact fun h => hq1' h.2)
          rw [HR0.out] at hrf
          have HRF := Lib.hid hrf
          clear hrf
          go_wp2_with (first
            | (go_at_call 45; (with_reducible refine (times_n HL0.out HX.out.2.1).mono ?_); rintro e w1 ⟨rfl, hb1⟩; have g1 := (hb1.cell (p := ⟨w.heap.size + 1, 3, none⟩) (by simp; omega)).trans f1; have g2 := (hb1.cell (p := ⟨wr.heap.size, 0, none⟩) (by simp)).trans x0; have g3 := (hb1.cell (p := ⟨wr.heap.size, 1, none⟩) (by simp)).trans x1; have H1 := Lib.hid hb1; clear hb1)
            | (go_at_call 45; (with_reducible refine (times_n (HL1.out.below H1.out) HX.out.2.2).mono ?_); rintro e w2 ⟨rfl, hb2⟩; have H2 := Lib.hid hb2; clear hb2))
          go_ret
          have b0 := HA.out.2.2.trans (HB0.out.mono HA.out.2.2.size)
          have b1 := b0.trans (H1.out.mono b0.size)
          exact ⟨by rw [HRF.out]; rfl, b1.trans (H2.out.mono b1.size)⟩
      · have n3 : ((q : Int) != 1) = true := by simp; omega
        have hrf := alike_no (n := n) (n' := n') (l' := l') HX.out.1 (by rw [HX.out.2.1, HX.out.2.2]; exact fun h => hq1 h.1)
        rw [HR0.out] at hrf
        have HRF := Lib.hid hrf
        clear hrf
        go_wp2_with (first
          | (go_at_call 45; (with_reducible refine (times_n HL0.out HX.out.2.1).mono ?_); rintro e w1 ⟨rfl, hb1⟩; have H1 := Lib.hid hb1; clear hb1))
        go_ret
        have b0 := HA.out.2.2.trans (HB0.out.mono HA.out.2.2.size)
        exact ⟨by rw [HRF.out]; rfl, b0.trans (H1.out.mono b0.size)⟩
    · have htk : l.take k = l := List.take_of_length_le (by have := HNN.out.1; omega)
      have hg := HG.out
      rw [htk] at hg
      have hal := alikeB_ok (n := n) (n' := n') hg
      rw [HR0.out, HNN.out.1, HNN.out.2] at hal
      have f0 := (blk_kept HA.out.1 hbel).cell 2 (.string n) rfl
      have f1 := (blk_kept HA.out.2.1 hbel).cell 2 (.string n') rfl
      have f2 := (blk_kept HA.out.1 hbel).cell 3 (.slice ad N c) rfl
      have f3 := (blk_kept HA.out.2.1 hbel).cell 3 (.slice ad' N' c') rfl
      have HAL := Lib.hid hal
      clear htk hg hal
      have b0 := Lib.hid (HA.out.2.2.trans (hbel.mono HA.out.2.2.size))
      by_cases hnn : n = n'
      · subst hnn
        by_cases hNN : N = N'
        · have n5 : ((N : Int) == (N' : Int)) = true := by simp; omega
          go_wp2
          go_ret
          exact ⟨by rw [HAL.out, hNN]; simp, b0.out⟩
        · have n5 : ((N : Int) == (N' : Int)) = false := by simp; omega
          go_wp2
          go_ret
          exact ⟨by rw [HAL.out]; simp [hNN], b0.out⟩
      · have n5 : ¬ n.toList = n'.toList := fun h => hnn (toList_inj h)
        go_wp2
        go_ret
        exact ⟨by rw [HAL.out]; simp [hnn], b0.out⟩

end Go.Proofs.Ytjopfgdgmniigaa
