/-
  rectolaw09.StackBack returns true for every input.
  Written by an AI agent.
-/
import Derived.Test.YtdagjpiakbfjpaaTo
import Derived.Test.YtdagjpiakbfjpaaOpen
import Derived.Test.YtdagjpiakbfjpaaRows
namespace Go.Proofs.Ytdagjpiakbfjpaa
open Go.RowKit

set_option maxHeartbeats 4000000 in
theorem back_long {w : World} {v : Value} {l : List Ent} {scope : Int} {nm : ByteArray} (h : EntsAt w v l) (hb : 100 < l.length) :
    Calls Try.prog 5 #[v, i64 scope, .string nm] w fun e w' => e = .returned (.bool true) ∧ Below w.heap.size w w' := by
  obtain ⟨ad, c, rfl, _⟩ := h
  obtain ⟨n, hn⟩ : ∃ n, l.length = n := ⟨_, rfl⟩
  rw [hn] at hb ⊢
  clear hn
  have z1 : decide ((100 : Int) < (n : Int)) = true := by simp; omega
  clear hb
  go_enter Try.func5, Try.ntmps5
  go_wp2_with (first
    | (go_at_call 8; (with_reducible refine (new_w _).mono ?_); rintro e w1 ⟨rfl, hs, hb⟩; first | (have H0 := H1; have H2 := Lib.hid (H0.out.trans (hb.mono H0.out.size)); clear H0 H1 hs hb) | (have H1 := Lib.hid hb; clear hs hb))
    | (go_at_call 9; (with_reducible refine (cell_any _).mono ?_); rintro e w2 ⟨rfl, hb⟩; have H3 := Lib.hid hb; clear hb))
  go_ret
  exact ⟨rfl, H2.out.trans (H3.out.mono H2.out.size)⟩

theorem to_m {w : World} {B lb n : Nat} {es q : List Ent} {va : Value} {ns : List ByteArray} {te : Ent} {tb : Bool} {m : Int} (h : Stk w B lb es) (ha : NamesAt w va ns) (hl : es.length ≤ 1000) (hq : popW (backP ns) es = q) (hn : n + q.length = es.length) (h1 : topE q = te) (h2 : topB q = tb) (hm : (if tb then (n : Int) + 1 else (n : Int)) = m) :
    Calls Try.prog 15 #[ptr lb, va] w fun e w' => e = .returned (i64 m) ∧ Stk w' B lb q.dropLast ∧ Fr B LK w w' ∧ w.grownBy w' (some lb) := by
  subst hm
  exact to_n h ha hl hq hn h1 h2

set_option maxHeartbeats 8000000 in
set_option maxRecDepth 100000 in
theorem back_main {w : World} {v : Value} {l : List Ent} {scope : Int} {nm : ByteArray} (h : EntsAt w v l) (hl : l.length ≤ 100) :
    Calls Try.prog 5 #[v, i64 scope, .string nm] w fun e w' => e = .returned (.bool true) ∧ Below w.heap.size w w' := by
  obtain ⟨ad, c, rfl, hr⟩ := h
  obtain ⟨n, hn⟩ : ∃ n, l.length = n := ⟨_, rfl⟩
  rw [hn] at hl ⊢
  have HN := Lib.hid hn
  have HR := Lib.hid hr
  have z1 : decide ((100 : Int) < (n : Int)) = false := by simp; omega
  clear hn hr
  go_enter Try.func5, Try.ntmps5
  go_wp2_with (first
    | (go_at_call 8; (with_reducible refine (new_w w).mono ?_); rintro e w1 ⟨rfl, hs, hb⟩; have H1 := Lib.hid (And.intro hs hb); clear hs hb)
    | (go_at_call 8; (with_reducible refine (new_w w1).mono ?_); rintro e w2 ⟨rfl, hs, hb⟩; have H2 := Lib.hid (And.intro hs hb); clear hs hb))
  have hsw : w.heap.size < w1.heap.size := H1.out.1.1.lt
  have h0 : Two w2 w.heap.size w.heap.size w1.heap.size (.slice none 0 0) (.slice none 0 0) [] [] :=
    ⟨H1.out.1.below H2.out.2, H2.out.1.low (by omega), by omega, fun k hk => by simp [Value.ownBlock] at hk⟩
  have hb0 : Below w.heap.size w w2 := H1.out.2.trans (H2.out.2.mono (by omega))
  have HT := Lib.hid (And.intro h0 hb0)
  clear h0 hb0
  go_loopw [40] (fun i wr => ∃ k : Nat, k ≤ n ∧ i = i64 k ∧ Hid (∃ vs vt, Two wr w.heap.size w.heap.size w1.heap.size vs vt (l.take k) (l.take k)) ∧ Below w.heap.size w wr) (fun i _ => n - (intOf i).toNat)
  case atStart => exact ⟨0, Nat.zero_le _, rfl, Lib.hid ⟨_, _, HT.out.1⟩, HT.out.2⟩
  case round =>
    obtain ⟨k, hk, rfl, HK, hbel⟩ := hrel
    have HBE := Lib.hid hbel
    by_cases hlt : k < n
    · obtain ⟨⟨id, sp, en⟩, hx⟩ : ∃ x, l[k]? = some x := ⟨_, List.getElem?_eq_getElem (by rw [HN.out]; exact hlt)⟩
      obtain ⟨g, off, had, hg, hc⟩ := HR.out (fun e => by rw [e] at hx; simp at hx)
      obtain ⟨d0, d1, d2⟩ := hc k _ hx
      have e0 := (hbel.cell (p := ⟨g, _, none⟩) hg).trans d0
      have e1 := (hbel.cell (p := ⟨g, _, none⟩) hg).trans d1
      have e2 := (hbel.cell (p := ⟨g, _, none⟩) hg).trans d2
      simp only at e0 e1 e2
      have htk : l.take k ++ [⟨id, sp, en⟩] = l.take (k + 1) := by rw [List.take_add_one, hx]; rfl
      have hlk : (l.take k).length = k := by rw [List.length_take, HN.out]; omega
      have HX := Lib.hid (And.intro htk hlk)
      have HAD := Lib.hid had
      have hbox := Blk.new wr 27 #[i64 id, i64 sp, .string en]
      have x0 := hbox.cell 0 (i64 id) rfl
      have x1 := hbox.cell 1 (i64 sp) rfl
      have x2 := hbox.cell 2 (.string en) rfl
      obtain ⟨vs, vt, htwo⟩ := HK.out
      have ht1 := htwo.below ((Below.refl _ wr).alloc (Nat.le_refl _) (.cells #[i64 id, i64 sp, .string en] 27))
      have HF := Lib.hid (show vs.ownBlock ≠ some wr.heap.size from fun e => absurd (htwo.1.2.2.1.lt _ e).2 (Nat.lt_irrefl _))
      have hls : wr.heap.size ≠ w.heap.size := by have := htwo.1.1.lt; omega
      have HW := Lib.hid (And.intro ht1 hbox)
      have hbl := wr.heap.size
      clear hx hc d0 d1 d2 htk hlk had hbel hbox htwo ht1 hbl
      rw [HAD.out]
      go_wp2_with (first
        | (go_at_call 10; (with_reducible refine (push_w HW.out.1.1 HX.out.2 (by omega)).mono ?_); rintro e w3 ⟨rfl, vs', hs3, hk3, hl3⟩; have hkb : Blk w3 wr.heap.size 27 #[i64 id, i64 sp, .string en] := (hk3.2.2.2.2 wr.heap.size (by simp) hls HF.out).trans HW.out.2; have y0 := hkb.cell 0 (i64 id) rfl; have y1 := hkb.cell 1 (i64 sp) rfl; have y2 := hkb.cell 2 (.string en) rfl; have H3 := Lib.hid (And.intro (HW.out.1.push hs3 hk3 hl3) (hk3.below HW.out.1.1 (Nat.le_refl _) (by have := HBE.out.size; simp; omega))); clear hs3 hk3 hl3 hkb)
        | (go_at_call 10; (with_reducible refine (push_w H3.out.1.2.1 HX.out.2 (by omega)).mono ?_); rintro e w4 ⟨rfl, vt', hs4, hk4, hl4⟩; have H4 := Lib.hid (And.intro (H3.out.1.swap.push hs4 hk4 hl4) (hk4.below H3.out.1.2.1 (Nat.le_refl _) (by have := HBE.out.size; have := H3.out.2.size; simp at this; omega))); clear hs4 hk4 hl4))
      go_roundw
      case rel =>
        have hw := H4.out.1.swap
        rw [HX.out.1] at hw
        have b1 := HBE.out.alloc HBE.out.size (.cells #[i64 id, i64 sp, .string en] 27)
        exact ⟨k + 1, by omega, by go_num, Lib.hid ⟨_, _, hw⟩, (b1.trans H3.out.2).trans H4.out.2⟩
      case measure => simp [intOf]; omega
    · obtain rfl : k = n := by omega
      have hes : l.take k = l := List.take_of_length_le (by rw [HN.out]; omega)
      rw [hes] at HK
      obtain ⟨vs, vt, htwo⟩ := HK.out
      obtain ⟨q, hq⟩ : ∃ q, popW (backP [nm]) l = q := ⟨_, rfl⟩
      obtain ⟨ql, hql⟩ : ∃ ql, q.length = ql := ⟨_, rfl⟩
      have hle : ql ≤ k := by rw [← hql, ← HN.out, ← hq]; exact popW_length _ _
      obtain ⟨nn, hnn⟩ : ∃ nn, nn + ql = k := ⟨k - ql, by omega⟩
      obtain ⟨inn, hin⟩ : ∃ b, inB scope [nm] l = b := ⟨_, rfl⟩
      obtain ⟨tb, htb⟩ : ∃ b, topB q = b := ⟨_, rfl⟩
      obtain ⟨⟨tid, tsp, tnm⟩, hte⟩ : ∃ x, topE q = x := ⟨_, rfl⟩
      have hlaw : inn = true → tb = true ∧ tnm = nm ∧ tsp = 0 := fun e => by
        have h := back_law (hin.trans e)
        rw [hq, htb, hte] at h
        exact h
      have hq0 : tb = true → 1 ≤ ql := fun e => by
        have := topB_true (htb.trans e)
        rw [← hql]
        exact List.length_pos_iff.2 this
      have hq1 : tb = false → ql = 0 := fun e => by
        have := topB_false (htb.trans e)
        rw [← hql, this]
        rfl
      have HQ := Lib.hid (And.intro hq (And.intro hql (And.intro (show nn + q.length = l.length by rw [hql, HN.out]; exact hnn) (And.intro hin (And.intro htb (And.intro hte (show l.length ≤ 1000 by rw [HN.out]; omega)))))))
      have HT2 := Lib.hid (show Stk wr w.heap.size w.heap.size l ∧ Stk wr w.heap.size w1.heap.size l ∧ w.heap.size ≠ w1.heap.size from ⟨⟨_, htwo.1⟩, ⟨_, htwo.2.1⟩, htwo.2.2.1⟩)
      have hw1 : IntKind.i64.wrap ((nn : Int) + 1) = (nn : Int) + 1 := IntWalk.i64_in _ (by omega)
      have hw2 : IntKind.i64.wrap ((nn : Int) + (ql : Int)) = (k : Int) := by rw [IntWalk.i64_in _ (by omega)]; omega
      have hcase : (tb = false ∧ inn = false ∧ ql = 0 ∧ nn = 0 ∧ k = 0) ∨ (tb = false ∧ inn = false ∧ ql = 0 ∧ 0 < nn ∧ nn = k) ∨ (tb = true ∧ inn = false ∧ 0 < k) ∨ (tb = true ∧ inn = true ∧ tnm = nm ∧ tsp = 0 ∧ 0 < k) := by
        cases htb' : tb <;> cases hin' : inn
        · have := hq1 htb'
          by_cases h0 : nn = 0
          · exact .inl ⟨rfl, rfl, this, h0, by omega⟩
          · exact .inr (.inl ⟨rfl, rfl, this, by omega, by omega⟩)
        · have := (hlaw hin').1
          rw [htb'] at this
          cases this
        · have := hq0 htb'
          exact .inr (.inr (.inl ⟨rfl, rfl, by omega⟩))
        · have := hq0 htb'
          exact .inr (.inr (.inr ⟨rfl, rfl, (hlaw hin').2.1, (hlaw hin').2.2, by omega⟩))
      clear hes hq hql hin htb hte hlaw hq0 hq1 htwo hbel hle HK hsw
      rcases hcase with ⟨rfl, rfl, _, h0, h0'⟩ | ⟨rfl, rfl, _, h0, h0'⟩ | ⟨rfl, rfl, h0⟩ | ⟨rfl, rfl, rfl, rfl, h0⟩
      · have z1 : decide ((0 : Int) < (k : Int)) = false := by simp; omega
        have z2 : decide ((0 : Int) < (nn : Int)) = false := by simp; omega
        clear h0 h0'
        go_wp2_with (first
          | (go_at_call 11; (with_reducible refine (in_n (HT2.out.1.below ((Below.refl _ wr).alloc (Nat.le_refl _) _)) (NamesAt.one wr nm 9) HQ.out.2.2.2.1).mono ?_); rintro e w2 ⟨rfl, hb⟩; have hb2 := ((Below.refl _ wr).alloc (Nat.le_refl _) _).trans (hb.mono (by simp)); have H2 := Lib.hid (And.intro (HT2.out.1.below hb2) (And.intro (HT2.out.2.1.below hb2) (HBE.out.trans (hb2.mono HBE.out.size)))); clear hb hb2)
          | (go_at_call 14; (with_reducible refine (back_n (H2.out.1.below ((Below.refl _ w2).alloc (Nat.le_refl _) _)) (NamesAt.one w2 nm 9) HQ.out.2.2.2.2.2.2 HQ.out.1 HQ.out.2.2.1).mono ?_); rintro e w3 ⟨rfl, hs, hf, hg⟩; have hal := (Below.refl _ w2).alloc (Nat.le_refl _) (.cells #[.string nm] 9); have H3 := Lib.hid (And.intro hs (And.intro ((H2.out.2.1.below hal).grown (H2.out.1.below hal) HT2.out.2.2.symm hg) (H2.out.2.2.trans ((hal.mono H2.out.2.2.size).trans (below_of_fr hf (Nat.le_trans H2.out.2.2.size hal.size)))))); clear hs hf hg hal)
          | (go_at_call 15; (with_reducible refine (to_m (H3.out.2.1.below ((Below.refl _ w3).alloc (Nat.le_refl _) _)) (NamesAt.one w3 nm 9) HQ.out.2.2.2.2.2.2 HQ.out.1 HQ.out.2.2.1 HQ.out.2.2.2.2.2.1 HQ.out.2.2.2.2.1 rfl).mono ?_); rintro e w4 ⟨rfl, hs, hf, hg⟩; have hal := (Below.refl _ w3).alloc (Nat.le_refl _) (.cells #[.string nm] 9); have H4 := Lib.hid (And.intro ((H3.out.1.below hal).grown (H3.out.2.1.below hal) HT2.out.2.2 hg) (H3.out.2.2.trans ((hal.mono H3.out.2.2.size).trans (below_of_fr hf (Nat.le_trans H3.out.2.2.size hal.size))))); clear hs hf hg hal)
          | (go_at_call 16; (with_reducible refine (top_m H4.out.1 HQ.out.2.2.2.2.2.1 HQ.out.2.2.2.2.1).mono ?_); rintro e w5 ⟨rfl, hb⟩; have hbx := Blk.new w5 27 #[i64 tid, i64 tsp, .string tnm]; have f1 := hbx.cell 1 (i64 tsp) rfl; have f2 := hbx.cell 2 (.string tnm) rfl; have ha5 := (Below.refl _ w5).alloc (Nat.le_refl _) (.cells #[i64 tid, i64 tsp, .string tnm] 27); have H5 := Lib.hid (And.intro ((H4.out.1.below hb).below ha5) (H4.out.2.trans ((hb.mono H4.out.2.size).trans (ha5.mono (Nat.le_trans H4.out.2.size hb.size))))); clear hb hbx ha5)
          | (go_at_call 13; (with_reducible refine (all_stk H5.out.1 HQ.out.2.1).mono ?_); rintro e w6 ⟨ga, gc, rfl, hro, hb⟩; have H6 := Lib.hid (H5.out.2.trans (hb.mono H5.out.2.size)); clear hro hb)
          | (go_at_call 9; (with_reducible refine (cell_any _).mono ?_); rintro e w7 ⟨rfl, hb⟩; have H7 := Lib.hid hb; clear hb))
        all_goals go_ret
        all_goals (first | exact ⟨rfl, H6.out.trans (H7.out.mono H6.out.size)⟩ | exact absurd h0 (by assumption))
      · have z1 : decide ((0 : Int) < (k : Int)) = true := by simp; omega
        have z2 : decide ((0 : Int) < (nn : Int)) = true := by simp; omega
        clear h0 h0'
        go_wp2_with (first
          | (go_at_call 11; (with_reducible refine (in_n (HT2.out.1.below ((Below.refl _ wr).alloc (Nat.le_refl _) _)) (NamesAt.one wr nm 9) HQ.out.2.2.2.1).mono ?_); rintro e w2 ⟨rfl, hb⟩; have hb2 := ((Below.refl _ wr).alloc (Nat.le_refl _) _).trans (hb.mono (by simp)); have H2 := Lib.hid (And.intro (HT2.out.1.below hb2) (And.intro (HT2.out.2.1.below hb2) (HBE.out.trans (hb2.mono HBE.out.size)))); clear hb hb2)
          | (go_at_call 14; (with_reducible refine (back_n (H2.out.1.below ((Below.refl _ w2).alloc (Nat.le_refl _) _)) (NamesAt.one w2 nm 9) HQ.out.2.2.2.2.2.2 HQ.out.1 HQ.out.2.2.1).mono ?_); rintro e w3 ⟨rfl, hs, hf, hg⟩; have hal := (Below.refl _ w2).alloc (Nat.le_refl _) (.cells #[.string nm] 9); have H3 := Lib.hid (And.intro hs (And.intro ((H2.out.2.1.below hal).grown (H2.out.1.below hal) HT2.out.2.2.symm hg) (H2.out.2.2.trans ((hal.mono H2.out.2.2.size).trans (below_of_fr hf (Nat.le_trans H2.out.2.2.size hal.size)))))); clear hs hf hg hal)
          | (go_at_call 15; (with_reducible refine (to_m (H3.out.2.1.below ((Below.refl _ w3).alloc (Nat.le_refl _) _)) (NamesAt.one w3 nm 9) HQ.out.2.2.2.2.2.2 HQ.out.1 HQ.out.2.2.1 HQ.out.2.2.2.2.2.1 HQ.out.2.2.2.2.1 rfl).mono ?_); rintro e w4 ⟨rfl, hs, hf, hg⟩; have hal := (Below.refl _ w3).alloc (Nat.le_refl _) (.cells #[.string nm] 9); have H4 := Lib.hid (And.intro ((H3.out.1.below hal).grown (H3.out.2.1.below hal) HT2.out.2.2 hg) (H3.out.2.2.trans ((hal.mono H3.out.2.2.size).trans (below_of_fr hf (Nat.le_trans H3.out.2.2.size hal.size))))); clear hs hf hg hal)
          | (go_at_call 16; (with_reducible refine (top_m H4.out.1 HQ.out.2.2.2.2.2.1 HQ.out.2.2.2.2.1).mono ?_); rintro e w5 ⟨rfl, hb⟩; have hbx := Blk.new w5 27 #[i64 tid, i64 tsp, .string tnm]; have f1 := hbx.cell 1 (i64 tsp) rfl; have f2 := hbx.cell 2 (.string tnm) rfl; have ha5 := (Below.refl _ w5).alloc (Nat.le_refl _) (.cells #[i64 tid, i64 tsp, .string tnm] 27); have H5 := Lib.hid (And.intro ((H4.out.1.below hb).below ha5) (H4.out.2.trans ((hb.mono H4.out.2.size).trans (ha5.mono (Nat.le_trans H4.out.2.size hb.size))))); clear hb hbx ha5)
          | (go_at_call 13; (with_reducible refine (all_stk H5.out.1 HQ.out.2.1).mono ?_); rintro e w6 ⟨ga, gc, rfl, hro, hb⟩; have H6 := Lib.hid (H5.out.2.trans (hb.mono H5.out.2.size)); clear hro hb)
          | (go_at_call 9; (with_reducible refine (cell_any _).mono ?_); rintro e w7 ⟨rfl, hb⟩; have H7 := Lib.hid hb; clear hb))
        all_goals go_ret
        all_goals (first | exact ⟨rfl, H6.out.trans (H7.out.mono H6.out.size)⟩ | exact absurd h0 (by assumption))
      · have z1 : decide ((0 : Int) < (k : Int)) = true := by simp; omega
        have z2 : decide ((0 : Int) < (nn : Int) + 1) = true := by rw [decide_eq_true_iff]; omega
        go_wp2_with (first
          | (go_at_call 11; (with_reducible refine (in_n (HT2.out.1.below ((Below.refl _ wr).alloc (Nat.le_refl _) _)) (NamesAt.one wr nm 9) HQ.out.2.2.2.1).mono ?_); rintro e w2 ⟨rfl, hb⟩; have hb2 := ((Below.refl _ wr).alloc (Nat.le_refl _) _).trans (hb.mono (by simp)); have H2 := Lib.hid (And.intro (HT2.out.1.below hb2) (And.intro (HT2.out.2.1.below hb2) (HBE.out.trans (hb2.mono HBE.out.size)))); clear hb hb2)
          | (go_at_call 14; (with_reducible refine (back_n (H2.out.1.below ((Below.refl _ w2).alloc (Nat.le_refl _) _)) (NamesAt.one w2 nm 9) HQ.out.2.2.2.2.2.2 HQ.out.1 HQ.out.2.2.1).mono ?_); rintro e w3 ⟨rfl, hs, hf, hg⟩; have hal := (Below.refl _ w2).alloc (Nat.le_refl _) (.cells #[.string nm] 9); have H3 := Lib.hid (And.intro hs (And.intro ((H2.out.2.1.below hal).grown (H2.out.1.below hal) HT2.out.2.2.symm hg) (H2.out.2.2.trans ((hal.mono H2.out.2.2.size).trans (below_of_fr hf (Nat.le_trans H2.out.2.2.size hal.size)))))); clear hs hf hg hal)
          | (go_at_call 15; (with_reducible refine (to_m (H3.out.2.1.below ((Below.refl _ w3).alloc (Nat.le_refl _) _)) (NamesAt.one w3 nm 9) HQ.out.2.2.2.2.2.2 HQ.out.1 HQ.out.2.2.1 HQ.out.2.2.2.2.2.1 HQ.out.2.2.2.2.1 rfl).mono ?_); rintro e w4 ⟨rfl, hs, hf, hg⟩; have hal := (Below.refl _ w3).alloc (Nat.le_refl _) (.cells #[.string nm] 9); have H4 := Lib.hid (And.intro ((H3.out.1.below hal).grown (H3.out.2.1.below hal) HT2.out.2.2 hg) (H3.out.2.2.trans ((hal.mono H3.out.2.2.size).trans (below_of_fr hf (Nat.le_trans H3.out.2.2.size hal.size))))); clear hs hf hg hal)
          | (go_at_call 16; (with_reducible refine (top_m H4.out.1 HQ.out.2.2.2.2.2.1 HQ.out.2.2.2.2.1).mono ?_); rintro e w5 ⟨rfl, hb⟩; have hbx := Blk.new w5 27 #[i64 tid, i64 tsp, .string tnm]; have f1 := hbx.cell 1 (i64 tsp) rfl; have f2 := hbx.cell 2 (.string tnm) rfl; have ha5 := (Below.refl _ w5).alloc (Nat.le_refl _) (.cells #[i64 tid, i64 tsp, .string tnm] 27); have H5 := Lib.hid (And.intro ((H4.out.1.below hb).below ha5) (H4.out.2.trans ((hb.mono H4.out.2.size).trans (ha5.mono (Nat.le_trans H4.out.2.size hb.size))))); clear hb hbx ha5)
          | (go_at_call 13; (with_reducible refine (all_stk H5.out.1 HQ.out.2.1).mono ?_); rintro e w6 ⟨ga, gc, rfl, hro, hb⟩; have H6 := Lib.hid (H5.out.2.trans (hb.mono H5.out.2.size)); clear hro hb)
          | (go_at_call 9; (with_reducible refine (cell_any _).mono ?_); rintro e w7 ⟨rfl, hb⟩; have H7 := Lib.hid hb; clear hb))
        all_goals go_ret
        all_goals (first | exact ⟨rfl, H6.out.trans (H7.out.mono H6.out.size)⟩ | exact absurd h0 (by assumption))
      · have z1 : decide ((0 : Int) < (k : Int)) = true := by simp; omega
        have z2 : decide ((0 : Int) < (nn : Int) + 1) = true := by rw [decide_eq_true_iff]; omega
        go_wp2_with (first
          | (go_at_call 11; (with_reducible refine (in_n (HT2.out.1.below ((Below.refl _ wr).alloc (Nat.le_refl _) _)) (NamesAt.one wr tnm 9) HQ.out.2.2.2.1).mono ?_); rintro e w2 ⟨rfl, hb⟩; have hb2 := ((Below.refl _ wr).alloc (Nat.le_refl _) _).trans (hb.mono (by simp)); have H2 := Lib.hid (And.intro (HT2.out.1.below hb2) (And.intro (HT2.out.2.1.below hb2) (HBE.out.trans (hb2.mono HBE.out.size)))); clear hb hb2)
          | (go_at_call 14; (with_reducible refine (back_n (H2.out.1.below ((Below.refl _ w2).alloc (Nat.le_refl _) _)) (NamesAt.one w2 tnm 9) HQ.out.2.2.2.2.2.2 HQ.out.1 HQ.out.2.2.1).mono ?_); rintro e w3 ⟨rfl, hs, hf, hg⟩; have hal := (Below.refl _ w2).alloc (Nat.le_refl _) (.cells #[.string tnm] 9); have H3 := Lib.hid (And.intro hs (And.intro ((H2.out.2.1.below hal).grown (H2.out.1.below hal) HT2.out.2.2.symm hg) (H2.out.2.2.trans ((hal.mono H2.out.2.2.size).trans (below_of_fr hf (Nat.le_trans H2.out.2.2.size hal.size)))))); clear hs hf hg hal)
          | (go_at_call 15; (with_reducible refine (to_m (H3.out.2.1.below ((Below.refl _ w3).alloc (Nat.le_refl _) _)) (NamesAt.one w3 tnm 9) HQ.out.2.2.2.2.2.2 HQ.out.1 HQ.out.2.2.1 HQ.out.2.2.2.2.2.1 HQ.out.2.2.2.2.1 rfl).mono ?_); rintro e w4 ⟨rfl, hs, hf, hg⟩; have hal := (Below.refl _ w3).alloc (Nat.le_refl _) (.cells #[.string tnm] 9); have H4 := Lib.hid (And.intro ((H3.out.1.below hal).grown (H3.out.2.1.below hal) HT2.out.2.2 hg) (H3.out.2.2.trans ((hal.mono H3.out.2.2.size).trans (below_of_fr hf (Nat.le_trans H3.out.2.2.size hal.size))))); clear hs hf hg hal)
          | (go_at_call 16; (with_reducible refine (top_m H4.out.1 HQ.out.2.2.2.2.2.1 HQ.out.2.2.2.2.1).mono ?_); rintro e w5 ⟨rfl, hb⟩; have hbx := Blk.new w5 27 #[i64 tid, i64 0, .string tnm]; have f1 := hbx.cell 1 (i64 0) rfl; have f2 := hbx.cell 2 (.string tnm) rfl; have ha5 := (Below.refl _ w5).alloc (Nat.le_refl _) (.cells #[i64 tid, i64 0, .string tnm] 27); have H5 := Lib.hid (And.intro ((H4.out.1.below hb).below ha5) (H4.out.2.trans ((hb.mono H4.out.2.size).trans (ha5.mono (Nat.le_trans H4.out.2.size hb.size))))); clear hb hbx ha5)
          | (go_at_call 13; (with_reducible refine (all_stk H5.out.1 HQ.out.2.1).mono ?_); rintro e w6 ⟨ga, gc, rfl, hro, hb⟩; have H6 := Lib.hid (H5.out.2.trans (hb.mono H5.out.2.size)); clear hro hb)
          | (go_at_call 9; (with_reducible refine (cell_any _).mono ?_); rintro e w7 ⟨rfl, hb⟩; have H7 := Lib.hid hb; clear hb))
        all_goals go_ret
        all_goals (first | exact ⟨rfl, H6.out.trans (H7.out.mono H6.out.size)⟩ | exact absurd h0 (by assumption))

theorem stackBack_walk {w : World} {v : Value} {l : List Ent} {scope : Int} {nm : ByteArray} (h : EntsAt w v l) : Calls Try.prog 5 #[v, i64 scope, .string nm] w fun e w' => e = .returned (.bool true) ∧ Below w.heap.size w w' := by
  by_cases hb : 100 < l.length
  · exact back_long h hb
  · exact back_main h (by omega)

namespace stackBack
open Go.ChangeShapes Go.WideShapes Go.ChangeAt Go.RowKit Go.Joins Go.Deep
open Go.ChangeMaps (open_string shut_string)
set_option linter.unusedVariables false
set_option maxRecDepth 100000 in
theorem lifted (os : Os) (started : os.Started) (H : Type) (enc : TypeId × Value → H) :
    ReturnsInHanded {} Try.checked os 5 .any (Rows.stackBackSpec.pre6 enc Try.prog Try.f5 Rows.stackBackRow.domain false) (Rows.stackBackSpec.post enc Try.prog Try.f5 false true false false) := by
  refine returnsInHanded_of_change_sized (C := Try.checked) own started (by kernel_rfl) Try.func5
    (ChangeSpec.witness6 (enc := enc) (C := Try.checked) false ⟨#[], #[.slice none 0 0, .int .i64 0, .string ByteArray.empty], []⟩ 8 (by kernel_rfl) (by kernel_rfl) (by kernel_rfl) (by kernel_rfl)) ?_
  intro W base args ds gs before hval0 hW hcnd hsz0 _
  have hval : ∀ (j : Nat) t v, Try.f5.params[j]? = some t → args[j]? = some v → Value.okWide Try.prog W .any base t v := hval0
  have hW' := hW
  obtain ⟨p, q, hA0, hV, rfl, hfz, hnd⟩ := hW
  have hA : DataW.TrodAll enc Try.prog W 0 (fun _ => true) true Try.f5.params.toList args.toList ds p := hA0
  rw [Try.params5] at hA hval
  obtain ⟨v0, vs0, d0, ds0, p0, q0, hargs, rfl, rfl, h0, r0⟩ := trodAll_cons hA
  obtain ⟨v1, vs1, d1, ds1, p1, q1, rfl, rfl, rfl, h1, r1⟩ := trodAll_cons r0
  obtain ⟨v2, vs2, d2, ds2, p2, q2, rfl, rfl, rfl, h2, r2⟩ := trodAll_cons r1
  obtain ⟨rfl, rfl, rfl⟩ := trodAll_nil r2
  obtain rfl : args = #[v0, v1, v2] := by cases args; simp_all
  obtain ⟨rfl, rfl⟩ := trodVars_none hV
  have h0k := h0
  have hlt0 : ∀ x ∈ p0, x.block < W.heap.size := fun x hx => by simpa using hW'.lt x (by simp [hx])
  obtain ⟨l0, hl0, hw0⟩ := open_ents (hval 0 22 v0 rfl rfl) h0
  obtain ⟨a1, rfl, rfl, rfl, w1⟩ := open_int Try.underlying3 (hval 1 3 v1 rfl rfl) h1
  obtain ⟨a2, rfl, rfl, rfl, w2⟩ := open_string Try.underlying9 (hval 2 9 v2 rfl rfl) h2
  clear hA0 hval0 hsz0
  refine (stackBack_walk hl0).mono fun e W' ⟨he, bel⟩ => ?_
  subst he
  exact ⟨_, rfl, _, _, _, [], _, [], hW', trodAll_mk1 (shut_bool Try.underlying4 _), (trodAll_cons_mk (Below.trod laid (by kernel_rfl) (of_decide_eq_true (by kernel_rfl)) h0k bel hlt0) (trodAll_cons_mk (shut_int Try.underlying3 w1) (trodAll_cons_mk (shut_string Try.underlying9 w2) trodAll_mk0))), rfl, bel.frame _, fun h => by cases h⟩
theorem over : Rows.stackBackRow.holds Try.pinned (OpenSpec.ofChange Rows.stackBackSpec) :=
  OpenClaim.holds_of_wide 5 Try.f5 rfl rfl rfl rfl rfl rfl rfl ⟨rfl, rfl, rfl, rfl, rfl⟩ rfl rfl rfl rfl rfl (by kernel_rfl) Try.func5 (by kernel_rfl)
    (of_decide_eq_true (by kernel_rfl)) (by unfold Func.isWrapper; first | (rw [if_pos (by decide +kernel)]; kernel_rfl) | (rw [if_neg (by decide +kernel)]; exact ⟨rfl, rfl⟩))
    (fun os started H enc _ => lifted os started H enc)
end stackBack
/-- The row: whatever the input, true. -/
theorem stackBack_holds : Rows.StackBackSaid := stackBack.over


end Go.Proofs.Ytdagjpiakbfjpaa
