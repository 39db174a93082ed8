/-
  rectolaw09.StackSteps returns true for every list of steps, every scope and every two names.
  Written by an AI agent.
-/
import Derived.Test.YtdagjpiakbfjpaaOpenS
import Derived.Test.YtdagjpiakbfjpaaRows
import Derived.Test.YtdagjpiakbfjpaaChecked
namespace Go.Proofs.Ytdagjpiakbfjpaa
open Go.RowKit
attribute [local go_sem ↓] Go.wp_at_zero Go.wp_at_succ

theorem NamesAt.of_blk {w : World} {g : Nat} {t : TypeId} {x y : ByteArray} (h : Blk w g t #[.string x, .string y]) : NamesAt w (.slice (some ⟨g, 0, none⟩) 2 2) [x, y] :=
  ⟨_, 2, rfl, by simp, fun _ => ⟨g, 0, rfl, h.lt, fun k z hz => by
    match k, hz with
    | 0, hz => exact h.cell 0 _ (by simp at hz; subst hz; rfl)
    | 1, hz => exact h.cell 1 _ (by simp at hz; subst hz; rfl)⟩⟩
theorem does_m {w : World} {B lb rb : Nat} {es es' : List Ent} {what at_ id sp : Int} {nm n1 n2 : ByteArray} (h : Duo w B lb rb es) (hl : es.length ≤ 200) (hs : stepE ⟨what, at_, ⟨id, sp, nm⟩, n1, n2⟩ es = es') :
    Calls Try.prog 17 #[ptr lb, ptr rb, .agg #[i64 what, i64 at_, i64 id, i64 sp, .string nm, .string n1, .string n2]] w (DoIt B lb rb es' w) := does_any ⟨what, at_, ⟨id, sp, nm⟩, n1, n2⟩ h hl hs
theorem all_n {w : World} {B lb n : Nat} {es : List Ent} (h : Stk w B lb es) (hn : es.length = n) : Calls Try.prog 13 #[ptr lb] w fun e w' => ∃ ad c, e = .returned (.slice ad n c) ∧ ReadE w' ad es ∧ Below w.heap.size w w' :=
  (all_stk h hn).mono fun _ _ ⟨ad, c, h1, h2, h3⟩ => ⟨ad, c, h1, ReadE.of_own h2 hn, h3⟩

theorem steps_long {w : World} {v : Value} {l : List Sp} {scope : Int} {n1 n2 : ByteArray} (h : StepsAt w v l) (hb : 230 < l.length) :
    Calls Try.prog 6 #[v, i64 scope, .agg #[.string n1, .string n2]] w fun e w' => e = .returned (.bool true) ∧ Below w.heap.size w w' := by
  obtain ⟨ad, c, rfl, _⟩ := h
  obtain ⟨n, hn⟩ : ∃ n, l.length = n := ⟨_, rfl⟩
  rw [hn] at hb ⊢
  clear hn
  have z1 : decide (230 < n) = true := by simp; omega
  have z2 : decide ((230 : Int) < (n : Int)) = true := by simp; omega
  clear hb
  go_enter Try.func6, Try.ntmps6
  go_wp2_with (first
    | (go_at_call 8; refine (new_any _).mono ?_; rintro e w1 ⟨rfl, hs, hb⟩; have H1 := Lib.hid (((Below.refl _ w).alloc (Nat.le_refl _) (.cells #[.string n1, .string n2] 40)).trans (hb.mono (by simp))); clear hs hb)
    | (go_at_call 9; (with_reducible refine (cell_any _).mono ?_); rintro e w2 ⟨rfl, hb⟩; have H2 := Lib.hid hb; clear hb))
  go_ret
  exact ⟨rfl, H1.out.trans (H2.out.mono H1.out.size)⟩

set_option maxHeartbeats 16000000 in
set_option maxRecDepth 100000 in
theorem steps_main {w : World} {v : Value} {l : List Sp} {scope : Int} {n1 n2 : ByteArray} (h : StepsAt w v l) (hb : l.length ≤ 230) :
    Calls Try.prog 6 #[v, i64 scope, .agg #[.string n1, .string n2]] w fun e w' => e = .returned (.bool true) ∧ Below w.heap.size w w' := by
  obtain ⟨ad, c, rfl, hr⟩ := h
  obtain ⟨m, hm⟩ : ∃ m, l.length = m := ⟨_, rfl⟩
  rw [hm] at hb ⊢
  have HR := Lib.hid hr
  have HM := Lib.hid hm
  have HA0 := Lib.hid (Blk.new w 40 #[.string n1, .string n2])
  have HB00 := Lib.hid ((Below.refl _ w).alloc (Nat.le_refl _) (.cells #[.string n1, .string n2] 40))
  have z1 : decide (230 < m) = false := by simp; omega
  clear hr hm
  go_enter Try.func6, Try.ntmps6
  go_wp2_with (first
    | (go_at_call 8; refine (new_any _).mono ?_; rintro e w1 ⟨rfl, hs, hb⟩; have hs1 := hb.size; simp only [World.size_alloc] at hs1; have H1 := Lib.hid (And.intro hs (And.intro (HB00.out.trans (hb.mono (by simp))) (And.intro (blk_kept HA0.out hb) hs1))); clear hs hb hs1))
  obtain ⟨rb, hrb⟩ : ∃ rb, w1.heap.size = rb := ⟨_, rfl⟩
  rw [show (w.alloc (.cells #[.string n1, .string n2] 40)).heap.size = w.heap.size + 1 by simp] at H1
  have HW0 : Hid (Duo (w1.alloc (.cells #[.slice none 0 0] 44)) w.heap.size (w.heap.size + 1) rb [] ∧ ([] : List Ent).length ≤ 200 ∧ Below w.heap.size w (w1.alloc (.cells #[.slice none 0 0] 44)) ∧ Blk (w1.alloc (.cells #[.slice none 0 0] 44)) w.heap.size 40 #[.string n1, .string n2]) := Lib.hid (by
    have hb1 := H1.out.2.1.alloc H1.out.2.1.size (.cells #[.slice none 0 0] 44)
    have hbn := (Below.refl _ w1).alloc (Nat.le_refl _) (.cells #[.slice none 0 0] 44)
    refine ⟨⟨?_, ?_⟩, by simp, hb1, H1.out.2.2.1.alloc _⟩
    · obtain ⟨v, hv⟩ := H1.out.1.below hbn
      exact ⟨v, hv.1, by omega, own_mono hv.2.2.1 (by omega), hv.2.2.2⟩
    · rw [← hrb]
      exact RAt.nil (Blk.new w1 44 #[.slice none 0 0]) H1.out.2.1.size)
  rw [hrb]
  clear hrb
  go_loopw [10, 11, 12, 30] (fun _ _ _ i wr => ∃ (k : Nat) (es : List Ent), k ≤ m ∧ i = i64 k ∧ Hid (Duo wr w.heap.size (w.heap.size + 1) rb es ∧ es.length ≤ 200 ∧ Below w.heap.size w wr ∧ Blk wr w.heap.size 40 #[.string n1, .string n2])) (fun _ _ _ i _ => m - (intOf i).toNat)
  case atStart => exact ⟨0, [], Nat.zero_le _, rfl, HW0⟩
  case round =>
    obtain ⟨k, es, hk, rfl, HK⟩ := hrel
    by_cases hlt : k < m
    · obtain ⟨⟨what, at_, ⟨id, sp, nm⟩, m1, m2⟩, hx⟩ : ∃ x, l[k]? = some x := ⟨_, List.getElem?_eq_getElem (by rw [HM.out]; exact hlt)⟩
      obtain ⟨g, off, had, hg, hc⟩ := HR.out (fun e => by rw [e] at hx; simp at hx)
      obtain ⟨d0, d1, d2, d3, d4, d5, d6⟩ := hc k _ hx
      have hbel := HK.out.2.2.1
      have e0 := (hbel.cell (p := ⟨g, off + k * 7, none⟩) hg).trans d0
      have e1 := (hbel.cell (p := ⟨g, off + k * 7 + 1, none⟩) hg).trans d1
      have e2 := (hbel.cell (p := ⟨g, off + k * 7 + 2, none⟩) hg).trans d2
      have e3 := (hbel.cell (p := ⟨g, off + k * 7 + 3, none⟩) hg).trans d3
      have e4 := (hbel.cell (p := ⟨g, off + k * 7 + 4, none⟩) hg).trans d4
      have e5 := (hbel.cell (p := ⟨g, off + k * 7 + 5, none⟩) hg).trans d5
      have e6 := (hbel.cell (p := ⟨g, off + k * 7 + 6, none⟩) hg).trans d6
      simp only at e0 e1 e2 e3 e4 e5 e6
      obtain ⟨es', hes⟩ : ∃ es', stepE ⟨what, at_, ⟨id, sp, nm⟩, m1, m2⟩ es = es' := ⟨_, rfl⟩
      have hl' : es'.length ≤ 200 := by rw [← hes]; exact stepE_length HK.out.2.1
      obtain ⟨n, hn⟩ : ∃ n, es'.length = n := ⟨_, rfl⟩
      obtain ⟨fi, hfi⟩ : ∃ fi, findE id es' = fi := ⟨_, rfl⟩
      obtain ⟨te, hte⟩ : ∃ te, topE es' = te := ⟨_, rfl⟩
      obtain ⟨tb, htb⟩ : ∃ tb, topB es' = tb := ⟨_, rfl⟩
      obtain ⟨ib, hib⟩ : ∃ ib, inB scope [n1, n2] es' = ib := ⟨_, rfl⟩
      have HS := Lib.hid (And.intro hes (And.intro hl' (And.intro hn (And.intro hfi (And.intro hte (And.intro htb hib))))))
      have hn6 : n ≤ 200 := by omega
      have HAD := Lib.hid had
      have HBX := Lib.hid (Blk.new wr 46 #[i64 what, i64 at_, i64 id, i64 sp, .string nm, .string m1, .string m2]).drew
      have hbx0 : Below wr.heap.size wr (wr.alloc (.cells #[i64 what, i64 at_, i64 id, i64 sp, .string nm, .string m1, .string m2] 46)).drew := ((Below.refl _ wr).alloc (Nat.le_refl _) _).drew
      have HW := Lib.hid (And.intro (HK.out.1.below hbx0) (And.intro HK.out.2.1 (And.intro hbx0 (HK.out.2.2.1.trans (hbx0.mono HK.out.2.2.1.size)))))
      clear hc hx had d0 d1 d2 d3 d4 d5 d6 hbel hes hl' hn hfi hte htb hib hbx0
      rw [HAD.out]
      go_wp2_with fail
      refine wp_region_any (by kernel_rfl) ?_
      change wpAny _ _ _ _ _ _ _ (World.drew _)
      refine wpAny_take (i := 0) (v := ?_) rfl (by kernel_rfl) (by kernel_rfl) (by kernel_rfl) (fun _ _ _ h => h) (Or.inl ⟨by rfl, ?h6_8_6_0_1⟩) ?_
      case h6_8_6_0_1 => (intro w; go_simp; try with_reducible rfl)
      try simp only [Act.put, List.setIfInBounds_toArray, List.set_cons_zero, List.set_cons_succ, List.getElem_toArray, List.getElem_cons_zero, List.getElem_cons_succ]
      refine wpAny_take (i := 1) (v := ?_) rfl (by kernel_rfl) (by kernel_rfl) (by kernel_rfl) (fun _ _ _ h => h) (Or.inl ⟨by rfl, ?h6_8_6_0_2⟩) ?_
      case h6_8_6_0_2 => (intro w; go_simp; try with_reducible rfl)
      try simp only [Act.put, List.setIfInBounds_toArray, List.set_cons_zero, List.set_cons_succ, List.getElem_toArray, List.getElem_cons_zero, List.getElem_cons_succ]
      refine wpAny_ready (rs := [2]) (by kernel_rfl) (by simp) ?_
      refine AllReady.cons rfl (fun K hK => ?_) AllReady.nil
      go_simp
      refine hK _ _ ?_
      clear hK K
      try simp only [Act.put, List.setIfInBounds_toArray, List.set_cons_zero, List.set_cons_succ, List.getElem_toArray, List.getElem_cons_zero, List.getElem_cons_succ]
      refine wpAny_ready (rs := [3]) (by kernel_rfl) (by simp) ?_
      refine AllReady.cons rfl (fun K hK => ?_) AllReady.nil
      go_simp
      (with_reducible refine (does_m HW.out.1 HW.out.2.1 HS.out.1).mono ?_)
      rintro e w4 ⟨rfl, h4, f4⟩
      clear e0 e1 e2 e3 e4 e5 e6
      obtain ⟨adr, cr, r0, hre, hr4⟩ := h4.2.at_ HS.out.2.2.1
      have p4 := f4.blk HBX.out (.inr rfl)
      have s2 := p4.cell 2 (i64 id) rfl
      have hnb : wr.heap.size < w4.heap.size := p4.lt
      have ha4 := f4.blk ((HK.out.2.2.2.alloc (.cells #[i64 what, i64 at_, i64 id, i64 sp, .string nm, .string m1, .string m2] 46)).drew) (.inr rfl)
      have H4 := Lib.hid (And.intro h4 (And.intro (HW.out.2.2.2.trans ((below_of_fr f4 HW.out.2.2.2.size).mono (Nat.le_refl _))) (And.intro hre ha4)))
      clear h4 f4 p4 hre ha4
      refine hK _ _ ?_
      clear hK K
      try simp only [Act.put, List.setIfInBounds_toArray, List.set_cons_zero, List.set_cons_succ, List.getElem_toArray, List.getElem_cons_zero, List.getElem_cons_succ]
      have hHeld : (fun w' => w'.cell? ⟨rb, 0, none⟩ = some (.slice adr n cr) ∧ w'.cell? ⟨wr.heap.size, 2, none⟩ = some (i64 id)) w4 := by (try dsimp only); go_keep
      refine wpAny_of_held (S := (fun w' => w'.cell? ⟨rb, 0, none⟩ = some (.slice adr n cr) ∧ w'.cell? ⟨wr.heap.size, 2, none⟩ = some (i64 id))) _ _ _ _ ?_
      refine wpAnyH_take (i := 4) (v := ?_) rfl (by kernel_rfl) (by kernel_rfl) (by kernel_rfl) (fun _ _ _ h => h) (Or.inl ⟨by rfl, ?h6_8_6_0_3⟩) (by assumption) ?_
      case h6_8_6_0_3 => (intro w hSw; (try dsimp only at hSw); go_simp; try with_reducible rfl)
      try simp only [Act.put, List.setIfInBounds_toArray, List.set_cons_zero, List.set_cons_succ, List.getElem_toArray, List.getElem_cons_zero, List.getElem_cons_succ]
      refine wpAnyH_take (i := 5) (v := ?_) rfl (by kernel_rfl) (by kernel_rfl) (by kernel_rfl) (fun _ _ _ h => h) (Or.inl ⟨by rfl, ?h6_8_6_0_4⟩) (by assumption) ?_
      case h6_8_6_0_4 => (intro w hSw; (try dsimp only at hSw); go_simp; try with_reducible rfl)
      try simp only [Act.put, List.setIfInBounds_toArray, List.set_cons_zero, List.set_cons_succ, List.getElem_toArray, List.getElem_cons_zero, List.getElem_cons_succ]
      refine wpAnyH_take (i := 6) (v := ?_) rfl (by kernel_rfl) (by kernel_rfl) (by kernel_rfl) (fun _ _ _ h => h) (Or.inl ⟨by rfl, ?h6_8_6_0_5⟩) (by assumption) ?_
      case h6_8_6_0_5 => (intro w hSw; (try dsimp only at hSw); go_simp; try with_reducible rfl)
      try simp only [Act.put, List.setIfInBounds_toArray, List.set_cons_zero, List.set_cons_succ, List.getElem_toArray, List.getElem_cons_zero, List.getElem_cons_succ]
      refine wpAnyH_take (i := 8) (v := ?_) rfl (by kernel_rfl) (by kernel_rfl) (by kernel_rfl) (fun _ _ _ h => h) (Or.inl ⟨by rfl, ?h6_8_6_0_6⟩) (by assumption) ?_
      case h6_8_6_0_6 => (intro w hSw; (try dsimp only at hSw); go_simp; try with_reducible rfl)
      try simp only [Act.put, List.setIfInBounds_toArray, List.set_cons_zero, List.set_cons_succ, List.getElem_toArray, List.getElem_cons_zero, List.getElem_cons_succ]
      refine wpAnyH_take (i := 9) (v := ?_) rfl (by kernel_rfl) (by kernel_rfl) (by kernel_rfl) (fun _ _ _ h => h) (Or.inl ⟨by rfl, ?h6_8_6_0_7⟩) (by assumption) ?_
      case h6_8_6_0_7 => (intro w hSw; (try dsimp only at hSw); go_simp; try with_reducible rfl)
      try simp only [Act.put, List.setIfInBounds_toArray, List.set_cons_zero, List.set_cons_succ, List.getElem_toArray, List.getElem_cons_zero, List.getElem_cons_succ]
      refine wpAnyH_take (i := 10) (v := ?_) rfl (by kernel_rfl) (by kernel_rfl) (by kernel_rfl) (fun _ _ _ h => h) (Or.inl ⟨by rfl, ?h6_8_6_0_8⟩) (by assumption) ?_
      case h6_8_6_0_8 => (intro w hSw; (try dsimp only at hSw); go_simp; try with_reducible rfl)
      try simp only [Act.put, List.setIfInBounds_toArray, List.set_cons_zero, List.set_cons_succ, List.getElem_toArray, List.getElem_cons_zero, List.getElem_cons_succ]
      refine wpAnyH_take (i := 11) (v := ?_) rfl (by kernel_rfl) (by kernel_rfl) (by kernel_rfl) (fun _ _ _ h => h) (Or.inl ⟨by rfl, ?h6_8_6_0_9⟩) (by assumption) ?_
      case h6_8_6_0_9 => (intro w hSw; (try dsimp only at hSw); go_simp; try with_reducible rfl)
      try simp only [Act.put, List.setIfInBounds_toArray, List.set_cons_zero, List.set_cons_succ, List.getElem_toArray, List.getElem_cons_zero, List.getElem_cons_succ]
      refine wpAnyH_ready (rs := [7]) (by kernel_rfl) (by simp) ?_
      refine AllReadyH.cons rfl (fun K hK => ?_) AllReadyH.nil
      go_simp
      (with_reducible refine (all_n H4.out.1.1 HS.out.2.2.1).mono ?_)
      rintro e w5 ⟨ad5, c5, rfl, hre5, hb5⟩
      have r5 := (hb5.cell (p := ⟨rb, 0, none⟩) hr4).trans r0
      have t5 := (hb5.cell (p := ⟨wr.heap.size, 2, none⟩) hnb).trans s2
      have H5 := Lib.hid (And.intro (H4.out.1.below hb5) (And.intro (H4.out.2.1.trans (hb5.mono H4.out.2.1.size)) (And.intro hre5 (And.intro (H4.out.2.2.1.below hb5) (And.intro hb5 (blk_kept H4.out.2.2.2 hb5))))))
      clear hre5 hb5
      go_wp2_with fail
      refine hK.out _ _ (by (try dsimp only); go_keep) (fun hHeld2 => ?_)
      clear hK K hHeld
      have hHeld := hHeld2
      clear hHeld2
      try simp only [Act.put, List.setIfInBounds_toArray, List.set_cons_zero, List.set_cons_succ, List.getElem_toArray, List.getElem_cons_zero, List.getElem_cons_succ]
      refine wpAnyH_ready (rs := [12]) (by kernel_rfl) (by simp) ?_
      refine AllReadyH.cons rfl (fun K hK => ?_) AllReadyH.nil
      go_simp
      (with_reducible refine (same_any H5.out.2.2.1 H5.out.2.2.2.1 HS.out.2.2.1 (Nat.le_trans hn6 (by decide))).mono ?_)
      rintro e w6 ⟨rfl, hb6⟩
      have hb46 := H5.out.2.2.2.2.1.trans (hb6.mono H5.out.2.2.2.2.1.size)
      have r6 := (hb46.cell (p := ⟨rb, 0, none⟩) hr4).trans r0
      have t6 := (hb46.cell (p := ⟨wr.heap.size, 2, none⟩) hnb).trans s2
      have H6 := Lib.hid (And.intro (H5.out.1.below hb6) (And.intro (H5.out.2.1.trans (hb6.mono H5.out.2.1.size)) (And.intro hb46 (And.intro (H5.out.2.2.2.1.below hb6) (blk_kept H5.out.2.2.2.2.2 hb6)))))
      clear hb6 hb46
      go_wp2_with fail
      refine hK.out _ _ (by (try dsimp only); go_keep) (fun hHeld2 => ?_)
      clear hK K hHeld
      have hHeld := hHeld2
      clear hHeld2
      try simp only [Act.put, List.setIfInBounds_toArray, List.set_cons_zero, List.set_cons_succ, List.getElem_toArray, List.getElem_cons_zero, List.getElem_cons_succ]
      refine wpAnyH_take (i := 13) (v := ?_) rfl (by kernel_rfl) (by kernel_rfl) (by kernel_rfl) (fun _ _ _ h => h) (Or.inl ⟨by rfl, ?h6_8_6_0_10⟩) (by assumption) ?_
      case h6_8_6_0_10 => (intro w hSw; (try dsimp only at hSw); go_simp; try with_reducible rfl)
      try simp only [Act.put, List.setIfInBounds_toArray, List.set_cons_zero, List.set_cons_succ, List.getElem_toArray, List.getElem_cons_zero, List.getElem_cons_succ]
      refine wpAnyH_take (i := 14) (v := ?_) rfl (by kernel_rfl) (by kernel_rfl) (by kernel_rfl) (fun _ _ _ h => h) (Or.inl ⟨by rfl, ?h6_8_6_0_11⟩) (by assumption) ?_
      case h6_8_6_0_11 => (intro w hSw; (try dsimp only at hSw); go_simp; try with_reducible rfl)
      try simp only [Act.put, List.setIfInBounds_toArray, List.set_cons_zero, List.set_cons_succ, List.getElem_toArray, List.getElem_cons_zero, List.getElem_cons_succ]
      refine wpAnyH_take (i := 15) (v := ?_) rfl (by kernel_rfl) (by kernel_rfl) (by kernel_rfl) (fun _ _ _ h => h) (Or.inl ⟨by rfl, ?h6_8_6_0_12⟩) (by assumption) ?_
      case h6_8_6_0_12 => (intro w hSw; (try dsimp only at hSw); go_simp; try with_reducible rfl)
      try simp only [Act.put, List.setIfInBounds_toArray, List.set_cons_zero, List.set_cons_succ, List.getElem_toArray, List.getElem_cons_zero, List.getElem_cons_succ]
      refine wpAnyH_take (i := 16) (v := ?_) rfl (by kernel_rfl) (by kernel_rfl) (by kernel_rfl) (fun _ _ _ h => h) (Or.inl ⟨by rfl, ?h6_8_6_0_13⟩) (by assumption) ?_
      case h6_8_6_0_13 => (intro w hSw; (try dsimp only at hSw); go_simp; try with_reducible rfl)
      try simp only [Act.put, List.setIfInBounds_toArray, List.set_cons_zero, List.set_cons_succ, List.getElem_toArray, List.getElem_cons_zero, List.getElem_cons_succ]
      refine wpAnyH_take (i := 17) (v := ?_) rfl (by kernel_rfl) (by kernel_rfl) (by kernel_rfl) (fun _ _ _ h => h) (Or.inl ⟨by rfl, ?h6_8_6_0_14⟩) (by assumption) ?_
      case h6_8_6_0_14 => (intro w hSw; (try dsimp only at hSw); go_simp; try with_reducible rfl)
      try simp only [Act.put, List.setIfInBounds_toArray, List.set_cons_zero, List.set_cons_succ, List.getElem_toArray, List.getElem_cons_zero, List.getElem_cons_succ]
      refine wpAnyH_take (i := 18) (v := ?_) rfl (by kernel_rfl) (by kernel_rfl) (by kernel_rfl) (fun _ _ _ h => h) (Or.inl ⟨by rfl, ?h6_8_6_0_15⟩) (by assumption) ?_
      case h6_8_6_0_15 => (intro w hSw; (try dsimp only at hSw); go_simp; try with_reducible rfl)
      try simp only [Act.put, List.setIfInBounds_toArray, List.set_cons_zero, List.set_cons_succ, List.getElem_toArray, List.getElem_cons_zero, List.getElem_cons_succ]
      refine wpAnyH_take (i := 19) (v := ?_) rfl (by kernel_rfl) (by kernel_rfl) (by kernel_rfl) (fun _ _ _ h => h) (Or.inl ⟨by rfl, ?h6_8_6_0_16⟩) (by assumption) ?_
      case h6_8_6_0_16 => (intro w hSw; (try dsimp only at hSw); go_simp; try with_reducible rfl)
      try simp only [Act.put, List.setIfInBounds_toArray, List.set_cons_zero, List.set_cons_succ, List.getElem_toArray, List.getElem_cons_zero, List.getElem_cons_succ]
      refine wpAnyH_take (i := 21) (v := ?_) rfl (by kernel_rfl) (by kernel_rfl) (by kernel_rfl) (fun _ _ _ h => h) (Or.inl ⟨by rfl, ?h6_8_6_0_17⟩) (by assumption) ?_
      case h6_8_6_0_17 => (intro w hSw; (try dsimp only at hSw); go_simp; try with_reducible rfl)
      try simp only [Act.put, List.setIfInBounds_toArray, List.set_cons_zero, List.set_cons_succ, List.getElem_toArray, List.getElem_cons_zero, List.getElem_cons_succ]
      refine wpAnyH_take (i := 22) (v := ?_) rfl (by kernel_rfl) (by kernel_rfl) (by kernel_rfl) (fun _ _ _ h => h) (Or.inl ⟨by rfl, ?h6_8_6_0_18⟩) (by assumption) ?_
      case h6_8_6_0_18 => (intro w hSw; (try dsimp only at hSw); go_simp; try with_reducible rfl)
      try simp only [Act.put, List.setIfInBounds_toArray, List.set_cons_zero, List.set_cons_succ, List.getElem_toArray, List.getElem_cons_zero, List.getElem_cons_succ]
      refine wpAnyH_take (i := 23) (v := ?_) rfl (by kernel_rfl) (by kernel_rfl) (by kernel_rfl) (fun _ _ _ h => h) (Or.inl ⟨by rfl, ?h6_8_6_0_19⟩) (by assumption) ?_
      case h6_8_6_0_19 => (intro w hSw; (try dsimp only at hSw); go_simp; try with_reducible rfl)
      try simp only [Act.put, List.setIfInBounds_toArray, List.set_cons_zero, List.set_cons_succ, List.getElem_toArray, List.getElem_cons_zero, List.getElem_cons_succ]
      refine wpAnyH_take (i := 24) (v := ?_) rfl (by kernel_rfl) (by kernel_rfl) (by kernel_rfl) (fun _ _ _ h => h) (Or.inl ⟨by rfl, ?h6_8_6_0_20⟩) (by assumption) ?_
      case h6_8_6_0_20 => (intro w hSw; (try dsimp only at hSw); go_simp; try with_reducible rfl)
      try simp only [Act.put, List.setIfInBounds_toArray, List.set_cons_zero, List.set_cons_succ, List.getElem_toArray, List.getElem_cons_zero, List.getElem_cons_succ]
      refine wpAnyH_ready (rs := [20]) (by kernel_rfl) (by simp) ?_
      refine AllReadyH.cons rfl (fun K hK => ?_) AllReadyH.nil
      go_simp
      (with_reducible refine (find_n H6.out.1.1 HS.out.2.2.2.1).mono ?_)
      rintro e w' ⟨rfl, hw'⟩
      obtain rfl : w6 = w' := hw'.symm
      go_wp2_with fail
      refine hK.out _ _ (by (try dsimp only); go_keep) (fun hHeld2 => ?_)
      clear hK K hHeld
      have hHeld := hHeld2
      clear hHeld2
      try simp only [Act.put, List.setIfInBounds_toArray, List.set_cons_zero, List.set_cons_succ, List.getElem_toArray, List.getElem_cons_zero, List.getElem_cons_succ]
      refine wpAnyH_ready (rs := [25]) (by kernel_rfl) (by simp) ?_
      refine AllReadyH.cons rfl (fun K hK => ?_) AllReadyH.nil
      go_simp
      (with_reducible refine (rfind_any H6.out.1.2 HS.out.2.2.2.1).mono ?_)
      rintro e w7 ⟨rfl, hb7⟩
      have hb47 := H6.out.2.2.1.trans (hb7.mono H6.out.2.2.1.size)
      have g0 := (hb47.cell (p := ⟨rb, 0, none⟩) hr4).trans r0
      have t7 := (hb47.cell (p := ⟨wr.heap.size, 2, none⟩) hnb).trans s2
      have hr7 := Nat.lt_of_lt_of_le hr4 hb47.size
      have HRE := Lib.hid (H6.out.2.2.2.1.below hb7)
      have H7 := Lib.hid (And.intro (H6.out.1.below hb7) (And.intro (H6.out.2.1.trans (hb7.mono H6.out.2.1.size)) (blk_kept H6.out.2.2.2.2 hb7)))
      clear hb7 hb47
      go_wp2_with fail
      refine hK.out _ _ (by (try dsimp only); go_keep) (fun hHeld2 => ?_)
      clear hK K hHeld
      have hHeld := hHeld2
      clear hHeld2
      try simp only [Act.put, List.setIfInBounds_toArray, List.set_cons_zero, List.set_cons_succ, List.getElem_toArray, List.getElem_cons_zero, List.getElem_cons_succ]
      refine wpAnyH_take (i := 26) (v := ?_) rfl (by kernel_rfl) (by kernel_rfl) (by kernel_rfl) (fun _ _ _ h => h) (Or.inl ⟨by rfl, ?h6_8_6_0_21⟩) (by assumption) ?_
      case h6_8_6_0_21 => (intro w hSw; (try dsimp only at hSw); go_simp; try with_reducible rfl)
      try simp only [Act.put, List.setIfInBounds_toArray, List.set_cons_zero, List.set_cons_succ, List.getElem_toArray, List.getElem_cons_zero, List.getElem_cons_succ]
      refine wpAnyH_take (i := 27) (v := ?_) rfl (by kernel_rfl) (by kernel_rfl) (by kernel_rfl) (fun _ _ _ h => h) (Or.inl ⟨by rfl, ?h6_8_6_0_22⟩) (by assumption) ?_
      case h6_8_6_0_22 => (intro w hSw; (try dsimp only at hSw); go_simp; try with_reducible rfl)
      try simp only [Act.put, List.setIfInBounds_toArray, List.set_cons_zero, List.set_cons_succ, List.getElem_toArray, List.getElem_cons_zero, List.getElem_cons_succ]
      refine wpAnyH_done (by kernel_rfl) ?_ _
      clear hHeld
      obtain ⟨te_id, te_sp, te_nm⟩ := te
      have HT := Lib.hid (And.intro HS.out.2.2.2.2.1 HS.out.2.2.2.2.2.1)
      cases tb
      · have hes0 : es' = [] := topB_false HT.out.2
        have hn0 : n = 0 := by rw [← HS.out.2.2.1, hes0]; rfl
        subst hn0
        have hz := HT.out.1
        rw [hes0] at hz
        unfold topE zeroEnt at hz
        simp only [List.getLast?_nil, Option.getD_none, Ent.mk.injEq] at hz
        obtain ⟨rfl, rfl, rfl⟩ := hz
        clear hes0
        go_wp2_with (first
          | (go_at_call 16; (with_reducible refine (top_m H7.out.1.1 HT.out.1 HT.out.2).mono ?_); rintro e w8 ⟨rfl, hb8⟩; have f0 := (hb8.cell (p := ⟨rb, 0, none⟩) hr7).trans g0; have hr8 := Nat.lt_of_lt_of_le hr7 hb8.size; have H8 := Lib.hid (And.intro (H7.out.1.below hb8) (And.intro (H7.out.2.1.trans (hb8.mono H7.out.2.1.size)) (blk_kept H7.out.2.2 hb8))); clear hb8))
        obtain ⟨w9, hw9⟩ : ∃ w9, w8.alloc (.cells #[.int .i64 0, .int .i64 0, .string ⟨#[]⟩] 27) = w9 := ⟨_, rfl⟩
        have hb9 : Below w8.heap.size w8 w9 := by rw [← hw9]; exact (Below.refl _ w8).alloc (Nat.le_refl _) _
        have hx9 : Blk w9 w8.heap.size 27 #[.int .i64 0, .int .i64 0, .string ⟨#[]⟩] := by rw [← hw9]; exact Blk.new w8 27 _
        have x0 := hx9.cell 0 (.int .i64 0) rfl
        have x1 := hx9.cell 1 (.int .i64 0) rfl
        have x2 := hx9.cell 2 (.string ⟨#[]⟩) rfl
        have k0 := (hb9.cell (p := ⟨rb, 0, none⟩) hr8).trans f0
        have hr9 := Nat.lt_of_lt_of_le hr8 hb9.size
        have hbx9 := hx9.lt
        have H9 := Lib.hid (And.intro (H8.out.1.below hb9) (And.intro (H8.out.2.1.trans (hb9.mono H8.out.2.1.size)) (blk_kept H8.out.2.2 hb9)))
        obtain ⟨bx, hbx⟩ : ∃ bx, w8.heap.size = bx := ⟨_, rfl⟩
        rw [hbx] at x0 x1 x2 hbx9
        rw [hw9, hbx]
        clear hw9 hx9 hb9 hbx f0 g0
        refine wp_region_held_drew (S := (fun w' => w'.cell? ⟨rb, 0, none⟩ = some (.slice adr 0 cr) ∧ w'.cell? ⟨bx, 0, none⟩ = some (.int .i64 0) ∧ w'.cell? ⟨bx, 1, none⟩ = some (.int .i64 0) ∧ w'.cell? ⟨bx, 2, none⟩ = some (.string ⟨#[]⟩))) (by kernel_rfl) (by (try dsimp only); go_keep) (fun hHeld => ?_)
        refine wpAnyH_take (i := 0) (v := ?_) rfl (by kernel_rfl) (by kernel_rfl) (by kernel_rfl) (fun _ _ _ h => h) (Or.inl ⟨by rfl, ?h6_11_8_1_1⟩) (by assumption) ?_
        case h6_11_8_1_1 => (intro w hSw; (try dsimp only at hSw); go_simp; try with_reducible rfl)
        try simp only [Act.put, List.setIfInBounds_toArray, List.set_cons_zero, List.set_cons_succ, List.getElem_toArray, List.getElem_cons_zero, List.getElem_cons_succ]
        refine wpAnyH_take (i := 1) (v := ?_) rfl (by kernel_rfl) (by kernel_rfl) (by kernel_rfl) (fun _ _ _ h => h) (Or.inl ⟨by rfl, ?h6_11_8_1_2⟩) (by assumption) ?_
        case h6_11_8_1_2 => (intro w hSw; (try dsimp only at hSw); go_simp; try with_reducible rfl)
        try simp only [Act.put, List.setIfInBounds_toArray, List.set_cons_zero, List.set_cons_succ, List.getElem_toArray, List.getElem_cons_zero, List.getElem_cons_succ]
        refine wpAnyH_take (i := 2) (v := ?_) rfl (by kernel_rfl) (by kernel_rfl) (by kernel_rfl) (fun _ _ _ h => h) (Or.inl ⟨by rfl, ?h6_11_8_1_3⟩) (by assumption) ?_
        case h6_11_8_1_3 => (intro w hSw; (try dsimp only at hSw); go_simp; try with_reducible rfl)
        try simp only [Act.put, List.setIfInBounds_toArray, List.set_cons_zero, List.set_cons_succ, List.getElem_toArray, List.getElem_cons_zero, List.getElem_cons_succ]
        refine wpAnyH_take (i := 3) (v := ?_) rfl (by kernel_rfl) (by kernel_rfl) (by kernel_rfl) (fun _ _ _ h => h) (Or.inl ⟨by rfl, ?h6_11_8_1_4⟩) (by assumption) ?_
        case h6_11_8_1_4 => (intro w hSw; (try dsimp only at hSw); go_simp; try with_reducible rfl)
        try simp only [Act.put, List.setIfInBounds_toArray, List.set_cons_zero, List.set_cons_succ, List.getElem_toArray, List.getElem_cons_zero, List.getElem_cons_succ]
        refine wpAnyH_take (i := 4) (v := ?_) rfl (by kernel_rfl) (by kernel_rfl) (by kernel_rfl) (fun _ _ _ h => h) (Or.inl ⟨by rfl, ?h6_11_8_1_5⟩) (by assumption) ?_
        case h6_11_8_1_5 => (intro w hSw; (try dsimp only at hSw); go_simp; try with_reducible rfl)
        try simp only [Act.put, List.setIfInBounds_toArray, List.set_cons_zero, List.set_cons_succ, List.getElem_toArray, List.getElem_cons_zero, List.getElem_cons_succ]
        refine wpAnyH_take (i := 5) (v := ?_) rfl (by kernel_rfl) (by kernel_rfl) (by kernel_rfl) (fun _ _ _ h => h) (Or.inl ⟨by rfl, ?h6_11_8_1_6⟩) (by assumption) ?_
        case h6_11_8_1_6 => (intro w hSw; (try dsimp only at hSw); go_simp; try with_reducible rfl)
        try simp only [Act.put, List.setIfInBounds_toArray, List.set_cons_zero, List.set_cons_succ, List.getElem_toArray, List.getElem_cons_zero, List.getElem_cons_succ]
        refine wpAnyH_take (i := 6) (v := ?_) rfl (by kernel_rfl) (by kernel_rfl) (by kernel_rfl) (fun _ _ _ h => h) (Or.inl ⟨by rfl, ?h6_11_8_1_7⟩) (by assumption) ?_
        case h6_11_8_1_7 => (intro w hSw; (try dsimp only at hSw); go_simp; try with_reducible rfl)
        try simp only [Act.put, List.setIfInBounds_toArray, List.set_cons_zero, List.set_cons_succ, List.getElem_toArray, List.getElem_cons_zero, List.getElem_cons_succ]
        refine wpAnyH_take (i := 7) (v := ?_) rfl (by kernel_rfl) (by kernel_rfl) (by kernel_rfl) (fun _ _ _ h => h) (Or.inl ⟨by rfl, ?h6_11_8_1_8⟩) (by assumption) ?_
        case h6_11_8_1_8 => (intro w hSw; (try dsimp only at hSw); go_simp; try with_reducible rfl)
        try simp only [Act.put, List.setIfInBounds_toArray, List.set_cons_zero, List.set_cons_succ, List.getElem_toArray, List.getElem_cons_zero, List.getElem_cons_succ]
        refine wpAnyH_take (i := 8) (v := ?_) rfl (by kernel_rfl) (by kernel_rfl) (by kernel_rfl) (fun _ _ _ h => h) (Or.inl ⟨by rfl, ?h6_11_8_1_9⟩) (by assumption) ?_
        case h6_11_8_1_9 => (intro w hSw; (try dsimp only at hSw); go_simp; try with_reducible rfl)
        try simp only [Act.put, List.setIfInBounds_toArray, List.set_cons_zero, List.set_cons_succ, List.getElem_toArray, List.getElem_cons_zero, List.getElem_cons_succ]
        refine wpAnyH_take (i := 9) (v := ?_) rfl (by kernel_rfl) (by kernel_rfl) (by kernel_rfl) (fun _ _ _ h => h) (Or.inl ⟨by rfl, ?h6_11_8_1_10⟩) (by assumption) ?_
        case h6_11_8_1_10 => (intro w hSw; (try dsimp only at hSw); go_simp; try with_reducible rfl)
        try simp only [Act.put, List.setIfInBounds_toArray, List.set_cons_zero, List.set_cons_succ, List.getElem_toArray, List.getElem_cons_zero, List.getElem_cons_succ]
        refine wpAnyH_take (i := 10) (v := ?_) rfl (by kernel_rfl) (by kernel_rfl) (by kernel_rfl) (fun _ _ _ h => h) (Or.inl ⟨by rfl, ?h6_11_8_1_11⟩) (by assumption) ?_
        case h6_11_8_1_11 => (intro w hSw; (try dsimp only at hSw); go_simp; try with_reducible rfl)
        try simp only [Act.put, List.setIfInBounds_toArray, List.set_cons_zero, List.set_cons_succ, List.getElem_toArray, List.getElem_cons_zero, List.getElem_cons_succ]
        refine wpAnyH_take (i := 11) (v := undef) rfl (by kernel_rfl) (by kernel_rfl) (by kernel_rfl) (fun _ _ _ h => h) (Or.inr ⟨by rfl, rfl⟩) (by assumption) ?_
        try simp only [Act.put, List.setIfInBounds_toArray, List.set_cons_zero, List.set_cons_succ, List.getElem_toArray, List.getElem_cons_zero, List.getElem_cons_succ]
        refine wpAnyH_take (i := 12) (v := undef) rfl (by kernel_rfl) (by kernel_rfl) (by kernel_rfl) (fun _ _ _ h => h) (Or.inr ⟨by rfl, rfl⟩) (by assumption) ?_
        try simp only [Act.put, List.setIfInBounds_toArray, List.set_cons_zero, List.set_cons_succ, List.getElem_toArray, List.getElem_cons_zero, List.getElem_cons_succ]
        refine wpAnyH_take (i := 13) (v := undef) rfl (by kernel_rfl) (by kernel_rfl) (by kernel_rfl) (fun _ _ _ h => h) (Or.inr ⟨by rfl, rfl⟩) (by assumption) ?_
        try simp only [Act.put, List.setIfInBounds_toArray, List.set_cons_zero, List.set_cons_succ, List.getElem_toArray, List.getElem_cons_zero, List.getElem_cons_succ]
        refine wpAnyH_take (i := 14) (v := undef) rfl (by kernel_rfl) (by kernel_rfl) (by kernel_rfl) (fun _ _ _ h => h) (Or.inr ⟨by rfl, rfl⟩) (by assumption) ?_
        try simp only [Act.put, List.setIfInBounds_toArray, List.set_cons_zero, List.set_cons_succ, List.getElem_toArray, List.getElem_cons_zero, List.getElem_cons_succ]
        refine wpAnyH_take (i := 15) (v := undef) rfl (by kernel_rfl) (by kernel_rfl) (by kernel_rfl) (fun _ _ _ h => h) (Or.inr ⟨by rfl, rfl⟩) (by assumption) ?_
        try simp only [Act.put, List.setIfInBounds_toArray, List.set_cons_zero, List.set_cons_succ, List.getElem_toArray, List.getElem_cons_zero, List.getElem_cons_succ]
        refine wpAnyH_take (i := 16) (v := undef) rfl (by kernel_rfl) (by kernel_rfl) (by kernel_rfl) (fun _ _ _ h => h) (Or.inr ⟨by rfl, rfl⟩) (by assumption) ?_
        try simp only [Act.put, List.setIfInBounds_toArray, List.set_cons_zero, List.set_cons_succ, List.getElem_toArray, List.getElem_cons_zero, List.getElem_cons_succ]
        refine wpAnyH_take (i := 17) (v := undef) rfl (by kernel_rfl) (by kernel_rfl) (by kernel_rfl) (fun _ _ _ h => h) (Or.inr ⟨by rfl, rfl⟩) (by assumption) ?_
        try simp only [Act.put, List.setIfInBounds_toArray, List.set_cons_zero, List.set_cons_succ, List.getElem_toArray, List.getElem_cons_zero, List.getElem_cons_succ]
        refine wpAnyH_take (i := 18) (v := undef) rfl (by kernel_rfl) (by kernel_rfl) (by kernel_rfl) (fun _ _ _ h => h) (Or.inr ⟨by rfl, rfl⟩) (by assumption) ?_
        try simp only [Act.put, List.setIfInBounds_toArray, List.set_cons_zero, List.set_cons_succ, List.getElem_toArray, List.getElem_cons_zero, List.getElem_cons_succ]
        refine wpAnyH_take (i := 19) (v := undef) rfl (by kernel_rfl) (by kernel_rfl) (by kernel_rfl) (fun _ _ _ h => h) (Or.inr ⟨by rfl, rfl⟩) (by assumption) ?_
        try simp only [Act.put, List.setIfInBounds_toArray, List.set_cons_zero, List.set_cons_succ, List.getElem_toArray, List.getElem_cons_zero, List.getElem_cons_succ]
        refine wpAnyH_take (i := 20) (v := undef) rfl (by kernel_rfl) (by kernel_rfl) (by kernel_rfl) (fun _ _ _ h => h) (Or.inr ⟨by rfl, rfl⟩) (by assumption) ?_
        try simp only [Act.put, List.setIfInBounds_toArray, List.set_cons_zero, List.set_cons_succ, List.getElem_toArray, List.getElem_cons_zero, List.getElem_cons_succ]
        refine wpAnyH_take (i := 21) (v := undef) rfl (by kernel_rfl) (by kernel_rfl) (by kernel_rfl) (fun _ _ _ h => h) (Or.inr ⟨by rfl, rfl⟩) (by assumption) ?_
        try simp only [Act.put, List.setIfInBounds_toArray, List.set_cons_zero, List.set_cons_succ, List.getElem_toArray, List.getElem_cons_zero, List.getElem_cons_succ]
        refine wpAnyH_take (i := 22) (v := undef) rfl (by kernel_rfl) (by kernel_rfl) (by kernel_rfl) (fun _ _ _ h => h) (Or.inr ⟨by rfl, rfl⟩) (by assumption) ?_
        try simp only [Act.put, List.setIfInBounds_toArray, List.set_cons_zero, List.set_cons_succ, List.getElem_toArray, List.getElem_cons_zero, List.getElem_cons_succ]
        refine wpAnyH_take (i := 23) (v := undef) rfl (by kernel_rfl) (by kernel_rfl) (by kernel_rfl) (fun _ _ _ h => h) (Or.inr ⟨by rfl, rfl⟩) (by assumption) ?_
        try simp only [Act.put, List.setIfInBounds_toArray, List.set_cons_zero, List.set_cons_succ, List.getElem_toArray, List.getElem_cons_zero, List.getElem_cons_succ]
        refine wpAnyH_take (i := 24) (v := undef) rfl (by kernel_rfl) (by kernel_rfl) (by kernel_rfl) (fun _ _ _ h => h) (Or.inr ⟨by rfl, rfl⟩) (by assumption) ?_
        try simp only [Act.put, List.setIfInBounds_toArray, List.set_cons_zero, List.set_cons_succ, List.getElem_toArray, List.getElem_cons_zero, List.getElem_cons_succ]
        refine wpAnyH_take (i := 25) (v := undef) rfl (by kernel_rfl) (by kernel_rfl) (by kernel_rfl) (fun _ _ _ h => h) (Or.inr ⟨by rfl, rfl⟩) (by assumption) ?_
        try simp only [Act.put, List.setIfInBounds_toArray, List.set_cons_zero, List.set_cons_succ, List.getElem_toArray, List.getElem_cons_zero, List.getElem_cons_succ]
        refine wpAnyH_take (i := 26) (v := ?_) rfl (by kernel_rfl) (by kernel_rfl) (by kernel_rfl) (fun _ _ _ h => h) (Or.inl ⟨by rfl, ?h6_11_8_1_12⟩) (by assumption) ?_
        case h6_11_8_1_12 => (intro w hSw; (try dsimp only at hSw); go_simp; try with_reducible rfl)
        try simp only [Act.put, List.setIfInBounds_toArray, List.set_cons_zero, List.set_cons_succ, List.getElem_toArray, List.getElem_cons_zero, List.getElem_cons_succ]
        refine wpAnyH_take (i := 27) (v := ?_) rfl (by kernel_rfl) (by kernel_rfl) (by kernel_rfl) (fun _ _ _ h => h) (Or.inl ⟨by rfl, ?h6_11_8_1_13⟩) (by assumption) ?_
        case h6_11_8_1_13 => (intro w hSw; (try dsimp only at hSw); go_simp; try with_reducible rfl)
        try simp only [Act.put, List.setIfInBounds_toArray, List.set_cons_zero, List.set_cons_succ, List.getElem_toArray, List.getElem_cons_zero, List.getElem_cons_succ]
        refine wpAnyH_take (i := 28) (v := ?_) rfl (by kernel_rfl) (by kernel_rfl) (by kernel_rfl) (fun _ _ _ h => h) (Or.inl ⟨by rfl, ?h6_11_8_1_14⟩) (by assumption) ?_
        case h6_11_8_1_14 => (intro w hSw; (try dsimp only at hSw); go_simp; try with_reducible rfl)
        try simp only [Act.put, List.setIfInBounds_toArray, List.set_cons_zero, List.set_cons_succ, List.getElem_toArray, List.getElem_cons_zero, List.getElem_cons_succ]
        refine wpAnyH_take (i := 29) (v := ?_) rfl (by kernel_rfl) (by kernel_rfl) (by kernel_rfl) (fun _ _ _ h => h) (Or.inl ⟨by rfl, ?h6_11_8_1_15⟩) (by assumption) ?_
        case h6_11_8_1_15 => (intro w hSw; (try dsimp only at hSw); go_simp; try with_reducible rfl)
        try simp only [Act.put, List.setIfInBounds_toArray, List.set_cons_zero, List.set_cons_succ, List.getElem_toArray, List.getElem_cons_zero, List.getElem_cons_succ]
        refine wpAnyH_take (i := 30) (v := ?_) rfl (by kernel_rfl) (by kernel_rfl) (by kernel_rfl) (fun _ _ _ h => h) (Or.inl ⟨by rfl, ?h6_11_8_1_16⟩) (by assumption) ?_
        case h6_11_8_1_16 => (intro w hSw; (try dsimp only at hSw); go_simp; try with_reducible rfl)
        try simp only [Act.put, List.setIfInBounds_toArray, List.set_cons_zero, List.set_cons_succ, List.getElem_toArray, List.getElem_cons_zero, List.getElem_cons_succ]
        refine wpAnyH_take (i := 31) (v := ?_) rfl (by kernel_rfl) (by kernel_rfl) (by kernel_rfl) (fun _ _ _ h => h) (Or.inl ⟨by rfl, ?h6_11_8_1_17⟩) (by assumption) ?_
        case h6_11_8_1_17 => (intro w hSw; (try dsimp only at hSw); go_simp; try with_reducible rfl)
        try simp only [Act.put, List.setIfInBounds_toArray, List.set_cons_zero, List.set_cons_succ, List.getElem_toArray, List.getElem_cons_zero, List.getElem_cons_succ]
        refine wpAnyH_take (i := 32) (v := ?_) rfl (by kernel_rfl) (by kernel_rfl) (by kernel_rfl) (fun _ _ _ h => h) (Or.inl ⟨by rfl, ?h6_11_8_1_18⟩) (by assumption) ?_
        case h6_11_8_1_18 => (intro w hSw; (try dsimp only at hSw); go_simp; try with_reducible rfl)
        try simp only [Act.put, List.setIfInBounds_toArray, List.set_cons_zero, List.set_cons_succ, List.getElem_toArray, List.getElem_cons_zero, List.getElem_cons_succ]
        refine wpAnyH_take (i := 33) (v := ?_) rfl (by kernel_rfl) (by kernel_rfl) (by kernel_rfl) (fun _ _ _ h => h) (Or.inl ⟨by rfl, ?h6_11_8_1_19⟩) (by assumption) ?_
        case h6_11_8_1_19 => (intro w hSw; (try dsimp only at hSw); go_simp; try with_reducible rfl)
        try simp only [Act.put, List.setIfInBounds_toArray, List.set_cons_zero, List.set_cons_succ, List.getElem_toArray, List.getElem_cons_zero, List.getElem_cons_succ]
        refine wpAnyH_take (i := 34) (v := ?_) rfl (by kernel_rfl) (by kernel_rfl) (by kernel_rfl) (fun _ _ _ h => h) (Or.inl ⟨by rfl, ?h6_11_8_1_20⟩) (by assumption) ?_
        case h6_11_8_1_20 => (intro w hSw; (try dsimp only at hSw); go_simp; try with_reducible rfl)
        try simp only [Act.put, List.setIfInBounds_toArray, List.set_cons_zero, List.set_cons_succ, List.getElem_toArray, List.getElem_cons_zero, List.getElem_cons_succ]
        refine wpAnyH_take (i := 35) (v := ?_) rfl (by kernel_rfl) (by kernel_rfl) (by kernel_rfl) (fun _ _ _ h => h) (Or.inl ⟨by rfl, ?h6_11_8_1_21⟩) (by assumption) ?_
        case h6_11_8_1_21 => (intro w hSw; (try dsimp only at hSw); go_simp; try with_reducible rfl)
        try simp only [Act.put, List.setIfInBounds_toArray, List.set_cons_zero, List.set_cons_succ, List.getElem_toArray, List.getElem_cons_zero, List.getElem_cons_succ]
        refine wpAnyH_take (i := 36) (v := ?_) rfl (by kernel_rfl) (by kernel_rfl) (by kernel_rfl) (fun _ _ _ h => h) (Or.inl ⟨by rfl, ?h6_11_8_1_22⟩) (by assumption) ?_
        case h6_11_8_1_22 => (intro w hSw; (try dsimp only at hSw); go_simp; try with_reducible rfl)
        try simp only [Act.put, List.setIfInBounds_toArray, List.set_cons_zero, List.set_cons_succ, List.getElem_toArray, List.getElem_cons_zero, List.getElem_cons_succ]
        refine wpAnyH_done (by kernel_rfl) ?_ _
        clear hHeld
        obtain ⟨wb, hwb⟩ : ∃ wb, w9.drew = wb := ⟨_, rfl⟩
        have HBB := Lib.hid (And.intro (H9.out.1.below (dqr w9)) (And.intro (H9.out.2.1.trans ((dqr w9).mono H9.out.2.1.size)) (blk_kept H9.out.2.2 (dqr w9))))
        rw [hwb] at HBB ⊢
        clear hwb
        have u0 := HBB.out.2.2.cell 0 (.string n1) rfl
        have u1 := HBB.out.2.2.cell 1 (.string n2) rfl
        have hul := HBB.out.2.2.lt
        go_wp2_with fail
        refine wp_region_held_drew (S := (fun w' => w'.cell? ⟨w.heap.size, 0, none⟩ = some (.string n1) ∧ w'.cell? ⟨w.heap.size, 1, none⟩ = some (.string n2))) (by kernel_rfl) (by (try dsimp only); go_keep) (fun hHeld => ?_)
        refine wpAnyH_take (i := 0) (v := ?_) rfl (by kernel_rfl) (by kernel_rfl) (by kernel_rfl) (fun _ _ _ h => h) (Or.inl ⟨by rfl, ?h6_13_8_2_1⟩) (by assumption) ?_
        case h6_13_8_2_1 => (intro w hSw; (try dsimp only at hSw); go_simp; try with_reducible rfl)
        try simp only [Act.put, List.setIfInBounds_toArray, List.set_cons_zero, List.set_cons_succ, List.getElem_toArray, List.getElem_cons_zero, List.getElem_cons_succ]
        refine wpAnyH_take (i := 1) (v := ?_) rfl (by kernel_rfl) (by kernel_rfl) (by kernel_rfl) (fun _ _ _ h => h) (Or.inl ⟨by rfl, ?h6_13_8_2_2⟩) (by assumption) ?_
        case h6_13_8_2_2 => (intro w hSw; (try dsimp only at hSw); go_simp; try with_reducible rfl)
        try simp only [Act.put, List.setIfInBounds_toArray, List.set_cons_zero, List.set_cons_succ, List.getElem_toArray, List.getElem_cons_zero, List.getElem_cons_succ]
        refine wpAnyH_take (i := 2) (v := ?_) rfl (by kernel_rfl) (by kernel_rfl) (by kernel_rfl) (fun _ _ _ h => h) (Or.inl ⟨by rfl, ?h6_13_8_2_3⟩) (by assumption) ?_
        case h6_13_8_2_3 => (intro w hSw; (try dsimp only at hSw); go_simp; try with_reducible rfl)
        try simp only [Act.put, List.setIfInBounds_toArray, List.set_cons_zero, List.set_cons_succ, List.getElem_toArray, List.getElem_cons_zero, List.getElem_cons_succ]
        refine wpAnyH_take (i := 3) (v := ?_) rfl (by kernel_rfl) (by kernel_rfl) (by kernel_rfl) (fun _ _ _ h => h) (Or.inl ⟨by rfl, ?h6_13_8_2_4⟩) (by assumption) ?_
        case h6_13_8_2_4 => (intro w hSw; (try dsimp only at hSw); go_simp; try with_reducible rfl)
        try simp only [Act.put, List.setIfInBounds_toArray, List.set_cons_zero, List.set_cons_succ, List.getElem_toArray, List.getElem_cons_zero, List.getElem_cons_succ]
        refine wpAnyH_take (i := 4) (v := ?_) rfl (by kernel_rfl) (by kernel_rfl) (by kernel_rfl) (fun _ _ _ h => h) (Or.inl ⟨by rfl, ?h6_13_8_2_5⟩) (by assumption) ?_
        case h6_13_8_2_5 => (intro w hSw; (try dsimp only at hSw); go_simp; try with_reducible rfl)
        try simp only [Act.put, List.setIfInBounds_toArray, List.set_cons_zero, List.set_cons_succ, List.getElem_toArray, List.getElem_cons_zero, List.getElem_cons_succ]
        refine wpAnyH_take (i := 5) (v := ?_) rfl (by kernel_rfl) (by kernel_rfl) (by kernel_rfl) (fun _ _ _ h => h) (Or.inl ⟨by rfl, ?h6_13_8_2_6⟩) (by assumption) ?_
        case h6_13_8_2_6 => (intro w hSw; (try dsimp only at hSw); go_simp; try with_reducible rfl)
        try simp only [Act.put, List.setIfInBounds_toArray, List.set_cons_zero, List.set_cons_succ, List.getElem_toArray, List.getElem_cons_zero, List.getElem_cons_succ]
        refine wpAnyH_take (i := 8) (v := ?_) rfl (by kernel_rfl) (by kernel_rfl) (by kernel_rfl) (fun _ _ _ h => h) (Or.inl ⟨by rfl, ?h6_13_8_2_7⟩) (by assumption) ?_
        case h6_13_8_2_7 => (intro w hSw; (try dsimp only at hSw); go_simp; try with_reducible rfl)
        try simp only [Act.put, List.setIfInBounds_toArray, List.set_cons_zero, List.set_cons_succ, List.getElem_toArray, List.getElem_cons_zero, List.getElem_cons_succ]
        refine wpAnyH_take (i := 9) (v := ?_) rfl (by kernel_rfl) (by kernel_rfl) (by kernel_rfl) (fun _ _ _ h => h) (Or.inl ⟨by rfl, ?h6_13_8_2_8⟩) (by assumption) ?_
        case h6_13_8_2_8 => (intro w hSw; (try dsimp only at hSw); go_simp; try with_reducible rfl)
        try simp only [Act.put, List.setIfInBounds_toArray, List.set_cons_zero, List.set_cons_succ, List.getElem_toArray, List.getElem_cons_zero, List.getElem_cons_succ]
        refine wpAnyH_take (i := 10) (v := ?_) rfl (by kernel_rfl) (by kernel_rfl) (by kernel_rfl) (fun _ _ _ h => h) (Or.inl ⟨by rfl, ?h6_13_8_2_9⟩) (by assumption) ?_
        case h6_13_8_2_9 => (intro w hSw; (try dsimp only at hSw); go_simp; try with_reducible rfl)
        try simp only [Act.put, List.setIfInBounds_toArray, List.set_cons_zero, List.set_cons_succ, List.getElem_toArray, List.getElem_cons_zero, List.getElem_cons_succ]
        refine wpAnyH_ready (rs := [6]) (by kernel_rfl) (by simp) ?_
        refine AllReadyH.cons rfl (fun K hK => ?_) AllReadyH.nil
        go_simp
        refine hK.out _ _ (by (try dsimp only); go_keep) (fun hHeld2 => ?_)
        clear hK K hHeld
        have hHeld := hHeld2
        clear hHeld2
        try simp only [Act.put, List.setIfInBounds_toArray, List.set_cons_zero, List.set_cons_succ, List.getElem_toArray, List.getElem_cons_zero, List.getElem_cons_succ]
        refine wpAnyH_ready (rs := [7]) (by kernel_rfl) (by simp) ?_
        refine AllReadyH.cons rfl (fun K hK => ?_) AllReadyH.nil
        go_simp
        (with_reducible refine (in_n (HBB.out.1.1.below ((Below.refl _ wb).alloc (Nat.le_refl _) _).drew) (NamesAt.twoD wb n1 n2 9) HS.out.2.2.2.2.2.2).mono ?_)
        rintro e wc ⟨rfl, hbc⟩
        have hbcc := ((Below.refl _ wb).alloc (Nat.le_refl _) (.cells #[.string n1, .string n2] 9)).drew.trans (hbc.mono (by simp))
        have cu0 := (hbcc.cell (p := ⟨w.heap.size, 0, none⟩) hul).trans u0
        have cu1 := (hbcc.cell (p := ⟨w.heap.size, 1, none⟩) hul).trans u1
        have HCC := Lib.hid (And.intro (HBB.out.1.below hbcc) (And.intro (HBB.out.2.1.trans (hbcc.mono HBB.out.2.1.size)) (And.intro (blk_kept HBB.out.2.2 hbcc) hbcc)))
        clear hbc hbcc
        go_wp2_with fail
        refine hK.out _ _ (by (try dsimp only); go_keep) (fun hHeld2 => ?_)
        clear hK K hHeld
        have hHeld := hHeld2
        clear hHeld2
        try simp only [Act.put, List.setIfInBounds_toArray, List.set_cons_zero, List.set_cons_succ, List.getElem_toArray, List.getElem_cons_zero, List.getElem_cons_succ]
        refine wpAnyH_ready (rs := [11]) (by kernel_rfl) (by simp) ?_
        refine AllReadyH.cons rfl (fun K hK => ?_) AllReadyH.nil
        go_simp
        (with_reducible refine (rin_any HCC.out.1.2 (NamesAt.of_blk HCC.out.2.2.1) HS.out.2.2.2.2.2.2).mono ?_)
        rintro e wd ⟨rfl, hbd⟩
        have hbdd := HCC.out.2.2.2.trans (hbd.mono HCC.out.2.2.2.size)
        have du0 := (hbdd.cell (p := ⟨w.heap.size, 0, none⟩) hul).trans u0
        have du1 := (hbdd.cell (p := ⟨w.heap.size, 1, none⟩) hul).trans u1
        have HDD := Lib.hid (And.intro (HCC.out.1.below hbd) (And.intro (HCC.out.2.1.trans (hbd.mono HCC.out.2.1.size)) (blk_kept HCC.out.2.2.1 hbd)))
        clear hbd hbdd
        go_wp2_with fail
        refine hK.out _ _ (by (try dsimp only); go_keep) (fun hHeld2 => ?_)
        clear hK K hHeld
        have hHeld := hHeld2
        clear hHeld2
        try simp only [Act.put, List.setIfInBounds_toArray, List.set_cons_zero, List.set_cons_succ, List.getElem_toArray, List.getElem_cons_zero, List.getElem_cons_succ]
        refine wpAnyH_take (i := 12) (v := ?_) rfl (by kernel_rfl) (by kernel_rfl) (by kernel_rfl) (fun _ _ _ h => h) (Or.inl ⟨by rfl, ?h6_13_8_2_10⟩) (by assumption) ?_
        case h6_13_8_2_10 => (intro w hSw; (try dsimp only at hSw); go_simp; try with_reducible rfl)
        try simp only [Act.put, List.setIfInBounds_toArray, List.set_cons_zero, List.set_cons_succ, List.getElem_toArray, List.getElem_cons_zero, List.getElem_cons_succ]
        refine wpAnyH_done (by kernel_rfl) ?_ _
        clear hHeld
        go_wp2
        go_roundw
        case rel => exact ⟨k + 1, es', by omega, by go_num, Lib.hid ⟨HDD.out.1, HS.out.2.1, HDD.out.2.1, HDD.out.2.2⟩⟩
        case measure => simp [intOf]; omega
      · obtain ⟨q, hq⟩ : ∃ q, n = q + 1 := ⟨n - 1, by have := List.length_pos_iff.2 (topB_true HT.out.2); rw [HS.out.2.2.1] at this; omega⟩
        have hget : es'[q]? = some ⟨te_id, te_sp, te_nm⟩ := by
          have := topE_last (topB_true HT.out.2) HT.out.1
          rwa [HS.out.2.2.1, hq, Nat.add_sub_cancel] at this
        obtain ⟨gr, hadr, hgr, hcr⟩ := HRE.out (topB_true HT.out.2)
        obtain ⟨y0, y1, y2⟩ := hcr q _ hget
        simp only at y0 y1 y2
        have i1 : (0 : Int) ≤ (q : Int) := by omega
        have i2 : (q : Int) < (n : Int) := by omega
        have i3 : IntKind.i64.wrap ((n : Int) - 1) = (q : Int) := by rw [IntWalk.i64_in _ (by omega)]; omega
        have i4 : decide (0 < n) = true := by simp; omega
        have HADR := Lib.hid hadr
        clear hq hget hcr hadr
        rw [HADR.out] at g0
        go_wp2_with (first
          | (go_at_call 16; (with_reducible refine (top_m H7.out.1.1 HT.out.1 HT.out.2).mono ?_); rintro e w8 ⟨rfl, hb8⟩; have f0 := (hb8.cell (p := ⟨rb, 0, none⟩) hr7).trans g0; have hr8 := Nat.lt_of_lt_of_le hr7 hb8.size; have v0 := (hb8.cell (p := ⟨gr, q * 3, none⟩) hgr).trans y0; have v1 := (hb8.cell (p := ⟨gr, q * 3 + 1, none⟩) hgr).trans y1; have v2 := (hb8.cell (p := ⟨gr, q * 3 + 2, none⟩) hgr).trans y2; have hgr8 := Nat.lt_of_lt_of_le hgr hb8.size; have H8 := Lib.hid (And.intro (H7.out.1.below hb8) (And.intro (H7.out.2.1.trans (hb8.mono H7.out.2.1.size)) (blk_kept H7.out.2.2 hb8))); clear hb8))
        obtain ⟨w9, hw9⟩ : ∃ w9, w8.alloc (.cells #[i64 te_id, i64 te_sp, .string te_nm] 27) = w9 := ⟨_, rfl⟩
        have hb9 : Below w8.heap.size w8 w9 := by rw [← hw9]; exact (Below.refl _ w8).alloc (Nat.le_refl _) _
        have hx9 : Blk w9 w8.heap.size 27 #[i64 te_id, i64 te_sp, .string te_nm] := by rw [← hw9]; exact Blk.new w8 27 _
        have x0 := hx9.cell 0 (i64 te_id) rfl
        have x1 := hx9.cell 1 (i64 te_sp) rfl
        have x2 := hx9.cell 2 (.string te_nm) rfl
        have k0 := (hb9.cell (p := ⟨rb, 0, none⟩) hr8).trans f0
        have k1 := (hb9.cell (p := ⟨gr, q * 3, none⟩) hgr8).trans v0
        have k2 := (hb9.cell (p := ⟨gr, q * 3 + 1, none⟩) hgr8).trans v1
        have k3 := (hb9.cell (p := ⟨gr, q * 3 + 2, none⟩) hgr8).trans v2
        have hgr9 := Nat.lt_of_lt_of_le hgr8 hb9.size
        have hr9 := Nat.lt_of_lt_of_le hr8 hb9.size
        have hbx9 := hx9.lt
        have H9 := Lib.hid (And.intro (H8.out.1.below hb9) (And.intro (H8.out.2.1.trans (hb9.mono H8.out.2.1.size)) (blk_kept H8.out.2.2 hb9)))
        obtain ⟨bx, hbx⟩ : ∃ bx, w8.heap.size = bx := ⟨_, rfl⟩
        rw [hbx] at x0 x1 x2 hbx9
        rw [hw9, hbx]
        clear hw9 hx9 hb9 hbx f0 v0 v1 v2 g0 y0 y1 y2
        refine wp_region_held_drew (S := (fun w' => w'.cell? ⟨rb, 0, none⟩ = some (.slice (some ⟨gr, 0, none⟩) n cr) ∧ w'.cell? ⟨bx, 0, none⟩ = some (i64 te_id) ∧ w'.cell? ⟨bx, 1, none⟩ = some (i64 te_sp) ∧ w'.cell? ⟨bx, 2, none⟩ = some (.string te_nm) ∧ w'.cell? ⟨gr, q * 3, none⟩ = some (i64 te_id) ∧ w'.cell? ⟨gr, q * 3 + 1, none⟩ = some (i64 te_sp) ∧ w'.cell? ⟨gr, q * 3 + 2, none⟩ = some (.string te_nm))) (by kernel_rfl) (by (try dsimp only); go_keep) (fun hHeld => ?_)
        refine wpAnyH_take (i := 0) (v := ?_) rfl (by kernel_rfl) (by kernel_rfl) (by kernel_rfl) (fun _ _ _ h => h) (Or.inl ⟨by rfl, ?h6_11_8_3_1⟩) (by assumption) ?_
        case h6_11_8_3_1 => (intro w hSw; (try dsimp only at hSw); go_simp; try with_reducible rfl)
        try simp only [Act.put, List.setIfInBounds_toArray, List.set_cons_zero, List.set_cons_succ, List.getElem_toArray, List.getElem_cons_zero, List.getElem_cons_succ]
        refine wpAnyH_take (i := 1) (v := ?_) rfl (by kernel_rfl) (by kernel_rfl) (by kernel_rfl) (fun _ _ _ h => h) (Or.inl ⟨by rfl, ?h6_11_8_3_2⟩) (by assumption) ?_
        case h6_11_8_3_2 => (intro w hSw; (try dsimp only at hSw); go_simp; try with_reducible rfl)
        try simp only [Act.put, List.setIfInBounds_toArray, List.set_cons_zero, List.set_cons_succ, List.getElem_toArray, List.getElem_cons_zero, List.getElem_cons_succ]
        refine wpAnyH_take (i := 2) (v := ?_) rfl (by kernel_rfl) (by kernel_rfl) (by kernel_rfl) (fun _ _ _ h => h) (Or.inl ⟨by rfl, ?h6_11_8_3_3⟩) (by assumption) ?_
        case h6_11_8_3_3 => (intro w hSw; (try dsimp only at hSw); go_simp; try with_reducible rfl)
        try simp only [Act.put, List.setIfInBounds_toArray, List.set_cons_zero, List.set_cons_succ, List.getElem_toArray, List.getElem_cons_zero, List.getElem_cons_succ]
        refine wpAnyH_take (i := 3) (v := ?_) rfl (by kernel_rfl) (by kernel_rfl) (by kernel_rfl) (fun _ _ _ h => h) (Or.inl ⟨by rfl, ?h6_11_8_3_4⟩) (by assumption) ?_
        case h6_11_8_3_4 => (intro w hSw; (try dsimp only at hSw); go_simp; try with_reducible rfl)
        try simp only [Act.put, List.setIfInBounds_toArray, List.set_cons_zero, List.set_cons_succ, List.getElem_toArray, List.getElem_cons_zero, List.getElem_cons_succ]
        refine wpAnyH_take (i := 4) (v := ?_) rfl (by kernel_rfl) (by kernel_rfl) (by kernel_rfl) (fun _ _ _ h => h) (Or.inl ⟨by rfl, ?h6_11_8_3_5⟩) (by assumption) ?_
        case h6_11_8_3_5 => (intro w hSw; (try dsimp only at hSw); go_simp; try with_reducible rfl)
        try simp only [Act.put, List.setIfInBounds_toArray, List.set_cons_zero, List.set_cons_succ, List.getElem_toArray, List.getElem_cons_zero, List.getElem_cons_succ]
        refine wpAnyH_take (i := 5) (v := ?_) rfl (by kernel_rfl) (by kernel_rfl) (by kernel_rfl) (fun _ _ _ h => h) (Or.inl ⟨by rfl, ?h6_11_8_3_6⟩) (by assumption) ?_
        case h6_11_8_3_6 => (intro w hSw; (try dsimp only at hSw); go_simp; try with_reducible rfl)
        try simp only [Act.put, List.setIfInBounds_toArray, List.set_cons_zero, List.set_cons_succ, List.getElem_toArray, List.getElem_cons_zero, List.getElem_cons_succ]
        refine wpAnyH_take (i := 6) (v := ?_) rfl (by kernel_rfl) (by kernel_rfl) (by kernel_rfl) (fun _ _ _ h => h) (Or.inl ⟨by rfl, ?h6_11_8_3_7⟩) (by assumption) ?_
        case h6_11_8_3_7 => (intro w hSw; (try dsimp only at hSw); go_simp; try with_reducible rfl)
        try simp only [Act.put, List.setIfInBounds_toArray, List.set_cons_zero, List.set_cons_succ, List.getElem_toArray, List.getElem_cons_zero, List.getElem_cons_succ]
        refine wpAnyH_take (i := 7) (v := ?_) rfl (by kernel_rfl) (by kernel_rfl) (by kernel_rfl) (fun _ _ _ h => h) (Or.inl ⟨by rfl, ?h6_11_8_3_8⟩) (by assumption) ?_
        case h6_11_8_3_8 => (intro w hSw; (try dsimp only at hSw); go_simp; try with_reducible rfl)
        try simp only [Act.put, List.setIfInBounds_toArray, List.set_cons_zero, List.set_cons_succ, List.getElem_toArray, List.getElem_cons_zero, List.getElem_cons_succ]
        refine wpAnyH_take (i := 8) (v := ?_) rfl (by kernel_rfl) (by kernel_rfl) (by kernel_rfl) (fun _ _ _ h => h) (Or.inl ⟨by rfl, ?h6_11_8_3_9⟩) (by assumption) ?_
        case h6_11_8_3_9 => (intro w hSw; (try dsimp only at hSw); go_simp; try with_reducible rfl)
        try simp only [Act.put, List.setIfInBounds_toArray, List.set_cons_zero, List.set_cons_succ, List.getElem_toArray, List.getElem_cons_zero, List.getElem_cons_succ]
        refine wpAnyH_take (i := 9) (v := ?_) rfl (by kernel_rfl) (by kernel_rfl) (by kernel_rfl) (fun _ _ _ h => h) (Or.inl ⟨by rfl, ?h6_11_8_3_10⟩) (by assumption) ?_
        case h6_11_8_3_10 => (intro w hSw; (try dsimp only at hSw); go_simp; try with_reducible rfl)
        try simp only [Act.put, List.setIfInBounds_toArray, List.set_cons_zero, List.set_cons_succ, List.getElem_toArray, List.getElem_cons_zero, List.getElem_cons_succ]
        refine wpAnyH_take (i := 10) (v := ?_) rfl (by kernel_rfl) (by kernel_rfl) (by kernel_rfl) (fun _ _ _ h => h) (Or.inl ⟨by rfl, ?h6_11_8_3_11⟩) (by assumption) ?_
        case h6_11_8_3_11 => (intro w hSw; (try dsimp only at hSw); go_simp; try with_reducible rfl)
        try simp only [Act.put, List.setIfInBounds_toArray, List.set_cons_zero, List.set_cons_succ, List.getElem_toArray, List.getElem_cons_zero, List.getElem_cons_succ]
        refine wpAnyH_take (i := 11) (v := ?_) rfl (by kernel_rfl) (by kernel_rfl) (by kernel_rfl) (fun _ _ _ h => h) (Or.inl ⟨by rfl, ?h6_11_8_3_12⟩) (by assumption) ?_
        case h6_11_8_3_12 => (intro w hSw; (try dsimp only at hSw); go_simp; try with_reducible rfl)
        try simp only [Act.put, List.setIfInBounds_toArray, List.set_cons_zero, List.set_cons_succ, List.getElem_toArray, List.getElem_cons_zero, List.getElem_cons_succ]
        refine wpAnyH_take (i := 13) (v := ?_) rfl (by kernel_rfl) (by kernel_rfl) (by kernel_rfl) (fun _ _ _ h => h) (Or.inl ⟨by rfl, ?h6_11_8_3_13⟩) (by assumption) ?_
        case h6_11_8_3_13 => (intro w hSw; (try dsimp only at hSw); go_simp; try with_reducible rfl)
        try simp only [Act.put, List.setIfInBounds_toArray, List.set_cons_zero, List.set_cons_succ, List.getElem_toArray, List.getElem_cons_zero, List.getElem_cons_succ]
        refine wpAnyH_take (i := 14) (v := ?_) rfl (by kernel_rfl) (by kernel_rfl) (by kernel_rfl) (fun _ _ _ h => h) (Or.inl ⟨by rfl, ?h6_11_8_3_14⟩) (by assumption) ?_
        case h6_11_8_3_14 => (intro w hSw; (try dsimp only at hSw); go_simp; try with_reducible rfl)
        try simp only [Act.put, List.setIfInBounds_toArray, List.set_cons_zero, List.set_cons_succ, List.getElem_toArray, List.getElem_cons_zero, List.getElem_cons_succ]
        refine wpAnyH_take (i := 15) (v := ?_) rfl (by kernel_rfl) (by kernel_rfl) (by kernel_rfl) (fun _ _ _ h => h) (Or.inl ⟨by rfl, ?h6_11_8_3_15⟩) (by assumption) ?_
        case h6_11_8_3_15 => (intro w hSw; (try dsimp only at hSw); go_simp; try with_reducible rfl)
        try simp only [Act.put, List.setIfInBounds_toArray, List.set_cons_zero, List.set_cons_succ, List.getElem_toArray, List.getElem_cons_zero, List.getElem_cons_succ]
        refine wpAnyH_take (i := 16) (v := ?_) rfl (by kernel_rfl) (by kernel_rfl) (by kernel_rfl) (fun _ _ _ h => h) (Or.inl ⟨by rfl, ?h6_11_8_3_16⟩) (by assumption) ?_
        case h6_11_8_3_16 => (intro w hSw; (try dsimp only at hSw); go_simp; try with_reducible rfl)
        try simp only [Act.put, List.setIfInBounds_toArray, List.set_cons_zero, List.set_cons_succ, List.getElem_toArray, List.getElem_cons_zero, List.getElem_cons_succ]
        refine wpAnyH_take (i := 17) (v := ?_) rfl (by kernel_rfl) (by kernel_rfl) (by kernel_rfl) (fun _ _ _ h => h) (Or.inl ⟨by rfl, ?h6_11_8_3_17⟩) (by assumption) ?_
        case h6_11_8_3_17 => (intro w hSw; (try dsimp only at hSw); go_simp; try with_reducible rfl)
        try simp only [Act.put, List.setIfInBounds_toArray, List.set_cons_zero, List.set_cons_succ, List.getElem_toArray, List.getElem_cons_zero, List.getElem_cons_succ]
        refine wpAnyH_take (i := 18) (v := ?_) rfl (by kernel_rfl) (by kernel_rfl) (by kernel_rfl) (fun _ _ _ h => h) (Or.inl ⟨by rfl, ?h6_11_8_3_18⟩) (by assumption) ?_
        case h6_11_8_3_18 => (intro w hSw; (try dsimp only at hSw); go_simp; try with_reducible rfl)
        try simp only [Act.put, List.setIfInBounds_toArray, List.set_cons_zero, List.set_cons_succ, List.getElem_toArray, List.getElem_cons_zero, List.getElem_cons_succ]
        refine wpAnyH_take (i := 19) (v := ?_) rfl (by kernel_rfl) (by kernel_rfl) (by kernel_rfl) (fun _ _ _ h => h) (Or.inl ⟨by rfl, ?h6_11_8_3_19⟩) (by assumption) ?_
        case h6_11_8_3_19 => (intro w hSw; (try dsimp only at hSw); go_simp; try with_reducible rfl)
        try simp only [Act.put, List.setIfInBounds_toArray, List.set_cons_zero, List.set_cons_succ, List.getElem_toArray, List.getElem_cons_zero, List.getElem_cons_succ]
        refine wpAnyH_take (i := 20) (v := ?_) rfl (by kernel_rfl) (by kernel_rfl) (by kernel_rfl) (fun _ _ _ h => h) (Or.inl ⟨by rfl, ?h6_11_8_3_20⟩) (by assumption) ?_
        case h6_11_8_3_20 => (intro w hSw; (try dsimp only at hSw); go_simp; try with_reducible rfl)
        try simp only [Act.put, List.setIfInBounds_toArray, List.set_cons_zero, List.set_cons_succ, List.getElem_toArray, List.getElem_cons_zero, List.getElem_cons_succ]
        refine wpAnyH_take (i := 21) (v := ?_) rfl (by kernel_rfl) (by kernel_rfl) (by kernel_rfl) (fun _ _ _ h => h) (Or.inl ⟨by rfl, ?h6_11_8_3_21⟩) (by assumption) ?_
        case h6_11_8_3_21 => (intro w hSw; (try dsimp only at hSw); go_simp; try with_reducible rfl)
        try simp only [Act.put, List.setIfInBounds_toArray, List.set_cons_zero, List.set_cons_succ, List.getElem_toArray, List.getElem_cons_zero, List.getElem_cons_succ]
        refine wpAnyH_take (i := 22) (v := ?_) rfl (by kernel_rfl) (by kernel_rfl) (by kernel_rfl) (fun _ _ _ h => h) (Or.inl ⟨by rfl, ?h6_11_8_3_22⟩) (by assumption) ?_
        case h6_11_8_3_22 => (intro w hSw; (try dsimp only at hSw); go_simp; try with_reducible rfl)
        try simp only [Act.put, List.setIfInBounds_toArray, List.set_cons_zero, List.set_cons_succ, List.getElem_toArray, List.getElem_cons_zero, List.getElem_cons_succ]
        refine wpAnyH_take (i := 23) (v := ?_) rfl (by kernel_rfl) (by kernel_rfl) (by kernel_rfl) (fun _ _ _ h => h) (Or.inl ⟨by rfl, ?h6_11_8_3_23⟩) (by assumption) ?_
        case h6_11_8_3_23 => (intro w hSw; (try dsimp only at hSw); go_simp; try with_reducible rfl)
        try simp only [Act.put, List.setIfInBounds_toArray, List.set_cons_zero, List.set_cons_succ, List.getElem_toArray, List.getElem_cons_zero, List.getElem_cons_succ]
        refine wpAnyH_take (i := 24) (v := ?_) rfl (by kernel_rfl) (by kernel_rfl) (by kernel_rfl) (fun _ _ _ h => h) (Or.inl ⟨by rfl, ?h6_11_8_3_24⟩) (by assumption) ?_
        case h6_11_8_3_24 => (intro w hSw; (try dsimp only at hSw); go_simp; try with_reducible rfl)
        try simp only [Act.put, List.setIfInBounds_toArray, List.set_cons_zero, List.set_cons_succ, List.getElem_toArray, List.getElem_cons_zero, List.getElem_cons_succ]
        refine wpAnyH_ready (rs := [12]) (by kernel_rfl) (by simp) ?_
        refine AllReadyH.cons rfl (fun K hK => ?_) AllReadyH.nil
        go_simp
        (with_reducible refine (ref_any).mono ?_)
        rintro e wa ⟨rfl, hba⟩
        have hb9a := (dqr w9).trans (hba.mono (dqr w9).size)
        have aa0 := (hb9a.cell (p := ⟨rb, 0, none⟩) hr9).trans k0
        have aa1 := (hb9a.cell (p := ⟨bx, 0, none⟩) hbx9).trans x0
        have aa2 := (hb9a.cell (p := ⟨bx, 1, none⟩) hbx9).trans x1
        have aa3 := (hb9a.cell (p := ⟨bx, 2, none⟩) hbx9).trans x2
        have aa4 := (hb9a.cell (p := ⟨gr, q * 3, none⟩) hgr9).trans k1
        have aa5 := (hb9a.cell (p := ⟨gr, q * 3 + 1, none⟩) hgr9).trans k2
        have aa6 := (hb9a.cell (p := ⟨gr, q * 3 + 2, none⟩) hgr9).trans k3
        have HAA := Lib.hid (And.intro (H9.out.1.below hb9a) (And.intro (H9.out.2.1.trans (hb9a.mono H9.out.2.1.size)) (blk_kept H9.out.2.2 hb9a)))
        clear hba hb9a
        go_wp2_with fail
        refine hK.out _ _ (by (try dsimp only); go_keep) (fun hHeld2 => ?_)
        clear hK K hHeld
        have hHeld := hHeld2
        clear hHeld2
        try simp only [Act.put, List.setIfInBounds_toArray, List.set_cons_zero, List.set_cons_succ, List.getElem_toArray, List.getElem_cons_zero, List.getElem_cons_succ]
        refine wpAnyH_take (i := 25) (v := ?_) rfl (by kernel_rfl) (by kernel_rfl) (by kernel_rfl) (fun _ _ _ h => h) (Or.inl ⟨by rfl, ?h6_11_8_3_25⟩) (by assumption) ?_
        case h6_11_8_3_25 => (intro w hSw; (try dsimp only at hSw); go_simp; try with_reducible rfl)
        try simp only [Act.put, List.setIfInBounds_toArray, List.set_cons_zero, List.set_cons_succ, List.getElem_toArray, List.getElem_cons_zero, List.getElem_cons_succ]
        refine wpAnyH_take (i := 26) (v := ?_) rfl (by kernel_rfl) (by kernel_rfl) (by kernel_rfl) (fun _ _ _ h => h) (Or.inl ⟨by rfl, ?h6_11_8_3_26⟩) (by assumption) ?_
        case h6_11_8_3_26 => (intro w hSw; (try dsimp only at hSw); go_simp; try with_reducible rfl)
        try simp only [Act.put, List.setIfInBounds_toArray, List.set_cons_zero, List.set_cons_succ, List.getElem_toArray, List.getElem_cons_zero, List.getElem_cons_succ]
        refine wpAnyH_take (i := 27) (v := ?_) rfl (by kernel_rfl) (by kernel_rfl) (by kernel_rfl) (fun _ _ _ h => h) (Or.inl ⟨by rfl, ?h6_11_8_3_27⟩) (by assumption) ?_
        case h6_11_8_3_27 => (intro w hSw; (try dsimp only at hSw); go_simp; try with_reducible rfl)
        try simp only [Act.put, List.setIfInBounds_toArray, List.set_cons_zero, List.set_cons_succ, List.getElem_toArray, List.getElem_cons_zero, List.getElem_cons_succ]
        refine wpAnyH_take (i := 28) (v := ?_) rfl (by kernel_rfl) (by kernel_rfl) (by kernel_rfl) (fun _ _ _ h => h) (Or.inl ⟨by rfl, ?h6_11_8_3_28⟩) (by assumption) ?_
        case h6_11_8_3_28 => (intro w hSw; (try dsimp only at hSw); go_simp; try with_reducible rfl)
        try simp only [Act.put, List.setIfInBounds_toArray, List.set_cons_zero, List.set_cons_succ, List.getElem_toArray, List.getElem_cons_zero, List.getElem_cons_succ]
        refine wpAnyH_take (i := 29) (v := ?_) rfl (by kernel_rfl) (by kernel_rfl) (by kernel_rfl) (fun _ _ _ h => h) (Or.inl ⟨by rfl, ?h6_11_8_3_29⟩) (by assumption) ?_
        case h6_11_8_3_29 => (intro w hSw; (try dsimp only at hSw); go_simp; try with_reducible rfl)
        try simp only [Act.put, List.setIfInBounds_toArray, List.set_cons_zero, List.set_cons_succ, List.getElem_toArray, List.getElem_cons_zero, List.getElem_cons_succ]
        refine wpAnyH_take (i := 30) (v := ?_) rfl (by kernel_rfl) (by kernel_rfl) (by kernel_rfl) (fun _ _ _ h => h) (Or.inl ⟨by rfl, ?h6_11_8_3_30⟩) (by assumption) ?_
        case h6_11_8_3_30 => (intro w hSw; (try dsimp only at hSw); go_simp; try with_reducible rfl)
        try simp only [Act.put, List.setIfInBounds_toArray, List.set_cons_zero, List.set_cons_succ, List.getElem_toArray, List.getElem_cons_zero, List.getElem_cons_succ]
        refine wpAnyH_take (i := 31) (v := ?_) rfl (by kernel_rfl) (by kernel_rfl) (by kernel_rfl) (fun _ _ _ h => h) (Or.inl ⟨by rfl, ?h6_11_8_3_31⟩) (by assumption) ?_
        case h6_11_8_3_31 => (intro w hSw; (try dsimp only at hSw); go_simp; try with_reducible rfl)
        try simp only [Act.put, List.setIfInBounds_toArray, List.set_cons_zero, List.set_cons_succ, List.getElem_toArray, List.getElem_cons_zero, List.getElem_cons_succ]
        refine wpAnyH_take (i := 32) (v := undef) rfl (by kernel_rfl) (by kernel_rfl) (by kernel_rfl) (fun _ _ _ h => h) (Or.inr ⟨by rfl, rfl⟩) (by assumption) ?_
        try simp only [Act.put, List.setIfInBounds_toArray, List.set_cons_zero, List.set_cons_succ, List.getElem_toArray, List.getElem_cons_zero, List.getElem_cons_succ]
        refine wpAnyH_take (i := 33) (v := undef) rfl (by kernel_rfl) (by kernel_rfl) (by kernel_rfl) (fun _ _ _ h => h) (Or.inr ⟨by rfl, rfl⟩) (by assumption) ?_
        try simp only [Act.put, List.setIfInBounds_toArray, List.set_cons_zero, List.set_cons_succ, List.getElem_toArray, List.getElem_cons_zero, List.getElem_cons_succ]
        refine wpAnyH_take (i := 34) (v := undef) rfl (by kernel_rfl) (by kernel_rfl) (by kernel_rfl) (fun _ _ _ h => h) (Or.inr ⟨by rfl, rfl⟩) (by assumption) ?_
        try simp only [Act.put, List.setIfInBounds_toArray, List.set_cons_zero, List.set_cons_succ, List.getElem_toArray, List.getElem_cons_zero, List.getElem_cons_succ]
        refine wpAnyH_take (i := 35) (v := ?_) rfl (by kernel_rfl) (by kernel_rfl) (by kernel_rfl) (fun _ _ _ h => h) (Or.inl ⟨by rfl, ?h6_11_8_3_32⟩) (by assumption) ?_
        case h6_11_8_3_32 => (intro w hSw; (try dsimp only at hSw); go_simp; try with_reducible rfl)
        try simp only [Act.put, List.setIfInBounds_toArray, List.set_cons_zero, List.set_cons_succ, List.getElem_toArray, List.getElem_cons_zero, List.getElem_cons_succ]
        refine wpAnyH_take (i := 36) (v := ?_) rfl (by kernel_rfl) (by kernel_rfl) (by kernel_rfl) (fun _ _ _ h => h) (Or.inl ⟨by rfl, ?h6_11_8_3_33⟩) (by assumption) ?_
        case h6_11_8_3_33 => (intro w hSw; (try dsimp only at hSw); go_simp; try with_reducible rfl)
        try simp only [Act.put, List.setIfInBounds_toArray, List.set_cons_zero, List.set_cons_succ, List.getElem_toArray, List.getElem_cons_zero, List.getElem_cons_succ]
        refine wpAnyH_done (by kernel_rfl) ?_ _
        clear hHeld
        obtain ⟨wb, hwb⟩ : ∃ wb, wa = wb := ⟨_, rfl⟩
        rw [hwb] at HAA ⊢
        have HBB := HAA
        clear hwb
        have u0 := HBB.out.2.2.cell 0 (.string n1) rfl
        have u1 := HBB.out.2.2.cell 1 (.string n2) rfl
        have hul := HBB.out.2.2.lt
        go_wp2_with fail
        refine wp_region_held_drew (S := (fun w' => w'.cell? ⟨w.heap.size, 0, none⟩ = some (.string n1) ∧ w'.cell? ⟨w.heap.size, 1, none⟩ = some (.string n2))) (by kernel_rfl) (by (try dsimp only); go_keep) (fun hHeld => ?_)
        refine wpAnyH_take (i := 0) (v := ?_) rfl (by kernel_rfl) (by kernel_rfl) (by kernel_rfl) (fun _ _ _ h => h) (Or.inl ⟨by rfl, ?h6_13_8_4_1⟩) (by assumption) ?_
        case h6_13_8_4_1 => (intro w hSw; (try dsimp only at hSw); go_simp; try with_reducible rfl)
        try simp only [Act.put, List.setIfInBounds_toArray, List.set_cons_zero, List.set_cons_succ, List.getElem_toArray, List.getElem_cons_zero, List.getElem_cons_succ]
        refine wpAnyH_take (i := 1) (v := ?_) rfl (by kernel_rfl) (by kernel_rfl) (by kernel_rfl) (fun _ _ _ h => h) (Or.inl ⟨by rfl, ?h6_13_8_4_2⟩) (by assumption) ?_
        case h6_13_8_4_2 => (intro w hSw; (try dsimp only at hSw); go_simp; try with_reducible rfl)
        try simp only [Act.put, List.setIfInBounds_toArray, List.set_cons_zero, List.set_cons_succ, List.getElem_toArray, List.getElem_cons_zero, List.getElem_cons_succ]
        refine wpAnyH_take (i := 2) (v := ?_) rfl (by kernel_rfl) (by kernel_rfl) (by kernel_rfl) (fun _ _ _ h => h) (Or.inl ⟨by rfl, ?h6_13_8_4_3⟩) (by assumption) ?_
        case h6_13_8_4_3 => (intro w hSw; (try dsimp only at hSw); go_simp; try with_reducible rfl)
        try simp only [Act.put, List.setIfInBounds_toArray, List.set_cons_zero, List.set_cons_succ, List.getElem_toArray, List.getElem_cons_zero, List.getElem_cons_succ]
        refine wpAnyH_take (i := 3) (v := ?_) rfl (by kernel_rfl) (by kernel_rfl) (by kernel_rfl) (fun _ _ _ h => h) (Or.inl ⟨by rfl, ?h6_13_8_4_4⟩) (by assumption) ?_
        case h6_13_8_4_4 => (intro w hSw; (try dsimp only at hSw); go_simp; try with_reducible rfl)
        try simp only [Act.put, List.setIfInBounds_toArray, List.set_cons_zero, List.set_cons_succ, List.getElem_toArray, List.getElem_cons_zero, List.getElem_cons_succ]
        refine wpAnyH_take (i := 4) (v := ?_) rfl (by kernel_rfl) (by kernel_rfl) (by kernel_rfl) (fun _ _ _ h => h) (Or.inl ⟨by rfl, ?h6_13_8_4_5⟩) (by assumption) ?_
        case h6_13_8_4_5 => (intro w hSw; (try dsimp only at hSw); go_simp; try with_reducible rfl)
        try simp only [Act.put, List.setIfInBounds_toArray, List.set_cons_zero, List.set_cons_succ, List.getElem_toArray, List.getElem_cons_zero, List.getElem_cons_succ]
        refine wpAnyH_take (i := 5) (v := ?_) rfl (by kernel_rfl) (by kernel_rfl) (by kernel_rfl) (fun _ _ _ h => h) (Or.inl ⟨by rfl, ?h6_13_8_4_6⟩) (by assumption) ?_
        case h6_13_8_4_6 => (intro w hSw; (try dsimp only at hSw); go_simp; try with_reducible rfl)
        try simp only [Act.put, List.setIfInBounds_toArray, List.set_cons_zero, List.set_cons_succ, List.getElem_toArray, List.getElem_cons_zero, List.getElem_cons_succ]
        refine wpAnyH_take (i := 8) (v := ?_) rfl (by kernel_rfl) (by kernel_rfl) (by kernel_rfl) (fun _ _ _ h => h) (Or.inl ⟨by rfl, ?h6_13_8_4_7⟩) (by assumption) ?_
        case h6_13_8_4_7 => (intro w hSw; (try dsimp only at hSw); go_simp; try with_reducible rfl)
        try simp only [Act.put, List.setIfInBounds_toArray, List.set_cons_zero, List.set_cons_succ, List.getElem_toArray, List.getElem_cons_zero, List.getElem_cons_succ]
        refine wpAnyH_take (i := 9) (v := ?_) rfl (by kernel_rfl) (by kernel_rfl) (by kernel_rfl) (fun _ _ _ h => h) (Or.inl ⟨by rfl, ?h6_13_8_4_8⟩) (by assumption) ?_
        case h6_13_8_4_8 => (intro w hSw; (try dsimp only at hSw); go_simp; try with_reducible rfl)
        try simp only [Act.put, List.setIfInBounds_toArray, List.set_cons_zero, List.set_cons_succ, List.getElem_toArray, List.getElem_cons_zero, List.getElem_cons_succ]
        refine wpAnyH_take (i := 10) (v := ?_) rfl (by kernel_rfl) (by kernel_rfl) (by kernel_rfl) (fun _ _ _ h => h) (Or.inl ⟨by rfl, ?h6_13_8_4_9⟩) (by assumption) ?_
        case h6_13_8_4_9 => (intro w hSw; (try dsimp only at hSw); go_simp; try with_reducible rfl)
        try simp only [Act.put, List.setIfInBounds_toArray, List.set_cons_zero, List.set_cons_succ, List.getElem_toArray, List.getElem_cons_zero, List.getElem_cons_succ]
        refine wpAnyH_ready (rs := [6]) (by kernel_rfl) (by simp) ?_
        refine AllReadyH.cons rfl (fun K hK => ?_) AllReadyH.nil
        go_simp
        refine hK.out _ _ (by (try dsimp only); go_keep) (fun hHeld2 => ?_)
        clear hK K hHeld
        have hHeld := hHeld2
        clear hHeld2
        try simp only [Act.put, List.setIfInBounds_toArray, List.set_cons_zero, List.set_cons_succ, List.getElem_toArray, List.getElem_cons_zero, List.getElem_cons_succ]
        refine wpAnyH_ready (rs := [7]) (by kernel_rfl) (by simp) ?_
        refine AllReadyH.cons rfl (fun K hK => ?_) AllReadyH.nil
        go_simp
        (with_reducible refine (in_n (HBB.out.1.1.below ((Below.refl _ wb).alloc (Nat.le_refl _) _).drew) (NamesAt.twoD wb n1 n2 9) HS.out.2.2.2.2.2.2).mono ?_)
        rintro e wc ⟨rfl, hbc⟩
        have hbcc := ((Below.refl _ wb).alloc (Nat.le_refl _) (.cells #[.string n1, .string n2] 9)).drew.trans (hbc.mono (by simp))
        have cu0 := (hbcc.cell (p := ⟨w.heap.size, 0, none⟩) hul).trans u0
        have cu1 := (hbcc.cell (p := ⟨w.heap.size, 1, none⟩) hul).trans u1
        have HCC := Lib.hid (And.intro (HBB.out.1.below hbcc) (And.intro (HBB.out.2.1.trans (hbcc.mono HBB.out.2.1.size)) (And.intro (blk_kept HBB.out.2.2 hbcc) hbcc)))
        clear hbc hbcc
        go_wp2_with fail
        refine hK.out _ _ (by (try dsimp only); go_keep) (fun hHeld2 => ?_)
        clear hK K hHeld
        have hHeld := hHeld2
        clear hHeld2
        try simp only [Act.put, List.setIfInBounds_toArray, List.set_cons_zero, List.set_cons_succ, List.getElem_toArray, List.getElem_cons_zero, List.getElem_cons_succ]
        refine wpAnyH_ready (rs := [11]) (by kernel_rfl) (by simp) ?_
        refine AllReadyH.cons rfl (fun K hK => ?_) AllReadyH.nil
        go_simp
        (with_reducible refine (rin_any HCC.out.1.2 (NamesAt.of_blk HCC.out.2.2.1) HS.out.2.2.2.2.2.2).mono ?_)
        rintro e wd ⟨rfl, hbd⟩
        have hbdd := HCC.out.2.2.2.trans (hbd.mono HCC.out.2.2.2.size)
        have du0 := (hbdd.cell (p := ⟨w.heap.size, 0, none⟩) hul).trans u0
        have du1 := (hbdd.cell (p := ⟨w.heap.size, 1, none⟩) hul).trans u1
        have HDD := Lib.hid (And.intro (HCC.out.1.below hbd) (And.intro (HCC.out.2.1.trans (hbd.mono HCC.out.2.1.size)) (blk_kept HCC.out.2.2.1 hbd)))
        clear hbd hbdd
        go_wp2_with fail
        refine hK.out _ _ (by (try dsimp only); go_keep) (fun hHeld2 => ?_)
        clear hK K hHeld
        have hHeld := hHeld2
        clear hHeld2
        try simp only [Act.put, List.setIfInBounds_toArray, List.set_cons_zero, List.set_cons_succ, List.getElem_toArray, List.getElem_cons_zero, List.getElem_cons_succ]
        refine wpAnyH_take (i := 12) (v := ?_) rfl (by kernel_rfl) (by kernel_rfl) (by kernel_rfl) (fun _ _ _ h => h) (Or.inl ⟨by rfl, ?h6_13_8_4_10⟩) (by assumption) ?_
        case h6_13_8_4_10 => (intro w hSw; (try dsimp only at hSw); go_simp; try with_reducible rfl)
        try simp only [Act.put, List.setIfInBounds_toArray, List.set_cons_zero, List.set_cons_succ, List.getElem_toArray, List.getElem_cons_zero, List.getElem_cons_succ]
        refine wpAnyH_done (by kernel_rfl) ?_ _
        clear hHeld
        go_wp2
        go_roundw
        case rel => exact ⟨k + 1, es', by omega, by go_num, Lib.hid ⟨HDD.out.1, HS.out.2.1, HDD.out.2.1, HDD.out.2.2⟩⟩
        case measure => simp [intOf]; omega
    · go_wp2_with (first | (go_at_call 9; (with_reducible refine (cell_any _).mono ?_); rintro e w9 ⟨rfl, hb9⟩; have H9 := Lib.hid hb9; clear hb9))
      go_ret
      exact ⟨rfl, HK.out.2.2.1.trans (H9.out.mono HK.out.2.2.1.size)⟩

theorem stackSteps_walk {w : World} {v u : Value} {l : List Sp} {scope : Int} {p : ByteArray × ByteArray} (h : StepsAt w v l) (hu : u = .agg #[.string p.1, .string p.2]) : Calls Try.prog 6 #[v, i64 scope, u] w fun e w' => e = .returned (.bool true) ∧ Below w.heap.size w w' := by
  subst hu
  by_cases hb : 230 < l.length
  · exact steps_long h hb
  · exact steps_main h (by omega)

namespace stackSteps
open Go.ChangeShapes Go.WideShapes Go.ChangeAt Go.RowKit Go.Joins Go.Deep
open Go.ChangeMaps (open_string shut_string)
set_option linter.unusedVariables false
set_option maxRecDepth 100000 in
theorem lifted (os : Os) (started : os.Started) (H : Type) (enc : TypeId × Value → H) :
    ReturnsInHanded {} Try.checked os 6 .any (Rows.stackStepsSpec.pre6 enc Try.prog Try.f6 Rows.stackStepsRow.domain false) (Rows.stackStepsSpec.post enc Try.prog Try.f6 false true false false) := by
  refine returnsInHanded_of_change_sized (C := Try.checked) own started (by kernel_rfl) Try.func6
    (ChangeSpec.witness6 (enc := enc) (C := Try.checked) false ⟨#[], #[.slice none 0 0, .int .i64 0, .agg #[.string ByteArray.empty, .string ByteArray.empty]], []⟩ 8 (by kernel_rfl) (by kernel_rfl) (by kernel_rfl) (by kernel_rfl)) ?_
  intro W base args ds gs before hval0 hW hcnd hsz0 _
  have hval : ∀ (j : Nat) t v, Try.f6.params[j]? = some t → args[j]? = some v → Value.okWide Try.prog W .any base t v := hval0
  have hW' := hW
  obtain ⟨p, q, hA0, hV, rfl, hfz, hnd⟩ := hW
  have hA : DataW.TrodAll enc Try.prog W 0 (fun _ => true) true Try.f6.params.toList args.toList ds p := hA0
  rw [Try.params6] at hA hval
  obtain ⟨v0, vs0, d0, ds0, p0, q0, hargs, rfl, rfl, h0, r0⟩ := trodAll_cons hA
  obtain ⟨v1, vs1, d1, ds1, p1, q1, rfl, rfl, rfl, h1, r1⟩ := trodAll_cons r0
  obtain ⟨v2, vs2, d2, ds2, p2, q2, rfl, rfl, rfl, h2, r2⟩ := trodAll_cons r1
  obtain ⟨rfl, rfl, rfl⟩ := trodAll_nil r2
  obtain rfl : args = #[v0, v1, v2] := by cases args; simp_all
  obtain ⟨rfl, rfl⟩ := trodVars_none hV
  have h0k := h0
  have hlt0 : ∀ x ∈ p0, x.block < W.heap.size := fun x hx => by simpa using hW'.lt x (by simp [hx])
  obtain ⟨l0, hl0, hw0⟩ := open_stepsT (hval 0 39 v0 rfl rfl) h0
  obtain ⟨a1, rfl, rfl, rfl, w1⟩ := open_int Try.underlying3 (hval 1 3 v1 rfl rfl) h1
  have h2k := h2
  have hlt2 : ∀ x ∈ p2, x.block < W.heap.size := fun x hx => by simpa using hW'.lt x (by simp [hx])
  obtain ⟨l2, hl2, hw2⟩ := open_pair (hval 2 40 v2 rfl rfl) h2
  clear hA0 hval0 hsz0
  refine (stackSteps_walk hl0 hl2).mono fun e W' ⟨he, bel⟩ => ?_
  subst he
  exact ⟨_, rfl, _, _, _, [], _, [], hW', trodAll_mk1 (shut_bool Try.underlying4 _), (trodAll_cons_mk (Below.trod laid (by kernel_rfl) (of_decide_eq_true (by kernel_rfl)) h0k bel hlt0) (trodAll_cons_mk (shut_int Try.underlying3 w1) (trodAll_cons_mk (Below.trod laid (by kernel_rfl) (of_decide_eq_true (by kernel_rfl)) h2k bel hlt2) trodAll_mk0))), rfl, bel.frame _, fun h => by cases h⟩
theorem over : Rows.stackStepsRow.holds Try.pinned (OpenSpec.ofChange Rows.stackStepsSpec) :=
  OpenClaim.holds_of_wide 6 Try.f6 rfl rfl rfl rfl rfl rfl rfl ⟨rfl, rfl, rfl, rfl, rfl⟩ rfl rfl rfl rfl rfl (by kernel_rfl) Try.func6 (by kernel_rfl)
    (of_decide_eq_true (by kernel_rfl)) (by unfold Func.isWrapper; first | (rw [if_pos (by decide +kernel)]; kernel_rfl) | (rw [if_neg (by decide +kernel)]; exact ⟨rfl, rfl⟩))
    (fun os started H enc _ => lifted os started H enc)
end stackSteps
/-- The row: whatever the input, true. -/
theorem stackSteps_holds : Rows.StackStepsSaid := stackSteps.over


end Go.Proofs.Ytdagjpiakbfjpaa
