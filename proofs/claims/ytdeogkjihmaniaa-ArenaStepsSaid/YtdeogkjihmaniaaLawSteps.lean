/-
  rectolaw11.ArenaSteps returns true for every list of steps.
  Written by an AI agent.
-/
import Derived.Test.YtdeogkjihmaniaaLawMoves
import Derived.Test.YtdeogkjihmaniaaRnodes
import Derived.Deep.DrawnRows
namespace Go.Proofs.Ytdeogkjihmaniaa
open Go.RowKit

theorem kids_none {S : St} (g : Good S) {id : Int} (h : S.is id = false) : S.kids id = [] := by
  show List.filter _ S.row = []
  rw [List.filter_eq_nil_iff]
  intro x hx
  obtain ⟨k, p, rfl, hp⟩ := g.rows x hx
  rw [parN_get hp]
  have := (parP_yes g hp).2
  intro e
  have e' : (p : Int) = id := by simpa using e
  rw [← e'] at h
  unfold St.is at h
  simp at h
  omega
theorem Mod.kidsI_any {l : List It} {S : St} (m : Mod l S) (g : Good S) (id : Int) : Ytdeogkjihmaniaa.kidsI l id = S.kids id := by
  cases hi : S.is id with
  | true =>
    obtain ⟨k, rfl, hk⟩ := St.is_nat hi
    exact m.kidsI hk
  | false =>
    rw [kids_none g hi]
    unfold Ytdeogkjihmaniaa.kidsI getI
    unfold St.is at hi
    by_cases h0 : 0 ≤ id
    · rw [if_pos h0]
      have : l[id.toNat]? = none := by
        rw [List.getElem?_eq_none]
        rw [m.len]
        simp [h0] at hi
        omega
      rw [this]
    · rw [if_neg h0]
theorem kidsA {w : World} {B a : Nat} {S : St} {id : Int} {ks : List Int} (h : Ar w B a S) (g : Good S) (hk : S.kids id = ks) (hl : ks.length ≤ 1000000000) : Calls Try.prog 17 #[ptr a, i64 id] w fun e w' => ∃ v', e = .returned v' ∧ IntsAt w' v' ks ∧ Below w.heap.size w w' := by
  obtain ⟨v, l, h, m⟩ := h
  have := kids_any (id := id) h
  rw [m.kidsI_any g, hk] at this
  refine this.mono ?_
  rintro e w' ⟨v', rfl, q1, q2⟩
  exact ⟨v', rfl, IntsAt.of_own q1 hl, q2⟩
theorem kidsR {w : World} {B rb : Nat} {S : St} {vL vR : Value} {lr : List Ro} {row : List Int} {id : Int} {ks : List Int} (h : RefAt w B rb vL vR lr row) (m : RMod lr row S) (g : Good S) (hk : S.kids id = ks) (hl : ks.length ≤ 1000000000) : Calls Try.prog 24 #[ptr rb, i64 id] w fun e w' => ∃ v', e = .returned v' ∧ IntsAt w' v' ks ∧ Below w.heap.size w w' := by
  have := rkids_any (id := id) h m g
  rw [hk] at this
  refine this.mono ?_
  rintro e w' ⟨v', rfl, q1, q2⟩
  exact ⟨v', rfl, IntsAt.of_own q1 hl, q2⟩
theorem Two.ref {w : World} {B a rb : Nat} {S1 S2 : St} (h : Two w B a rb S1 S2) : ∃ vL vR lr row, RefAt w B rb vL vR lr row ∧ RMod lr row S2 := by
  obtain ⟨_, _, vL, vR, lr, row, _, _, h1, h2, _⟩ := h
  exact ⟨vL, vR, lr, row, h1, h2⟩
/-- The trees of the document's arena. -/
theorem rtree_any {w : World} {B a rb : Nat} {S1 S : St} {ts : List Tr} (h : Two w B a rb S1 S) (g : Good S) (ht : Short S) (hr : treeS S = ts) : Calls Try.prog 26 #[ptr rb, .int .i64 0] w fun e w' => ∃ ad c, e = .returned (.slice ad ts.length c) ∧ TrsR w' (.slice ad ts.length c) ts ∧ Below w.heap.size w w' := by
  obtain ⟨vL, vR, lr, row, h1, m⟩ := h.ref
  obtain ⟨r, hrk, hb⟩ := g.pg.bounded
  obtain ⟨nd, h0, _⟩ := g.root
  have := rnodes_any g ht hrk (fun k hk => by have := hb k (by rw [Good.ps_length]; exact hk); rw [Good.ps_length] at this; exact this) S.l.length 0 (List.getElem?_eq_some_iff.1 h0).1 (Nat.le_add_left _ _) h1 m
  subst hr
  refine this.mono ?_
  rintro e w' ⟨v, rfl, q1, q2⟩
  obtain ⟨ad, c, rfl⟩ := TrsAt.form q1
  exact ⟨ad, c, rfl, TrsR.of q1 (fun _ _ h => AR.of h), q2⟩

theorem dq (w : World) (n : Nat) : Below w.heap.size w (w.drewN n) := below_drewN (Below.refl _ w) n
theorem ris_q {w : World} {B rb : Nat} {vL vR : Value} {l : List Ro} {row : List Int} {S : St} {id : Int} {r : Bool} (h : RefAt w B rb vL vR l row) (m : RMod l row S) (hr : S.is id = r) (n : Nat) : Calls Try.prog 23 #[ptr rb, i64 id] (w.drewN n) fun e w' => e = .returned (.bool r) ∧ w' = w.drewN n :=
  (ris_any (h.below (below_drewN (Below.refl _ w) n)) m hr).mono fun _ _ ⟨h1, h2⟩ => ⟨h1, h2.symm⟩
/-- A step, its outcome by name. -/
theorem does_step2 {w wr : World} {l : List Stp} {k a rb : Nat} {x : Stp} {S : St} (h : Walked w l k a rb wr) (hk : k ≤ 61) (hx : l[k]? = some x) (hs : x.s.size ≤ 50) (hS : stepsOf l (k + 1) = S) :
    Calls Try.prog 21 #[ptr a, ptr rb, .agg #[i64 x.what, i64 x.a, i64 x.b, .string x.s]] wr fun e w' => e = .returned (.bool true) ∧ (Two w' w.heap.size a rb S S ∧ Below w.heap.size w w') ∧ Fr w.heap.size BK wr w' := by
  subst hS
  refine (does_step h hk hx hs).mono ?_
  rintro e w' ⟨rfl, h1, h2⟩
  exact ⟨rfl, ⟨h1.1, h1.2.2⟩, h2⟩
theorem walked_done {w w4 w' : World} {l : List Stp} {k a rb : Nat} {S : St} (hS : stepsOf l (k + 1) = S) (h : Two w4 w.heap.size a rb S S ∧ Below w.heap.size w w4) (hi : Inv S (k + 1)) (hb : Below w4.heap.size w4 w') : Walked w l (k + 1) a rb w' := by
  unfold Walked
  rw [hS]
  exact ⟨h.1.below hb, hi, h.2.trans (hb.mono h.2.size)⟩
/-- Whose kid a number is. -/
theorem whose {S : St} (g : Good S) (id : Int) : (S.is id = false ∧ S.parP id = (0, false)) ∨ (∃ k : Nat, id = k ∧ S.is id = true ∧ S.ps[k]? = some (-1) ∧ S.parP id = (0, false)) ∨ ∃ (k p : Nat), id = k ∧ S.is id = true ∧ S.ps[k]? = some (p : Int) ∧ S.parP id = ((p : Int), true) := by
  cases hi : S.is id with
  | false =>
    left
    refine ⟨rfl, ?_⟩
    have : parN S.ps id = -1 := by
      unfold parN
      unfold St.is at hi
      split
      · rfl
      · rename_i h0
        have h0' : 0 ≤ id := by omega
        simp [h0'] at hi
        rw [List.getD_eq_getElem?_getD, List.getElem?_eq_none (by rw [Good.ps_length]; omega)]; rfl
    unfold St.parP
    rw [if_pos this]
  | true =>
    obtain ⟨k, rfl, hk⟩ := St.is_nat hi
    rcases ps_cases g hk with h | ⟨p, h⟩
    · exact .inr (.inl ⟨k, rfl, rfl, h, parP_no h⟩)
    · exact .inr (.inr ⟨k, p, rfl, rfl, h, (parP_yes g h).1⟩)

theorem steps_long {w : World} {v : Value} {l : List Stp} (h : StepsAt w v l) (hl : longB l = true) : Calls Try.prog 5 #[v] w fun e w' => e = .returned (.bool true) ∧ Below w.heap.size w w' := by
  obtain ⟨ad, c, rfl, _⟩ := id h
  have H := Lib.hid (And.intro h hl)
  clear h hl
  go_enter Try.func5, Try.ntmps5
  go_wp2_with (first
    | (go_at_call 9; refine (new_any _).mono ?_; rintro e w1 ⟨rfl, _, hb⟩; have H1 := Lib.hid hb; clear hb)
    | (go_at_call 19; refine (long_any (H.out.1.below H1.out)).mono ?_; rintro e w2 ⟨rfl, h2⟩; rw [H.out.2]; have H2 := Lib.hid (H1.out.trans (h2.mono H1.out.size)); clear h2)
    | (go_at_call 10; refine (three_any _).mono ?_; rintro e w3 ⟨rfl, h3⟩; have H3 := Lib.hid h3; clear h3))
  go_ret
  exact ⟨rfl, H2.out.trans (H3.out.mono H2.out.size)⟩

set_option maxHeartbeats 16000000 in
set_option maxRecDepth 100000 in
theorem steps_main {w : World} {v : Value} {l : List Stp} (h : StepsAt w v l) (hl : longB l = false) : Calls Try.prog 5 #[v] w fun e w' => e = .returned (.bool true) ∧ Below w.heap.size w w' := by
  obtain ⟨ad, c, rfl, _, hr⟩ := id h
  obtain ⟨m, hm⟩ : ∃ m, l.length = m := ⟨_, rfl⟩
  rw [hm] at h ⊢
  have hm61 : m ≤ 61 := by have := (longB_false hl).1; omega
  have H := Lib.hid (And.intro h hl)
  have HL := Lib.hid (And.intro hm (longB_false hl))
  have HR := Lib.hid hr
  clear h hl hm hr
  go_enter Try.func5, Try.ntmps5
  go_wp2_with (first
    | (go_at_call 9; refine (new_any _).mono ?_; rintro e w1 ⟨rfl, ⟨va, ha⟩, hb⟩; have H1 := Lib.hid (And.intro ha hb); clear ha hb)
    | (go_at_call 19; refine (long_any (H.out.1.below H1.out.2)).mono ?_; rintro e w2 ⟨rfl, h2⟩; rw [H.out.2]; have H2 := Lib.hid (And.intro (H1.out.1.below h2) (H1.out.2.trans (h2.mono H1.out.2.size))); clear h2)
    | (go_at_call 20; refine (rnew_any _).mono ?_; rintro e w3 ⟨rfl, ⟨vL, h3⟩, hb⟩; have H3 := Lib.hid (show Walked w l 0 (w.heap.size + 1) (w2.heap.size + 1) w3 from ⟨two0 (H2.out.1.below hb) h3 H2.out.2.size, inv0, H2.out.2.trans (hb.mono H2.out.2.size)⟩); clear h3 hb))
  obtain ⟨rb, hrb⟩ : ∃ rb, w2.heap.size + 1 = rb := ⟨_, rfl⟩
  rw [hrb] at H3 ⊢
  clear hrb
  go_loopw [6, 7, 8, 9, 25] (fun _ _ _ _ i wr => ∃ k : Nat, k ≤ m ∧ i = i64 k ∧ Hid (Walked w l k (w.heap.size + 1) rb wr)) (fun _ _ _ _ i _ => m - (intOf i).toNat)
  case atStart => exact ⟨0, Nat.zero_le _, rfl, H3⟩
  case round =>
    obtain ⟨k, hk, rfl, HK⟩ := hrel
    by_cases hlt : k < m
    · obtain ⟨⟨what, xa, xb, xs⟩, hx⟩ : ∃ x, l[k]? = some x := ⟨_, List.getElem?_eq_getElem (by rw [HL.out.1]; exact hlt)⟩
      obtain ⟨g, off, had, hg, hc⟩ := HR.out (fun e => by have := HL.out.1; rw [e] at this; simp at this; omega)
      obtain ⟨d0, d1, d2, d3⟩ := hc k _ hx
      have hbel := HK.out.2.2
      have e0 := (hbel.cell (p := ⟨g, off + k * 4, none⟩) hg).trans d0
      have e1 := (hbel.cell (p := ⟨g, off + k * 4 + 1, none⟩) hg).trans d1
      have e2 := (hbel.cell (p := ⟨g, off + k * 4 + 2, none⟩) hg).trans d2
      have e3 := (hbel.cell (p := ⟨g, off + k * 4 + 3, none⟩) hg).trans d3
      simp only at e0 e1 e2 e3
      have HW := Lib.hid (HK.out.below (((Below.refl _ wr).alloc (Nat.le_refl _) (.cells #[i64 what, i64 xa, i64 xb, .string xs] 49)).drew))
      have HBX := Lib.hid (Blk.new wr 49 #[i64 what, i64 xa, i64 xb, .string xs]).drew
      have HX := Lib.hid (And.intro hx (HL.out.2.2 k _ hx))
      have HAD := Lib.hid had
      have hk61 : Hid (k ≤ 61) := Lib.hid (by have := HL.out.2.1; have := HL.out.1; omega)
      obtain ⟨S, hS⟩ : ∃ S, stepsOf l (k + 1) = S := ⟨_, rfl⟩
      obtain ⟨n, hn⟩ : ∃ n, S.l.length = n := ⟨_, rfl⟩
      have HINV : Hid (Inv S (k + 1)) := by
        have := HK.out.2.1.step (x := ⟨what, xa, xb, xs⟩) HX.out.2
        rw [← stepsOf_succ HX.out.1, hS] at this
        exact Lib.hid this
      have HS := Lib.hid (And.intro hS hn)
      have hn6 : n ≤ 600 := by rw [← hn]; exact HINV.out.good.len
      clear hc hx had d0 d1 d2 d3 hbel hS hn
      rw [HAD.out]
      go_wp2_with fail
      refine wp_region_any (by kernel_rfl) ?_
      change wpAny _ _ _ _ _ _ _ (World.drew _)
      refine wpAny_take (i := 0) (v := ?_) rfl (by kernel_rfl) (by kernel_rfl) (by kernel_rfl) (fun _ _ _ h => h) (Or.inl ⟨by rfl, ?h5_8_6_0_1⟩) ?_
      case h5_8_6_0_1 => (intro w; go_simp; try with_reducible rfl)
      try simp only [Act.put, List.setIfInBounds_toArray, List.set_cons_zero, List.set_cons_succ, List.getElem_toArray, List.getElem_cons_zero, List.getElem_cons_succ]
      refine wpAny_take (i := 1) (v := ?_) rfl (by kernel_rfl) (by kernel_rfl) (by kernel_rfl) (fun _ _ _ h => h) (Or.inl ⟨by rfl, ?h5_8_6_0_2⟩) ?_
      case h5_8_6_0_2 => (intro w; go_simp; try with_reducible rfl)
      try simp only [Act.put, List.setIfInBounds_toArray, List.set_cons_zero, List.set_cons_succ, List.getElem_toArray, List.getElem_cons_zero, List.getElem_cons_succ]
      refine wpAny_ready (rs := [2]) (by kernel_rfl) (by simp) ?_
      refine AllReady.cons rfl (fun K hK => ?_) AllReady.nil
      go_simp
      refine hK _ _ ?_
      clear hK K
      try simp only [Act.put, List.setIfInBounds_toArray, List.set_cons_zero, List.set_cons_succ, List.getElem_toArray, List.getElem_cons_zero, List.getElem_cons_succ]
      refine wpAny_ready (rs := [3]) (by kernel_rfl) (by simp) ?_
      refine AllReady.cons rfl (fun K hK => ?_) AllReady.nil
      go_simp
      (with_reducible refine (does_step2 HW.out hk61.out HX.out.1 HX.out.2 HS.out.1).mono ?_)
      rintro e w4 ⟨rfl, h4, hf4⟩
      obtain ⟨vL, vR, lr, row, hr4, hm4⟩ := h4.1.ref
      obtain ⟨adL, cL, rfl⟩ := own_slice hr4.rowL
      have r0 := hr4.blk.cell 0 _ rfl
      have rlt := hr4.blk.lt
      rw [hm4.len.trans HS.out.2] at r0
      have hp4 := hf4.blk HBX.out (.inr rfl)
      have s1 := hp4.cell 1 (i64 xa) rfl
      have H4 := Lib.hid (And.intro h4 (And.intro hp4 (And.intro hr4 hm4)))
      clear h4 hf4 hp4 hr4 hm4 e0 e1 e2 e3
      have r0 : w4.cell? ⟨rb, 0, none⟩ = some (.slice adL n cL) := r0
      refine hK _ _ ?_
      clear hK K
      try simp only [Act.put, List.setIfInBounds_toArray, List.set_cons_zero, List.set_cons_succ, List.getElem_toArray, List.getElem_cons_zero, List.getElem_cons_succ]
      have hHeld : (fun w' => w'.cell? ⟨rb, 0, none⟩ = some (.slice adL n cL)) w4 := by (try dsimp only); go_keep
      refine wpAny_of_held (S := (fun w' => w'.cell? ⟨rb, 0, none⟩ = some (.slice adL n cL))) _ _ _ _ ?_
      refine wpAnyH_take (i := 4) (v := ?_) rfl (by kernel_rfl) (by kernel_rfl) (by kernel_rfl) (fun _ _ _ h => h) (Or.inl ⟨by rfl, ?h5_8_6_0_3⟩) (by assumption) ?_
      case h5_8_6_0_3 => (intro w hSw; (try dsimp only at hSw); go_simp; try with_reducible rfl)
      try simp only [Act.put, List.setIfInBounds_toArray, List.set_cons_zero, List.set_cons_succ, List.getElem_toArray, List.getElem_cons_zero, List.getElem_cons_succ]
      refine wpAnyH_take (i := 5) (v := ?_) rfl (by kernel_rfl) (by kernel_rfl) (by kernel_rfl) (fun _ _ _ h => h) (Or.inl ⟨by rfl, ?h5_8_6_0_4⟩) (by assumption) ?_
      case h5_8_6_0_4 => (intro w hSw; (try dsimp only at hSw); go_simp; try with_reducible rfl)
      try simp only [Act.put, List.setIfInBounds_toArray, List.set_cons_zero, List.set_cons_succ, List.getElem_toArray, List.getElem_cons_zero, List.getElem_cons_succ]
      refine wpAnyH_take (i := 6) (v := ?_) rfl (by kernel_rfl) (by kernel_rfl) (by kernel_rfl) (fun _ _ _ h => h) (Or.inl ⟨by rfl, ?h5_8_6_0_5⟩) (by assumption) ?_
      case h5_8_6_0_5 => (intro w hSw; (try dsimp only at hSw); go_simp; try with_reducible rfl)
      try simp only [Act.put, List.setIfInBounds_toArray, List.set_cons_zero, List.set_cons_succ, List.getElem_toArray, List.getElem_cons_zero, List.getElem_cons_succ]
      refine wpAnyH_take (i := 8) (v := ?_) rfl (by kernel_rfl) (by kernel_rfl) (by kernel_rfl) (fun _ _ _ h => h) (Or.inl ⟨by rfl, ?h5_8_6_0_6⟩) (by assumption) ?_
      case h5_8_6_0_6 => (intro w hSw; (try dsimp only at hSw); go_simp; try with_reducible rfl)
      try simp only [Act.put, List.setIfInBounds_toArray, List.set_cons_zero, List.set_cons_succ, List.getElem_toArray, List.getElem_cons_zero, List.getElem_cons_succ]
      refine wpAnyH_take (i := 9) (v := ?_) rfl (by kernel_rfl) (by kernel_rfl) (by kernel_rfl) (fun _ _ _ h => h) (Or.inl ⟨by rfl, ?h5_8_6_0_7⟩) (by assumption) ?_
      case h5_8_6_0_7 => (intro w hSw; (try dsimp only at hSw); go_simp; try with_reducible rfl)
      try simp only [Act.put, List.setIfInBounds_toArray, List.set_cons_zero, List.set_cons_succ, List.getElem_toArray, List.getElem_cons_zero, List.getElem_cons_succ]
      refine wpAnyH_take (i := 10) (v := ?_) rfl (by kernel_rfl) (by kernel_rfl) (by kernel_rfl) (fun _ _ _ h => h) (Or.inl ⟨by rfl, ?h5_8_6_0_8⟩) (by assumption) ?_
      case h5_8_6_0_8 => (intro w hSw; (try dsimp only at hSw); go_simp; try with_reducible rfl)
      try simp only [Act.put, List.setIfInBounds_toArray, List.set_cons_zero, List.set_cons_succ, List.getElem_toArray, List.getElem_cons_zero, List.getElem_cons_succ]
      refine wpAnyH_take (i := 11) (v := ?_) rfl (by kernel_rfl) (by kernel_rfl) (by kernel_rfl) (fun _ _ _ h => h) (Or.inl ⟨by rfl, ?h5_8_6_0_9⟩) (by assumption) ?_
      case h5_8_6_0_9 => (intro w hSw; (try dsimp only at hSw); go_simp; try with_reducible rfl)
      try simp only [Act.put, List.setIfInBounds_toArray, List.set_cons_zero, List.set_cons_succ, List.getElem_toArray, List.getElem_cons_zero, List.getElem_cons_succ]
      refine wpAnyH_take (i := 12) (v := ?_) rfl (by kernel_rfl) (by kernel_rfl) (by kernel_rfl) (fun _ _ _ h => h) (Or.inl ⟨by rfl, ?h5_8_6_0_10⟩) (by assumption) ?_
      case h5_8_6_0_10 => (intro w hSw; (try dsimp only at hSw); go_simp; try with_reducible rfl)
      try simp only [Act.put, List.setIfInBounds_toArray, List.set_cons_zero, List.set_cons_succ, List.getElem_toArray, List.getElem_cons_zero, List.getElem_cons_succ]
      refine wpAnyH_ready (rs := [7]) (by kernel_rfl) (by simp) ?_
      refine AllReadyH.cons rfl (fun K hK => ?_) AllReadyH.nil
      go_simp
      (with_reducible refine (len_ar H4.out.1.1.ar HS.out.2).mono ?_)
      rintro e w' ⟨rfl, rfl⟩
      go_wp2_with fail
      refine hK.out _ _ (by (try dsimp only); go_keep) (fun hHeld2 => ?_)
      clear hK K hHeld
      have hHeld := hHeld2
      clear hHeld2
      try simp only [Act.put, List.setIfInBounds_toArray, List.set_cons_zero, List.set_cons_succ, List.getElem_toArray, List.getElem_cons_zero, List.getElem_cons_succ]
      refine wpAnyH_take (i := 13) (v := ?_) rfl (by kernel_rfl) (by kernel_rfl) (by kernel_rfl) (fun _ _ _ h => h) (Or.inl ⟨by rfl, ?h5_8_6_0_11⟩) (by assumption) ?_
      case h5_8_6_0_11 => (intro w hSw; (try dsimp only at hSw); go_simp; try with_reducible rfl)
      try simp only [Act.put, List.setIfInBounds_toArray, List.set_cons_zero, List.set_cons_succ, List.getElem_toArray, List.getElem_cons_zero, List.getElem_cons_succ]
      refine wpAnyH_take (i := 14) (v := ?_) rfl (by kernel_rfl) (by kernel_rfl) (by kernel_rfl) (fun _ _ _ h => h) (Or.inl ⟨by rfl, ?h5_8_6_0_12⟩) (by assumption) ?_
      case h5_8_6_0_12 => (intro w hSw; (try dsimp only at hSw); go_simp; try with_reducible rfl)
      try simp only [Act.put, List.setIfInBounds_toArray, List.set_cons_zero, List.set_cons_succ, List.getElem_toArray, List.getElem_cons_zero, List.getElem_cons_succ]
      refine wpAnyH_done (by kernel_rfl) ?_ _
      all_goals
        clear hHeld
        have hnbl : wr.heap.size < w4.heap.size := H4.out.2.1.lt
        obtain ⟨nb, hnb⟩ : ∃ nb, wr.heap.size = nb := ⟨_, rfl⟩
        have HNB := Lib.hid hnb
        rw [hnb] at s1 hnbl ⊢
        clear hnb
        have hg : Good S := HINV.out.good
        have r0 : w4.cell? ⟨rb, 0, none⟩ = some (.slice adL n cL) := r0
        obtain ⟨ks, hks⟩ : ∃ ks, S.kids xa = ks := ⟨_, rfl⟩
        have HGK := Lib.hid (And.intro hg (And.intro hks (show ks.length ≤ 1000000000 by rw [← hks]; exact Nat.le_trans (hg.kids_len _) (by decide))))
        clear hks
        rcases whose hg xa with ⟨hi, hp⟩ | ⟨i, rfl, hi, hps, hp⟩ | ⟨i, q, rfl, hi, hps, hp⟩
        · have HP := Lib.hid (And.intro hi hp)
          clear hi hp hg
          go_wp2_with (first
            | (go_at_call 22; (with_reducible refine (par_ar H4.out.1.1.ar HP.out.2).mono ?_); rintro e w' ⟨rfl, rfl⟩))
          go_quiet (first | (go_at_call 23; exact Calls.quiet_of_same (ris_q H4.out.2.2.1 H4.out.2.2.2 HP.out.1 _)))
          go_wp2_with fail
          refine wp_region_held_drew (S := (fun w' => w'.cell? ⟨nb, 1, none⟩ = some (i64 xa))) (by kernel_rfl) (by (try dsimp only); go_keep) (fun hHeld => ?_)
          refine wpAnyH_take (i := 0) (v := ?_) rfl (by kernel_rfl) (by kernel_rfl) (by kernel_rfl) (fun _ _ _ h => h) (Or.inl ⟨by rfl, ?h5_12_10_1_1⟩) (by assumption) ?_
          case h5_12_10_1_1 => (intro w hSw; (try dsimp only at hSw); go_simp; try with_reducible rfl)
          try simp only [Act.put, List.setIfInBounds_toArray, List.set_cons_zero, List.set_cons_succ, List.getElem_toArray, List.getElem_cons_zero, List.getElem_cons_succ]
          refine wpAnyH_take (i := 1) (v := ?_) rfl (by kernel_rfl) (by kernel_rfl) (by kernel_rfl) (fun _ _ _ h => h) (Or.inl ⟨by rfl, ?h5_12_10_1_2⟩) (by assumption) ?_
          case h5_12_10_1_2 => (intro w hSw; (try dsimp only at hSw); go_simp; try with_reducible rfl)
          try simp only [Act.put, List.setIfInBounds_toArray, List.set_cons_zero, List.set_cons_succ, List.getElem_toArray, List.getElem_cons_zero, List.getElem_cons_succ]
          refine wpAnyH_take (i := 2) (v := ?_) rfl (by kernel_rfl) (by kernel_rfl) (by kernel_rfl) (fun _ _ _ h => h) (Or.inl ⟨by rfl, ?h5_12_10_1_3⟩) (by assumption) ?_
          case h5_12_10_1_3 => (intro w hSw; (try dsimp only at hSw); go_simp; try with_reducible rfl)
          try simp only [Act.put, List.setIfInBounds_toArray, List.set_cons_zero, List.set_cons_succ, List.getElem_toArray, List.getElem_cons_zero, List.getElem_cons_succ]
          refine wpAnyH_take (i := 3) (v := ?_) rfl (by kernel_rfl) (by kernel_rfl) (by kernel_rfl) (fun _ _ _ h => h) (Or.inl ⟨by rfl, ?h5_12_10_1_4⟩) (by assumption) ?_
          case h5_12_10_1_4 => (intro w hSw; (try dsimp only at hSw); go_simp; try with_reducible rfl)
          try simp only [Act.put, List.setIfInBounds_toArray, List.set_cons_zero, List.set_cons_succ, List.getElem_toArray, List.getElem_cons_zero, List.getElem_cons_succ]
          refine wpAnyH_take (i := 4) (v := ?_) rfl (by kernel_rfl) (by kernel_rfl) (by kernel_rfl) (fun _ _ _ h => h) (Or.inl ⟨by rfl, ?h5_12_10_1_5⟩) (by assumption) ?_
          case h5_12_10_1_5 => (intro w hSw; (try dsimp only at hSw); go_simp; try with_reducible rfl)
          try simp only [Act.put, List.setIfInBounds_toArray, List.set_cons_zero, List.set_cons_succ, List.getElem_toArray, List.getElem_cons_zero, List.getElem_cons_succ]
          refine wpAnyH_take (i := 5) (v := ?_) rfl (by kernel_rfl) (by kernel_rfl) (by kernel_rfl) (fun _ _ _ h => h) (Or.inl ⟨by rfl, ?h5_12_10_1_6⟩) (by assumption) ?_
          case h5_12_10_1_6 => (intro w hSw; (try dsimp only at hSw); go_simp; try with_reducible rfl)
          try simp only [Act.put, List.setIfInBounds_toArray, List.set_cons_zero, List.set_cons_succ, List.getElem_toArray, List.getElem_cons_zero, List.getElem_cons_succ]
          refine wpAnyH_take (i := 6) (v := undef) rfl (by kernel_rfl) (by kernel_rfl) (by kernel_rfl) (fun _ _ _ h => h) (Or.inr ⟨by rfl, rfl⟩) (by assumption) ?_
          try simp only [Act.put, List.setIfInBounds_toArray, List.set_cons_zero, List.set_cons_succ, List.getElem_toArray, List.getElem_cons_zero, List.getElem_cons_succ]
          refine wpAnyH_take (i := 7) (v := undef) rfl (by kernel_rfl) (by kernel_rfl) (by kernel_rfl) (fun _ _ _ h => h) (Or.inr ⟨by rfl, rfl⟩) (by assumption) ?_
          try simp only [Act.put, List.setIfInBounds_toArray, List.set_cons_zero, List.set_cons_succ, List.getElem_toArray, List.getElem_cons_zero, List.getElem_cons_succ]
          refine wpAnyH_take (i := 8) (v := undef) rfl (by kernel_rfl) (by kernel_rfl) (by kernel_rfl) (fun _ _ _ h => h) (Or.inr ⟨by rfl, rfl⟩) (by assumption) ?_
          try simp only [Act.put, List.setIfInBounds_toArray, List.set_cons_zero, List.set_cons_succ, List.getElem_toArray, List.getElem_cons_zero, List.getElem_cons_succ]
          refine wpAnyH_take (i := 9) (v := undef) rfl (by kernel_rfl) (by kernel_rfl) (by kernel_rfl) (fun _ _ _ h => h) (Or.inr ⟨by rfl, rfl⟩) (by assumption) ?_
          try simp only [Act.put, List.setIfInBounds_toArray, List.set_cons_zero, List.set_cons_succ, List.getElem_toArray, List.getElem_cons_zero, List.getElem_cons_succ]
          refine wpAnyH_take (i := 10) (v := undef) rfl (by kernel_rfl) (by kernel_rfl) (by kernel_rfl) (fun _ _ _ h => h) (Or.inr ⟨by rfl, rfl⟩) (by assumption) ?_
          try simp only [Act.put, List.setIfInBounds_toArray, List.set_cons_zero, List.set_cons_succ, List.getElem_toArray, List.getElem_cons_zero, List.getElem_cons_succ]
          refine wpAnyH_take (i := 11) (v := undef) rfl (by kernel_rfl) (by kernel_rfl) (by kernel_rfl) (fun _ _ _ h => h) (Or.inr ⟨by rfl, rfl⟩) (by assumption) ?_
          try simp only [Act.put, List.setIfInBounds_toArray, List.set_cons_zero, List.set_cons_succ, List.getElem_toArray, List.getElem_cons_zero, List.getElem_cons_succ]
          refine wpAnyH_take (i := 12) (v := undef) rfl (by kernel_rfl) (by kernel_rfl) (by kernel_rfl) (fun _ _ _ h => h) (Or.inr ⟨by rfl, rfl⟩) (by assumption) ?_
          try simp only [Act.put, List.setIfInBounds_toArray, List.set_cons_zero, List.set_cons_succ, List.getElem_toArray, List.getElem_cons_zero, List.getElem_cons_succ]
          refine wpAnyH_take (i := 13) (v := undef) rfl (by kernel_rfl) (by kernel_rfl) (by kernel_rfl) (fun _ _ _ h => h) (Or.inr ⟨by rfl, rfl⟩) (by assumption) ?_
          try simp only [Act.put, List.setIfInBounds_toArray, List.set_cons_zero, List.set_cons_succ, List.getElem_toArray, List.getElem_cons_zero, List.getElem_cons_succ]
          refine wpAnyH_take (i := 14) (v := undef) rfl (by kernel_rfl) (by kernel_rfl) (by kernel_rfl) (fun _ _ _ h => h) (Or.inr ⟨by rfl, rfl⟩) (by assumption) ?_
          try simp only [Act.put, List.setIfInBounds_toArray, List.set_cons_zero, List.set_cons_succ, List.getElem_toArray, List.getElem_cons_zero, List.getElem_cons_succ]
          refine wpAnyH_take (i := 15) (v := undef) rfl (by kernel_rfl) (by kernel_rfl) (by kernel_rfl) (fun _ _ _ h => h) (Or.inr ⟨by rfl, rfl⟩) (by assumption) ?_
          try simp only [Act.put, List.setIfInBounds_toArray, List.set_cons_zero, List.set_cons_succ, List.getElem_toArray, List.getElem_cons_zero, List.getElem_cons_succ]
          refine wpAnyH_take (i := 16) (v := undef) rfl (by kernel_rfl) (by kernel_rfl) (by kernel_rfl) (fun _ _ _ h => h) (Or.inr ⟨by rfl, rfl⟩) (by assumption) ?_
          try simp only [Act.put, List.setIfInBounds_toArray, List.set_cons_zero, List.set_cons_succ, List.getElem_toArray, List.getElem_cons_zero, List.getElem_cons_succ]
          refine wpAnyH_take (i := 17) (v := ?_) rfl (by kernel_rfl) (by kernel_rfl) (by kernel_rfl) (fun _ _ _ h => h) (Or.inl ⟨by rfl, ?h5_12_10_1_7⟩) (by assumption) ?_
          case h5_12_10_1_7 => (intro w hSw; (try dsimp only at hSw); go_simp; try with_reducible rfl)
          try simp only [Act.put, List.setIfInBounds_toArray, List.set_cons_zero, List.set_cons_succ, List.getElem_toArray, List.getElem_cons_zero, List.getElem_cons_succ]
          refine wpAnyH_take (i := 18) (v := ?_) rfl (by kernel_rfl) (by kernel_rfl) (by kernel_rfl) (fun _ _ _ h => h) (Or.inl ⟨by rfl, ?h5_12_10_1_8⟩) (by assumption) ?_
          case h5_12_10_1_8 => (intro w hSw; (try dsimp only at hSw); go_simp; try with_reducible rfl)
          try simp only [Act.put, List.setIfInBounds_toArray, List.set_cons_zero, List.set_cons_succ, List.getElem_toArray, List.getElem_cons_zero, List.getElem_cons_succ]
          refine wpAnyH_take (i := 19) (v := ?_) rfl (by kernel_rfl) (by kernel_rfl) (by kernel_rfl) (fun _ _ _ h => h) (Or.inl ⟨by rfl, ?h5_12_10_1_9⟩) (by assumption) ?_
          case h5_12_10_1_9 => (intro w hSw; (try dsimp only at hSw); go_simp; try with_reducible rfl)
          try simp only [Act.put, List.setIfInBounds_toArray, List.set_cons_zero, List.set_cons_succ, List.getElem_toArray, List.getElem_cons_zero, List.getElem_cons_succ]
          refine wpAnyH_take (i := 20) (v := ?_) rfl (by kernel_rfl) (by kernel_rfl) (by kernel_rfl) (fun _ _ _ h => h) (Or.inl ⟨by rfl, ?h5_12_10_1_10⟩) (by assumption) ?_
          case h5_12_10_1_10 => (intro w hSw; (try dsimp only at hSw); go_simp; try with_reducible rfl)
          try simp only [Act.put, List.setIfInBounds_toArray, List.set_cons_zero, List.set_cons_succ, List.getElem_toArray, List.getElem_cons_zero, List.getElem_cons_succ]
          refine wpAnyH_take (i := 21) (v := ?_) rfl (by kernel_rfl) (by kernel_rfl) (by kernel_rfl) (fun _ _ _ h => h) (Or.inl ⟨by rfl, ?h5_12_10_1_11⟩) (by assumption) ?_
          case h5_12_10_1_11 => (intro w hSw; (try dsimp only at hSw); go_simp; try with_reducible rfl)
          try simp only [Act.put, List.setIfInBounds_toArray, List.set_cons_zero, List.set_cons_succ, List.getElem_toArray, List.getElem_cons_zero, List.getElem_cons_succ]
          refine wpAnyH_take (i := 22) (v := ?_) rfl (by kernel_rfl) (by kernel_rfl) (by kernel_rfl) (fun _ _ _ h => h) (Or.inl ⟨by rfl, ?h5_12_10_1_12⟩) (by assumption) ?_
          case h5_12_10_1_12 => (intro w hSw; (try dsimp only at hSw); go_simp; try with_reducible rfl)
          try simp only [Act.put, List.setIfInBounds_toArray, List.set_cons_zero, List.set_cons_succ, List.getElem_toArray, List.getElem_cons_zero, List.getElem_cons_succ]
          refine wpAnyH_take (i := 23) (v := ?_) rfl (by kernel_rfl) (by kernel_rfl) (by kernel_rfl) (fun _ _ _ h => h) (Or.inl ⟨by rfl, ?h5_12_10_1_13⟩) (by assumption) ?_
          case h5_12_10_1_13 => (intro w hSw; (try dsimp only at hSw); go_simp; try with_reducible rfl)
          try simp only [Act.put, List.setIfInBounds_toArray, List.set_cons_zero, List.set_cons_succ, List.getElem_toArray, List.getElem_cons_zero, List.getElem_cons_succ]
          refine wpAnyH_take (i := 24) (v := ?_) rfl (by kernel_rfl) (by kernel_rfl) (by kernel_rfl) (fun _ _ _ h => h) (Or.inl ⟨by rfl, ?h5_12_10_1_14⟩) (by assumption) ?_
          case h5_12_10_1_14 => (intro w hSw; (try dsimp only at hSw); go_simp; try with_reducible rfl)
          try simp only [Act.put, List.setIfInBounds_toArray, List.set_cons_zero, List.set_cons_succ, List.getElem_toArray, List.getElem_cons_zero, List.getElem_cons_succ]
          refine wpAnyH_take (i := 25) (v := ?_) rfl (by kernel_rfl) (by kernel_rfl) (by kernel_rfl) (fun _ _ _ h => h) (Or.inl ⟨by rfl, ?h5_12_10_1_15⟩) (by assumption) ?_
          case h5_12_10_1_15 => (intro w hSw; (try dsimp only at hSw); go_simp; try with_reducible rfl)
          try simp only [Act.put, List.setIfInBounds_toArray, List.set_cons_zero, List.set_cons_succ, List.getElem_toArray, List.getElem_cons_zero, List.getElem_cons_succ]
          refine wpAnyH_take (i := 26) (v := ?_) rfl (by kernel_rfl) (by kernel_rfl) (by kernel_rfl) (fun _ _ _ h => h) (Or.inl ⟨by rfl, ?h5_12_10_1_16⟩) (by assumption) ?_
          case h5_12_10_1_16 => (intro w hSw; (try dsimp only at hSw); go_simp; try with_reducible rfl)
          try simp only [Act.put, List.setIfInBounds_toArray, List.set_cons_zero, List.set_cons_succ, List.getElem_toArray, List.getElem_cons_zero, List.getElem_cons_succ]
          refine wpAnyH_take (i := 27) (v := ?_) rfl (by kernel_rfl) (by kernel_rfl) (by kernel_rfl) (fun _ _ _ h => h) (Or.inl ⟨by rfl, ?h5_12_10_1_17⟩) (by assumption) ?_
          case h5_12_10_1_17 => (intro w hSw; (try dsimp only at hSw); go_simp; try with_reducible rfl)
          try simp only [Act.put, List.setIfInBounds_toArray, List.set_cons_zero, List.set_cons_succ, List.getElem_toArray, List.getElem_cons_zero, List.getElem_cons_succ]
          refine wpAnyH_take (i := 28) (v := ?_) rfl (by kernel_rfl) (by kernel_rfl) (by kernel_rfl) (fun _ _ _ h => h) (Or.inl ⟨by rfl, ?h5_12_10_1_18⟩) (by assumption) ?_
          case h5_12_10_1_18 => (intro w hSw; (try dsimp only at hSw); go_simp; try with_reducible rfl)
          try simp only [Act.put, List.setIfInBounds_toArray, List.set_cons_zero, List.set_cons_succ, List.getElem_toArray, List.getElem_cons_zero, List.getElem_cons_succ]
          refine wpAnyH_take (i := 29) (v := ?_) rfl (by kernel_rfl) (by kernel_rfl) (by kernel_rfl) (fun _ _ _ h => h) (Or.inl ⟨by rfl, ?h5_12_10_1_19⟩) (by assumption) ?_
          case h5_12_10_1_19 => (intro w hSw; (try dsimp only at hSw); go_simp; try with_reducible rfl)
          try simp only [Act.put, List.setIfInBounds_toArray, List.set_cons_zero, List.set_cons_succ, List.getElem_toArray, List.getElem_cons_zero, List.getElem_cons_succ]
          refine wpAnyH_take (i := 30) (v := ?_) rfl (by kernel_rfl) (by kernel_rfl) (by kernel_rfl) (fun _ _ _ h => h) (Or.inl ⟨by rfl, ?h5_12_10_1_20⟩) (by assumption) ?_
          case h5_12_10_1_20 => (intro w hSw; (try dsimp only at hSw); go_simp; try with_reducible rfl)
          try simp only [Act.put, List.setIfInBounds_toArray, List.set_cons_zero, List.set_cons_succ, List.getElem_toArray, List.getElem_cons_zero, List.getElem_cons_succ]
          refine wpAnyH_take (i := 32) (v := ?_) rfl (by kernel_rfl) (by kernel_rfl) (by kernel_rfl) (fun _ _ _ h => h) (Or.inl ⟨by rfl, ?h5_12_10_1_21⟩) (by assumption) ?_
          case h5_12_10_1_21 => (intro w hSw; (try dsimp only at hSw); go_simp; try with_reducible rfl)
          try simp only [Act.put, List.setIfInBounds_toArray, List.set_cons_zero, List.set_cons_succ, List.getElem_toArray, List.getElem_cons_zero, List.getElem_cons_succ]
          refine wpAnyH_take (i := 33) (v := ?_) rfl (by kernel_rfl) (by kernel_rfl) (by kernel_rfl) (fun _ _ _ h => h) (Or.inl ⟨by rfl, ?h5_12_10_1_22⟩) (by assumption) ?_
          case h5_12_10_1_22 => (intro w hSw; (try dsimp only at hSw); go_simp; try with_reducible rfl)
          try simp only [Act.put, List.setIfInBounds_toArray, List.set_cons_zero, List.set_cons_succ, List.getElem_toArray, List.getElem_cons_zero, List.getElem_cons_succ]
          refine wpAnyH_take (i := 34) (v := ?_) rfl (by kernel_rfl) (by kernel_rfl) (by kernel_rfl) (fun _ _ _ h => h) (Or.inl ⟨by rfl, ?h5_12_10_1_23⟩) (by assumption) ?_
          case h5_12_10_1_23 => (intro w hSw; (try dsimp only at hSw); go_simp; try with_reducible rfl)
          try simp only [Act.put, List.setIfInBounds_toArray, List.set_cons_zero, List.set_cons_succ, List.getElem_toArray, List.getElem_cons_zero, List.getElem_cons_succ]
          refine wpAnyH_ready (rs := [31]) (by kernel_rfl) (by simp) ?_
          refine AllReadyH.cons rfl (fun K hK => ?_) AllReadyH.nil
          go_simp
          (with_reducible refine (kidsA (Ar.below H4.out.1.1.ar (dq w4 (nq + 1))) HGK.out.1 HGK.out.2.1 HGK.out.2.2).mono ?_)
          rintro e w6 ⟨v6, rfl, h6, hb6⟩
          have hB6 : Below w4.heap.size w4 w6 := (dq w4 (nq + 1)).trans (hb6.mono (dq w4 (nq + 1)).size)
          have t1 := (hB6.cell (p := ⟨nb, 1, none⟩) hnbl).trans s1
          have H6 := Lib.hid (And.intro h6 hB6)
          clear h6 hb6 hB6
          go_wp2_with fail
          refine hK.out _ _ (by (try dsimp only); go_keep) (fun hHeld2 => ?_)
          clear hK K hHeld
          have hHeld := hHeld2
          clear hHeld2
          try simp only [Act.put, List.setIfInBounds_toArray, List.set_cons_zero, List.set_cons_succ, List.getElem_toArray, List.getElem_cons_zero, List.getElem_cons_succ]
          refine wpAnyH_ready (rs := [35]) (by kernel_rfl) (by simp) ?_
          refine AllReadyH.cons rfl (fun K hK => ?_) AllReadyH.nil
          go_simp
          (with_reducible refine (kidsR (H4.out.2.2.1.below H6.out.2) H4.out.2.2.2 HGK.out.1 HGK.out.2.1 HGK.out.2.2).mono ?_)
          rintro e w7 ⟨v7, rfl, h7, hb7⟩
          have hB7 : Below w4.heap.size w4 w7 := H6.out.2.trans (hb7.mono H6.out.2.size)
          have u1 := (hB7.cell (p := ⟨nb, 1, none⟩) hnbl).trans s1
          have H7 := Lib.hid (And.intro h7 (And.intro (H6.out.1.below hb7) hB7))
          clear h7 hb7 hB7
          go_wp2_with fail
          refine hK.out _ _ (by (try dsimp only); go_keep) (fun hHeld2 => ?_)
          clear hK K hHeld
          have hHeld := hHeld2
          clear hHeld2
          try simp only [Act.put, List.setIfInBounds_toArray, List.set_cons_zero, List.set_cons_succ, List.getElem_toArray, List.getElem_cons_zero, List.getElem_cons_succ]
          refine wpAnyH_ready (rs := [36]) (by kernel_rfl) (by simp) ?_
          refine AllReadyH.cons rfl (fun K hK => ?_) AllReadyH.nil
          go_simp
          (with_reducible refine (ints_same H7.out.2.1 H7.out.1).mono ?_)
          rintro e w' ⟨rfl, qd, rfl⟩
          go_wp2_with fail
          refine hK.out _ _ (by (try dsimp only); go_keep) (fun hHeld2 => ?_)
          clear hK K hHeld
          have hHeld := hHeld2
          clear hHeld2
          try simp only [Act.put, List.setIfInBounds_toArray, List.set_cons_zero, List.set_cons_succ, List.getElem_toArray, List.getElem_cons_zero, List.getElem_cons_succ]
          refine wpAnyH_take (i := 37) (v := ?_) rfl (by kernel_rfl) (by kernel_rfl) (by kernel_rfl) (fun _ _ _ h => h) (Or.inl ⟨by rfl, ?h5_12_10_1_24⟩) (by assumption) ?_
          case h5_12_10_1_24 => (intro w hSw; (try dsimp only at hSw); go_simp; try with_reducible rfl)
          try simp only [Act.put, List.setIfInBounds_toArray, List.set_cons_zero, List.set_cons_succ, List.getElem_toArray, List.getElem_cons_zero, List.getElem_cons_succ]
          refine wpAnyH_take (i := 38) (v := ?_) rfl (by kernel_rfl) (by kernel_rfl) (by kernel_rfl) (fun _ _ _ h => h) (Or.inl ⟨by rfl, ?h5_12_10_1_25⟩) (by assumption) ?_
          case h5_12_10_1_25 => (intro w hSw; (try dsimp only at hSw); go_simp; try with_reducible rfl)
          try simp only [Act.put, List.setIfInBounds_toArray, List.set_cons_zero, List.set_cons_succ, List.getElem_toArray, List.getElem_cons_zero, List.getElem_cons_succ]
          refine wpAnyH_done (by kernel_rfl) ?_ _
          clear hHeld
          all_goals go_wp2
          all_goals go_roundw
          all_goals first
            | exact ⟨k + 1, by omega, by go_num, Lib.hid (walked_done HS.out.1 H4.out.1 HINV.out (below_drewN H7.out.2.2 _))⟩
            | (simp [intOf]; omega)
        · have HP := Lib.hid (And.intro hi hp)
          obtain ⟨e, he, hel⟩ := H4.out.2.2.2.ex' (k := i) (by rw [← Good.ps_length]; exact (List.getElem?_eq_some_iff.1 hps).1)
          obtain ⟨gL, cL', hvL, hlc, _, hil, _, hgL, _, _, _, _, _, _, _, _, d6⟩ := H4.out.2.2.1.cells he
          have hpar : e.nd.par = -1 := by
            have : S.ps[i]? = some e.nd.par := by unfold St.ps; rw [List.getElem?_map, hel]; rfl
            rw [hps] at this
            exact (Option.some.inj this).symm
          simp only [Value.slice.injEq] at hvL
          obtain ⟨rfl, _, rfl⟩ := hvL
          have hln : lr.length = n := H4.out.2.2.2.len.trans HS.out.2
          rw [hpar] at d6
          rw [hln] at hil hlc
          clear hi hp hg hps he hel hpar hln
          have z1 : decide ((0 : Int) ≤ -1) = false := by decide
          go_wp2_with (first
            | (go_at_call 22; (with_reducible refine (par_ar H4.out.1.1.ar HP.out.2).mono ?_); rintro e w' ⟨rfl, rfl⟩))
          go_quiet (first | (go_at_call 23; exact Calls.quiet_of_same (ris_q H4.out.2.2.1 H4.out.2.2.2 HP.out.1 _)))
          go_wp2_with fail
          refine wp_region_held_drew (S := (fun w' => w'.cell? ⟨nb, 1, none⟩ = some (i64 i))) (by kernel_rfl) (by (try dsimp only); go_keep) (fun hHeld => ?_)
          refine wpAnyH_take (i := 0) (v := ?_) rfl (by kernel_rfl) (by kernel_rfl) (by kernel_rfl) (fun _ _ _ h => h) (Or.inl ⟨by rfl, ?h5_12_10_2_1⟩) (by assumption) ?_
          case h5_12_10_2_1 => (intro w hSw; (try dsimp only at hSw); go_simp; try with_reducible rfl)
          try simp only [Act.put, List.setIfInBounds_toArray, List.set_cons_zero, List.set_cons_succ, List.getElem_toArray, List.getElem_cons_zero, List.getElem_cons_succ]
          refine wpAnyH_take (i := 1) (v := ?_) rfl (by kernel_rfl) (by kernel_rfl) (by kernel_rfl) (fun _ _ _ h => h) (Or.inl ⟨by rfl, ?h5_12_10_2_2⟩) (by assumption) ?_
          case h5_12_10_2_2 => (intro w hSw; (try dsimp only at hSw); go_simp; try with_reducible rfl)
          try simp only [Act.put, List.setIfInBounds_toArray, List.set_cons_zero, List.set_cons_succ, List.getElem_toArray, List.getElem_cons_zero, List.getElem_cons_succ]
          refine wpAnyH_take (i := 2) (v := ?_) rfl (by kernel_rfl) (by kernel_rfl) (by kernel_rfl) (fun _ _ _ h => h) (Or.inl ⟨by rfl, ?h5_12_10_2_3⟩) (by assumption) ?_
          case h5_12_10_2_3 => (intro w hSw; (try dsimp only at hSw); go_simp; try with_reducible rfl)
          try simp only [Act.put, List.setIfInBounds_toArray, List.set_cons_zero, List.set_cons_succ, List.getElem_toArray, List.getElem_cons_zero, List.getElem_cons_succ]
          refine wpAnyH_take (i := 3) (v := ?_) rfl (by kernel_rfl) (by kernel_rfl) (by kernel_rfl) (fun _ _ _ h => h) (Or.inl ⟨by rfl, ?h5_12_10_2_4⟩) (by assumption) ?_
          case h5_12_10_2_4 => (intro w hSw; (try dsimp only at hSw); go_simp; try with_reducible rfl)
          try simp only [Act.put, List.setIfInBounds_toArray, List.set_cons_zero, List.set_cons_succ, List.getElem_toArray, List.getElem_cons_zero, List.getElem_cons_succ]
          refine wpAnyH_take (i := 4) (v := ?_) rfl (by kernel_rfl) (by kernel_rfl) (by kernel_rfl) (fun _ _ _ h => h) (Or.inl ⟨by rfl, ?h5_12_10_2_5⟩) (by assumption) ?_
          case h5_12_10_2_5 => (intro w hSw; (try dsimp only at hSw); go_simp; try with_reducible rfl)
          try simp only [Act.put, List.setIfInBounds_toArray, List.set_cons_zero, List.set_cons_succ, List.getElem_toArray, List.getElem_cons_zero, List.getElem_cons_succ]
          refine wpAnyH_take (i := 5) (v := ?_) rfl (by kernel_rfl) (by kernel_rfl) (by kernel_rfl) (fun _ _ _ h => h) (Or.inl ⟨by rfl, ?h5_12_10_2_6⟩) (by assumption) ?_
          case h5_12_10_2_6 => (intro w hSw; (try dsimp only at hSw); go_simp; try with_reducible rfl)
          try simp only [Act.put, List.setIfInBounds_toArray, List.set_cons_zero, List.set_cons_succ, List.getElem_toArray, List.getElem_cons_zero, List.getElem_cons_succ]
          refine wpAnyH_take (i := 6) (v := undef) rfl (by kernel_rfl) (by kernel_rfl) (by kernel_rfl) (fun _ _ _ h => h) (Or.inr ⟨by rfl, rfl⟩) (by assumption) ?_
          try simp only [Act.put, List.setIfInBounds_toArray, List.set_cons_zero, List.set_cons_succ, List.getElem_toArray, List.getElem_cons_zero, List.getElem_cons_succ]
          refine wpAnyH_take (i := 7) (v := undef) rfl (by kernel_rfl) (by kernel_rfl) (by kernel_rfl) (fun _ _ _ h => h) (Or.inr ⟨by rfl, rfl⟩) (by assumption) ?_
          try simp only [Act.put, List.setIfInBounds_toArray, List.set_cons_zero, List.set_cons_succ, List.getElem_toArray, List.getElem_cons_zero, List.getElem_cons_succ]
          refine wpAnyH_take (i := 8) (v := undef) rfl (by kernel_rfl) (by kernel_rfl) (by kernel_rfl) (fun _ _ _ h => h) (Or.inr ⟨by rfl, rfl⟩) (by assumption) ?_
          try simp only [Act.put, List.setIfInBounds_toArray, List.set_cons_zero, List.set_cons_succ, List.getElem_toArray, List.getElem_cons_zero, List.getElem_cons_succ]
          refine wpAnyH_take (i := 9) (v := undef) rfl (by kernel_rfl) (by kernel_rfl) (by kernel_rfl) (fun _ _ _ h => h) (Or.inr ⟨by rfl, rfl⟩) (by assumption) ?_
          try simp only [Act.put, List.setIfInBounds_toArray, List.set_cons_zero, List.set_cons_succ, List.getElem_toArray, List.getElem_cons_zero, List.getElem_cons_succ]
          refine wpAnyH_take (i := 10) (v := undef) rfl (by kernel_rfl) (by kernel_rfl) (by kernel_rfl) (fun _ _ _ h => h) (Or.inr ⟨by rfl, rfl⟩) (by assumption) ?_
          try simp only [Act.put, List.setIfInBounds_toArray, List.set_cons_zero, List.set_cons_succ, List.getElem_toArray, List.getElem_cons_zero, List.getElem_cons_succ]
          refine wpAnyH_take (i := 11) (v := undef) rfl (by kernel_rfl) (by kernel_rfl) (by kernel_rfl) (fun _ _ _ h => h) (Or.inr ⟨by rfl, rfl⟩) (by assumption) ?_
          try simp only [Act.put, List.setIfInBounds_toArray, List.set_cons_zero, List.set_cons_succ, List.getElem_toArray, List.getElem_cons_zero, List.getElem_cons_succ]
          refine wpAnyH_take (i := 12) (v := undef) rfl (by kernel_rfl) (by kernel_rfl) (by kernel_rfl) (fun _ _ _ h => h) (Or.inr ⟨by rfl, rfl⟩) (by assumption) ?_
          try simp only [Act.put, List.setIfInBounds_toArray, List.set_cons_zero, List.set_cons_succ, List.getElem_toArray, List.getElem_cons_zero, List.getElem_cons_succ]
          refine wpAnyH_take (i := 13) (v := undef) rfl (by kernel_rfl) (by kernel_rfl) (by kernel_rfl) (fun _ _ _ h => h) (Or.inr ⟨by rfl, rfl⟩) (by assumption) ?_
          try simp only [Act.put, List.setIfInBounds_toArray, List.set_cons_zero, List.set_cons_succ, List.getElem_toArray, List.getElem_cons_zero, List.getElem_cons_succ]
          refine wpAnyH_take (i := 14) (v := undef) rfl (by kernel_rfl) (by kernel_rfl) (by kernel_rfl) (fun _ _ _ h => h) (Or.inr ⟨by rfl, rfl⟩) (by assumption) ?_
          try simp only [Act.put, List.setIfInBounds_toArray, List.set_cons_zero, List.set_cons_succ, List.getElem_toArray, List.getElem_cons_zero, List.getElem_cons_succ]
          refine wpAnyH_take (i := 15) (v := undef) rfl (by kernel_rfl) (by kernel_rfl) (by kernel_rfl) (fun _ _ _ h => h) (Or.inr ⟨by rfl, rfl⟩) (by assumption) ?_
          try simp only [Act.put, List.setIfInBounds_toArray, List.set_cons_zero, List.set_cons_succ, List.getElem_toArray, List.getElem_cons_zero, List.getElem_cons_succ]
          refine wpAnyH_take (i := 16) (v := undef) rfl (by kernel_rfl) (by kernel_rfl) (by kernel_rfl) (fun _ _ _ h => h) (Or.inr ⟨by rfl, rfl⟩) (by assumption) ?_
          try simp only [Act.put, List.setIfInBounds_toArray, List.set_cons_zero, List.set_cons_succ, List.getElem_toArray, List.getElem_cons_zero, List.getElem_cons_succ]
          refine wpAnyH_take (i := 17) (v := ?_) rfl (by kernel_rfl) (by kernel_rfl) (by kernel_rfl) (fun _ _ _ h => h) (Or.inl ⟨by rfl, ?h5_12_10_2_7⟩) (by assumption) ?_
          case h5_12_10_2_7 => (intro w hSw; (try dsimp only at hSw); go_simp; try with_reducible rfl)
          try simp only [Act.put, List.setIfInBounds_toArray, List.set_cons_zero, List.set_cons_succ, List.getElem_toArray, List.getElem_cons_zero, List.getElem_cons_succ]
          refine wpAnyH_take (i := 18) (v := ?_) rfl (by kernel_rfl) (by kernel_rfl) (by kernel_rfl) (fun _ _ _ h => h) (Or.inl ⟨by rfl, ?h5_12_10_2_8⟩) (by assumption) ?_
          case h5_12_10_2_8 => (intro w hSw; (try dsimp only at hSw); go_simp; try with_reducible rfl)
          try simp only [Act.put, List.setIfInBounds_toArray, List.set_cons_zero, List.set_cons_succ, List.getElem_toArray, List.getElem_cons_zero, List.getElem_cons_succ]
          refine wpAnyH_take (i := 19) (v := ?_) rfl (by kernel_rfl) (by kernel_rfl) (by kernel_rfl) (fun _ _ _ h => h) (Or.inl ⟨by rfl, ?h5_12_10_2_9⟩) (by assumption) ?_
          case h5_12_10_2_9 => (intro w hSw; (try dsimp only at hSw); go_simp; try with_reducible rfl)
          try simp only [Act.put, List.setIfInBounds_toArray, List.set_cons_zero, List.set_cons_succ, List.getElem_toArray, List.getElem_cons_zero, List.getElem_cons_succ]
          refine wpAnyH_take (i := 20) (v := ?_) rfl (by kernel_rfl) (by kernel_rfl) (by kernel_rfl) (fun _ _ _ h => h) (Or.inl ⟨by rfl, ?h5_12_10_2_10⟩) (by assumption) ?_
          case h5_12_10_2_10 => (intro w hSw; (try dsimp only at hSw); go_simp; try with_reducible rfl)
          try simp only [Act.put, List.setIfInBounds_toArray, List.set_cons_zero, List.set_cons_succ, List.getElem_toArray, List.getElem_cons_zero, List.getElem_cons_succ]
          refine wpAnyH_take (i := 21) (v := ?_) rfl (by kernel_rfl) (by kernel_rfl) (by kernel_rfl) (fun _ _ _ h => h) (Or.inl ⟨by rfl, ?h5_12_10_2_11⟩) (by assumption) ?_
          case h5_12_10_2_11 => (intro w hSw; (try dsimp only at hSw); go_simp; try with_reducible rfl)
          try simp only [Act.put, List.setIfInBounds_toArray, List.set_cons_zero, List.set_cons_succ, List.getElem_toArray, List.getElem_cons_zero, List.getElem_cons_succ]
          refine wpAnyH_take (i := 22) (v := ?_) rfl (by kernel_rfl) (by kernel_rfl) (by kernel_rfl) (fun _ _ _ h => h) (Or.inl ⟨by rfl, ?h5_12_10_2_12⟩) (by assumption) ?_
          case h5_12_10_2_12 => (intro w hSw; (try dsimp only at hSw); go_simp; try with_reducible rfl)
          try simp only [Act.put, List.setIfInBounds_toArray, List.set_cons_zero, List.set_cons_succ, List.getElem_toArray, List.getElem_cons_zero, List.getElem_cons_succ]
          refine wpAnyH_take (i := 23) (v := ?_) rfl (by kernel_rfl) (by kernel_rfl) (by kernel_rfl) (fun _ _ _ h => h) (Or.inl ⟨by rfl, ?h5_12_10_2_13⟩) (by assumption) ?_
          case h5_12_10_2_13 => (intro w hSw; (try dsimp only at hSw); go_simp; try with_reducible rfl)
          try simp only [Act.put, List.setIfInBounds_toArray, List.set_cons_zero, List.set_cons_succ, List.getElem_toArray, List.getElem_cons_zero, List.getElem_cons_succ]
          refine wpAnyH_take (i := 24) (v := ?_) rfl (by kernel_rfl) (by kernel_rfl) (by kernel_rfl) (fun _ _ _ h => h) (Or.inl ⟨by rfl, ?h5_12_10_2_14⟩) (by assumption) ?_
          case h5_12_10_2_14 => (intro w hSw; (try dsimp only at hSw); go_simp; try with_reducible rfl)
          try simp only [Act.put, List.setIfInBounds_toArray, List.set_cons_zero, List.set_cons_succ, List.getElem_toArray, List.getElem_cons_zero, List.getElem_cons_succ]
          refine wpAnyH_take (i := 25) (v := ?_) rfl (by kernel_rfl) (by kernel_rfl) (by kernel_rfl) (fun _ _ _ h => h) (Or.inl ⟨by rfl, ?h5_12_10_2_15⟩) (by assumption) ?_
          case h5_12_10_2_15 => (intro w hSw; (try dsimp only at hSw); go_simp; try with_reducible rfl)
          try simp only [Act.put, List.setIfInBounds_toArray, List.set_cons_zero, List.set_cons_succ, List.getElem_toArray, List.getElem_cons_zero, List.getElem_cons_succ]
          refine wpAnyH_take (i := 26) (v := ?_) rfl (by kernel_rfl) (by kernel_rfl) (by kernel_rfl) (fun _ _ _ h => h) (Or.inl ⟨by rfl, ?h5_12_10_2_16⟩) (by assumption) ?_
          case h5_12_10_2_16 => (intro w hSw; (try dsimp only at hSw); go_simp; try with_reducible rfl)
          try simp only [Act.put, List.setIfInBounds_toArray, List.set_cons_zero, List.set_cons_succ, List.getElem_toArray, List.getElem_cons_zero, List.getElem_cons_succ]
          refine wpAnyH_take (i := 27) (v := ?_) rfl (by kernel_rfl) (by kernel_rfl) (by kernel_rfl) (fun _ _ _ h => h) (Or.inl ⟨by rfl, ?h5_12_10_2_17⟩) (by assumption) ?_
          case h5_12_10_2_17 => (intro w hSw; (try dsimp only at hSw); go_simp; try with_reducible rfl)
          try simp only [Act.put, List.setIfInBounds_toArray, List.set_cons_zero, List.set_cons_succ, List.getElem_toArray, List.getElem_cons_zero, List.getElem_cons_succ]
          refine wpAnyH_take (i := 28) (v := ?_) rfl (by kernel_rfl) (by kernel_rfl) (by kernel_rfl) (fun _ _ _ h => h) (Or.inl ⟨by rfl, ?h5_12_10_2_18⟩) (by assumption) ?_
          case h5_12_10_2_18 => (intro w hSw; (try dsimp only at hSw); go_simp; try with_reducible rfl)
          try simp only [Act.put, List.setIfInBounds_toArray, List.set_cons_zero, List.set_cons_succ, List.getElem_toArray, List.getElem_cons_zero, List.getElem_cons_succ]
          refine wpAnyH_take (i := 29) (v := ?_) rfl (by kernel_rfl) (by kernel_rfl) (by kernel_rfl) (fun _ _ _ h => h) (Or.inl ⟨by rfl, ?h5_12_10_2_19⟩) (by assumption) ?_
          case h5_12_10_2_19 => (intro w hSw; (try dsimp only at hSw); go_simp; try with_reducible rfl)
          try simp only [Act.put, List.setIfInBounds_toArray, List.set_cons_zero, List.set_cons_succ, List.getElem_toArray, List.getElem_cons_zero, List.getElem_cons_succ]
          refine wpAnyH_take (i := 30) (v := ?_) rfl (by kernel_rfl) (by kernel_rfl) (by kernel_rfl) (fun _ _ _ h => h) (Or.inl ⟨by rfl, ?h5_12_10_2_20⟩) (by assumption) ?_
          case h5_12_10_2_20 => (intro w hSw; (try dsimp only at hSw); go_simp; try with_reducible rfl)
          try simp only [Act.put, List.setIfInBounds_toArray, List.set_cons_zero, List.set_cons_succ, List.getElem_toArray, List.getElem_cons_zero, List.getElem_cons_succ]
          refine wpAnyH_take (i := 32) (v := ?_) rfl (by kernel_rfl) (by kernel_rfl) (by kernel_rfl) (fun _ _ _ h => h) (Or.inl ⟨by rfl, ?h5_12_10_2_21⟩) (by assumption) ?_
          case h5_12_10_2_21 => (intro w hSw; (try dsimp only at hSw); go_simp; try with_reducible rfl)
          try simp only [Act.put, List.setIfInBounds_toArray, List.set_cons_zero, List.set_cons_succ, List.getElem_toArray, List.getElem_cons_zero, List.getElem_cons_succ]
          refine wpAnyH_take (i := 33) (v := ?_) rfl (by kernel_rfl) (by kernel_rfl) (by kernel_rfl) (fun _ _ _ h => h) (Or.inl ⟨by rfl, ?h5_12_10_2_22⟩) (by assumption) ?_
          case h5_12_10_2_22 => (intro w hSw; (try dsimp only at hSw); go_simp; try with_reducible rfl)
          try simp only [Act.put, List.setIfInBounds_toArray, List.set_cons_zero, List.set_cons_succ, List.getElem_toArray, List.getElem_cons_zero, List.getElem_cons_succ]
          refine wpAnyH_take (i := 34) (v := ?_) rfl (by kernel_rfl) (by kernel_rfl) (by kernel_rfl) (fun _ _ _ h => h) (Or.inl ⟨by rfl, ?h5_12_10_2_23⟩) (by assumption) ?_
          case h5_12_10_2_23 => (intro w hSw; (try dsimp only at hSw); go_simp; try with_reducible rfl)
          try simp only [Act.put, List.setIfInBounds_toArray, List.set_cons_zero, List.set_cons_succ, List.getElem_toArray, List.getElem_cons_zero, List.getElem_cons_succ]
          refine wpAnyH_ready (rs := [31]) (by kernel_rfl) (by simp) ?_
          refine AllReadyH.cons rfl (fun K hK => ?_) AllReadyH.nil
          go_simp
          (with_reducible refine (kidsA (Ar.below H4.out.1.1.ar (dq w4 (nq + 1))) HGK.out.1 HGK.out.2.1 HGK.out.2.2).mono ?_)
          rintro e w6 ⟨v6, rfl, h6, hb6⟩
          have hB6 : Below w4.heap.size w4 w6 := (dq w4 (nq + 1)).trans (hb6.mono (dq w4 (nq + 1)).size)
          have t1 := (hB6.cell (p := ⟨nb, 1, none⟩) hnbl).trans s1
          have H6 := Lib.hid (And.intro h6 hB6)
          clear h6 hb6 hB6
          go_wp2_with fail
          refine hK.out _ _ (by (try dsimp only); go_keep) (fun hHeld2 => ?_)
          clear hK K hHeld
          have hHeld := hHeld2
          clear hHeld2
          try simp only [Act.put, List.setIfInBounds_toArray, List.set_cons_zero, List.set_cons_succ, List.getElem_toArray, List.getElem_cons_zero, List.getElem_cons_succ]
          refine wpAnyH_ready (rs := [35]) (by kernel_rfl) (by simp) ?_
          refine AllReadyH.cons rfl (fun K hK => ?_) AllReadyH.nil
          go_simp
          (with_reducible refine (kidsR (H4.out.2.2.1.below H6.out.2) H4.out.2.2.2 HGK.out.1 HGK.out.2.1 HGK.out.2.2).mono ?_)
          rintro e w7 ⟨v7, rfl, h7, hb7⟩
          have hB7 : Below w4.heap.size w4 w7 := H6.out.2.trans (hb7.mono H6.out.2.size)
          have u1 := (hB7.cell (p := ⟨nb, 1, none⟩) hnbl).trans s1
          have H7 := Lib.hid (And.intro h7 (And.intro (H6.out.1.below hb7) hB7))
          clear h7 hb7 hB7
          go_wp2_with fail
          refine hK.out _ _ (by (try dsimp only); go_keep) (fun hHeld2 => ?_)
          clear hK K hHeld
          have hHeld := hHeld2
          clear hHeld2
          try simp only [Act.put, List.setIfInBounds_toArray, List.set_cons_zero, List.set_cons_succ, List.getElem_toArray, List.getElem_cons_zero, List.getElem_cons_succ]
          refine wpAnyH_ready (rs := [36]) (by kernel_rfl) (by simp) ?_
          refine AllReadyH.cons rfl (fun K hK => ?_) AllReadyH.nil
          go_simp
          (with_reducible refine (ints_same H7.out.2.1 H7.out.1).mono ?_)
          rintro e w' ⟨rfl, qd, rfl⟩
          go_wp2_with fail
          refine hK.out _ _ (by (try dsimp only); go_keep) (fun hHeld2 => ?_)
          clear hK K hHeld
          have hHeld := hHeld2
          clear hHeld2
          try simp only [Act.put, List.setIfInBounds_toArray, List.set_cons_zero, List.set_cons_succ, List.getElem_toArray, List.getElem_cons_zero, List.getElem_cons_succ]
          refine wpAnyH_take (i := 37) (v := ?_) rfl (by kernel_rfl) (by kernel_rfl) (by kernel_rfl) (fun _ _ _ h => h) (Or.inl ⟨by rfl, ?h5_12_10_2_24⟩) (by assumption) ?_
          case h5_12_10_2_24 => (intro w hSw; (try dsimp only at hSw); go_simp; try with_reducible rfl)
          try simp only [Act.put, List.setIfInBounds_toArray, List.set_cons_zero, List.set_cons_succ, List.getElem_toArray, List.getElem_cons_zero, List.getElem_cons_succ]
          refine wpAnyH_take (i := 38) (v := ?_) rfl (by kernel_rfl) (by kernel_rfl) (by kernel_rfl) (fun _ _ _ h => h) (Or.inl ⟨by rfl, ?h5_12_10_2_25⟩) (by assumption) ?_
          case h5_12_10_2_25 => (intro w hSw; (try dsimp only at hSw); go_simp; try with_reducible rfl)
          try simp only [Act.put, List.setIfInBounds_toArray, List.set_cons_zero, List.set_cons_succ, List.getElem_toArray, List.getElem_cons_zero, List.getElem_cons_succ]
          refine wpAnyH_done (by kernel_rfl) ?_ _
          clear hHeld
          all_goals go_wp2
          all_goals go_roundw
          all_goals first
            | exact ⟨k + 1, by omega, by go_num, Lib.hid (walked_done HS.out.1 H4.out.1 HINV.out (below_drewN H7.out.2.2 _))⟩
            | (simp [intOf]; omega)
        · have HP := Lib.hid (And.intro hi hp)
          obtain ⟨e, he, hel⟩ := H4.out.2.2.2.ex' (k := i) (by rw [← Good.ps_length]; exact (List.getElem?_eq_some_iff.1 hps).1)
          obtain ⟨gL, cL', hvL, hlc, _, hil, _, hgL, _, _, _, _, _, _, _, _, d6⟩ := H4.out.2.2.1.cells he
          have hpar : e.nd.par = (q : Int) := by
            have : S.ps[i]? = some e.nd.par := by unfold St.ps; rw [List.getElem?_map, hel]; rfl
            rw [hps] at this
            exact (Option.some.inj this).symm
          simp only [Value.slice.injEq] at hvL
          obtain ⟨rfl, _, rfl⟩ := hvL
          have hln : lr.length = n := H4.out.2.2.2.len.trans HS.out.2
          rw [hpar] at d6
          rw [hln] at hil hlc
          clear hi hp hg hps he hel hpar hln
          have z1 : decide ((0 : Int) ≤ (q : Int)) = true := by simp
          have z2 : ((q : Int) != (q : Int)) = false := by simp
          go_wp2_with (first
            | (go_at_call 22; (with_reducible refine (par_ar H4.out.1.1.ar HP.out.2).mono ?_); rintro e w' ⟨rfl, rfl⟩))
          go_quiet (first | (go_at_call 23; exact Calls.quiet_of_same (ris_q H4.out.2.2.1 H4.out.2.2.2 HP.out.1 _)))
          go_wp2_with fail
          refine wp_region_held_drew (S := (fun w' => w'.cell? ⟨nb, 1, none⟩ = some (i64 i) ∧ w'.cell? ⟨rb, 0, none⟩ = some (.slice (some ⟨gL, 0, none⟩) n cL) ∧ w'.cell? ⟨gL, i * 7 + 6, none⟩ = some (i64 q))) (by kernel_rfl) (by (try dsimp only); go_keep) (fun hHeld => ?_)
          refine wpAnyH_take (i := 0) (v := ?_) rfl (by kernel_rfl) (by kernel_rfl) (by kernel_rfl) (fun _ _ _ h => h) (Or.inl ⟨by rfl, ?h5_12_10_3_1⟩) (by assumption) ?_
          case h5_12_10_3_1 => (intro w hSw; (try dsimp only at hSw); go_simp; try with_reducible rfl)
          try simp only [Act.put, List.setIfInBounds_toArray, List.set_cons_zero, List.set_cons_succ, List.getElem_toArray, List.getElem_cons_zero, List.getElem_cons_succ]
          refine wpAnyH_take (i := 1) (v := ?_) rfl (by kernel_rfl) (by kernel_rfl) (by kernel_rfl) (fun _ _ _ h => h) (Or.inl ⟨by rfl, ?h5_12_10_3_2⟩) (by assumption) ?_
          case h5_12_10_3_2 => (intro w hSw; (try dsimp only at hSw); go_simp; try with_reducible rfl)
          try simp only [Act.put, List.setIfInBounds_toArray, List.set_cons_zero, List.set_cons_succ, List.getElem_toArray, List.getElem_cons_zero, List.getElem_cons_succ]
          refine wpAnyH_take (i := 2) (v := ?_) rfl (by kernel_rfl) (by kernel_rfl) (by kernel_rfl) (fun _ _ _ h => h) (Or.inl ⟨by rfl, ?h5_12_10_3_3⟩) (by assumption) ?_
          case h5_12_10_3_3 => (intro w hSw; (try dsimp only at hSw); go_simp; try with_reducible rfl)
          try simp only [Act.put, List.setIfInBounds_toArray, List.set_cons_zero, List.set_cons_succ, List.getElem_toArray, List.getElem_cons_zero, List.getElem_cons_succ]
          refine wpAnyH_take (i := 3) (v := ?_) rfl (by kernel_rfl) (by kernel_rfl) (by kernel_rfl) (fun _ _ _ h => h) (Or.inl ⟨by rfl, ?h5_12_10_3_4⟩) (by assumption) ?_
          case h5_12_10_3_4 => (intro w hSw; (try dsimp only at hSw); go_simp; try with_reducible rfl)
          try simp only [Act.put, List.setIfInBounds_toArray, List.set_cons_zero, List.set_cons_succ, List.getElem_toArray, List.getElem_cons_zero, List.getElem_cons_succ]
          refine wpAnyH_take (i := 4) (v := ?_) rfl (by kernel_rfl) (by kernel_rfl) (by kernel_rfl) (fun _ _ _ h => h) (Or.inl ⟨by rfl, ?h5_12_10_3_5⟩) (by assumption) ?_
          case h5_12_10_3_5 => (intro w hSw; (try dsimp only at hSw); go_simp; try with_reducible rfl)
          try simp only [Act.put, List.setIfInBounds_toArray, List.set_cons_zero, List.set_cons_succ, List.getElem_toArray, List.getElem_cons_zero, List.getElem_cons_succ]
          refine wpAnyH_take (i := 5) (v := ?_) rfl (by kernel_rfl) (by kernel_rfl) (by kernel_rfl) (fun _ _ _ h => h) (Or.inl ⟨by rfl, ?h5_12_10_3_6⟩) (by assumption) ?_
          case h5_12_10_3_6 => (intro w hSw; (try dsimp only at hSw); go_simp; try with_reducible rfl)
          try simp only [Act.put, List.setIfInBounds_toArray, List.set_cons_zero, List.set_cons_succ, List.getElem_toArray, List.getElem_cons_zero, List.getElem_cons_succ]
          refine wpAnyH_take (i := 6) (v := ?_) rfl (by kernel_rfl) (by kernel_rfl) (by kernel_rfl) (fun _ _ _ h => h) (Or.inl ⟨by rfl, ?h5_12_10_3_7⟩) (by assumption) ?_
          case h5_12_10_3_7 => (intro w hSw; (try dsimp only at hSw); go_simp; try with_reducible rfl)
          try simp only [Act.put, List.setIfInBounds_toArray, List.set_cons_zero, List.set_cons_succ, List.getElem_toArray, List.getElem_cons_zero, List.getElem_cons_succ]
          refine wpAnyH_take (i := 7) (v := ?_) rfl (by kernel_rfl) (by kernel_rfl) (by kernel_rfl) (fun _ _ _ h => h) (Or.inl ⟨by rfl, ?h5_12_10_3_8⟩) (by assumption) ?_
          case h5_12_10_3_8 => (intro w hSw; (try dsimp only at hSw); go_simp; try with_reducible rfl)
          try simp only [Act.put, List.setIfInBounds_toArray, List.set_cons_zero, List.set_cons_succ, List.getElem_toArray, List.getElem_cons_zero, List.getElem_cons_succ]
          refine wpAnyH_take (i := 8) (v := ?_) rfl (by kernel_rfl) (by kernel_rfl) (by kernel_rfl) (fun _ _ _ h => h) (Or.inl ⟨by rfl, ?h5_12_10_3_9⟩) (by assumption) ?_
          case h5_12_10_3_9 => (intro w hSw; (try dsimp only at hSw); go_simp; try with_reducible rfl)
          try simp only [Act.put, List.setIfInBounds_toArray, List.set_cons_zero, List.set_cons_succ, List.getElem_toArray, List.getElem_cons_zero, List.getElem_cons_succ]
          refine wpAnyH_take (i := 9) (v := ?_) rfl (by kernel_rfl) (by kernel_rfl) (by kernel_rfl) (fun _ _ _ h => h) (Or.inl ⟨by rfl, ?h5_12_10_3_10⟩) (by assumption) ?_
          case h5_12_10_3_10 => (intro w hSw; (try dsimp only at hSw); go_simp; try with_reducible rfl)
          try simp only [Act.put, List.setIfInBounds_toArray, List.set_cons_zero, List.set_cons_succ, List.getElem_toArray, List.getElem_cons_zero, List.getElem_cons_succ]
          refine wpAnyH_take (i := 10) (v := ?_) rfl (by kernel_rfl) (by kernel_rfl) (by kernel_rfl) (fun _ _ _ h => h) (Or.inl ⟨by rfl, ?h5_12_10_3_11⟩) (by assumption) ?_
          case h5_12_10_3_11 => (intro w hSw; (try dsimp only at hSw); go_simp; try with_reducible rfl)
          try simp only [Act.put, List.setIfInBounds_toArray, List.set_cons_zero, List.set_cons_succ, List.getElem_toArray, List.getElem_cons_zero, List.getElem_cons_succ]
          refine wpAnyH_take (i := 11) (v := ?_) rfl (by kernel_rfl) (by kernel_rfl) (by kernel_rfl) (fun _ _ _ h => h) (Or.inl ⟨by rfl, ?h5_12_10_3_12⟩) (by assumption) ?_
          case h5_12_10_3_12 => (intro w hSw; (try dsimp only at hSw); go_simp; try with_reducible rfl)
          try simp only [Act.put, List.setIfInBounds_toArray, List.set_cons_zero, List.set_cons_succ, List.getElem_toArray, List.getElem_cons_zero, List.getElem_cons_succ]
          refine wpAnyH_take (i := 12) (v := ?_) rfl (by kernel_rfl) (by kernel_rfl) (by kernel_rfl) (fun _ _ _ h => h) (Or.inl ⟨by rfl, ?h5_12_10_3_13⟩) (by assumption) ?_
          case h5_12_10_3_13 => (intro w hSw; (try dsimp only at hSw); go_simp; try with_reducible rfl)
          try simp only [Act.put, List.setIfInBounds_toArray, List.set_cons_zero, List.set_cons_succ, List.getElem_toArray, List.getElem_cons_zero, List.getElem_cons_succ]
          refine wpAnyH_take (i := 13) (v := ?_) rfl (by kernel_rfl) (by kernel_rfl) (by kernel_rfl) (fun _ _ _ h => h) (Or.inl ⟨by rfl, ?h5_12_10_3_14⟩) (by assumption) ?_
          case h5_12_10_3_14 => (intro w hSw; (try dsimp only at hSw); go_simp; try with_reducible rfl)
          try simp only [Act.put, List.setIfInBounds_toArray, List.set_cons_zero, List.set_cons_succ, List.getElem_toArray, List.getElem_cons_zero, List.getElem_cons_succ]
          refine wpAnyH_take (i := 14) (v := ?_) rfl (by kernel_rfl) (by kernel_rfl) (by kernel_rfl) (fun _ _ _ h => h) (Or.inl ⟨by rfl, ?h5_12_10_3_15⟩) (by assumption) ?_
          case h5_12_10_3_15 => (intro w hSw; (try dsimp only at hSw); go_simp; try with_reducible rfl)
          try simp only [Act.put, List.setIfInBounds_toArray, List.set_cons_zero, List.set_cons_succ, List.getElem_toArray, List.getElem_cons_zero, List.getElem_cons_succ]
          refine wpAnyH_take (i := 15) (v := ?_) rfl (by kernel_rfl) (by kernel_rfl) (by kernel_rfl) (fun _ _ _ h => h) (Or.inl ⟨by rfl, ?h5_12_10_3_16⟩) (by assumption) ?_
          case h5_12_10_3_16 => (intro w hSw; (try dsimp only at hSw); go_simp; try with_reducible rfl)
          try simp only [Act.put, List.setIfInBounds_toArray, List.set_cons_zero, List.set_cons_succ, List.getElem_toArray, List.getElem_cons_zero, List.getElem_cons_succ]
          refine wpAnyH_take (i := 16) (v := ?_) rfl (by kernel_rfl) (by kernel_rfl) (by kernel_rfl) (fun _ _ _ h => h) (Or.inl ⟨by rfl, ?h5_12_10_3_17⟩) (by assumption) ?_
          case h5_12_10_3_17 => (intro w hSw; (try dsimp only at hSw); go_simp; try with_reducible rfl)
          try simp only [Act.put, List.setIfInBounds_toArray, List.set_cons_zero, List.set_cons_succ, List.getElem_toArray, List.getElem_cons_zero, List.getElem_cons_succ]
          refine wpAnyH_take (i := 17) (v := ?_) rfl (by kernel_rfl) (by kernel_rfl) (by kernel_rfl) (fun _ _ _ h => h) (Or.inl ⟨by rfl, ?h5_12_10_3_18⟩) (by assumption) ?_
          case h5_12_10_3_18 => (intro w hSw; (try dsimp only at hSw); go_simp; try with_reducible rfl)
          try simp only [Act.put, List.setIfInBounds_toArray, List.set_cons_zero, List.set_cons_succ, List.getElem_toArray, List.getElem_cons_zero, List.getElem_cons_succ]
          refine wpAnyH_take (i := 18) (v := ?_) rfl (by kernel_rfl) (by kernel_rfl) (by kernel_rfl) (fun _ _ _ h => h) (Or.inl ⟨by rfl, ?h5_12_10_3_19⟩) (by assumption) ?_
          case h5_12_10_3_19 => (intro w hSw; (try dsimp only at hSw); go_simp; try with_reducible rfl)
          try simp only [Act.put, List.setIfInBounds_toArray, List.set_cons_zero, List.set_cons_succ, List.getElem_toArray, List.getElem_cons_zero, List.getElem_cons_succ]
          refine wpAnyH_take (i := 19) (v := ?_) rfl (by kernel_rfl) (by kernel_rfl) (by kernel_rfl) (fun _ _ _ h => h) (Or.inl ⟨by rfl, ?h5_12_10_3_20⟩) (by assumption) ?_
          case h5_12_10_3_20 => (intro w hSw; (try dsimp only at hSw); go_simp; try with_reducible rfl)
          try simp only [Act.put, List.setIfInBounds_toArray, List.set_cons_zero, List.set_cons_succ, List.getElem_toArray, List.getElem_cons_zero, List.getElem_cons_succ]
          refine wpAnyH_take (i := 20) (v := ?_) rfl (by kernel_rfl) (by kernel_rfl) (by kernel_rfl) (fun _ _ _ h => h) (Or.inl ⟨by rfl, ?h5_12_10_3_21⟩) (by assumption) ?_
          case h5_12_10_3_21 => (intro w hSw; (try dsimp only at hSw); go_simp; try with_reducible rfl)
          try simp only [Act.put, List.setIfInBounds_toArray, List.set_cons_zero, List.set_cons_succ, List.getElem_toArray, List.getElem_cons_zero, List.getElem_cons_succ]
          refine wpAnyH_take (i := 21) (v := ?_) rfl (by kernel_rfl) (by kernel_rfl) (by kernel_rfl) (fun _ _ _ h => h) (Or.inl ⟨by rfl, ?h5_12_10_3_22⟩) (by assumption) ?_
          case h5_12_10_3_22 => (intro w hSw; (try dsimp only at hSw); go_simp; try with_reducible rfl)
          try simp only [Act.put, List.setIfInBounds_toArray, List.set_cons_zero, List.set_cons_succ, List.getElem_toArray, List.getElem_cons_zero, List.getElem_cons_succ]
          refine wpAnyH_take (i := 22) (v := ?_) rfl (by kernel_rfl) (by kernel_rfl) (by kernel_rfl) (fun _ _ _ h => h) (Or.inl ⟨by rfl, ?h5_12_10_3_23⟩) (by assumption) ?_
          case h5_12_10_3_23 => (intro w hSw; (try dsimp only at hSw); go_simp; try with_reducible rfl)
          try simp only [Act.put, List.setIfInBounds_toArray, List.set_cons_zero, List.set_cons_succ, List.getElem_toArray, List.getElem_cons_zero, List.getElem_cons_succ]
          refine wpAnyH_take (i := 23) (v := undef) rfl (by kernel_rfl) (by kernel_rfl) (by kernel_rfl) (fun _ _ _ h => h) (Or.inr ⟨by rfl, rfl⟩) (by assumption) ?_
          try simp only [Act.put, List.setIfInBounds_toArray, List.set_cons_zero, List.set_cons_succ, List.getElem_toArray, List.getElem_cons_zero, List.getElem_cons_succ]
          refine wpAnyH_take (i := 24) (v := undef) rfl (by kernel_rfl) (by kernel_rfl) (by kernel_rfl) (fun _ _ _ h => h) (Or.inr ⟨by rfl, rfl⟩) (by assumption) ?_
          try simp only [Act.put, List.setIfInBounds_toArray, List.set_cons_zero, List.set_cons_succ, List.getElem_toArray, List.getElem_cons_zero, List.getElem_cons_succ]
          refine wpAnyH_take (i := 25) (v := ?_) rfl (by kernel_rfl) (by kernel_rfl) (by kernel_rfl) (fun _ _ _ h => h) (Or.inl ⟨by rfl, ?h5_12_10_3_24⟩) (by assumption) ?_
          case h5_12_10_3_24 => (intro w hSw; (try dsimp only at hSw); go_simp; try with_reducible rfl)
          try simp only [Act.put, List.setIfInBounds_toArray, List.set_cons_zero, List.set_cons_succ, List.getElem_toArray, List.getElem_cons_zero, List.getElem_cons_succ]
          refine wpAnyH_take (i := 26) (v := ?_) rfl (by kernel_rfl) (by kernel_rfl) (by kernel_rfl) (fun _ _ _ h => h) (Or.inl ⟨by rfl, ?h5_12_10_3_25⟩) (by assumption) ?_
          case h5_12_10_3_25 => (intro w hSw; (try dsimp only at hSw); go_simp; try with_reducible rfl)
          try simp only [Act.put, List.setIfInBounds_toArray, List.set_cons_zero, List.set_cons_succ, List.getElem_toArray, List.getElem_cons_zero, List.getElem_cons_succ]
          refine wpAnyH_take (i := 27) (v := ?_) rfl (by kernel_rfl) (by kernel_rfl) (by kernel_rfl) (fun _ _ _ h => h) (Or.inl ⟨by rfl, ?h5_12_10_3_26⟩) (by assumption) ?_
          case h5_12_10_3_26 => (intro w hSw; (try dsimp only at hSw); go_simp; try with_reducible rfl)
          try simp only [Act.put, List.setIfInBounds_toArray, List.set_cons_zero, List.set_cons_succ, List.getElem_toArray, List.getElem_cons_zero, List.getElem_cons_succ]
          refine wpAnyH_take (i := 28) (v := ?_) rfl (by kernel_rfl) (by kernel_rfl) (by kernel_rfl) (fun _ _ _ h => h) (Or.inl ⟨by rfl, ?h5_12_10_3_27⟩) (by assumption) ?_
          case h5_12_10_3_27 => (intro w hSw; (try dsimp only at hSw); go_simp; try with_reducible rfl)
          try simp only [Act.put, List.setIfInBounds_toArray, List.set_cons_zero, List.set_cons_succ, List.getElem_toArray, List.getElem_cons_zero, List.getElem_cons_succ]
          refine wpAnyH_take (i := 29) (v := ?_) rfl (by kernel_rfl) (by kernel_rfl) (by kernel_rfl) (fun _ _ _ h => h) (Or.inl ⟨by rfl, ?h5_12_10_3_28⟩) (by assumption) ?_
          case h5_12_10_3_28 => (intro w hSw; (try dsimp only at hSw); go_simp; try with_reducible rfl)
          try simp only [Act.put, List.setIfInBounds_toArray, List.set_cons_zero, List.set_cons_succ, List.getElem_toArray, List.getElem_cons_zero, List.getElem_cons_succ]
          refine wpAnyH_take (i := 30) (v := ?_) rfl (by kernel_rfl) (by kernel_rfl) (by kernel_rfl) (fun _ _ _ h => h) (Or.inl ⟨by rfl, ?h5_12_10_3_29⟩) (by assumption) ?_
          case h5_12_10_3_29 => (intro w hSw; (try dsimp only at hSw); go_simp; try with_reducible rfl)
          try simp only [Act.put, List.setIfInBounds_toArray, List.set_cons_zero, List.set_cons_succ, List.getElem_toArray, List.getElem_cons_zero, List.getElem_cons_succ]
          refine wpAnyH_take (i := 32) (v := ?_) rfl (by kernel_rfl) (by kernel_rfl) (by kernel_rfl) (fun _ _ _ h => h) (Or.inl ⟨by rfl, ?h5_12_10_3_30⟩) (by assumption) ?_
          case h5_12_10_3_30 => (intro w hSw; (try dsimp only at hSw); go_simp; try with_reducible rfl)
          try simp only [Act.put, List.setIfInBounds_toArray, List.set_cons_zero, List.set_cons_succ, List.getElem_toArray, List.getElem_cons_zero, List.getElem_cons_succ]
          refine wpAnyH_take (i := 33) (v := ?_) rfl (by kernel_rfl) (by kernel_rfl) (by kernel_rfl) (fun _ _ _ h => h) (Or.inl ⟨by rfl, ?h5_12_10_3_31⟩) (by assumption) ?_
          case h5_12_10_3_31 => (intro w hSw; (try dsimp only at hSw); go_simp; try with_reducible rfl)
          try simp only [Act.put, List.setIfInBounds_toArray, List.set_cons_zero, List.set_cons_succ, List.getElem_toArray, List.getElem_cons_zero, List.getElem_cons_succ]
          refine wpAnyH_take (i := 34) (v := ?_) rfl (by kernel_rfl) (by kernel_rfl) (by kernel_rfl) (fun _ _ _ h => h) (Or.inl ⟨by rfl, ?h5_12_10_3_32⟩) (by assumption) ?_
          case h5_12_10_3_32 => (intro w hSw; (try dsimp only at hSw); go_simp; try with_reducible rfl)
          try simp only [Act.put, List.setIfInBounds_toArray, List.set_cons_zero, List.set_cons_succ, List.getElem_toArray, List.getElem_cons_zero, List.getElem_cons_succ]
          refine wpAnyH_ready (rs := [31]) (by kernel_rfl) (by simp) ?_
          refine AllReadyH.cons rfl (fun K hK => ?_) AllReadyH.nil
          go_simp
          (with_reducible refine (kidsA (Ar.below H4.out.1.1.ar (dq w4 (nq + 1))) HGK.out.1 HGK.out.2.1 HGK.out.2.2).mono ?_)
          rintro e w6 ⟨v6, rfl, h6, hb6⟩
          have hB6 : Below w4.heap.size w4 w6 := (dq w4 (nq + 1)).trans (hb6.mono (dq w4 (nq + 1)).size)
          have t1 := (hB6.cell (p := ⟨nb, 1, none⟩) hnbl).trans s1
          have t2 := (hB6.cell (p := ⟨rb, 0, none⟩) rlt).trans r0
          have t3 := (hB6.cell (p := ⟨gL, i * 7 + 6, none⟩) hgL).trans d6
          have H6 := Lib.hid (And.intro h6 hB6)
          clear h6 hb6 hB6
          go_wp2_with fail
          refine hK.out _ _ (by (try dsimp only); go_keep) (fun hHeld2 => ?_)
          clear hK K hHeld
          have hHeld := hHeld2
          clear hHeld2
          try simp only [Act.put, List.setIfInBounds_toArray, List.set_cons_zero, List.set_cons_succ, List.getElem_toArray, List.getElem_cons_zero, List.getElem_cons_succ]
          refine wpAnyH_ready (rs := [35]) (by kernel_rfl) (by simp) ?_
          refine AllReadyH.cons rfl (fun K hK => ?_) AllReadyH.nil
          go_simp
          (with_reducible refine (kidsR (H4.out.2.2.1.below H6.out.2) H4.out.2.2.2 HGK.out.1 HGK.out.2.1 HGK.out.2.2).mono ?_)
          rintro e w7 ⟨v7, rfl, h7, hb7⟩
          have hB7 : Below w4.heap.size w4 w7 := H6.out.2.trans (hb7.mono H6.out.2.size)
          have u1 := (hB7.cell (p := ⟨nb, 1, none⟩) hnbl).trans s1
          have u2 := (hB7.cell (p := ⟨rb, 0, none⟩) rlt).trans r0
          have u3 := (hB7.cell (p := ⟨gL, i * 7 + 6, none⟩) hgL).trans d6
          have H7 := Lib.hid (And.intro h7 (And.intro (H6.out.1.below hb7) hB7))
          clear h7 hb7 hB7
          go_wp2_with fail
          refine hK.out _ _ (by (try dsimp only); go_keep) (fun hHeld2 => ?_)
          clear hK K hHeld
          have hHeld := hHeld2
          clear hHeld2
          try simp only [Act.put, List.setIfInBounds_toArray, List.set_cons_zero, List.set_cons_succ, List.getElem_toArray, List.getElem_cons_zero, List.getElem_cons_succ]
          refine wpAnyH_ready (rs := [36]) (by kernel_rfl) (by simp) ?_
          refine AllReadyH.cons rfl (fun K hK => ?_) AllReadyH.nil
          go_simp
          (with_reducible refine (ints_same H7.out.2.1 H7.out.1).mono ?_)
          rintro e w' ⟨rfl, qd, rfl⟩
          go_wp2_with fail
          refine hK.out _ _ (by (try dsimp only); go_keep) (fun hHeld2 => ?_)
          clear hK K hHeld
          have hHeld := hHeld2
          clear hHeld2
          try simp only [Act.put, List.setIfInBounds_toArray, List.set_cons_zero, List.set_cons_succ, List.getElem_toArray, List.getElem_cons_zero, List.getElem_cons_succ]
          refine wpAnyH_take (i := 37) (v := ?_) rfl (by kernel_rfl) (by kernel_rfl) (by kernel_rfl) (fun _ _ _ h => h) (Or.inl ⟨by rfl, ?h5_12_10_3_33⟩) (by assumption) ?_
          case h5_12_10_3_33 => (intro w hSw; (try dsimp only at hSw); go_simp; try with_reducible rfl)
          try simp only [Act.put, List.setIfInBounds_toArray, List.set_cons_zero, List.set_cons_succ, List.getElem_toArray, List.getElem_cons_zero, List.getElem_cons_succ]
          refine wpAnyH_take (i := 38) (v := ?_) rfl (by kernel_rfl) (by kernel_rfl) (by kernel_rfl) (fun _ _ _ h => h) (Or.inl ⟨by rfl, ?h5_12_10_3_34⟩) (by assumption) ?_
          case h5_12_10_3_34 => (intro w hSw; (try dsimp only at hSw); go_simp; try with_reducible rfl)
          try simp only [Act.put, List.setIfInBounds_toArray, List.set_cons_zero, List.set_cons_succ, List.getElem_toArray, List.getElem_cons_zero, List.getElem_cons_succ]
          refine wpAnyH_done (by kernel_rfl) ?_ _
          clear hHeld
          all_goals go_wp2
          all_goals go_roundw
          all_goals first
            | exact ⟨k + 1, by omega, by go_num, Lib.hid (walked_done HS.out.1 H4.out.1 HINV.out (below_drewN H7.out.2.2 _))⟩
            | (simp [intOf]; omega)
    · obtain rfl : k = m := by omega
      obtain ⟨S, hS⟩ : ∃ S, stepsOf l k = S := ⟨_, rfl⟩
      have HA : Hid (Two wr w.heap.size (w.heap.size + 1) rb S S ∧ Below w.heap.size w wr) := by
        have := HK.out
        unfold Walked at this
        rw [hS] at this
        exact Lib.hid ⟨this.1, this.2.2⟩
      have HG : Hid (Good S ∧ Short S) := by
        have := HK.out.2.1
        rw [hS] at this
        exact Lib.hid ⟨this.good, this.short hm61⟩
      obtain ⟨ts, hts⟩ : ∃ ts, treeS S = ts := ⟨_, rfl⟩
      have HTS := Lib.hid hts
      clear hS HK hts
      go_wp2_with (first
        | (go_at_call 16; (with_reducible refine (tree_arR HA.out.1.ar HG.out.1 HG.out.2 HTS.out).mono ?_); rintro e w5 ⟨ad5, c5, rfl, h5, hb5⟩; have H5 := Lib.hid (And.intro h5 (And.intro (HA.out.1.below hb5) (HA.out.2.trans (hb5.mono HA.out.2.size)))); clear h5 hb5)
        | (go_at_call 26; (with_reducible refine (rtree_any H5.out.2.1 HG.out.1 HG.out.2 HTS.out).mono ?_); rintro e w6 ⟨ad6, c6, rfl, h6, hb6⟩; have H6 := Lib.hid (And.intro h6 (And.intro (H5.out.1.below hb6) (H5.out.2.2.trans (hb6.mono H5.out.2.2.size)))); clear h6 hb6)
        | (go_at_call 25; (with_reducible refine (nodes_eq H6.out.2.1 H6.out.1).mono ?_); rintro e w7 ⟨rfl, hb7⟩; have H7 := Lib.hid (H6.out.2.2.trans (hb7.mono H6.out.2.2.size)); clear hb7)
        | (go_at_call 10; refine (three_any _).mono ?_; rintro e w8 ⟨rfl, h8⟩; have H8 := Lib.hid h8; clear h8))
      go_ret
      exact ⟨rfl, H7.out.trans (H8.out.mono H7.out.size)⟩

theorem steps_all {w : World} {v : Value} {l : List Stp} (h : StepsAt w v l) : Calls Try.prog 5 #[v] w fun e w' => e = .returned (.bool true) ∧ Below w.heap.size w w' := by
  cases hl : longB l
  · exact steps_main h hl
  · exact steps_long h hl

namespace arenaSteps
open Go.ChangeShapes Go.WideShapes Go.ChangeAt Go.RowKit Go.Joins Go.Deep
open Go.ChangeMaps (open_string shut_string)
set_option linter.unusedVariables false
set_option maxRecDepth 100000 in
theorem lifted (os : Os) (started : os.Started) (H : Type) (enc : TypeId × Value → H) :
    ReturnsInHanded {} Try.checked os 5 .any (Rows.arenaStepsSpec.pre6 enc Try.prog Try.f5 Rows.arenaStepsRow.domain false) (Rows.arenaStepsSpec.post enc Try.prog Try.f5 false true false false) := by
  refine returnsInHanded_of_change_sized (C := Try.checked) own started (by kernel_rfl) Try.func5
    (ChangeSpec.witness6 (enc := enc) (C := Try.checked) false ⟨#[], #[.slice none 0 0], []⟩ 8 (by kernel_rfl) (by kernel_rfl) (by kernel_rfl) (by kernel_rfl)) ?_
  intro W base args ds gs before hval0 hW hcnd hsz0 _
  have hval : ∀ (j : Nat) t v, Try.f5.params[j]? = some t → args[j]? = some v → Value.okWide Try.prog W .any base t v := hval0
  have hW' := hW
  obtain ⟨p, q, hA0, hV, rfl, hfz, hnd⟩ := hW
  have hA : DataW.TrodAll enc Try.prog W 0 (fun _ => true) true Try.f5.params.toList args.toList ds p := hA0
  rw [Try.params5] at hA hval
  obtain ⟨v0, vs0, d0, ds0, p0, q0, hargs, rfl, rfl, h0, r0⟩ := trodAll_cons hA
  obtain ⟨rfl, rfl, rfl⟩ := trodAll_nil r0
  obtain rfl : args = #[v0] := by cases args; simp_all
  obtain ⟨rfl, rfl⟩ := trodVars_none hV
  have h0k := h0
  have hlt0 : ∀ x ∈ p0, x.block < W.heap.size := fun x hx => by simpa using hW'.lt x (by simp [hx])
  obtain ⟨l0, hl0, hw0⟩ := open_stepsT (hval 0 44 v0 rfl rfl) h0
  clear hA0 hval0 hsz0
  refine (steps_all hl0).mono fun e W' ⟨he, bel⟩ => ?_
  subst he
  exact ⟨_, rfl, _, _, _, [], _, [], hW', trodAll_mk1 (shut_bool Try.underlying4 _), (trodAll_cons_mk (Below.trod laid (by kernel_rfl) (of_decide_eq_true (by kernel_rfl)) h0k bel hlt0) trodAll_mk0), rfl, bel.frame _, fun h => by cases h⟩
theorem over : Rows.arenaStepsRow.holds Try.pinned (OpenSpec.ofChange Rows.arenaStepsSpec) :=
  OpenClaim.holds_of_wide 5 Try.f5 rfl rfl rfl rfl rfl rfl rfl ⟨rfl, rfl, rfl, rfl, rfl⟩ rfl rfl rfl rfl rfl (by kernel_rfl) Try.func5 (by kernel_rfl)
    (of_decide_eq_true (by kernel_rfl)) (by unfold Func.isWrapper; first | (rw [if_pos (by decide +kernel)]; kernel_rfl) | (rw [if_neg (by decide +kernel)]; exact ⟨rfl, rfl⟩))
    (fun os started H enc _ => lifted os started H enc)
end arenaSteps
/-- The row: whatever the input, true. -/
theorem arenaSteps_holds : Rows.ArenaStepsSaid := arenaSteps.over

end Go.Proofs.Ytdeogkjihmaniaa
