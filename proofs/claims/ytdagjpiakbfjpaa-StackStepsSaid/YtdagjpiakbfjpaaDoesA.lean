/-
  rectolaw09: ref, same, does, walked.
  Written by an AI agent.
-/
import Derived.Test.YtdagjpiakbfjpaaRem
namespace Go.Proofs.Ytdagjpiakbfjpaa
open Go.RowKit
attribute [local go_sem ↓] Go.wp_at_zero Go.wp_at_succ

theorem ref_any {w : World} {id sp : Int} {nm : ByteArray} : Calls Try.prog 21 #[.agg #[i64 id, i64 sp, .string nm]] w fun e w' => e = .returned (.agg #[i64 id, i64 sp, .string nm]) ∧ Below w.heap.size w w' := by
  go_enter Try.func21, Try.ntmps21
  go_wp2
  exact bodyPost_ret (v := .agg #[i64 id, i64 sp, .string nm]) (by simp [results, Try.results21, go_sem]) rfl ⟨rfl, ((Below.refl _ w).alloc (Nat.le_refl _) _).alloc (by simp) _⟩

/-- The slice v reads as these entries. -/
def ReadE (w : World) (ad : Option Addr) (es : List Ent) : Prop := es ≠ [] → ∃ g, ad = some ⟨g, 0, none⟩ ∧ g < w.heap.size ∧ ∀ (k : Nat) (e : Ent), es[k]? = some e → w.cell? ⟨g, k * 3, none⟩ = some (i64 e.id) ∧ w.cell? ⟨g, k * 3 + 1, none⟩ = some (i64 e.space) ∧ w.cell? ⟨g, k * 3 + 2, none⟩ = some (.string e.name)
theorem ReadE.below {w w' : World} {ad : Option Addr} {es : List Ent} (h : ReadE w ad es) (hb : Below w.heap.size w w') : ReadE w' ad es := fun hne => by
  obtain ⟨g, h1, h2, h3⟩ := h hne
  refine ⟨g, h1, Nat.lt_of_lt_of_le h2 hb.size, fun k e hk => ?_⟩
  obtain ⟨a, b, c⟩ := h3 k e hk
  exact ⟨(hb.cell (p := ⟨g, k * 3, none⟩) h2).trans a, (hb.cell (p := ⟨g, k * 3 + 1, none⟩) h2).trans b, (hb.cell (p := ⟨g, k * 3 + 2, none⟩) h2).trans c⟩
theorem ReadE.of_own {w : World} {B n c : Nat} {t : TypeId} {ad : Option Addr} {es : List Ent} (h : w.ownsRow B t 3 (.slice ad n c) n (flatE es)) (hn : es.length = n) : ReadE w ad es := by
  intro hne
  rcases h.2 with ⟨hv, h0⟩ | ⟨g, cap, cur, hv, hb, hg, hnc, hm, _, _⟩
  · subst h0
    exact absurd (List.length_eq_zero_iff.1 hn) hne
  · simp only [Value.slice.injEq, true_and] at hv
    obtain ⟨rfl, rfl⟩ := hv
    refine ⟨g, rfl, (Array.getElem?_eq_some_iff.1 hg).1, fun k e hk => ?_⟩
    obtain ⟨f0, f1, f2⟩ := flatE_get es k e hk
    have hc := h.cells (g := g) rfl
    have h0 := hc _ _ f0
    have h1 := hc _ _ f1
    have h2 := hc _ _ f2
    rw [addr_add, Nat.zero_add] at h0 h1 h2
    exact ⟨h0, h1, h2⟩

set_option maxHeartbeats 2000000 in
theorem same_any {w : World} {ad ar : Option Addr} {c cr n : Nat} {es : List Ent} (ha : ReadE w ad es) (hr : ReadE w ar es) (hn : es.length = n) (hl : n ≤ 1000000) : Calls Try.prog 18 #[.slice ad n c, .slice ar n cr] w fun e w' => e = .returned (.bool true) ∧ Below w.heap.size w w' := by
  have H := Lib.hid (And.intro ha (And.intro hr hn))
  clear ha hr hn
  go_enter Try.func18, Try.ntmps18
  go_wp2
  go_loopw [5, 8] (fun _ i wr => ∃ k : Nat, k ≤ n ∧ i = i64 k ∧ Hid (Below w.heap.size w wr)) (fun _ i _ => n - (intOf i).toNat)
  case atStart => exact ⟨0, Nat.zero_le _, rfl, Lib.hid (Below.refl _ _)⟩
  case round =>
    obtain ⟨k, hk, rfl, HB⟩ := hrel
    by_cases hlt : k < n
    · obtain ⟨⟨xid, xs, xn⟩, he⟩ : ∃ e, es[k]? = some e := ⟨_, List.getElem?_eq_getElem (by rw [H.out.2.2]; exact hlt)⟩
      obtain ⟨g, had, hg, hc⟩ := H.out.1 (fun e0 => by rw [e0] at he; simp at he)
      obtain ⟨g', har, hg', hc'⟩ := H.out.2.1 (fun e0 => by rw [e0] at he; simp at he)
      obtain ⟨d0, d1, d2⟩ := hc k _ he
      obtain ⟨d3, d4, d5⟩ := hc' k _ he
      have e0 := (HB.out.cell (p := ⟨g, k * 3, none⟩) hg).trans d0
      have e1 := (HB.out.cell (p := ⟨g, k * 3 + 1, none⟩) hg).trans d1
      have e2 := (HB.out.cell (p := ⟨g, k * 3 + 2, none⟩) hg).trans d2
      have e3 := (HB.out.cell (p := ⟨g', k * 3, none⟩) hg').trans d3
      have e4 := (HB.out.cell (p := ⟨g', k * 3 + 1, none⟩) hg').trans d4
      have e5 := (HB.out.cell (p := ⟨g', k * 3 + 2, none⟩) hg').trans d5
      simp only at e0 e1 e2 e3 e4 e5
      have hgr := Nat.lt_of_lt_of_le hg HB.out.size
      have hgr' := Nat.lt_of_lt_of_le hg' HB.out.size
      have HAD := Lib.hid (And.intro had har)
      have i1 : (0 : Int) ≤ (k : Int) := by omega
      have i2 : (k : Int) < (n : Int) := by omega
      have i3 : decide (n ≤ k) = false := by simp; omega
      clear hc hc' he had har d0 d1 d2 d3 d4 d5
      rw [HAD.out.1, HAD.out.2]
      go_wp2_with fail
      refine wp_region_held_drew (S := (fun w' => w'.cell? ⟨g, k * 3, none⟩ = some (i64 xid) ∧ w'.cell? ⟨g, k * 3 + 1, none⟩ = some (i64 xs) ∧ w'.cell? ⟨g, k * 3 + 2, none⟩ = some (.string xn) ∧ w'.cell? ⟨g', k * 3, none⟩ = some (i64 xid) ∧ w'.cell? ⟨g', k * 3 + 1, none⟩ = some (i64 xs) ∧ w'.cell? ⟨g', k * 3 + 2, none⟩ = some (.string xn))) (by kernel_rfl) (by (try dsimp only); go_keep) (fun hHeld => ?_)
      refine wpAnyH_take (i := 0) (v := ?_) rfl (by kernel_rfl) (by kernel_rfl) (by kernel_rfl) (fun _ _ _ h => h) (Or.inl ⟨by rfl, ?h18_4_6_0_1⟩) (by assumption) ?_
      case h18_4_6_0_1 => (intro w hSw; (try dsimp only at hSw); go_simp; try with_reducible rfl)
      try simp only [Act.put, List.setIfInBounds_toArray, List.set_cons_zero, List.set_cons_succ, List.getElem_toArray, List.getElem_cons_zero, List.getElem_cons_succ]
      refine wpAnyH_take (i := 1) (v := ?_) rfl (by kernel_rfl) (by kernel_rfl) (by kernel_rfl) (fun _ _ _ h => h) (Or.inl ⟨by rfl, ?h18_4_6_0_2⟩) (by assumption) ?_
      case h18_4_6_0_2 => (intro w hSw; (try dsimp only at hSw); go_simp; try with_reducible rfl)
      try simp only [Act.put, List.setIfInBounds_toArray, List.set_cons_zero, List.set_cons_succ, List.getElem_toArray, List.getElem_cons_zero, List.getElem_cons_succ]
      refine wpAnyH_take (i := 2) (v := ?_) rfl (by kernel_rfl) (by kernel_rfl) (by kernel_rfl) (fun _ _ _ h => h) (Or.inl ⟨by rfl, ?h18_4_6_0_3⟩) (by assumption) ?_
      case h18_4_6_0_3 => (intro w hSw; (try dsimp only at hSw); go_simp; try with_reducible rfl)
      try simp only [Act.put, List.setIfInBounds_toArray, List.set_cons_zero, List.set_cons_succ, List.getElem_toArray, List.getElem_cons_zero, List.getElem_cons_succ]
      refine wpAnyH_take (i := 3) (v := ?_) rfl (by kernel_rfl) (by kernel_rfl) (by kernel_rfl) (fun _ _ _ h => h) (Or.inl ⟨by rfl, ?h18_4_6_0_4⟩) (by assumption) ?_
      case h18_4_6_0_4 => (intro w hSw; (try dsimp only at hSw); go_simp; try with_reducible rfl)
      try simp only [Act.put, List.setIfInBounds_toArray, List.set_cons_zero, List.set_cons_succ, List.getElem_toArray, List.getElem_cons_zero, List.getElem_cons_succ]
      refine wpAnyH_take (i := 4) (v := ?_) rfl (by kernel_rfl) (by kernel_rfl) (by kernel_rfl) (fun _ _ _ h => h) (Or.inl ⟨by rfl, ?h18_4_6_0_5⟩) (by assumption) ?_
      case h18_4_6_0_5 => (intro w hSw; (try dsimp only at hSw); go_simp; try with_reducible rfl)
      try simp only [Act.put, List.setIfInBounds_toArray, List.set_cons_zero, List.set_cons_succ, List.getElem_toArray, List.getElem_cons_zero, List.getElem_cons_succ]
      refine wpAnyH_take (i := 5) (v := ?_) rfl (by kernel_rfl) (by kernel_rfl) (by kernel_rfl) (fun _ _ _ h => h) (Or.inl ⟨by rfl, ?h18_4_6_0_6⟩) (by assumption) ?_
      case h18_4_6_0_6 => (intro w hSw; (try dsimp only at hSw); go_simp; try with_reducible rfl)
      try simp only [Act.put, List.setIfInBounds_toArray, List.set_cons_zero, List.set_cons_succ, List.getElem_toArray, List.getElem_cons_zero, List.getElem_cons_succ]
      refine wpAnyH_take (i := 6) (v := ?_) rfl (by kernel_rfl) (by kernel_rfl) (by kernel_rfl) (fun _ _ _ h => h) (Or.inl ⟨by rfl, ?h18_4_6_0_7⟩) (by assumption) ?_
      case h18_4_6_0_7 => (intro w hSw; (try dsimp only at hSw); go_simp; try with_reducible rfl)
      try simp only [Act.put, List.setIfInBounds_toArray, List.set_cons_zero, List.set_cons_succ, List.getElem_toArray, List.getElem_cons_zero, List.getElem_cons_succ]
      refine wpAnyH_take (i := 7) (v := ?_) rfl (by kernel_rfl) (by kernel_rfl) (by kernel_rfl) (fun _ _ _ h => h) (Or.inl ⟨by rfl, ?h18_4_6_0_8⟩) (by assumption) ?_
      case h18_4_6_0_8 => (intro w hSw; (try dsimp only at hSw); go_simp; try with_reducible rfl)
      try simp only [Act.put, List.setIfInBounds_toArray, List.set_cons_zero, List.set_cons_succ, List.getElem_toArray, List.getElem_cons_zero, List.getElem_cons_succ]
      refine wpAnyH_take (i := 8) (v := ?_) rfl (by kernel_rfl) (by kernel_rfl) (by kernel_rfl) (fun _ _ _ h => h) (Or.inl ⟨by rfl, ?h18_4_6_0_9⟩) (by assumption) ?_
      case h18_4_6_0_9 => (intro w hSw; (try dsimp only at hSw); go_simp; try with_reducible rfl)
      try simp only [Act.put, List.setIfInBounds_toArray, List.set_cons_zero, List.set_cons_succ, List.getElem_toArray, List.getElem_cons_zero, List.getElem_cons_succ]
      refine wpAnyH_take (i := 10) (v := ?_) rfl (by kernel_rfl) (by kernel_rfl) (by kernel_rfl) (fun _ _ _ h => h) (Or.inl ⟨by rfl, ?h18_4_6_0_10⟩) (by assumption) ?_
      case h18_4_6_0_10 => (intro w hSw; (try dsimp only at hSw); go_simp; try with_reducible rfl)
      try simp only [Act.put, List.setIfInBounds_toArray, List.set_cons_zero, List.set_cons_succ, List.getElem_toArray, List.getElem_cons_zero, List.getElem_cons_succ]
      refine wpAnyH_take (i := 11) (v := ?_) rfl (by kernel_rfl) (by kernel_rfl) (by kernel_rfl) (fun _ _ _ h => h) (Or.inl ⟨by rfl, ?h18_4_6_0_11⟩) (by assumption) ?_
      case h18_4_6_0_11 => (intro w hSw; (try dsimp only at hSw); go_simp; try with_reducible rfl)
      try simp only [Act.put, List.setIfInBounds_toArray, List.set_cons_zero, List.set_cons_succ, List.getElem_toArray, List.getElem_cons_zero, List.getElem_cons_succ]
      refine wpAnyH_take (i := 12) (v := ?_) rfl (by kernel_rfl) (by kernel_rfl) (by kernel_rfl) (fun _ _ _ h => h) (Or.inl ⟨by rfl, ?h18_4_6_0_12⟩) (by assumption) ?_
      case h18_4_6_0_12 => (intro w hSw; (try dsimp only at hSw); go_simp; try with_reducible rfl)
      try simp only [Act.put, List.setIfInBounds_toArray, List.set_cons_zero, List.set_cons_succ, List.getElem_toArray, List.getElem_cons_zero, List.getElem_cons_succ]
      refine wpAnyH_take (i := 13) (v := ?_) rfl (by kernel_rfl) (by kernel_rfl) (by kernel_rfl) (fun _ _ _ h => h) (Or.inl ⟨by rfl, ?h18_4_6_0_13⟩) (by assumption) ?_
      case h18_4_6_0_13 => (intro w hSw; (try dsimp only at hSw); go_simp; try with_reducible rfl)
      try simp only [Act.put, List.setIfInBounds_toArray, List.set_cons_zero, List.set_cons_succ, List.getElem_toArray, List.getElem_cons_zero, List.getElem_cons_succ]
      refine wpAnyH_ready (rs := [9]) (by kernel_rfl) (by simp) ?_
      refine AllReadyH.cons rfl (fun K hK => ?_) AllReadyH.nil
      go_simp
      (with_reducible refine (ref_any).mono ?_)
      rintro e w2 ⟨rfl, hb2⟩
      have hbb := (dqb wr 1).trans (hb2.mono (dqb wr 1).size)
      have u0 := (hbb.cell (p := ⟨g, k * 3, none⟩) hgr).trans e0
      have u1 := (hbb.cell (p := ⟨g, k * 3 + 1, none⟩) hgr).trans e1
      have u2 := (hbb.cell (p := ⟨g, k * 3 + 2, none⟩) hgr).trans e2
      have u3 := (hbb.cell (p := ⟨g', k * 3, none⟩) hgr').trans e3
      have u4 := (hbb.cell (p := ⟨g', k * 3 + 1, none⟩) hgr').trans e4
      have u5 := (hbb.cell (p := ⟨g', k * 3 + 2, none⟩) hgr').trans e5
      have H2 := Lib.hid (HB.out.trans (hbb.mono HB.out.size))
      clear hb2 hbb
      go_wp2_with fail
      refine hK.out _ _ (by (try dsimp only); go_keep) (fun hHeld2 => ?_)
      clear hK K hHeld
      have hHeld := hHeld2
      clear hHeld2
      try simp only [Act.put, List.setIfInBounds_toArray, List.set_cons_zero, List.set_cons_succ, List.getElem_toArray, List.getElem_cons_zero, List.getElem_cons_succ]
      refine wpAnyH_take (i := 14) (v := ?_) rfl (by kernel_rfl) (by kernel_rfl) (by kernel_rfl) (fun _ _ _ h => h) (Or.inl ⟨by rfl, ?h18_4_6_0_14⟩) (by assumption) ?_
      case h18_4_6_0_14 => (intro w hSw; (try dsimp only at hSw); go_simp; try with_reducible rfl)
      try simp only [Act.put, List.setIfInBounds_toArray, List.set_cons_zero, List.set_cons_succ, List.getElem_toArray, List.getElem_cons_zero, List.getElem_cons_succ]
      refine wpAnyH_take (i := 15) (v := ?_) rfl (by kernel_rfl) (by kernel_rfl) (by kernel_rfl) (fun _ _ _ h => h) (Or.inl ⟨by rfl, ?h18_4_6_0_15⟩) (by assumption) ?_
      case h18_4_6_0_15 => (intro w hSw; (try dsimp only at hSw); go_simp; try with_reducible rfl)
      try simp only [Act.put, List.setIfInBounds_toArray, List.set_cons_zero, List.set_cons_succ, List.getElem_toArray, List.getElem_cons_zero, List.getElem_cons_succ]
      refine wpAnyH_done (by kernel_rfl) ?_ _
      go_wp2
      go_roundw
      case rel => exact ⟨k + 1, by omega, by go_num, H2⟩
      case measure => simp [intOf]; omega
    · go_wp2
      go_ret
      exact ⟨rfl, HB.out⟩

/-- The kinds that a step may turn. -/
abbrev BK : Obj → Bool := kinds [59, 27, 44] false
theorem lk_bk : ∀ o, LK o = true → BK o = true := by
  intro o h
  cases o with
  | cells cs t fr => simp only [LK, BK, kinds, List.contains_cons, List.contains_nil, Bool.or_false, Bool.or_eq_true] at h ⊢; rcases h with h | h <;> simp [h]
  | _ => simp [LK, kinds] at h
theorem rk_bk : ∀ o, RK o = true → BK o = true := by
  intro o h
  cases o with
  | cells cs t fr => simp only [RK, BK, kinds, List.contains_cons, List.contains_nil, Bool.or_false, Bool.or_eq_true] at h ⊢; simp [h]
  | _ => simp [RK, kinds] at h
abbrev Duo (w : World) (B lb rb : Nat) (es : List Ent) : Prop := Stk w B lb es ∧ Rf w B rb es
theorem Duo.below {w w' : World} {B lb rb : Nat} {es : List Ent} (h : Duo w B lb rb es) (hb : Below w.heap.size w w') : Duo w' B lb rb es := ⟨h.1.below hb, h.2.below hb⟩
def DoIt (B lb rb : Nat) (es' : List Ent) (w : World) (e : Ending) (w' : World) : Prop := e = .returned (.bool true) ∧ Duo w' B lb rb es' ∧ Fr B BK w w'
theorem do_done {w w1 w2 w3 w4 : World} {B lb rb : Nat} {es' : List Ent} (h0 : Below w.heap.size w w1) (h1 : Stk w2 B lb es') (f1 : Fr B LK w1 w2) (h2 : Below w2.heap.size w2 w3) (h3 : Rf w4 B rb es') (f3 : Fr B RK w3 w4) : DoIt B lb rb es' w (.returned (.bool true)) w4 :=
  ⟨rfl, ⟨(h1.below h2).rfr f3, h3⟩, (((Fr.of_below h0 B BK).trans (f1.mono (Nat.le_refl _) lk_bk)).trans (Fr.of_below h2 B BK)).trans (f3.mono (Nat.le_refl _) rk_bk)⟩
theorem insS_n {w : World} {B lb : Nat} {es es' : List Ent} {p id sp r : Int} {nm : ByteArray} (h : Stk w B lb es) (hl : es.length ≤ 200) (hs : insS es p ⟨id, sp, nm⟩ = es') (hr : insR es p = r) :
    Calls Try.prog 12 #[ptr lb, i64 p, .agg #[i64 id, i64 sp, .string nm]] w fun e w' => e = .returned (i64 r) ∧ Stk w' B lb es' ∧ Fr B LK w w' := by
  subst hs hr
  exact (ins_stk h hl).mono fun e w' h => ⟨h.1, h.2.1, h.2.2⟩
theorem rins_n {w : World} {B rb : Nat} {es es' : List Ent} {p id sp r : Int} {nm : ByteArray} (h : Rf w B rb es) (hl : es.length ≤ 200) (hs : insS es p ⟨id, sp, nm⟩ = es') (hr : insR es p = r) :
    Calls Try.prog 31 #[ptr rb, i64 p, .agg #[i64 id, i64 sp, .string nm]] w fun e w' => e = .returned (i64 r) ∧ Rf w' B rb es' ∧ Fr B RK w w' := by
  subst hs hr
  exact rins_any h hl
theorem push_m {w : World} {B lb n : Nat} {es es' : List Ent} {id sp r : Int} {nm : ByteArray} (h : Stk w B lb es) (hl : es.length ≤ 200) (hn : es.length = n) (hs : insS es n ⟨id, sp, nm⟩ = es') (hr : insR es n = r) :
    Calls Try.prog 10 #[ptr lb, .agg #[i64 id, i64 sp, .string nm]] w fun e w' => e = .returned (i64 r) ∧ Stk w' B lb es' ∧ Fr B LK w w' := by
  subst hn
  rw [insS_end] at hs
  rw [insR_end] at hr
  subst hs hr
  exact (push_stk h hl).mono fun e w' h => ⟨h.1, h.2.1, h.2.2⟩
theorem Rf.at_ {w : World} {B rb n : Nat} {es : List Ent} (h : Rf w B rb es) (hn : es.length = n) : ∃ ad c, w.cell? ⟨rb, 0, none⟩ = some (.slice ad n c) ∧ ReadE w ad es ∧ rb < w.heap.size := by
  obtain ⟨v, h⟩ := h
  subst hn
  obtain ⟨ad, c, rfl⟩ := own_slice h.2.2.1
  exact ⟨ad, c, h.1.cell 0 _ rfl, ReadE.of_own h.2.2.1 rfl, h.1.lt⟩

theorem to_m {w : World} {B lb n : Nat} {es q : List Ent} {va : Value} {ns : List ByteArray} (h : Stk w B lb es) (ha : NamesAt w va ns) (hl : es.length ≤ 1000) (hq : popW (backP ns) es = q) (hn : n + q.dropLast.length = es.length) :
    Calls Try.prog 15 #[ptr lb, va] w fun e w' => e = .returned (i64 n) ∧ Stk w' B lb q.dropLast ∧ Fr B LK w w' := by
  have hql : q.length ≤ es.length := by rw [← hq]; exact popW_length _ _
  refine (to_n (n := es.length - q.length) h ha hl hq (by omega) rfl rfl).mono fun _ _ h => ⟨?_, h.2.1, h.2.2.1⟩
  rw [h.1]
  cases hb : topB q
  · have := topB_false hb
    subst this
    simp at hn ⊢
    omega
  · have := topB_true hb
    have hlp : 0 < q.length := List.length_pos_iff.2 this
    rw [List.length_dropLast] at hn
    simp only [if_true]
    congr 2
    omega
theorem rimplied_n {w : World} {B rb : Nat} {es es' : List Ent} {but : ByteArray} {r : Int} (h : Rf w B rb es) (hl : es.length ≤ 1000) (hs : popW (impP but) es = es') (hr : (es.length : Int) - (es'.length : Int) = r) :
    Calls Try.prog 35 #[ptr rb, .string but] w fun e w' => e = .returned (i64 r) ∧ Rf w' B rb es' ∧ Fr B RK w w' := by
  subst hs hr
  exact (rimplied_any but h hl).mono fun e w' h => ⟨h.1, h.2.1, h.2.2⟩
theorem rem_n {w : World} {B lb : Nat} {es es' : List Ent} {id : Int} {r : Bool} (h : Stk w B lb es) (hs : remS id es = es') (hr : remB id es = r) :
    Calls Try.prog 25 #[ptr lb, i64 id] w fun e w' => e = .returned (.bool r) ∧ Stk w' B lb es' ∧ Fr B LK w w' := by
  subst hs hr
  exact rem_stk h
theorem rrem_n {w : World} {B rb : Nat} {es es' : List Ent} {id : Int} {r : Bool} (h : Rf w B rb es) (hs : remS id es = es') (hr : remB id es = r) :
    Calls Try.prog 36 #[ptr rb, i64 id] w fun e w' => e = .returned (.bool r) ∧ Rf w' B rb es' ∧ Fr B RK w w' := by
  subst hs hr
  exact rrem_any h
theorem back_m {w : World} {B lb n : Nat} {es q : List Ent} {va : Value} {ns : List ByteArray} (h : Stk w B lb es) (ha : NamesAt w va ns) (hl : es.length ≤ 1000) (hq : popW (backP ns) es = q) (hn : n + q.length = es.length) :
    Calls Try.prog 14 #[ptr lb, va] w fun e w' => e = .returned (i64 n) ∧ Stk w' B lb q ∧ Fr B LK w w' :=
  (back_n h ha hl hq hn).mono fun e w' h => ⟨h.1, h.2.1, h.2.2.1⟩
theorem NamesAt.blk {w : World} {g : Nat} {x y : ByteArray} (h : Blk w g 9 #[.string x, .string y]) : NamesAt w (.slice (some ⟨g, 0, none⟩) 2 2) [x, y] :=
  ⟨_, 2, rfl, by simp, fun _ => ⟨g, 0, rfl, h.lt, fun k z hz => by
    match k, hz with
    | 0, hz => exact h.cell 0 _ (by simp at hz; subst hz; rfl)
    | 1, hz => exact h.cell 1 _ (by simp at hz; subst hz; rfl)⟩⟩
theorem pop_m {w : World} {B lb : Nat} {es q : List Ent} {te : Ent} {tb : Bool} (h : Stk w B lb es) (h1 : topE es = te) (h2 : topB es = tb) (hq : es.dropLast = q) :
    Calls Try.prog 23 #[ptr lb] w fun e w' => e = .returned (.tuple #[.agg #[i64 te.id, i64 te.space, .string te.name], .bool tb]) ∧ Stk w' B lb q ∧ Fr B LK w w' := by
  subst hq
  exact (pop_n h h1 h2).mono fun e w' h => ⟨h.1, h.2.1, h.2.2.1⟩
theorem topE_last {es : List Ent} {te : Ent} (h : es ≠ []) (ht : topE es = te) : es[es.length - 1]? = some te := by
  unfold topE at ht
  rw [← List.getLast?_eq_getElem?]
  cases hq : es.getLast? with
  | none => exact absurd (List.getLast?_eq_none_iff.1 hq) h
  | some x => rw [hq] at ht; rw [← ht]; rfl
theorem row_kept {w w1 w2 : World} {B g m : Nat} {a b c : Value} (h0 : Below w.heap.size w w1) (f : Fr B LK w1 w2) (hk : ∃ cs, Blk w g 50 cs) (hg : g < w.heap.size) (d0 : w.cell? ⟨g, m * 3, none⟩ = some a) (d1 : w.cell? ⟨g, m * 3 + 1, none⟩ = some b) (d2 : w.cell? ⟨g, m * 3 + 2, none⟩ = some c) :
    w2.cell? ⟨g, m * 3, none⟩ = some a ∧ w2.cell? ⟨g, m * 3 + 1, none⟩ = some b ∧ w2.cell? ⟨g, m * 3 + 2, none⟩ = some c ∧ g < w2.heap.size := by
  obtain ⟨cs, hk⟩ := hk
  have hb : w2.heap[g]? = w.heap[g]? := (f.blk (blk_kept hk h0) (.inr rfl)).trans hk.symm
  have hc : ∀ j, w2.cell? ⟨g, j, none⟩ = w.cell? ⟨g, j, none⟩ := fun j => World.cell?_of_block (w := w) (a := ⟨g, j, none⟩) hb
  exact ⟨(hc _).trans d0, (hc _).trans d1, (hc _).trans d2, Nat.lt_of_lt_of_le hg (Nat.le_trans h0.size f.size)⟩
theorem pop_box (w : World) (a b : Int) (c : ByteArray) : Below w.heap.size w (((w.alloc (.cells #[i64 a, i64 b, .string c] 27)).alloc (.cells #[i64 a, i64 b, .string c] 50))).drew ∧ Blk (((w.alloc (.cells #[i64 a, i64 b, .string c] 27)).alloc (.cells #[i64 a, i64 b, .string c] 50))).drew w.heap.size 27 #[i64 a, i64 b, .string c] ∧ Blk (((w.alloc (.cells #[i64 a, i64 b, .string c] 27)).alloc (.cells #[i64 a, i64 b, .string c] 50))).drew (w.heap.size + 1) 50 #[i64 a, i64 b, .string c] := by
  have h := Blk.new (w.alloc (.cells #[i64 a, i64 b, .string c] 27)) 50 #[i64 a, i64 b, .string c]
  rw [show (w.alloc (.cells #[i64 a, i64 b, .string c] 27)).heap.size = w.heap.size + 1 by simp] at h
  exact ⟨(((Below.refl _ w).alloc (Nat.le_refl _) _).alloc (by simp) _).drew, (Blk.new w 27 _).alloc _, h⟩
theorem pop_box2 (w : World) (a b : Int) (c : ByteArray) : Below w.heap.size w (((w.alloc (.cells #[i64 a, i64 b, .string c] 27)).alloc (.cells #[i64 a, i64 b, .string c] 50))).drew.drew ∧ Blk (((w.alloc (.cells #[i64 a, i64 b, .string c] 27)).alloc (.cells #[i64 a, i64 b, .string c] 50))).drew.drew w.heap.size 27 #[i64 a, i64 b, .string c] ∧ Blk (((w.alloc (.cells #[i64 a, i64 b, .string c] 27)).alloc (.cells #[i64 a, i64 b, .string c] 50))).drew.drew (w.heap.size + 1) 50 #[i64 a, i64 b, .string c] :=
  ⟨(pop_box w a b c).1.drew, (pop_box w a b c).2.1, (pop_box w a b c).2.2⟩
theorem duo_done {w w1 w2 w4 : World} {B lb rb : Nat} {es' : List Ent} (h0 : Below w.heap.size w w1) (h1 : Stk w2 B lb es') (f1 : Fr B LK w1 w2) (h3 : Rf w4 B rb es') (f3 : Fr B RK w2 w4) : DoIt B lb rb es' w (.returned (.bool true)) w4 :=
  do_done h0 h1 f1 (Below.refl _ _) h3 f3

theorem dqr (w : World) : Below w.heap.size w w.drew := (Below.refl _ w).drew
theorem Rf.lt {w : World} {B rb : Nat} {es : List Ent} (h : Rf w B rb es) : rb < w.heap.size := by
  obtain ⟨v, h⟩ := h
  exact h.1.lt
theorem rf_kept {w w' : World} {B B' rb : Nat} {es : List Ent} (h : Rf w B rb es) (f : Fr B' LK w w') : w'.cell? ⟨rb, 0, none⟩ = w.cell? ⟨rb, 0, none⟩ := by
  obtain ⟨v, h⟩ := h
  rw [(f.blk h.1 (.inr rfl)).cell 0 v rfl, h.1.cell 0 v rfl]
section
variable {w : World} {B lb rb : Nat} {es es' : List Ent} {what at_ id sp : Int} {nm n1 n2 : ByteArray}
set_option maxHeartbeats 4000000 in
set_option maxRecDepth 100000 in
theorem does_push0 (h : Duo w B lb rb es) (hl : es.length ≤ 200) (hs : insS es es.length ⟨id, sp, nm⟩ = es') : Calls Try.prog 17 #[ptr lb, ptr rb, .agg #[i64 0, i64 at_, i64 id, i64 sp, .string nm, .string n1, .string n2]] w (DoIt B lb rb es' w) := by
  obtain ⟨n, hn⟩ : ∃ n, es.length = n := ⟨_, rfl⟩
  obtain ⟨ad, c, cr, hre, hrl⟩ := h.2.at_ hn
  have hbx := (Blk.new w 46 #[i64 0, i64 at_, i64 id, i64 sp, .string nm, .string n1, .string n2]).alloc (.cells #[.string n1, .string n2] 9)
  have b0 : Below w.heap.size w ((w.alloc (.cells #[i64 0, i64 at_, i64 id, i64 sp, .string nm, .string n1, .string n2] 46)).alloc (.cells #[.string n1, .string n2] 9)) := ((Below.refl _ w).alloc (Nat.le_refl _) _).alloc (by simp) _
  have cr1 : ((w.alloc (.cells #[i64 0, i64 at_, i64 id, i64 sp, .string nm, .string n1, .string n2] 46)).alloc (.cells #[.string n1, .string n2] 9)).cell? ⟨rb, 0, none⟩ = some (.slice ad n c) := (b0.cell (p := ⟨rb, 0, none⟩) hrl).trans cr
  have HNM := Lib.hid (NamesAt.two (w.alloc (.cells #[i64 0, i64 at_, i64 id, i64 sp, .string nm, .string n1, .string n2] 46)) n1 n2 9)
  have HBX := Lib.hid hbx
  have HB0 := Lib.hid b0
  have HB1 := Lib.hid b0.drew
  have HD := Lib.hid (And.intro (h.below b0) (And.intro hl hn))
  have HRE := Lib.hid (And.intro hre (h.2))
  have x0 := hbx.cell 0 (i64 0) rfl
  have x1 := hbx.cell 1 (i64 at_) rfl
  have x2 := hbx.cell 2 (i64 id) rfl
  have x3 := hbx.cell 3 (i64 sp) rfl
  have x4 := hbx.cell 4 (.string nm) rfl
  have x5 := hbx.cell 5 (.string n1) rfl
  have x6 := hbx.cell 6 (.string n2) rfl
  obtain ⟨r, hr⟩ : ∃ r, insR es n = r := ⟨_, rfl⟩
  rw [hn] at hs
  have HS := Lib.hid (And.intro hs hr)
  clear h hl hs hr hn hbx b0 cr hre
  go_enter Try.func17, Try.ntmps17
  go_wp2_with fail
  refine wp_region_held_drew (S := (fun w' => w'.cell? ⟨w.heap.size, 2, none⟩ = some (i64 id) ∧ w'.cell? ⟨w.heap.size, 3, none⟩ = some (i64 sp) ∧ w'.cell? ⟨w.heap.size, 4, none⟩ = some (.string nm))) (by kernel_rfl) (by (try dsimp only); go_keep) (fun hHeld => ?_)
  refine wpAnyH_take (i := 0) (v := ?_) rfl (by kernel_rfl) (by kernel_rfl) (by kernel_rfl) (fun _ _ _ h => h) (Or.inl ⟨by rfl, ?h17_7_2_3_1⟩) (by assumption) ?_
  case h17_7_2_3_1 => (intro w hSw; (try dsimp only at hSw); go_simp; try with_reducible rfl)
  try simp only [Act.put, List.setIfInBounds_toArray, List.set_cons_zero, List.set_cons_succ, List.getElem_toArray, List.getElem_cons_zero, List.getElem_cons_succ]
  refine wpAnyH_take (i := 1) (v := ?_) rfl (by kernel_rfl) (by kernel_rfl) (by kernel_rfl) (fun _ _ _ h => h) (Or.inl ⟨by rfl, ?h17_7_2_3_2⟩) (by assumption) ?_
  case h17_7_2_3_2 => (intro w hSw; (try dsimp only at hSw); go_simp; try with_reducible rfl)
  try simp only [Act.put, List.setIfInBounds_toArray, List.set_cons_zero, List.set_cons_succ, List.getElem_toArray, List.getElem_cons_zero, List.getElem_cons_succ]
  refine wpAnyH_take (i := 2) (v := ?_) rfl (by kernel_rfl) (by kernel_rfl) (by kernel_rfl) (fun _ _ _ h => h) (Or.inl ⟨by rfl, ?h17_7_2_3_3⟩) (by assumption) ?_
  case h17_7_2_3_3 => (intro w hSw; (try dsimp only at hSw); go_simp; try with_reducible rfl)
  try simp only [Act.put, List.setIfInBounds_toArray, List.set_cons_zero, List.set_cons_succ, List.getElem_toArray, List.getElem_cons_zero, List.getElem_cons_succ]
  refine wpAnyH_take (i := 4) (v := ?_) rfl (by kernel_rfl) (by kernel_rfl) (by kernel_rfl) (fun _ _ _ h => h) (Or.inl ⟨by rfl, ?h17_7_2_3_4⟩) (by assumption) ?_
  case h17_7_2_3_4 => (intro w hSw; (try dsimp only at hSw); go_simp; try with_reducible rfl)
  try simp only [Act.put, List.setIfInBounds_toArray, List.set_cons_zero, List.set_cons_succ, List.getElem_toArray, List.getElem_cons_zero, List.getElem_cons_succ]
  refine wpAnyH_take (i := 5) (v := ?_) rfl (by kernel_rfl) (by kernel_rfl) (by kernel_rfl) (fun _ _ _ h => h) (Or.inl ⟨by rfl, ?h17_7_2_3_5⟩) (by assumption) ?_
  case h17_7_2_3_5 => (intro w hSw; (try dsimp only at hSw); go_simp; try with_reducible rfl)
  try simp only [Act.put, List.setIfInBounds_toArray, List.set_cons_zero, List.set_cons_succ, List.getElem_toArray, List.getElem_cons_zero, List.getElem_cons_succ]
  refine wpAnyH_take (i := 6) (v := ?_) rfl (by kernel_rfl) (by kernel_rfl) (by kernel_rfl) (fun _ _ _ h => h) (Or.inl ⟨by rfl, ?h17_7_2_3_6⟩) (by assumption) ?_
  case h17_7_2_3_6 => (intro w hSw; (try dsimp only at hSw); go_simp; try with_reducible rfl)
  try simp only [Act.put, List.setIfInBounds_toArray, List.set_cons_zero, List.set_cons_succ, List.getElem_toArray, List.getElem_cons_zero, List.getElem_cons_succ]
  refine wpAnyH_take (i := 7) (v := ?_) rfl (by kernel_rfl) (by kernel_rfl) (by kernel_rfl) (fun _ _ _ h => h) (Or.inl ⟨by rfl, ?h17_7_2_3_7⟩) (by assumption) ?_
  case h17_7_2_3_7 => (intro w hSw; (try dsimp only at hSw); go_simp; try with_reducible rfl)
  try simp only [Act.put, List.setIfInBounds_toArray, List.set_cons_zero, List.set_cons_succ, List.getElem_toArray, List.getElem_cons_zero, List.getElem_cons_succ]
  refine wpAnyH_take (i := 10) (v := ?_) rfl (by kernel_rfl) (by kernel_rfl) (by kernel_rfl) (fun _ _ _ h => h) (Or.inl ⟨by rfl, ?h17_7_2_3_8⟩) (by assumption) ?_
  case h17_7_2_3_8 => (intro w hSw; (try dsimp only at hSw); go_simp; try with_reducible rfl)
  try simp only [Act.put, List.setIfInBounds_toArray, List.set_cons_zero, List.set_cons_succ, List.getElem_toArray, List.getElem_cons_zero, List.getElem_cons_succ]
  refine wpAnyH_take (i := 11) (v := ?_) rfl (by kernel_rfl) (by kernel_rfl) (by kernel_rfl) (fun _ _ _ h => h) (Or.inl ⟨by rfl, ?h17_7_2_3_9⟩) (by assumption) ?_
  case h17_7_2_3_9 => (intro w hSw; (try dsimp only at hSw); go_simp; try with_reducible rfl)
  try simp only [Act.put, List.setIfInBounds_toArray, List.set_cons_zero, List.set_cons_succ, List.getElem_toArray, List.getElem_cons_zero, List.getElem_cons_succ]
  refine wpAnyH_ready (rs := [3, 8]) (by kernel_rfl) (by simp) ?_
  refine (AllReadyH.cons rfl (fun K hK => ?_) (AllReadyH.cons rfl (fun K hK => ?_) AllReadyH.nil))
  · skip
    go_simp
    (with_reducible refine (push_m (HD.out.1.1.below (dqr _)) HD.out.2.1 HD.out.2.2 HS.out.1 HS.out.2).mono ?_)
    rintro e w2 ⟨rfl, h2, f2⟩
    have y2 := (f2.blk HBX.out.drew (.inr rfl)).cell 2 (i64 id) rfl
    have y3 := (f2.blk HBX.out.drew (.inr rfl)).cell 3 (i64 sp) rfl
    have y4 := (f2.blk HBX.out.drew (.inr rfl)).cell 4 (.string nm) rfl
    have r2 := (HD.out.1.2.below (dqr _)).fr f2
    have cr2 := (rf_kept HD.out.1.2 ((Fr.of_below (dqr _) B LK).trans f2)).trans cr1
    have H2 := Lib.hid (And.intro h2 (And.intro f2 (And.intro r2 (f2.blk HBX.out.drew (.inr rfl)))))
    clear h2 f2 r2
    go_wp2_with fail
    refine hK.out _ _ (by (try dsimp only); go_keep) (fun hHeld2 => ?_)
    clear hK K hHeld
    have hHeld := hHeld2
    clear hHeld2
    try simp only [Act.put, List.setIfInBounds_toArray, List.set_cons_zero, List.set_cons_succ, List.getElem_toArray, List.getElem_cons_zero, List.getElem_cons_succ]
    refine wpAnyH_ready (rs := [8, 12]) (by kernel_rfl) (by simp) ?_
    refine (AllReadyH.cons rfl (fun K hK => ?_) (AllReadyH.cons rfl (fun K hK => ?_) AllReadyH.nil))
    · skip
      go_simp
      refine hK.out _ _ (by (try dsimp only); go_keep) (fun hHeld2 => ?_)
      clear hK K hHeld
      have hHeld := hHeld2
      clear hHeld2
      try simp only [Act.put, List.setIfInBounds_toArray, List.set_cons_zero, List.set_cons_succ, List.getElem_toArray, List.getElem_cons_zero, List.getElem_cons_succ]
      refine wpAnyH_take (i := 9) (v := ?_) rfl (by kernel_rfl) (by kernel_rfl) (by kernel_rfl) (fun _ _ _ h => h) (Or.inl ⟨by rfl, ?h17_7_2_3_10⟩) (by assumption) ?_
      case h17_7_2_3_10 => (intro w hSw; (try dsimp only at hSw); go_simp; try with_reducible rfl)
      try simp only [Act.put, List.setIfInBounds_toArray, List.set_cons_zero, List.set_cons_succ, List.getElem_toArray, List.getElem_cons_zero, List.getElem_cons_succ]
      refine wpAnyH_ready (rs := [12]) (by kernel_rfl) (by simp) ?_
      refine AllReadyH.cons rfl (fun K hK => ?_) AllReadyH.nil
      go_simp
      (with_reducible refine (ref_any).mono ?_)
      rintro e w3 ⟨rfl, h3⟩
      have z2 := (blk_kept H2.out.2.2.2 h3).cell 2 (i64 id) rfl
      have z3 := (blk_kept H2.out.2.2.2 h3).cell 3 (i64 sp) rfl
      have z4 := (blk_kept H2.out.2.2.2 h3).cell 4 (.string nm) rfl
      have cr3 := (h3.cell (p := ⟨rb, 0, none⟩) H2.out.2.2.1.lt).trans cr2
      have H3 := Lib.hid (And.intro h3 (blk_kept H2.out.2.2.2 h3))
      clear h3
      go_wp2_with fail
      refine hK.out _ _ (by (try dsimp only); go_keep) (fun hHeld2 => ?_)
      clear hK K hHeld
      have hHeld := hHeld2
      clear hHeld2
      try simp only [Act.put, List.setIfInBounds_toArray, List.set_cons_zero, List.set_cons_succ, List.getElem_toArray, List.getElem_cons_zero, List.getElem_cons_succ]
      refine wpAnyH_ready (rs := [13]) (by kernel_rfl) (by simp) ?_
      refine AllReadyH.cons rfl (fun K hK => ?_) AllReadyH.nil
      go_simp
      (with_reducible refine (rins_n (H2.out.2.2.1.below H3.out.1) HD.out.2.1 HS.out.1 HS.out.2).mono ?_)
      rintro e w4 ⟨rfl, h4, f4⟩
      have v2 := (f4.blk H3.out.2 (.inr rfl)).cell 2 (i64 id) rfl
      have v3 := (f4.blk H3.out.2 (.inr rfl)).cell 3 (i64 sp) rfl
      have v4 := (f4.blk H3.out.2 (.inr rfl)).cell 4 (.string nm) rfl
      have H4 := Lib.hid (And.intro h4 f4)
      clear h4 f4
      go_wp2_with fail
      refine hK.out _ _ (by (try dsimp only); go_keep) (fun hHeld2 => ?_)
      clear hK K hHeld
      have hHeld := hHeld2
      clear hHeld2
      try simp only [Act.put, List.setIfInBounds_toArray, List.set_cons_zero, List.set_cons_succ, List.getElem_toArray, List.getElem_cons_zero, List.getElem_cons_succ]
      refine wpAnyH_take (i := 14) (v := ?_) rfl (by kernel_rfl) (by kernel_rfl) (by kernel_rfl) (fun _ _ _ h => h) (Or.inl ⟨by rfl, ?h17_7_2_3_11⟩) (by assumption) ?_
      case h17_7_2_3_11 => (intro w hSw; (try dsimp only at hSw); go_simp; try with_reducible rfl)
      try simp only [Act.put, List.setIfInBounds_toArray, List.set_cons_zero, List.set_cons_succ, List.getElem_toArray, List.getElem_cons_zero, List.getElem_cons_succ]
      refine wpAnyH_take (i := 15) (v := ?_) rfl (by kernel_rfl) (by kernel_rfl) (by kernel_rfl) (fun _ _ _ h => h) (Or.inl ⟨by rfl, ?h17_7_2_3_12⟩) (by assumption) ?_
      case h17_7_2_3_12 => (intro w hSw; (try dsimp only at hSw); go_simp; try with_reducible rfl)
      try simp only [Act.put, List.setIfInBounds_toArray, List.set_cons_zero, List.set_cons_succ, List.getElem_toArray, List.getElem_cons_zero, List.getElem_cons_succ]
      refine wpAnyH_done (by kernel_rfl) ?_ _
      go_wp2
      go_ret
      exact do_done HB1.out H2.out.1 H2.out.2.1 H3.out.1 H4.out.1 H4.out.2
    · skip
      go_simp
      (with_reducible refine (ref_any).mono ?_)
      rintro e w3 ⟨rfl, h3⟩
      have z2 := (blk_kept H2.out.2.2.2 h3).cell 2 (i64 id) rfl
      have z3 := (blk_kept H2.out.2.2.2 h3).cell 3 (i64 sp) rfl
      have z4 := (blk_kept H2.out.2.2.2 h3).cell 4 (.string nm) rfl
      have cr3 := (h3.cell (p := ⟨rb, 0, none⟩) H2.out.2.2.1.lt).trans cr2
      have H3 := Lib.hid (And.intro h3 (blk_kept H2.out.2.2.2 h3))
      clear h3
      go_wp2_with fail
      refine hK.out _ _ (by (try dsimp only); go_keep) (fun hHeld2 => ?_)
      clear hK K hHeld
      have hHeld := hHeld2
      clear hHeld2
      try simp only [Act.put, List.setIfInBounds_toArray, List.set_cons_zero, List.set_cons_succ, List.getElem_toArray, List.getElem_cons_zero, List.getElem_cons_succ]
      refine wpAnyH_ready (rs := [8]) (by kernel_rfl) (by simp) ?_
      refine AllReadyH.cons rfl (fun K hK => ?_) AllReadyH.nil
      go_simp
      refine hK.out _ _ (by (try dsimp only); go_keep) (fun hHeld2 => ?_)
      clear hK K hHeld
      have hHeld := hHeld2
      clear hHeld2
      try simp only [Act.put, List.setIfInBounds_toArray, List.set_cons_zero, List.set_cons_succ, List.getElem_toArray, List.getElem_cons_zero, List.getElem_cons_succ]
      refine wpAnyH_take (i := 9) (v := ?_) rfl (by kernel_rfl) (by kernel_rfl) (by kernel_rfl) (fun _ _ _ h => h) (Or.inl ⟨by rfl, ?h17_7_2_3_13⟩) (by assumption) ?_
      case h17_7_2_3_13 => (intro w hSw; (try dsimp only at hSw); go_simp; try with_reducible rfl)
      try simp only [Act.put, List.setIfInBounds_toArray, List.set_cons_zero, List.set_cons_succ, List.getElem_toArray, List.getElem_cons_zero, List.getElem_cons_succ]
      refine wpAnyH_ready (rs := [13]) (by kernel_rfl) (by simp) ?_
      refine AllReadyH.cons rfl (fun K hK => ?_) AllReadyH.nil
      go_simp
      (with_reducible refine (rins_n (H2.out.2.2.1.below H3.out.1) HD.out.2.1 HS.out.1 HS.out.2).mono ?_)
      rintro e w4 ⟨rfl, h4, f4⟩
      have v2 := (f4.blk H3.out.2 (.inr rfl)).cell 2 (i64 id) rfl
      have v3 := (f4.blk H3.out.2 (.inr rfl)).cell 3 (i64 sp) rfl
      have v4 := (f4.blk H3.out.2 (.inr rfl)).cell 4 (.string nm) rfl
      have H4 := Lib.hid (And.intro h4 f4)
      clear h4 f4
      go_wp2_with fail
      refine hK.out _ _ (by (try dsimp only); go_keep) (fun hHeld2 => ?_)
      clear hK K hHeld
      have hHeld := hHeld2
      clear hHeld2
      try simp only [Act.put, List.setIfInBounds_toArray, List.set_cons_zero, List.set_cons_succ, List.getElem_toArray, List.getElem_cons_zero, List.getElem_cons_succ]
      refine wpAnyH_take (i := 14) (v := ?_) rfl (by kernel_rfl) (by kernel_rfl) (by kernel_rfl) (fun _ _ _ h => h) (Or.inl ⟨by rfl, ?h17_7_2_3_14⟩) (by assumption) ?_
      case h17_7_2_3_14 => (intro w hSw; (try dsimp only at hSw); go_simp; try with_reducible rfl)
      try simp only [Act.put, List.setIfInBounds_toArray, List.set_cons_zero, List.set_cons_succ, List.getElem_toArray, List.getElem_cons_zero, List.getElem_cons_succ]
      refine wpAnyH_take (i := 15) (v := ?_) rfl (by kernel_rfl) (by kernel_rfl) (by kernel_rfl) (fun _ _ _ h => h) (Or.inl ⟨by rfl, ?h17_7_2_3_15⟩) (by assumption) ?_
      case h17_7_2_3_15 => (intro w hSw; (try dsimp only at hSw); go_simp; try with_reducible rfl)
      try simp only [Act.put, List.setIfInBounds_toArray, List.set_cons_zero, List.set_cons_succ, List.getElem_toArray, List.getElem_cons_zero, List.getElem_cons_succ]
      refine wpAnyH_done (by kernel_rfl) ?_ _
      go_wp2
      go_ret
      exact do_done HB1.out H2.out.1 H2.out.2.1 H3.out.1 H4.out.1 H4.out.2
  · skip
    go_simp
    refine hK.out _ _ (by (try dsimp only); go_keep) (fun hHeld2 => ?_)
    clear hK K hHeld
    have hHeld := hHeld2
    clear hHeld2
    try simp only [Act.put, List.setIfInBounds_toArray, List.set_cons_zero, List.set_cons_succ, List.getElem_toArray, List.getElem_cons_zero, List.getElem_cons_succ]
    refine wpAnyH_take (i := 9) (v := ?_) rfl (by kernel_rfl) (by kernel_rfl) (by kernel_rfl) (fun _ _ _ h => h) (Or.inl ⟨by rfl, ?h17_7_2_3_16⟩) (by assumption) ?_
    case h17_7_2_3_16 => (intro w hSw; (try dsimp only at hSw); go_simp; try with_reducible rfl)
    try simp only [Act.put, List.setIfInBounds_toArray, List.set_cons_zero, List.set_cons_succ, List.getElem_toArray, List.getElem_cons_zero, List.getElem_cons_succ]
    refine wpAnyH_ready (rs := [3]) (by kernel_rfl) (by simp) ?_
    refine AllReadyH.cons rfl (fun K hK => ?_) AllReadyH.nil
    go_simp
    (with_reducible refine (push_m (HD.out.1.1.below (dqr _)) HD.out.2.1 HD.out.2.2 HS.out.1 HS.out.2).mono ?_)
    rintro e w2 ⟨rfl, h2, f2⟩
    have y2 := (f2.blk HBX.out.drew (.inr rfl)).cell 2 (i64 id) rfl
    have y3 := (f2.blk HBX.out.drew (.inr rfl)).cell 3 (i64 sp) rfl
    have y4 := (f2.blk HBX.out.drew (.inr rfl)).cell 4 (.string nm) rfl
    have r2 := (HD.out.1.2.below (dqr _)).fr f2
    have cr2 := (rf_kept HD.out.1.2 ((Fr.of_below (dqr _) B LK).trans f2)).trans cr1
    have H2 := Lib.hid (And.intro h2 (And.intro f2 (And.intro r2 (f2.blk HBX.out.drew (.inr rfl)))))
    clear h2 f2 r2
    go_wp2_with fail
    refine hK.out _ _ (by (try dsimp only); go_keep) (fun hHeld2 => ?_)
    clear hK K hHeld
    have hHeld := hHeld2
    clear hHeld2
    try simp only [Act.put, List.setIfInBounds_toArray, List.set_cons_zero, List.set_cons_succ, List.getElem_toArray, List.getElem_cons_zero, List.getElem_cons_succ]
    refine wpAnyH_ready (rs := [12]) (by kernel_rfl) (by simp) ?_
    refine AllReadyH.cons rfl (fun K hK => ?_) AllReadyH.nil
    go_simp
    (with_reducible refine (ref_any).mono ?_)
    rintro e w3 ⟨rfl, h3⟩
    have z2 := (blk_kept H2.out.2.2.2 h3).cell 2 (i64 id) rfl
    have z3 := (blk_kept H2.out.2.2.2 h3).cell 3 (i64 sp) rfl
    have z4 := (blk_kept H2.out.2.2.2 h3).cell 4 (.string nm) rfl
    have cr3 := (h3.cell (p := ⟨rb, 0, none⟩) H2.out.2.2.1.lt).trans cr2
    have H3 := Lib.hid (And.intro h3 (blk_kept H2.out.2.2.2 h3))
    clear h3
    go_wp2_with fail
    refine hK.out _ _ (by (try dsimp only); go_keep) (fun hHeld2 => ?_)
    clear hK K hHeld
    have hHeld := hHeld2
    clear hHeld2
    try simp only [Act.put, List.setIfInBounds_toArray, List.set_cons_zero, List.set_cons_succ, List.getElem_toArray, List.getElem_cons_zero, List.getElem_cons_succ]
    refine wpAnyH_ready (rs := [13]) (by kernel_rfl) (by simp) ?_
    refine AllReadyH.cons rfl (fun K hK => ?_) AllReadyH.nil
    go_simp
    (with_reducible refine (rins_n (H2.out.2.2.1.below H3.out.1) HD.out.2.1 HS.out.1 HS.out.2).mono ?_)
    rintro e w4 ⟨rfl, h4, f4⟩
    have v2 := (f4.blk H3.out.2 (.inr rfl)).cell 2 (i64 id) rfl
    have v3 := (f4.blk H3.out.2 (.inr rfl)).cell 3 (i64 sp) rfl
    have v4 := (f4.blk H3.out.2 (.inr rfl)).cell 4 (.string nm) rfl
    have H4 := Lib.hid (And.intro h4 f4)
    clear h4 f4
    go_wp2_with fail
    refine hK.out _ _ (by (try dsimp only); go_keep) (fun hHeld2 => ?_)
    clear hK K hHeld
    have hHeld := hHeld2
    clear hHeld2
    try simp only [Act.put, List.setIfInBounds_toArray, List.set_cons_zero, List.set_cons_succ, List.getElem_toArray, List.getElem_cons_zero, List.getElem_cons_succ]
    refine wpAnyH_take (i := 14) (v := ?_) rfl (by kernel_rfl) (by kernel_rfl) (by kernel_rfl) (fun _ _ _ h => h) (Or.inl ⟨by rfl, ?h17_7_2_3_17⟩) (by assumption) ?_
    case h17_7_2_3_17 => (intro w hSw; (try dsimp only at hSw); go_simp; try with_reducible rfl)
    try simp only [Act.put, List.setIfInBounds_toArray, List.set_cons_zero, List.set_cons_succ, List.getElem_toArray, List.getElem_cons_zero, List.getElem_cons_succ]
    refine wpAnyH_take (i := 15) (v := ?_) rfl (by kernel_rfl) (by kernel_rfl) (by kernel_rfl) (fun _ _ _ h => h) (Or.inl ⟨by rfl, ?h17_7_2_3_18⟩) (by assumption) ?_
    case h17_7_2_3_18 => (intro w hSw; (try dsimp only at hSw); go_simp; try with_reducible rfl)
    try simp only [Act.put, List.setIfInBounds_toArray, List.set_cons_zero, List.set_cons_succ, List.getElem_toArray, List.getElem_cons_zero, List.getElem_cons_succ]
    refine wpAnyH_done (by kernel_rfl) ?_ _
    go_wp2
    go_ret
    exact do_done HB1.out H2.out.1 H2.out.2.1 H3.out.1 H4.out.1 H4.out.2
set_option maxHeartbeats 4000000 in
set_option maxRecDepth 100000 in
theorem does_push1 (h : Duo w B lb rb es) (hl : es.length ≤ 200) (hs : insS es es.length ⟨id, sp, nm⟩ = es') : Calls Try.prog 17 #[ptr lb, ptr rb, .agg #[i64 1, i64 at_, i64 id, i64 sp, .string nm, .string n1, .string n2]] w (DoIt B lb rb es' w) := by
  obtain ⟨n, hn⟩ : ∃ n, es.length = n := ⟨_, rfl⟩
  obtain ⟨ad, c, cr, hre, hrl⟩ := h.2.at_ hn
  have hbx := (Blk.new w 46 #[i64 1, i64 at_, i64 id, i64 sp, .string nm, .string n1, .string n2]).alloc (.cells #[.string n1, .string n2] 9)
  have b0 : Below w.heap.size w ((w.alloc (.cells #[i64 1, i64 at_, i64 id, i64 sp, .string nm, .string n1, .string n2] 46)).alloc (.cells #[.string n1, .string n2] 9)) := ((Below.refl _ w).alloc (Nat.le_refl _) _).alloc (by simp) _
  have cr1 : ((w.alloc (.cells #[i64 1, i64 at_, i64 id, i64 sp, .string nm, .string n1, .string n2] 46)).alloc (.cells #[.string n1, .string n2] 9)).cell? ⟨rb, 0, none⟩ = some (.slice ad n c) := (b0.cell (p := ⟨rb, 0, none⟩) hrl).trans cr
  have HNM := Lib.hid (NamesAt.two (w.alloc (.cells #[i64 1, i64 at_, i64 id, i64 sp, .string nm, .string n1, .string n2] 46)) n1 n2 9)
  have HBX := Lib.hid hbx
  have HB0 := Lib.hid b0
  have HB1 := Lib.hid b0.drew
  have HD := Lib.hid (And.intro (h.below b0) (And.intro hl hn))
  have HRE := Lib.hid (And.intro hre (h.2))
  have x0 := hbx.cell 0 (i64 1) rfl
  have x1 := hbx.cell 1 (i64 at_) rfl
  have x2 := hbx.cell 2 (i64 id) rfl
  have x3 := hbx.cell 3 (i64 sp) rfl
  have x4 := hbx.cell 4 (.string nm) rfl
  have x5 := hbx.cell 5 (.string n1) rfl
  have x6 := hbx.cell 6 (.string n2) rfl
  obtain ⟨r, hr⟩ : ∃ r, insR es n = r := ⟨_, rfl⟩
  rw [hn] at hs
  have HS := Lib.hid (And.intro hs hr)
  clear h hl hs hr hn hbx b0 cr hre
  go_enter Try.func17, Try.ntmps17
  go_wp2_with fail
  refine wp_region_held_drew (S := (fun w' => w'.cell? ⟨w.heap.size, 2, none⟩ = some (i64 id) ∧ w'.cell? ⟨w.heap.size, 3, none⟩ = some (i64 sp) ∧ w'.cell? ⟨w.heap.size, 4, none⟩ = some (.string nm))) (by kernel_rfl) (by (try dsimp only); go_keep) (fun hHeld => ?_)
  refine wpAnyH_take (i := 0) (v := ?_) rfl (by kernel_rfl) (by kernel_rfl) (by kernel_rfl) (fun _ _ _ h => h) (Or.inl ⟨by rfl, ?h17_7_2_4_1⟩) (by assumption) ?_
  case h17_7_2_4_1 => (intro w hSw; (try dsimp only at hSw); go_simp; try with_reducible rfl)
  try simp only [Act.put, List.setIfInBounds_toArray, List.set_cons_zero, List.set_cons_succ, List.getElem_toArray, List.getElem_cons_zero, List.getElem_cons_succ]
  refine wpAnyH_take (i := 1) (v := ?_) rfl (by kernel_rfl) (by kernel_rfl) (by kernel_rfl) (fun _ _ _ h => h) (Or.inl ⟨by rfl, ?h17_7_2_4_2⟩) (by assumption) ?_
  case h17_7_2_4_2 => (intro w hSw; (try dsimp only at hSw); go_simp; try with_reducible rfl)
  try simp only [Act.put, List.setIfInBounds_toArray, List.set_cons_zero, List.set_cons_succ, List.getElem_toArray, List.getElem_cons_zero, List.getElem_cons_succ]
  refine wpAnyH_take (i := 2) (v := ?_) rfl (by kernel_rfl) (by kernel_rfl) (by kernel_rfl) (fun _ _ _ h => h) (Or.inl ⟨by rfl, ?h17_7_2_4_3⟩) (by assumption) ?_
  case h17_7_2_4_3 => (intro w hSw; (try dsimp only at hSw); go_simp; try with_reducible rfl)
  try simp only [Act.put, List.setIfInBounds_toArray, List.set_cons_zero, List.set_cons_succ, List.getElem_toArray, List.getElem_cons_zero, List.getElem_cons_succ]
  refine wpAnyH_take (i := 4) (v := ?_) rfl (by kernel_rfl) (by kernel_rfl) (by kernel_rfl) (fun _ _ _ h => h) (Or.inl ⟨by rfl, ?h17_7_2_4_4⟩) (by assumption) ?_
  case h17_7_2_4_4 => (intro w hSw; (try dsimp only at hSw); go_simp; try with_reducible rfl)
  try simp only [Act.put, List.setIfInBounds_toArray, List.set_cons_zero, List.set_cons_succ, List.getElem_toArray, List.getElem_cons_zero, List.getElem_cons_succ]
  refine wpAnyH_take (i := 5) (v := ?_) rfl (by kernel_rfl) (by kernel_rfl) (by kernel_rfl) (fun _ _ _ h => h) (Or.inl ⟨by rfl, ?h17_7_2_4_5⟩) (by assumption) ?_
  case h17_7_2_4_5 => (intro w hSw; (try dsimp only at hSw); go_simp; try with_reducible rfl)
  try simp only [Act.put, List.setIfInBounds_toArray, List.set_cons_zero, List.set_cons_succ, List.getElem_toArray, List.getElem_cons_zero, List.getElem_cons_succ]
  refine wpAnyH_take (i := 6) (v := ?_) rfl (by kernel_rfl) (by kernel_rfl) (by kernel_rfl) (fun _ _ _ h => h) (Or.inl ⟨by rfl, ?h17_7_2_4_6⟩) (by assumption) ?_
  case h17_7_2_4_6 => (intro w hSw; (try dsimp only at hSw); go_simp; try with_reducible rfl)
  try simp only [Act.put, List.setIfInBounds_toArray, List.set_cons_zero, List.set_cons_succ, List.getElem_toArray, List.getElem_cons_zero, List.getElem_cons_succ]
  refine wpAnyH_take (i := 7) (v := ?_) rfl (by kernel_rfl) (by kernel_rfl) (by kernel_rfl) (fun _ _ _ h => h) (Or.inl ⟨by rfl, ?h17_7_2_4_7⟩) (by assumption) ?_
  case h17_7_2_4_7 => (intro w hSw; (try dsimp only at hSw); go_simp; try with_reducible rfl)
  try simp only [Act.put, List.setIfInBounds_toArray, List.set_cons_zero, List.set_cons_succ, List.getElem_toArray, List.getElem_cons_zero, List.getElem_cons_succ]
  refine wpAnyH_take (i := 10) (v := ?_) rfl (by kernel_rfl) (by kernel_rfl) (by kernel_rfl) (fun _ _ _ h => h) (Or.inl ⟨by rfl, ?h17_7_2_4_8⟩) (by assumption) ?_
  case h17_7_2_4_8 => (intro w hSw; (try dsimp only at hSw); go_simp; try with_reducible rfl)
  try simp only [Act.put, List.setIfInBounds_toArray, List.set_cons_zero, List.set_cons_succ, List.getElem_toArray, List.getElem_cons_zero, List.getElem_cons_succ]
  refine wpAnyH_take (i := 11) (v := ?_) rfl (by kernel_rfl) (by kernel_rfl) (by kernel_rfl) (fun _ _ _ h => h) (Or.inl ⟨by rfl, ?h17_7_2_4_9⟩) (by assumption) ?_
  case h17_7_2_4_9 => (intro w hSw; (try dsimp only at hSw); go_simp; try with_reducible rfl)
  try simp only [Act.put, List.setIfInBounds_toArray, List.set_cons_zero, List.set_cons_succ, List.getElem_toArray, List.getElem_cons_zero, List.getElem_cons_succ]
  refine wpAnyH_ready (rs := [3, 8]) (by kernel_rfl) (by simp) ?_
  refine (AllReadyH.cons rfl (fun K hK => ?_) (AllReadyH.cons rfl (fun K hK => ?_) AllReadyH.nil))
  · skip
    go_simp
    (with_reducible refine (push_m (HD.out.1.1.below (dqr _)) HD.out.2.1 HD.out.2.2 HS.out.1 HS.out.2).mono ?_)
    rintro e w2 ⟨rfl, h2, f2⟩
    have y2 := (f2.blk HBX.out.drew (.inr rfl)).cell 2 (i64 id) rfl
    have y3 := (f2.blk HBX.out.drew (.inr rfl)).cell 3 (i64 sp) rfl
    have y4 := (f2.blk HBX.out.drew (.inr rfl)).cell 4 (.string nm) rfl
    have r2 := (HD.out.1.2.below (dqr _)).fr f2
    have cr2 := (rf_kept HD.out.1.2 ((Fr.of_below (dqr _) B LK).trans f2)).trans cr1
    have H2 := Lib.hid (And.intro h2 (And.intro f2 (And.intro r2 (f2.blk HBX.out.drew (.inr rfl)))))
    clear h2 f2 r2
    go_wp2_with fail
    refine hK.out _ _ (by (try dsimp only); go_keep) (fun hHeld2 => ?_)
    clear hK K hHeld
    have hHeld := hHeld2
    clear hHeld2
    try simp only [Act.put, List.setIfInBounds_toArray, List.set_cons_zero, List.set_cons_succ, List.getElem_toArray, List.getElem_cons_zero, List.getElem_cons_succ]
    refine wpAnyH_ready (rs := [8, 12]) (by kernel_rfl) (by simp) ?_
    refine (AllReadyH.cons rfl (fun K hK => ?_) (AllReadyH.cons rfl (fun K hK => ?_) AllReadyH.nil))
    · skip
      go_simp
      refine hK.out _ _ (by (try dsimp only); go_keep) (fun hHeld2 => ?_)
      clear hK K hHeld
      have hHeld := hHeld2
      clear hHeld2
      try simp only [Act.put, List.setIfInBounds_toArray, List.set_cons_zero, List.set_cons_succ, List.getElem_toArray, List.getElem_cons_zero, List.getElem_cons_succ]
      refine wpAnyH_take (i := 9) (v := ?_) rfl (by kernel_rfl) (by kernel_rfl) (by kernel_rfl) (fun _ _ _ h => h) (Or.inl ⟨by rfl, ?h17_7_2_4_10⟩) (by assumption) ?_
      case h17_7_2_4_10 => (intro w hSw; (try dsimp only at hSw); go_simp; try with_reducible rfl)
      try simp only [Act.put, List.setIfInBounds_toArray, List.set_cons_zero, List.set_cons_succ, List.getElem_toArray, List.getElem_cons_zero, List.getElem_cons_succ]
      refine wpAnyH_ready (rs := [12]) (by kernel_rfl) (by simp) ?_
      refine AllReadyH.cons rfl (fun K hK => ?_) AllReadyH.nil
      go_simp
      (with_reducible refine (ref_any).mono ?_)
      rintro e w3 ⟨rfl, h3⟩
      have z2 := (blk_kept H2.out.2.2.2 h3).cell 2 (i64 id) rfl
      have z3 := (blk_kept H2.out.2.2.2 h3).cell 3 (i64 sp) rfl
      have z4 := (blk_kept H2.out.2.2.2 h3).cell 4 (.string nm) rfl
      have cr3 := (h3.cell (p := ⟨rb, 0, none⟩) H2.out.2.2.1.lt).trans cr2
      have H3 := Lib.hid (And.intro h3 (blk_kept H2.out.2.2.2 h3))
      clear h3
      go_wp2_with fail
      refine hK.out _ _ (by (try dsimp only); go_keep) (fun hHeld2 => ?_)
      clear hK K hHeld
      have hHeld := hHeld2
      clear hHeld2
      try simp only [Act.put, List.setIfInBounds_toArray, List.set_cons_zero, List.set_cons_succ, List.getElem_toArray, List.getElem_cons_zero, List.getElem_cons_succ]
      refine wpAnyH_ready (rs := [13]) (by kernel_rfl) (by simp) ?_
      refine AllReadyH.cons rfl (fun K hK => ?_) AllReadyH.nil
      go_simp
      (with_reducible refine (rins_n (H2.out.2.2.1.below H3.out.1) HD.out.2.1 HS.out.1 HS.out.2).mono ?_)
      rintro e w4 ⟨rfl, h4, f4⟩
      have v2 := (f4.blk H3.out.2 (.inr rfl)).cell 2 (i64 id) rfl
      have v3 := (f4.blk H3.out.2 (.inr rfl)).cell 3 (i64 sp) rfl
      have v4 := (f4.blk H3.out.2 (.inr rfl)).cell 4 (.string nm) rfl
      have H4 := Lib.hid (And.intro h4 f4)
      clear h4 f4
      go_wp2_with fail
      refine hK.out _ _ (by (try dsimp only); go_keep) (fun hHeld2 => ?_)
      clear hK K hHeld
      have hHeld := hHeld2
      clear hHeld2
      try simp only [Act.put, List.setIfInBounds_toArray, List.set_cons_zero, List.set_cons_succ, List.getElem_toArray, List.getElem_cons_zero, List.getElem_cons_succ]
      refine wpAnyH_take (i := 14) (v := ?_) rfl (by kernel_rfl) (by kernel_rfl) (by kernel_rfl) (fun _ _ _ h => h) (Or.inl ⟨by rfl, ?h17_7_2_4_11⟩) (by assumption) ?_
      case h17_7_2_4_11 => (intro w hSw; (try dsimp only at hSw); go_simp; try with_reducible rfl)
      try simp only [Act.put, List.setIfInBounds_toArray, List.set_cons_zero, List.set_cons_succ, List.getElem_toArray, List.getElem_cons_zero, List.getElem_cons_succ]
      refine wpAnyH_take (i := 15) (v := ?_) rfl (by kernel_rfl) (by kernel_rfl) (by kernel_rfl) (fun _ _ _ h => h) (Or.inl ⟨by rfl, ?h17_7_2_4_12⟩) (by assumption) ?_
      case h17_7_2_4_12 => (intro w hSw; (try dsimp only at hSw); go_simp; try with_reducible rfl)
      try simp only [Act.put, List.setIfInBounds_toArray, List.set_cons_zero, List.set_cons_succ, List.getElem_toArray, List.getElem_cons_zero, List.getElem_cons_succ]
      refine wpAnyH_done (by kernel_rfl) ?_ _
      go_wp2
      go_ret
      exact do_done HB1.out H2.out.1 H2.out.2.1 H3.out.1 H4.out.1 H4.out.2
    · skip
      go_simp
      (with_reducible refine (ref_any).mono ?_)
      rintro e w3 ⟨rfl, h3⟩
      have z2 := (blk_kept H2.out.2.2.2 h3).cell 2 (i64 id) rfl
      have z3 := (blk_kept H2.out.2.2.2 h3).cell 3 (i64 sp) rfl
      have z4 := (blk_kept H2.out.2.2.2 h3).cell 4 (.string nm) rfl
      have cr3 := (h3.cell (p := ⟨rb, 0, none⟩) H2.out.2.2.1.lt).trans cr2
      have H3 := Lib.hid (And.intro h3 (blk_kept H2.out.2.2.2 h3))
      clear h3
      go_wp2_with fail
      refine hK.out _ _ (by (try dsimp only); go_keep) (fun hHeld2 => ?_)
      clear hK K hHeld
      have hHeld := hHeld2
      clear hHeld2
      try simp only [Act.put, List.setIfInBounds_toArray, List.set_cons_zero, List.set_cons_succ, List.getElem_toArray, List.getElem_cons_zero, List.getElem_cons_succ]
      refine wpAnyH_ready (rs := [8]) (by kernel_rfl) (by simp) ?_
      refine AllReadyH.cons rfl (fun K hK => ?_) AllReadyH.nil
      go_simp
      refine hK.out _ _ (by (try dsimp only); go_keep) (fun hHeld2 => ?_)
      clear hK K hHeld
      have hHeld := hHeld2
      clear hHeld2
      try simp only [Act.put, List.setIfInBounds_toArray, List.set_cons_zero, List.set_cons_succ, List.getElem_toArray, List.getElem_cons_zero, List.getElem_cons_succ]
      refine wpAnyH_take (i := 9) (v := ?_) rfl (by kernel_rfl) (by kernel_rfl) (by kernel_rfl) (fun _ _ _ h => h) (Or.inl ⟨by rfl, ?h17_7_2_4_13⟩) (by assumption) ?_
      case h17_7_2_4_13 => (intro w hSw; (try dsimp only at hSw); go_simp; try with_reducible rfl)
      try simp only [Act.put, List.setIfInBounds_toArray, List.set_cons_zero, List.set_cons_succ, List.getElem_toArray, List.getElem_cons_zero, List.getElem_cons_succ]
      refine wpAnyH_ready (rs := [13]) (by kernel_rfl) (by simp) ?_
      refine AllReadyH.cons rfl (fun K hK => ?_) AllReadyH.nil
      go_simp
      (with_reducible refine (rins_n (H2.out.2.2.1.below H3.out.1) HD.out.2.1 HS.out.1 HS.out.2).mono ?_)
      rintro e w4 ⟨rfl, h4, f4⟩
      have v2 := (f4.blk H3.out.2 (.inr rfl)).cell 2 (i64 id) rfl
      have v3 := (f4.blk H3.out.2 (.inr rfl)).cell 3 (i64 sp) rfl
      have v4 := (f4.blk H3.out.2 (.inr rfl)).cell 4 (.string nm) rfl
      have H4 := Lib.hid (And.intro h4 f4)
      clear h4 f4
      go_wp2_with fail
      refine hK.out _ _ (by (try dsimp only); go_keep) (fun hHeld2 => ?_)
      clear hK K hHeld
      have hHeld := hHeld2
      clear hHeld2
      try simp only [Act.put, List.setIfInBounds_toArray, List.set_cons_zero, List.set_cons_succ, List.getElem_toArray, List.getElem_cons_zero, List.getElem_cons_succ]
      refine wpAnyH_take (i := 14) (v := ?_) rfl (by kernel_rfl) (by kernel_rfl) (by kernel_rfl) (fun _ _ _ h => h) (Or.inl ⟨by rfl, ?h17_7_2_4_14⟩) (by assumption) ?_
      case h17_7_2_4_14 => (intro w hSw; (try dsimp only at hSw); go_simp; try with_reducible rfl)
      try simp only [Act.put, List.setIfInBounds_toArray, List.set_cons_zero, List.set_cons_succ, List.getElem_toArray, List.getElem_cons_zero, List.getElem_cons_succ]
      refine wpAnyH_take (i := 15) (v := ?_) rfl (by kernel_rfl) (by kernel_rfl) (by kernel_rfl) (fun _ _ _ h => h) (Or.inl ⟨by rfl, ?h17_7_2_4_15⟩) (by assumption) ?_
      case h17_7_2_4_15 => (intro w hSw; (try dsimp only at hSw); go_simp; try with_reducible rfl)
      try simp only [Act.put, List.setIfInBounds_toArray, List.set_cons_zero, List.set_cons_succ, List.getElem_toArray, List.getElem_cons_zero, List.getElem_cons_succ]
      refine wpAnyH_done (by kernel_rfl) ?_ _
      go_wp2
      go_ret
      exact do_done HB1.out H2.out.1 H2.out.2.1 H3.out.1 H4.out.1 H4.out.2
  · skip
    go_simp
    refine hK.out _ _ (by (try dsimp only); go_keep) (fun hHeld2 => ?_)
    clear hK K hHeld
    have hHeld := hHeld2
    clear hHeld2
    try simp only [Act.put, List.setIfInBounds_toArray, List.set_cons_zero, List.set_cons_succ, List.getElem_toArray, List.getElem_cons_zero, List.getElem_cons_succ]
    refine wpAnyH_take (i := 9) (v := ?_) rfl (by kernel_rfl) (by kernel_rfl) (by kernel_rfl) (fun _ _ _ h => h) (Or.inl ⟨by rfl, ?h17_7_2_4_16⟩) (by assumption) ?_
    case h17_7_2_4_16 => (intro w hSw; (try dsimp only at hSw); go_simp; try with_reducible rfl)
    try simp only [Act.put, List.setIfInBounds_toArray, List.set_cons_zero, List.set_cons_succ, List.getElem_toArray, List.getElem_cons_zero, List.getElem_cons_succ]
    refine wpAnyH_ready (rs := [3]) (by kernel_rfl) (by simp) ?_
    refine AllReadyH.cons rfl (fun K hK => ?_) AllReadyH.nil
    go_simp
    (with_reducible refine (push_m (HD.out.1.1.below (dqr _)) HD.out.2.1 HD.out.2.2 HS.out.1 HS.out.2).mono ?_)
    rintro e w2 ⟨rfl, h2, f2⟩
    have y2 := (f2.blk HBX.out.drew (.inr rfl)).cell 2 (i64 id) rfl
    have y3 := (f2.blk HBX.out.drew (.inr rfl)).cell 3 (i64 sp) rfl
    have y4 := (f2.blk HBX.out.drew (.inr rfl)).cell 4 (.string nm) rfl
    have r2 := (HD.out.1.2.below (dqr _)).fr f2
    have cr2 := (rf_kept HD.out.1.2 ((Fr.of_below (dqr _) B LK).trans f2)).trans cr1
    have H2 := Lib.hid (And.intro h2 (And.intro f2 (And.intro r2 (f2.blk HBX.out.drew (.inr rfl)))))
    clear h2 f2 r2
    go_wp2_with fail
    refine hK.out _ _ (by (try dsimp only); go_keep) (fun hHeld2 => ?_)
    clear hK K hHeld
    have hHeld := hHeld2
    clear hHeld2
    try simp only [Act.put, List.setIfInBounds_toArray, List.set_cons_zero, List.set_cons_succ, List.getElem_toArray, List.getElem_cons_zero, List.getElem_cons_succ]
    refine wpAnyH_ready (rs := [12]) (by kernel_rfl) (by simp) ?_
    refine AllReadyH.cons rfl (fun K hK => ?_) AllReadyH.nil
    go_simp
    (with_reducible refine (ref_any).mono ?_)
    rintro e w3 ⟨rfl, h3⟩
    have z2 := (blk_kept H2.out.2.2.2 h3).cell 2 (i64 id) rfl
    have z3 := (blk_kept H2.out.2.2.2 h3).cell 3 (i64 sp) rfl
    have z4 := (blk_kept H2.out.2.2.2 h3).cell 4 (.string nm) rfl
    have cr3 := (h3.cell (p := ⟨rb, 0, none⟩) H2.out.2.2.1.lt).trans cr2
    have H3 := Lib.hid (And.intro h3 (blk_kept H2.out.2.2.2 h3))
    clear h3
    go_wp2_with fail
    refine hK.out _ _ (by (try dsimp only); go_keep) (fun hHeld2 => ?_)
    clear hK K hHeld
    have hHeld := hHeld2
    clear hHeld2
    try simp only [Act.put, List.setIfInBounds_toArray, List.set_cons_zero, List.set_cons_succ, List.getElem_toArray, List.getElem_cons_zero, List.getElem_cons_succ]
    refine wpAnyH_ready (rs := [13]) (by kernel_rfl) (by simp) ?_
    refine AllReadyH.cons rfl (fun K hK => ?_) AllReadyH.nil
    go_simp
    (with_reducible refine (rins_n (H2.out.2.2.1.below H3.out.1) HD.out.2.1 HS.out.1 HS.out.2).mono ?_)
    rintro e w4 ⟨rfl, h4, f4⟩
    have v2 := (f4.blk H3.out.2 (.inr rfl)).cell 2 (i64 id) rfl
    have v3 := (f4.blk H3.out.2 (.inr rfl)).cell 3 (i64 sp) rfl
    have v4 := (f4.blk H3.out.2 (.inr rfl)).cell 4 (.string nm) rfl
    have H4 := Lib.hid (And.intro h4 f4)
    clear h4 f4
    go_wp2_with fail
    refine hK.out _ _ (by (try dsimp only); go_keep) (fun hHeld2 => ?_)
    clear hK K hHeld
    have hHeld := hHeld2
    clear hHeld2
    try simp only [Act.put, List.setIfInBounds_toArray, List.set_cons_zero, List.set_cons_succ, List.getElem_toArray, List.getElem_cons_zero, List.getElem_cons_succ]
    refine wpAnyH_take (i := 14) (v := ?_) rfl (by kernel_rfl) (by kernel_rfl) (by kernel_rfl) (fun _ _ _ h => h) (Or.inl ⟨by rfl, ?h17_7_2_4_17⟩) (by assumption) ?_
    case h17_7_2_4_17 => (intro w hSw; (try dsimp only at hSw); go_simp; try with_reducible rfl)
    try simp only [Act.put, List.setIfInBounds_toArray, List.set_cons_zero, List.set_cons_succ, List.getElem_toArray, List.getElem_cons_zero, List.getElem_cons_succ]
    refine wpAnyH_take (i := 15) (v := ?_) rfl (by kernel_rfl) (by kernel_rfl) (by kernel_rfl) (fun _ _ _ h => h) (Or.inl ⟨by rfl, ?h17_7_2_4_18⟩) (by assumption) ?_
    case h17_7_2_4_18 => (intro w hSw; (try dsimp only at hSw); go_simp; try with_reducible rfl)
    try simp only [Act.put, List.setIfInBounds_toArray, List.set_cons_zero, List.set_cons_succ, List.getElem_toArray, List.getElem_cons_zero, List.getElem_cons_succ]
    refine wpAnyH_done (by kernel_rfl) ?_ _
    go_wp2
    go_ret
    exact do_done HB1.out H2.out.1 H2.out.2.1 H3.out.1 H4.out.1 H4.out.2
set_option maxHeartbeats 4000000 in
set_option maxRecDepth 100000 in
theorem does_push2 (h : Duo w B lb rb es) (hl : es.length ≤ 200) (hs : insS es es.length ⟨id, sp, nm⟩ = es') : Calls Try.prog 17 #[ptr lb, ptr rb, .agg #[i64 2, i64 at_, i64 id, i64 sp, .string nm, .string n1, .string n2]] w (DoIt B lb rb es' w) := by
  obtain ⟨n, hn⟩ : ∃ n, es.length = n := ⟨_, rfl⟩
  obtain ⟨ad, c, cr, hre, hrl⟩ := h.2.at_ hn
  have hbx := (Blk.new w 46 #[i64 2, i64 at_, i64 id, i64 sp, .string nm, .string n1, .string n2]).alloc (.cells #[.string n1, .string n2] 9)
  have b0 : Below w.heap.size w ((w.alloc (.cells #[i64 2, i64 at_, i64 id, i64 sp, .string nm, .string n1, .string n2] 46)).alloc (.cells #[.string n1, .string n2] 9)) := ((Below.refl _ w).alloc (Nat.le_refl _) _).alloc (by simp) _
  have cr1 : ((w.alloc (.cells #[i64 2, i64 at_, i64 id, i64 sp, .string nm, .string n1, .string n2] 46)).alloc (.cells #[.string n1, .string n2] 9)).cell? ⟨rb, 0, none⟩ = some (.slice ad n c) := (b0.cell (p := ⟨rb, 0, none⟩) hrl).trans cr
  have HNM := Lib.hid (NamesAt.two (w.alloc (.cells #[i64 2, i64 at_, i64 id, i64 sp, .string nm, .string n1, .string n2] 46)) n1 n2 9)
  have HBX := Lib.hid hbx
  have HB0 := Lib.hid b0
  have HB1 := Lib.hid b0.drew
  have HD := Lib.hid (And.intro (h.below b0) (And.intro hl hn))
  have HRE := Lib.hid (And.intro hre (h.2))
  have x0 := hbx.cell 0 (i64 2) rfl
  have x1 := hbx.cell 1 (i64 at_) rfl
  have x2 := hbx.cell 2 (i64 id) rfl
  have x3 := hbx.cell 3 (i64 sp) rfl
  have x4 := hbx.cell 4 (.string nm) rfl
  have x5 := hbx.cell 5 (.string n1) rfl
  have x6 := hbx.cell 6 (.string n2) rfl
  obtain ⟨r, hr⟩ : ∃ r, insR es n = r := ⟨_, rfl⟩
  rw [hn] at hs
  have HS := Lib.hid (And.intro hs hr)
  clear h hl hs hr hn hbx b0 cr hre
  go_enter Try.func17, Try.ntmps17
  go_wp2_with fail
  refine wp_region_held_drew (S := (fun w' => w'.cell? ⟨w.heap.size, 2, none⟩ = some (i64 id) ∧ w'.cell? ⟨w.heap.size, 3, none⟩ = some (i64 sp) ∧ w'.cell? ⟨w.heap.size, 4, none⟩ = some (.string nm))) (by kernel_rfl) (by (try dsimp only); go_keep) (fun hHeld => ?_)
  refine wpAnyH_take (i := 0) (v := ?_) rfl (by kernel_rfl) (by kernel_rfl) (by kernel_rfl) (fun _ _ _ h => h) (Or.inl ⟨by rfl, ?h17_7_2_5_1⟩) (by assumption) ?_
  case h17_7_2_5_1 => (intro w hSw; (try dsimp only at hSw); go_simp; try with_reducible rfl)
  try simp only [Act.put, List.setIfInBounds_toArray, List.set_cons_zero, List.set_cons_succ, List.getElem_toArray, List.getElem_cons_zero, List.getElem_cons_succ]
  refine wpAnyH_take (i := 1) (v := ?_) rfl (by kernel_rfl) (by kernel_rfl) (by kernel_rfl) (fun _ _ _ h => h) (Or.inl ⟨by rfl, ?h17_7_2_5_2⟩) (by assumption) ?_
  case h17_7_2_5_2 => (intro w hSw; (try dsimp only at hSw); go_simp; try with_reducible rfl)
  try simp only [Act.put, List.setIfInBounds_toArray, List.set_cons_zero, List.set_cons_succ, List.getElem_toArray, List.getElem_cons_zero, List.getElem_cons_succ]
  refine wpAnyH_take (i := 2) (v := ?_) rfl (by kernel_rfl) (by kernel_rfl) (by kernel_rfl) (fun _ _ _ h => h) (Or.inl ⟨by rfl, ?h17_7_2_5_3⟩) (by assumption) ?_
  case h17_7_2_5_3 => (intro w hSw; (try dsimp only at hSw); go_simp; try with_reducible rfl)
  try simp only [Act.put, List.setIfInBounds_toArray, List.set_cons_zero, List.set_cons_succ, List.getElem_toArray, List.getElem_cons_zero, List.getElem_cons_succ]
  refine wpAnyH_take (i := 4) (v := ?_) rfl (by kernel_rfl) (by kernel_rfl) (by kernel_rfl) (fun _ _ _ h => h) (Or.inl ⟨by rfl, ?h17_7_2_5_4⟩) (by assumption) ?_
  case h17_7_2_5_4 => (intro w hSw; (try dsimp only at hSw); go_simp; try with_reducible rfl)
  try simp only [Act.put, List.setIfInBounds_toArray, List.set_cons_zero, List.set_cons_succ, List.getElem_toArray, List.getElem_cons_zero, List.getElem_cons_succ]
  refine wpAnyH_take (i := 5) (v := ?_) rfl (by kernel_rfl) (by kernel_rfl) (by kernel_rfl) (fun _ _ _ h => h) (Or.inl ⟨by rfl, ?h17_7_2_5_5⟩) (by assumption) ?_
  case h17_7_2_5_5 => (intro w hSw; (try dsimp only at hSw); go_simp; try with_reducible rfl)
  try simp only [Act.put, List.setIfInBounds_toArray, List.set_cons_zero, List.set_cons_succ, List.getElem_toArray, List.getElem_cons_zero, List.getElem_cons_succ]
  refine wpAnyH_take (i := 6) (v := ?_) rfl (by kernel_rfl) (by kernel_rfl) (by kernel_rfl) (fun _ _ _ h => h) (Or.inl ⟨by rfl, ?h17_7_2_5_6⟩) (by assumption) ?_
  case h17_7_2_5_6 => (intro w hSw; (try dsimp only at hSw); go_simp; try with_reducible rfl)
  try simp only [Act.put, List.setIfInBounds_toArray, List.set_cons_zero, List.set_cons_succ, List.getElem_toArray, List.getElem_cons_zero, List.getElem_cons_succ]
  refine wpAnyH_take (i := 7) (v := ?_) rfl (by kernel_rfl) (by kernel_rfl) (by kernel_rfl) (fun _ _ _ h => h) (Or.inl ⟨by rfl, ?h17_7_2_5_7⟩) (by assumption) ?_
  case h17_7_2_5_7 => (intro w hSw; (try dsimp only at hSw); go_simp; try with_reducible rfl)
  try simp only [Act.put, List.setIfInBounds_toArray, List.set_cons_zero, List.set_cons_succ, List.getElem_toArray, List.getElem_cons_zero, List.getElem_cons_succ]
  refine wpAnyH_take (i := 10) (v := ?_) rfl (by kernel_rfl) (by kernel_rfl) (by kernel_rfl) (fun _ _ _ h => h) (Or.inl ⟨by rfl, ?h17_7_2_5_8⟩) (by assumption) ?_
  case h17_7_2_5_8 => (intro w hSw; (try dsimp only at hSw); go_simp; try with_reducible rfl)
  try simp only [Act.put, List.setIfInBounds_toArray, List.set_cons_zero, List.set_cons_succ, List.getElem_toArray, List.getElem_cons_zero, List.getElem_cons_succ]
  refine wpAnyH_take (i := 11) (v := ?_) rfl (by kernel_rfl) (by kernel_rfl) (by kernel_rfl) (fun _ _ _ h => h) (Or.inl ⟨by rfl, ?h17_7_2_5_9⟩) (by assumption) ?_
  case h17_7_2_5_9 => (intro w hSw; (try dsimp only at hSw); go_simp; try with_reducible rfl)
  try simp only [Act.put, List.setIfInBounds_toArray, List.set_cons_zero, List.set_cons_succ, List.getElem_toArray, List.getElem_cons_zero, List.getElem_cons_succ]
  refine wpAnyH_ready (rs := [3, 8]) (by kernel_rfl) (by simp) ?_
  refine (AllReadyH.cons rfl (fun K hK => ?_) (AllReadyH.cons rfl (fun K hK => ?_) AllReadyH.nil))
  · skip
    go_simp
    (with_reducible refine (push_m (HD.out.1.1.below (dqr _)) HD.out.2.1 HD.out.2.2 HS.out.1 HS.out.2).mono ?_)
    rintro e w2 ⟨rfl, h2, f2⟩
    have y2 := (f2.blk HBX.out.drew (.inr rfl)).cell 2 (i64 id) rfl
    have y3 := (f2.blk HBX.out.drew (.inr rfl)).cell 3 (i64 sp) rfl
    have y4 := (f2.blk HBX.out.drew (.inr rfl)).cell 4 (.string nm) rfl
    have r2 := (HD.out.1.2.below (dqr _)).fr f2
    have cr2 := (rf_kept HD.out.1.2 ((Fr.of_below (dqr _) B LK).trans f2)).trans cr1
    have H2 := Lib.hid (And.intro h2 (And.intro f2 (And.intro r2 (f2.blk HBX.out.drew (.inr rfl)))))
    clear h2 f2 r2
    go_wp2_with fail
    refine hK.out _ _ (by (try dsimp only); go_keep) (fun hHeld2 => ?_)
    clear hK K hHeld
    have hHeld := hHeld2
    clear hHeld2
    try simp only [Act.put, List.setIfInBounds_toArray, List.set_cons_zero, List.set_cons_succ, List.getElem_toArray, List.getElem_cons_zero, List.getElem_cons_succ]
    refine wpAnyH_ready (rs := [8, 12]) (by kernel_rfl) (by simp) ?_
    refine (AllReadyH.cons rfl (fun K hK => ?_) (AllReadyH.cons rfl (fun K hK => ?_) AllReadyH.nil))
    · skip
      go_simp
      refine hK.out _ _ (by (try dsimp only); go_keep) (fun hHeld2 => ?_)
      clear hK K hHeld
      have hHeld := hHeld2
      clear hHeld2
      try simp only [Act.put, List.setIfInBounds_toArray, List.set_cons_zero, List.set_cons_succ, List.getElem_toArray, List.getElem_cons_zero, List.getElem_cons_succ]
      refine wpAnyH_take (i := 9) (v := ?_) rfl (by kernel_rfl) (by kernel_rfl) (by kernel_rfl) (fun _ _ _ h => h) (Or.inl ⟨by rfl, ?h17_7_2_5_10⟩) (by assumption) ?_
      case h17_7_2_5_10 => (intro w hSw; (try dsimp only at hSw); go_simp; try with_reducible rfl)
      try simp only [Act.put, List.setIfInBounds_toArray, List.set_cons_zero, List.set_cons_succ, List.getElem_toArray, List.getElem_cons_zero, List.getElem_cons_succ]
      refine wpAnyH_ready (rs := [12]) (by kernel_rfl) (by simp) ?_
      refine AllReadyH.cons rfl (fun K hK => ?_) AllReadyH.nil
      go_simp
      (with_reducible refine (ref_any).mono ?_)
      rintro e w3 ⟨rfl, h3⟩
      have z2 := (blk_kept H2.out.2.2.2 h3).cell 2 (i64 id) rfl
      have z3 := (blk_kept H2.out.2.2.2 h3).cell 3 (i64 sp) rfl
      have z4 := (blk_kept H2.out.2.2.2 h3).cell 4 (.string nm) rfl
      have cr3 := (h3.cell (p := ⟨rb, 0, none⟩) H2.out.2.2.1.lt).trans cr2
      have H3 := Lib.hid (And.intro h3 (blk_kept H2.out.2.2.2 h3))
      clear h3
      go_wp2_with fail
      refine hK.out _ _ (by (try dsimp only); go_keep) (fun hHeld2 => ?_)
      clear hK K hHeld
      have hHeld := hHeld2
      clear hHeld2
      try simp only [Act.put, List.setIfInBounds_toArray, List.set_cons_zero, List.set_cons_succ, List.getElem_toArray, List.getElem_cons_zero, List.getElem_cons_succ]
      refine wpAnyH_ready (rs := [13]) (by kernel_rfl) (by simp) ?_
      refine AllReadyH.cons rfl (fun K hK => ?_) AllReadyH.nil
      go_simp
      (with_reducible refine (rins_n (H2.out.2.2.1.below H3.out.1) HD.out.2.1 HS.out.1 HS.out.2).mono ?_)
      rintro e w4 ⟨rfl, h4, f4⟩
      have v2 := (f4.blk H3.out.2 (.inr rfl)).cell 2 (i64 id) rfl
      have v3 := (f4.blk H3.out.2 (.inr rfl)).cell 3 (i64 sp) rfl
      have v4 := (f4.blk H3.out.2 (.inr rfl)).cell 4 (.string nm) rfl
      have H4 := Lib.hid (And.intro h4 f4)
      clear h4 f4
      go_wp2_with fail
      refine hK.out _ _ (by (try dsimp only); go_keep) (fun hHeld2 => ?_)
      clear hK K hHeld
      have hHeld := hHeld2
      clear hHeld2
      try simp only [Act.put, List.setIfInBounds_toArray, List.set_cons_zero, List.set_cons_succ, List.getElem_toArray, List.getElem_cons_zero, List.getElem_cons_succ]
      refine wpAnyH_take (i := 14) (v := ?_) rfl (by kernel_rfl) (by kernel_rfl) (by kernel_rfl) (fun _ _ _ h => h) (Or.inl ⟨by rfl, ?h17_7_2_5_11⟩) (by assumption) ?_
      case h17_7_2_5_11 => (intro w hSw; (try dsimp only at hSw); go_simp; try with_reducible rfl)
      try simp only [Act.put, List.setIfInBounds_toArray, List.set_cons_zero, List.set_cons_succ, List.getElem_toArray, List.getElem_cons_zero, List.getElem_cons_succ]
      refine wpAnyH_take (i := 15) (v := ?_) rfl (by kernel_rfl) (by kernel_rfl) (by kernel_rfl) (fun _ _ _ h => h) (Or.inl ⟨by rfl, ?h17_7_2_5_12⟩) (by assumption) ?_
      case h17_7_2_5_12 => (intro w hSw; (try dsimp only at hSw); go_simp; try with_reducible rfl)
      try simp only [Act.put, List.setIfInBounds_toArray, List.set_cons_zero, List.set_cons_succ, List.getElem_toArray, List.getElem_cons_zero, List.getElem_cons_succ]
      refine wpAnyH_done (by kernel_rfl) ?_ _
      go_wp2
      go_ret
      exact do_done HB1.out H2.out.1 H2.out.2.1 H3.out.1 H4.out.1 H4.out.2
    · skip
      go_simp
      (with_reducible refine (ref_any).mono ?_)
      rintro e w3 ⟨rfl, h3⟩
      have z2 := (blk_kept H2.out.2.2.2 h3).cell 2 (i64 id) rfl
      have z3 := (blk_kept H2.out.2.2.2 h3).cell 3 (i64 sp) rfl
      have z4 := (blk_kept H2.out.2.2.2 h3).cell 4 (.string nm) rfl
      have cr3 := (h3.cell (p := ⟨rb, 0, none⟩) H2.out.2.2.1.lt).trans cr2
      have H3 := Lib.hid (And.intro h3 (blk_kept H2.out.2.2.2 h3))
      clear h3
      go_wp2_with fail
      refine hK.out _ _ (by (try dsimp only); go_keep) (fun hHeld2 => ?_)
      clear hK K hHeld
      have hHeld := hHeld2
      clear hHeld2
      try simp only [Act.put, List.setIfInBounds_toArray, List.set_cons_zero, List.set_cons_succ, List.getElem_toArray, List.getElem_cons_zero, List.getElem_cons_succ]
      refine wpAnyH_ready (rs := [8]) (by kernel_rfl) (by simp) ?_
      refine AllReadyH.cons rfl (fun K hK => ?_) AllReadyH.nil
      go_simp
      refine hK.out _ _ (by (try dsimp only); go_keep) (fun hHeld2 => ?_)
      clear hK K hHeld
      have hHeld := hHeld2
      clear hHeld2
      try simp only [Act.put, List.setIfInBounds_toArray, List.set_cons_zero, List.set_cons_succ, List.getElem_toArray, List.getElem_cons_zero, List.getElem_cons_succ]
      refine wpAnyH_take (i := 9) (v := ?_) rfl (by kernel_rfl) (by kernel_rfl) (by kernel_rfl) (fun _ _ _ h => h) (Or.inl ⟨by rfl, ?h17_7_2_5_13⟩) (by assumption) ?_
      case h17_7_2_5_13 => (intro w hSw; (try dsimp only at hSw); go_simp; try with_reducible rfl)
      try simp only [Act.put, List.setIfInBounds_toArray, List.set_cons_zero, List.set_cons_succ, List.getElem_toArray, List.getElem_cons_zero, List.getElem_cons_succ]
      refine wpAnyH_ready (rs := [13]) (by kernel_rfl) (by simp) ?_
      refine AllReadyH.cons rfl (fun K hK => ?_) AllReadyH.nil
      go_simp
      (with_reducible refine (rins_n (H2.out.2.2.1.below H3.out.1) HD.out.2.1 HS.out.1 HS.out.2).mono ?_)
      rintro e w4 ⟨rfl, h4, f4⟩
      have v2 := (f4.blk H3.out.2 (.inr rfl)).cell 2 (i64 id) rfl
      have v3 := (f4.blk H3.out.2 (.inr rfl)).cell 3 (i64 sp) rfl
      have v4 := (f4.blk H3.out.2 (.inr rfl)).cell 4 (.string nm) rfl
      have H4 := Lib.hid (And.intro h4 f4)
      clear h4 f4
      go_wp2_with fail
      refine hK.out _ _ (by (try dsimp only); go_keep) (fun hHeld2 => ?_)
      clear hK K hHeld
      have hHeld := hHeld2
      clear hHeld2
      try simp only [Act.put, List.setIfInBounds_toArray, List.set_cons_zero, List.set_cons_succ, List.getElem_toArray, List.getElem_cons_zero, List.getElem_cons_succ]
      refine wpAnyH_take (i := 14) (v := ?_) rfl (by kernel_rfl) (by kernel_rfl) (by kernel_rfl) (fun _ _ _ h => h) (Or.inl ⟨by rfl, ?h17_7_2_5_14⟩) (by assumption) ?_
      case h17_7_2_5_14 => (intro w hSw; (try dsimp only at hSw); go_simp; try with_reducible rfl)
      try simp only [Act.put, List.setIfInBounds_toArray, List.set_cons_zero, List.set_cons_succ, List.getElem_toArray, List.getElem_cons_zero, List.getElem_cons_succ]
      refine wpAnyH_take (i := 15) (v := ?_) rfl (by kernel_rfl) (by kernel_rfl) (by kernel_rfl) (fun _ _ _ h => h) (Or.inl ⟨by rfl, ?h17_7_2_5_15⟩) (by assumption) ?_
      case h17_7_2_5_15 => (intro w hSw; (try dsimp only at hSw); go_simp; try with_reducible rfl)
      try simp only [Act.put, List.setIfInBounds_toArray, List.set_cons_zero, List.set_cons_succ, List.getElem_toArray, List.getElem_cons_zero, List.getElem_cons_succ]
      refine wpAnyH_done (by kernel_rfl) ?_ _
      go_wp2
      go_ret
      exact do_done HB1.out H2.out.1 H2.out.2.1 H3.out.1 H4.out.1 H4.out.2
  · skip
    go_simp
    refine hK.out _ _ (by (try dsimp only); go_keep) (fun hHeld2 => ?_)
    clear hK K hHeld
    have hHeld := hHeld2
    clear hHeld2
    try simp only [Act.put, List.setIfInBounds_toArray, List.set_cons_zero, List.set_cons_succ, List.getElem_toArray, List.getElem_cons_zero, List.getElem_cons_succ]
    refine wpAnyH_take (i := 9) (v := ?_) rfl (by kernel_rfl) (by kernel_rfl) (by kernel_rfl) (fun _ _ _ h => h) (Or.inl ⟨by rfl, ?h17_7_2_5_16⟩) (by assumption) ?_
    case h17_7_2_5_16 => (intro w hSw; (try dsimp only at hSw); go_simp; try with_reducible rfl)
    try simp only [Act.put, List.setIfInBounds_toArray, List.set_cons_zero, List.set_cons_succ, List.getElem_toArray, List.getElem_cons_zero, List.getElem_cons_succ]
    refine wpAnyH_ready (rs := [3]) (by kernel_rfl) (by simp) ?_
    refine AllReadyH.cons rfl (fun K hK => ?_) AllReadyH.nil
    go_simp
    (with_reducible refine (push_m (HD.out.1.1.below (dqr _)) HD.out.2.1 HD.out.2.2 HS.out.1 HS.out.2).mono ?_)
    rintro e w2 ⟨rfl, h2, f2⟩
    have y2 := (f2.blk HBX.out.drew (.inr rfl)).cell 2 (i64 id) rfl
    have y3 := (f2.blk HBX.out.drew (.inr rfl)).cell 3 (i64 sp) rfl
    have y4 := (f2.blk HBX.out.drew (.inr rfl)).cell 4 (.string nm) rfl
    have r2 := (HD.out.1.2.below (dqr _)).fr f2
    have cr2 := (rf_kept HD.out.1.2 ((Fr.of_below (dqr _) B LK).trans f2)).trans cr1
    have H2 := Lib.hid (And.intro h2 (And.intro f2 (And.intro r2 (f2.blk HBX.out.drew (.inr rfl)))))
    clear h2 f2 r2
    go_wp2_with fail
    refine hK.out _ _ (by (try dsimp only); go_keep) (fun hHeld2 => ?_)
    clear hK K hHeld
    have hHeld := hHeld2
    clear hHeld2
    try simp only [Act.put, List.setIfInBounds_toArray, List.set_cons_zero, List.set_cons_succ, List.getElem_toArray, List.getElem_cons_zero, List.getElem_cons_succ]
    refine wpAnyH_ready (rs := [12]) (by kernel_rfl) (by simp) ?_
    refine AllReadyH.cons rfl (fun K hK => ?_) AllReadyH.nil
    go_simp
    (with_reducible refine (ref_any).mono ?_)
    rintro e w3 ⟨rfl, h3⟩
    have z2 := (blk_kept H2.out.2.2.2 h3).cell 2 (i64 id) rfl
    have z3 := (blk_kept H2.out.2.2.2 h3).cell 3 (i64 sp) rfl
    have z4 := (blk_kept H2.out.2.2.2 h3).cell 4 (.string nm) rfl
    have cr3 := (h3.cell (p := ⟨rb, 0, none⟩) H2.out.2.2.1.lt).trans cr2
    have H3 := Lib.hid (And.intro h3 (blk_kept H2.out.2.2.2 h3))
    clear h3
    go_wp2_with fail
    refine hK.out _ _ (by (try dsimp only); go_keep) (fun hHeld2 => ?_)
    clear hK K hHeld
    have hHeld := hHeld2
    clear hHeld2
    try simp only [Act.put, List.setIfInBounds_toArray, List.set_cons_zero, List.set_cons_succ, List.getElem_toArray, List.getElem_cons_zero, List.getElem_cons_succ]
    refine wpAnyH_ready (rs := [13]) (by kernel_rfl) (by simp) ?_
    refine AllReadyH.cons rfl (fun K hK => ?_) AllReadyH.nil
    go_simp
    (with_reducible refine (rins_n (H2.out.2.2.1.below H3.out.1) HD.out.2.1 HS.out.1 HS.out.2).mono ?_)
    rintro e w4 ⟨rfl, h4, f4⟩
    have v2 := (f4.blk H3.out.2 (.inr rfl)).cell 2 (i64 id) rfl
    have v3 := (f4.blk H3.out.2 (.inr rfl)).cell 3 (i64 sp) rfl
    have v4 := (f4.blk H3.out.2 (.inr rfl)).cell 4 (.string nm) rfl
    have H4 := Lib.hid (And.intro h4 f4)
    clear h4 f4
    go_wp2_with fail
    refine hK.out _ _ (by (try dsimp only); go_keep) (fun hHeld2 => ?_)
    clear hK K hHeld
    have hHeld := hHeld2
    clear hHeld2
    try simp only [Act.put, List.setIfInBounds_toArray, List.set_cons_zero, List.set_cons_succ, List.getElem_toArray, List.getElem_cons_zero, List.getElem_cons_succ]
    refine wpAnyH_take (i := 14) (v := ?_) rfl (by kernel_rfl) (by kernel_rfl) (by kernel_rfl) (fun _ _ _ h => h) (Or.inl ⟨by rfl, ?h17_7_2_5_17⟩) (by assumption) ?_
    case h17_7_2_5_17 => (intro w hSw; (try dsimp only at hSw); go_simp; try with_reducible rfl)
    try simp only [Act.put, List.setIfInBounds_toArray, List.set_cons_zero, List.set_cons_succ, List.getElem_toArray, List.getElem_cons_zero, List.getElem_cons_succ]
    refine wpAnyH_take (i := 15) (v := ?_) rfl (by kernel_rfl) (by kernel_rfl) (by kernel_rfl) (fun _ _ _ h => h) (Or.inl ⟨by rfl, ?h17_7_2_5_18⟩) (by assumption) ?_
    case h17_7_2_5_18 => (intro w hSw; (try dsimp only at hSw); go_simp; try with_reducible rfl)
    try simp only [Act.put, List.setIfInBounds_toArray, List.set_cons_zero, List.set_cons_succ, List.getElem_toArray, List.getElem_cons_zero, List.getElem_cons_succ]
    refine wpAnyH_done (by kernel_rfl) ?_ _
    go_wp2
    go_ret
    exact do_done HB1.out H2.out.1 H2.out.2.1 H3.out.1 H4.out.1 H4.out.2
set_option maxHeartbeats 4000000 in
set_option maxRecDepth 100000 in
theorem does_push3 (h : Duo w B lb rb es) (hl : es.length ≤ 200) (hs : insS es es.length ⟨id, sp, nm⟩ = es') : Calls Try.prog 17 #[ptr lb, ptr rb, .agg #[i64 3, i64 at_, i64 id, i64 sp, .string nm, .string n1, .string n2]] w (DoIt B lb rb es' w) := by
  obtain ⟨n, hn⟩ : ∃ n, es.length = n := ⟨_, rfl⟩
  obtain ⟨ad, c, cr, hre, hrl⟩ := h.2.at_ hn
  have hbx := (Blk.new w 46 #[i64 3, i64 at_, i64 id, i64 sp, .string nm, .string n1, .string n2]).alloc (.cells #[.string n1, .string n2] 9)
  have b0 : Below w.heap.size w ((w.alloc (.cells #[i64 3, i64 at_, i64 id, i64 sp, .string nm, .string n1, .string n2] 46)).alloc (.cells #[.string n1, .string n2] 9)) := ((Below.refl _ w).alloc (Nat.le_refl _) _).alloc (by simp) _
  have cr1 : ((w.alloc (.cells #[i64 3, i64 at_, i64 id, i64 sp, .string nm, .string n1, .string n2] 46)).alloc (.cells #[.string n1, .string n2] 9)).cell? ⟨rb, 0, none⟩ = some (.slice ad n c) := (b0.cell (p := ⟨rb, 0, none⟩) hrl).trans cr
  have HNM := Lib.hid (NamesAt.two (w.alloc (.cells #[i64 3, i64 at_, i64 id, i64 sp, .string nm, .string n1, .string n2] 46)) n1 n2 9)
  have HBX := Lib.hid hbx
  have HB0 := Lib.hid b0
  have HB1 := Lib.hid b0.drew
  have HD := Lib.hid (And.intro (h.below b0) (And.intro hl hn))
  have HRE := Lib.hid (And.intro hre (h.2))
  have x0 := hbx.cell 0 (i64 3) rfl
  have x1 := hbx.cell 1 (i64 at_) rfl
  have x2 := hbx.cell 2 (i64 id) rfl
  have x3 := hbx.cell 3 (i64 sp) rfl
  have x4 := hbx.cell 4 (.string nm) rfl
  have x5 := hbx.cell 5 (.string n1) rfl
  have x6 := hbx.cell 6 (.string n2) rfl
  obtain ⟨r, hr⟩ : ∃ r, insR es n = r := ⟨_, rfl⟩
  rw [hn] at hs
  have HS := Lib.hid (And.intro hs hr)
  clear h hl hs hr hn hbx b0 cr hre
  go_enter Try.func17, Try.ntmps17
  go_wp2_with fail
  refine wp_region_held_drew (S := (fun w' => w'.cell? ⟨w.heap.size, 2, none⟩ = some (i64 id) ∧ w'.cell? ⟨w.heap.size, 3, none⟩ = some (i64 sp) ∧ w'.cell? ⟨w.heap.size, 4, none⟩ = some (.string nm))) (by kernel_rfl) (by (try dsimp only); go_keep) (fun hHeld => ?_)
  refine wpAnyH_take (i := 0) (v := ?_) rfl (by kernel_rfl) (by kernel_rfl) (by kernel_rfl) (fun _ _ _ h => h) (Or.inl ⟨by rfl, ?h17_7_2_6_1⟩) (by assumption) ?_
  case h17_7_2_6_1 => (intro w hSw; (try dsimp only at hSw); go_simp; try with_reducible rfl)
  try simp only [Act.put, List.setIfInBounds_toArray, List.set_cons_zero, List.set_cons_succ, List.getElem_toArray, List.getElem_cons_zero, List.getElem_cons_succ]
  refine wpAnyH_take (i := 1) (v := ?_) rfl (by kernel_rfl) (by kernel_rfl) (by kernel_rfl) (fun _ _ _ h => h) (Or.inl ⟨by rfl, ?h17_7_2_6_2⟩) (by assumption) ?_
  case h17_7_2_6_2 => (intro w hSw; (try dsimp only at hSw); go_simp; try with_reducible rfl)
  try simp only [Act.put, List.setIfInBounds_toArray, List.set_cons_zero, List.set_cons_succ, List.getElem_toArray, List.getElem_cons_zero, List.getElem_cons_succ]
  refine wpAnyH_take (i := 2) (v := ?_) rfl (by kernel_rfl) (by kernel_rfl) (by kernel_rfl) (fun _ _ _ h => h) (Or.inl ⟨by rfl, ?h17_7_2_6_3⟩) (by assumption) ?_
  case h17_7_2_6_3 => (intro w hSw; (try dsimp only at hSw); go_simp; try with_reducible rfl)
  try simp only [Act.put, List.setIfInBounds_toArray, List.set_cons_zero, List.set_cons_succ, List.getElem_toArray, List.getElem_cons_zero, List.getElem_cons_succ]
  refine wpAnyH_take (i := 4) (v := ?_) rfl (by kernel_rfl) (by kernel_rfl) (by kernel_rfl) (fun _ _ _ h => h) (Or.inl ⟨by rfl, ?h17_7_2_6_4⟩) (by assumption) ?_
  case h17_7_2_6_4 => (intro w hSw; (try dsimp only at hSw); go_simp; try with_reducible rfl)
  try simp only [Act.put, List.setIfInBounds_toArray, List.set_cons_zero, List.set_cons_succ, List.getElem_toArray, List.getElem_cons_zero, List.getElem_cons_succ]
  refine wpAnyH_take (i := 5) (v := ?_) rfl (by kernel_rfl) (by kernel_rfl) (by kernel_rfl) (fun _ _ _ h => h) (Or.inl ⟨by rfl, ?h17_7_2_6_5⟩) (by assumption) ?_
  case h17_7_2_6_5 => (intro w hSw; (try dsimp only at hSw); go_simp; try with_reducible rfl)
  try simp only [Act.put, List.setIfInBounds_toArray, List.set_cons_zero, List.set_cons_succ, List.getElem_toArray, List.getElem_cons_zero, List.getElem_cons_succ]
  refine wpAnyH_take (i := 6) (v := ?_) rfl (by kernel_rfl) (by kernel_rfl) (by kernel_rfl) (fun _ _ _ h => h) (Or.inl ⟨by rfl, ?h17_7_2_6_6⟩) (by assumption) ?_
  case h17_7_2_6_6 => (intro w hSw; (try dsimp only at hSw); go_simp; try with_reducible rfl)
  try simp only [Act.put, List.setIfInBounds_toArray, List.set_cons_zero, List.set_cons_succ, List.getElem_toArray, List.getElem_cons_zero, List.getElem_cons_succ]
  refine wpAnyH_take (i := 7) (v := ?_) rfl (by kernel_rfl) (by kernel_rfl) (by kernel_rfl) (fun _ _ _ h => h) (Or.inl ⟨by rfl, ?h17_7_2_6_7⟩) (by assumption) ?_
  case h17_7_2_6_7 => (intro w hSw; (try dsimp only at hSw); go_simp; try with_reducible rfl)
  try simp only [Act.put, List.setIfInBounds_toArray, List.set_cons_zero, List.set_cons_succ, List.getElem_toArray, List.getElem_cons_zero, List.getElem_cons_succ]
  refine wpAnyH_take (i := 10) (v := ?_) rfl (by kernel_rfl) (by kernel_rfl) (by kernel_rfl) (fun _ _ _ h => h) (Or.inl ⟨by rfl, ?h17_7_2_6_8⟩) (by assumption) ?_
  case h17_7_2_6_8 => (intro w hSw; (try dsimp only at hSw); go_simp; try with_reducible rfl)
  try simp only [Act.put, List.setIfInBounds_toArray, List.set_cons_zero, List.set_cons_succ, List.getElem_toArray, List.getElem_cons_zero, List.getElem_cons_succ]
  refine wpAnyH_take (i := 11) (v := ?_) rfl (by kernel_rfl) (by kernel_rfl) (by kernel_rfl) (fun _ _ _ h => h) (Or.inl ⟨by rfl, ?h17_7_2_6_9⟩) (by assumption) ?_
  case h17_7_2_6_9 => (intro w hSw; (try dsimp only at hSw); go_simp; try with_reducible rfl)
  try simp only [Act.put, List.setIfInBounds_toArray, List.set_cons_zero, List.set_cons_succ, List.getElem_toArray, List.getElem_cons_zero, List.getElem_cons_succ]
  refine wpAnyH_ready (rs := [3, 8]) (by kernel_rfl) (by simp) ?_
  refine (AllReadyH.cons rfl (fun K hK => ?_) (AllReadyH.cons rfl (fun K hK => ?_) AllReadyH.nil))
  · skip
    go_simp
    (with_reducible refine (push_m (HD.out.1.1.below (dqr _)) HD.out.2.1 HD.out.2.2 HS.out.1 HS.out.2).mono ?_)
    rintro e w2 ⟨rfl, h2, f2⟩
    have y2 := (f2.blk HBX.out.drew (.inr rfl)).cell 2 (i64 id) rfl
    have y3 := (f2.blk HBX.out.drew (.inr rfl)).cell 3 (i64 sp) rfl
    have y4 := (f2.blk HBX.out.drew (.inr rfl)).cell 4 (.string nm) rfl
    have r2 := (HD.out.1.2.below (dqr _)).fr f2
    have cr2 := (rf_kept HD.out.1.2 ((Fr.of_below (dqr _) B LK).trans f2)).trans cr1
    have H2 := Lib.hid (And.intro h2 (And.intro f2 (And.intro r2 (f2.blk HBX.out.drew (.inr rfl)))))
    clear h2 f2 r2
    go_wp2_with fail
    refine hK.out _ _ (by (try dsimp only); go_keep) (fun hHeld2 => ?_)
    clear hK K hHeld
    have hHeld := hHeld2
    clear hHeld2
    try simp only [Act.put, List.setIfInBounds_toArray, List.set_cons_zero, List.set_cons_succ, List.getElem_toArray, List.getElem_cons_zero, List.getElem_cons_succ]
    refine wpAnyH_ready (rs := [8, 12]) (by kernel_rfl) (by simp) ?_
    refine (AllReadyH.cons rfl (fun K hK => ?_) (AllReadyH.cons rfl (fun K hK => ?_) AllReadyH.nil))
    · skip
      go_simp
      refine hK.out _ _ (by (try dsimp only); go_keep) (fun hHeld2 => ?_)
      clear hK K hHeld
      have hHeld := hHeld2
      clear hHeld2
      try simp only [Act.put, List.setIfInBounds_toArray, List.set_cons_zero, List.set_cons_succ, List.getElem_toArray, List.getElem_cons_zero, List.getElem_cons_succ]
      refine wpAnyH_take (i := 9) (v := ?_) rfl (by kernel_rfl) (by kernel_rfl) (by kernel_rfl) (fun _ _ _ h => h) (Or.inl ⟨by rfl, ?h17_7_2_6_10⟩) (by assumption) ?_
      case h17_7_2_6_10 => (intro w hSw; (try dsimp only at hSw); go_simp; try with_reducible rfl)
      try simp only [Act.put, List.setIfInBounds_toArray, List.set_cons_zero, List.set_cons_succ, List.getElem_toArray, List.getElem_cons_zero, List.getElem_cons_succ]
      refine wpAnyH_ready (rs := [12]) (by kernel_rfl) (by simp) ?_
      refine AllReadyH.cons rfl (fun K hK => ?_) AllReadyH.nil
      go_simp
      (with_reducible refine (ref_any).mono ?_)
      rintro e w3 ⟨rfl, h3⟩
      have z2 := (blk_kept H2.out.2.2.2 h3).cell 2 (i64 id) rfl
      have z3 := (blk_kept H2.out.2.2.2 h3).cell 3 (i64 sp) rfl
      have z4 := (blk_kept H2.out.2.2.2 h3).cell 4 (.string nm) rfl
      have cr3 := (h3.cell (p := ⟨rb, 0, none⟩) H2.out.2.2.1.lt).trans cr2
      have H3 := Lib.hid (And.intro h3 (blk_kept H2.out.2.2.2 h3))
      clear h3
      go_wp2_with fail
      refine hK.out _ _ (by (try dsimp only); go_keep) (fun hHeld2 => ?_)
      clear hK K hHeld
      have hHeld := hHeld2
      clear hHeld2
      try simp only [Act.put, List.setIfInBounds_toArray, List.set_cons_zero, List.set_cons_succ, List.getElem_toArray, List.getElem_cons_zero, List.getElem_cons_succ]
      refine wpAnyH_ready (rs := [13]) (by kernel_rfl) (by simp) ?_
      refine AllReadyH.cons rfl (fun K hK => ?_) AllReadyH.nil
      go_simp
      (with_reducible refine (rins_n (H2.out.2.2.1.below H3.out.1) HD.out.2.1 HS.out.1 HS.out.2).mono ?_)
      rintro e w4 ⟨rfl, h4, f4⟩
      have v2 := (f4.blk H3.out.2 (.inr rfl)).cell 2 (i64 id) rfl
      have v3 := (f4.blk H3.out.2 (.inr rfl)).cell 3 (i64 sp) rfl
      have v4 := (f4.blk H3.out.2 (.inr rfl)).cell 4 (.string nm) rfl
      have H4 := Lib.hid (And.intro h4 f4)
      clear h4 f4
      go_wp2_with fail
      refine hK.out _ _ (by (try dsimp only); go_keep) (fun hHeld2 => ?_)
      clear hK K hHeld
      have hHeld := hHeld2
      clear hHeld2
      try simp only [Act.put, List.setIfInBounds_toArray, List.set_cons_zero, List.set_cons_succ, List.getElem_toArray, List.getElem_cons_zero, List.getElem_cons_succ]
      refine wpAnyH_take (i := 14) (v := ?_) rfl (by kernel_rfl) (by kernel_rfl) (by kernel_rfl) (fun _ _ _ h => h) (Or.inl ⟨by rfl, ?h17_7_2_6_11⟩) (by assumption) ?_
      case h17_7_2_6_11 => (intro w hSw; (try dsimp only at hSw); go_simp; try with_reducible rfl)
      try simp only [Act.put, List.setIfInBounds_toArray, List.set_cons_zero, List.set_cons_succ, List.getElem_toArray, List.getElem_cons_zero, List.getElem_cons_succ]
      refine wpAnyH_take (i := 15) (v := ?_) rfl (by kernel_rfl) (by kernel_rfl) (by kernel_rfl) (fun _ _ _ h => h) (Or.inl ⟨by rfl, ?h17_7_2_6_12⟩) (by assumption) ?_
      case h17_7_2_6_12 => (intro w hSw; (try dsimp only at hSw); go_simp; try with_reducible rfl)
      try simp only [Act.put, List.setIfInBounds_toArray, List.set_cons_zero, List.set_cons_succ, List.getElem_toArray, List.getElem_cons_zero, List.getElem_cons_succ]
      refine wpAnyH_done (by kernel_rfl) ?_ _
      go_wp2
      go_ret
      exact do_done HB1.out H2.out.1 H2.out.2.1 H3.out.1 H4.out.1 H4.out.2
    · skip
      go_simp
      (with_reducible refine (ref_any).mono ?_)
      rintro e w3 ⟨rfl, h3⟩
      have z2 := (blk_kept H2.out.2.2.2 h3).cell 2 (i64 id) rfl
      have z3 := (blk_kept H2.out.2.2.2 h3).cell 3 (i64 sp) rfl
      have z4 := (blk_kept H2.out.2.2.2 h3).cell 4 (.string nm) rfl
      have cr3 := (h3.cell (p := ⟨rb, 0, none⟩) H2.out.2.2.1.lt).trans cr2
      have H3 := Lib.hid (And.intro h3 (blk_kept H2.out.2.2.2 h3))
      clear h3
      go_wp2_with fail
      refine hK.out _ _ (by (try dsimp only); go_keep) (fun hHeld2 => ?_)
      clear hK K hHeld
      have hHeld := hHeld2
      clear hHeld2
      try simp only [Act.put, List.setIfInBounds_toArray, List.set_cons_zero, List.set_cons_succ, List.getElem_toArray, List.getElem_cons_zero, List.getElem_cons_succ]
      refine wpAnyH_ready (rs := [8]) (by kernel_rfl) (by simp) ?_
      refine AllReadyH.cons rfl (fun K hK => ?_) AllReadyH.nil
      go_simp
      refine hK.out _ _ (by (try dsimp only); go_keep) (fun hHeld2 => ?_)
      clear hK K hHeld
      have hHeld := hHeld2
      clear hHeld2
      try simp only [Act.put, List.setIfInBounds_toArray, List.set_cons_zero, List.set_cons_succ, List.getElem_toArray, List.getElem_cons_zero, List.getElem_cons_succ]
      refine wpAnyH_take (i := 9) (v := ?_) rfl (by kernel_rfl) (by kernel_rfl) (by kernel_rfl) (fun _ _ _ h => h) (Or.inl ⟨by rfl, ?h17_7_2_6_13⟩) (by assumption) ?_
      case h17_7_2_6_13 => (intro w hSw; (try dsimp only at hSw); go_simp; try with_reducible rfl)
      try simp only [Act.put, List.setIfInBounds_toArray, List.set_cons_zero, List.set_cons_succ, List.getElem_toArray, List.getElem_cons_zero, List.getElem_cons_succ]
      refine wpAnyH_ready (rs := [13]) (by kernel_rfl) (by simp) ?_
      refine AllReadyH.cons rfl (fun K hK => ?_) AllReadyH.nil
      go_simp
      (with_reducible refine (rins_n (H2.out.2.2.1.below H3.out.1) HD.out.2.1 HS.out.1 HS.out.2).mono ?_)
      rintro e w4 ⟨rfl, h4, f4⟩
      have v2 := (f4.blk H3.out.2 (.inr rfl)).cell 2 (i64 id) rfl
      have v3 := (f4.blk H3.out.2 (.inr rfl)).cell 3 (i64 sp) rfl
      have v4 := (f4.blk H3.out.2 (.inr rfl)).cell 4 (.string nm) rfl
      have H4 := Lib.hid (And.intro h4 f4)
      clear h4 f4
      go_wp2_with fail
      refine hK.out _ _ (by (try dsimp only); go_keep) (fun hHeld2 => ?_)
      clear hK K hHeld
      have hHeld := hHeld2
      clear hHeld2
      try simp only [Act.put, List.setIfInBounds_toArray, List.set_cons_zero, List.set_cons_succ, List.getElem_toArray, List.getElem_cons_zero, List.getElem_cons_succ]
      refine wpAnyH_take (i := 14) (v := ?_) rfl (by kernel_rfl) (by kernel_rfl) (by kernel_rfl) (fun _ _ _ h => h) (Or.inl ⟨by rfl, ?h17_7_2_6_14⟩) (by assumption) ?_
      case h17_7_2_6_14 => (intro w hSw; (try dsimp only at hSw); go_simp; try with_reducible rfl)
      try simp only [Act.put, List.setIfInBounds_toArray, List.set_cons_zero, List.set_cons_succ, List.getElem_toArray, List.getElem_cons_zero, List.getElem_cons_succ]
      refine wpAnyH_take (i := 15) (v := ?_) rfl (by kernel_rfl) (by kernel_rfl) (by kernel_rfl) (fun _ _ _ h => h) (Or.inl ⟨by rfl, ?h17_7_2_6_15⟩) (by assumption) ?_
      case h17_7_2_6_15 => (intro w hSw; (try dsimp only at hSw); go_simp; try with_reducible rfl)
      try simp only [Act.put, List.setIfInBounds_toArray, List.set_cons_zero, List.set_cons_succ, List.getElem_toArray, List.getElem_cons_zero, List.getElem_cons_succ]
      refine wpAnyH_done (by kernel_rfl) ?_ _
      go_wp2
      go_ret
      exact do_done HB1.out H2.out.1 H2.out.2.1 H3.out.1 H4.out.1 H4.out.2
  · skip
    go_simp
    refine hK.out _ _ (by (try dsimp only); go_keep) (fun hHeld2 => ?_)
    clear hK K hHeld
    have hHeld := hHeld2
    clear hHeld2
    try simp only [Act.put, List.setIfInBounds_toArray, List.set_cons_zero, List.set_cons_succ, List.getElem_toArray, List.getElem_cons_zero, List.getElem_cons_succ]
    refine wpAnyH_take (i := 9) (v := ?_) rfl (by kernel_rfl) (by kernel_rfl) (by kernel_rfl) (fun _ _ _ h => h) (Or.inl ⟨by rfl, ?h17_7_2_6_16⟩) (by assumption) ?_
    case h17_7_2_6_16 => (intro w hSw; (try dsimp only at hSw); go_simp; try with_reducible rfl)
    try simp only [Act.put, List.setIfInBounds_toArray, List.set_cons_zero, List.set_cons_succ, List.getElem_toArray, List.getElem_cons_zero, List.getElem_cons_succ]
    refine wpAnyH_ready (rs := [3]) (by kernel_rfl) (by simp) ?_
    refine AllReadyH.cons rfl (fun K hK => ?_) AllReadyH.nil
    go_simp
    (with_reducible refine (push_m (HD.out.1.1.below (dqr _)) HD.out.2.1 HD.out.2.2 HS.out.1 HS.out.2).mono ?_)
    rintro e w2 ⟨rfl, h2, f2⟩
    have y2 := (f2.blk HBX.out.drew (.inr rfl)).cell 2 (i64 id) rfl
    have y3 := (f2.blk HBX.out.drew (.inr rfl)).cell 3 (i64 sp) rfl
    have y4 := (f2.blk HBX.out.drew (.inr rfl)).cell 4 (.string nm) rfl
    have r2 := (HD.out.1.2.below (dqr _)).fr f2
    have cr2 := (rf_kept HD.out.1.2 ((Fr.of_below (dqr _) B LK).trans f2)).trans cr1
    have H2 := Lib.hid (And.intro h2 (And.intro f2 (And.intro r2 (f2.blk HBX.out.drew (.inr rfl)))))
    clear h2 f2 r2
    go_wp2_with fail
    refine hK.out _ _ (by (try dsimp only); go_keep) (fun hHeld2 => ?_)
    clear hK K hHeld
    have hHeld := hHeld2
    clear hHeld2
    try simp only [Act.put, List.setIfInBounds_toArray, List.set_cons_zero, List.set_cons_succ, List.getElem_toArray, List.getElem_cons_zero, List.getElem_cons_succ]
    refine wpAnyH_ready (rs := [12]) (by kernel_rfl) (by simp) ?_
    refine AllReadyH.cons rfl (fun K hK => ?_) AllReadyH.nil
    go_simp
    (with_reducible refine (ref_any).mono ?_)
    rintro e w3 ⟨rfl, h3⟩
    have z2 := (blk_kept H2.out.2.2.2 h3).cell 2 (i64 id) rfl
    have z3 := (blk_kept H2.out.2.2.2 h3).cell 3 (i64 sp) rfl
    have z4 := (blk_kept H2.out.2.2.2 h3).cell 4 (.string nm) rfl
    have cr3 := (h3.cell (p := ⟨rb, 0, none⟩) H2.out.2.2.1.lt).trans cr2
    have H3 := Lib.hid (And.intro h3 (blk_kept H2.out.2.2.2 h3))
    clear h3
    go_wp2_with fail
    refine hK.out _ _ (by (try dsimp only); go_keep) (fun hHeld2 => ?_)
    clear hK K hHeld
    have hHeld := hHeld2
    clear hHeld2
    try simp only [Act.put, List.setIfInBounds_toArray, List.set_cons_zero, List.set_cons_succ, List.getElem_toArray, List.getElem_cons_zero, List.getElem_cons_succ]
    refine wpAnyH_ready (rs := [13]) (by kernel_rfl) (by simp) ?_
    refine AllReadyH.cons rfl (fun K hK => ?_) AllReadyH.nil
    go_simp
    (with_reducible refine (rins_n (H2.out.2.2.1.below H3.out.1) HD.out.2.1 HS.out.1 HS.out.2).mono ?_)
    rintro e w4 ⟨rfl, h4, f4⟩
    have v2 := (f4.blk H3.out.2 (.inr rfl)).cell 2 (i64 id) rfl
    have v3 := (f4.blk H3.out.2 (.inr rfl)).cell 3 (i64 sp) rfl
    have v4 := (f4.blk H3.out.2 (.inr rfl)).cell 4 (.string nm) rfl
    have H4 := Lib.hid (And.intro h4 f4)
    clear h4 f4
    go_wp2_with fail
    refine hK.out _ _ (by (try dsimp only); go_keep) (fun hHeld2 => ?_)
    clear hK K hHeld
    have hHeld := hHeld2
    clear hHeld2
    try simp only [Act.put, List.setIfInBounds_toArray, List.set_cons_zero, List.set_cons_succ, List.getElem_toArray, List.getElem_cons_zero, List.getElem_cons_succ]
    refine wpAnyH_take (i := 14) (v := ?_) rfl (by kernel_rfl) (by kernel_rfl) (by kernel_rfl) (fun _ _ _ h => h) (Or.inl ⟨by rfl, ?h17_7_2_6_17⟩) (by assumption) ?_
    case h17_7_2_6_17 => (intro w hSw; (try dsimp only at hSw); go_simp; try with_reducible rfl)
    try simp only [Act.put, List.setIfInBounds_toArray, List.set_cons_zero, List.set_cons_succ, List.getElem_toArray, List.getElem_cons_zero, List.getElem_cons_succ]
    refine wpAnyH_take (i := 15) (v := ?_) rfl (by kernel_rfl) (by kernel_rfl) (by kernel_rfl) (fun _ _ _ h => h) (Or.inl ⟨by rfl, ?h17_7_2_6_18⟩) (by assumption) ?_
    case h17_7_2_6_18 => (intro w hSw; (try dsimp only at hSw); go_simp; try with_reducible rfl)
    try simp only [Act.put, List.setIfInBounds_toArray, List.set_cons_zero, List.set_cons_succ, List.getElem_toArray, List.getElem_cons_zero, List.getElem_cons_succ]
    refine wpAnyH_done (by kernel_rfl) ?_ _
    go_wp2
    go_ret
    exact do_done HB1.out H2.out.1 H2.out.2.1 H3.out.1 H4.out.1 H4.out.2
set_option maxHeartbeats 4000000 in
set_option maxRecDepth 100000 in
theorem does_pop (h : Duo w B lb rb es) (hl : es.length ≤ 200) (hs : es.dropLast = es') : Calls Try.prog 17 #[ptr lb, ptr rb, .agg #[i64 4, i64 at_, i64 id, i64 sp, .string nm, .string n1, .string n2]] w (DoIt B lb rb es' w) := by
  obtain ⟨n, hn⟩ : ∃ n, es.length = n := ⟨_, rfl⟩
  obtain ⟨ad, c, cr, hre, hrl⟩ := h.2.at_ hn
  have hbx := (Blk.new w 46 #[i64 4, i64 at_, i64 id, i64 sp, .string nm, .string n1, .string n2]).alloc (.cells #[.string n1, .string n2] 9)
  have b0 : Below w.heap.size w ((w.alloc (.cells #[i64 4, i64 at_, i64 id, i64 sp, .string nm, .string n1, .string n2] 46)).alloc (.cells #[.string n1, .string n2] 9)) := ((Below.refl _ w).alloc (Nat.le_refl _) _).alloc (by simp) _
  have cr1 : ((w.alloc (.cells #[i64 4, i64 at_, i64 id, i64 sp, .string nm, .string n1, .string n2] 46)).alloc (.cells #[.string n1, .string n2] 9)).cell? ⟨rb, 0, none⟩ = some (.slice ad n c) := (b0.cell (p := ⟨rb, 0, none⟩) hrl).trans cr
  have HNM := Lib.hid (NamesAt.two (w.alloc (.cells #[i64 4, i64 at_, i64 id, i64 sp, .string nm, .string n1, .string n2] 46)) n1 n2 9)
  have HBX := Lib.hid hbx
  have HB0 := Lib.hid b0
  have HB1 := Lib.hid b0.drew
  have HD := Lib.hid (And.intro (h.below b0) (And.intro hl hn))
  have HRE := Lib.hid (And.intro hre (h.2))
  have x0 := hbx.cell 0 (i64 4) rfl
  have x1 := hbx.cell 1 (i64 at_) rfl
  have x2 := hbx.cell 2 (i64 id) rfl
  have x3 := hbx.cell 3 (i64 sp) rfl
  have x4 := hbx.cell 4 (.string nm) rfl
  have x5 := hbx.cell 5 (.string n1) rfl
  have x6 := hbx.cell 6 (.string n2) rfl
  obtain ⟨⟨tid, tsp, tnm⟩, hte⟩ : ∃ te, topE es = te := ⟨_, rfl⟩
  obtain ⟨tb, htb⟩ : ∃ tb, topB es = tb := ⟨_, rfl⟩
  have HS := Lib.hid (And.intro hte (And.intro htb hs))
  clear h hl hs hbx b0 cr
  cases tb
  · have hes := topB_false htb
    subst hes
    have hn0 : n = 0 := hn.symm
    subst hn0
    unfold topE zeroEnt at hte
    simp only [List.getLast?_nil, Option.getD_none, Ent.mk.injEq] at hte
    obtain ⟨rfl, rfl, rfl⟩ := hte
    clear htb hn hre
    go_enter Try.func17, Try.ntmps17
    go_wp2_with (first
      | (go_at_call 23; (with_reducible refine (pop_m HD.out.1.1 HS.out.1 HS.out.2.1 HS.out.2.2).mono ?_); rintro e w2 ⟨rfl, h2, f2⟩; have cr2 := (rf_kept HD.out.1.2 f2).trans cr1; have hr2 := (HD.out.1.2.fr f2).lt; have H2 := Lib.hid (And.intro h2 (And.intro f2 (HD.out.1.2.fr f2))); clear h2 f2))
    obtain ⟨w3, hw3⟩ : ∃ w3, (w2.alloc (.cells #[.int .i64 0, .int .i64 0, .string ⟨#[]⟩] 27)).alloc (.cells #[.int .i64 0, .int .i64 0, .string ⟨#[]⟩] 50) = w3 := ⟨_, rfl⟩
    have HP : Hid (Below w2.heap.size w2 w3.drew ∧ Blk w3.drew w2.heap.size 27 #[i64 0, i64 0, .string ⟨#[]⟩] ∧ Blk w3.drew (w2.heap.size + 1) 50 #[i64 0, i64 0, .string ⟨#[]⟩]) := Lib.hid (by rw [← hw3]; exact pop_box w2 0 0 ⟨#[]⟩)
    have a0 : w3.cell? ⟨w2.heap.size, 0, none⟩ = some (i64 0) := HP.out.2.1.cell 0 (i64 0) rfl
    have a1 : w3.cell? ⟨w2.heap.size, 1, none⟩ = some (i64 0) := HP.out.2.1.cell 1 (i64 0) rfl
    have a2 : w3.cell? ⟨w2.heap.size, 2, none⟩ = some (.string ⟨#[]⟩) := HP.out.2.1.cell 2 (.string ⟨#[]⟩) rfl
    have b0 : w3.cell? ⟨w2.heap.size + 1, 0, none⟩ = some (i64 0) := HP.out.2.2.cell 0 (i64 0) rfl
    have b1 : w3.cell? ⟨w2.heap.size + 1, 1, none⟩ = some (i64 0) := HP.out.2.2.cell 1 (i64 0) rfl
    have b2 : w3.cell? ⟨w2.heap.size + 1, 2, none⟩ = some (.string ⟨#[]⟩) := HP.out.2.2.cell 2 (.string ⟨#[]⟩) rfl
    rw [hw3]
    clear hw3
    refine wp_region_held_drew (S := (fun w' => w'.cell? ⟨w2.heap.size, 0, none⟩ = some (i64 0) ∧ w'.cell? ⟨w2.heap.size, 1, none⟩ = some (i64 0) ∧ w'.cell? ⟨w2.heap.size, 2, none⟩ = some (.string ⟨#[]⟩) ∧ w'.cell? ⟨w2.heap.size + 1, 0, none⟩ = some (i64 0) ∧ w'.cell? ⟨w2.heap.size + 1, 1, none⟩ = some (i64 0) ∧ w'.cell? ⟨w2.heap.size + 1, 2, none⟩ = some (.string ⟨#[]⟩))) (by kernel_rfl) (by (try dsimp only); go_keep) (fun hHeld => ?_)
    refine wpAnyH_take (i := 0) (v := ?_) rfl (by kernel_rfl) (by kernel_rfl) (by kernel_rfl) (fun _ _ _ h => h) (Or.inl ⟨by rfl, ?h17_13_4_8_1⟩) (by assumption) ?_
    case h17_13_4_8_1 => (intro w hSw; (try dsimp only at hSw); go_simp; try with_reducible rfl)
    try simp only [Act.put, List.setIfInBounds_toArray, List.set_cons_zero, List.set_cons_succ, List.getElem_toArray, List.getElem_cons_zero, List.getElem_cons_succ]
    refine wpAnyH_take (i := 1) (v := ?_) rfl (by kernel_rfl) (by kernel_rfl) (by kernel_rfl) (fun _ _ _ h => h) (Or.inl ⟨by rfl, ?h17_13_4_8_2⟩) (by assumption) ?_
    case h17_13_4_8_2 => (intro w hSw; (try dsimp only at hSw); go_simp; try with_reducible rfl)
    try simp only [Act.put, List.setIfInBounds_toArray, List.set_cons_zero, List.set_cons_succ, List.getElem_toArray, List.getElem_cons_zero, List.getElem_cons_succ]
    refine wpAnyH_ready (rs := [2]) (by kernel_rfl) (by simp) ?_
    refine AllReadyH.cons rfl (fun K hK => ?_) AllReadyH.nil
    go_simp
    (with_reducible refine (rpop_n (H2.out.2.2.below HP.out.1) HS.out.2.1 HS.out.2.2).mono ?_)
    rintro e w4 ⟨rfl, h4, f4⟩
    have p4 := f4.blk HP.out.2.1 (.inr rfl)
    have q4 := f4.blk HP.out.2.2 (.inr rfl)
    have y0 := p4.cell 0 (i64 0) rfl
    have y1 := p4.cell 1 (i64 0) rfl
    have y2 := p4.cell 2 (.string ⟨#[]⟩) rfl
    have z0 := q4.cell 0 (i64 0) rfl
    have z1 := q4.cell 1 (i64 0) rfl
    have z2 := q4.cell 2 (.string ⟨#[]⟩) rfl
    have HQ4 := Lib.hid (And.intro p4 q4)
    clear p4 q4
    have H4 := Lib.hid (And.intro h4 f4)
    clear h4 f4
    go_wp2_with fail
    refine hK.out _ _ (by (try dsimp only); go_keep) (fun hHeld2 => ?_)
    clear hK K hHeld
    have hHeld := hHeld2
    clear hHeld2
    try simp only [Act.put, List.setIfInBounds_toArray, List.set_cons_zero, List.set_cons_succ, List.getElem_toArray, List.getElem_cons_zero, List.getElem_cons_succ]
    refine wpAnyH_take (i := 3) (v := ?_) rfl (by kernel_rfl) (by kernel_rfl) (by kernel_rfl) (fun _ _ _ h => h) (Or.inl ⟨by rfl, ?h17_13_4_8_3⟩) (by assumption) ?_
    case h17_13_4_8_3 => (intro w hSw; (try dsimp only at hSw); go_simp; try with_reducible rfl)
    try simp only [Act.put, List.setIfInBounds_toArray, List.set_cons_zero, List.set_cons_succ, List.getElem_toArray, List.getElem_cons_zero, List.getElem_cons_succ]
    refine wpAnyH_take (i := 4) (v := ?_) rfl (by kernel_rfl) (by kernel_rfl) (by kernel_rfl) (fun _ _ _ h => h) (Or.inl ⟨by rfl, ?h17_13_4_8_4⟩) (by assumption) ?_
    case h17_13_4_8_4 => (intro w hSw; (try dsimp only at hSw); go_simp; try with_reducible rfl)
    try simp only [Act.put, List.setIfInBounds_toArray, List.set_cons_zero, List.set_cons_succ, List.getElem_toArray, List.getElem_cons_zero, List.getElem_cons_succ]
    refine wpAnyH_take (i := 5) (v := ?_) rfl (by kernel_rfl) (by kernel_rfl) (by kernel_rfl) (fun _ _ _ h => h) (Or.inl ⟨by rfl, ?h17_13_4_8_5⟩) (by assumption) ?_
    case h17_13_4_8_5 => (intro w hSw; (try dsimp only at hSw); go_simp; try with_reducible rfl)
    try simp only [Act.put, List.setIfInBounds_toArray, List.set_cons_zero, List.set_cons_succ, List.getElem_toArray, List.getElem_cons_zero, List.getElem_cons_succ]
    refine wpAnyH_take (i := 7) (v := ?_) rfl (by kernel_rfl) (by kernel_rfl) (by kernel_rfl) (fun _ _ _ h => h) (Or.inl ⟨by rfl, ?h17_13_4_8_6⟩) (by assumption) ?_
    case h17_13_4_8_6 => (intro w hSw; (try dsimp only at hSw); go_simp; try with_reducible rfl)
    try simp only [Act.put, List.setIfInBounds_toArray, List.set_cons_zero, List.set_cons_succ, List.getElem_toArray, List.getElem_cons_zero, List.getElem_cons_succ]
    refine wpAnyH_ready (rs := [6]) (by kernel_rfl) (by simp) ?_
    refine AllReadyH.cons rfl (fun K hK => ?_) AllReadyH.nil
    go_simp
    (with_reducible refine (ref_any).mono ?_)
    rintro e w5 ⟨rfl, h5⟩
    have p5 := blk_kept HQ4.out.1 h5
    have q5 := blk_kept HQ4.out.2 h5
    have u0 := p5.cell 0 (i64 0) rfl
    have u1 := p5.cell 1 (i64 0) rfl
    have u2 := p5.cell 2 (.string ⟨#[]⟩) rfl
    have v0 := q5.cell 0 (i64 0) rfl
    have v1 := q5.cell 1 (i64 0) rfl
    have v2 := q5.cell 2 (.string ⟨#[]⟩) rfl
    clear p5 q5
    have H5 := Lib.hid h5
    clear h5
    go_wp2_with fail
    refine hK.out _ _ (by (try dsimp only); go_keep) (fun hHeld2 => ?_)
    clear hK K hHeld
    have hHeld := hHeld2
    clear hHeld2
    try simp only [Act.put, List.setIfInBounds_toArray, List.set_cons_zero, List.set_cons_succ, List.getElem_toArray, List.getElem_cons_zero, List.getElem_cons_succ]
    refine wpAnyH_take (i := 8) (v := ?_) rfl (by kernel_rfl) (by kernel_rfl) (by kernel_rfl) (fun _ _ _ h => h) (Or.inl ⟨by rfl, ?h17_13_4_8_7⟩) (by assumption) ?_
    case h17_13_4_8_7 => (intro w hSw; (try dsimp only at hSw); go_simp; try with_reducible rfl)
    try simp only [Act.put, List.setIfInBounds_toArray, List.set_cons_zero, List.set_cons_succ, List.getElem_toArray, List.getElem_cons_zero, List.getElem_cons_succ]
    refine wpAnyH_take (i := 9) (v := ?_) rfl (by kernel_rfl) (by kernel_rfl) (by kernel_rfl) (fun _ _ _ h => h) (Or.inl ⟨by rfl, ?h17_13_4_8_8⟩) (by assumption) ?_
    case h17_13_4_8_8 => (intro w hSw; (try dsimp only at hSw); go_simp; try with_reducible rfl)
    try simp only [Act.put, List.setIfInBounds_toArray, List.set_cons_zero, List.set_cons_succ, List.getElem_toArray, List.getElem_cons_zero, List.getElem_cons_succ]
    refine wpAnyH_take (i := 10) (v := ?_) rfl (by kernel_rfl) (by kernel_rfl) (by kernel_rfl) (fun _ _ _ h => h) (Or.inl ⟨by rfl, ?h17_13_4_8_9⟩) (by assumption) ?_
    case h17_13_4_8_9 => (intro w hSw; (try dsimp only at hSw); go_simp; try with_reducible rfl)
    try simp only [Act.put, List.setIfInBounds_toArray, List.set_cons_zero, List.set_cons_succ, List.getElem_toArray, List.getElem_cons_zero, List.getElem_cons_succ]
    refine wpAnyH_done (by kernel_rfl) ?_ _
    go_wp2
    go_ret
    have dd := do_done HB0.out H2.out.1 H2.out.2.1 HP.out.1 H4.out.1 H4.out.2
    exact ⟨rfl, dd.2.1.below H5.out, dd.2.2.trans (Fr.of_below H5.out _ _)⟩
  · obtain ⟨m, hm⟩ : ∃ m, n = m + 1 := ⟨n - 1, by have := List.length_pos_iff.2 (topB_true htb); omega⟩
    have hget : es[m]? = some ⟨tid, tsp, tnm⟩ := by
      have := topE_last (topB_true htb) hte
      rwa [hn, hm, Nat.add_sub_cancel] at this
    obtain ⟨g, had, hg, hc⟩ := hre (topB_true htb)
    obtain ⟨d0, d1, d2⟩ := hc m _ hget
    simp only at d0 d1 d2
    have hgk : Hid (∃ cs, Blk w g 50 cs) := Lib.hid (by
      obtain ⟨v, hv⟩ := HRE.out.2
      obtain ⟨ad', c', rfl⟩ := own_slice hv.2.2.1
      have h1 := hv.1.cell 0 _ rfl
      have h2 := (HB0.out.cell (p := ⟨rb, 0, none⟩) hrl).symm.trans cr1
      rw [h2] at h1
      simp only [Option.some.injEq] at h1
      obtain ⟨rfl, _, _⟩ := h1
      rw [had] at hv
      obtain ⟨_, cs, h⟩ := own_kind hv.2.2.1 g rfl
      exact ⟨cs, h⟩)
    have i1 : (0 : Int) ≤ (m : Int) := by omega
    have i2 : (m : Int) < (n : Int) := by omega
    have i3 : IntKind.i64.wrap ((n : Int) - 1) = (m : Int) := by have := HD.out.2.1; rw [hn] at this; rw [IntWalk.i64_in _ (by omega)]; omega
    have i4 : decide (0 < n) = true := by simp; omega
    have HGG := Lib.hid (And.intro had (And.intro hg (And.intro d0 (And.intro d1 d2))))
    have HAD := Lib.hid had
    clear hte htb hn hm hre hget hc d0 d1 d2 had
    rw [HAD.out] at cr1
    go_enter Try.func17, Try.ntmps17
    go_wp2_with (first
      | (go_at_call 23; (with_reducible refine (pop_m HD.out.1.1 HS.out.1 HS.out.2.1 HS.out.2.2).mono ?_); rintro e w2 ⟨rfl, h2, f2⟩; have cr2 := (rf_kept HD.out.1.2 f2).trans cr1; have hr2 := (HD.out.1.2.fr f2).lt; obtain ⟨e0, e1, e2, hg2⟩ := row_kept HB0.out f2 hgk.out HGG.out.2.1 HGG.out.2.2.1 HGG.out.2.2.2.1 HGG.out.2.2.2.2; have H2 := Lib.hid (And.intro h2 (And.intro f2 (HD.out.1.2.fr f2))); clear h2 f2))
    have ne1 : ¬ rb = w2.heap.size + 1 := by omega
    have ne2 : ¬ g = w2.heap.size + 1 := by omega
    refine wp_region_held_drew (S := (fun w' => w'.cell? ⟨rb, 0, none⟩ = some (.slice (some ⟨g, 0, none⟩) n c) ∧ w'.cell? ⟨g, m * 3, none⟩ = some (i64 tid) ∧ w'.cell? ⟨g, m * 3 + 1, none⟩ = some (i64 tsp) ∧ w'.cell? ⟨g, m * 3 + 2, none⟩ = some (.string tnm))) (by kernel_rfl) (by (try dsimp only); go_keep) (fun hHeld => ?_)
    refine wpAnyH_take (i := 0) (v := ?_) rfl (by kernel_rfl) (by kernel_rfl) (by kernel_rfl) (fun _ _ _ h => h) (Or.inl ⟨by rfl, ?h17_12_4_7_1⟩) (by assumption) ?_
    case h17_12_4_7_1 => (intro w hSw; (try dsimp only at hSw); go_simp; try with_reducible rfl)
    try simp only [Act.put, List.setIfInBounds_toArray, List.set_cons_zero, List.set_cons_succ, List.getElem_toArray, List.getElem_cons_zero, List.getElem_cons_succ]
    refine wpAnyH_take (i := 1) (v := ?_) rfl (by kernel_rfl) (by kernel_rfl) (by kernel_rfl) (fun _ _ _ h => h) (Or.inl ⟨by rfl, ?h17_12_4_7_2⟩) (by assumption) ?_
    case h17_12_4_7_2 => (intro w hSw; (try dsimp only at hSw); go_simp; try with_reducible rfl)
    try simp only [Act.put, List.setIfInBounds_toArray, List.set_cons_zero, List.set_cons_succ, List.getElem_toArray, List.getElem_cons_zero, List.getElem_cons_succ]
    refine wpAnyH_take (i := 2) (v := ?_) rfl (by kernel_rfl) (by kernel_rfl) (by kernel_rfl) (fun _ _ _ h => h) (Or.inl ⟨by rfl, ?h17_12_4_7_3⟩) (by assumption) ?_
    case h17_12_4_7_3 => (intro w hSw; (try dsimp only at hSw); go_simp; try with_reducible rfl)
    try simp only [Act.put, List.setIfInBounds_toArray, List.set_cons_zero, List.set_cons_succ, List.getElem_toArray, List.getElem_cons_zero, List.getElem_cons_succ]
    refine wpAnyH_take (i := 3) (v := ?_) rfl (by kernel_rfl) (by kernel_rfl) (by kernel_rfl) (fun _ _ _ h => h) (Or.inl ⟨by rfl, ?h17_12_4_7_4⟩) (by assumption) ?_
    case h17_12_4_7_4 => (intro w hSw; (try dsimp only at hSw); go_simp; try with_reducible rfl)
    try simp only [Act.put, List.setIfInBounds_toArray, List.set_cons_zero, List.set_cons_succ, List.getElem_toArray, List.getElem_cons_zero, List.getElem_cons_succ]
    refine wpAnyH_take (i := 4) (v := ?_) rfl (by kernel_rfl) (by kernel_rfl) (by kernel_rfl) (fun _ _ _ h => h) (Or.inl ⟨by rfl, ?h17_12_4_7_5⟩) (by assumption) ?_
    case h17_12_4_7_5 => (intro w hSw; (try dsimp only at hSw); go_simp; try with_reducible rfl)
    try simp only [Act.put, List.setIfInBounds_toArray, List.set_cons_zero, List.set_cons_succ, List.getElem_toArray, List.getElem_cons_zero, List.getElem_cons_succ]
    refine wpAnyH_take (i := 5) (v := ?_) rfl (by kernel_rfl) (by kernel_rfl) (by kernel_rfl) (fun _ _ _ h => h) (Or.inl ⟨by rfl, ?h17_12_4_7_6⟩) (by assumption) ?_
    case h17_12_4_7_6 => (intro w hSw; (try dsimp only at hSw); go_simp; try with_reducible rfl)
    try simp only [Act.put, List.setIfInBounds_toArray, List.set_cons_zero, List.set_cons_succ, List.getElem_toArray, List.getElem_cons_zero, List.getElem_cons_succ]
    refine wpAnyH_take (i := 6) (v := ?_) rfl (by kernel_rfl) (by kernel_rfl) (by kernel_rfl) (fun _ _ _ h => h) (Or.inl ⟨by rfl, ?h17_12_4_7_7⟩) (by assumption) ?_
    case h17_12_4_7_7 => (intro w hSw; (try dsimp only at hSw); go_simp; try with_reducible rfl)
    try simp only [Act.put, List.setIfInBounds_toArray, List.set_cons_zero, List.set_cons_succ, List.getElem_toArray, List.getElem_cons_zero, List.getElem_cons_succ]
    refine wpAnyH_take (i := 7) (v := ?_) rfl (by kernel_rfl) (by kernel_rfl) (by kernel_rfl) (fun _ _ _ h => h) (Or.inl ⟨by rfl, ?h17_12_4_7_8⟩) (by assumption) ?_
    case h17_12_4_7_8 => (intro w hSw; (try dsimp only at hSw); go_simp; try with_reducible rfl)
    try simp only [Act.put, List.setIfInBounds_toArray, List.set_cons_zero, List.set_cons_succ, List.getElem_toArray, List.getElem_cons_zero, List.getElem_cons_succ]
    refine wpAnyH_take (i := 8) (v := ?_) rfl (by kernel_rfl) (by kernel_rfl) (by kernel_rfl) (fun _ _ _ h => h) (Or.inl ⟨by rfl, ?h17_12_4_7_9⟩) (by assumption) ?_
    case h17_12_4_7_9 => (intro w hSw; (try dsimp only at hSw); go_simp; try with_reducible rfl)
    try simp only [Act.put, List.setIfInBounds_toArray, List.set_cons_zero, List.set_cons_succ, List.getElem_toArray, List.getElem_cons_zero, List.getElem_cons_succ]
    refine wpAnyH_take (i := 9) (v := ?_) rfl (by kernel_rfl) (by kernel_rfl) (by kernel_rfl) (fun _ _ _ h => h) (Or.inl ⟨by rfl, ?h17_12_4_7_10⟩) (by assumption) ?_
    case h17_12_4_7_10 => (intro w hSw; (try dsimp only at hSw); go_simp; try with_reducible rfl)
    try simp only [Act.put, List.setIfInBounds_toArray, List.set_cons_zero, List.set_cons_succ, List.getElem_toArray, List.getElem_cons_zero, List.getElem_cons_succ]
    refine wpAnyH_take (i := 10) (v := ?_) rfl (by kernel_rfl) (by kernel_rfl) (by kernel_rfl) (fun _ _ _ h => h) (Or.inl ⟨by rfl, ?h17_12_4_7_11⟩) (by assumption) ?_
    case h17_12_4_7_11 => (intro w hSw; (try dsimp only at hSw); go_simp; try with_reducible rfl)
    try simp only [Act.put, List.setIfInBounds_toArray, List.set_cons_zero, List.set_cons_succ, List.getElem_toArray, List.getElem_cons_zero, List.getElem_cons_succ]
    refine wpAnyH_take (i := 11) (v := ?_) rfl (by kernel_rfl) (by kernel_rfl) (by kernel_rfl) (fun _ _ _ h => h) (Or.inl ⟨by rfl, ?h17_12_4_7_12⟩) (by assumption) ?_
    case h17_12_4_7_12 => (intro w hSw; (try dsimp only at hSw); go_simp; try with_reducible rfl)
    try simp only [Act.put, List.setIfInBounds_toArray, List.set_cons_zero, List.set_cons_succ, List.getElem_toArray, List.getElem_cons_zero, List.getElem_cons_succ]
    refine wpAnyH_ready (rs := [12]) (by kernel_rfl) (by simp) ?_
    refine AllReadyH.cons rfl (fun K hK => ?_) AllReadyH.nil
    go_simp
    refine hK.out _ _ (by (try dsimp only); go_keep) (fun hHeld2 => ?_)
    clear hK K hHeld
    have hHeld := hHeld2
    clear hHeld2
    try simp only [Act.put, List.setIfInBounds_toArray, List.set_cons_zero, List.set_cons_succ, List.getElem_toArray, List.getElem_cons_zero, List.getElem_cons_succ]
    refine wpAnyH_done (by kernel_rfl) ?_ _
    go_wp2_with fail
    obtain ⟨w3, hw3⟩ : ∃ w3, ((w2.alloc (.cells #[i64 tid, i64 tsp, .string tnm] 27)).alloc (.cells #[i64 tid, i64 tsp, .string tnm] 50)).drew = w3 := ⟨_, rfl⟩
    have HP : Hid (Below w2.heap.size w2 w3.drew ∧ Blk w3.drew w2.heap.size 27 #[i64 tid, i64 tsp, .string tnm] ∧ Blk w3.drew (w2.heap.size + 1) 50 #[i64 tid, i64 tsp, .string tnm]) := Lib.hid (by rw [← hw3]; exact pop_box2 w2 tid tsp tnm)
    have a0 : w3.cell? ⟨w2.heap.size, 0, none⟩ = some (i64 tid) := HP.out.2.1.cell 0 (i64 tid) rfl
    have a1 : w3.cell? ⟨w2.heap.size, 1, none⟩ = some (i64 tsp) := HP.out.2.1.cell 1 (i64 tsp) rfl
    have a2 : w3.cell? ⟨w2.heap.size, 2, none⟩ = some (.string tnm) := HP.out.2.1.cell 2 (.string tnm) rfl
    have b0 : w3.cell? ⟨w2.heap.size + 1, 0, none⟩ = some (i64 tid) := HP.out.2.2.cell 0 (i64 tid) rfl
    have b1 : w3.cell? ⟨w2.heap.size + 1, 1, none⟩ = some (i64 tsp) := HP.out.2.2.cell 1 (i64 tsp) rfl
    have b2 : w3.cell? ⟨w2.heap.size + 1, 2, none⟩ = some (.string tnm) := HP.out.2.2.cell 2 (.string tnm) rfl
    rw [hw3]
    clear hw3
    refine wp_region_held_drew (S := (fun w' => w'.cell? ⟨w2.heap.size, 0, none⟩ = some (i64 tid) ∧ w'.cell? ⟨w2.heap.size, 1, none⟩ = some (i64 tsp) ∧ w'.cell? ⟨w2.heap.size, 2, none⟩ = some (.string tnm) ∧ w'.cell? ⟨w2.heap.size + 1, 0, none⟩ = some (i64 tid) ∧ w'.cell? ⟨w2.heap.size + 1, 1, none⟩ = some (i64 tsp) ∧ w'.cell? ⟨w2.heap.size + 1, 2, none⟩ = some (.string tnm))) (by kernel_rfl) (by (try dsimp only); go_keep) (fun hHeld => ?_)
    refine wpAnyH_take (i := 0) (v := ?_) rfl (by kernel_rfl) (by kernel_rfl) (by kernel_rfl) (fun _ _ _ h => h) (Or.inl ⟨by rfl, ?h17_13_4_9_1⟩) (by assumption) ?_
    case h17_13_4_9_1 => (intro w hSw; (try dsimp only at hSw); go_simp; try with_reducible rfl)
    try simp only [Act.put, List.setIfInBounds_toArray, List.set_cons_zero, List.set_cons_succ, List.getElem_toArray, List.getElem_cons_zero, List.getElem_cons_succ]
    refine wpAnyH_take (i := 1) (v := ?_) rfl (by kernel_rfl) (by kernel_rfl) (by kernel_rfl) (fun _ _ _ h => h) (Or.inl ⟨by rfl, ?h17_13_4_9_2⟩) (by assumption) ?_
    case h17_13_4_9_2 => (intro w hSw; (try dsimp only at hSw); go_simp; try with_reducible rfl)
    try simp only [Act.put, List.setIfInBounds_toArray, List.set_cons_zero, List.set_cons_succ, List.getElem_toArray, List.getElem_cons_zero, List.getElem_cons_succ]
    refine wpAnyH_ready (rs := [2]) (by kernel_rfl) (by simp) ?_
    refine AllReadyH.cons rfl (fun K hK => ?_) AllReadyH.nil
    go_simp
    (with_reducible refine (rpop_n (H2.out.2.2.below HP.out.1) HS.out.2.1 HS.out.2.2).mono ?_)
    rintro e w4 ⟨rfl, h4, f4⟩
    have p4 := f4.blk HP.out.2.1 (.inr rfl)
    have q4 := f4.blk HP.out.2.2 (.inr rfl)
    have y0 := p4.cell 0 (i64 tid) rfl
    have y1 := p4.cell 1 (i64 tsp) rfl
    have y2 := p4.cell 2 (.string tnm) rfl
    have z0 := q4.cell 0 (i64 tid) rfl
    have z1 := q4.cell 1 (i64 tsp) rfl
    have z2 := q4.cell 2 (.string tnm) rfl
    have HQ4 := Lib.hid (And.intro p4 q4)
    clear p4 q4
    have H4 := Lib.hid (And.intro h4 f4)
    clear h4 f4
    go_wp2_with fail
    refine hK.out _ _ (by (try dsimp only); go_keep) (fun hHeld2 => ?_)
    clear hK K hHeld
    have hHeld := hHeld2
    clear hHeld2
    try simp only [Act.put, List.setIfInBounds_toArray, List.set_cons_zero, List.set_cons_succ, List.getElem_toArray, List.getElem_cons_zero, List.getElem_cons_succ]
    refine wpAnyH_take (i := 3) (v := ?_) rfl (by kernel_rfl) (by kernel_rfl) (by kernel_rfl) (fun _ _ _ h => h) (Or.inl ⟨by rfl, ?h17_13_4_9_3⟩) (by assumption) ?_
    case h17_13_4_9_3 => (intro w hSw; (try dsimp only at hSw); go_simp; try with_reducible rfl)
    try simp only [Act.put, List.setIfInBounds_toArray, List.set_cons_zero, List.set_cons_succ, List.getElem_toArray, List.getElem_cons_zero, List.getElem_cons_succ]
    refine wpAnyH_take (i := 4) (v := ?_) rfl (by kernel_rfl) (by kernel_rfl) (by kernel_rfl) (fun _ _ _ h => h) (Or.inl ⟨by rfl, ?h17_13_4_9_4⟩) (by assumption) ?_
    case h17_13_4_9_4 => (intro w hSw; (try dsimp only at hSw); go_simp; try with_reducible rfl)
    try simp only [Act.put, List.setIfInBounds_toArray, List.set_cons_zero, List.set_cons_succ, List.getElem_toArray, List.getElem_cons_zero, List.getElem_cons_succ]
    refine wpAnyH_take (i := 5) (v := ?_) rfl (by kernel_rfl) (by kernel_rfl) (by kernel_rfl) (fun _ _ _ h => h) (Or.inl ⟨by rfl, ?h17_13_4_9_5⟩) (by assumption) ?_
    case h17_13_4_9_5 => (intro w hSw; (try dsimp only at hSw); go_simp; try with_reducible rfl)
    try simp only [Act.put, List.setIfInBounds_toArray, List.set_cons_zero, List.set_cons_succ, List.getElem_toArray, List.getElem_cons_zero, List.getElem_cons_succ]
    refine wpAnyH_take (i := 7) (v := ?_) rfl (by kernel_rfl) (by kernel_rfl) (by kernel_rfl) (fun _ _ _ h => h) (Or.inl ⟨by rfl, ?h17_13_4_9_6⟩) (by assumption) ?_
    case h17_13_4_9_6 => (intro w hSw; (try dsimp only at hSw); go_simp; try with_reducible rfl)
    try simp only [Act.put, List.setIfInBounds_toArray, List.set_cons_zero, List.set_cons_succ, List.getElem_toArray, List.getElem_cons_zero, List.getElem_cons_succ]
    refine wpAnyH_ready (rs := [6]) (by kernel_rfl) (by simp) ?_
    refine AllReadyH.cons rfl (fun K hK => ?_) AllReadyH.nil
    go_simp
    (with_reducible refine (ref_any).mono ?_)
    rintro e w5 ⟨rfl, h5⟩
    have p5 := blk_kept HQ4.out.1 h5
    have q5 := blk_kept HQ4.out.2 h5
    have u0 := p5.cell 0 (i64 tid) rfl
    have u1 := p5.cell 1 (i64 tsp) rfl
    have u2 := p5.cell 2 (.string tnm) rfl
    have v0 := q5.cell 0 (i64 tid) rfl
    have v1 := q5.cell 1 (i64 tsp) rfl
    have v2 := q5.cell 2 (.string tnm) rfl
    clear p5 q5
    have H5 := Lib.hid h5
    clear h5
    go_wp2_with fail
    refine hK.out _ _ (by (try dsimp only); go_keep) (fun hHeld2 => ?_)
    clear hK K hHeld
    have hHeld := hHeld2
    clear hHeld2
    try simp only [Act.put, List.setIfInBounds_toArray, List.set_cons_zero, List.set_cons_succ, List.getElem_toArray, List.getElem_cons_zero, List.getElem_cons_succ]
    refine wpAnyH_take (i := 8) (v := ?_) rfl (by kernel_rfl) (by kernel_rfl) (by kernel_rfl) (fun _ _ _ h => h) (Or.inl ⟨by rfl, ?h17_13_4_9_7⟩) (by assumption) ?_
    case h17_13_4_9_7 => (intro w hSw; (try dsimp only at hSw); go_simp; try with_reducible rfl)
    try simp only [Act.put, List.setIfInBounds_toArray, List.set_cons_zero, List.set_cons_succ, List.getElem_toArray, List.getElem_cons_zero, List.getElem_cons_succ]
    refine wpAnyH_take (i := 9) (v := ?_) rfl (by kernel_rfl) (by kernel_rfl) (by kernel_rfl) (fun _ _ _ h => h) (Or.inl ⟨by rfl, ?h17_13_4_9_8⟩) (by assumption) ?_
    case h17_13_4_9_8 => (intro w hSw; (try dsimp only at hSw); go_simp; try with_reducible rfl)
    try simp only [Act.put, List.setIfInBounds_toArray, List.set_cons_zero, List.set_cons_succ, List.getElem_toArray, List.getElem_cons_zero, List.getElem_cons_succ]
    refine wpAnyH_take (i := 10) (v := ?_) rfl (by kernel_rfl) (by kernel_rfl) (by kernel_rfl) (fun _ _ _ h => h) (Or.inl ⟨by rfl, ?h17_13_4_9_9⟩) (by assumption) ?_
    case h17_13_4_9_9 => (intro w hSw; (try dsimp only at hSw); go_simp; try with_reducible rfl)
    try simp only [Act.put, List.setIfInBounds_toArray, List.set_cons_zero, List.set_cons_succ, List.getElem_toArray, List.getElem_cons_zero, List.getElem_cons_succ]
    refine wpAnyH_done (by kernel_rfl) ?_ _
    go_wp2
    go_ret
    have dd := do_done HB0.out H2.out.1 H2.out.2.1 HP.out.1 H4.out.1 H4.out.2
    exact ⟨rfl, dd.2.1.below H5.out, dd.2.2.trans (Fr.of_below H5.out _ _)⟩
set_option maxHeartbeats 4000000 in
set_option maxRecDepth 100000 in
theorem does_to (h : Duo w B lb rb es) (hl : es.length ≤ 200) (hs : (popW (backP [n1, n2]) es).dropLast = es') : Calls Try.prog 17 #[ptr lb, ptr rb, .agg #[i64 5, i64 at_, i64 id, i64 sp, .string nm, .string n1, .string n2]] w (DoIt B lb rb es' w) := by
  obtain ⟨n, hn⟩ : ∃ n, es.length = n := ⟨_, rfl⟩
  obtain ⟨ad, c, cr, hre, hrl⟩ := h.2.at_ hn
  have hbx := (Blk.new w 46 #[i64 5, i64 at_, i64 id, i64 sp, .string nm, .string n1, .string n2]).alloc (.cells #[.string n1, .string n2] 9)
  have b0 : Below w.heap.size w ((w.alloc (.cells #[i64 5, i64 at_, i64 id, i64 sp, .string nm, .string n1, .string n2] 46)).alloc (.cells #[.string n1, .string n2] 9)) := ((Below.refl _ w).alloc (Nat.le_refl _) _).alloc (by simp) _
  have cr1 : ((w.alloc (.cells #[i64 5, i64 at_, i64 id, i64 sp, .string nm, .string n1, .string n2] 46)).alloc (.cells #[.string n1, .string n2] 9)).cell? ⟨rb, 0, none⟩ = some (.slice ad n c) := (b0.cell (p := ⟨rb, 0, none⟩) hrl).trans cr
  have HNM := Lib.hid (NamesAt.two (w.alloc (.cells #[i64 5, i64 at_, i64 id, i64 sp, .string nm, .string n1, .string n2] 46)) n1 n2 9)
  have HBX := Lib.hid hbx
  have HB0 := Lib.hid b0
  have HB1 := Lib.hid b0.drew
  have HD := Lib.hid (And.intro (h.below b0) (And.intro hl hn))
  have HRE := Lib.hid (And.intro hre (h.2))
  have x0 := hbx.cell 0 (i64 5) rfl
  have x1 := hbx.cell 1 (i64 at_) rfl
  have x2 := hbx.cell 2 (i64 id) rfl
  have x3 := hbx.cell 3 (i64 sp) rfl
  have x4 := hbx.cell 4 (.string nm) rfl
  have x5 := hbx.cell 5 (.string n1) rfl
  have x6 := hbx.cell 6 (.string n2) rfl
  have HB2 := Lib.hid ((Below.refl _ ((w.alloc (.cells #[i64 5, i64 at_, i64 id, i64 sp, .string nm, .string n1, .string n2] 46)).alloc (.cells #[.string n1, .string n2] 9))).alloc (Nat.le_refl _) (.cells #[.string n1, .string n2] 9))
  obtain ⟨q, hq⟩ : ∃ q, popW (backP [n1, n2]) es = q := ⟨_, rfl⟩
  rw [hq] at hs
  subst hs
  have hql : q.length ≤ es.length := by rw [← hq]; exact popW_length _ _
  have hqd : q.dropLast.length ≤ es.length := by rw [List.length_dropLast]; omega
  obtain ⟨d, hd⟩ : ∃ d, d + q.dropLast.length = es.length := ⟨es.length - q.dropLast.length, by omega⟩
  have HNB : Hid (Blk ((w.alloc (.cells #[i64 5, i64 at_, i64 id, i64 sp, .string nm, .string n1, .string n2] 46)).alloc (.cells #[.string n1, .string n2] 9)) (w.heap.size + 1) 9 #[.string n1, .string n2]) := Lib.hid (by
    have := Blk.new (w.alloc (.cells #[i64 5, i64 at_, i64 id, i64 sp, .string nm, .string n1, .string n2] 46)) 9 #[.string n1, .string n2]
    rwa [show (w.alloc (.cells #[i64 5, i64 at_, i64 id, i64 sp, .string nm, .string n1, .string n2] 46)).heap.size = w.heap.size + 1 by simp] at this)
  have HNB2 : Hid (Blk (((w.alloc (.cells #[i64 5, i64 at_, i64 id, i64 sp, .string nm, .string n1, .string n2] 46)).alloc (.cells #[.string n1, .string n2] 9)).alloc (.cells #[.string n1, .string n2] 9)) (w.heap.size + 1 + 1) 9 #[.string n1, .string n2]) := Lib.hid (by
    have := Blk.new ((w.alloc (.cells #[i64 5, i64 at_, i64 id, i64 sp, .string nm, .string n1, .string n2] 46)).alloc (.cells #[.string n1, .string n2] 9)) 9 #[.string n1, .string n2]
    rwa [show ((w.alloc (.cells #[i64 5, i64 at_, i64 id, i64 sp, .string nm, .string n1, .string n2] 46)).alloc (.cells #[.string n1, .string n2] 9)).heap.size = w.heap.size + 1 + 1 by simp] at this)
  have HS := Lib.hid (And.intro hq hd)
  have hs : True := trivial
  clear hq hd hql hqd
  clear h hl hs hn hbx b0 cr hre cr1
  go_enter Try.func17, Try.ntmps17
  go_wp2_with (first
    | (go_at_call 15; (with_reducible refine (to_m (n := d) (HD.out.1.1.below HB2.out) (NamesAt.blk HNB2.out) (Nat.le_trans HD.out.2.1 (by decide)) HS.out.1 HS.out.2).mono ?_); rintro e w2 ⟨rfl, h2, f2⟩; have H2 := Lib.hid (And.intro h2 (And.intro f2 ((HD.out.1.2.below HB2.out).fr f2))); clear h2 f2)
    | (go_at_call 33; (with_reducible refine (rto_any (n := d) H2.out.2.2 (NamesAt.blk (H2.out.2.1.blk (HNB.out.alloc _) (.inr rfl))) HS.out.1 HS.out.2).mono ?_); rintro e w4 ⟨rfl, h4, f4⟩; have H4 := Lib.hid (And.intro h4 f4); clear h4 f4))
  go_ret
  exact duo_done (HB0.out.trans (HB2.out.mono HB0.out.size)) H2.out.1 H2.out.2.1 H4.out.1 H4.out.2
set_option maxHeartbeats 4000000 in
set_option maxRecDepth 100000 in
theorem does_back (h : Duo w B lb rb es) (hl : es.length ≤ 200) (hs : popW (backP [n1, n2]) es = es') : Calls Try.prog 17 #[ptr lb, ptr rb, .agg #[i64 6, i64 at_, i64 id, i64 sp, .string nm, .string n1, .string n2]] w (DoIt B lb rb es' w) := by
  obtain ⟨n, hn⟩ : ∃ n, es.length = n := ⟨_, rfl⟩
  obtain ⟨ad, c, cr, hre, hrl⟩ := h.2.at_ hn
  have hbx := (Blk.new w 46 #[i64 6, i64 at_, i64 id, i64 sp, .string nm, .string n1, .string n2]).alloc (.cells #[.string n1, .string n2] 9)
  have b0 : Below w.heap.size w ((w.alloc (.cells #[i64 6, i64 at_, i64 id, i64 sp, .string nm, .string n1, .string n2] 46)).alloc (.cells #[.string n1, .string n2] 9)) := ((Below.refl _ w).alloc (Nat.le_refl _) _).alloc (by simp) _
  have cr1 : ((w.alloc (.cells #[i64 6, i64 at_, i64 id, i64 sp, .string nm, .string n1, .string n2] 46)).alloc (.cells #[.string n1, .string n2] 9)).cell? ⟨rb, 0, none⟩ = some (.slice ad n c) := (b0.cell (p := ⟨rb, 0, none⟩) hrl).trans cr
  have HNM := Lib.hid (NamesAt.two (w.alloc (.cells #[i64 6, i64 at_, i64 id, i64 sp, .string nm, .string n1, .string n2] 46)) n1 n2 9)
  have HBX := Lib.hid hbx
  have HB0 := Lib.hid b0
  have HB1 := Lib.hid b0.drew
  have HD := Lib.hid (And.intro (h.below b0) (And.intro hl hn))
  have HRE := Lib.hid (And.intro hre (h.2))
  have x0 := hbx.cell 0 (i64 6) rfl
  have x1 := hbx.cell 1 (i64 at_) rfl
  have x2 := hbx.cell 2 (i64 id) rfl
  have x3 := hbx.cell 3 (i64 sp) rfl
  have x4 := hbx.cell 4 (.string nm) rfl
  have x5 := hbx.cell 5 (.string n1) rfl
  have x6 := hbx.cell 6 (.string n2) rfl
  have HB2 := Lib.hid ((Below.refl _ ((w.alloc (.cells #[i64 6, i64 at_, i64 id, i64 sp, .string nm, .string n1, .string n2] 46)).alloc (.cells #[.string n1, .string n2] 9))).alloc (Nat.le_refl _) (.cells #[.string n1, .string n2] 9))
  obtain ⟨q, hq⟩ : ∃ q, popW (backP [n1, n2]) es = q := ⟨_, rfl⟩
  rw [hq] at hs
  subst hs
  have hql : q.length ≤ es.length := by rw [← hq]; exact popW_length _ _
  have hqd : q.dropLast.length ≤ es.length := by rw [List.length_dropLast]; omega
  obtain ⟨d, hd⟩ : ∃ d, d + q.length = es.length := ⟨es.length - q.length, by omega⟩
  have HNB : Hid (Blk ((w.alloc (.cells #[i64 6, i64 at_, i64 id, i64 sp, .string nm, .string n1, .string n2] 46)).alloc (.cells #[.string n1, .string n2] 9)) (w.heap.size + 1) 9 #[.string n1, .string n2]) := Lib.hid (by
    have := Blk.new (w.alloc (.cells #[i64 6, i64 at_, i64 id, i64 sp, .string nm, .string n1, .string n2] 46)) 9 #[.string n1, .string n2]
    rwa [show (w.alloc (.cells #[i64 6, i64 at_, i64 id, i64 sp, .string nm, .string n1, .string n2] 46)).heap.size = w.heap.size + 1 by simp] at this)
  have HNB2 : Hid (Blk (((w.alloc (.cells #[i64 6, i64 at_, i64 id, i64 sp, .string nm, .string n1, .string n2] 46)).alloc (.cells #[.string n1, .string n2] 9)).alloc (.cells #[.string n1, .string n2] 9)) (w.heap.size + 1 + 1) 9 #[.string n1, .string n2]) := Lib.hid (by
    have := Blk.new ((w.alloc (.cells #[i64 6, i64 at_, i64 id, i64 sp, .string nm, .string n1, .string n2] 46)).alloc (.cells #[.string n1, .string n2] 9)) 9 #[.string n1, .string n2]
    rwa [show ((w.alloc (.cells #[i64 6, i64 at_, i64 id, i64 sp, .string nm, .string n1, .string n2] 46)).alloc (.cells #[.string n1, .string n2] 9)).heap.size = w.heap.size + 1 + 1 by simp] at this)
  have HS := Lib.hid (And.intro hq hd)
  have hs : True := trivial
  clear hq hd hql hqd
  clear h hl hs hn hbx b0 cr hre cr1
  go_enter Try.func17, Try.ntmps17
  go_wp2_with (first
    | (go_at_call 14; (with_reducible refine (back_m (n := d) (HD.out.1.1.below HB2.out) (NamesAt.blk HNB2.out) (Nat.le_trans HD.out.2.1 (by decide)) HS.out.1 HS.out.2).mono ?_); rintro e w2 ⟨rfl, h2, f2⟩; have H2 := Lib.hid (And.intro h2 (And.intro f2 ((HD.out.1.2.below HB2.out).fr f2))); clear h2 f2)
    | (go_at_call 34; (with_reducible refine (rback_any (n := d) H2.out.2.2 (NamesAt.blk (H2.out.2.1.blk (HNB.out.alloc _) (.inr rfl))) HS.out.1 HS.out.2).mono ?_); rintro e w4 ⟨rfl, h4, f4⟩; have H4 := Lib.hid (And.intro h4 f4); clear h4 f4))
  go_ret
  exact duo_done (HB0.out.trans (HB2.out.mono HB0.out.size)) H2.out.1 H2.out.2.1 H4.out.1 H4.out.2
set_option maxHeartbeats 4000000 in
set_option maxRecDepth 100000 in
theorem does_imp (h : Duo w B lb rb es) (hl : es.length ≤ 200) (hs : popW (impP n1) es = es') : Calls Try.prog 17 #[ptr lb, ptr rb, .agg #[i64 7, i64 at_, i64 id, i64 sp, .string nm, .string n1, .string n2]] w (DoIt B lb rb es' w) := by
  obtain ⟨n, hn⟩ : ∃ n, es.length = n := ⟨_, rfl⟩
  obtain ⟨ad, c, cr, hre, hrl⟩ := h.2.at_ hn
  have hbx := (Blk.new w 46 #[i64 7, i64 at_, i64 id, i64 sp, .string nm, .string n1, .string n2]).alloc (.cells #[.string n1, .string n2] 9)
  have b0 : Below w.heap.size w ((w.alloc (.cells #[i64 7, i64 at_, i64 id, i64 sp, .string nm, .string n1, .string n2] 46)).alloc (.cells #[.string n1, .string n2] 9)) := ((Below.refl _ w).alloc (Nat.le_refl _) _).alloc (by simp) _
  have cr1 : ((w.alloc (.cells #[i64 7, i64 at_, i64 id, i64 sp, .string nm, .string n1, .string n2] 46)).alloc (.cells #[.string n1, .string n2] 9)).cell? ⟨rb, 0, none⟩ = some (.slice ad n c) := (b0.cell (p := ⟨rb, 0, none⟩) hrl).trans cr
  have HNM := Lib.hid (NamesAt.two (w.alloc (.cells #[i64 7, i64 at_, i64 id, i64 sp, .string nm, .string n1, .string n2] 46)) n1 n2 9)
  have HBX := Lib.hid hbx
  have HB0 := Lib.hid b0
  have HB1 := Lib.hid b0.drew
  have HD := Lib.hid (And.intro (h.below b0) (And.intro hl hn))
  have HRE := Lib.hid (And.intro hre (h.2))
  have x0 := hbx.cell 0 (i64 7) rfl
  have x1 := hbx.cell 1 (i64 at_) rfl
  have x2 := hbx.cell 2 (i64 id) rfl
  have x3 := hbx.cell 3 (i64 sp) rfl
  have x4 := hbx.cell 4 (.string nm) rfl
  have x5 := hbx.cell 5 (.string n1) rfl
  have x6 := hbx.cell 6 (.string n2) rfl
  obtain ⟨r, hr⟩ : ∃ r, (es.length : Int) - (es'.length : Int) = r := ⟨_, rfl⟩
  have HS := Lib.hid (And.intro hs hr)
  clear h hl hs hr hn hbx b0 cr hre cr1
  go_enter Try.func17, Try.ntmps17
  go_wp2_with fail
  refine wp_region_held_drew (S := (fun w' => w'.cell? ⟨w.heap.size, 5, none⟩ = some (.string n1))) (by kernel_rfl) (by (try dsimp only); go_keep) (fun hHeld => ?_)
  refine wpAnyH_take (i := 0) (v := ?_) rfl (by kernel_rfl) (by kernel_rfl) (by kernel_rfl) (fun _ _ _ h => h) (Or.inl ⟨by rfl, ?h17_19_2_1_1⟩) (by assumption) ?_
  case h17_19_2_1_1 => (intro w hSw; (try dsimp only at hSw); go_simp; try with_reducible rfl)
  try simp only [Act.put, List.setIfInBounds_toArray, List.set_cons_zero, List.set_cons_succ, List.getElem_toArray, List.getElem_cons_zero, List.getElem_cons_succ]
  refine wpAnyH_take (i := 1) (v := ?_) rfl (by kernel_rfl) (by kernel_rfl) (by kernel_rfl) (fun _ _ _ h => h) (Or.inl ⟨by rfl, ?h17_19_2_1_2⟩) (by assumption) ?_
  case h17_19_2_1_2 => (intro w hSw; (try dsimp only at hSw); go_simp; try with_reducible rfl)
  try simp only [Act.put, List.setIfInBounds_toArray, List.set_cons_zero, List.set_cons_succ, List.getElem_toArray, List.getElem_cons_zero, List.getElem_cons_succ]
  refine wpAnyH_take (i := 2) (v := ?_) rfl (by kernel_rfl) (by kernel_rfl) (by kernel_rfl) (fun _ _ _ h => h) (Or.inl ⟨by rfl, ?h17_19_2_1_3⟩) (by assumption) ?_
  case h17_19_2_1_3 => (intro w hSw; (try dsimp only at hSw); go_simp; try with_reducible rfl)
  try simp only [Act.put, List.setIfInBounds_toArray, List.set_cons_zero, List.set_cons_succ, List.getElem_toArray, List.getElem_cons_zero, List.getElem_cons_succ]
  refine wpAnyH_take (i := 4) (v := ?_) rfl (by kernel_rfl) (by kernel_rfl) (by kernel_rfl) (fun _ _ _ h => h) (Or.inl ⟨by rfl, ?h17_19_2_1_4⟩) (by assumption) ?_
  case h17_19_2_1_4 => (intro w hSw; (try dsimp only at hSw); go_simp; try with_reducible rfl)
  try simp only [Act.put, List.setIfInBounds_toArray, List.set_cons_zero, List.set_cons_succ, List.getElem_toArray, List.getElem_cons_zero, List.getElem_cons_succ]
  refine wpAnyH_take (i := 5) (v := ?_) rfl (by kernel_rfl) (by kernel_rfl) (by kernel_rfl) (fun _ _ _ h => h) (Or.inl ⟨by rfl, ?h17_19_2_1_5⟩) (by assumption) ?_
  case h17_19_2_1_5 => (intro w hSw; (try dsimp only at hSw); go_simp; try with_reducible rfl)
  try simp only [Act.put, List.setIfInBounds_toArray, List.set_cons_zero, List.set_cons_succ, List.getElem_toArray, List.getElem_cons_zero, List.getElem_cons_succ]
  refine wpAnyH_take (i := 6) (v := ?_) rfl (by kernel_rfl) (by kernel_rfl) (by kernel_rfl) (fun _ _ _ h => h) (Or.inl ⟨by rfl, ?h17_19_2_1_6⟩) (by assumption) ?_
  case h17_19_2_1_6 => (intro w hSw; (try dsimp only at hSw); go_simp; try with_reducible rfl)
  try simp only [Act.put, List.setIfInBounds_toArray, List.set_cons_zero, List.set_cons_succ, List.getElem_toArray, List.getElem_cons_zero, List.getElem_cons_succ]
  refine wpAnyH_ready (rs := [3]) (by kernel_rfl) (by simp) ?_
  refine AllReadyH.cons rfl (fun K hK => ?_) AllReadyH.nil
  go_simp
  (with_reducible refine (implied_n (HD.out.1.1.below (dqr _)) (Nat.le_trans HD.out.2.1 (by decide)) HS.out.1 HS.out.2).mono ?_)
  rintro e w2 ⟨rfl, h2, f2⟩
  have y5 := (f2.blk HBX.out.drew (.inr rfl)).cell 5 (.string n1) rfl
  have r2 := (HD.out.1.2.below (dqr _)).fr f2
  have H2 := Lib.hid (And.intro h2 (And.intro f2 (And.intro r2 (f2.blk HBX.out.drew (.inr rfl)))))
  clear h2 f2 r2
  go_wp2_with fail
  refine hK.out _ _ (by (try dsimp only); go_keep) (fun hHeld2 => ?_)
  clear hK K hHeld
  have hHeld := hHeld2
  clear hHeld2
  try simp only [Act.put, List.setIfInBounds_toArray, List.set_cons_zero, List.set_cons_succ, List.getElem_toArray, List.getElem_cons_zero, List.getElem_cons_succ]
  refine wpAnyH_ready (rs := [7]) (by kernel_rfl) (by simp) ?_
  refine AllReadyH.cons rfl (fun K hK => ?_) AllReadyH.nil
  go_simp
  (with_reducible refine (rimplied_n H2.out.2.2.1 (Nat.le_trans HD.out.2.1 (by decide)) HS.out.1 HS.out.2).mono ?_)
  rintro e w4 ⟨rfl, h4, f4⟩
  have v5 := (f4.blk H2.out.2.2.2 (.inr rfl)).cell 5 (.string n1) rfl
  have H4 := Lib.hid (And.intro h4 f4)
  clear h4 f4
  go_wp2_with fail
  refine hK.out _ _ (by (try dsimp only); go_keep) (fun hHeld2 => ?_)
  clear hK K hHeld
  have hHeld := hHeld2
  clear hHeld2
  try simp only [Act.put, List.setIfInBounds_toArray, List.set_cons_zero, List.set_cons_succ, List.getElem_toArray, List.getElem_cons_zero, List.getElem_cons_succ]
  refine wpAnyH_take (i := 8) (v := ?_) rfl (by kernel_rfl) (by kernel_rfl) (by kernel_rfl) (fun _ _ _ h => h) (Or.inl ⟨by rfl, ?h17_19_2_1_7⟩) (by assumption) ?_
  case h17_19_2_1_7 => (intro w hSw; (try dsimp only at hSw); go_simp; try with_reducible rfl)
  try simp only [Act.put, List.setIfInBounds_toArray, List.set_cons_zero, List.set_cons_succ, List.getElem_toArray, List.getElem_cons_zero, List.getElem_cons_succ]
  refine wpAnyH_take (i := 9) (v := ?_) rfl (by kernel_rfl) (by kernel_rfl) (by kernel_rfl) (fun _ _ _ h => h) (Or.inl ⟨by rfl, ?h17_19_2_1_8⟩) (by assumption) ?_
  case h17_19_2_1_8 => (intro w hSw; (try dsimp only at hSw); go_simp; try with_reducible rfl)
  try simp only [Act.put, List.setIfInBounds_toArray, List.set_cons_zero, List.set_cons_succ, List.getElem_toArray, List.getElem_cons_zero, List.getElem_cons_succ]
  refine wpAnyH_done (by kernel_rfl) ?_ _
  go_wp2
  go_ret
  exact duo_done HB1.out H2.out.1 H2.out.2.1 H4.out.1 H4.out.2
set_option maxHeartbeats 4000000 in
set_option maxRecDepth 100000 in
theorem does_rem (h : Duo w B lb rb es) (hl : es.length ≤ 200) (hs : remS id es = es') : Calls Try.prog 17 #[ptr lb, ptr rb, .agg #[i64 8, i64 at_, i64 id, i64 sp, .string nm, .string n1, .string n2]] w (DoIt B lb rb es' w) := by
  obtain ⟨n, hn⟩ : ∃ n, es.length = n := ⟨_, rfl⟩
  obtain ⟨ad, c, cr, hre, hrl⟩ := h.2.at_ hn
  have hbx := (Blk.new w 46 #[i64 8, i64 at_, i64 id, i64 sp, .string nm, .string n1, .string n2]).alloc (.cells #[.string n1, .string n2] 9)
  have b0 : Below w.heap.size w ((w.alloc (.cells #[i64 8, i64 at_, i64 id, i64 sp, .string nm, .string n1, .string n2] 46)).alloc (.cells #[.string n1, .string n2] 9)) := ((Below.refl _ w).alloc (Nat.le_refl _) _).alloc (by simp) _
  have cr1 : ((w.alloc (.cells #[i64 8, i64 at_, i64 id, i64 sp, .string nm, .string n1, .string n2] 46)).alloc (.cells #[.string n1, .string n2] 9)).cell? ⟨rb, 0, none⟩ = some (.slice ad n c) := (b0.cell (p := ⟨rb, 0, none⟩) hrl).trans cr
  have HNM := Lib.hid (NamesAt.two (w.alloc (.cells #[i64 8, i64 at_, i64 id, i64 sp, .string nm, .string n1, .string n2] 46)) n1 n2 9)
  have HBX := Lib.hid hbx
  have HB0 := Lib.hid b0
  have HB1 := Lib.hid b0.drew
  have HD := Lib.hid (And.intro (h.below b0) (And.intro hl hn))
  have HRE := Lib.hid (And.intro hre (h.2))
  have x0 := hbx.cell 0 (i64 8) rfl
  have x1 := hbx.cell 1 (i64 at_) rfl
  have x2 := hbx.cell 2 (i64 id) rfl
  have x3 := hbx.cell 3 (i64 sp) rfl
  have x4 := hbx.cell 4 (.string nm) rfl
  have x5 := hbx.cell 5 (.string n1) rfl
  have x6 := hbx.cell 6 (.string n2) rfl
  obtain ⟨r, hr⟩ : ∃ r, remB id es = r := ⟨_, rfl⟩
  have HS := Lib.hid (And.intro hs hr)
  clear h hl hs hr hn hbx b0 cr hre cr1
  go_enter Try.func17, Try.ntmps17
  go_wp2_with fail
  refine wp_region_held_drew (S := (fun w' => w'.cell? ⟨w.heap.size, 2, none⟩ = some (i64 id))) (by kernel_rfl) (by (try dsimp only); go_keep) (fun hHeld => ?_)
  refine wpAnyH_take (i := 0) (v := ?_) rfl (by kernel_rfl) (by kernel_rfl) (by kernel_rfl) (fun _ _ _ h => h) (Or.inl ⟨by rfl, ?h17_21_2_2_1⟩) (by assumption) ?_
  case h17_21_2_2_1 => (intro w hSw; (try dsimp only at hSw); go_simp; try with_reducible rfl)
  try simp only [Act.put, List.setIfInBounds_toArray, List.set_cons_zero, List.set_cons_succ, List.getElem_toArray, List.getElem_cons_zero, List.getElem_cons_succ]
  refine wpAnyH_take (i := 1) (v := ?_) rfl (by kernel_rfl) (by kernel_rfl) (by kernel_rfl) (fun _ _ _ h => h) (Or.inl ⟨by rfl, ?h17_21_2_2_2⟩) (by assumption) ?_
  case h17_21_2_2_2 => (intro w hSw; (try dsimp only at hSw); go_simp; try with_reducible rfl)
  try simp only [Act.put, List.setIfInBounds_toArray, List.set_cons_zero, List.set_cons_succ, List.getElem_toArray, List.getElem_cons_zero, List.getElem_cons_succ]
  refine wpAnyH_take (i := 2) (v := ?_) rfl (by kernel_rfl) (by kernel_rfl) (by kernel_rfl) (fun _ _ _ h => h) (Or.inl ⟨by rfl, ?h17_21_2_2_3⟩) (by assumption) ?_
  case h17_21_2_2_3 => (intro w hSw; (try dsimp only at hSw); go_simp; try with_reducible rfl)
  try simp only [Act.put, List.setIfInBounds_toArray, List.set_cons_zero, List.set_cons_succ, List.getElem_toArray, List.getElem_cons_zero, List.getElem_cons_succ]
  refine wpAnyH_take (i := 3) (v := ?_) rfl (by kernel_rfl) (by kernel_rfl) (by kernel_rfl) (fun _ _ _ h => h) (Or.inl ⟨by rfl, ?h17_21_2_2_4⟩) (by assumption) ?_
  case h17_21_2_2_4 => (intro w hSw; (try dsimp only at hSw); go_simp; try with_reducible rfl)
  try simp only [Act.put, List.setIfInBounds_toArray, List.set_cons_zero, List.set_cons_succ, List.getElem_toArray, List.getElem_cons_zero, List.getElem_cons_succ]
  refine wpAnyH_take (i := 5) (v := ?_) rfl (by kernel_rfl) (by kernel_rfl) (by kernel_rfl) (fun _ _ _ h => h) (Or.inl ⟨by rfl, ?h17_21_2_2_5⟩) (by assumption) ?_
  case h17_21_2_2_5 => (intro w hSw; (try dsimp only at hSw); go_simp; try with_reducible rfl)
  try simp only [Act.put, List.setIfInBounds_toArray, List.set_cons_zero, List.set_cons_succ, List.getElem_toArray, List.getElem_cons_zero, List.getElem_cons_succ]
  refine wpAnyH_take (i := 6) (v := ?_) rfl (by kernel_rfl) (by kernel_rfl) (by kernel_rfl) (fun _ _ _ h => h) (Or.inl ⟨by rfl, ?h17_21_2_2_6⟩) (by assumption) ?_
  case h17_21_2_2_6 => (intro w hSw; (try dsimp only at hSw); go_simp; try with_reducible rfl)
  try simp only [Act.put, List.setIfInBounds_toArray, List.set_cons_zero, List.set_cons_succ, List.getElem_toArray, List.getElem_cons_zero, List.getElem_cons_succ]
  refine wpAnyH_take (i := 7) (v := ?_) rfl (by kernel_rfl) (by kernel_rfl) (by kernel_rfl) (fun _ _ _ h => h) (Or.inl ⟨by rfl, ?h17_21_2_2_7⟩) (by assumption) ?_
  case h17_21_2_2_7 => (intro w hSw; (try dsimp only at hSw); go_simp; try with_reducible rfl)
  try simp only [Act.put, List.setIfInBounds_toArray, List.set_cons_zero, List.set_cons_succ, List.getElem_toArray, List.getElem_cons_zero, List.getElem_cons_succ]
  refine wpAnyH_take (i := 8) (v := ?_) rfl (by kernel_rfl) (by kernel_rfl) (by kernel_rfl) (fun _ _ _ h => h) (Or.inl ⟨by rfl, ?h17_21_2_2_8⟩) (by assumption) ?_
  case h17_21_2_2_8 => (intro w hSw; (try dsimp only at hSw); go_simp; try with_reducible rfl)
  try simp only [Act.put, List.setIfInBounds_toArray, List.set_cons_zero, List.set_cons_succ, List.getElem_toArray, List.getElem_cons_zero, List.getElem_cons_succ]
  refine wpAnyH_ready (rs := [4]) (by kernel_rfl) (by simp) ?_
  refine AllReadyH.cons rfl (fun K hK => ?_) AllReadyH.nil
  go_simp
  (with_reducible refine (rem_n (HD.out.1.1.below (dqr _)) HS.out.1 HS.out.2).mono ?_)
  rintro e w2 ⟨rfl, h2, f2⟩
  have y2 := (f2.blk HBX.out.drew (.inr rfl)).cell 2 (i64 id) rfl
  have r2 := (HD.out.1.2.below (dqr _)).fr f2
  have H2 := Lib.hid (And.intro h2 (And.intro f2 (And.intro r2 (f2.blk HBX.out.drew (.inr rfl)))))
  clear h2 f2 r2
  go_wp2_with fail
  refine hK.out _ _ (by (try dsimp only); go_keep) (fun hHeld2 => ?_)
  clear hK K hHeld
  have hHeld := hHeld2
  clear hHeld2
  try simp only [Act.put, List.setIfInBounds_toArray, List.set_cons_zero, List.set_cons_succ, List.getElem_toArray, List.getElem_cons_zero, List.getElem_cons_succ]
  refine wpAnyH_ready (rs := [9]) (by kernel_rfl) (by simp) ?_
  refine AllReadyH.cons rfl (fun K hK => ?_) AllReadyH.nil
  go_simp
  (with_reducible refine (rrem_n H2.out.2.2.1 HS.out.1 HS.out.2).mono ?_)
  rintro e w4 ⟨rfl, h4, f4⟩
  have v2 := (f4.blk H2.out.2.2.2 (.inr rfl)).cell 2 (i64 id) rfl
  have H4 := Lib.hid (And.intro h4 f4)
  clear h4 f4
  go_wp2_with fail
  refine hK.out _ _ (by (try dsimp only); go_keep) (fun hHeld2 => ?_)
  clear hK K hHeld
  have hHeld := hHeld2
  clear hHeld2
  try simp only [Act.put, List.setIfInBounds_toArray, List.set_cons_zero, List.set_cons_succ, List.getElem_toArray, List.getElem_cons_zero, List.getElem_cons_succ]
  refine wpAnyH_take (i := 10) (v := ?_) rfl (by kernel_rfl) (by kernel_rfl) (by kernel_rfl) (fun _ _ _ h => h) (Or.inl ⟨by rfl, ?h17_21_2_2_9⟩) (by assumption) ?_
  case h17_21_2_2_9 => (intro w hSw; (try dsimp only at hSw); go_simp; try with_reducible rfl)
  try simp only [Act.put, List.setIfInBounds_toArray, List.set_cons_zero, List.set_cons_succ, List.getElem_toArray, List.getElem_cons_zero, List.getElem_cons_succ]
  refine wpAnyH_take (i := 11) (v := ?_) rfl (by kernel_rfl) (by kernel_rfl) (by kernel_rfl) (fun _ _ _ h => h) (Or.inl ⟨by rfl, ?h17_21_2_2_10⟩) (by assumption) ?_
  case h17_21_2_2_10 => (intro w hSw; (try dsimp only at hSw); go_simp; try with_reducible rfl)
  try simp only [Act.put, List.setIfInBounds_toArray, List.set_cons_zero, List.set_cons_succ, List.getElem_toArray, List.getElem_cons_zero, List.getElem_cons_succ]
  refine wpAnyH_done (by kernel_rfl) ?_ _
  go_wp2
  go_ret
  exact duo_done HB1.out H2.out.1 H2.out.2.1 H4.out.1 H4.out.2
set_option maxHeartbeats 4000000 in
set_option maxRecDepth 100000 in
theorem does_ins (h : Duo w B lb rb es) (hl : es.length ≤ 200) (hs : insS es at_ ⟨id, sp, nm⟩ = es') : Calls Try.prog 17 #[ptr lb, ptr rb, .agg #[i64 9, i64 at_, i64 id, i64 sp, .string nm, .string n1, .string n2]] w (DoIt B lb rb es' w) := by
  obtain ⟨n, hn⟩ : ∃ n, es.length = n := ⟨_, rfl⟩
  obtain ⟨ad, c, cr, hre, hrl⟩ := h.2.at_ hn
  have hbx := (Blk.new w 46 #[i64 9, i64 at_, i64 id, i64 sp, .string nm, .string n1, .string n2]).alloc (.cells #[.string n1, .string n2] 9)
  have b0 : Below w.heap.size w ((w.alloc (.cells #[i64 9, i64 at_, i64 id, i64 sp, .string nm, .string n1, .string n2] 46)).alloc (.cells #[.string n1, .string n2] 9)) := ((Below.refl _ w).alloc (Nat.le_refl _) _).alloc (by simp) _
  have cr1 : ((w.alloc (.cells #[i64 9, i64 at_, i64 id, i64 sp, .string nm, .string n1, .string n2] 46)).alloc (.cells #[.string n1, .string n2] 9)).cell? ⟨rb, 0, none⟩ = some (.slice ad n c) := (b0.cell (p := ⟨rb, 0, none⟩) hrl).trans cr
  have HNM := Lib.hid (NamesAt.two (w.alloc (.cells #[i64 9, i64 at_, i64 id, i64 sp, .string nm, .string n1, .string n2] 46)) n1 n2 9)
  have HBX := Lib.hid hbx
  have HB0 := Lib.hid b0
  have HB1 := Lib.hid b0.drew
  have HD := Lib.hid (And.intro (h.below b0) (And.intro hl hn))
  have HRE := Lib.hid (And.intro hre (h.2))
  have x0 := hbx.cell 0 (i64 9) rfl
  have x1 := hbx.cell 1 (i64 at_) rfl
  have x2 := hbx.cell 2 (i64 id) rfl
  have x3 := hbx.cell 3 (i64 sp) rfl
  have x4 := hbx.cell 4 (.string nm) rfl
  have x5 := hbx.cell 5 (.string n1) rfl
  have x6 := hbx.cell 6 (.string n2) rfl
  obtain ⟨r, hr⟩ : ∃ r, insR es at_ = r := ⟨_, rfl⟩
  have HS := Lib.hid (And.intro hs hr)
  clear h hl hs hr hn hbx b0 cr hre cr1
  go_enter Try.func17, Try.ntmps17
  go_wp2_with fail
  refine wp_region_held_drew (S := (fun w' => w'.cell? ⟨w.heap.size, 1, none⟩ = some (i64 at_) ∧ w'.cell? ⟨w.heap.size, 2, none⟩ = some (i64 id) ∧ w'.cell? ⟨w.heap.size, 3, none⟩ = some (i64 sp) ∧ w'.cell? ⟨w.heap.size, 4, none⟩ = some (.string nm))) (by kernel_rfl) (by (try dsimp only); go_keep) (fun hHeld => ?_)
  refine wpAnyH_take (i := 0) (v := ?_) rfl (by kernel_rfl) (by kernel_rfl) (by kernel_rfl) (fun _ _ _ h => h) (Or.inl ⟨by rfl, ?h17_23_2_10_1⟩) (by assumption) ?_
  case h17_23_2_10_1 => (intro w hSw; (try dsimp only at hSw); go_simp; try with_reducible rfl)
  try simp only [Act.put, List.setIfInBounds_toArray, List.set_cons_zero, List.set_cons_succ, List.getElem_toArray, List.getElem_cons_zero, List.getElem_cons_succ]
  refine wpAnyH_take (i := 1) (v := ?_) rfl (by kernel_rfl) (by kernel_rfl) (by kernel_rfl) (fun _ _ _ h => h) (Or.inl ⟨by rfl, ?h17_23_2_10_2⟩) (by assumption) ?_
  case h17_23_2_10_2 => (intro w hSw; (try dsimp only at hSw); go_simp; try with_reducible rfl)
  try simp only [Act.put, List.setIfInBounds_toArray, List.set_cons_zero, List.set_cons_succ, List.getElem_toArray, List.getElem_cons_zero, List.getElem_cons_succ]
  refine wpAnyH_take (i := 2) (v := ?_) rfl (by kernel_rfl) (by kernel_rfl) (by kernel_rfl) (fun _ _ _ h => h) (Or.inl ⟨by rfl, ?h17_23_2_10_3⟩) (by assumption) ?_
  case h17_23_2_10_3 => (intro w hSw; (try dsimp only at hSw); go_simp; try with_reducible rfl)
  try simp only [Act.put, List.setIfInBounds_toArray, List.set_cons_zero, List.set_cons_succ, List.getElem_toArray, List.getElem_cons_zero, List.getElem_cons_succ]
  refine wpAnyH_take (i := 3) (v := ?_) rfl (by kernel_rfl) (by kernel_rfl) (by kernel_rfl) (fun _ _ _ h => h) (Or.inl ⟨by rfl, ?h17_23_2_10_4⟩) (by assumption) ?_
  case h17_23_2_10_4 => (intro w hSw; (try dsimp only at hSw); go_simp; try with_reducible rfl)
  try simp only [Act.put, List.setIfInBounds_toArray, List.set_cons_zero, List.set_cons_succ, List.getElem_toArray, List.getElem_cons_zero, List.getElem_cons_succ]
  refine wpAnyH_take (i := 4) (v := ?_) rfl (by kernel_rfl) (by kernel_rfl) (by kernel_rfl) (fun _ _ _ h => h) (Or.inl ⟨by rfl, ?h17_23_2_10_5⟩) (by assumption) ?_
  case h17_23_2_10_5 => (intro w hSw; (try dsimp only at hSw); go_simp; try with_reducible rfl)
  try simp only [Act.put, List.setIfInBounds_toArray, List.set_cons_zero, List.set_cons_succ, List.getElem_toArray, List.getElem_cons_zero, List.getElem_cons_succ]
  refine wpAnyH_take (i := 6) (v := ?_) rfl (by kernel_rfl) (by kernel_rfl) (by kernel_rfl) (fun _ _ _ h => h) (Or.inl ⟨by rfl, ?h17_23_2_10_6⟩) (by assumption) ?_
  case h17_23_2_10_6 => (intro w hSw; (try dsimp only at hSw); go_simp; try with_reducible rfl)
  try simp only [Act.put, List.setIfInBounds_toArray, List.set_cons_zero, List.set_cons_succ, List.getElem_toArray, List.getElem_cons_zero, List.getElem_cons_succ]
  refine wpAnyH_take (i := 7) (v := ?_) rfl (by kernel_rfl) (by kernel_rfl) (by kernel_rfl) (fun _ _ _ h => h) (Or.inl ⟨by rfl, ?h17_23_2_10_7⟩) (by assumption) ?_
  case h17_23_2_10_7 => (intro w hSw; (try dsimp only at hSw); go_simp; try with_reducible rfl)
  try simp only [Act.put, List.setIfInBounds_toArray, List.set_cons_zero, List.set_cons_succ, List.getElem_toArray, List.getElem_cons_zero, List.getElem_cons_succ]
  refine wpAnyH_take (i := 8) (v := ?_) rfl (by kernel_rfl) (by kernel_rfl) (by kernel_rfl) (fun _ _ _ h => h) (Or.inl ⟨by rfl, ?h17_23_2_10_8⟩) (by assumption) ?_
  case h17_23_2_10_8 => (intro w hSw; (try dsimp only at hSw); go_simp; try with_reducible rfl)
  try simp only [Act.put, List.setIfInBounds_toArray, List.set_cons_zero, List.set_cons_succ, List.getElem_toArray, List.getElem_cons_zero, List.getElem_cons_succ]
  refine wpAnyH_take (i := 9) (v := ?_) rfl (by kernel_rfl) (by kernel_rfl) (by kernel_rfl) (fun _ _ _ h => h) (Or.inl ⟨by rfl, ?h17_23_2_10_9⟩) (by assumption) ?_
  case h17_23_2_10_9 => (intro w hSw; (try dsimp only at hSw); go_simp; try with_reducible rfl)
  try simp only [Act.put, List.setIfInBounds_toArray, List.set_cons_zero, List.set_cons_succ, List.getElem_toArray, List.getElem_cons_zero, List.getElem_cons_succ]
  refine wpAnyH_take (i := 10) (v := ?_) rfl (by kernel_rfl) (by kernel_rfl) (by kernel_rfl) (fun _ _ _ h => h) (Or.inl ⟨by rfl, ?h17_23_2_10_10⟩) (by assumption) ?_
  case h17_23_2_10_10 => (intro w hSw; (try dsimp only at hSw); go_simp; try with_reducible rfl)
  try simp only [Act.put, List.setIfInBounds_toArray, List.set_cons_zero, List.set_cons_succ, List.getElem_toArray, List.getElem_cons_zero, List.getElem_cons_succ]
  refine wpAnyH_ready (rs := [5]) (by kernel_rfl) (by simp) ?_
  refine AllReadyH.cons rfl (fun K hK => ?_) AllReadyH.nil
  go_simp
  (with_reducible refine (insS_n (HD.out.1.1.below (dqr _)) HD.out.2.1 HS.out.1 HS.out.2).mono ?_)
  rintro e w2 ⟨rfl, h2, f2⟩
  have y1 := (f2.blk HBX.out.drew (.inr rfl)).cell 1 (i64 at_) rfl
  have y2 := (f2.blk HBX.out.drew (.inr rfl)).cell 2 (i64 id) rfl
  have y3 := (f2.blk HBX.out.drew (.inr rfl)).cell 3 (i64 sp) rfl
  have y4 := (f2.blk HBX.out.drew (.inr rfl)).cell 4 (.string nm) rfl
  have r2 := (HD.out.1.2.below (dqr _)).fr f2
  have H2 := Lib.hid (And.intro h2 (And.intro f2 (And.intro r2 (f2.blk HBX.out.drew (.inr rfl)))))
  clear h2 f2 r2
  go_wp2_with fail
  refine hK.out _ _ (by (try dsimp only); go_keep) (fun hHeld2 => ?_)
  clear hK K hHeld
  have hHeld := hHeld2
  clear hHeld2
  try simp only [Act.put, List.setIfInBounds_toArray, List.set_cons_zero, List.set_cons_succ, List.getElem_toArray, List.getElem_cons_zero, List.getElem_cons_succ]
  refine wpAnyH_ready (rs := [11]) (by kernel_rfl) (by simp) ?_
  refine AllReadyH.cons rfl (fun K hK => ?_) AllReadyH.nil
  go_simp
  (with_reducible refine (ref_any).mono ?_)
  rintro e w3 ⟨rfl, h3⟩
  have z1 := (blk_kept H2.out.2.2.2 h3).cell 1 (i64 at_) rfl
  have z2 := (blk_kept H2.out.2.2.2 h3).cell 2 (i64 id) rfl
  have z3 := (blk_kept H2.out.2.2.2 h3).cell 3 (i64 sp) rfl
  have z4 := (blk_kept H2.out.2.2.2 h3).cell 4 (.string nm) rfl
  have H3 := Lib.hid (And.intro h3 (blk_kept H2.out.2.2.2 h3))
  clear h3
  go_wp2_with fail
  refine hK.out _ _ (by (try dsimp only); go_keep) (fun hHeld2 => ?_)
  clear hK K hHeld
  have hHeld := hHeld2
  clear hHeld2
  try simp only [Act.put, List.setIfInBounds_toArray, List.set_cons_zero, List.set_cons_succ, List.getElem_toArray, List.getElem_cons_zero, List.getElem_cons_succ]
  refine wpAnyH_ready (rs := [12]) (by kernel_rfl) (by simp) ?_
  refine AllReadyH.cons rfl (fun K hK => ?_) AllReadyH.nil
  go_simp
  (with_reducible refine (rins_n (H2.out.2.2.1.below H3.out.1) HD.out.2.1 HS.out.1 HS.out.2).mono ?_)
  rintro e w4 ⟨rfl, h4, f4⟩
  have v1 := (f4.blk H3.out.2 (.inr rfl)).cell 1 (i64 at_) rfl
  have v2 := (f4.blk H3.out.2 (.inr rfl)).cell 2 (i64 id) rfl
  have v3 := (f4.blk H3.out.2 (.inr rfl)).cell 3 (i64 sp) rfl
  have v4 := (f4.blk H3.out.2 (.inr rfl)).cell 4 (.string nm) rfl
  have H4 := Lib.hid (And.intro h4 f4)
  clear h4 f4
  go_wp2_with fail
  refine hK.out _ _ (by (try dsimp only); go_keep) (fun hHeld2 => ?_)
  clear hK K hHeld
  have hHeld := hHeld2
  clear hHeld2
  try simp only [Act.put, List.setIfInBounds_toArray, List.set_cons_zero, List.set_cons_succ, List.getElem_toArray, List.getElem_cons_zero, List.getElem_cons_succ]
  refine wpAnyH_take (i := 13) (v := ?_) rfl (by kernel_rfl) (by kernel_rfl) (by kernel_rfl) (fun _ _ _ h => h) (Or.inl ⟨by rfl, ?h17_23_2_10_11⟩) (by assumption) ?_
  case h17_23_2_10_11 => (intro w hSw; (try dsimp only at hSw); go_simp; try with_reducible rfl)
  try simp only [Act.put, List.setIfInBounds_toArray, List.set_cons_zero, List.set_cons_succ, List.getElem_toArray, List.getElem_cons_zero, List.getElem_cons_succ]
  refine wpAnyH_take (i := 14) (v := ?_) rfl (by kernel_rfl) (by kernel_rfl) (by kernel_rfl) (fun _ _ _ h => h) (Or.inl ⟨by rfl, ?h17_23_2_10_12⟩) (by assumption) ?_
  case h17_23_2_10_12 => (intro w hSw; (try dsimp only at hSw); go_simp; try with_reducible rfl)
  try simp only [Act.put, List.setIfInBounds_toArray, List.set_cons_zero, List.set_cons_succ, List.getElem_toArray, List.getElem_cons_zero, List.getElem_cons_succ]
  refine wpAnyH_done (by kernel_rfl) ?_ _
  go_wp2
  go_ret
  exact do_done HB1.out H2.out.1 H2.out.2.1 H3.out.1 H4.out.1 H4.out.2
theorem does_look {what : Int} (h : Duo w B lb rb es) (hw : ∀ k : Nat, k < 10 → what ≠ k) (hs : es = es') : Calls Try.prog 17 #[ptr lb, ptr rb, .agg #[i64 what, i64 at_, i64 id, i64 sp, .string nm, .string n1, .string n2]] w (DoIt B lb rb es' w) := by
  subst hs
  have b0 : Below w.heap.size w ((w.alloc (.cells #[i64 what, i64 at_, i64 id, i64 sp, .string nm, .string n1, .string n2] 46)).alloc (.cells #[.string n1, .string n2] 9)) := ((Below.refl _ w).alloc (Nat.le_refl _) _).alloc (by simp) _
  have HB0 := Lib.hid (And.intro b0 h)
  have q0 : (what == 0) = false := by simpa using hw 0 (by decide)
  have q1 : (what == 1) = false := by simpa using hw 1 (by decide)
  have q2 : (what == 2) = false := by simpa using hw 2 (by decide)
  have q3 : (what == 3) = false := by simpa using hw 3 (by decide)
  have q4 : (what == 4) = false := by simpa using hw 4 (by decide)
  have q5 : (what == 5) = false := by simpa using hw 5 (by decide)
  have q6 : (what == 6) = false := by simpa using hw 6 (by decide)
  have q7 : (what == 7) = false := by simpa using hw 7 (by decide)
  have q8 : (what == 8) = false := by simpa using hw 8 (by decide)
  have q9 : (what == 9) = false := by simpa using hw 9 (by decide)
  clear h hw b0
  go_enter Try.func17, Try.ntmps17
  go_wp2
  go_ret
  exact ⟨rfl, HB0.out.2.below HB0.out.1, Fr.of_below HB0.out.1 _ _⟩

end

/-- A step. -/
structure Sp where
  what : Int
  at_ : Int
  e : Ent
  n1 : ByteArray
  n2 : ByteArray
def stepE (x : Sp) (es : List Ent) : List Ent :=
  if x.what = 0 ∨ x.what = 1 ∨ x.what = 2 ∨ x.what = 3 then insS es es.length x.e
  else if x.what = 4 then es.dropLast
  else if x.what = 5 then (popW (backP [x.n1, x.n2]) es).dropLast
  else if x.what = 6 then popW (backP [x.n1, x.n2]) es
  else if x.what = 7 then popW (impP x.n1) es
  else if x.what = 8 then remS x.e.id es
  else if x.what = 9 then insS es x.at_ x.e
  else es
theorem stepE_length {x : Sp} {es : List Ent} (h : es.length ≤ 200) : (stepE x es).length ≤ 200 := by
  unfold stepE
  split
  · exact insS_length _ _ h
  split
  · rw [List.length_dropLast]; omega
  split
  · have := popW_length (backP [x.n1, x.n2]) es
    rw [List.length_dropLast]; omega
  split
  · have := popW_length (backP [x.n1, x.n2]) es
    omega
  split
  · have := popW_length (impP x.n1) es
    omega
  split
  · unfold remS
    split
    · exact h
    · rw [List.length_append, List.length_take, List.length_drop]; omega
  split
  · exact insS_length _ _ h
  · exact h
theorem does_any {w : World} {B lb rb : Nat} {es es' : List Ent} (x : Sp) (h : Duo w B lb rb es) (hl : es.length ≤ 200) (hs : stepE x es = es') :
    Calls Try.prog 17 #[ptr lb, ptr rb, .agg #[i64 x.what, i64 x.at_, i64 x.e.id, i64 x.e.space, .string x.e.name, .string x.n1, .string x.n2]] w (DoIt B lb rb es' w) := by
  obtain ⟨what, at_, ⟨id, sp, nm⟩, n1, n2⟩ := x
  unfold stepE at hs
  simp only at hs ⊢
  by_cases h0 : what = 0
  · subst h0; exact does_push0 h hl (by simpa using hs)
  by_cases h1 : what = 1
  · subst h1; exact does_push1 h hl (by simpa using hs)
  by_cases h2 : what = 2
  · subst h2; exact does_push2 h hl (by simpa using hs)
  by_cases h3 : what = 3
  · subst h3; exact does_push3 h hl (by simpa using hs)
  rw [if_neg (by omega)] at hs
  by_cases h4 : what = 4
  · subst h4; exact does_pop h hl (by simpa using hs)
  by_cases h5 : what = 5
  · subst h5; exact does_to h hl (by simpa using hs)
  by_cases h6 : what = 6
  · subst h6; exact does_back h hl (by simpa using hs)
  by_cases h7 : what = 7
  · subst h7; exact does_imp h hl (by simpa using hs)
  by_cases h8 : what = 8
  · subst h8; exact does_rem h hl (by simpa using hs)
  by_cases h9 : what = 9
  · subst h9; exact does_ins h hl (by simpa using hs)
  rw [if_neg h4, if_neg h5, if_neg h6, if_neg h7, if_neg h8, if_neg h9] at hs
  exact does_look h (fun k hk => by omega) hs
end Go.Proofs.Ytdagjpiakbfjpaa
