/-
  rectolaw10: Attrs, alike, does, walked.
  Written by an AI agent.
-/
import Derived.Test.YtjopfgdgmniigaaCodeC
import Derived.Test.YtjopfgdgmniigaaSteps
namespace Go.Proofs.Ytjopfgdgmniigaa
open Go.RowKit Go.Maps
attribute [local go_sem ↓] Go.wp_at_zero Go.wp_at_succ

set_option maxHeartbeats 2000000 in
theorem attrs_same {w : World} {B B' : Nat} {va vb : Value} {l : List Atr} (h : AtrsAt w B va l) (h' : AtrsAt w B' vb l) : Calls Try.prog 36 #[va, vb] w fun e w' => e = .returned (.bool true) ∧ Below w.heap.size w w' := by
  obtain ⟨ad, c, rfl, _, hl, _, hr⟩ := h
  obtain ⟨ad', c', rfl, _, _, _, hr'⟩ := h'
  obtain ⟨n, hn⟩ : ∃ n, l.length = n := ⟨_, rfl⟩
  rw [hn] at hl ⊢
  have H := Lib.hid (And.intro hr (And.intro hr' hn))
  clear hr hr' hn
  go_enter Try.func36, Try.ntmps36
  go_wp2
  go_loopw [5, 8] (fun _ i wr => ∃ k : Nat, k ≤ n ∧ i = i64 k ∧ Hid (Below w.heap.size w wr)) (fun _ i _ => n - (intOf i).toNat)
  case atStart => exact ⟨0, Nat.zero_le _, rfl, Lib.hid (Below.refl _ _)⟩
  case round =>
    obtain ⟨k, hk, rfl, HB⟩ := hrel
    by_cases hlt : k < n
    · obtain ⟨⟨xa, xb⟩, he⟩ : ∃ e, l[k]? = some e := ⟨_, List.getElem?_eq_getElem (by rw [H.out.2.2]; exact hlt)⟩
      obtain ⟨g, off, had, hg, _, hc⟩ := H.out.1 (fun e0 => by rw [e0] at he; simp at he)
      obtain ⟨g', off', har, hg', _, hc'⟩ := H.out.2.1 (fun e0 => by rw [e0] at he; simp at he)
      obtain ⟨d0, d1⟩ := hc k _ he
      obtain ⟨d2, d3⟩ := hc' k _ he
      have e0 := (HB.out.cell (p := ⟨g, off + k * 2, none⟩) hg).trans d0
      have e1 := (HB.out.cell (p := ⟨g, off + k * 2 + 1, none⟩) hg).trans d1
      have e2 := (HB.out.cell (p := ⟨g', off' + k * 2, none⟩) hg').trans d2
      have e3 := (HB.out.cell (p := ⟨g', off' + k * 2 + 1, none⟩) hg').trans d3
      simp only at e0 e1 e2 e3
      have HAD := Lib.hid (And.intro had har)
      have i1 : (0 : Int) ≤ (k : Int) := by omega
      have i2 : (k : Int) < (n : Int) := by omega
      have i3 : decide (n ≤ k) = false := by simp; omega
      clear hc hc' he had har d0 d1 d2 d3
      rw [HAD.out.1, HAD.out.2]
      go_wp2_with fail
      refine wp_region_held_drew (S := (fun w' => w'.cell? ⟨g, off + k * 2, none⟩ = some (.string xa) ∧ w'.cell? ⟨g, off + k * 2 + 1, none⟩ = some (.string xb) ∧ w'.cell? ⟨g', off' + k * 2, none⟩ = some (.string xa) ∧ w'.cell? ⟨g', off' + k * 2 + 1, none⟩ = some (.string xb))) (by kernel_rfl) (by (try dsimp only); go_keep) (fun hHeld => ?_)
      refine wpAnyH_take (i := 0) (v := ?_) rfl (by kernel_rfl) (by kernel_rfl) (by kernel_rfl) (fun _ _ _ h => h) (Or.inl ⟨by rfl, ?h36_4_6_0_1⟩) (by assumption) ?_
      case h36_4_6_0_1 => (intro w hSw; (try dsimp only at hSw); go_simp; try with_reducible rfl)
      try simp only [Act.put, List.setIfInBounds_toArray, List.set_cons_zero, List.set_cons_succ, List.getElem_toArray, List.getElem_cons_zero, List.getElem_cons_succ]
      refine wpAnyH_take (i := 1) (v := ?_) rfl (by kernel_rfl) (by kernel_rfl) (by kernel_rfl) (fun _ _ _ h => h) (Or.inl ⟨by rfl, ?h36_4_6_0_2⟩) (by assumption) ?_
      case h36_4_6_0_2 => (intro w hSw; (try dsimp only at hSw); go_simp; try with_reducible rfl)
      try simp only [Act.put, List.setIfInBounds_toArray, List.set_cons_zero, List.set_cons_succ, List.getElem_toArray, List.getElem_cons_zero, List.getElem_cons_succ]
      refine wpAnyH_take (i := 2) (v := ?_) rfl (by kernel_rfl) (by kernel_rfl) (by kernel_rfl) (fun _ _ _ h => h) (Or.inl ⟨by rfl, ?h36_4_6_0_3⟩) (by assumption) ?_
      case h36_4_6_0_3 => (intro w hSw; (try dsimp only at hSw); go_simp; try with_reducible rfl)
      try simp only [Act.put, List.setIfInBounds_toArray, List.set_cons_zero, List.set_cons_succ, List.getElem_toArray, List.getElem_cons_zero, List.getElem_cons_succ]
      refine wpAnyH_take (i := 3) (v := ?_) rfl (by kernel_rfl) (by kernel_rfl) (by kernel_rfl) (fun _ _ _ h => h) (Or.inl ⟨by rfl, ?h36_4_6_0_4⟩) (by assumption) ?_
      case h36_4_6_0_4 => (intro w hSw; (try dsimp only at hSw); go_simp; try with_reducible rfl)
      try simp only [Act.put, List.setIfInBounds_toArray, List.set_cons_zero, List.set_cons_succ, List.getElem_toArray, List.getElem_cons_zero, List.getElem_cons_succ]
      refine wpAnyH_take (i := 4) (v := ?_) rfl (by kernel_rfl) (by kernel_rfl) (by kernel_rfl) (fun _ _ _ h => h) (Or.inl ⟨by rfl, ?h36_4_6_0_5⟩) (by assumption) ?_
      case h36_4_6_0_5 => (intro w hSw; (try dsimp only at hSw); go_simp; try with_reducible rfl)
      try simp only [Act.put, List.setIfInBounds_toArray, List.set_cons_zero, List.set_cons_succ, List.getElem_toArray, List.getElem_cons_zero, List.getElem_cons_succ]
      refine wpAnyH_take (i := 5) (v := ?_) rfl (by kernel_rfl) (by kernel_rfl) (by kernel_rfl) (fun _ _ _ h => h) (Or.inl ⟨by rfl, ?h36_4_6_0_6⟩) (by assumption) ?_
      case h36_4_6_0_6 => (intro w hSw; (try dsimp only at hSw); go_simp; try with_reducible rfl)
      try simp only [Act.put, List.setIfInBounds_toArray, List.set_cons_zero, List.set_cons_succ, List.getElem_toArray, List.getElem_cons_zero, List.getElem_cons_succ]
      refine wpAnyH_take (i := 6) (v := ?_) rfl (by kernel_rfl) (by kernel_rfl) (by kernel_rfl) (fun _ _ _ h => h) (Or.inl ⟨by rfl, ?h36_4_6_0_7⟩) (by assumption) ?_
      case h36_4_6_0_7 => (intro w hSw; (try dsimp only at hSw); go_simp; try with_reducible rfl)
      try simp only [Act.put, List.setIfInBounds_toArray, List.set_cons_zero, List.set_cons_succ, List.getElem_toArray, List.getElem_cons_zero, List.getElem_cons_succ]
      refine wpAnyH_take (i := 7) (v := ?_) rfl (by kernel_rfl) (by kernel_rfl) (by kernel_rfl) (fun _ _ _ h => h) (Or.inl ⟨by rfl, ?h36_4_6_0_8⟩) (by assumption) ?_
      case h36_4_6_0_8 => (intro w hSw; (try dsimp only at hSw); go_simp; try with_reducible rfl)
      try simp only [Act.put, List.setIfInBounds_toArray, List.set_cons_zero, List.set_cons_succ, List.getElem_toArray, List.getElem_cons_zero, List.getElem_cons_succ]
      refine wpAnyH_take (i := 8) (v := ?_) rfl (by kernel_rfl) (by kernel_rfl) (by kernel_rfl) (fun _ _ _ h => h) (Or.inl ⟨by rfl, ?h36_4_6_0_9⟩) (by assumption) ?_
      case h36_4_6_0_9 => (intro w hSw; (try dsimp only at hSw); go_simp; try with_reducible rfl)
      try simp only [Act.put, List.setIfInBounds_toArray, List.set_cons_zero, List.set_cons_succ, List.getElem_toArray, List.getElem_cons_zero, List.getElem_cons_succ]
      refine wpAnyH_take (i := 9) (v := ?_) rfl (by kernel_rfl) (by kernel_rfl) (by kernel_rfl) (fun _ _ _ h => h) (Or.inl ⟨by rfl, ?h36_4_6_0_10⟩) (by assumption) ?_
      case h36_4_6_0_10 => (intro w hSw; (try dsimp only at hSw); go_simp; try with_reducible rfl)
      try simp only [Act.put, List.setIfInBounds_toArray, List.set_cons_zero, List.set_cons_succ, List.getElem_toArray, List.getElem_cons_zero, List.getElem_cons_succ]
      refine wpAnyH_take (i := 10) (v := ?_) rfl (by kernel_rfl) (by kernel_rfl) (by kernel_rfl) (fun _ _ _ h => h) (Or.inl ⟨by rfl, ?h36_4_6_0_11⟩) (by assumption) ?_
      case h36_4_6_0_11 => (intro w hSw; (try dsimp only at hSw); go_simp; try with_reducible rfl)
      try simp only [Act.put, List.setIfInBounds_toArray, List.set_cons_zero, List.set_cons_succ, List.getElem_toArray, List.getElem_cons_zero, List.getElem_cons_succ]
      refine wpAnyH_take (i := 11) (v := ?_) rfl (by kernel_rfl) (by kernel_rfl) (by kernel_rfl) (fun _ _ _ h => h) (Or.inl ⟨by rfl, ?h36_4_6_0_12⟩) (by assumption) ?_
      case h36_4_6_0_12 => (intro w hSw; (try dsimp only at hSw); go_simp; try with_reducible rfl)
      try simp only [Act.put, List.setIfInBounds_toArray, List.set_cons_zero, List.set_cons_succ, List.getElem_toArray, List.getElem_cons_zero, List.getElem_cons_succ]
      refine wpAnyH_take (i := 12) (v := ?_) rfl (by kernel_rfl) (by kernel_rfl) (by kernel_rfl) (fun _ _ _ h => h) (Or.inl ⟨by rfl, ?h36_4_6_0_13⟩) (by assumption) ?_
      case h36_4_6_0_13 => (intro w hSw; (try dsimp only at hSw); go_simp; try with_reducible rfl)
      try simp only [Act.put, List.setIfInBounds_toArray, List.set_cons_zero, List.set_cons_succ, List.getElem_toArray, List.getElem_cons_zero, List.getElem_cons_succ]
      refine wpAnyH_take (i := 13) (v := ?_) rfl (by kernel_rfl) (by kernel_rfl) (by kernel_rfl) (fun _ _ _ h => h) (Or.inl ⟨by rfl, ?h36_4_6_0_14⟩) (by assumption) ?_
      case h36_4_6_0_14 => (intro w hSw; (try dsimp only at hSw); go_simp; try with_reducible rfl)
      try simp only [Act.put, List.setIfInBounds_toArray, List.set_cons_zero, List.set_cons_succ, List.getElem_toArray, List.getElem_cons_zero, List.getElem_cons_succ]
      refine wpAnyH_take (i := 14) (v := ?_) rfl (by kernel_rfl) (by kernel_rfl) (by kernel_rfl) (fun _ _ _ h => h) (Or.inl ⟨by rfl, ?h36_4_6_0_15⟩) (by assumption) ?_
      case h36_4_6_0_15 => (intro w hSw; (try dsimp only at hSw); go_simp; try with_reducible rfl)
      try simp only [Act.put, List.setIfInBounds_toArray, List.set_cons_zero, List.set_cons_succ, List.getElem_toArray, List.getElem_cons_zero, List.getElem_cons_succ]
      refine wpAnyH_done (by kernel_rfl) ?_ _
      go_wp2
      go_roundw
      case rel => exact ⟨k + 1, by omega, by go_num, Lib.hid (HB.out.trans ((dqr wr).mono HB.out.size))⟩
      case measure => simp [intOf]; omega
    · go_wp2
      go_ret
      exact ⟨rfl, HB.out⟩

theorem alike_true {w : World} {B B' na ca nb cb : Nat} {va vb : Option Addr} {mk : Bool} {id : Int} {nm : ByteArray} {l : List Atr} (h : AtrsAt w B (.slice va na ca) l) (h' : AtrsAt w B' (.slice vb nb cb) l) :
    Calls Try.prog 15 #[.agg #[.bool mk, i64 id, .string nm, .slice va na ca], .agg #[.bool mk, i64 id, .string nm, .slice vb nb cb]] w fun e w' => e = .returned (.bool true) ∧ Below w.heap.size w w' := by
  have hb1 := (Below.refl _ w).alloc (Nat.le_refl w.heap.size) (.cells #[.bool mk, i64 id, .string nm, .slice va na ca] 33)
  have hb2 := hb1.alloc hb1.size (.cells #[.bool mk, i64 id, .string nm, .slice vb nb cb] 41)
  have H := Lib.hid (And.intro (h.below hb2) (And.intro (h'.below hb2) hb2))
  clear h h' hb1 hb2
  go_enter Try.func15, Try.ntmps15
  go_wp2_with (first | (go_at_call 36; (with_reducible refine (attrs_same H.out.1 H.out.2.1).mono ?_); rintro e w1 ⟨rfl, h1⟩; have H1 := Lib.hid (H.out.2.2.trans (h1.mono H.out.2.2.size)); clear h1))
  go_ret
  exact ⟨rfl, H1.out⟩

/-- The kinds that a step may turn. -/
abbrev BK : Obj → Bool := kinds [63, 33, 30] false
theorem lk_bk : ∀ o, LK o = true → BK o = true := by
  intro o h
  cases o with
  | cells cs t fr => simp only [LK, BK, kinds, List.contains_cons, List.contains_nil, Bool.or_false, Bool.or_eq_true] at h ⊢; rcases h with h | h <;> simp [h]
  | _ => simp [LK, kinds] at h
theorem dk_bk : ∀ o, DK o = true → BK o = true := by
  intro o h
  cases o with
  | cells cs t fr => simp only [DK, BK, kinds, List.contains_cons, List.contains_nil, Bool.or_false, Bool.or_eq_true] at h ⊢; simp [h]
  | _ => simp [DK, kinds] at h
abbrev Duo (w : World) (B lb rb : Nat) (es : List Ent) : Prop := ListIs w B lb 63 33 es ∧ Doc w B rb es
theorem Duo.below {w w' : World} {B lb rb : Nat} {es : List Ent} (h : Duo w B lb rb es) (hb : Below w.heap.size w w') : Duo w' B lb rb es := ⟨h.1.below hb, h.2.below hb⟩
def DoIt (B lb rb : Nat) (es' : List Ent) (w : World) (e : Ending) (w' : World) : Prop := e = .returned (.bool true) ∧ Duo w' B lb rb es' ∧ Fr B BK w w'
theorem do_done {w w1 w2 w3 w4 : World} {B lb rb : Nat} {es' : List Ent} (h0 : Below w.heap.size w w1) (h1 : ListIs w2 B lb 63 33 es') (f1 : Fr B LK w1 w2) (h2 : Below w2.heap.size w2 w3) (h3 : Doc w4 B rb es') (f3 : Fr B DK w3 w4) : DoIt B lb rb es' w (.returned (.bool true)) w4 :=
  ⟨rfl, ⟨Doc.dk (h1.below h2) f3 (Nat.le_refl _), h3⟩, (((Fr.of_below h0 B BK).trans (f1.mono (Nat.le_refl _) lk_bk)).trans (Fr.of_below h2 B BK)).trans (f3.mono (Nat.le_refl _) dk_bk)⟩
theorem duo_done {w w1 w2 w4 : World} {B lb rb : Nat} {es' : List Ent} (h0 : Below w.heap.size w w1) (h1 : ListIs w2 B lb 63 33 es') (f1 : Fr B LK w1 w2) (h3 : Doc w4 B rb es') (f3 : Fr B DK w2 w4) : DoIt B lb rb es' w (.returned (.bool true)) w4 :=
  do_done h0 h1 f1 (Below.refl _ _) h3 f3
theorem add_n {w : World} {B lb : Nat} {es q : List Ent} {va : Value} {mk : Bool} {id r : Int} {nm : ByteArray} {l : List Atr} (h : ListIs w B lb 63 33 es) (hl : es.length ≤ 100) (ha : AtrsAt w B va l) (hq : addS es ⟨mk, id, nm, l⟩ = q) (hr : addR es ⟨mk, id, nm, l⟩ = r) :
    Calls Try.prog 22 #[ptr lb, .agg #[.bool mk, i64 id, .string nm, va]] w fun e w' => e = .returned (i64 r) ∧ ListIs w' B lb 63 33 q ∧ Fr B LK w w' := by
  subst hq hr
  exact (add_any h hl ha).mono fun _ _ h => ⟨h.1, h.2.1, h.2.2⟩
theorem inl_n {w : World} {B lb : Nat} {es q : List Ent} {va : Value} {mk : Bool} {id p r : Int} {nm : ByteArray} {l : List Atr} (h : ListIs w B lb 63 33 es) (hl : es.length ≤ 100) (ha : AtrsAt w B va l) (hq : insS es p ⟨mk, id, nm, l⟩ = q) (hr : insR es p ⟨mk, id, nm, l⟩ = r) :
    Calls Try.prog 23 #[ptr lb, i64 p, .agg #[.bool mk, i64 id, .string nm, va]] w fun e w' => e = .returned (i64 r) ∧ ListIs w' B lb 63 33 q ∧ Fr B LK w w' := by
  subst hq hr
  exact (ins_any h hl ha).mono fun _ _ h => ⟨h.1, h.2.1, h.2.2⟩
theorem mark_n {w : World} {B lb : Nat} {es q : List Ent} {r : Int} (h : ListIs w B lb 63 33 es) (hl : es.length ≤ 100) (hq : markS es = q) (hr : markR es = r) :
    Calls Try.prog 24 #[ptr lb] w fun e w' => e = .returned (i64 r) ∧ ListIs w' B lb 63 33 q ∧ Fr B LK w w' := by
  subst hq hr
  exact (mark_any h hl).mono fun _ _ h => ⟨h.1, h.2.1, h.2.2⟩

section
variable {w : World} {B lb rb : Nat} {es es' : List Ent} {what n0 id : Int} {mk : Bool} {nm : ByteArray} {l : List Atr} {va : Option Addr} {na ca : Nat}
set_option maxHeartbeats 4000000 in
theorem does_add0 (h : Duo w B lb rb es) (hl : es.length ≤ 100) (ha : AtrsAt w B (.slice va na ca) l) (hna : l.length = na) (hs : addS es ⟨mk, id, nm, l⟩ = es') : Calls Try.prog 11 #[ptr lb, ptr rb, .agg #[i64 0, i64 n0, .bool mk, i64 id, .string nm, .slice va na ca]] w (DoIt B lb rb es' w) := by
  have hbx := Blk.new w 35 #[i64 0, i64 n0, .bool mk, i64 id, .string nm, .slice va na ca]
  have b0 : Below w.heap.size w (w.alloc (.cells #[i64 0, i64 n0, .bool mk, i64 id, .string nm, .slice va na ca] 35)) := (Below.refl _ w).alloc (Nat.le_refl _) _
  have HBX := Lib.hid hbx
  have HB0 := Lib.hid b0
  have HB1 := Lib.hid b0.drew
  have HD := Lib.hid (And.intro (h.below b0) (And.intro hl (And.intro (ha.below b0) (And.intro hna (show es.length ≤ 1000 by omega)))))
  have x0 := hbx.cell 0 (i64 0) rfl
  have x1 := hbx.cell 1 (i64 n0) rfl
  have x2 := hbx.cell 2 (.bool mk) rfl
  have x3 := hbx.cell 3 (i64 id) rfl
  have x4 := hbx.cell 4 (.string nm) rfl
  have x5 := hbx.cell 5 (.slice va na ca) rfl
  obtain ⟨r, hr⟩ : ∃ r, addR es ⟨mk, id, nm, l⟩ = r := ⟨_, rfl⟩
  have HS := Lib.hid (And.intro hs hr)
  clear hr
  clear h hl ha hna hs hbx b0
  go_enter Try.func11, Try.ntmps11
  go_wp2_with fail
  refine wp_region_held_drew (S := (fun w' => w'.cell? ⟨w.heap.size, 2, none⟩ = some (.bool mk) ∧ w'.cell? ⟨w.heap.size, 3, none⟩ = some (i64 id) ∧ w'.cell? ⟨w.heap.size, 4, none⟩ = some (.string nm) ∧ w'.cell? ⟨w.heap.size, 5, none⟩ = some (.slice va na ca))) (by kernel_rfl) (by (try dsimp only); go_keep) (fun hHeld => ?_)
  refine wpAnyH_take (i := 0) (v := ?_) rfl (by kernel_rfl) (by kernel_rfl) (by kernel_rfl) (fun _ _ _ h => h) (Or.inl ⟨by rfl, ?h11_7_2_3_1⟩) (by assumption) ?_
  case h11_7_2_3_1 => (intro w hSw; (try dsimp only at hSw); go_simp; try with_reducible rfl)
  try simp only [Act.put, List.setIfInBounds_toArray, List.set_cons_zero, List.set_cons_succ, List.getElem_toArray, List.getElem_cons_zero, List.getElem_cons_succ]
  refine wpAnyH_take (i := 1) (v := ?_) rfl (by kernel_rfl) (by kernel_rfl) (by kernel_rfl) (fun _ _ _ h => h) (Or.inl ⟨by rfl, ?h11_7_2_3_2⟩) (by assumption) ?_
  case h11_7_2_3_2 => (intro w hSw; (try dsimp only at hSw); go_simp; try with_reducible rfl)
  try simp only [Act.put, List.setIfInBounds_toArray, List.set_cons_zero, List.set_cons_succ, List.getElem_toArray, List.getElem_cons_zero, List.getElem_cons_succ]
  refine wpAnyH_take (i := 2) (v := ?_) rfl (by kernel_rfl) (by kernel_rfl) (by kernel_rfl) (fun _ _ _ h => h) (Or.inl ⟨by rfl, ?h11_7_2_3_3⟩) (by assumption) ?_
  case h11_7_2_3_3 => (intro w hSw; (try dsimp only at hSw); go_simp; try with_reducible rfl)
  try simp only [Act.put, List.setIfInBounds_toArray, List.set_cons_zero, List.set_cons_succ, List.getElem_toArray, List.getElem_cons_zero, List.getElem_cons_succ]
  refine wpAnyH_take (i := 4) (v := ?_) rfl (by kernel_rfl) (by kernel_rfl) (by kernel_rfl) (fun _ _ _ h => h) (Or.inl ⟨by rfl, ?h11_7_2_3_4⟩) (by assumption) ?_
  case h11_7_2_3_4 => (intro w hSw; (try dsimp only at hSw); go_simp; try with_reducible rfl)
  try simp only [Act.put, List.setIfInBounds_toArray, List.set_cons_zero, List.set_cons_succ, List.getElem_toArray, List.getElem_cons_zero, List.getElem_cons_succ]
  refine wpAnyH_take (i := 5) (v := ?_) rfl (by kernel_rfl) (by kernel_rfl) (by kernel_rfl) (fun _ _ _ h => h) (Or.inl ⟨by rfl, ?h11_7_2_3_5⟩) (by assumption) ?_
  case h11_7_2_3_5 => (intro w hSw; (try dsimp only at hSw); go_simp; try with_reducible rfl)
  try simp only [Act.put, List.setIfInBounds_toArray, List.set_cons_zero, List.set_cons_succ, List.getElem_toArray, List.getElem_cons_zero, List.getElem_cons_succ]
  refine wpAnyH_take (i := 6) (v := ?_) rfl (by kernel_rfl) (by kernel_rfl) (by kernel_rfl) (fun _ _ _ h => h) (Or.inl ⟨by rfl, ?h11_7_2_3_6⟩) (by assumption) ?_
  case h11_7_2_3_6 => (intro w hSw; (try dsimp only at hSw); go_simp; try with_reducible rfl)
  try simp only [Act.put, List.setIfInBounds_toArray, List.set_cons_zero, List.set_cons_succ, List.getElem_toArray, List.getElem_cons_zero, List.getElem_cons_succ]
  refine wpAnyH_ready (rs := [3]) (by kernel_rfl) (by simp) ?_
  refine AllReadyH.cons rfl (fun K hK => ?_) AllReadyH.nil
  go_simp
  (with_reducible refine (add_n (HD.out.1.1.below (dqr _)) HD.out.2.1 (HD.out.2.2.1.below (dqr _)) HS.out.1 HS.out.2).mono ?_)
  rintro e w2 ⟨rfl, h2, f2⟩
  have y2 := (f2.blk HBX.out.drew (.inr rfl)).cell 2 (.bool mk) rfl
  have y3 := (f2.blk HBX.out.drew (.inr rfl)).cell 3 (i64 id) rfl
  have y4 := (f2.blk HBX.out.drew (.inr rfl)).cell 4 (.string nm) rfl
  have y5 := (f2.blk HBX.out.drew (.inr rfl)).cell 5 (.slice va na ca) rfl
  have H2 := Lib.hid (And.intro h2 (And.intro f2 (And.intro (Doc.lk (HD.out.1.2.below (dqr _)) f2 (Nat.le_refl _)) (And.intro (f2.blk HBX.out.drew (.inr rfl)) ((HD.out.2.2.1.below (dqr _)).fr f2 (Nat.le_refl _) (fun _ _ => rfl))))))
  clear h2 f2
  go_wp2_with fail
  refine hK.out _ _ (by (try dsimp only); go_keep) (fun hHeld2 => ?_)
  clear hK K hHeld
  have hHeld := hHeld2
  clear hHeld2
  try simp only [Act.put, List.setIfInBounds_toArray, List.set_cons_zero, List.set_cons_succ, List.getElem_toArray, List.getElem_cons_zero, List.getElem_cons_succ]
  refine wpAnyH_ready (rs := [7]) (by kernel_rfl) (by simp) ?_
  refine AllReadyH.cons rfl (fun K hK => ?_) AllReadyH.nil
  go_simp
  (with_reducible refine (ref_any).mono ?_)
  rintro e w3 ⟨rfl, h3⟩
  have z2 := (blk_kept H2.out.2.2.2.1 h3).cell 2 (.bool mk) rfl
  have z3 := (blk_kept H2.out.2.2.2.1 h3).cell 3 (i64 id) rfl
  have z4 := (blk_kept H2.out.2.2.2.1 h3).cell 4 (.string nm) rfl
  have z5 := (blk_kept H2.out.2.2.2.1 h3).cell 5 (.slice va na ca) rfl
  have H3 := Lib.hid (And.intro h3 (And.intro (blk_kept H2.out.2.2.2.1 h3) (And.intro (H2.out.2.2.1.below h3) (H2.out.2.2.2.2.below h3))))
  clear h3
  go_wp2_with fail
  refine hK.out _ _ (by (try dsimp only); go_keep) (fun hHeld2 => ?_)
  clear hK K hHeld
  have hHeld := hHeld2
  clear hHeld2
  try simp only [Act.put, List.setIfInBounds_toArray, List.set_cons_zero, List.set_cons_succ, List.getElem_toArray, List.getElem_cons_zero, List.getElem_cons_succ]
  refine wpAnyH_ready (rs := [8]) (by kernel_rfl) (by simp) ?_
  refine AllReadyH.cons rfl (fun K hK => ?_) AllReadyH.nil
  go_simp
  (with_reducible refine (dadd_any H3.out.2.2.1 HD.out.2.1 H3.out.2.2.2 HS.out.1 HS.out.2).mono ?_)
  rintro e w4 ⟨rfl, h4, f4⟩
  have v2 := (f4.blk H3.out.2.1 (.inr rfl)).cell 2 (.bool mk) rfl
  have v3 := (f4.blk H3.out.2.1 (.inr rfl)).cell 3 (i64 id) rfl
  have v4 := (f4.blk H3.out.2.1 (.inr rfl)).cell 4 (.string nm) rfl
  have v5 := (f4.blk H3.out.2.1 (.inr rfl)).cell 5 (.slice va na ca) rfl
  have H4 := Lib.hid (And.intro h4 f4)
  clear h4 f4
  go_wp2_with fail
  refine hK.out _ _ (by (try dsimp only); go_keep) (fun hHeld2 => ?_)
  clear hK K hHeld
  have hHeld := hHeld2
  clear hHeld2
  try simp only [Act.put, List.setIfInBounds_toArray, List.set_cons_zero, List.set_cons_succ, List.getElem_toArray, List.getElem_cons_zero, List.getElem_cons_succ]
  refine wpAnyH_take (i := 9) (v := ?_) rfl (by kernel_rfl) (by kernel_rfl) (by kernel_rfl) (fun _ _ _ h => h) (Or.inl ⟨by rfl, ?h11_7_2_3_7⟩) (by assumption) ?_
  case h11_7_2_3_7 => (intro w hSw; (try dsimp only at hSw); go_simp; try with_reducible rfl)
  try simp only [Act.put, List.setIfInBounds_toArray, List.set_cons_zero, List.set_cons_succ, List.getElem_toArray, List.getElem_cons_zero, List.getElem_cons_succ]
  refine wpAnyH_take (i := 10) (v := ?_) rfl (by kernel_rfl) (by kernel_rfl) (by kernel_rfl) (fun _ _ _ h => h) (Or.inl ⟨by rfl, ?h11_7_2_3_8⟩) (by assumption) ?_
  case h11_7_2_3_8 => (intro w hSw; (try dsimp only at hSw); go_simp; try with_reducible rfl)
  try simp only [Act.put, List.setIfInBounds_toArray, List.set_cons_zero, List.set_cons_succ, List.getElem_toArray, List.getElem_cons_zero, List.getElem_cons_succ]
  refine wpAnyH_done (by kernel_rfl) ?_ _
  go_wp2
  go_ret
  exact do_done HB1.out H2.out.1 H2.out.2.1 H3.out.1 H4.out.1 H4.out.2
set_option maxHeartbeats 4000000 in
theorem does_add1 (h : Duo w B lb rb es) (hl : es.length ≤ 100) (ha : AtrsAt w B (.slice va na ca) l) (hna : l.length = na) (hs : addS es ⟨mk, id, nm, l⟩ = es') : Calls Try.prog 11 #[ptr lb, ptr rb, .agg #[i64 1, i64 n0, .bool mk, i64 id, .string nm, .slice va na ca]] w (DoIt B lb rb es' w) := by
  have hbx := Blk.new w 35 #[i64 1, i64 n0, .bool mk, i64 id, .string nm, .slice va na ca]
  have b0 : Below w.heap.size w (w.alloc (.cells #[i64 1, i64 n0, .bool mk, i64 id, .string nm, .slice va na ca] 35)) := (Below.refl _ w).alloc (Nat.le_refl _) _
  have HBX := Lib.hid hbx
  have HB0 := Lib.hid b0
  have HB1 := Lib.hid b0.drew
  have HD := Lib.hid (And.intro (h.below b0) (And.intro hl (And.intro (ha.below b0) (And.intro hna (show es.length ≤ 1000 by omega)))))
  have x0 := hbx.cell 0 (i64 1) rfl
  have x1 := hbx.cell 1 (i64 n0) rfl
  have x2 := hbx.cell 2 (.bool mk) rfl
  have x3 := hbx.cell 3 (i64 id) rfl
  have x4 := hbx.cell 4 (.string nm) rfl
  have x5 := hbx.cell 5 (.slice va na ca) rfl
  obtain ⟨r, hr⟩ : ∃ r, addR es ⟨mk, id, nm, l⟩ = r := ⟨_, rfl⟩
  have HS := Lib.hid (And.intro hs hr)
  clear hr
  clear h hl ha hna hs hbx b0
  go_enter Try.func11, Try.ntmps11
  go_wp2_with fail
  refine wp_region_held_drew (S := (fun w' => w'.cell? ⟨w.heap.size, 2, none⟩ = some (.bool mk) ∧ w'.cell? ⟨w.heap.size, 3, none⟩ = some (i64 id) ∧ w'.cell? ⟨w.heap.size, 4, none⟩ = some (.string nm) ∧ w'.cell? ⟨w.heap.size, 5, none⟩ = some (.slice va na ca))) (by kernel_rfl) (by (try dsimp only); go_keep) (fun hHeld => ?_)
  refine wpAnyH_take (i := 0) (v := ?_) rfl (by kernel_rfl) (by kernel_rfl) (by kernel_rfl) (fun _ _ _ h => h) (Or.inl ⟨by rfl, ?h11_7_2_4_1⟩) (by assumption) ?_
  case h11_7_2_4_1 => (intro w hSw; (try dsimp only at hSw); go_simp; try with_reducible rfl)
  try simp only [Act.put, List.setIfInBounds_toArray, List.set_cons_zero, List.set_cons_succ, List.getElem_toArray, List.getElem_cons_zero, List.getElem_cons_succ]
  refine wpAnyH_take (i := 1) (v := ?_) rfl (by kernel_rfl) (by kernel_rfl) (by kernel_rfl) (fun _ _ _ h => h) (Or.inl ⟨by rfl, ?h11_7_2_4_2⟩) (by assumption) ?_
  case h11_7_2_4_2 => (intro w hSw; (try dsimp only at hSw); go_simp; try with_reducible rfl)
  try simp only [Act.put, List.setIfInBounds_toArray, List.set_cons_zero, List.set_cons_succ, List.getElem_toArray, List.getElem_cons_zero, List.getElem_cons_succ]
  refine wpAnyH_take (i := 2) (v := ?_) rfl (by kernel_rfl) (by kernel_rfl) (by kernel_rfl) (fun _ _ _ h => h) (Or.inl ⟨by rfl, ?h11_7_2_4_3⟩) (by assumption) ?_
  case h11_7_2_4_3 => (intro w hSw; (try dsimp only at hSw); go_simp; try with_reducible rfl)
  try simp only [Act.put, List.setIfInBounds_toArray, List.set_cons_zero, List.set_cons_succ, List.getElem_toArray, List.getElem_cons_zero, List.getElem_cons_succ]
  refine wpAnyH_take (i := 4) (v := ?_) rfl (by kernel_rfl) (by kernel_rfl) (by kernel_rfl) (fun _ _ _ h => h) (Or.inl ⟨by rfl, ?h11_7_2_4_4⟩) (by assumption) ?_
  case h11_7_2_4_4 => (intro w hSw; (try dsimp only at hSw); go_simp; try with_reducible rfl)
  try simp only [Act.put, List.setIfInBounds_toArray, List.set_cons_zero, List.set_cons_succ, List.getElem_toArray, List.getElem_cons_zero, List.getElem_cons_succ]
  refine wpAnyH_take (i := 5) (v := ?_) rfl (by kernel_rfl) (by kernel_rfl) (by kernel_rfl) (fun _ _ _ h => h) (Or.inl ⟨by rfl, ?h11_7_2_4_5⟩) (by assumption) ?_
  case h11_7_2_4_5 => (intro w hSw; (try dsimp only at hSw); go_simp; try with_reducible rfl)
  try simp only [Act.put, List.setIfInBounds_toArray, List.set_cons_zero, List.set_cons_succ, List.getElem_toArray, List.getElem_cons_zero, List.getElem_cons_succ]
  refine wpAnyH_take (i := 6) (v := ?_) rfl (by kernel_rfl) (by kernel_rfl) (by kernel_rfl) (fun _ _ _ h => h) (Or.inl ⟨by rfl, ?h11_7_2_4_6⟩) (by assumption) ?_
  case h11_7_2_4_6 => (intro w hSw; (try dsimp only at hSw); go_simp; try with_reducible rfl)
  try simp only [Act.put, List.setIfInBounds_toArray, List.set_cons_zero, List.set_cons_succ, List.getElem_toArray, List.getElem_cons_zero, List.getElem_cons_succ]
  refine wpAnyH_ready (rs := [3]) (by kernel_rfl) (by simp) ?_
  refine AllReadyH.cons rfl (fun K hK => ?_) AllReadyH.nil
  go_simp
  (with_reducible refine (add_n (HD.out.1.1.below (dqr _)) HD.out.2.1 (HD.out.2.2.1.below (dqr _)) HS.out.1 HS.out.2).mono ?_)
  rintro e w2 ⟨rfl, h2, f2⟩
  have y2 := (f2.blk HBX.out.drew (.inr rfl)).cell 2 (.bool mk) rfl
  have y3 := (f2.blk HBX.out.drew (.inr rfl)).cell 3 (i64 id) rfl
  have y4 := (f2.blk HBX.out.drew (.inr rfl)).cell 4 (.string nm) rfl
  have y5 := (f2.blk HBX.out.drew (.inr rfl)).cell 5 (.slice va na ca) rfl
  have H2 := Lib.hid (And.intro h2 (And.intro f2 (And.intro (Doc.lk (HD.out.1.2.below (dqr _)) f2 (Nat.le_refl _)) (And.intro (f2.blk HBX.out.drew (.inr rfl)) ((HD.out.2.2.1.below (dqr _)).fr f2 (Nat.le_refl _) (fun _ _ => rfl))))))
  clear h2 f2
  go_wp2_with fail
  refine hK.out _ _ (by (try dsimp only); go_keep) (fun hHeld2 => ?_)
  clear hK K hHeld
  have hHeld := hHeld2
  clear hHeld2
  try simp only [Act.put, List.setIfInBounds_toArray, List.set_cons_zero, List.set_cons_succ, List.getElem_toArray, List.getElem_cons_zero, List.getElem_cons_succ]
  refine wpAnyH_ready (rs := [7]) (by kernel_rfl) (by simp) ?_
  refine AllReadyH.cons rfl (fun K hK => ?_) AllReadyH.nil
  go_simp
  (with_reducible refine (ref_any).mono ?_)
  rintro e w3 ⟨rfl, h3⟩
  have z2 := (blk_kept H2.out.2.2.2.1 h3).cell 2 (.bool mk) rfl
  have z3 := (blk_kept H2.out.2.2.2.1 h3).cell 3 (i64 id) rfl
  have z4 := (blk_kept H2.out.2.2.2.1 h3).cell 4 (.string nm) rfl
  have z5 := (blk_kept H2.out.2.2.2.1 h3).cell 5 (.slice va na ca) rfl
  have H3 := Lib.hid (And.intro h3 (And.intro (blk_kept H2.out.2.2.2.1 h3) (And.intro (H2.out.2.2.1.below h3) (H2.out.2.2.2.2.below h3))))
  clear h3
  go_wp2_with fail
  refine hK.out _ _ (by (try dsimp only); go_keep) (fun hHeld2 => ?_)
  clear hK K hHeld
  have hHeld := hHeld2
  clear hHeld2
  try simp only [Act.put, List.setIfInBounds_toArray, List.set_cons_zero, List.set_cons_succ, List.getElem_toArray, List.getElem_cons_zero, List.getElem_cons_succ]
  refine wpAnyH_ready (rs := [8]) (by kernel_rfl) (by simp) ?_
  refine AllReadyH.cons rfl (fun K hK => ?_) AllReadyH.nil
  go_simp
  (with_reducible refine (dadd_any H3.out.2.2.1 HD.out.2.1 H3.out.2.2.2 HS.out.1 HS.out.2).mono ?_)
  rintro e w4 ⟨rfl, h4, f4⟩
  have v2 := (f4.blk H3.out.2.1 (.inr rfl)).cell 2 (.bool mk) rfl
  have v3 := (f4.blk H3.out.2.1 (.inr rfl)).cell 3 (i64 id) rfl
  have v4 := (f4.blk H3.out.2.1 (.inr rfl)).cell 4 (.string nm) rfl
  have v5 := (f4.blk H3.out.2.1 (.inr rfl)).cell 5 (.slice va na ca) rfl
  have H4 := Lib.hid (And.intro h4 f4)
  clear h4 f4
  go_wp2_with fail
  refine hK.out _ _ (by (try dsimp only); go_keep) (fun hHeld2 => ?_)
  clear hK K hHeld
  have hHeld := hHeld2
  clear hHeld2
  try simp only [Act.put, List.setIfInBounds_toArray, List.set_cons_zero, List.set_cons_succ, List.getElem_toArray, List.getElem_cons_zero, List.getElem_cons_succ]
  refine wpAnyH_take (i := 9) (v := ?_) rfl (by kernel_rfl) (by kernel_rfl) (by kernel_rfl) (fun _ _ _ h => h) (Or.inl ⟨by rfl, ?h11_7_2_4_7⟩) (by assumption) ?_
  case h11_7_2_4_7 => (intro w hSw; (try dsimp only at hSw); go_simp; try with_reducible rfl)
  try simp only [Act.put, List.setIfInBounds_toArray, List.set_cons_zero, List.set_cons_succ, List.getElem_toArray, List.getElem_cons_zero, List.getElem_cons_succ]
  refine wpAnyH_take (i := 10) (v := ?_) rfl (by kernel_rfl) (by kernel_rfl) (by kernel_rfl) (fun _ _ _ h => h) (Or.inl ⟨by rfl, ?h11_7_2_4_8⟩) (by assumption) ?_
  case h11_7_2_4_8 => (intro w hSw; (try dsimp only at hSw); go_simp; try with_reducible rfl)
  try simp only [Act.put, List.setIfInBounds_toArray, List.set_cons_zero, List.set_cons_succ, List.getElem_toArray, List.getElem_cons_zero, List.getElem_cons_succ]
  refine wpAnyH_done (by kernel_rfl) ?_ _
  go_wp2
  go_ret
  exact do_done HB1.out H2.out.1 H2.out.2.1 H3.out.1 H4.out.1 H4.out.2
set_option maxHeartbeats 4000000 in
theorem does_add2 (h : Duo w B lb rb es) (hl : es.length ≤ 100) (ha : AtrsAt w B (.slice va na ca) l) (hna : l.length = na) (hs : addS es ⟨mk, id, nm, l⟩ = es') : Calls Try.prog 11 #[ptr lb, ptr rb, .agg #[i64 2, i64 n0, .bool mk, i64 id, .string nm, .slice va na ca]] w (DoIt B lb rb es' w) := by
  have hbx := Blk.new w 35 #[i64 2, i64 n0, .bool mk, i64 id, .string nm, .slice va na ca]
  have b0 : Below w.heap.size w (w.alloc (.cells #[i64 2, i64 n0, .bool mk, i64 id, .string nm, .slice va na ca] 35)) := (Below.refl _ w).alloc (Nat.le_refl _) _
  have HBX := Lib.hid hbx
  have HB0 := Lib.hid b0
  have HB1 := Lib.hid b0.drew
  have HD := Lib.hid (And.intro (h.below b0) (And.intro hl (And.intro (ha.below b0) (And.intro hna (show es.length ≤ 1000 by omega)))))
  have x0 := hbx.cell 0 (i64 2) rfl
  have x1 := hbx.cell 1 (i64 n0) rfl
  have x2 := hbx.cell 2 (.bool mk) rfl
  have x3 := hbx.cell 3 (i64 id) rfl
  have x4 := hbx.cell 4 (.string nm) rfl
  have x5 := hbx.cell 5 (.slice va na ca) rfl
  obtain ⟨r, hr⟩ : ∃ r, addR es ⟨mk, id, nm, l⟩ = r := ⟨_, rfl⟩
  have HS := Lib.hid (And.intro hs hr)
  clear hr
  clear h hl ha hna hs hbx b0
  go_enter Try.func11, Try.ntmps11
  go_wp2_with fail
  refine wp_region_held_drew (S := (fun w' => w'.cell? ⟨w.heap.size, 2, none⟩ = some (.bool mk) ∧ w'.cell? ⟨w.heap.size, 3, none⟩ = some (i64 id) ∧ w'.cell? ⟨w.heap.size, 4, none⟩ = some (.string nm) ∧ w'.cell? ⟨w.heap.size, 5, none⟩ = some (.slice va na ca))) (by kernel_rfl) (by (try dsimp only); go_keep) (fun hHeld => ?_)
  refine wpAnyH_take (i := 0) (v := ?_) rfl (by kernel_rfl) (by kernel_rfl) (by kernel_rfl) (fun _ _ _ h => h) (Or.inl ⟨by rfl, ?h11_7_2_5_1⟩) (by assumption) ?_
  case h11_7_2_5_1 => (intro w hSw; (try dsimp only at hSw); go_simp; try with_reducible rfl)
  try simp only [Act.put, List.setIfInBounds_toArray, List.set_cons_zero, List.set_cons_succ, List.getElem_toArray, List.getElem_cons_zero, List.getElem_cons_succ]
  refine wpAnyH_take (i := 1) (v := ?_) rfl (by kernel_rfl) (by kernel_rfl) (by kernel_rfl) (fun _ _ _ h => h) (Or.inl ⟨by rfl, ?h11_7_2_5_2⟩) (by assumption) ?_
  case h11_7_2_5_2 => (intro w hSw; (try dsimp only at hSw); go_simp; try with_reducible rfl)
  try simp only [Act.put, List.setIfInBounds_toArray, List.set_cons_zero, List.set_cons_succ, List.getElem_toArray, List.getElem_cons_zero, List.getElem_cons_succ]
  refine wpAnyH_take (i := 2) (v := ?_) rfl (by kernel_rfl) (by kernel_rfl) (by kernel_rfl) (fun _ _ _ h => h) (Or.inl ⟨by rfl, ?h11_7_2_5_3⟩) (by assumption) ?_
  case h11_7_2_5_3 => (intro w hSw; (try dsimp only at hSw); go_simp; try with_reducible rfl)
  try simp only [Act.put, List.setIfInBounds_toArray, List.set_cons_zero, List.set_cons_succ, List.getElem_toArray, List.getElem_cons_zero, List.getElem_cons_succ]
  refine wpAnyH_take (i := 4) (v := ?_) rfl (by kernel_rfl) (by kernel_rfl) (by kernel_rfl) (fun _ _ _ h => h) (Or.inl ⟨by rfl, ?h11_7_2_5_4⟩) (by assumption) ?_
  case h11_7_2_5_4 => (intro w hSw; (try dsimp only at hSw); go_simp; try with_reducible rfl)
  try simp only [Act.put, List.setIfInBounds_toArray, List.set_cons_zero, List.set_cons_succ, List.getElem_toArray, List.getElem_cons_zero, List.getElem_cons_succ]
  refine wpAnyH_take (i := 5) (v := ?_) rfl (by kernel_rfl) (by kernel_rfl) (by kernel_rfl) (fun _ _ _ h => h) (Or.inl ⟨by rfl, ?h11_7_2_5_5⟩) (by assumption) ?_
  case h11_7_2_5_5 => (intro w hSw; (try dsimp only at hSw); go_simp; try with_reducible rfl)
  try simp only [Act.put, List.setIfInBounds_toArray, List.set_cons_zero, List.set_cons_succ, List.getElem_toArray, List.getElem_cons_zero, List.getElem_cons_succ]
  refine wpAnyH_take (i := 6) (v := ?_) rfl (by kernel_rfl) (by kernel_rfl) (by kernel_rfl) (fun _ _ _ h => h) (Or.inl ⟨by rfl, ?h11_7_2_5_6⟩) (by assumption) ?_
  case h11_7_2_5_6 => (intro w hSw; (try dsimp only at hSw); go_simp; try with_reducible rfl)
  try simp only [Act.put, List.setIfInBounds_toArray, List.set_cons_zero, List.set_cons_succ, List.getElem_toArray, List.getElem_cons_zero, List.getElem_cons_succ]
  refine wpAnyH_ready (rs := [3]) (by kernel_rfl) (by simp) ?_
  refine AllReadyH.cons rfl (fun K hK => ?_) AllReadyH.nil
  go_simp
  (with_reducible refine (add_n (HD.out.1.1.below (dqr _)) HD.out.2.1 (HD.out.2.2.1.below (dqr _)) HS.out.1 HS.out.2).mono ?_)
  rintro e w2 ⟨rfl, h2, f2⟩
  have y2 := (f2.blk HBX.out.drew (.inr rfl)).cell 2 (.bool mk) rfl
  have y3 := (f2.blk HBX.out.drew (.inr rfl)).cell 3 (i64 id) rfl
  have y4 := (f2.blk HBX.out.drew (.inr rfl)).cell 4 (.string nm) rfl
  have y5 := (f2.blk HBX.out.drew (.inr rfl)).cell 5 (.slice va na ca) rfl
  have H2 := Lib.hid (And.intro h2 (And.intro f2 (And.intro (Doc.lk (HD.out.1.2.below (dqr _)) f2 (Nat.le_refl _)) (And.intro (f2.blk HBX.out.drew (.inr rfl)) ((HD.out.2.2.1.below (dqr _)).fr f2 (Nat.le_refl _) (fun _ _ => rfl))))))
  clear h2 f2
  go_wp2_with fail
  refine hK.out _ _ (by (try dsimp only); go_keep) (fun hHeld2 => ?_)
  clear hK K hHeld
  have hHeld := hHeld2
  clear hHeld2
  try simp only [Act.put, List.setIfInBounds_toArray, List.set_cons_zero, List.set_cons_succ, List.getElem_toArray, List.getElem_cons_zero, List.getElem_cons_succ]
  refine wpAnyH_ready (rs := [7]) (by kernel_rfl) (by simp) ?_
  refine AllReadyH.cons rfl (fun K hK => ?_) AllReadyH.nil
  go_simp
  (with_reducible refine (ref_any).mono ?_)
  rintro e w3 ⟨rfl, h3⟩
  have z2 := (blk_kept H2.out.2.2.2.1 h3).cell 2 (.bool mk) rfl
  have z3 := (blk_kept H2.out.2.2.2.1 h3).cell 3 (i64 id) rfl
  have z4 := (blk_kept H2.out.2.2.2.1 h3).cell 4 (.string nm) rfl
  have z5 := (blk_kept H2.out.2.2.2.1 h3).cell 5 (.slice va na ca) rfl
  have H3 := Lib.hid (And.intro h3 (And.intro (blk_kept H2.out.2.2.2.1 h3) (And.intro (H2.out.2.2.1.below h3) (H2.out.2.2.2.2.below h3))))
  clear h3
  go_wp2_with fail
  refine hK.out _ _ (by (try dsimp only); go_keep) (fun hHeld2 => ?_)
  clear hK K hHeld
  have hHeld := hHeld2
  clear hHeld2
  try simp only [Act.put, List.setIfInBounds_toArray, List.set_cons_zero, List.set_cons_succ, List.getElem_toArray, List.getElem_cons_zero, List.getElem_cons_succ]
  refine wpAnyH_ready (rs := [8]) (by kernel_rfl) (by simp) ?_
  refine AllReadyH.cons rfl (fun K hK => ?_) AllReadyH.nil
  go_simp
  (with_reducible refine (dadd_any H3.out.2.2.1 HD.out.2.1 H3.out.2.2.2 HS.out.1 HS.out.2).mono ?_)
  rintro e w4 ⟨rfl, h4, f4⟩
  have v2 := (f4.blk H3.out.2.1 (.inr rfl)).cell 2 (.bool mk) rfl
  have v3 := (f4.blk H3.out.2.1 (.inr rfl)).cell 3 (i64 id) rfl
  have v4 := (f4.blk H3.out.2.1 (.inr rfl)).cell 4 (.string nm) rfl
  have v5 := (f4.blk H3.out.2.1 (.inr rfl)).cell 5 (.slice va na ca) rfl
  have H4 := Lib.hid (And.intro h4 f4)
  clear h4 f4
  go_wp2_with fail
  refine hK.out _ _ (by (try dsimp only); go_keep) (fun hHeld2 => ?_)
  clear hK K hHeld
  have hHeld := hHeld2
  clear hHeld2
  try simp only [Act.put, List.setIfInBounds_toArray, List.set_cons_zero, List.set_cons_succ, List.getElem_toArray, List.getElem_cons_zero, List.getElem_cons_succ]
  refine wpAnyH_take (i := 9) (v := ?_) rfl (by kernel_rfl) (by kernel_rfl) (by kernel_rfl) (fun _ _ _ h => h) (Or.inl ⟨by rfl, ?h11_7_2_5_7⟩) (by assumption) ?_
  case h11_7_2_5_7 => (intro w hSw; (try dsimp only at hSw); go_simp; try with_reducible rfl)
  try simp only [Act.put, List.setIfInBounds_toArray, List.set_cons_zero, List.set_cons_succ, List.getElem_toArray, List.getElem_cons_zero, List.getElem_cons_succ]
  refine wpAnyH_take (i := 10) (v := ?_) rfl (by kernel_rfl) (by kernel_rfl) (by kernel_rfl) (fun _ _ _ h => h) (Or.inl ⟨by rfl, ?h11_7_2_5_8⟩) (by assumption) ?_
  case h11_7_2_5_8 => (intro w hSw; (try dsimp only at hSw); go_simp; try with_reducible rfl)
  try simp only [Act.put, List.setIfInBounds_toArray, List.set_cons_zero, List.set_cons_succ, List.getElem_toArray, List.getElem_cons_zero, List.getElem_cons_succ]
  refine wpAnyH_done (by kernel_rfl) ?_ _
  go_wp2
  go_ret
  exact do_done HB1.out H2.out.1 H2.out.2.1 H3.out.1 H4.out.1 H4.out.2
set_option maxHeartbeats 4000000 in
theorem does_add3 (h : Duo w B lb rb es) (hl : es.length ≤ 100) (ha : AtrsAt w B (.slice va na ca) l) (hna : l.length = na) (hs : addS es ⟨mk, id, nm, l⟩ = es') : Calls Try.prog 11 #[ptr lb, ptr rb, .agg #[i64 3, i64 n0, .bool mk, i64 id, .string nm, .slice va na ca]] w (DoIt B lb rb es' w) := by
  have hbx := Blk.new w 35 #[i64 3, i64 n0, .bool mk, i64 id, .string nm, .slice va na ca]
  have b0 : Below w.heap.size w (w.alloc (.cells #[i64 3, i64 n0, .bool mk, i64 id, .string nm, .slice va na ca] 35)) := (Below.refl _ w).alloc (Nat.le_refl _) _
  have HBX := Lib.hid hbx
  have HB0 := Lib.hid b0
  have HB1 := Lib.hid b0.drew
  have HD := Lib.hid (And.intro (h.below b0) (And.intro hl (And.intro (ha.below b0) (And.intro hna (show es.length ≤ 1000 by omega)))))
  have x0 := hbx.cell 0 (i64 3) rfl
  have x1 := hbx.cell 1 (i64 n0) rfl
  have x2 := hbx.cell 2 (.bool mk) rfl
  have x3 := hbx.cell 3 (i64 id) rfl
  have x4 := hbx.cell 4 (.string nm) rfl
  have x5 := hbx.cell 5 (.slice va na ca) rfl
  obtain ⟨r, hr⟩ : ∃ r, addR es ⟨mk, id, nm, l⟩ = r := ⟨_, rfl⟩
  have HS := Lib.hid (And.intro hs hr)
  clear hr
  clear h hl ha hna hs hbx b0
  go_enter Try.func11, Try.ntmps11
  go_wp2_with fail
  refine wp_region_held_drew (S := (fun w' => w'.cell? ⟨w.heap.size, 2, none⟩ = some (.bool mk) ∧ w'.cell? ⟨w.heap.size, 3, none⟩ = some (i64 id) ∧ w'.cell? ⟨w.heap.size, 4, none⟩ = some (.string nm) ∧ w'.cell? ⟨w.heap.size, 5, none⟩ = some (.slice va na ca))) (by kernel_rfl) (by (try dsimp only); go_keep) (fun hHeld => ?_)
  refine wpAnyH_take (i := 0) (v := ?_) rfl (by kernel_rfl) (by kernel_rfl) (by kernel_rfl) (fun _ _ _ h => h) (Or.inl ⟨by rfl, ?h11_7_2_6_1⟩) (by assumption) ?_
  case h11_7_2_6_1 => (intro w hSw; (try dsimp only at hSw); go_simp; try with_reducible rfl)
  try simp only [Act.put, List.setIfInBounds_toArray, List.set_cons_zero, List.set_cons_succ, List.getElem_toArray, List.getElem_cons_zero, List.getElem_cons_succ]
  refine wpAnyH_take (i := 1) (v := ?_) rfl (by kernel_rfl) (by kernel_rfl) (by kernel_rfl) (fun _ _ _ h => h) (Or.inl ⟨by rfl, ?h11_7_2_6_2⟩) (by assumption) ?_
  case h11_7_2_6_2 => (intro w hSw; (try dsimp only at hSw); go_simp; try with_reducible rfl)
  try simp only [Act.put, List.setIfInBounds_toArray, List.set_cons_zero, List.set_cons_succ, List.getElem_toArray, List.getElem_cons_zero, List.getElem_cons_succ]
  refine wpAnyH_take (i := 2) (v := ?_) rfl (by kernel_rfl) (by kernel_rfl) (by kernel_rfl) (fun _ _ _ h => h) (Or.inl ⟨by rfl, ?h11_7_2_6_3⟩) (by assumption) ?_
  case h11_7_2_6_3 => (intro w hSw; (try dsimp only at hSw); go_simp; try with_reducible rfl)
  try simp only [Act.put, List.setIfInBounds_toArray, List.set_cons_zero, List.set_cons_succ, List.getElem_toArray, List.getElem_cons_zero, List.getElem_cons_succ]
  refine wpAnyH_take (i := 4) (v := ?_) rfl (by kernel_rfl) (by kernel_rfl) (by kernel_rfl) (fun _ _ _ h => h) (Or.inl ⟨by rfl, ?h11_7_2_6_4⟩) (by assumption) ?_
  case h11_7_2_6_4 => (intro w hSw; (try dsimp only at hSw); go_simp; try with_reducible rfl)
  try simp only [Act.put, List.setIfInBounds_toArray, List.set_cons_zero, List.set_cons_succ, List.getElem_toArray, List.getElem_cons_zero, List.getElem_cons_succ]
  refine wpAnyH_take (i := 5) (v := ?_) rfl (by kernel_rfl) (by kernel_rfl) (by kernel_rfl) (fun _ _ _ h => h) (Or.inl ⟨by rfl, ?h11_7_2_6_5⟩) (by assumption) ?_
  case h11_7_2_6_5 => (intro w hSw; (try dsimp only at hSw); go_simp; try with_reducible rfl)
  try simp only [Act.put, List.setIfInBounds_toArray, List.set_cons_zero, List.set_cons_succ, List.getElem_toArray, List.getElem_cons_zero, List.getElem_cons_succ]
  refine wpAnyH_take (i := 6) (v := ?_) rfl (by kernel_rfl) (by kernel_rfl) (by kernel_rfl) (fun _ _ _ h => h) (Or.inl ⟨by rfl, ?h11_7_2_6_6⟩) (by assumption) ?_
  case h11_7_2_6_6 => (intro w hSw; (try dsimp only at hSw); go_simp; try with_reducible rfl)
  try simp only [Act.put, List.setIfInBounds_toArray, List.set_cons_zero, List.set_cons_succ, List.getElem_toArray, List.getElem_cons_zero, List.getElem_cons_succ]
  refine wpAnyH_ready (rs := [3]) (by kernel_rfl) (by simp) ?_
  refine AllReadyH.cons rfl (fun K hK => ?_) AllReadyH.nil
  go_simp
  (with_reducible refine (add_n (HD.out.1.1.below (dqr _)) HD.out.2.1 (HD.out.2.2.1.below (dqr _)) HS.out.1 HS.out.2).mono ?_)
  rintro e w2 ⟨rfl, h2, f2⟩
  have y2 := (f2.blk HBX.out.drew (.inr rfl)).cell 2 (.bool mk) rfl
  have y3 := (f2.blk HBX.out.drew (.inr rfl)).cell 3 (i64 id) rfl
  have y4 := (f2.blk HBX.out.drew (.inr rfl)).cell 4 (.string nm) rfl
  have y5 := (f2.blk HBX.out.drew (.inr rfl)).cell 5 (.slice va na ca) rfl
  have H2 := Lib.hid (And.intro h2 (And.intro f2 (And.intro (Doc.lk (HD.out.1.2.below (dqr _)) f2 (Nat.le_refl _)) (And.intro (f2.blk HBX.out.drew (.inr rfl)) ((HD.out.2.2.1.below (dqr _)).fr f2 (Nat.le_refl _) (fun _ _ => rfl))))))
  clear h2 f2
  go_wp2_with fail
  refine hK.out _ _ (by (try dsimp only); go_keep) (fun hHeld2 => ?_)
  clear hK K hHeld
  have hHeld := hHeld2
  clear hHeld2
  try simp only [Act.put, List.setIfInBounds_toArray, List.set_cons_zero, List.set_cons_succ, List.getElem_toArray, List.getElem_cons_zero, List.getElem_cons_succ]
  refine wpAnyH_ready (rs := [7]) (by kernel_rfl) (by simp) ?_
  refine AllReadyH.cons rfl (fun K hK => ?_) AllReadyH.nil
  go_simp
  (with_reducible refine (ref_any).mono ?_)
  rintro e w3 ⟨rfl, h3⟩
  have z2 := (blk_kept H2.out.2.2.2.1 h3).cell 2 (.bool mk) rfl
  have z3 := (blk_kept H2.out.2.2.2.1 h3).cell 3 (i64 id) rfl
  have z4 := (blk_kept H2.out.2.2.2.1 h3).cell 4 (.string nm) rfl
  have z5 := (blk_kept H2.out.2.2.2.1 h3).cell 5 (.slice va na ca) rfl
  have H3 := Lib.hid (And.intro h3 (And.intro (blk_kept H2.out.2.2.2.1 h3) (And.intro (H2.out.2.2.1.below h3) (H2.out.2.2.2.2.below h3))))
  clear h3
  go_wp2_with fail
  refine hK.out _ _ (by (try dsimp only); go_keep) (fun hHeld2 => ?_)
  clear hK K hHeld
  have hHeld := hHeld2
  clear hHeld2
  try simp only [Act.put, List.setIfInBounds_toArray, List.set_cons_zero, List.set_cons_succ, List.getElem_toArray, List.getElem_cons_zero, List.getElem_cons_succ]
  refine wpAnyH_ready (rs := [8]) (by kernel_rfl) (by simp) ?_
  refine AllReadyH.cons rfl (fun K hK => ?_) AllReadyH.nil
  go_simp
  (with_reducible refine (dadd_any H3.out.2.2.1 HD.out.2.1 H3.out.2.2.2 HS.out.1 HS.out.2).mono ?_)
  rintro e w4 ⟨rfl, h4, f4⟩
  have v2 := (f4.blk H3.out.2.1 (.inr rfl)).cell 2 (.bool mk) rfl
  have v3 := (f4.blk H3.out.2.1 (.inr rfl)).cell 3 (i64 id) rfl
  have v4 := (f4.blk H3.out.2.1 (.inr rfl)).cell 4 (.string nm) rfl
  have v5 := (f4.blk H3.out.2.1 (.inr rfl)).cell 5 (.slice va na ca) rfl
  have H4 := Lib.hid (And.intro h4 f4)
  clear h4 f4
  go_wp2_with fail
  refine hK.out _ _ (by (try dsimp only); go_keep) (fun hHeld2 => ?_)
  clear hK K hHeld
  have hHeld := hHeld2
  clear hHeld2
  try simp only [Act.put, List.setIfInBounds_toArray, List.set_cons_zero, List.set_cons_succ, List.getElem_toArray, List.getElem_cons_zero, List.getElem_cons_succ]
  refine wpAnyH_take (i := 9) (v := ?_) rfl (by kernel_rfl) (by kernel_rfl) (by kernel_rfl) (fun _ _ _ h => h) (Or.inl ⟨by rfl, ?h11_7_2_6_7⟩) (by assumption) ?_
  case h11_7_2_6_7 => (intro w hSw; (try dsimp only at hSw); go_simp; try with_reducible rfl)
  try simp only [Act.put, List.setIfInBounds_toArray, List.set_cons_zero, List.set_cons_succ, List.getElem_toArray, List.getElem_cons_zero, List.getElem_cons_succ]
  refine wpAnyH_take (i := 10) (v := ?_) rfl (by kernel_rfl) (by kernel_rfl) (by kernel_rfl) (fun _ _ _ h => h) (Or.inl ⟨by rfl, ?h11_7_2_6_8⟩) (by assumption) ?_
  case h11_7_2_6_8 => (intro w hSw; (try dsimp only at hSw); go_simp; try with_reducible rfl)
  try simp only [Act.put, List.setIfInBounds_toArray, List.set_cons_zero, List.set_cons_succ, List.getElem_toArray, List.getElem_cons_zero, List.getElem_cons_succ]
  refine wpAnyH_done (by kernel_rfl) ?_ _
  go_wp2
  go_ret
  exact do_done HB1.out H2.out.1 H2.out.2.1 H3.out.1 H4.out.1 H4.out.2
set_option maxHeartbeats 4000000 in
theorem does_add4 (h : Duo w B lb rb es) (hl : es.length ≤ 100) (ha : AtrsAt w B (.slice va na ca) l) (hna : l.length = na) (hs : addS es ⟨mk, id, nm, l⟩ = es') : Calls Try.prog 11 #[ptr lb, ptr rb, .agg #[i64 4, i64 n0, .bool mk, i64 id, .string nm, .slice va na ca]] w (DoIt B lb rb es' w) := by
  have hbx := Blk.new w 35 #[i64 4, i64 n0, .bool mk, i64 id, .string nm, .slice va na ca]
  have b0 : Below w.heap.size w (w.alloc (.cells #[i64 4, i64 n0, .bool mk, i64 id, .string nm, .slice va na ca] 35)) := (Below.refl _ w).alloc (Nat.le_refl _) _
  have HBX := Lib.hid hbx
  have HB0 := Lib.hid b0
  have HB1 := Lib.hid b0.drew
  have HD := Lib.hid (And.intro (h.below b0) (And.intro hl (And.intro (ha.below b0) (And.intro hna (show es.length ≤ 1000 by omega)))))
  have x0 := hbx.cell 0 (i64 4) rfl
  have x1 := hbx.cell 1 (i64 n0) rfl
  have x2 := hbx.cell 2 (.bool mk) rfl
  have x3 := hbx.cell 3 (i64 id) rfl
  have x4 := hbx.cell 4 (.string nm) rfl
  have x5 := hbx.cell 5 (.slice va na ca) rfl
  obtain ⟨r, hr⟩ : ∃ r, addR es ⟨mk, id, nm, l⟩ = r := ⟨_, rfl⟩
  have HS := Lib.hid (And.intro hs hr)
  clear hr
  clear h hl ha hna hs hbx b0
  go_enter Try.func11, Try.ntmps11
  go_wp2_with fail
  refine wp_region_held_drew (S := (fun w' => w'.cell? ⟨w.heap.size, 2, none⟩ = some (.bool mk) ∧ w'.cell? ⟨w.heap.size, 3, none⟩ = some (i64 id) ∧ w'.cell? ⟨w.heap.size, 4, none⟩ = some (.string nm) ∧ w'.cell? ⟨w.heap.size, 5, none⟩ = some (.slice va na ca))) (by kernel_rfl) (by (try dsimp only); go_keep) (fun hHeld => ?_)
  refine wpAnyH_take (i := 0) (v := ?_) rfl (by kernel_rfl) (by kernel_rfl) (by kernel_rfl) (fun _ _ _ h => h) (Or.inl ⟨by rfl, ?h11_7_2_7_1⟩) (by assumption) ?_
  case h11_7_2_7_1 => (intro w hSw; (try dsimp only at hSw); go_simp; try with_reducible rfl)
  try simp only [Act.put, List.setIfInBounds_toArray, List.set_cons_zero, List.set_cons_succ, List.getElem_toArray, List.getElem_cons_zero, List.getElem_cons_succ]
  refine wpAnyH_take (i := 1) (v := ?_) rfl (by kernel_rfl) (by kernel_rfl) (by kernel_rfl) (fun _ _ _ h => h) (Or.inl ⟨by rfl, ?h11_7_2_7_2⟩) (by assumption) ?_
  case h11_7_2_7_2 => (intro w hSw; (try dsimp only at hSw); go_simp; try with_reducible rfl)
  try simp only [Act.put, List.setIfInBounds_toArray, List.set_cons_zero, List.set_cons_succ, List.getElem_toArray, List.getElem_cons_zero, List.getElem_cons_succ]
  refine wpAnyH_take (i := 2) (v := ?_) rfl (by kernel_rfl) (by kernel_rfl) (by kernel_rfl) (fun _ _ _ h => h) (Or.inl ⟨by rfl, ?h11_7_2_7_3⟩) (by assumption) ?_
  case h11_7_2_7_3 => (intro w hSw; (try dsimp only at hSw); go_simp; try with_reducible rfl)
  try simp only [Act.put, List.setIfInBounds_toArray, List.set_cons_zero, List.set_cons_succ, List.getElem_toArray, List.getElem_cons_zero, List.getElem_cons_succ]
  refine wpAnyH_take (i := 4) (v := ?_) rfl (by kernel_rfl) (by kernel_rfl) (by kernel_rfl) (fun _ _ _ h => h) (Or.inl ⟨by rfl, ?h11_7_2_7_4⟩) (by assumption) ?_
  case h11_7_2_7_4 => (intro w hSw; (try dsimp only at hSw); go_simp; try with_reducible rfl)
  try simp only [Act.put, List.setIfInBounds_toArray, List.set_cons_zero, List.set_cons_succ, List.getElem_toArray, List.getElem_cons_zero, List.getElem_cons_succ]
  refine wpAnyH_take (i := 5) (v := ?_) rfl (by kernel_rfl) (by kernel_rfl) (by kernel_rfl) (fun _ _ _ h => h) (Or.inl ⟨by rfl, ?h11_7_2_7_5⟩) (by assumption) ?_
  case h11_7_2_7_5 => (intro w hSw; (try dsimp only at hSw); go_simp; try with_reducible rfl)
  try simp only [Act.put, List.setIfInBounds_toArray, List.set_cons_zero, List.set_cons_succ, List.getElem_toArray, List.getElem_cons_zero, List.getElem_cons_succ]
  refine wpAnyH_take (i := 6) (v := ?_) rfl (by kernel_rfl) (by kernel_rfl) (by kernel_rfl) (fun _ _ _ h => h) (Or.inl ⟨by rfl, ?h11_7_2_7_6⟩) (by assumption) ?_
  case h11_7_2_7_6 => (intro w hSw; (try dsimp only at hSw); go_simp; try with_reducible rfl)
  try simp only [Act.put, List.setIfInBounds_toArray, List.set_cons_zero, List.set_cons_succ, List.getElem_toArray, List.getElem_cons_zero, List.getElem_cons_succ]
  refine wpAnyH_ready (rs := [3]) (by kernel_rfl) (by simp) ?_
  refine AllReadyH.cons rfl (fun K hK => ?_) AllReadyH.nil
  go_simp
  (with_reducible refine (add_n (HD.out.1.1.below (dqr _)) HD.out.2.1 (HD.out.2.2.1.below (dqr _)) HS.out.1 HS.out.2).mono ?_)
  rintro e w2 ⟨rfl, h2, f2⟩
  have y2 := (f2.blk HBX.out.drew (.inr rfl)).cell 2 (.bool mk) rfl
  have y3 := (f2.blk HBX.out.drew (.inr rfl)).cell 3 (i64 id) rfl
  have y4 := (f2.blk HBX.out.drew (.inr rfl)).cell 4 (.string nm) rfl
  have y5 := (f2.blk HBX.out.drew (.inr rfl)).cell 5 (.slice va na ca) rfl
  have H2 := Lib.hid (And.intro h2 (And.intro f2 (And.intro (Doc.lk (HD.out.1.2.below (dqr _)) f2 (Nat.le_refl _)) (And.intro (f2.blk HBX.out.drew (.inr rfl)) ((HD.out.2.2.1.below (dqr _)).fr f2 (Nat.le_refl _) (fun _ _ => rfl))))))
  clear h2 f2
  go_wp2_with fail
  refine hK.out _ _ (by (try dsimp only); go_keep) (fun hHeld2 => ?_)
  clear hK K hHeld
  have hHeld := hHeld2
  clear hHeld2
  try simp only [Act.put, List.setIfInBounds_toArray, List.set_cons_zero, List.set_cons_succ, List.getElem_toArray, List.getElem_cons_zero, List.getElem_cons_succ]
  refine wpAnyH_ready (rs := [7]) (by kernel_rfl) (by simp) ?_
  refine AllReadyH.cons rfl (fun K hK => ?_) AllReadyH.nil
  go_simp
  (with_reducible refine (ref_any).mono ?_)
  rintro e w3 ⟨rfl, h3⟩
  have z2 := (blk_kept H2.out.2.2.2.1 h3).cell 2 (.bool mk) rfl
  have z3 := (blk_kept H2.out.2.2.2.1 h3).cell 3 (i64 id) rfl
  have z4 := (blk_kept H2.out.2.2.2.1 h3).cell 4 (.string nm) rfl
  have z5 := (blk_kept H2.out.2.2.2.1 h3).cell 5 (.slice va na ca) rfl
  have H3 := Lib.hid (And.intro h3 (And.intro (blk_kept H2.out.2.2.2.1 h3) (And.intro (H2.out.2.2.1.below h3) (H2.out.2.2.2.2.below h3))))
  clear h3
  go_wp2_with fail
  refine hK.out _ _ (by (try dsimp only); go_keep) (fun hHeld2 => ?_)
  clear hK K hHeld
  have hHeld := hHeld2
  clear hHeld2
  try simp only [Act.put, List.setIfInBounds_toArray, List.set_cons_zero, List.set_cons_succ, List.getElem_toArray, List.getElem_cons_zero, List.getElem_cons_succ]
  refine wpAnyH_ready (rs := [8]) (by kernel_rfl) (by simp) ?_
  refine AllReadyH.cons rfl (fun K hK => ?_) AllReadyH.nil
  go_simp
  (with_reducible refine (dadd_any H3.out.2.2.1 HD.out.2.1 H3.out.2.2.2 HS.out.1 HS.out.2).mono ?_)
  rintro e w4 ⟨rfl, h4, f4⟩
  have v2 := (f4.blk H3.out.2.1 (.inr rfl)).cell 2 (.bool mk) rfl
  have v3 := (f4.blk H3.out.2.1 (.inr rfl)).cell 3 (i64 id) rfl
  have v4 := (f4.blk H3.out.2.1 (.inr rfl)).cell 4 (.string nm) rfl
  have v5 := (f4.blk H3.out.2.1 (.inr rfl)).cell 5 (.slice va na ca) rfl
  have H4 := Lib.hid (And.intro h4 f4)
  clear h4 f4
  go_wp2_with fail
  refine hK.out _ _ (by (try dsimp only); go_keep) (fun hHeld2 => ?_)
  clear hK K hHeld
  have hHeld := hHeld2
  clear hHeld2
  try simp only [Act.put, List.setIfInBounds_toArray, List.set_cons_zero, List.set_cons_succ, List.getElem_toArray, List.getElem_cons_zero, List.getElem_cons_succ]
  refine wpAnyH_take (i := 9) (v := ?_) rfl (by kernel_rfl) (by kernel_rfl) (by kernel_rfl) (fun _ _ _ h => h) (Or.inl ⟨by rfl, ?h11_7_2_7_7⟩) (by assumption) ?_
  case h11_7_2_7_7 => (intro w hSw; (try dsimp only at hSw); go_simp; try with_reducible rfl)
  try simp only [Act.put, List.setIfInBounds_toArray, List.set_cons_zero, List.set_cons_succ, List.getElem_toArray, List.getElem_cons_zero, List.getElem_cons_succ]
  refine wpAnyH_take (i := 10) (v := ?_) rfl (by kernel_rfl) (by kernel_rfl) (by kernel_rfl) (fun _ _ _ h => h) (Or.inl ⟨by rfl, ?h11_7_2_7_8⟩) (by assumption) ?_
  case h11_7_2_7_8 => (intro w hSw; (try dsimp only at hSw); go_simp; try with_reducible rfl)
  try simp only [Act.put, List.setIfInBounds_toArray, List.set_cons_zero, List.set_cons_succ, List.getElem_toArray, List.getElem_cons_zero, List.getElem_cons_succ]
  refine wpAnyH_done (by kernel_rfl) ?_ _
  go_wp2
  go_ret
  exact do_done HB1.out H2.out.1 H2.out.2.1 H3.out.1 H4.out.1 H4.out.2
set_option maxHeartbeats 4000000 in
theorem does_mark (h : Duo w B lb rb es) (hl : es.length ≤ 100) (ha : AtrsAt w B (.slice va na ca) l) (hna : l.length = na) (hs : markS es = es') : Calls Try.prog 11 #[ptr lb, ptr rb, .agg #[i64 5, i64 n0, .bool mk, i64 id, .string nm, .slice va na ca]] w (DoIt B lb rb es' w) := by
  have hbx := Blk.new w 35 #[i64 5, i64 n0, .bool mk, i64 id, .string nm, .slice va na ca]
  have b0 : Below w.heap.size w (w.alloc (.cells #[i64 5, i64 n0, .bool mk, i64 id, .string nm, .slice va na ca] 35)) := (Below.refl _ w).alloc (Nat.le_refl _) _
  have HBX := Lib.hid hbx
  have HB0 := Lib.hid b0
  have HB1 := Lib.hid b0.drew
  have HD := Lib.hid (And.intro (h.below b0) (And.intro hl (And.intro (ha.below b0) (And.intro hna (show es.length ≤ 1000 by omega)))))
  have x0 := hbx.cell 0 (i64 5) rfl
  have x1 := hbx.cell 1 (i64 n0) rfl
  have x2 := hbx.cell 2 (.bool mk) rfl
  have x3 := hbx.cell 3 (i64 id) rfl
  have x4 := hbx.cell 4 (.string nm) rfl
  have x5 := hbx.cell 5 (.slice va na ca) rfl
  obtain ⟨r, hr⟩ : ∃ r, markR es = r := ⟨_, rfl⟩
  have HS := Lib.hid (And.intro hs hr)
  clear hr
  clear h hl ha hna hs hbx b0
  go_enter Try.func11, Try.ntmps11
  go_wp2_with (first
    | (go_at_call 24; (with_reducible refine (mark_n HD.out.1.1 HD.out.2.1 HS.out.1 HS.out.2).mono ?_); rintro e w2 ⟨rfl, h2, f2⟩; have H2 := Lib.hid (And.intro h2 (And.intro f2 (Doc.lk HD.out.1.2 f2 (Nat.le_refl _)))); clear h2 f2)
    | (go_at_call 30; (with_reducible refine (dmark_any H2.out.2.2 HD.out.2.1 HS.out.1 HS.out.2).mono ?_); rintro e w4 ⟨rfl, h4, f4⟩; have H4 := Lib.hid (And.intro h4 f4); clear h4 f4))
  go_ret
  exact duo_done HB0.out H2.out.1 H2.out.2.1 H4.out.1 H4.out.2
set_option maxHeartbeats 4000000 in
theorem does_clear (h : Duo w B lb rb es) (hl : es.length ≤ 100) (ha : AtrsAt w B (.slice va na ca) l) (hna : l.length = na) (hs : clearS es = es') : Calls Try.prog 11 #[ptr lb, ptr rb, .agg #[i64 6, i64 n0, .bool mk, i64 id, .string nm, .slice va na ca]] w (DoIt B lb rb es' w) := by
  have hbx := Blk.new w 35 #[i64 6, i64 n0, .bool mk, i64 id, .string nm, .slice va na ca]
  have b0 : Below w.heap.size w (w.alloc (.cells #[i64 6, i64 n0, .bool mk, i64 id, .string nm, .slice va na ca] 35)) := (Below.refl _ w).alloc (Nat.le_refl _) _
  have HBX := Lib.hid hbx
  have HB0 := Lib.hid b0
  have HB1 := Lib.hid b0.drew
  have HD := Lib.hid (And.intro (h.below b0) (And.intro hl (And.intro (ha.below b0) (And.intro hna (show es.length ≤ 1000 by omega)))))
  have x0 := hbx.cell 0 (i64 6) rfl
  have x1 := hbx.cell 1 (i64 n0) rfl
  have x2 := hbx.cell 2 (.bool mk) rfl
  have x3 := hbx.cell 3 (i64 id) rfl
  have x4 := hbx.cell 4 (.string nm) rfl
  have x5 := hbx.cell 5 (.slice va na ca) rfl
  have HS := Lib.hid hs
  clear h hl ha hna hs hbx b0
  go_enter Try.func11, Try.ntmps11
  go_wp2_with (first
    | (go_at_call 21; (with_reducible refine (clear_any HD.out.1.1 HS.out).mono ?_); rintro e w2 ⟨rfl, h2, f2⟩; have H2 := Lib.hid (And.intro h2 (And.intro f2 (Doc.lk HD.out.1.2 f2 (Nat.le_refl _)))); clear h2 f2)
    | (go_at_call 31; (with_reducible refine (dclear_any H2.out.2.2 HD.out.2.2.2.2 HS.out).mono ?_); rintro e w4 ⟨rfl, h4, f4⟩; have H4 := Lib.hid (And.intro h4 f4); clear h4 f4))
  go_ret
  exact duo_done HB0.out H2.out.1 H2.out.2.1 H4.out.1 H4.out.2
set_option maxHeartbeats 4000000 in
theorem does_rem (h : Duo w B lb rb es) (hl : es.length ≤ 100) (ha : AtrsAt w B (.slice va na ca) l) (hna : l.length = na) (hs : remS n0 es = es') : Calls Try.prog 11 #[ptr lb, ptr rb, .agg #[i64 7, i64 n0, .bool mk, i64 id, .string nm, .slice va na ca]] w (DoIt B lb rb es' w) := by
  have hbx := Blk.new w 35 #[i64 7, i64 n0, .bool mk, i64 id, .string nm, .slice va na ca]
  have b0 : Below w.heap.size w (w.alloc (.cells #[i64 7, i64 n0, .bool mk, i64 id, .string nm, .slice va na ca] 35)) := (Below.refl _ w).alloc (Nat.le_refl _) _
  have HBX := Lib.hid hbx
  have HB0 := Lib.hid b0
  have HB1 := Lib.hid b0.drew
  have HD := Lib.hid (And.intro (h.below b0) (And.intro hl (And.intro (ha.below b0) (And.intro hna (show es.length ≤ 1000 by omega)))))
  have x0 := hbx.cell 0 (i64 7) rfl
  have x1 := hbx.cell 1 (i64 n0) rfl
  have x2 := hbx.cell 2 (.bool mk) rfl
  have x3 := hbx.cell 3 (i64 id) rfl
  have x4 := hbx.cell 4 (.string nm) rfl
  have x5 := hbx.cell 5 (.slice va na ca) rfl
  obtain ⟨r, hr⟩ : ∃ r, remB n0 es = r := ⟨_, rfl⟩
  have HS := Lib.hid (And.intro hs hr)
  clear hr
  clear h hl ha hna hs hbx b0
  go_enter Try.func11, Try.ntmps11
  go_wp2_with fail
  refine wp_region_held_drew (S := (fun w' => w'.cell? ⟨w.heap.size, 1, none⟩ = some (i64 n0))) (by kernel_rfl) (by (try dsimp only); go_keep) (fun hHeld => ?_)
  refine wpAnyH_take (i := 0) (v := ?_) rfl (by kernel_rfl) (by kernel_rfl) (by kernel_rfl) (fun _ _ _ h => h) (Or.inl ⟨by rfl, ?h11_14_2_8_1⟩) (by assumption) ?_
  case h11_14_2_8_1 => (intro w hSw; (try dsimp only at hSw); go_simp; try with_reducible rfl)
  try simp only [Act.put, List.setIfInBounds_toArray, List.set_cons_zero, List.set_cons_succ, List.getElem_toArray, List.getElem_cons_zero, List.getElem_cons_succ]
  refine wpAnyH_take (i := 1) (v := ?_) rfl (by kernel_rfl) (by kernel_rfl) (by kernel_rfl) (fun _ _ _ h => h) (Or.inl ⟨by rfl, ?h11_14_2_8_2⟩) (by assumption) ?_
  case h11_14_2_8_2 => (intro w hSw; (try dsimp only at hSw); go_simp; try with_reducible rfl)
  try simp only [Act.put, List.setIfInBounds_toArray, List.set_cons_zero, List.set_cons_succ, List.getElem_toArray, List.getElem_cons_zero, List.getElem_cons_succ]
  refine wpAnyH_take (i := 2) (v := ?_) rfl (by kernel_rfl) (by kernel_rfl) (by kernel_rfl) (fun _ _ _ h => h) (Or.inl ⟨by rfl, ?h11_14_2_8_3⟩) (by assumption) ?_
  case h11_14_2_8_3 => (intro w hSw; (try dsimp only at hSw); go_simp; try with_reducible rfl)
  try simp only [Act.put, List.setIfInBounds_toArray, List.set_cons_zero, List.set_cons_succ, List.getElem_toArray, List.getElem_cons_zero, List.getElem_cons_succ]
  refine wpAnyH_take (i := 4) (v := ?_) rfl (by kernel_rfl) (by kernel_rfl) (by kernel_rfl) (fun _ _ _ h => h) (Or.inl ⟨by rfl, ?h11_14_2_8_4⟩) (by assumption) ?_
  case h11_14_2_8_4 => (intro w hSw; (try dsimp only at hSw); go_simp; try with_reducible rfl)
  try simp only [Act.put, List.setIfInBounds_toArray, List.set_cons_zero, List.set_cons_succ, List.getElem_toArray, List.getElem_cons_zero, List.getElem_cons_succ]
  refine wpAnyH_take (i := 5) (v := ?_) rfl (by kernel_rfl) (by kernel_rfl) (by kernel_rfl) (fun _ _ _ h => h) (Or.inl ⟨by rfl, ?h11_14_2_8_5⟩) (by assumption) ?_
  case h11_14_2_8_5 => (intro w hSw; (try dsimp only at hSw); go_simp; try with_reducible rfl)
  try simp only [Act.put, List.setIfInBounds_toArray, List.set_cons_zero, List.set_cons_succ, List.getElem_toArray, List.getElem_cons_zero, List.getElem_cons_succ]
  refine wpAnyH_take (i := 6) (v := ?_) rfl (by kernel_rfl) (by kernel_rfl) (by kernel_rfl) (fun _ _ _ h => h) (Or.inl ⟨by rfl, ?h11_14_2_8_6⟩) (by assumption) ?_
  case h11_14_2_8_6 => (intro w hSw; (try dsimp only at hSw); go_simp; try with_reducible rfl)
  try simp only [Act.put, List.setIfInBounds_toArray, List.set_cons_zero, List.set_cons_succ, List.getElem_toArray, List.getElem_cons_zero, List.getElem_cons_succ]
  refine wpAnyH_ready (rs := [3]) (by kernel_rfl) (by simp) ?_
  refine AllReadyH.cons rfl (fun K hK => ?_) AllReadyH.nil
  go_simp
  (with_reducible refine (rem_any (HD.out.1.1.below (dqr _)) HS.out.1 HS.out.2).mono ?_)
  rintro e w2 ⟨rfl, h2, f2⟩
  have y1 := (f2.blk HBX.out.drew (.inr rfl)).cell 1 (i64 n0) rfl
  have H2 := Lib.hid (And.intro h2 (And.intro f2 (And.intro (Doc.lk (HD.out.1.2.below (dqr _)) f2 (Nat.le_refl _)) (f2.blk HBX.out.drew (.inr rfl)))))
  clear h2 f2
  go_wp2_with fail
  refine hK.out _ _ (by (try dsimp only); go_keep) (fun hHeld2 => ?_)
  clear hK K hHeld
  have hHeld := hHeld2
  clear hHeld2
  try simp only [Act.put, List.setIfInBounds_toArray, List.set_cons_zero, List.set_cons_succ, List.getElem_toArray, List.getElem_cons_zero, List.getElem_cons_succ]
  refine wpAnyH_ready (rs := [7]) (by kernel_rfl) (by simp) ?_
  refine AllReadyH.cons rfl (fun K hK => ?_) AllReadyH.nil
  go_simp
  (with_reducible refine (drem_any H2.out.2.2.1 HD.out.2.2.2.2 HS.out.1 HS.out.2).mono ?_)
  rintro e w4 ⟨rfl, h4, f4⟩
  have v1 := (f4.blk H2.out.2.2.2 (.inr rfl)).cell 1 (i64 n0) rfl
  have H4 := Lib.hid (And.intro h4 f4)
  clear h4 f4
  go_wp2_with fail
  refine hK.out _ _ (by (try dsimp only); go_keep) (fun hHeld2 => ?_)
  clear hK K hHeld
  have hHeld := hHeld2
  clear hHeld2
  try simp only [Act.put, List.setIfInBounds_toArray, List.set_cons_zero, List.set_cons_succ, List.getElem_toArray, List.getElem_cons_zero, List.getElem_cons_succ]
  refine wpAnyH_take (i := 8) (v := ?_) rfl (by kernel_rfl) (by kernel_rfl) (by kernel_rfl) (fun _ _ _ h => h) (Or.inl ⟨by rfl, ?h11_14_2_8_7⟩) (by assumption) ?_
  case h11_14_2_8_7 => (intro w hSw; (try dsimp only at hSw); go_simp; try with_reducible rfl)
  try simp only [Act.put, List.setIfInBounds_toArray, List.set_cons_zero, List.set_cons_succ, List.getElem_toArray, List.getElem_cons_zero, List.getElem_cons_succ]
  refine wpAnyH_take (i := 9) (v := ?_) rfl (by kernel_rfl) (by kernel_rfl) (by kernel_rfl) (fun _ _ _ h => h) (Or.inl ⟨by rfl, ?h11_14_2_8_8⟩) (by assumption) ?_
  case h11_14_2_8_8 => (intro w hSw; (try dsimp only at hSw); go_simp; try with_reducible rfl)
  try simp only [Act.put, List.setIfInBounds_toArray, List.set_cons_zero, List.set_cons_succ, List.getElem_toArray, List.getElem_cons_zero, List.getElem_cons_succ]
  refine wpAnyH_done (by kernel_rfl) ?_ _
  go_wp2
  go_ret
  exact duo_done HB1.out H2.out.1 H2.out.2.1 H4.out.1 H4.out.2
set_option maxHeartbeats 4000000 in
theorem does_swap (h : Duo w B lb rb es) (hl : es.length ≤ 100) (ha : AtrsAt w B (.slice va na ca) l) (hna : l.length = na) (hs : swapS n0 ⟨mk, id, nm, l⟩ es = es') : Calls Try.prog 11 #[ptr lb, ptr rb, .agg #[i64 8, i64 n0, .bool mk, i64 id, .string nm, .slice va na ca]] w (DoIt B lb rb es' w) := by
  have hbx := Blk.new w 35 #[i64 8, i64 n0, .bool mk, i64 id, .string nm, .slice va na ca]
  have b0 : Below w.heap.size w (w.alloc (.cells #[i64 8, i64 n0, .bool mk, i64 id, .string nm, .slice va na ca] 35)) := (Below.refl _ w).alloc (Nat.le_refl _) _
  have HBX := Lib.hid hbx
  have HB0 := Lib.hid b0
  have HB1 := Lib.hid b0.drew
  have HD := Lib.hid (And.intro (h.below b0) (And.intro hl (And.intro (ha.below b0) (And.intro hna (show es.length ≤ 1000 by omega)))))
  have x0 := hbx.cell 0 (i64 8) rfl
  have x1 := hbx.cell 1 (i64 n0) rfl
  have x2 := hbx.cell 2 (.bool mk) rfl
  have x3 := hbx.cell 3 (i64 id) rfl
  have x4 := hbx.cell 4 (.string nm) rfl
  have x5 := hbx.cell 5 (.slice va na ca) rfl
  obtain ⟨r, hr⟩ : ∃ r, swapB n0 ⟨mk, id, nm, l⟩ es = r := ⟨_, rfl⟩
  have HS := Lib.hid (And.intro hs hr)
  clear hr
  clear h hl ha hna hs hbx b0
  go_enter Try.func11, Try.ntmps11
  go_wp2_with fail
  refine wp_region_held_drew (S := (fun w' => w'.cell? ⟨w.heap.size, 1, none⟩ = some (i64 n0) ∧ w'.cell? ⟨w.heap.size, 2, none⟩ = some (.bool mk) ∧ w'.cell? ⟨w.heap.size, 3, none⟩ = some (i64 id) ∧ w'.cell? ⟨w.heap.size, 4, none⟩ = some (.string nm) ∧ w'.cell? ⟨w.heap.size, 5, none⟩ = some (.slice va na ca))) (by kernel_rfl) (by (try dsimp only); go_keep) (fun hHeld => ?_)
  refine wpAnyH_take (i := 0) (v := ?_) rfl (by kernel_rfl) (by kernel_rfl) (by kernel_rfl) (fun _ _ _ h => h) (Or.inl ⟨by rfl, ?h11_16_2_1_1⟩) (by assumption) ?_
  case h11_16_2_1_1 => (intro w hSw; (try dsimp only at hSw); go_simp; try with_reducible rfl)
  try simp only [Act.put, List.setIfInBounds_toArray, List.set_cons_zero, List.set_cons_succ, List.getElem_toArray, List.getElem_cons_zero, List.getElem_cons_succ]
  refine wpAnyH_take (i := 1) (v := ?_) rfl (by kernel_rfl) (by kernel_rfl) (by kernel_rfl) (fun _ _ _ h => h) (Or.inl ⟨by rfl, ?h11_16_2_1_2⟩) (by assumption) ?_
  case h11_16_2_1_2 => (intro w hSw; (try dsimp only at hSw); go_simp; try with_reducible rfl)
  try simp only [Act.put, List.setIfInBounds_toArray, List.set_cons_zero, List.set_cons_succ, List.getElem_toArray, List.getElem_cons_zero, List.getElem_cons_succ]
  refine wpAnyH_take (i := 2) (v := ?_) rfl (by kernel_rfl) (by kernel_rfl) (by kernel_rfl) (fun _ _ _ h => h) (Or.inl ⟨by rfl, ?h11_16_2_1_3⟩) (by assumption) ?_
  case h11_16_2_1_3 => (intro w hSw; (try dsimp only at hSw); go_simp; try with_reducible rfl)
  try simp only [Act.put, List.setIfInBounds_toArray, List.set_cons_zero, List.set_cons_succ, List.getElem_toArray, List.getElem_cons_zero, List.getElem_cons_succ]
  refine wpAnyH_take (i := 3) (v := ?_) rfl (by kernel_rfl) (by kernel_rfl) (by kernel_rfl) (fun _ _ _ h => h) (Or.inl ⟨by rfl, ?h11_16_2_1_4⟩) (by assumption) ?_
  case h11_16_2_1_4 => (intro w hSw; (try dsimp only at hSw); go_simp; try with_reducible rfl)
  try simp only [Act.put, List.setIfInBounds_toArray, List.set_cons_zero, List.set_cons_succ, List.getElem_toArray, List.getElem_cons_zero, List.getElem_cons_succ]
  refine wpAnyH_take (i := 4) (v := ?_) rfl (by kernel_rfl) (by kernel_rfl) (by kernel_rfl) (fun _ _ _ h => h) (Or.inl ⟨by rfl, ?h11_16_2_1_5⟩) (by assumption) ?_
  case h11_16_2_1_5 => (intro w hSw; (try dsimp only at hSw); go_simp; try with_reducible rfl)
  try simp only [Act.put, List.setIfInBounds_toArray, List.set_cons_zero, List.set_cons_succ, List.getElem_toArray, List.getElem_cons_zero, List.getElem_cons_succ]
  refine wpAnyH_take (i := 6) (v := ?_) rfl (by kernel_rfl) (by kernel_rfl) (by kernel_rfl) (fun _ _ _ h => h) (Or.inl ⟨by rfl, ?h11_16_2_1_6⟩) (by assumption) ?_
  case h11_16_2_1_6 => (intro w hSw; (try dsimp only at hSw); go_simp; try with_reducible rfl)
  try simp only [Act.put, List.setIfInBounds_toArray, List.set_cons_zero, List.set_cons_succ, List.getElem_toArray, List.getElem_cons_zero, List.getElem_cons_succ]
  refine wpAnyH_take (i := 7) (v := ?_) rfl (by kernel_rfl) (by kernel_rfl) (by kernel_rfl) (fun _ _ _ h => h) (Or.inl ⟨by rfl, ?h11_16_2_1_7⟩) (by assumption) ?_
  case h11_16_2_1_7 => (intro w hSw; (try dsimp only at hSw); go_simp; try with_reducible rfl)
  try simp only [Act.put, List.setIfInBounds_toArray, List.set_cons_zero, List.set_cons_succ, List.getElem_toArray, List.getElem_cons_zero, List.getElem_cons_succ]
  refine wpAnyH_take (i := 8) (v := ?_) rfl (by kernel_rfl) (by kernel_rfl) (by kernel_rfl) (fun _ _ _ h => h) (Or.inl ⟨by rfl, ?h11_16_2_1_8⟩) (by assumption) ?_
  case h11_16_2_1_8 => (intro w hSw; (try dsimp only at hSw); go_simp; try with_reducible rfl)
  try simp only [Act.put, List.setIfInBounds_toArray, List.set_cons_zero, List.set_cons_succ, List.getElem_toArray, List.getElem_cons_zero, List.getElem_cons_succ]
  refine wpAnyH_take (i := 9) (v := ?_) rfl (by kernel_rfl) (by kernel_rfl) (by kernel_rfl) (fun _ _ _ h => h) (Or.inl ⟨by rfl, ?h11_16_2_1_9⟩) (by assumption) ?_
  case h11_16_2_1_9 => (intro w hSw; (try dsimp only at hSw); go_simp; try with_reducible rfl)
  try simp only [Act.put, List.setIfInBounds_toArray, List.set_cons_zero, List.set_cons_succ, List.getElem_toArray, List.getElem_cons_zero, List.getElem_cons_succ]
  refine wpAnyH_take (i := 10) (v := ?_) rfl (by kernel_rfl) (by kernel_rfl) (by kernel_rfl) (fun _ _ _ h => h) (Or.inl ⟨by rfl, ?h11_16_2_1_10⟩) (by assumption) ?_
  case h11_16_2_1_10 => (intro w hSw; (try dsimp only at hSw); go_simp; try with_reducible rfl)
  try simp only [Act.put, List.setIfInBounds_toArray, List.set_cons_zero, List.set_cons_succ, List.getElem_toArray, List.getElem_cons_zero, List.getElem_cons_succ]
  refine wpAnyH_ready (rs := [5]) (by kernel_rfl) (by simp) ?_
  refine AllReadyH.cons rfl (fun K hK => ?_) AllReadyH.nil
  go_simp
  (with_reducible refine (swap_any (HD.out.1.1.below (dqr _)) (HD.out.2.2.1.below (dqr _)) HD.out.2.2.2.1 HS.out.1 HS.out.2).mono ?_)
  rintro e w2 ⟨rfl, h2, f2⟩
  have y1 := (f2.blk HBX.out.drew (.inr rfl)).cell 1 (i64 n0) rfl
  have y2 := (f2.blk HBX.out.drew (.inr rfl)).cell 2 (.bool mk) rfl
  have y3 := (f2.blk HBX.out.drew (.inr rfl)).cell 3 (i64 id) rfl
  have y4 := (f2.blk HBX.out.drew (.inr rfl)).cell 4 (.string nm) rfl
  have y5 := (f2.blk HBX.out.drew (.inr rfl)).cell 5 (.slice va na ca) rfl
  have H2 := Lib.hid (And.intro h2 (And.intro f2 (And.intro (Doc.lk (HD.out.1.2.below (dqr _)) f2 (Nat.le_refl _)) (And.intro (f2.blk HBX.out.drew (.inr rfl)) ((HD.out.2.2.1.below (dqr _)).fr f2 (Nat.le_refl _) (fun _ _ => rfl))))))
  clear h2 f2
  go_wp2_with fail
  refine hK.out _ _ (by (try dsimp only); go_keep) (fun hHeld2 => ?_)
  clear hK K hHeld
  have hHeld := hHeld2
  clear hHeld2
  try simp only [Act.put, List.setIfInBounds_toArray, List.set_cons_zero, List.set_cons_succ, List.getElem_toArray, List.getElem_cons_zero, List.getElem_cons_succ]
  refine wpAnyH_ready (rs := [11]) (by kernel_rfl) (by simp) ?_
  refine AllReadyH.cons rfl (fun K hK => ?_) AllReadyH.nil
  go_simp
  (with_reducible refine (ref_any).mono ?_)
  rintro e w3 ⟨rfl, h3⟩
  have z1 := (blk_kept H2.out.2.2.2.1 h3).cell 1 (i64 n0) rfl
  have z2 := (blk_kept H2.out.2.2.2.1 h3).cell 2 (.bool mk) rfl
  have z3 := (blk_kept H2.out.2.2.2.1 h3).cell 3 (i64 id) rfl
  have z4 := (blk_kept H2.out.2.2.2.1 h3).cell 4 (.string nm) rfl
  have z5 := (blk_kept H2.out.2.2.2.1 h3).cell 5 (.slice va na ca) rfl
  have H3 := Lib.hid (And.intro h3 (And.intro (blk_kept H2.out.2.2.2.1 h3) (And.intro (H2.out.2.2.1.below h3) (H2.out.2.2.2.2.below h3))))
  clear h3
  go_wp2_with fail
  refine hK.out _ _ (by (try dsimp only); go_keep) (fun hHeld2 => ?_)
  clear hK K hHeld
  have hHeld := hHeld2
  clear hHeld2
  try simp only [Act.put, List.setIfInBounds_toArray, List.set_cons_zero, List.set_cons_succ, List.getElem_toArray, List.getElem_cons_zero, List.getElem_cons_succ]
  refine wpAnyH_ready (rs := [12]) (by kernel_rfl) (by simp) ?_
  refine AllReadyH.cons rfl (fun K hK => ?_) AllReadyH.nil
  go_simp
  (with_reducible refine (dswap_any H3.out.2.2.1 HD.out.2.1 H3.out.2.2.2 HS.out.1 HS.out.2).mono ?_)
  rintro e w4 ⟨rfl, h4, f4⟩
  have v1 := (f4.blk H3.out.2.1 (.inr rfl)).cell 1 (i64 n0) rfl
  have v2 := (f4.blk H3.out.2.1 (.inr rfl)).cell 2 (.bool mk) rfl
  have v3 := (f4.blk H3.out.2.1 (.inr rfl)).cell 3 (i64 id) rfl
  have v4 := (f4.blk H3.out.2.1 (.inr rfl)).cell 4 (.string nm) rfl
  have v5 := (f4.blk H3.out.2.1 (.inr rfl)).cell 5 (.slice va na ca) rfl
  have H4 := Lib.hid (And.intro h4 f4)
  clear h4 f4
  go_wp2_with fail
  refine hK.out _ _ (by (try dsimp only); go_keep) (fun hHeld2 => ?_)
  clear hK K hHeld
  have hHeld := hHeld2
  clear hHeld2
  try simp only [Act.put, List.setIfInBounds_toArray, List.set_cons_zero, List.set_cons_succ, List.getElem_toArray, List.getElem_cons_zero, List.getElem_cons_succ]
  refine wpAnyH_take (i := 13) (v := ?_) rfl (by kernel_rfl) (by kernel_rfl) (by kernel_rfl) (fun _ _ _ h => h) (Or.inl ⟨by rfl, ?h11_16_2_1_11⟩) (by assumption) ?_
  case h11_16_2_1_11 => (intro w hSw; (try dsimp only at hSw); go_simp; try with_reducible rfl)
  try simp only [Act.put, List.setIfInBounds_toArray, List.set_cons_zero, List.set_cons_succ, List.getElem_toArray, List.getElem_cons_zero, List.getElem_cons_succ]
  refine wpAnyH_take (i := 14) (v := ?_) rfl (by kernel_rfl) (by kernel_rfl) (by kernel_rfl) (fun _ _ _ h => h) (Or.inl ⟨by rfl, ?h11_16_2_1_12⟩) (by assumption) ?_
  case h11_16_2_1_12 => (intro w hSw; (try dsimp only at hSw); go_simp; try with_reducible rfl)
  try simp only [Act.put, List.setIfInBounds_toArray, List.set_cons_zero, List.set_cons_succ, List.getElem_toArray, List.getElem_cons_zero, List.getElem_cons_succ]
  refine wpAnyH_done (by kernel_rfl) ?_ _
  go_wp2
  go_ret
  exact do_done HB1.out H2.out.1 H2.out.2.1 H3.out.1 H4.out.1 H4.out.2
set_option maxHeartbeats 4000000 in
theorem does_ins (h : Duo w B lb rb es) (hl : es.length ≤ 100) (ha : AtrsAt w B (.slice va na ca) l) (hna : l.length = na) (hs : insS es n0 ⟨mk, id, nm, l⟩ = es') : Calls Try.prog 11 #[ptr lb, ptr rb, .agg #[i64 9, i64 n0, .bool mk, i64 id, .string nm, .slice va na ca]] w (DoIt B lb rb es' w) := by
  have hbx := Blk.new w 35 #[i64 9, i64 n0, .bool mk, i64 id, .string nm, .slice va na ca]
  have b0 : Below w.heap.size w (w.alloc (.cells #[i64 9, i64 n0, .bool mk, i64 id, .string nm, .slice va na ca] 35)) := (Below.refl _ w).alloc (Nat.le_refl _) _
  have HBX := Lib.hid hbx
  have HB0 := Lib.hid b0
  have HB1 := Lib.hid b0.drew
  have HD := Lib.hid (And.intro (h.below b0) (And.intro hl (And.intro (ha.below b0) (And.intro hna (show es.length ≤ 1000 by omega)))))
  have x0 := hbx.cell 0 (i64 9) rfl
  have x1 := hbx.cell 1 (i64 n0) rfl
  have x2 := hbx.cell 2 (.bool mk) rfl
  have x3 := hbx.cell 3 (i64 id) rfl
  have x4 := hbx.cell 4 (.string nm) rfl
  have x5 := hbx.cell 5 (.slice va na ca) rfl
  obtain ⟨r, hr⟩ : ∃ r, insR es n0 ⟨mk, id, nm, l⟩ = r := ⟨_, rfl⟩
  have HS := Lib.hid (And.intro hs hr)
  clear hr
  clear h hl ha hna hs hbx b0
  go_enter Try.func11, Try.ntmps11
  go_wp2_with fail
  refine wp_region_held_drew (S := (fun w' => w'.cell? ⟨w.heap.size, 1, none⟩ = some (i64 n0) ∧ w'.cell? ⟨w.heap.size, 2, none⟩ = some (.bool mk) ∧ w'.cell? ⟨w.heap.size, 3, none⟩ = some (i64 id) ∧ w'.cell? ⟨w.heap.size, 4, none⟩ = some (.string nm) ∧ w'.cell? ⟨w.heap.size, 5, none⟩ = some (.slice va na ca))) (by kernel_rfl) (by (try dsimp only); go_keep) (fun hHeld => ?_)
  refine wpAnyH_take (i := 0) (v := ?_) rfl (by kernel_rfl) (by kernel_rfl) (by kernel_rfl) (fun _ _ _ h => h) (Or.inl ⟨by rfl, ?h11_18_2_2_1⟩) (by assumption) ?_
  case h11_18_2_2_1 => (intro w hSw; (try dsimp only at hSw); go_simp; try with_reducible rfl)
  try simp only [Act.put, List.setIfInBounds_toArray, List.set_cons_zero, List.set_cons_succ, List.getElem_toArray, List.getElem_cons_zero, List.getElem_cons_succ]
  refine wpAnyH_take (i := 1) (v := ?_) rfl (by kernel_rfl) (by kernel_rfl) (by kernel_rfl) (fun _ _ _ h => h) (Or.inl ⟨by rfl, ?h11_18_2_2_2⟩) (by assumption) ?_
  case h11_18_2_2_2 => (intro w hSw; (try dsimp only at hSw); go_simp; try with_reducible rfl)
  try simp only [Act.put, List.setIfInBounds_toArray, List.set_cons_zero, List.set_cons_succ, List.getElem_toArray, List.getElem_cons_zero, List.getElem_cons_succ]
  refine wpAnyH_take (i := 2) (v := ?_) rfl (by kernel_rfl) (by kernel_rfl) (by kernel_rfl) (fun _ _ _ h => h) (Or.inl ⟨by rfl, ?h11_18_2_2_3⟩) (by assumption) ?_
  case h11_18_2_2_3 => (intro w hSw; (try dsimp only at hSw); go_simp; try with_reducible rfl)
  try simp only [Act.put, List.setIfInBounds_toArray, List.set_cons_zero, List.set_cons_succ, List.getElem_toArray, List.getElem_cons_zero, List.getElem_cons_succ]
  refine wpAnyH_take (i := 3) (v := ?_) rfl (by kernel_rfl) (by kernel_rfl) (by kernel_rfl) (fun _ _ _ h => h) (Or.inl ⟨by rfl, ?h11_18_2_2_4⟩) (by assumption) ?_
  case h11_18_2_2_4 => (intro w hSw; (try dsimp only at hSw); go_simp; try with_reducible rfl)
  try simp only [Act.put, List.setIfInBounds_toArray, List.set_cons_zero, List.set_cons_succ, List.getElem_toArray, List.getElem_cons_zero, List.getElem_cons_succ]
  refine wpAnyH_take (i := 4) (v := ?_) rfl (by kernel_rfl) (by kernel_rfl) (by kernel_rfl) (fun _ _ _ h => h) (Or.inl ⟨by rfl, ?h11_18_2_2_5⟩) (by assumption) ?_
  case h11_18_2_2_5 => (intro w hSw; (try dsimp only at hSw); go_simp; try with_reducible rfl)
  try simp only [Act.put, List.setIfInBounds_toArray, List.set_cons_zero, List.set_cons_succ, List.getElem_toArray, List.getElem_cons_zero, List.getElem_cons_succ]
  refine wpAnyH_take (i := 6) (v := ?_) rfl (by kernel_rfl) (by kernel_rfl) (by kernel_rfl) (fun _ _ _ h => h) (Or.inl ⟨by rfl, ?h11_18_2_2_6⟩) (by assumption) ?_
  case h11_18_2_2_6 => (intro w hSw; (try dsimp only at hSw); go_simp; try with_reducible rfl)
  try simp only [Act.put, List.setIfInBounds_toArray, List.set_cons_zero, List.set_cons_succ, List.getElem_toArray, List.getElem_cons_zero, List.getElem_cons_succ]
  refine wpAnyH_take (i := 7) (v := ?_) rfl (by kernel_rfl) (by kernel_rfl) (by kernel_rfl) (fun _ _ _ h => h) (Or.inl ⟨by rfl, ?h11_18_2_2_7⟩) (by assumption) ?_
  case h11_18_2_2_7 => (intro w hSw; (try dsimp only at hSw); go_simp; try with_reducible rfl)
  try simp only [Act.put, List.setIfInBounds_toArray, List.set_cons_zero, List.set_cons_succ, List.getElem_toArray, List.getElem_cons_zero, List.getElem_cons_succ]
  refine wpAnyH_take (i := 8) (v := ?_) rfl (by kernel_rfl) (by kernel_rfl) (by kernel_rfl) (fun _ _ _ h => h) (Or.inl ⟨by rfl, ?h11_18_2_2_8⟩) (by assumption) ?_
  case h11_18_2_2_8 => (intro w hSw; (try dsimp only at hSw); go_simp; try with_reducible rfl)
  try simp only [Act.put, List.setIfInBounds_toArray, List.set_cons_zero, List.set_cons_succ, List.getElem_toArray, List.getElem_cons_zero, List.getElem_cons_succ]
  refine wpAnyH_take (i := 9) (v := ?_) rfl (by kernel_rfl) (by kernel_rfl) (by kernel_rfl) (fun _ _ _ h => h) (Or.inl ⟨by rfl, ?h11_18_2_2_9⟩) (by assumption) ?_
  case h11_18_2_2_9 => (intro w hSw; (try dsimp only at hSw); go_simp; try with_reducible rfl)
  try simp only [Act.put, List.setIfInBounds_toArray, List.set_cons_zero, List.set_cons_succ, List.getElem_toArray, List.getElem_cons_zero, List.getElem_cons_succ]
  refine wpAnyH_take (i := 10) (v := ?_) rfl (by kernel_rfl) (by kernel_rfl) (by kernel_rfl) (fun _ _ _ h => h) (Or.inl ⟨by rfl, ?h11_18_2_2_10⟩) (by assumption) ?_
  case h11_18_2_2_10 => (intro w hSw; (try dsimp only at hSw); go_simp; try with_reducible rfl)
  try simp only [Act.put, List.setIfInBounds_toArray, List.set_cons_zero, List.set_cons_succ, List.getElem_toArray, List.getElem_cons_zero, List.getElem_cons_succ]
  refine wpAnyH_ready (rs := [5]) (by kernel_rfl) (by simp) ?_
  refine AllReadyH.cons rfl (fun K hK => ?_) AllReadyH.nil
  go_simp
  (with_reducible refine (inl_n (HD.out.1.1.below (dqr _)) HD.out.2.1 (HD.out.2.2.1.below (dqr _)) HS.out.1 HS.out.2).mono ?_)
  rintro e w2 ⟨rfl, h2, f2⟩
  have y1 := (f2.blk HBX.out.drew (.inr rfl)).cell 1 (i64 n0) rfl
  have y2 := (f2.blk HBX.out.drew (.inr rfl)).cell 2 (.bool mk) rfl
  have y3 := (f2.blk HBX.out.drew (.inr rfl)).cell 3 (i64 id) rfl
  have y4 := (f2.blk HBX.out.drew (.inr rfl)).cell 4 (.string nm) rfl
  have y5 := (f2.blk HBX.out.drew (.inr rfl)).cell 5 (.slice va na ca) rfl
  have H2 := Lib.hid (And.intro h2 (And.intro f2 (And.intro (Doc.lk (HD.out.1.2.below (dqr _)) f2 (Nat.le_refl _)) (And.intro (f2.blk HBX.out.drew (.inr rfl)) ((HD.out.2.2.1.below (dqr _)).fr f2 (Nat.le_refl _) (fun _ _ => rfl))))))
  clear h2 f2
  go_wp2_with fail
  refine hK.out _ _ (by (try dsimp only); go_keep) (fun hHeld2 => ?_)
  clear hK K hHeld
  have hHeld := hHeld2
  clear hHeld2
  try simp only [Act.put, List.setIfInBounds_toArray, List.set_cons_zero, List.set_cons_succ, List.getElem_toArray, List.getElem_cons_zero, List.getElem_cons_succ]
  refine wpAnyH_ready (rs := [11]) (by kernel_rfl) (by simp) ?_
  refine AllReadyH.cons rfl (fun K hK => ?_) AllReadyH.nil
  go_simp
  (with_reducible refine (ref_any).mono ?_)
  rintro e w3 ⟨rfl, h3⟩
  have z1 := (blk_kept H2.out.2.2.2.1 h3).cell 1 (i64 n0) rfl
  have z2 := (blk_kept H2.out.2.2.2.1 h3).cell 2 (.bool mk) rfl
  have z3 := (blk_kept H2.out.2.2.2.1 h3).cell 3 (i64 id) rfl
  have z4 := (blk_kept H2.out.2.2.2.1 h3).cell 4 (.string nm) rfl
  have z5 := (blk_kept H2.out.2.2.2.1 h3).cell 5 (.slice va na ca) rfl
  have H3 := Lib.hid (And.intro h3 (And.intro (blk_kept H2.out.2.2.2.1 h3) (And.intro (H2.out.2.2.1.below h3) (H2.out.2.2.2.2.below h3))))
  clear h3
  go_wp2_with fail
  refine hK.out _ _ (by (try dsimp only); go_keep) (fun hHeld2 => ?_)
  clear hK K hHeld
  have hHeld := hHeld2
  clear hHeld2
  try simp only [Act.put, List.setIfInBounds_toArray, List.set_cons_zero, List.set_cons_succ, List.getElem_toArray, List.getElem_cons_zero, List.getElem_cons_succ]
  refine wpAnyH_ready (rs := [12]) (by kernel_rfl) (by simp) ?_
  refine AllReadyH.cons rfl (fun K hK => ?_) AllReadyH.nil
  go_simp
  (with_reducible refine (dins_any H3.out.2.2.1 HD.out.2.1 H3.out.2.2.2 HS.out.1 HS.out.2).mono ?_)
  rintro e w4 ⟨rfl, h4, f4⟩
  have v1 := (f4.blk H3.out.2.1 (.inr rfl)).cell 1 (i64 n0) rfl
  have v2 := (f4.blk H3.out.2.1 (.inr rfl)).cell 2 (.bool mk) rfl
  have v3 := (f4.blk H3.out.2.1 (.inr rfl)).cell 3 (i64 id) rfl
  have v4 := (f4.blk H3.out.2.1 (.inr rfl)).cell 4 (.string nm) rfl
  have v5 := (f4.blk H3.out.2.1 (.inr rfl)).cell 5 (.slice va na ca) rfl
  have H4 := Lib.hid (And.intro h4 f4)
  clear h4 f4
  go_wp2_with fail
  refine hK.out _ _ (by (try dsimp only); go_keep) (fun hHeld2 => ?_)
  clear hK K hHeld
  have hHeld := hHeld2
  clear hHeld2
  try simp only [Act.put, List.setIfInBounds_toArray, List.set_cons_zero, List.set_cons_succ, List.getElem_toArray, List.getElem_cons_zero, List.getElem_cons_succ]
  refine wpAnyH_take (i := 13) (v := ?_) rfl (by kernel_rfl) (by kernel_rfl) (by kernel_rfl) (fun _ _ _ h => h) (Or.inl ⟨by rfl, ?h11_18_2_2_11⟩) (by assumption) ?_
  case h11_18_2_2_11 => (intro w hSw; (try dsimp only at hSw); go_simp; try with_reducible rfl)
  try simp only [Act.put, List.setIfInBounds_toArray, List.set_cons_zero, List.set_cons_succ, List.getElem_toArray, List.getElem_cons_zero, List.getElem_cons_succ]
  refine wpAnyH_take (i := 14) (v := ?_) rfl (by kernel_rfl) (by kernel_rfl) (by kernel_rfl) (fun _ _ _ h => h) (Or.inl ⟨by rfl, ?h11_18_2_2_12⟩) (by assumption) ?_
  case h11_18_2_2_12 => (intro w hSw; (try dsimp only at hSw); go_simp; try with_reducible rfl)
  try simp only [Act.put, List.setIfInBounds_toArray, List.set_cons_zero, List.set_cons_succ, List.getElem_toArray, List.getElem_cons_zero, List.getElem_cons_succ]
  refine wpAnyH_done (by kernel_rfl) ?_ _
  go_wp2
  go_ret
  exact do_done HB1.out H2.out.1 H2.out.2.1 H3.out.1 H4.out.1 H4.out.2
theorem does_look {what : Int} (h : Duo w B lb rb es) (hw : ∀ k : Nat, k < 10 → what ≠ k) (hs : es = es') : Calls Try.prog 11 #[ptr lb, ptr rb, .agg #[i64 what, i64 n0, .bool mk, i64 id, .string nm, .slice va na ca]] w (DoIt B lb rb es' w) := by
  subst hs
  have b0 : Below w.heap.size w (w.alloc (.cells #[i64 what, i64 n0, .bool mk, i64 id, .string nm, .slice va na ca] 35)) := (Below.refl _ w).alloc (Nat.le_refl _) _
  have HB0 := Lib.hid (And.intro b0 h)
  have q0 : (what == 0) = false := by simpa using hw 0 (by decide)
  have q1 : (what == 1) = false := by simpa using hw 1 (by decide)
  have q2 : (what == 2) = false := by simpa using hw 2 (by decide)
  have q3 : (what == 3) = false := by simpa using hw 3 (by decide)
  have q4 : (what == 4) = false := by simpa using hw 4 (by decide)
  have q5 : (what == 5) = false := by simpa using hw 5 (by decide)
  have q6 : (what == 6) = false := by simpa using hw 6 (by decide)
  have q7 : (what == 7) = false := by simpa using hw 7 (by decide)
  have q8 : (what == 8) = false := by simpa using hw 8 (by decide)
  have q9 : (what == 9) = false := by simpa using hw 9 (by decide)
  clear h hw b0
  go_enter Try.func11, Try.ntmps11
  go_wp2
  go_ret
  exact ⟨rfl, HB0.out.2.below HB0.out.1, Fr.of_below HB0.out.1 _ _⟩
end

def stepE (x : Stp) (es : List Ent) : List Ent :=
  if x.what = 0 ∨ x.what = 1 ∨ x.what = 2 ∨ x.what = 3 ∨ x.what = 4 then addS es x.e
  else if x.what = 5 then markS es
  else if x.what = 6 then clearS es
  else if x.what = 7 then remS x.n es
  else if x.what = 8 then swapS x.n x.e es
  else if x.what = 9 then insS es x.n x.e
  else es
theorem stepE_length {x : Stp} {es : List Ent} (h : es.length ≤ 100) : (stepE x es).length ≤ 100 := by
  unfold stepE
  split
  · exact addS_length _ h
  split
  · exact markS_length h
  split
  · unfold clearS; rw [List.length_take]; omega
  split
  · unfold remS
    split
    · exact h
    · rw [List.length_append, List.length_take, List.length_drop]; omega
  split
  · unfold swapS
    have hb := findE_bound x.n es
    split
    · exact h
    split
    · exact h
    · rw [List.length_append, List.length_take, List.length_cons, List.length_drop]; omega
  split
  · exact insS_length _ _ h
  · exact h
theorem does_any {w : World} {B lb rb na ca : Nat} {va : Option Addr} {es es' : List Ent} {what n0 id : Int} {mk : Bool} {nm : ByteArray} {l : List Atr} (h : Duo w B lb rb es) (hl : es.length ≤ 100) (ha : AtrsAt w B (.slice va na ca) l) (hna : l.length = na) (hs : stepE ⟨what, n0, ⟨mk, id, nm, l⟩⟩ es = es') :
    Calls Try.prog 11 #[ptr lb, ptr rb, .agg #[i64 what, i64 n0, .bool mk, i64 id, .string nm, .slice va na ca]] w (DoIt B lb rb es' w) := by
  unfold stepE at hs
  simp only at hs
  by_cases h0 : what = 0
  · subst h0; exact does_add0 h hl ha hna (by simpa using hs)
  by_cases h1 : what = 1
  · subst h1; exact does_add1 h hl ha hna (by simpa using hs)
  by_cases h2 : what = 2
  · subst h2; exact does_add2 h hl ha hna (by simpa using hs)
  by_cases h3 : what = 3
  · subst h3; exact does_add3 h hl ha hna (by simpa using hs)
  by_cases h4 : what = 4
  · subst h4; exact does_add4 h hl ha hna (by simpa using hs)
  rw [if_neg (by omega)] at hs
  by_cases h5 : what = 5
  · subst h5; exact does_mark h hl ha hna (by simpa using hs)
  by_cases h6 : what = 6
  · subst h6; exact does_clear h hl ha hna (by simpa using hs)
  by_cases h7 : what = 7
  · subst h7; exact does_rem h hl ha hna (by simpa using hs)
  by_cases h8 : what = 8
  · subst h8; exact does_swap h hl ha hna (by simpa using hs)
  by_cases h9 : what = 9
  · subst h9; exact does_ins h hl ha hna (by simpa using hs)
  rw [if_neg h5, if_neg h6, if_neg h7, if_neg h8, if_neg h9] at hs
  exact does_look h (fun k hk => by omega) hs
end Go.Proofs.Ytjopfgdgmniigaa
