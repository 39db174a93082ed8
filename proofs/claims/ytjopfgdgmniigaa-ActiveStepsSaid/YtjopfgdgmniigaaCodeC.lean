/-
  (*List).Clear, Remove, Swap, walked.
  Written by an AI agent.
-/
import Derived.Test.YtjopfgdgmniigaaRefT
import Derived.Deep.RegionHeld3
import Derived.Deep.DrawnRows
namespace Go.Proofs.Ytjopfgdgmniigaa
open Go.RowKit Go.Maps
attribute [local go_sem ↓] Go.wp_at_zero Go.wp_at_succ

/-- The program's list, opened at its names. -/
theorem ListIs.opened {w : World} {B rb n : Nat} {es : List Ent} (h : ListIs w B rb 63 33 es) (hn : es.length = n) :
    ∃ ad c ps, ListAt w B rb 63 33 (.slice ad n c) ps ∧ ps.map (·.1) = es ∧ w.cell? ⟨rb, 0, none⟩ = some (.slice ad n c) ∧ rb < w.heap.size ∧ n ≤ c ∧ c ≤ 9223372036854775807 ∧ n ≤ 1000000 ∧
      (es ≠ [] → ∃ g, ad = some ⟨g, 0, none⟩ ∧ B ≤ g ∧ g < w.heap.size ∧ ∀ (k : Nat) (e : Ent), es[k]? = some e → ∃ va na ca, ps[k]? = some (e, .slice va na ca) ∧ e.attrs.length = na ∧ AtrsAt w B (.slice va na ca) e.attrs ∧
        w.cell? ⟨g, k * 4, none⟩ = some (.bool e.mark) ∧ w.cell? ⟨g, k * 4 + 1, none⟩ = some (i64 e.id) ∧ w.cell? ⟨g, k * 4 + 2, none⟩ = some (.string e.name) ∧ w.cell? ⟨g, k * 4 + 3, none⟩ = some (.slice va na ca)) := by
  obtain ⟨v, ps, h, he⟩ := h
  obtain ⟨ad, cap, rfl, hnc, hcm, hr⟩ := h.2.2.form
  have hpn : ps.length = n := by rw [← hn, ← he, List.length_map]
  have c0 := h.1.cell 0 (.slice ad ps.length cap) rfl
  have h2 := h.2.2.2.1
  rw [hpn] at hnc c0 h h2
  refine ⟨ad, cap, ps, h, he, c0, h.1.lt, hnc, hcm, h2, fun hne => ?_⟩
  obtain ⟨g, had, hB, hg, hc⟩ := hr (fun e => hne (by rw [← he, e]; rfl))
  refine ⟨g, had, hB, hg, fun k e hk => ?_⟩
  rw [← he, List.getElem?_map] at hk
  cases hq : ps[k]? with
  | none => rw [hq] at hk; cases hk
  | some q =>
    rw [hq] at hk
    simp only [Option.map_some, Option.some.injEq] at hk
    subst hk
    have hat := h.2.2.2.2 q (List.mem_of_getElem? hq)
    obtain ⟨a, c, hv⟩ := hat.form
    obtain ⟨c0, c1, c2, c3⟩ := hc k q hq
    obtain ⟨q1, q2⟩ := q
    simp only at hv hat c0 c1 c2 c3
    subst hv
    exact ⟨a, _, c, rfl, rfl, hat, c0, c1, c2, c3⟩


theorem dqr (w : World) : Below w.heap.size w w.drew := (Below.refl _ w).drew
theorem sz33 (w : World) : (sizeOf (Try.prog.elem 38)).run Try.prog w = .ok 4 w := by
  obtain ⟨i, hi, _, hz, _⟩ := info_parts info33
  show (sizeOf 33).run Try.prog w = .ok 4 w
  simp [sizeOf, typeInfo, hi, hz]
theorem last_n {w : World} {B lb P : Nat} {es : List Ent} (h : ListIs w B lb 63 33 es) (hP : partE es = P) : Calls Try.prog 38 #[ptr lb] w fun e w' => e = .returned (i64 P) ∧ w = w' := by
  subst hP
  exact (last_any h).mono fun _ _ ⟨h1, h2⟩ => ⟨h1, h2.symm⟩
/-- A row cut short, in its field. -/
theorem clear_done {w : World} {B rb n c k : Nat} {ad : Option Addr} {ps : List (Ent × Value)} {es : List Ent} (hL : ListAt w B rb 63 33 (.slice ad n c) ps) (hps : ps.map (·.1) = es) (hn : ps.length = n) (hk : k ≤ n) :
    ListIs (w.setCell ⟨rb, 0, none⟩ (.slice ad k c)) B rb 63 33 (es.take k) ∧ Fr B LK w (w.setCell ⟨rb, 0, none⟩ (.slice ad k c)) := by
  have fr : Fr B LK w (w.setCell ⟨rb, 0, none⟩ (.slice ad k c)) := (Fr.refl B LK w).setCell hL.1 rfl hL.2.1 0 _
  have hlen : (ps.take k).length = k := by rw [List.length_take]; omega
  have hrow : w.ownsRow B 33 4 (.slice ad k c) k (flatP (ps.take k)) := by
    have h1 := hL.2.2.1
    rw [hn] at h1
    rcases h1.2 with ⟨hv, h0⟩ | ⟨g, cap, cur, hv, _⟩
    · simp only [Value.slice.injEq] at hv
      obtain ⟨rfl, _, rfl⟩ := hv
      obtain rfl : k = 0 := by omega
      simp only [List.take_zero]
      exact World.ownsRow_nil _ _ _ _
    · simp only [Value.slice.injEq, true_and] at hv
      obtain ⟨rfl, rfl⟩ := hv
      rw [← flatP_take]
      exact own_cut h1 hk
  refine ⟨⟨_, ps.take k, ⟨hL.1.put 0 _, hL.2.1, ?_, ?_, fun p hp => (hL.2.2.2.2 p (List.mem_of_mem_take hp)).fr fr (Nat.le_refl _) (fun _ _ => rfl)⟩, by rw [List.map_take, hps]⟩, fr⟩
  · rw [hlen]; exact own_setCell hrow hL.1 (by decide) 0 _
  · rw [hlen]; have := hL.2.2.2.1; omega

set_option maxHeartbeats 2000000 in
theorem clear_any {w : World} {B rb : Nat} {es q : List Ent} (h : ListIs w B rb 63 33 es) (hq : clearS es = q) :
    Calls Try.prog 21 #[ptr rb] w fun e w' => e = .returned (.tuple #[]) ∧ ListIs w' B rb 63 33 q ∧ Fr B LK w w' := by
  obtain ⟨n, hn⟩ : ∃ n, es.length = n := ⟨_, rfl⟩
  obtain ⟨ad, c, ps, hL, hps, c0, hrl, hnc, hcm, hl6, hrr⟩ := h.opened hn
  clear hrr
  obtain ⟨P, hP⟩ : ∃ P, partE es = P := ⟨_, rfl⟩
  have hPn : P ≤ n := by rw [← hP, ← hn]; exact partE_le es
  have hpn : ps.length = n := by rw [← hn, ← hps, List.length_map]
  have hrow := hL.2.2.1
  rw [hpn] at hrow
  unfold clearS at hq
  rw [hP] at hq
  have f0 := hL.1.fro 0
  obtain ⟨k, hk⟩ : ∃ k, P - 1 = k := ⟨_, rfl⟩
  rw [hk] at hq
  have hkn : k ≤ n := by omega
  obtain ⟨⟨hsl, hsr⟩, hcut⟩ := own_cut2 (P := Try.prog) (t := 38) (l := (k : Int)) (k := k) Try.underlying38 sz33 hrow rfl hkn
  clear hcut hsr
  have hwk : P ≠ 0 → IntKind.i64.wrap ((P : Int) - 1) = (k : Int) := fun h0 => by rw [IntWalk.i64_in _ (by omega)]; omega
  have HH := Lib.hid (And.intro h (And.intro hP (And.intro hL (And.intro hps (And.intro hpn (And.intro hq hkn))))))
  have fin : ListIs (w.setCell ⟨rb, 0, none⟩ (.slice ad k c)) B rb 63 33 q ∧ Fr B LK w (w.setCell ⟨rb, 0, none⟩ (.slice ad k c)) := by
    have := clear_done hL hps hpn hkn
    rw [hq] at this
    exact this
  have HF := Lib.hid fin
  clear h hP hL hps hpn hq hn hrow fin
  have hc0 : (0 : Int) ≤ (k : Int) := by omega
  have hc1 : (k : Int) ≤ (c : Int) := by omega
  rcases (show P = 0 ∨ P = 1 ∨ 2 ≤ P by omega) with hP0 | hP1 | hP2
  · subst hP0
    obtain rfl : k = 0 := by omega
    clear hwk hk
    have hsl' : ∀ w', (Instr.slice 38 (.slice ad n c) none (some (.int .i64 0)) none).run Try.prog w' = .ok (.slice ad 0 c) w' := hsl
    have hw1 : IntKind.i64.wrap (-1) = -1 := by decide
    clear hsl
    go_enter Try.func21, Try.ntmps21
    go_wp2_with fail
    refine wp_region_held_drew (S := (fun _ => True)) (by kernel_rfl) (by (try dsimp only); try trivial) (fun hHeld => ?_)
    refine wpAnyH_take (i := 0) (v := ?_) rfl (by kernel_rfl) (by kernel_rfl) (by kernel_rfl) (fun _ _ _ h => h) (Or.inl ⟨by rfl, ?h21_1_4_1_1⟩) (by assumption) ?_
    case h21_1_4_1_1 => (intro w hSw; (try dsimp only at hSw); go_simp; try with_reducible rfl)
    try simp only [Act.put, List.setIfInBounds_toArray, List.set_cons_zero, List.set_cons_succ, List.getElem_toArray, List.getElem_cons_zero, List.getElem_cons_succ]
    refine wpAnyH_take (i := 1) (v := ?_) rfl (by kernel_rfl) (by kernel_rfl) (by kernel_rfl) (fun _ _ _ h => h) (Or.inl ⟨by rfl, ?h21_1_4_1_2⟩) (by assumption) ?_
    case h21_1_4_1_2 => (intro w hSw; (try dsimp only at hSw); go_simp; try with_reducible rfl)
    try simp only [Act.put, List.setIfInBounds_toArray, List.set_cons_zero, List.set_cons_succ, List.getElem_toArray, List.getElem_cons_zero, List.getElem_cons_succ]
    refine wpAnyH_take (i := 2) (v := ?_) rfl (by kernel_rfl) (by kernel_rfl) (by kernel_rfl) (fun _ _ _ h => h) (Or.inl ⟨by rfl, ?h21_1_4_1_3⟩) (by assumption) ?_
    case h21_1_4_1_3 => (intro w hSw; (try dsimp only at hSw); go_simp; try with_reducible rfl)
    try simp only [Act.put, List.setIfInBounds_toArray, List.set_cons_zero, List.set_cons_succ, List.getElem_toArray, List.getElem_cons_zero, List.getElem_cons_succ]
    refine wpAnyH_take (i := 3) (v := ?_) rfl (by kernel_rfl) (by kernel_rfl) (by kernel_rfl) (fun _ _ _ h => h) (Or.inl ⟨by rfl, ?h21_1_4_1_4⟩) (by assumption) ?_
    case h21_1_4_1_4 => (intro w hSw; (try dsimp only at hSw); go_simp; try with_reducible rfl)
    try simp only [Act.put, List.setIfInBounds_toArray, List.set_cons_zero, List.set_cons_succ, List.getElem_toArray, List.getElem_cons_zero, List.getElem_cons_succ]
    refine wpAnyH_take (i := 5) (v := ?_) rfl (by kernel_rfl) (by kernel_rfl) (by kernel_rfl) (fun _ _ _ h => h) (Or.inl ⟨by rfl, ?h21_1_4_1_5⟩) (by assumption) ?_
    case h21_1_4_1_5 => (intro w hSw; (try dsimp only at hSw); go_simp; try with_reducible rfl)
    try simp only [Act.put, List.setIfInBounds_toArray, List.set_cons_zero, List.set_cons_succ, List.getElem_toArray, List.getElem_cons_zero, List.getElem_cons_succ]
    refine wpAnyH_ready (rs := [4, 6]) (by kernel_rfl) (by simp) ?_
    refine (AllReadyH.cons rfl (fun K hK => ?_) (AllReadyH.cons rfl (fun K hK => ?_) AllReadyH.nil))
    · skip
      go_simp
      refine hK.out _ _ (by (try dsimp only); try trivial) (fun hHeld2 => ?_)
      clear hK K hHeld
      have hHeld := hHeld2
      clear hHeld2
      try simp only [Act.put, List.setIfInBounds_toArray, List.set_cons_zero, List.set_cons_succ, List.getElem_toArray, List.getElem_cons_zero, List.getElem_cons_succ]
      refine wpAnyH_ready (rs := [6]) (by kernel_rfl) (by simp) ?_
      refine AllReadyH.cons rfl (fun K hK => ?_) AllReadyH.nil
      go_simp
      (with_reducible refine (last_n (HH.out.1.below ((Below.refl _ w).drew)) HH.out.2.1).mono ?_)
      rintro e w' ⟨rfl, rfl⟩
      go_wp2_with fail
      refine hK.out _ _ (by (try dsimp only); try trivial) (fun hHeld2 => ?_)
      clear hK K hHeld
      have hHeld := hHeld2
      clear hHeld2
      try simp only [Act.put, List.setIfInBounds_toArray, List.set_cons_zero, List.set_cons_succ, List.getElem_toArray, List.getElem_cons_zero, List.getElem_cons_succ]
      refine wpAnyH_take (i := 7) (v := ?_) rfl (by kernel_rfl) (by kernel_rfl) (by kernel_rfl) (fun _ _ _ h => h) (Or.inl ⟨by rfl, ?h21_1_4_1_6⟩) (by assumption) ?_
      case h21_1_4_1_6 => (intro w hSw; (try dsimp only at hSw); go_simp; try with_reducible rfl)
      try simp only [Act.put, List.setIfInBounds_toArray, List.set_cons_zero, List.set_cons_succ, List.getElem_toArray, List.getElem_cons_zero, List.getElem_cons_succ]
      refine wpAnyH_take (i := 8) (v := ?_) rfl (by kernel_rfl) (by kernel_rfl) (by kernel_rfl) (fun _ _ _ h => h) (Or.inl ⟨by rfl, ?h21_1_4_1_7⟩) (by assumption) ?_
      case h21_1_4_1_7 => (intro w hSw; (try dsimp only at hSw); go_simp; try with_reducible rfl)
      try simp only [Act.put, List.setIfInBounds_toArray, List.set_cons_zero, List.set_cons_succ, List.getElem_toArray, List.getElem_cons_zero, List.getElem_cons_succ]
      refine wpAnyH_take (i := 9) (v := ?_) rfl (by kernel_rfl) (by kernel_rfl) (by kernel_rfl) (fun _ _ _ h => h) (Or.inl ⟨by rfl, ?h21_1_4_1_8⟩) (by assumption) ?_
      case h21_1_4_1_8 => (intro w hSw; (try dsimp only at hSw); go_simp; try with_reducible rfl)
      try simp only [Act.put, List.setIfInBounds_toArray, List.set_cons_zero, List.set_cons_succ, List.getElem_toArray, List.getElem_cons_zero, List.getElem_cons_succ]
      refine wpAnyH_take (i := 10) (v := ?_) rfl (by kernel_rfl) (by kernel_rfl) (by kernel_rfl) (fun _ _ _ h => h) (Or.inl ⟨by rfl, ?h21_1_4_1_9⟩) (by assumption) ?_
      case h21_1_4_1_9 => (intro w hSw; (try dsimp only at hSw); go_simp; try with_reducible rfl)
      try simp only [Act.put, List.setIfInBounds_toArray, List.set_cons_zero, List.set_cons_succ, List.getElem_toArray, List.getElem_cons_zero, List.getElem_cons_succ]
      refine wpAnyH_take (i := 11) (v := ?_) rfl (by kernel_rfl) (by kernel_rfl) (by kernel_rfl) (fun _ _ _ h => h) (Or.inl ⟨by rfl, ?h21_1_4_1_10⟩) (by assumption) ?_
      case h21_1_4_1_10 => (intro w hSw; (try dsimp only at hSw); go_simp; try with_reducible rfl)
      try simp only [Act.put, List.setIfInBounds_toArray, List.set_cons_zero, List.set_cons_succ, List.getElem_toArray, List.getElem_cons_zero, List.getElem_cons_succ]
      refine wpAnyH_ready (rs := [12]) (by kernel_rfl) (by simp) ?_
      refine AllReadyH.cons rfl (fun K hK => ?_) AllReadyH.nil
      go_simp
      refine hK.out _ _ (by (try dsimp only); try trivial) (fun hHeld2 => ?_)
      clear hK K hHeld
      have hHeld := hHeld2
      clear hHeld2
      try simp only [Act.put, List.setIfInBounds_toArray, List.set_cons_zero, List.set_cons_succ, List.getElem_toArray, List.getElem_cons_zero, List.getElem_cons_succ]
      refine wpAnyH_done (by kernel_rfl) ?_ _
      go_wp2
      go_end0
      first | exact ⟨rfl, HF.out.1, HF.out.2⟩ | exact ⟨rfl, HF.out.1.drew, HF.out.2.drew⟩
    · skip
      go_simp
      (with_reducible refine (last_n (HH.out.1.below ((Below.refl _ w).drew)) HH.out.2.1).mono ?_)
      rintro e w' ⟨rfl, rfl⟩
      go_wp2_with fail
      refine hK.out _ _ (by (try dsimp only); try trivial) (fun hHeld2 => ?_)
      clear hK K hHeld
      have hHeld := hHeld2
      clear hHeld2
      try simp only [Act.put, List.setIfInBounds_toArray, List.set_cons_zero, List.set_cons_succ, List.getElem_toArray, List.getElem_cons_zero, List.getElem_cons_succ]
      refine wpAnyH_take (i := 7) (v := ?_) rfl (by kernel_rfl) (by kernel_rfl) (by kernel_rfl) (fun _ _ _ h => h) (Or.inl ⟨by rfl, ?h21_1_4_1_11⟩) (by assumption) ?_
      case h21_1_4_1_11 => (intro w hSw; (try dsimp only at hSw); go_simp; try with_reducible rfl)
      try simp only [Act.put, List.setIfInBounds_toArray, List.set_cons_zero, List.set_cons_succ, List.getElem_toArray, List.getElem_cons_zero, List.getElem_cons_succ]
      refine wpAnyH_take (i := 8) (v := ?_) rfl (by kernel_rfl) (by kernel_rfl) (by kernel_rfl) (fun _ _ _ h => h) (Or.inl ⟨by rfl, ?h21_1_4_1_12⟩) (by assumption) ?_
      case h21_1_4_1_12 => (intro w hSw; (try dsimp only at hSw); go_simp; try with_reducible rfl)
      try simp only [Act.put, List.setIfInBounds_toArray, List.set_cons_zero, List.set_cons_succ, List.getElem_toArray, List.getElem_cons_zero, List.getElem_cons_succ]
      refine wpAnyH_ready (rs := [4]) (by kernel_rfl) (by simp) ?_
      refine AllReadyH.cons rfl (fun K hK => ?_) AllReadyH.nil
      go_simp
      refine hK.out _ _ (by (try dsimp only); try trivial) (fun hHeld2 => ?_)
      clear hK K hHeld
      have hHeld := hHeld2
      clear hHeld2
      try simp only [Act.put, List.setIfInBounds_toArray, List.set_cons_zero, List.set_cons_succ, List.getElem_toArray, List.getElem_cons_zero, List.getElem_cons_succ]
      refine wpAnyH_take (i := 9) (v := ?_) rfl (by kernel_rfl) (by kernel_rfl) (by kernel_rfl) (fun _ _ _ h => h) (Or.inl ⟨by rfl, ?h21_1_4_1_13⟩) (by assumption) ?_
      case h21_1_4_1_13 => (intro w hSw; (try dsimp only at hSw); go_simp; try with_reducible rfl)
      try simp only [Act.put, List.setIfInBounds_toArray, List.set_cons_zero, List.set_cons_succ, List.getElem_toArray, List.getElem_cons_zero, List.getElem_cons_succ]
      refine wpAnyH_take (i := 10) (v := ?_) rfl (by kernel_rfl) (by kernel_rfl) (by kernel_rfl) (fun _ _ _ h => h) (Or.inl ⟨by rfl, ?h21_1_4_1_14⟩) (by assumption) ?_
      case h21_1_4_1_14 => (intro w hSw; (try dsimp only at hSw); go_simp; try with_reducible rfl)
      try simp only [Act.put, List.setIfInBounds_toArray, List.set_cons_zero, List.set_cons_succ, List.getElem_toArray, List.getElem_cons_zero, List.getElem_cons_succ]
      refine wpAnyH_take (i := 11) (v := ?_) rfl (by kernel_rfl) (by kernel_rfl) (by kernel_rfl) (fun _ _ _ h => h) (Or.inl ⟨by rfl, ?h21_1_4_1_15⟩) (by assumption) ?_
      case h21_1_4_1_15 => (intro w hSw; (try dsimp only at hSw); go_simp; try with_reducible rfl)
      try simp only [Act.put, List.setIfInBounds_toArray, List.set_cons_zero, List.set_cons_succ, List.getElem_toArray, List.getElem_cons_zero, List.getElem_cons_succ]
      refine wpAnyH_ready (rs := [12]) (by kernel_rfl) (by simp) ?_
      refine AllReadyH.cons rfl (fun K hK => ?_) AllReadyH.nil
      go_simp
      refine hK.out _ _ (by (try dsimp only); try trivial) (fun hHeld2 => ?_)
      clear hK K hHeld
      have hHeld := hHeld2
      clear hHeld2
      try simp only [Act.put, List.setIfInBounds_toArray, List.set_cons_zero, List.set_cons_succ, List.getElem_toArray, List.getElem_cons_zero, List.getElem_cons_succ]
      refine wpAnyH_done (by kernel_rfl) ?_ _
      go_wp2
      go_end0
      first | exact ⟨rfl, HF.out.1, HF.out.2⟩ | exact ⟨rfl, HF.out.1.drew, HF.out.2.drew⟩
  · subst hP1
    obtain rfl : k = 0 := by omega
    clear hwk hk
    have hsl' : ∀ w', (Instr.slice 38 (.slice ad n c) none (some (.int .i64 0)) none).run Try.prog w' = .ok (.slice ad 0 c) w' := hsl
    have hw1 : IntKind.i64.wrap 0 = 0 := by decide
    clear hsl
    go_enter Try.func21, Try.ntmps21
    go_wp2_with fail
    refine wp_region_held_drew (S := (fun _ => True)) (by kernel_rfl) (by (try dsimp only); try trivial) (fun hHeld => ?_)
    refine wpAnyH_take (i := 0) (v := ?_) rfl (by kernel_rfl) (by kernel_rfl) (by kernel_rfl) (fun _ _ _ h => h) (Or.inl ⟨by rfl, ?h21_1_4_1_1⟩) (by assumption) ?_
    case h21_1_4_1_1 => (intro w hSw; (try dsimp only at hSw); go_simp; try with_reducible rfl)
    try simp only [Act.put, List.setIfInBounds_toArray, List.set_cons_zero, List.set_cons_succ, List.getElem_toArray, List.getElem_cons_zero, List.getElem_cons_succ]
    refine wpAnyH_take (i := 1) (v := ?_) rfl (by kernel_rfl) (by kernel_rfl) (by kernel_rfl) (fun _ _ _ h => h) (Or.inl ⟨by rfl, ?h21_1_4_1_2⟩) (by assumption) ?_
    case h21_1_4_1_2 => (intro w hSw; (try dsimp only at hSw); go_simp; try with_reducible rfl)
    try simp only [Act.put, List.setIfInBounds_toArray, List.set_cons_zero, List.set_cons_succ, List.getElem_toArray, List.getElem_cons_zero, List.getElem_cons_succ]
    refine wpAnyH_take (i := 2) (v := ?_) rfl (by kernel_rfl) (by kernel_rfl) (by kernel_rfl) (fun _ _ _ h => h) (Or.inl ⟨by rfl, ?h21_1_4_1_3⟩) (by assumption) ?_
    case h21_1_4_1_3 => (intro w hSw; (try dsimp only at hSw); go_simp; try with_reducible rfl)
    try simp only [Act.put, List.setIfInBounds_toArray, List.set_cons_zero, List.set_cons_succ, List.getElem_toArray, List.getElem_cons_zero, List.getElem_cons_succ]
    refine wpAnyH_take (i := 3) (v := ?_) rfl (by kernel_rfl) (by kernel_rfl) (by kernel_rfl) (fun _ _ _ h => h) (Or.inl ⟨by rfl, ?h21_1_4_1_4⟩) (by assumption) ?_
    case h21_1_4_1_4 => (intro w hSw; (try dsimp only at hSw); go_simp; try with_reducible rfl)
    try simp only [Act.put, List.setIfInBounds_toArray, List.set_cons_zero, List.set_cons_succ, List.getElem_toArray, List.getElem_cons_zero, List.getElem_cons_succ]
    refine wpAnyH_take (i := 5) (v := ?_) rfl (by kernel_rfl) (by kernel_rfl) (by kernel_rfl) (fun _ _ _ h => h) (Or.inl ⟨by rfl, ?h21_1_4_1_5⟩) (by assumption) ?_
    case h21_1_4_1_5 => (intro w hSw; (try dsimp only at hSw); go_simp; try with_reducible rfl)
    try simp only [Act.put, List.setIfInBounds_toArray, List.set_cons_zero, List.set_cons_succ, List.getElem_toArray, List.getElem_cons_zero, List.getElem_cons_succ]
    refine wpAnyH_ready (rs := [4, 6]) (by kernel_rfl) (by simp) ?_
    refine (AllReadyH.cons rfl (fun K hK => ?_) (AllReadyH.cons rfl (fun K hK => ?_) AllReadyH.nil))
    · skip
      go_simp
      refine hK.out _ _ (by (try dsimp only); try trivial) (fun hHeld2 => ?_)
      clear hK K hHeld
      have hHeld := hHeld2
      clear hHeld2
      try simp only [Act.put, List.setIfInBounds_toArray, List.set_cons_zero, List.set_cons_succ, List.getElem_toArray, List.getElem_cons_zero, List.getElem_cons_succ]
      refine wpAnyH_ready (rs := [6]) (by kernel_rfl) (by simp) ?_
      refine AllReadyH.cons rfl (fun K hK => ?_) AllReadyH.nil
      go_simp
      (with_reducible refine (last_n (HH.out.1.below ((Below.refl _ w).drew)) HH.out.2.1).mono ?_)
      rintro e w' ⟨rfl, rfl⟩
      go_wp2_with fail
      refine hK.out _ _ (by (try dsimp only); try trivial) (fun hHeld2 => ?_)
      clear hK K hHeld
      have hHeld := hHeld2
      clear hHeld2
      try simp only [Act.put, List.setIfInBounds_toArray, List.set_cons_zero, List.set_cons_succ, List.getElem_toArray, List.getElem_cons_zero, List.getElem_cons_succ]
      refine wpAnyH_take (i := 7) (v := ?_) rfl (by kernel_rfl) (by kernel_rfl) (by kernel_rfl) (fun _ _ _ h => h) (Or.inl ⟨by rfl, ?h21_1_4_1_6⟩) (by assumption) ?_
      case h21_1_4_1_6 => (intro w hSw; (try dsimp only at hSw); go_simp; try with_reducible rfl)
      try simp only [Act.put, List.setIfInBounds_toArray, List.set_cons_zero, List.set_cons_succ, List.getElem_toArray, List.getElem_cons_zero, List.getElem_cons_succ]
      refine wpAnyH_take (i := 8) (v := ?_) rfl (by kernel_rfl) (by kernel_rfl) (by kernel_rfl) (fun _ _ _ h => h) (Or.inl ⟨by rfl, ?h21_1_4_1_7⟩) (by assumption) ?_
      case h21_1_4_1_7 => (intro w hSw; (try dsimp only at hSw); go_simp; try with_reducible rfl)
      try simp only [Act.put, List.setIfInBounds_toArray, List.set_cons_zero, List.set_cons_succ, List.getElem_toArray, List.getElem_cons_zero, List.getElem_cons_succ]
      refine wpAnyH_take (i := 9) (v := ?_) rfl (by kernel_rfl) (by kernel_rfl) (by kernel_rfl) (fun _ _ _ h => h) (Or.inl ⟨by rfl, ?h21_1_4_1_8⟩) (by assumption) ?_
      case h21_1_4_1_8 => (intro w hSw; (try dsimp only at hSw); go_simp; try with_reducible rfl)
      try simp only [Act.put, List.setIfInBounds_toArray, List.set_cons_zero, List.set_cons_succ, List.getElem_toArray, List.getElem_cons_zero, List.getElem_cons_succ]
      refine wpAnyH_take (i := 10) (v := ?_) rfl (by kernel_rfl) (by kernel_rfl) (by kernel_rfl) (fun _ _ _ h => h) (Or.inl ⟨by rfl, ?h21_1_4_1_9⟩) (by assumption) ?_
      case h21_1_4_1_9 => (intro w hSw; (try dsimp only at hSw); go_simp; try with_reducible rfl)
      try simp only [Act.put, List.setIfInBounds_toArray, List.set_cons_zero, List.set_cons_succ, List.getElem_toArray, List.getElem_cons_zero, List.getElem_cons_succ]
      refine wpAnyH_take (i := 11) (v := ?_) rfl (by kernel_rfl) (by kernel_rfl) (by kernel_rfl) (fun _ _ _ h => h) (Or.inl ⟨by rfl, ?h21_1_4_1_10⟩) (by assumption) ?_
      case h21_1_4_1_10 => (intro w hSw; (try dsimp only at hSw); go_simp; try with_reducible rfl)
      try simp only [Act.put, List.setIfInBounds_toArray, List.set_cons_zero, List.set_cons_succ, List.getElem_toArray, List.getElem_cons_zero, List.getElem_cons_succ]
      refine wpAnyH_ready (rs := [12]) (by kernel_rfl) (by simp) ?_
      refine AllReadyH.cons rfl (fun K hK => ?_) AllReadyH.nil
      go_simp
      refine hK.out _ _ (by (try dsimp only); try trivial) (fun hHeld2 => ?_)
      clear hK K hHeld
      have hHeld := hHeld2
      clear hHeld2
      try simp only [Act.put, List.setIfInBounds_toArray, List.set_cons_zero, List.set_cons_succ, List.getElem_toArray, List.getElem_cons_zero, List.getElem_cons_succ]
      refine wpAnyH_done (by kernel_rfl) ?_ _
      go_wp2
      go_end0
      first | exact ⟨rfl, HF.out.1, HF.out.2⟩ | exact ⟨rfl, HF.out.1.drew, HF.out.2.drew⟩
    · skip
      go_simp
      (with_reducible refine (last_n (HH.out.1.below ((Below.refl _ w).drew)) HH.out.2.1).mono ?_)
      rintro e w' ⟨rfl, rfl⟩
      go_wp2_with fail
      refine hK.out _ _ (by (try dsimp only); try trivial) (fun hHeld2 => ?_)
      clear hK K hHeld
      have hHeld := hHeld2
      clear hHeld2
      try simp only [Act.put, List.setIfInBounds_toArray, List.set_cons_zero, List.set_cons_succ, List.getElem_toArray, List.getElem_cons_zero, List.getElem_cons_succ]
      refine wpAnyH_take (i := 7) (v := ?_) rfl (by kernel_rfl) (by kernel_rfl) (by kernel_rfl) (fun _ _ _ h => h) (Or.inl ⟨by rfl, ?h21_1_4_1_11⟩) (by assumption) ?_
      case h21_1_4_1_11 => (intro w hSw; (try dsimp only at hSw); go_simp; try with_reducible rfl)
      try simp only [Act.put, List.setIfInBounds_toArray, List.set_cons_zero, List.set_cons_succ, List.getElem_toArray, List.getElem_cons_zero, List.getElem_cons_succ]
      refine wpAnyH_take (i := 8) (v := ?_) rfl (by kernel_rfl) (by kernel_rfl) (by kernel_rfl) (fun _ _ _ h => h) (Or.inl ⟨by rfl, ?h21_1_4_1_12⟩) (by assumption) ?_
      case h21_1_4_1_12 => (intro w hSw; (try dsimp only at hSw); go_simp; try with_reducible rfl)
      try simp only [Act.put, List.setIfInBounds_toArray, List.set_cons_zero, List.set_cons_succ, List.getElem_toArray, List.getElem_cons_zero, List.getElem_cons_succ]
      refine wpAnyH_ready (rs := [4]) (by kernel_rfl) (by simp) ?_
      refine AllReadyH.cons rfl (fun K hK => ?_) AllReadyH.nil
      go_simp
      refine hK.out _ _ (by (try dsimp only); try trivial) (fun hHeld2 => ?_)
      clear hK K hHeld
      have hHeld := hHeld2
      clear hHeld2
      try simp only [Act.put, List.setIfInBounds_toArray, List.set_cons_zero, List.set_cons_succ, List.getElem_toArray, List.getElem_cons_zero, List.getElem_cons_succ]
      refine wpAnyH_take (i := 9) (v := ?_) rfl (by kernel_rfl) (by kernel_rfl) (by kernel_rfl) (fun _ _ _ h => h) (Or.inl ⟨by rfl, ?h21_1_4_1_13⟩) (by assumption) ?_
      case h21_1_4_1_13 => (intro w hSw; (try dsimp only at hSw); go_simp; try with_reducible rfl)
      try simp only [Act.put, List.setIfInBounds_toArray, List.set_cons_zero, List.set_cons_succ, List.getElem_toArray, List.getElem_cons_zero, List.getElem_cons_succ]
      refine wpAnyH_take (i := 10) (v := ?_) rfl (by kernel_rfl) (by kernel_rfl) (by kernel_rfl) (fun _ _ _ h => h) (Or.inl ⟨by rfl, ?h21_1_4_1_14⟩) (by assumption) ?_
      case h21_1_4_1_14 => (intro w hSw; (try dsimp only at hSw); go_simp; try with_reducible rfl)
      try simp only [Act.put, List.setIfInBounds_toArray, List.set_cons_zero, List.set_cons_succ, List.getElem_toArray, List.getElem_cons_zero, List.getElem_cons_succ]
      refine wpAnyH_take (i := 11) (v := ?_) rfl (by kernel_rfl) (by kernel_rfl) (by kernel_rfl) (fun _ _ _ h => h) (Or.inl ⟨by rfl, ?h21_1_4_1_15⟩) (by assumption) ?_
      case h21_1_4_1_15 => (intro w hSw; (try dsimp only at hSw); go_simp; try with_reducible rfl)
      try simp only [Act.put, List.setIfInBounds_toArray, List.set_cons_zero, List.set_cons_succ, List.getElem_toArray, List.getElem_cons_zero, List.getElem_cons_succ]
      refine wpAnyH_ready (rs := [12]) (by kernel_rfl) (by simp) ?_
      refine AllReadyH.cons rfl (fun K hK => ?_) AllReadyH.nil
      go_simp
      refine hK.out _ _ (by (try dsimp only); try trivial) (fun hHeld2 => ?_)
      clear hK K hHeld
      have hHeld := hHeld2
      clear hHeld2
      try simp only [Act.put, List.setIfInBounds_toArray, List.set_cons_zero, List.set_cons_succ, List.getElem_toArray, List.getElem_cons_zero, List.getElem_cons_succ]
      refine wpAnyH_done (by kernel_rfl) ?_ _
      go_wp2
      go_end0
      first | exact ⟨rfl, HF.out.1, HF.out.2⟩ | exact ⟨rfl, HF.out.1.drew, HF.out.2.drew⟩
  · have hw1 := hwk (by omega)
    have hk0 : (0 : Int) < (k : Int) := by omega
    have hk1 : 0 < k := by omega
    clear hwk hk
    go_enter Try.func21, Try.ntmps21
    go_wp2_with fail
    refine wp_region_held_drew (S := (fun _ => True)) (by kernel_rfl) (by (try dsimp only); try trivial) (fun hHeld => ?_)
    refine wpAnyH_take (i := 0) (v := ?_) rfl (by kernel_rfl) (by kernel_rfl) (by kernel_rfl) (fun _ _ _ h => h) (Or.inl ⟨by rfl, ?h21_1_4_1_1⟩) (by assumption) ?_
    case h21_1_4_1_1 => (intro w hSw; (try dsimp only at hSw); go_simp; try with_reducible rfl)
    try simp only [Act.put, List.setIfInBounds_toArray, List.set_cons_zero, List.set_cons_succ, List.getElem_toArray, List.getElem_cons_zero, List.getElem_cons_succ]
    refine wpAnyH_take (i := 1) (v := ?_) rfl (by kernel_rfl) (by kernel_rfl) (by kernel_rfl) (fun _ _ _ h => h) (Or.inl ⟨by rfl, ?h21_1_4_1_2⟩) (by assumption) ?_
    case h21_1_4_1_2 => (intro w hSw; (try dsimp only at hSw); go_simp; try with_reducible rfl)
    try simp only [Act.put, List.setIfInBounds_toArray, List.set_cons_zero, List.set_cons_succ, List.getElem_toArray, List.getElem_cons_zero, List.getElem_cons_succ]
    refine wpAnyH_take (i := 2) (v := ?_) rfl (by kernel_rfl) (by kernel_rfl) (by kernel_rfl) (fun _ _ _ h => h) (Or.inl ⟨by rfl, ?h21_1_4_1_3⟩) (by assumption) ?_
    case h21_1_4_1_3 => (intro w hSw; (try dsimp only at hSw); go_simp; try with_reducible rfl)
    try simp only [Act.put, List.setIfInBounds_toArray, List.set_cons_zero, List.set_cons_succ, List.getElem_toArray, List.getElem_cons_zero, List.getElem_cons_succ]
    refine wpAnyH_take (i := 3) (v := ?_) rfl (by kernel_rfl) (by kernel_rfl) (by kernel_rfl) (fun _ _ _ h => h) (Or.inl ⟨by rfl, ?h21_1_4_1_4⟩) (by assumption) ?_
    case h21_1_4_1_4 => (intro w hSw; (try dsimp only at hSw); go_simp; try with_reducible rfl)
    try simp only [Act.put, List.setIfInBounds_toArray, List.set_cons_zero, List.set_cons_succ, List.getElem_toArray, List.getElem_cons_zero, List.getElem_cons_succ]
    refine wpAnyH_take (i := 5) (v := ?_) rfl (by kernel_rfl) (by kernel_rfl) (by kernel_rfl) (fun _ _ _ h => h) (Or.inl ⟨by rfl, ?h21_1_4_1_5⟩) (by assumption) ?_
    case h21_1_4_1_5 => (intro w hSw; (try dsimp only at hSw); go_simp; try with_reducible rfl)
    try simp only [Act.put, List.setIfInBounds_toArray, List.set_cons_zero, List.set_cons_succ, List.getElem_toArray, List.getElem_cons_zero, List.getElem_cons_succ]
    refine wpAnyH_ready (rs := [4, 6]) (by kernel_rfl) (by simp) ?_
    refine (AllReadyH.cons rfl (fun K hK => ?_) (AllReadyH.cons rfl (fun K hK => ?_) AllReadyH.nil))
    · skip
      go_simp
      refine hK.out _ _ (by (try dsimp only); try trivial) (fun hHeld2 => ?_)
      clear hK K hHeld
      have hHeld := hHeld2
      clear hHeld2
      try simp only [Act.put, List.setIfInBounds_toArray, List.set_cons_zero, List.set_cons_succ, List.getElem_toArray, List.getElem_cons_zero, List.getElem_cons_succ]
      refine wpAnyH_ready (rs := [6]) (by kernel_rfl) (by simp) ?_
      refine AllReadyH.cons rfl (fun K hK => ?_) AllReadyH.nil
      go_simp
      (with_reducible refine (last_n (HH.out.1.below ((Below.refl _ w).drew)) HH.out.2.1).mono ?_)
      rintro e w' ⟨rfl, rfl⟩
      go_wp2_with fail
      refine hK.out _ _ (by (try dsimp only); try trivial) (fun hHeld2 => ?_)
      clear hK K hHeld
      have hHeld := hHeld2
      clear hHeld2
      try simp only [Act.put, List.setIfInBounds_toArray, List.set_cons_zero, List.set_cons_succ, List.getElem_toArray, List.getElem_cons_zero, List.getElem_cons_succ]
      refine wpAnyH_take (i := 7) (v := ?_) rfl (by kernel_rfl) (by kernel_rfl) (by kernel_rfl) (fun _ _ _ h => h) (Or.inl ⟨by rfl, ?h21_1_4_1_6⟩) (by assumption) ?_
      case h21_1_4_1_6 => (intro w hSw; (try dsimp only at hSw); go_simp; try with_reducible rfl)
      try simp only [Act.put, List.setIfInBounds_toArray, List.set_cons_zero, List.set_cons_succ, List.getElem_toArray, List.getElem_cons_zero, List.getElem_cons_succ]
      refine wpAnyH_take (i := 8) (v := ?_) rfl (by kernel_rfl) (by kernel_rfl) (by kernel_rfl) (fun _ _ _ h => h) (Or.inl ⟨by rfl, ?h21_1_4_1_7⟩) (by assumption) ?_
      case h21_1_4_1_7 => (intro w hSw; (try dsimp only at hSw); go_simp; try with_reducible rfl)
      try simp only [Act.put, List.setIfInBounds_toArray, List.set_cons_zero, List.set_cons_succ, List.getElem_toArray, List.getElem_cons_zero, List.getElem_cons_succ]
      refine wpAnyH_take (i := 9) (v := ?_) rfl (by kernel_rfl) (by kernel_rfl) (by kernel_rfl) (fun _ _ _ h => h) (Or.inl ⟨by rfl, ?h21_1_4_1_8⟩) (by assumption) ?_
      case h21_1_4_1_8 => (intro w hSw; (try dsimp only at hSw); go_simp; try with_reducible rfl)
      try simp only [Act.put, List.setIfInBounds_toArray, List.set_cons_zero, List.set_cons_succ, List.getElem_toArray, List.getElem_cons_zero, List.getElem_cons_succ]
      refine wpAnyH_take (i := 10) (v := ?_) rfl (by kernel_rfl) (by kernel_rfl) (by kernel_rfl) (fun _ _ _ h => h) (Or.inl ⟨by rfl, ?h21_1_4_1_9⟩) (by assumption) ?_
      case h21_1_4_1_9 => (intro w hSw; (try dsimp only at hSw); go_simp; try with_reducible rfl)
      try simp only [Act.put, List.setIfInBounds_toArray, List.set_cons_zero, List.set_cons_succ, List.getElem_toArray, List.getElem_cons_zero, List.getElem_cons_succ]
      refine wpAnyH_take (i := 11) (v := ?_) rfl (by kernel_rfl) (by kernel_rfl) (by kernel_rfl) (fun _ _ _ h => h) (Or.inl ⟨by rfl, ?h21_1_4_1_10⟩) (by assumption) ?_
      case h21_1_4_1_10 => (intro w hSw; (try dsimp only at hSw); go_simp; try with_reducible rfl)
      try simp only [Act.put, List.setIfInBounds_toArray, List.set_cons_zero, List.set_cons_succ, List.getElem_toArray, List.getElem_cons_zero, List.getElem_cons_succ]
      refine wpAnyH_ready (rs := [12]) (by kernel_rfl) (by simp) ?_
      refine AllReadyH.cons rfl (fun K hK => ?_) AllReadyH.nil
      go_simp
      refine hK.out _ _ (by (try dsimp only); try trivial) (fun hHeld2 => ?_)
      clear hK K hHeld
      have hHeld := hHeld2
      clear hHeld2
      try simp only [Act.put, List.setIfInBounds_toArray, List.set_cons_zero, List.set_cons_succ, List.getElem_toArray, List.getElem_cons_zero, List.getElem_cons_succ]
      refine wpAnyH_done (by kernel_rfl) ?_ _
      go_wp2
      go_end0
      first | exact ⟨rfl, HF.out.1, HF.out.2⟩ | exact ⟨rfl, HF.out.1.drew, HF.out.2.drew⟩
    · skip
      go_simp
      (with_reducible refine (last_n (HH.out.1.below ((Below.refl _ w).drew)) HH.out.2.1).mono ?_)
      rintro e w' ⟨rfl, rfl⟩
      go_wp2_with fail
      refine hK.out _ _ (by (try dsimp only); try trivial) (fun hHeld2 => ?_)
      clear hK K hHeld
      have hHeld := hHeld2
      clear hHeld2
      try simp only [Act.put, List.setIfInBounds_toArray, List.set_cons_zero, List.set_cons_succ, List.getElem_toArray, List.getElem_cons_zero, List.getElem_cons_succ]
      refine wpAnyH_take (i := 7) (v := ?_) rfl (by kernel_rfl) (by kernel_rfl) (by kernel_rfl) (fun _ _ _ h => h) (Or.inl ⟨by rfl, ?h21_1_4_1_11⟩) (by assumption) ?_
      case h21_1_4_1_11 => (intro w hSw; (try dsimp only at hSw); go_simp; try with_reducible rfl)
      try simp only [Act.put, List.setIfInBounds_toArray, List.set_cons_zero, List.set_cons_succ, List.getElem_toArray, List.getElem_cons_zero, List.getElem_cons_succ]
      refine wpAnyH_take (i := 8) (v := ?_) rfl (by kernel_rfl) (by kernel_rfl) (by kernel_rfl) (fun _ _ _ h => h) (Or.inl ⟨by rfl, ?h21_1_4_1_12⟩) (by assumption) ?_
      case h21_1_4_1_12 => (intro w hSw; (try dsimp only at hSw); go_simp; try with_reducible rfl)
      try simp only [Act.put, List.setIfInBounds_toArray, List.set_cons_zero, List.set_cons_succ, List.getElem_toArray, List.getElem_cons_zero, List.getElem_cons_succ]
      refine wpAnyH_ready (rs := [4]) (by kernel_rfl) (by simp) ?_
      refine AllReadyH.cons rfl (fun K hK => ?_) AllReadyH.nil
      go_simp
      refine hK.out _ _ (by (try dsimp only); try trivial) (fun hHeld2 => ?_)
      clear hK K hHeld
      have hHeld := hHeld2
      clear hHeld2
      try simp only [Act.put, List.setIfInBounds_toArray, List.set_cons_zero, List.set_cons_succ, List.getElem_toArray, List.getElem_cons_zero, List.getElem_cons_succ]
      refine wpAnyH_take (i := 9) (v := ?_) rfl (by kernel_rfl) (by kernel_rfl) (by kernel_rfl) (fun _ _ _ h => h) (Or.inl ⟨by rfl, ?h21_1_4_1_13⟩) (by assumption) ?_
      case h21_1_4_1_13 => (intro w hSw; (try dsimp only at hSw); go_simp; try with_reducible rfl)
      try simp only [Act.put, List.setIfInBounds_toArray, List.set_cons_zero, List.set_cons_succ, List.getElem_toArray, List.getElem_cons_zero, List.getElem_cons_succ]
      refine wpAnyH_take (i := 10) (v := ?_) rfl (by kernel_rfl) (by kernel_rfl) (by kernel_rfl) (fun _ _ _ h => h) (Or.inl ⟨by rfl, ?h21_1_4_1_14⟩) (by assumption) ?_
      case h21_1_4_1_14 => (intro w hSw; (try dsimp only at hSw); go_simp; try with_reducible rfl)
      try simp only [Act.put, List.setIfInBounds_toArray, List.set_cons_zero, List.set_cons_succ, List.getElem_toArray, List.getElem_cons_zero, List.getElem_cons_succ]
      refine wpAnyH_take (i := 11) (v := ?_) rfl (by kernel_rfl) (by kernel_rfl) (by kernel_rfl) (fun _ _ _ h => h) (Or.inl ⟨by rfl, ?h21_1_4_1_15⟩) (by assumption) ?_
      case h21_1_4_1_15 => (intro w hSw; (try dsimp only at hSw); go_simp; try with_reducible rfl)
      try simp only [Act.put, List.setIfInBounds_toArray, List.set_cons_zero, List.set_cons_succ, List.getElem_toArray, List.getElem_cons_zero, List.getElem_cons_succ]
      refine wpAnyH_ready (rs := [12]) (by kernel_rfl) (by simp) ?_
      refine AllReadyH.cons rfl (fun K hK => ?_) AllReadyH.nil
      go_simp
      refine hK.out _ _ (by (try dsimp only); try trivial) (fun hHeld2 => ?_)
      clear hK K hHeld
      have hHeld := hHeld2
      clear hHeld2
      try simp only [Act.put, List.setIfInBounds_toArray, List.set_cons_zero, List.set_cons_succ, List.getElem_toArray, List.getElem_cons_zero, List.getElem_cons_succ]
      refine wpAnyH_done (by kernel_rfl) ?_ _
      go_wp2
      go_end0
      first | exact ⟨rfl, HF.out.1, HF.out.2⟩ | exact ⟨rfl, HF.out.1.drew, HF.out.2.drew⟩


set_option maxHeartbeats 2000000 in
theorem rem_any {w : World} {B rb : Nat} {es q : List Ent} {id : Int} {r : Bool} (h : ListIs w B rb 63 33 es) (hq : remS id es = q) (hr : remB id es = r) :
    Calls Try.prog 25 #[ptr rb, i64 id] w fun e w' => e = .returned (.bool r) ∧ ListIs w' B rb 63 33 q ∧ Fr B LK w w' := by
  obtain ⟨x, hx⟩ : ∃ x, findE id es = x := ⟨_, rfl⟩
  have hb := findE_bound id es
  unfold remS at hq
  unfold remB at hr
  rw [hx] at hb hq hr
  have HX := Lib.hid (And.intro h hx)
  by_cases hx0 : x < 0
  · rw [if_pos hx0] at hq
    rw [show decide (0 ≤ x) = false by simpa using hx0] at hr
    subst hq hr
    have hz : decide (x < 0) = true := decide_eq_true hx0
    clear h hx hb hx0
    go_enter Try.func25, Try.ntmps25
    go_wp2_with (first | (go_at_call 12; (with_reducible refine (find_n HX.out.1 id HX.out.2).mono ?_); rintro e w1 ⟨rfl, hb1⟩; have H1 := Lib.hid hb1; clear hb1))
    go_ret
    exact ⟨rfl, HX.out.1.below H1.out, Fr.of_below H1.out B LK⟩
  · rw [if_neg hx0] at hq
    rw [show decide (0 ≤ x) = true by simpa using hx0] at hr
    subst hr
    obtain ⟨a, rfl⟩ : ∃ k : Nat, x = k := ⟨x.toNat, by omega⟩
    rw [Int.toNat_natCast] at hq
    have hz : decide ((a : Int) < 0) = false := decide_eq_false hx0
    obtain ⟨n, hn⟩ : ∃ n, es.length = n := ⟨_, rfl⟩
    obtain ⟨ad, c, ps, hL, hps, c0, hrl, hnc, hcm, hl6, hrr⟩ := h.opened hn
    have hpn : ps.length = n := by rw [← hn, ← hps, List.length_map]
    have han : a < ps.length := by omega
    obtain ⟨g, rfl, _, hg, _⟩ := hrr (fun e => by rw [e] at hn; simp at hn; omega)
    obtain ⟨k, hk⟩ : ∃ k, n = a + 1 + k := ⟨n - a - 1, by omega⟩
    have hsp : ps = ps.take a ++ ps[a] :: ps.drop (a + 1) := by rw [← List.drop_eq_getElem_cons han, List.take_append_drop]
    have hA : (ps.take a).length = a := by rw [List.length_take]; omega
    have hC : (ps.drop (a + 1)).length = k := by rw [List.length_drop]; omega
    have hone : ∀ y ∈ ps.drop (a + 1), y.2.oneCell' = true := fun y hy => by
      obtain ⟨_, _, _, e⟩ := (hL.2.2.2.2 y (List.mem_of_mem_drop hy)).fit
      rw [e]; rfl
    subst hk
    have hown : w.ownsRow B 33 4 (.slice (some ⟨g, 0, none⟩) (a + 1 + k) c) (a + 1 + k) (flatP (ps.take a ++ ps[a] :: ps.drop (a + 1))) := by
      have h1 := hL.2.2.1
      rw [hpn] at h1
      rw [← hsp]
      exact h1
    have hmap : (ps.take a ++ ps.drop (a + 1)).map (·.1) = q := by
      rw [List.map_append, List.map_take, List.map_drop, hps]
      exact hq
    have hw : IntKind.i64.wrap ((a : Int) + 1) = (a : Int) + 1 := IntWalk.i64_in _ (by omega)
    have HF := Lib.hid (And.intro hL (And.intro hsp (And.intro hA (And.intro hC (And.intro hone (And.intro hown (And.intro hmap hl6)))))))
    clear h hx hb hx0 hq hn hps hpn hrr hsp hA hC hone hown hmap hL hl6
    go_enter Try.func25, Try.ntmps25
    go_wp2_with (first
      | (go_at_call 12; (with_reducible refine (find_n HX.out.1 id HX.out.2).mono ?_); rintro e w1 ⟨rfl, hb1⟩; have d0 := (hb1.cell (p := ⟨rb, 0, none⟩) hrl).trans c0; have H1 := Lib.hid (And.intro hb1 (And.intro (HF.out.1.below hb1) (own_below HF.out.2.2.2.2.2.1 hb1 (Nat.le_refl _)))); clear hb1)
      | (go_at_call 43; (with_reducible refine (delete_one H1.out.2.2 HF.out.2.2.1 HF.out.2.2.2.1 (by have := HF.out.2.2.2.2.2.2.2; omega) HF.out.2.2.2.2.1).mono ?_); rintro e w5 ⟨rfl, hown5, hgrow5⟩; have hk5 := (hgrow5.block rb H1.out.2.1.1.lt (fun e => own_ne H1.out.2.2 H1.out.2.1.1 (by decide) e.symm)).trans H1.out.2.1.1; have z5 := Blk.cell hk5 0 _ rfl; have zf := Blk.fro hk5 0; have H5 := Lib.hid (And.intro hown5 hgrow5); clear hown5 hgrow5 hk5))
    go_ret
    obtain ⟨hl6, F6⟩ := del_done H1.out.2.1 HF.out.2.1 H5.out.1 H5.out.2 HF.out.2.2.1 HF.out.2.2.2.1 (by have := HF.out.2.2.2.2.2.2.2; omega)
    exact ⟨rfl, ⟨_, _, hl6, HF.out.2.2.2.2.2.2.1⟩, (Fr.of_below H1.out.1 B LK).trans F6⟩

theorem flatP_set (l : List (Ent × Value)) : ∀ (k : Nat) (p p' : Ent × Value), l[k]? = some p → (((((flatP l).set (k * 4) (.bool p'.1.mark)).set (k * 4 + 1) (i64 p'.1.id)).set (k * 4 + 2) (.string p'.1.name)).set (k * 4 + 3) p'.2) = flatP (l.set k p') := by
  induction l with
  | nil => intro k p p' h; simp at h
  | cons q r ih =>
    intro k p p' h
    cases k with
    | zero => simp [flatP]
    | succ k =>
      have := ih k p p' (by simpa using h)
      rw [show (k + 1) * 4 = k * 4 + 1 + 1 + 1 + 1 from by omega]
      simpa [flatP] using this
/-- An entry of the row, replaced. -/
theorem swap_done {w w2 : World} {B rb n c g k na uc : Nat} {ua : Option Addr} {ps : List (Ent × Value)} {p : Ent × Value} {mk : Bool} {eid : Int} {nm : ByteArray} {l : List Atr} (hL : ListAt w B rb 63 33 (.slice (some ⟨g, 0, none⟩) n c) ps) (hpn : ps.length = n) (hb : Below w.heap.size w w2) (hk : ps[k]? = some p)
    (hown : w2.ownsRow w.heap.size 60 2 (.slice ua na uc) na (flatA l)) (hna : l.length = na) (hok : l.length ≤ 4398046511104 ∧ ∀ x ∈ l, AtrOk x) :
    ListIs ((((w2.setCell ⟨g, k * 4, none⟩ (.bool mk)).setCell ⟨g, k * 4 + 1, none⟩ (i64 eid)).setCell ⟨g, k * 4 + 2, none⟩ (.string nm)).setCell ⟨g, k * 4 + 3, none⟩ (.slice ua na uc)) B rb 63 33 ((ps.map (·.1)).set k ⟨mk, eid, nm, l⟩) ∧
    Fr B LK w ((((w2.setCell ⟨g, k * 4, none⟩ (.bool mk)).setCell ⟨g, k * 4 + 1, none⟩ (i64 eid)).setCell ⟨g, k * 4 + 2, none⟩ (.string nm)).setCell ⟨g, k * 4 + 3, none⟩ (.slice ua na uc)) := by
  have hL2 := hL.below hb
  have hrow := hL2.2.2.1
  rw [hpn] at hrow
  obtain ⟨s1, g1⟩ := hrow.stored (k * 4) (.bool mk)
  obtain ⟨s2, g2⟩ := s1.stored (k * 4 + 1) (i64 eid)
  obtain ⟨s3, g3⟩ := s2.stored (k * 4 + 2) (.string nm)
  obtain ⟨s4, g4⟩ := s3.stored (k * 4 + 3) (.slice ua na uc)
  have hgr : w2.grownBy _ (some g) := ((g1.trans g2).trans g3).trans g4
  obtain ⟨e0, he0⟩ : ∃ e0, ((⟨mk, eid, nm, l⟩ : Ent), Value.slice ua na uc) = e0 := ⟨_, rfl⟩
  have hset := flatP_set ps k p e0 hk
  rw [← he0] at hset
  rw [hset] at s4
  have F1 : Fr B K33 w2 _ := grown_fr (v := .slice (some ⟨g, 0, none⟩) n c) hgr hL2.2.2.1
  have F2 := (Fr.of_below hb B LK).trans (F1.mono (Nat.le_refl _) k33_lk)
  have hua := F1.own hown (fun _ _ => rfl)
  refine ⟨⟨_, ps.set k (⟨mk, eid, nm, l⟩, .slice ua na uc), ⟨F1.blk hL2.1 (.inr rfl), hL2.2.1, ?_, ?_, fun q hq => ?_⟩, by rw [List.map_set]⟩, F2⟩
  · rw [List.length_set, hpn]; exact s4
  · rw [List.length_set]; exact hL.2.2.2.1
  · rcases List.mem_or_eq_of_mem_set hq with hq | rfl
    · exact (hL.2.2.2.2 q hq).fr F2 (Nat.le_refl _) (fun _ _ => rfl)
    · subst hna
      exact AtrsAt.of_own hua hok.1 hok.2

theorem set_cut {es : List Ent} {k : Nat} {e : Ent} (hk : k < es.length) : es.take k ++ e :: es.drop (k + 1) = es.set k e := by
  rw [List.set_eq_take_append_cons_drop, if_pos hk]

set_option maxHeartbeats 4000000 in
theorem swap_any {w : World} {B rb na ca : Nat} {va : Option Addr} {es q : List Ent} {mk : Bool} {id eid : Int} {nm : ByteArray} {l : List Atr} {r : Bool} (h : ListIs w B rb 63 33 es) (ha : AtrsAt w B (.slice va na ca) l) (hna : l.length = na) (hq : swapS id ⟨mk, eid, nm, l⟩ es = q) (hr : swapB id ⟨mk, eid, nm, l⟩ es = r) :
    Calls Try.prog 26 #[ptr rb, i64 id, .agg #[.bool mk, i64 eid, .string nm, .slice va na ca]] w fun e w' => e = .returned (.bool r) ∧ ListIs w' B rb 63 33 q ∧ Fr B LK w w' := by
  obtain ⟨x, hx⟩ : ∃ x, findE id es = x := ⟨_, rfl⟩
  have hb := findE_bound id es
  obtain ⟨wb, hwb⟩ : ∃ wb, wrongB mk eid = wb := ⟨_, rfl⟩
  have HW := Lib.hid hwb
  unfold swapS at hq
  unfold swapB at hr
  simp only at hq hr
  rw [hx, hwb] at hq hr
  rw [hx] at hb
  have hbx := Blk.new w 33 #[.bool mk, i64 eid, .string nm, .slice va na ca]
  have b0 := (Below.refl _ w).alloc (Nat.le_refl w.heap.size) (.cells #[.bool mk, i64 eid, .string nm, .slice va na ca] 33)
  have HX := Lib.hid (And.intro h (And.intro hx (And.intro ha (And.intro hbx b0))))
  by_cases hx0 : x < 0
  · rw [if_pos hx0] at hq
    rw [show decide (0 ≤ x) = false by simpa using hx0, Bool.false_and] at hr
    subst hq hr
    have hz : decide (x < 0) = true := decide_eq_true hx0
    clear h hx hb hx0 ha hbx b0 hwb
    go_enter Try.func26, Try.ntmps26
    go_wp2_with (first | (go_at_call 12; (with_reducible refine (find_n (HX.out.1.below HX.out.2.2.2.2) id HX.out.2.1).mono ?_); rintro e w1 ⟨rfl, hb1⟩; have H1 := Lib.hid (HX.out.2.2.2.2.trans (hb1.mono HX.out.2.2.2.2.size)); clear hb1))
    go_ret
    exact ⟨rfl, HX.out.1.below H1.out, Fr.of_below H1.out B LK⟩
  rw [if_neg hx0] at hq
  rw [show decide (0 ≤ x) = true by simpa using hx0, Bool.true_and] at hr
  subst hr
  obtain ⟨k, rfl⟩ : ∃ k : Nat, x = k := ⟨x.toNat, by omega⟩
  rw [Int.toNat_natCast] at hq
  have hz : decide ((k : Int) < 0) = false := decide_eq_false hx0
  cases wb
  · simp only [Bool.false_eq_true, if_false] at hq
    obtain ⟨n, hn⟩ : ∃ n, es.length = n := ⟨_, rfl⟩
    obtain ⟨ad, c, ps, hL, hps, c0, hrl, hnc, hcm, hl6, hrr⟩ := h.opened hn
    have hpn : ps.length = n := by rw [← hn, ← hps, List.length_map]
    have hkn : k < n := by omega
    obtain ⟨p, hp⟩ : ∃ p, ps[k]? = some p := ⟨_, List.getElem?_eq_getElem (by omega)⟩
    obtain ⟨g, rfl, hBg, hg, hcell⟩ := hrr (fun e => by rw [e] at hn; simp at hn; omega)
    obtain ⟨e0, he0⟩ : ∃ e0, es[k]? = some e0 := ⟨_, List.getElem?_eq_getElem (by omega)⟩
    obtain ⟨va0, na0, ca0, _, _, _, d0, d1, d2, d3⟩ := hcell k e0 he0
    have hqq : (ps.map (·.1)).set k ⟨mk, eid, nm, l⟩ = q := by rw [hps, ← set_cut (by omega)]; exact hq
    have hrow := hL.2.2.1
    rw [hpn] at hrow
    have i1 : (0 : Int) ≤ (k : Int) := by omega
    have i2 : (k : Int) < (n : Int) := by omega
    have ne1 : ¬ rb = g := fun e => by
      obtain ⟨_, cs, h1⟩ := own_kind hrow g rfl
      subst e
      exact absurd (hL.1.inj h1).1 (by decide)
    have ne2 : ¬ w.heap.size = g := by omega
    have ne3 : ¬ g = rb := fun e => ne1 e.symm
    have ne4 : ¬ g = w.heap.size := fun e => ne2 e.symm
    have HF := Lib.hid (And.intro hL (And.intro hpn (And.intro hp (And.intro hqq (And.intro hna hrow)))))
    have HD := Lib.hid (And.intro d0 (And.intro d1 (And.intro d2 d3)))
    clear h hx hb hx0 ha b0 hwb hq hn hps hpn hrr hcell he0 d0 d1 d2 d3 hqq hrow hp hL hna
    go_enter Try.func26, Try.ntmps26
    go_wp2_with (first
      | (go_at_call 12; (with_reducible refine (find_n (HX.out.1.below HX.out.2.2.2.2) id HX.out.2.1).mono ?_); rintro e w1 ⟨rfl, hb1⟩; have hx1 := blk_kept HX.out.2.2.2.1 hb1; have y0 := hx1.cell 0 (.bool mk) rfl; have y1 := hx1.cell 1 (i64 eid) rfl; have y2 := hx1.cell 2 (.string nm) rfl; have y3 := hx1.cell 3 (.slice va na ca) rfl; have H1 := Lib.hid (And.intro (HX.out.2.2.2.2.trans (hb1.mono HX.out.2.2.2.2.size)) hx1); clear hb1 hx1)
      | (go_at_call 41; (with_reducible refine wrong_any.mono ?_); rintro e w2 ⟨rfl, hb2⟩; rw [HW.out]; have hx2 := blk_kept H1.out.2 hb2; have z0 := hx2.cell 0 (.bool mk) rfl; have z1 := hx2.cell 1 (i64 eid) rfl; have z2 := hx2.cell 2 (.string nm) rfl; have z3 := hx2.cell 3 (.slice va na ca) rfl; have H2 := Lib.hid (And.intro (H1.out.1.trans (hb2.mono H1.out.1.size)) hx2); have c2 := (H2.out.1.cell (p := ⟨rb, 0, none⟩) hrl).trans c0; clear hb2 hx2 y0 y1 y2 y3))
    have hrl2 := Nat.lt_of_lt_of_le hrl H2.out.1.size
    have hxl2 := H2.out.2.lt
    clear c0
    refine wp_region_held_drew (S := (fun w' => w'.cell? ⟨rb, 0, none⟩ = some (.slice (some ⟨g, 0, none⟩) n c) ∧ w'.cell? ⟨w.heap.size, 0, none⟩ = some (.bool mk) ∧ w'.cell? ⟨w.heap.size, 1, none⟩ = some (i64 eid) ∧ w'.cell? ⟨w.heap.size, 2, none⟩ = some (.string nm) ∧ w'.cell? ⟨w.heap.size, 3, none⟩ = some (.slice va na ca))) (by kernel_rfl) (by (try dsimp only); go_keep) (fun hHeld => ?_)
    refine wpAnyH_take (i := 0) (v := ?_) rfl (by kernel_rfl) (by kernel_rfl) (by kernel_rfl) (fun _ _ _ h => h) (Or.inl ⟨by rfl, ?h26_4_4_2_1⟩) (by assumption) ?_
    case h26_4_4_2_1 => (intro w hSw; (try dsimp only at hSw); go_simp; try with_reducible rfl)
    try simp only [Act.put, List.setIfInBounds_toArray, List.set_cons_zero, List.set_cons_succ, List.getElem_toArray, List.getElem_cons_zero, List.getElem_cons_succ]
    refine wpAnyH_take (i := 1) (v := ?_) rfl (by kernel_rfl) (by kernel_rfl) (by kernel_rfl) (fun _ _ _ h => h) (Or.inl ⟨by rfl, ?h26_4_4_2_2⟩) (by assumption) ?_
    case h26_4_4_2_2 => (intro w hSw; (try dsimp only at hSw); go_simp; try with_reducible rfl)
    try simp only [Act.put, List.setIfInBounds_toArray, List.set_cons_zero, List.set_cons_succ, List.getElem_toArray, List.getElem_cons_zero, List.getElem_cons_succ]
    refine wpAnyH_take (i := 2) (v := ?_) rfl (by kernel_rfl) (by kernel_rfl) (by kernel_rfl) (fun _ _ _ h => h) (Or.inl ⟨by rfl, ?h26_4_4_2_3⟩) (by assumption) ?_
    case h26_4_4_2_3 => (intro w hSw; (try dsimp only at hSw); go_simp; try with_reducible rfl)
    try simp only [Act.put, List.setIfInBounds_toArray, List.set_cons_zero, List.set_cons_succ, List.getElem_toArray, List.getElem_cons_zero, List.getElem_cons_succ]
    refine wpAnyH_take (i := 3) (v := ?_) rfl (by kernel_rfl) (by kernel_rfl) (by kernel_rfl) (fun _ _ _ h => h) (Or.inl ⟨by rfl, ?h26_4_4_2_4⟩) (by assumption) ?_
    case h26_4_4_2_4 => (intro w hSw; (try dsimp only at hSw); go_simp; try with_reducible rfl)
    try simp only [Act.put, List.setIfInBounds_toArray, List.set_cons_zero, List.set_cons_succ, List.getElem_toArray, List.getElem_cons_zero, List.getElem_cons_succ]
    refine wpAnyH_take (i := 4) (v := ?_) rfl (by kernel_rfl) (by kernel_rfl) (by kernel_rfl) (fun _ _ _ h => h) (Or.inl ⟨by rfl, ?h26_4_4_2_5⟩) (by assumption) ?_
    case h26_4_4_2_5 => (intro w hSw; (try dsimp only at hSw); go_simp; try with_reducible rfl)
    try simp only [Act.put, List.setIfInBounds_toArray, List.set_cons_zero, List.set_cons_succ, List.getElem_toArray, List.getElem_cons_zero, List.getElem_cons_succ]
    refine wpAnyH_take (i := 5) (v := ?_) rfl (by kernel_rfl) (by kernel_rfl) (by kernel_rfl) (fun _ _ _ h => h) (Or.inl ⟨by rfl, ?h26_4_4_2_6⟩) (by assumption) ?_
    case h26_4_4_2_6 => (intro w hSw; (try dsimp only at hSw); go_simp; try with_reducible rfl)
    try simp only [Act.put, List.setIfInBounds_toArray, List.set_cons_zero, List.set_cons_succ, List.getElem_toArray, List.getElem_cons_zero, List.getElem_cons_succ]
    refine wpAnyH_ready (rs := [6]) (by kernel_rfl) (by simp) ?_
    refine AllReadyH.cons rfl (fun K hK => ?_) AllReadyH.nil
    go_simp
    (with_reducible refine (copied_n ((HX.out.2.2.1.below H2.out.1).below (dqr w2)) HF.out.2.2.2.2.1).mono ?_)
    rintro e w3 ⟨ua, uc, rfl, hown3, hb3⟩
    have hbb := (dqr w2).trans (hb3.mono (dqr w2).size)
    have hbw := H2.out.1.trans (hbb.mono H2.out.1.size)
    have c3 := (hbb.cell (p := ⟨rb, 0, none⟩) hrl2).trans c2
    have v0 := (hbb.cell (p := ⟨w.heap.size, 0, none⟩) hxl2).trans z0
    have v1 := (hbb.cell (p := ⟨w.heap.size, 1, none⟩) hxl2).trans z1
    have v2 := (hbb.cell (p := ⟨w.heap.size, 2, none⟩) hxl2).trans z2
    have v3 := (hbb.cell (p := ⟨w.heap.size, 3, none⟩) hxl2).trans z3
    have r0 := (hbw.cell (p := ⟨g, k * 4, none⟩) hg).trans HD.out.1
    have r1 := (hbw.cell (p := ⟨g, k * 4 + 1, none⟩) hg).trans HD.out.2.1
    have r2 := (hbw.cell (p := ⟨g, k * 4 + 2, none⟩) hg).trans HD.out.2.2.1
    have r3 := (hbw.cell (p := ⟨g, k * 4 + 3, none⟩) hg).trans HD.out.2.2.2
    have hrow3 := own_below HF.out.2.2.2.2.2 hbw (Nat.le_refl _)
    have t0 := hrow3.frozenAt (k * 4)
    have t1 := hrow3.frozenAt (k * 4 + 1)
    have t2 := hrow3.frozenAt (k * 4 + 2)
    have t3 := hrow3.frozenAt (k * 4 + 3)
    have H3 := Lib.hid (And.intro (own_mono hown3 (by have := H2.out.1.size; simpa using this)) hbw)
    clear hown3 hb3 hbb hbw hrow3
    go_wp2_with fail
    refine hK.out _ _ (by (try dsimp only); go_keep) (fun hHeld2 => ?_)
    clear hK K hHeld
    have hHeld := hHeld2
    clear hHeld2
    try simp only [Act.put, List.setIfInBounds_toArray, List.set_cons_zero, List.set_cons_succ, List.getElem_toArray, List.getElem_cons_zero, List.getElem_cons_succ]
    refine wpAnyH_take (i := 7) (v := ?_) rfl (by kernel_rfl) (by kernel_rfl) (by kernel_rfl) (fun _ _ _ h => h) (Or.inl ⟨by rfl, ?h26_4_4_2_7⟩) (by assumption) ?_
    case h26_4_4_2_7 => (intro w hSw; (try dsimp only at hSw); go_simp; try with_reducible rfl)
    try simp only [Act.put, List.setIfInBounds_toArray, List.set_cons_zero, List.set_cons_succ, List.getElem_toArray, List.getElem_cons_zero, List.getElem_cons_succ]
    refine wpAnyH_ready (rs := [8]) (by kernel_rfl) (by simp) ?_
    refine AllReadyH.cons rfl (fun K hK => ?_) AllReadyH.nil
    go_simp
    refine hK.out _ _ (by (try dsimp only); go_keep) (fun hHeld2 => ?_)
    clear hK K hHeld
    have hHeld := hHeld2
    clear hHeld2
    try simp only [Act.put, List.setIfInBounds_toArray, List.set_cons_zero, List.set_cons_succ, List.getElem_toArray, List.getElem_cons_zero, List.getElem_cons_succ]
    refine wpAnyH_done (by kernel_rfl) ?_ _
    go_wp2
    go_ret
    have sd := swap_done HF.out.1 HF.out.2.1 H3.out.2 HF.out.2.2.1 H3.out.1 HF.out.2.2.2.2.1 HX.out.2.2.1.ok (mk := mk) (eid := eid) (nm := nm)
    rw [HF.out.2.2.2.1] at sd
    exact ⟨rfl, sd.1, sd.2⟩
  · simp only [if_true] at hq
    subst hq
    clear h hx hb hx0 hwb ha b0
    have x0 := hbx.cell 0 (.bool mk) rfl
    clear hbx
    go_enter Try.func26, Try.ntmps26
    go_wp2_with (first
      | (go_at_call 12; (with_reducible refine (find_n (HX.out.1.below HX.out.2.2.2.2) id HX.out.2.1).mono ?_); rintro e w1 ⟨rfl, hb1⟩; have hx1 := blk_kept HX.out.2.2.2.1 hb1; have y0 := hx1.cell 0 (.bool mk) rfl; have y1 := hx1.cell 1 (i64 eid) rfl; have y2 := hx1.cell 2 (.string nm) rfl; have y3 := hx1.cell 3 (.slice va na ca) rfl; have H1 := Lib.hid (And.intro (HX.out.2.2.2.2.trans (hb1.mono HX.out.2.2.2.2.size)) hx1); clear hb1 hx1)
      | (go_at_call 41; (with_reducible refine wrong_any.mono ?_); rintro e w2 ⟨rfl, hb2⟩; rw [HW.out]; have H2 := Lib.hid (H1.out.1.trans (hb2.mono H1.out.1.size)); clear hb2))
    go_ret
    exact ⟨rfl, HX.out.1.below H2.out, Fr.of_below H2.out B LK⟩

end Go.Proofs.Ytjopfgdgmniigaa
