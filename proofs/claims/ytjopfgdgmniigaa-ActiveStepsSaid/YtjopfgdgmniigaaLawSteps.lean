/-
  rectolaw10.ActiveSteps returns true for every list of steps, every name and every list of open ones.
  Written by an AI agent.
-/
import Derived.Test.YtjopfgdgmniigaaDoesA
import Derived.Test.YtjopfgdgmniigaaLawCut
namespace Go.Proofs.Ytjopfgdgmniigaa
open Go.RowKit Go.Maps
attribute [local go_sem ↓] Go.wp_at_zero Go.wp_at_succ

theorem new0 (w : World) : Calls Try.prog 9 #[] w fun e w' => e = .returned (ptr w.heap.size) ∧ ListIs w' w.heap.size w.heap.size 63 33 [] ∧ Below w.heap.size w w' := new_any w
theorem opened_row {w : World} {B n c : Nat} {te : TypeId} {ad : Option Addr} {ps : List (Ent × Value)} {es : List Ent} (h : RowE w B te (.slice ad n c) ps) (hps : ps.map (·.1) = es) (hn : es.length = n) :
    es ≠ [] → ∃ g, ad = some ⟨g, 0, none⟩ ∧ g < w.heap.size ∧ ∀ (k : Nat) (e : Ent), es[k]? = some e → ∃ va na ca, AtrsAt w B (.slice va na ca) e.attrs ∧
        w.cell? ⟨g, k * 4, none⟩ = some (.bool e.mark) ∧ w.cell? ⟨g, k * 4 + 1, none⟩ = some (i64 e.id) ∧ w.cell? ⟨g, k * 4 + 2, none⟩ = some (.string e.name) ∧ w.cell? ⟨g, k * 4 + 3, none⟩ = some (.slice va na ca) := by
  intro hne
  obtain ⟨ad', cap, hv, _, _, hr⟩ := h.form
  simp only [Value.slice.injEq] at hv
  obtain ⟨rfl, _, rfl⟩ := hv
  obtain ⟨g, had, _, hg, hc⟩ := hr (fun e => hne (by rw [← hps, e]; rfl))
  refine ⟨g, had, hg, fun k e hk => ?_⟩
  rw [← hps, List.getElem?_map] at hk
  cases hq : ps[k]? with
  | none => rw [hq] at hk; cases hk
  | some q =>
    rw [hq] at hk
    simp only [Option.map_some, Option.some.injEq] at hk
    subst hk
    have hat := h.2.2 q (List.mem_of_getElem? hq)
    obtain ⟨a, c, hv⟩ := hat.form
    obtain ⟨c0, c1, c2, c3⟩ := hc k q hq
    obtain ⟨q1, q2⟩ := q
    simp only at hv hat c0 c1 c2 c3
    subst hv
    exact ⟨a, _, c, hat, c0, c1, c2, c3⟩
/-- Where the document's row lies: what is read of it. -/
def RefRead (w : World) (B : Nat) (adr : Option Addr) (es : List Ent) : Prop := es ≠ [] → ∃ g, adr = some ⟨g, 0, none⟩ ∧ g < w.heap.size ∧ ∀ (k : Nat) (e : Ent), es[k]? = some e → ∃ va na ca, AtrsAt w B (.slice va na ca) e.attrs ∧
        w.cell? ⟨g, k * 4, none⟩ = some (.bool e.mark) ∧ w.cell? ⟨g, k * 4 + 1, none⟩ = some (i64 e.id) ∧ w.cell? ⟨g, k * 4 + 2, none⟩ = some (.string e.name) ∧ w.cell? ⟨g, k * 4 + 3, none⟩ = some (.slice va na ca)
theorem ref_kept {w w' : World} {B : Nat} {adr : Option Addr} {es : List Ent} (h : RefRead w B adr es) (hb : Below w.heap.size w w') : RefRead w' B adr es := fun hne => by
  obtain ⟨g, h1, h2, h3⟩ := h hne
  refine ⟨g, h1, Nat.lt_of_lt_of_le h2 hb.size, fun k e hk => ?_⟩
  obtain ⟨va, na, ca, t, a, b, c, d⟩ := h3 k e hk
  exact ⟨va, na, ca, t.below hb, (hb.cell (p := ⟨g, k * 4, none⟩) h2).trans a, (hb.cell (p := ⟨g, k * 4 + 1, none⟩) h2).trans b, (hb.cell (p := ⟨g, k * 4 + 2, none⟩) h2).trans c, (hb.cell (p := ⟨g, k * 4 + 3, none⟩) h2).trans d⟩
theorem ref_read {w : World} {B rb n : Nat} {es : List Ent} (h : Doc w B rb es) (hn : es.length = n) : ∃ ad c, w.cell? ⟨rb, 0, none⟩ = some (.slice ad n c) ∧ rb < w.heap.size ∧ RefRead w B ad es := by
  obtain ⟨ad, c, ps, hL, hps, c0, hrl, _⟩ := h.at_ hn
  exact ⟨ad, c, c0, hrl, opened_row hL.2.2 hps hn⟩

theorem last_some_n {w : World} {B lb : Nat} {es : List Ent} {nm0 nm : ByteArray} {mk : Bool} {id : Int} {ats : List Atr} (h : ListIs w B lb 63 33 es) (hf : lastF nm0 es = some ⟨mk, id, nm, ats⟩) (hok : ats.length ≤ 4398046511104 ∧ ∀ x ∈ ats, AtrOk x) : Calls Try.prog 16 #[ptr lb, .string nm0] w fun e w' =>
    ∃ ua na uc, e = .returned (.tuple #[.agg #[.bool mk, i64 id, .string nm, .slice ua na uc], .bool true]) ∧ AtrsAt w' 0 (.slice ua na uc) ats ∧ Below w.heap.size w w' := by
  refine (last_ent h nm0).mono ?_
  rintro e w' ⟨h1 | h1, hb⟩
  · obtain ⟨e0, ua, uc, h1, h2, h3⟩ := h1
    rw [hf] at h1
    obtain rfl := Option.some.inj h1
    exact ⟨ua, _, uc, h2, AtrsAt.of_own h3 hok.1 hok.2, hb⟩
  · rw [hf] at h1
    cases h1.1
theorem last_none_n {w : World} {B lb : Nat} {es : List Ent} {nm0 : ByteArray} (h : ListIs w B lb 63 33 es) (hf : lastF nm0 es = none) : Calls Try.prog 16 #[ptr lb, .string nm0] w fun e w' =>
    e = .returned (.tuple #[.agg #[.bool false, i64 0, .string ⟨#[]⟩, .slice none 0 0], .bool false]) ∧ Below w.heap.size w w' := by
  refine (last_ent h nm0).mono ?_
  rintro e w' ⟨h1 | h1, hb⟩
  · obtain ⟨e0, ua, uc, h1, _⟩ := h1
    rw [hf] at h1
    cases h1
  · exact ⟨h1.2, hb⟩

theorem steps_long {w : World} {v : Value} {l : List (Stp × Value)} {nm0 : ByteArray} {od : Option Addr} {on oc : Nat} (h : StepsAt w v l) (hb : 130 < l.length ∨ 50 < on) :
    Calls Try.prog 3 #[v, .string nm0, .slice od on oc] w fun e w' => e = .returned (.bool true) ∧ Below w.heap.size w w' := by
  obtain ⟨ad, c, rfl, hl, _, _⟩ := h
  obtain ⟨n, hn⟩ : ∃ n, l.length = n := ⟨_, rfl⟩
  rw [hn] at hb ⊢
  clear hn hl
  by_cases h90 : 130 < n
  · have z1 : decide ((130 : Int) < (n : Int)) = true := by simp; omega
    clear hb
    go_enter Try.func3, Try.ntmps3
    go_wp2_with (first
      | (go_at_call 9; (with_reducible refine (new_any _).mono ?_); rintro e w1 ⟨rfl, hl, hb⟩; have H1 := Lib.hid hb; clear hl hb)
      | (go_at_call 10; (with_reducible refine (four_any _).mono ?_); rintro e w2 ⟨rfl, hb⟩; have H2 := Lib.hid hb; clear hb))
    go_ret
    exact ⟨rfl, H1.out.trans (H2.out.mono H1.out.size)⟩
  · have z1 : decide ((130 : Int) < (n : Int)) = false := by simp; omega
    have z2 : decide ((50 : Int) < (on : Int)) = true := by simp; omega
    clear hb
    go_enter Try.func3, Try.ntmps3
    go_wp2_with (first
      | (go_at_call 9; (with_reducible refine (new_any _).mono ?_); rintro e w1 ⟨rfl, hl, hb⟩; have H1 := Lib.hid hb; clear hl hb)
      | (go_at_call 10; (with_reducible refine (four_any _).mono ?_); rintro e w2 ⟨rfl, hb⟩; have H2 := Lib.hid hb; clear hb))
    go_ret
    exact ⟨rfl, H1.out.trans (H2.out.mono H1.out.size)⟩

set_option maxHeartbeats 32000000 in
set_option maxRecDepth 100000 in
theorem steps_main {w : World} {v : Value} {l : List (Stp × Value)} {nm0 : ByteArray} {od : Option Addr} {on oc : Nat} {opn : List Int} (h : StepsAt w v l) (hb : l.length ≤ 130) (ho : IntsAt w (.slice od on oc) opn) (hon : on ≤ 50) :
    Calls Try.prog 3 #[v, .string nm0, .slice od on oc] w fun e w' => e = .returned (.bool true) ∧ Below w.heap.size w w' := by
  obtain ⟨ad, c, rfl, _, hats, hr⟩ := h
  obtain ⟨m, hm⟩ : ∃ m, l.length = m := ⟨_, rfl⟩
  rw [hm] at hb ⊢
  have HR := Lib.hid (And.intro hr hats)
  have HM := Lib.hid hm
  have HO := Lib.hid ho
  have z1 : decide ((130 : Int) < (m : Int)) = false := by simp; omega
  have z2 : decide ((50 : Int) < (on : Int)) = false := by simp; omega
  clear hr hm hats ho
  go_enter Try.func3, Try.ntmps3
  go_wp2_with (first
    | (go_at_call 9; (with_reducible refine (new0 _).mono ?_); rintro e w1 ⟨rfl, hs, hb1⟩; have H1 := Lib.hid (And.intro hs hb1); clear hs hb1))
  obtain ⟨rb, hrb⟩ : ∃ rb, w1.heap.size = rb := ⟨_, rfl⟩
  have HW0 : Hid (Duo (w1.alloc (.cells #[.slice none 0 0] 30)) w.heap.size w.heap.size rb [] ∧ ([] : List Ent).length ≤ 100 ∧ Below w.heap.size w (w1.alloc (.cells #[.slice none 0 0] 30))) := Lib.hid (by
    refine ⟨⟨H1.out.1.below ((Below.refl _ w1).alloc (Nat.le_refl _) _), ?_⟩, by simp, H1.out.2.alloc H1.out.2.size _⟩
    rw [← hrb]
    exact ⟨_, [], ⟨Blk.new w1 30 #[.slice none 0 0], H1.out.2.size, World.ownsRow_nil _ _ _ _, by simp, by simp⟩, rfl⟩)
  rw [hrb]
  clear hrb
  go_loopw [10, 11, 12, 13, 14, 15, 38] (fun _ _ _ _ _ _ i wr => ∃ (k : Nat) (es : List Ent), k ≤ m ∧ i = i64 k ∧ Hid (Duo wr w.heap.size w.heap.size rb es ∧ es.length ≤ 100 ∧ Below w.heap.size w wr)) (fun _ _ _ _ _ _ i _ => m - (intOf i).toNat)
  case atStart => exact ⟨0, [], Nat.zero_le _, rfl, HW0⟩
  case round =>
    obtain ⟨k, es, hk, rfl, HK⟩ := hrel
    by_cases hlt : k < m
    · obtain ⟨⟨⟨what, n0, ⟨mk, id, nm, ats⟩⟩, vx⟩, hx⟩ : ∃ x, l[k]? = some x := ⟨_, List.getElem?_eq_getElem (by rw [HM.out]; exact hlt)⟩
      have hat0 := HR.out.2 _ (List.mem_of_getElem? hx)
      simp only at hat0
      obtain ⟨xa, xc, rfl⟩ := hat0.form
      obtain ⟨xn, hxn⟩ : ∃ xn, ats.length = xn := ⟨_, rfl⟩
      rw [hxn] at hat0 hx
      obtain ⟨g, off, had, hg, hc⟩ := HR.out.1 (fun e => by rw [e] at hx; simp at hx)
      obtain ⟨d0, d1, d2, d3, d4, d5⟩ := hc k _ hx
      have hbel := HK.out.2.2
      have e0 := (hbel.cell (p := ⟨g, off + k * 6, none⟩) hg).trans d0
      have e1 := (hbel.cell (p := ⟨g, off + k * 6 + 1, none⟩) hg).trans d1
      have e2 := (hbel.cell (p := ⟨g, off + k * 6 + 2, none⟩) hg).trans d2
      have e3 := (hbel.cell (p := ⟨g, off + k * 6 + 3, none⟩) hg).trans d3
      have e4 := (hbel.cell (p := ⟨g, off + k * 6 + 4, none⟩) hg).trans d4
      have e5 := (hbel.cell (p := ⟨g, off + k * 6 + 5, none⟩) hg).trans d5
      simp only at e0 e1 e2 e3 e4 e5
      have HAD := Lib.hid had
      by_cases h20 : 20 < xn
      · have z3 : decide ((20 : Int) < (xn : Int)) = true := by simp; omega
        have HBB := Lib.hid hbel
        clear hx hat0 hxn hc had d0 d1 d2 d3 d4 d5 hbel h20
        rw [HAD.out]
        go_wp2_with (first | (go_at_call 10; (with_reducible refine (four_any _).mono ?_); rintro e w2 ⟨rfl, hb2⟩; have H2 := Lib.hid hb2; clear hb2))
        go_ret
        have hb3 := HBB.out.alloc HBB.out.size (.cells #[i64 what, i64 n0, .bool mk, i64 id, .string nm, .slice xa xn xc] 35)
        exact ⟨rfl, hb3.trans (H2.out.mono hb3.size)⟩
      have z3 : decide ((20 : Int) < (xn : Int)) = false := by simp; omega
      obtain ⟨es', hes⟩ : ∃ es', stepE ⟨what, n0, ⟨mk, id, nm, ats⟩⟩ es = es' := ⟨_, rfl⟩
      have hl' : es'.length ≤ 100 := by rw [← hes]; exact stepE_length HK.out.2.1
      obtain ⟨n, hn⟩ : ∃ n, es'.length = n := ⟨_, rfl⟩
      obtain ⟨fi, hfi⟩ : ∃ fi, findE n0 es' = fi := ⟨_, rfl⟩
      obtain ⟨cl, hcl⟩ : ∃ cl, cutL opn es' = cl := ⟨_, rfl⟩
      have HS := Lib.hid (And.intro hes (And.intro hl' (And.intro hn (And.intro hfi (And.intro hcl hxn)))))
      have hn6 : n ≤ 100 := by omega
      have hbx0 : Below wr.heap.size wr (wr.alloc (.cells #[i64 what, i64 n0, .bool mk, i64 id, .string nm, .slice xa xn xc] 35)).drew := ((Below.refl _ wr).alloc (Nat.le_refl _) _).drew
      have HBX := Lib.hid (Blk.new wr 35 #[i64 what, i64 n0, .bool mk, i64 id, .string nm, .slice xa xn xc]).drew
      have HW := Lib.hid (And.intro (HK.out.1.below hbx0) (And.intro HK.out.2.1 (And.intro (hat0.below (hbel.trans (hbx0.mono hbel.size))) (hbel.trans (hbx0.mono hbel.size)))))
      clear hc hx had d0 d1 d2 d3 d4 d5 hbel hes hl' hn hfi hcl hxn hbx0 hat0 h20
      rw [HAD.out]
      go_wp2_with fail
      refine wp_region_any (by kernel_rfl) ?_
      change wpAny _ _ _ _ _ _ _ (World.drew _)
      refine wpAny_take (i := 0) (v := ?_) rfl (by kernel_rfl) (by kernel_rfl) (by kernel_rfl) (fun _ _ _ h => h) (Or.inl ⟨by rfl, ?h3_10_6_0_1⟩) ?_
      case h3_10_6_0_1 => (intro w; go_simp; try with_reducible rfl)
      try simp only [Act.put, List.setIfInBounds_toArray, List.set_cons_zero, List.set_cons_succ, List.getElem_toArray, List.getElem_cons_zero, List.getElem_cons_succ]
      refine wpAny_take (i := 1) (v := ?_) rfl (by kernel_rfl) (by kernel_rfl) (by kernel_rfl) (fun _ _ _ h => h) (Or.inl ⟨by rfl, ?h3_10_6_0_2⟩) ?_
      case h3_10_6_0_2 => (intro w; go_simp; try with_reducible rfl)
      try simp only [Act.put, List.setIfInBounds_toArray, List.set_cons_zero, List.set_cons_succ, List.getElem_toArray, List.getElem_cons_zero, List.getElem_cons_succ]
      refine wpAny_ready (rs := [2]) (by kernel_rfl) (by simp) ?_
      refine AllReady.cons rfl (fun K hK => ?_) AllReady.nil
      go_simp
      refine hK _ _ ?_
      clear hK K
      try simp only [Act.put, List.setIfInBounds_toArray, List.set_cons_zero, List.set_cons_succ, List.getElem_toArray, List.getElem_cons_zero, List.getElem_cons_succ]
      refine wpAny_ready (rs := [3]) (by kernel_rfl) (by simp) ?_
      refine AllReady.cons rfl (fun K hK => ?_) AllReady.nil
      go_simp
      (with_reducible refine (does_any HW.out.1 HW.out.2.1 HW.out.2.2.1 HS.out.2.2.2.2.2 HS.out.1).mono ?_)
      rintro e w4 ⟨rfl, h4, f4⟩
      clear e0 e1 e2 e3 e4 e5
      obtain ⟨adr, cr, r4, hr4, hre4⟩ := ref_read h4.2 HS.out.2.2.1
      have p4 := f4.blk HBX.out (.inr rfl)
      have t4 := p4.cell 1 (i64 n0) rfl
      have hnb : wr.heap.size < w4.heap.size := p4.lt
      have H4 := Lib.hid (And.intro h4 (And.intro (HW.out.2.2.2.trans (below_of_fr f4 HW.out.2.2.2.size)) hre4))
      clear h4 f4 p4 hre4
      refine hK _ _ ?_
      clear hK K
      try simp only [Act.put, List.setIfInBounds_toArray, List.set_cons_zero, List.set_cons_succ, List.getElem_toArray, List.getElem_cons_zero, List.getElem_cons_succ]
      have hHeld : (fun w' => w'.cell? ⟨wr.heap.size, 1, none⟩ = some (i64 n0)) w4 := by (try dsimp only); go_keep
      refine wpAny_of_held (S := (fun w' => w'.cell? ⟨wr.heap.size, 1, none⟩ = some (i64 n0))) _ _ _ _ ?_
      refine wpAnyH_take (i := 4) (v := ?_) rfl (by kernel_rfl) (by kernel_rfl) (by kernel_rfl) (fun _ _ _ h => h) (Or.inl ⟨by rfl, ?h3_10_6_0_3⟩) (by assumption) ?_
      case h3_10_6_0_3 => (intro w hSw; (try dsimp only at hSw); go_simp; try with_reducible rfl)
      try simp only [Act.put, List.setIfInBounds_toArray, List.set_cons_zero, List.set_cons_succ, List.getElem_toArray, List.getElem_cons_zero, List.getElem_cons_succ]
      refine wpAnyH_take (i := 5) (v := ?_) rfl (by kernel_rfl) (by kernel_rfl) (by kernel_rfl) (fun _ _ _ h => h) (Or.inl ⟨by rfl, ?h3_10_6_0_4⟩) (by assumption) ?_
      case h3_10_6_0_4 => (intro w hSw; (try dsimp only at hSw); go_simp; try with_reducible rfl)
      try simp only [Act.put, List.setIfInBounds_toArray, List.set_cons_zero, List.set_cons_succ, List.getElem_toArray, List.getElem_cons_zero, List.getElem_cons_succ]
      refine wpAnyH_take (i := 6) (v := ?_) rfl (by kernel_rfl) (by kernel_rfl) (by kernel_rfl) (fun _ _ _ h => h) (Or.inl ⟨by rfl, ?h3_10_6_0_5⟩) (by assumption) ?_
      case h3_10_6_0_5 => (intro w hSw; (try dsimp only at hSw); go_simp; try with_reducible rfl)
      try simp only [Act.put, List.setIfInBounds_toArray, List.set_cons_zero, List.set_cons_succ, List.getElem_toArray, List.getElem_cons_zero, List.getElem_cons_succ]
      refine wpAnyH_take (i := 7) (v := ?_) rfl (by kernel_rfl) (by kernel_rfl) (by kernel_rfl) (fun _ _ _ h => h) (Or.inl ⟨by rfl, ?h3_10_6_0_6⟩) (by assumption) ?_
      case h3_10_6_0_6 => (intro w hSw; (try dsimp only at hSw); go_simp; try with_reducible rfl)
      try simp only [Act.put, List.setIfInBounds_toArray, List.set_cons_zero, List.set_cons_succ, List.getElem_toArray, List.getElem_cons_zero, List.getElem_cons_succ]
      refine wpAnyH_take (i := 8) (v := ?_) rfl (by kernel_rfl) (by kernel_rfl) (by kernel_rfl) (fun _ _ _ h => h) (Or.inl ⟨by rfl, ?h3_10_6_0_7⟩) (by assumption) ?_
      case h3_10_6_0_7 => (intro w hSw; (try dsimp only at hSw); go_simp; try with_reducible rfl)
      try simp only [Act.put, List.setIfInBounds_toArray, List.set_cons_zero, List.set_cons_succ, List.getElem_toArray, List.getElem_cons_zero, List.getElem_cons_succ]
      refine wpAnyH_take (i := 10) (v := ?_) rfl (by kernel_rfl) (by kernel_rfl) (by kernel_rfl) (fun _ _ _ h => h) (Or.inl ⟨by rfl, ?h3_10_6_0_8⟩) (by assumption) ?_
      case h3_10_6_0_8 => (intro w hSw; (try dsimp only at hSw); go_simp; try with_reducible rfl)
      try simp only [Act.put, List.setIfInBounds_toArray, List.set_cons_zero, List.set_cons_succ, List.getElem_toArray, List.getElem_cons_zero, List.getElem_cons_succ]
      refine wpAnyH_take (i := 11) (v := ?_) rfl (by kernel_rfl) (by kernel_rfl) (by kernel_rfl) (fun _ _ _ h => h) (Or.inl ⟨by rfl, ?h3_10_6_0_9⟩) (by assumption) ?_
      case h3_10_6_0_9 => (intro w hSw; (try dsimp only at hSw); go_simp; try with_reducible rfl)
      try simp only [Act.put, List.setIfInBounds_toArray, List.set_cons_zero, List.set_cons_succ, List.getElem_toArray, List.getElem_cons_zero, List.getElem_cons_succ]
      refine wpAnyH_take (i := 12) (v := ?_) rfl (by kernel_rfl) (by kernel_rfl) (by kernel_rfl) (fun _ _ _ h => h) (Or.inl ⟨by rfl, ?h3_10_6_0_10⟩) (by assumption) ?_
      case h3_10_6_0_10 => (intro w hSw; (try dsimp only at hSw); go_simp; try with_reducible rfl)
      try simp only [Act.put, List.setIfInBounds_toArray, List.set_cons_zero, List.set_cons_succ, List.getElem_toArray, List.getElem_cons_zero, List.getElem_cons_succ]
      refine wpAnyH_ready (rs := [9]) (by kernel_rfl) (by simp) ?_
      refine AllReadyH.cons rfl (fun K hK => ?_) AllReadyH.nil
      go_simp
      (with_reducible refine (find_n H4.out.1.1 n0 HS.out.2.2.2.1).mono ?_)
      rintro e w5 ⟨rfl, hb5⟩
      have t5 := (hb5.cell (p := ⟨wr.heap.size, 1, none⟩) hnb).trans t4
      have H5 := Lib.hid (And.intro (H4.out.1.below hb5) (And.intro (H4.out.2.1.trans (hb5.mono H4.out.2.1.size)) (And.intro (ref_kept H4.out.2.2 hb5) hb5)))
      clear hb5
      go_wp2_with fail
      refine hK.out _ _ (by (try dsimp only); go_keep) (fun hHeld2 => ?_)
      clear hK K hHeld
      have hHeld := hHeld2
      clear hHeld2
      try simp only [Act.put, List.setIfInBounds_toArray, List.set_cons_zero, List.set_cons_succ, List.getElem_toArray, List.getElem_cons_zero, List.getElem_cons_succ]
      refine wpAnyH_ready (rs := [13]) (by kernel_rfl) (by simp) ?_
      refine AllReadyH.cons rfl (fun K hK => ?_) AllReadyH.nil
      go_simp
      (with_reducible refine (dfind_any H5.out.1.2 HS.out.2.2.2.1).mono ?_)
      rintro e w6 ⟨rfl, hb6⟩
      have hb46 := H5.out.2.2.2.trans (hb6.mono H5.out.2.2.2.size)
      have t6 := (hb46.cell (p := ⟨wr.heap.size, 1, none⟩) hnb).trans t4
      have r6 := (hb46.cell (p := ⟨rb, 0, none⟩) hr4).trans r4
      have hr6 := Nat.lt_of_lt_of_le hr4 hb46.size
      have H6 := Lib.hid (And.intro (H5.out.1.below hb6) (And.intro (H5.out.2.1.trans (hb6.mono H5.out.2.1.size)) (ref_kept H5.out.2.2.1 hb6)))
      clear hb6 hb46
      go_wp2_with fail
      refine hK.out _ _ (by (try dsimp only); go_keep) (fun hHeld2 => ?_)
      clear hK K hHeld
      have hHeld := hHeld2
      clear hHeld2
      try simp only [Act.put, List.setIfInBounds_toArray, List.set_cons_zero, List.set_cons_succ, List.getElem_toArray, List.getElem_cons_zero, List.getElem_cons_succ]
      refine wpAnyH_take (i := 14) (v := ?_) rfl (by kernel_rfl) (by kernel_rfl) (by kernel_rfl) (fun _ _ _ h => h) (Or.inl ⟨by rfl, ?h3_10_6_0_11⟩) (by assumption) ?_
      case h3_10_6_0_11 => (intro w hSw; (try dsimp only at hSw); go_simp; try with_reducible rfl)
      try simp only [Act.put, List.setIfInBounds_toArray, List.set_cons_zero, List.set_cons_succ, List.getElem_toArray, List.getElem_cons_zero, List.getElem_cons_succ]
      refine wpAnyH_take (i := 15) (v := ?_) rfl (by kernel_rfl) (by kernel_rfl) (by kernel_rfl) (fun _ _ _ h => h) (Or.inl ⟨by rfl, ?h3_10_6_0_12⟩) (by assumption) ?_
      case h3_10_6_0_12 => (intro w hSw; (try dsimp only at hSw); go_simp; try with_reducible rfl)
      try simp only [Act.put, List.setIfInBounds_toArray, List.set_cons_zero, List.set_cons_succ, List.getElem_toArray, List.getElem_cons_zero, List.getElem_cons_succ]
      refine wpAnyH_done (by kernel_rfl) ?_ _
      clear t4 t5 t6
      clear hHeld
      go_wp2_with (first
        | (go_at_call 14; (with_reducible refine (all_n H6.out.1.1 HS.out.2.2.1).mono ?_); rintro e w7 ⟨ad7, c7, ps7, rfl, hrow7, hps7, hb7⟩; have HA7 := Lib.hid (opened_row hrow7 hps7 HS.out.2.2.1); have r7 := (hb7.cell (p := ⟨rb, 0, none⟩) hr6).trans r6; have hr7 := Nat.lt_of_lt_of_le hr6 hb7.size; have H7 := Lib.hid (And.intro (H6.out.1.below hb7) (And.intro (H6.out.2.1.trans (hb7.mono H6.out.2.1.size)) (ref_kept H6.out.2.2 hb7))); clear hrow7 hps7 hb7))
      go_loopw [12, 76] (fun _ i wi => ∃ j : Nat, j ≤ n ∧ i = i64 j ∧ Hid (Below w7.heap.size w7 wi)) (fun _ i _ => n - (intOf i).toNat)
      case atStart => exact ⟨0, Nat.zero_le _, rfl, Lib.hid (Below.refl _ _)⟩
      case round =>
        obtain ⟨j, hj, rfl, HB⟩ := hrel
        obtain ⟨wi, hwi⟩ : ∃ wi, wr = wi := ⟨_, rfl⟩
        have k7 := (HB.out.cell (p := ⟨rb, 0, none⟩) hr7).trans r7
        have hri := Nat.lt_of_lt_of_le hr7 HB.out.size
        by_cases hjn : j < n
        · obtain ⟨⟨emk, eid, enm, eat⟩, he⟩ : ∃ e, es'[j]? = some e := ⟨_, List.getElem?_eq_getElem (by rw [HS.out.2.2.1]; exact hjn)⟩
          obtain ⟨ga, hga, hgl, hca⟩ := HA7.out (fun e0 => by rw [e0] at he; simp at he)
          obtain ⟨va, na, ca, hta, p0, p1, p2, p3⟩ := hca j _ he
          obtain ⟨gr, hgr, hgrl, hcr⟩ := H7.out.2.2 (fun e0 => by rw [e0] at he; simp at he)
          obtain ⟨vb, nb, cb, htb, s0, s1, s2, s3⟩ := hcr j _ he
          have a0 := (HB.out.cell (p := ⟨ga, j * 4, none⟩) hgl).trans p0
          have a1 := (HB.out.cell (p := ⟨ga, j * 4 + 1, none⟩) hgl).trans p1
          have a2 := (HB.out.cell (p := ⟨ga, j * 4 + 2, none⟩) hgl).trans p2
          have a3 := (HB.out.cell (p := ⟨ga, j * 4 + 3, none⟩) hgl).trans p3
          have b0 := (HB.out.cell (p := ⟨gr, j * 4, none⟩) hgrl).trans s0
          have b1 := (HB.out.cell (p := ⟨gr, j * 4 + 1, none⟩) hgrl).trans s1
          have b2 := (HB.out.cell (p := ⟨gr, j * 4 + 2, none⟩) hgrl).trans s2
          have b3 := (HB.out.cell (p := ⟨gr, j * 4 + 3, none⟩) hgrl).trans s3
          simp only at a0 a1 a2 a3 b0 b1 b2 b3 hta htb
          have hgi := Nat.lt_of_lt_of_le hgl HB.out.size
          have hgri := Nat.lt_of_lt_of_le hgrl HB.out.size
          have i1 : (0 : Int) ≤ (j : Int) := by omega
          have i2 : (j : Int) < (n : Int) := by omega
          have HG := Lib.hid (And.intro hga (And.intro hgr (And.intro ((hta.below HB.out).below (dqr wr)) ((htb.below HB.out).below (dqr wr)))))
          clear he hca hcr p0 p1 p2 p3 s0 s1 s2 s3 hta htb hga hgr r7
          rw [HG.out.2.1] at k7
          rw [HG.out.1]
          rw [hwi] at k7 a0 a1 a2 a3 b0 b1 b2 b3 hgi hgri hri HG HB ⊢
          clear hwi
          go_wp2_with fail
          refine wp_region_held_drew (S := (fun w' => w'.cell? ⟨rb, 0, none⟩ = some (.slice (some ⟨gr, 0, none⟩) n cr) ∧ w'.cell? ⟨ga, j * 4, none⟩ = some (.bool emk) ∧ w'.cell? ⟨ga, j * 4 + 1, none⟩ = some (i64 eid) ∧ w'.cell? ⟨ga, j * 4 + 2, none⟩ = some (.string enm) ∧ w'.cell? ⟨ga, j * 4 + 3, none⟩ = some (.slice va na ca) ∧ w'.cell? ⟨gr, j * 4, none⟩ = some (.bool emk) ∧ w'.cell? ⟨gr, j * 4 + 1, none⟩ = some (i64 eid) ∧ w'.cell? ⟨gr, j * 4 + 2, none⟩ = some (.string enm) ∧ w'.cell? ⟨gr, j * 4 + 3, none⟩ = some (.slice vb nb cb))) (by kernel_rfl) (by (try dsimp only); go_keep) (fun hHeld => ?_)
          refine wpAnyH_take (i := 0) (v := ?_) rfl (by kernel_rfl) (by kernel_rfl) (by kernel_rfl) (fun _ _ _ h => h) (Or.inl ⟨by rfl, ?h3_18_10_1_1⟩) (by assumption) ?_
          case h3_18_10_1_1 => (intro w hSw; (try dsimp only at hSw); go_simp; try with_reducible rfl)
          try simp only [Act.put, List.setIfInBounds_toArray, List.set_cons_zero, List.set_cons_succ, List.getElem_toArray, List.getElem_cons_zero, List.getElem_cons_succ]
          refine wpAnyH_take (i := 1) (v := ?_) rfl (by kernel_rfl) (by kernel_rfl) (by kernel_rfl) (fun _ _ _ h => h) (Or.inl ⟨by rfl, ?h3_18_10_1_2⟩) (by assumption) ?_
          case h3_18_10_1_2 => (intro w hSw; (try dsimp only at hSw); go_simp; try with_reducible rfl)
          try simp only [Act.put, List.setIfInBounds_toArray, List.set_cons_zero, List.set_cons_succ, List.getElem_toArray, List.getElem_cons_zero, List.getElem_cons_succ]
          refine wpAnyH_take (i := 2) (v := ?_) rfl (by kernel_rfl) (by kernel_rfl) (by kernel_rfl) (fun _ _ _ h => h) (Or.inl ⟨by rfl, ?h3_18_10_1_3⟩) (by assumption) ?_
          case h3_18_10_1_3 => (intro w hSw; (try dsimp only at hSw); go_simp; try with_reducible rfl)
          try simp only [Act.put, List.setIfInBounds_toArray, List.set_cons_zero, List.set_cons_succ, List.getElem_toArray, List.getElem_cons_zero, List.getElem_cons_succ]
          refine wpAnyH_take (i := 3) (v := ?_) rfl (by kernel_rfl) (by kernel_rfl) (by kernel_rfl) (fun _ _ _ h => h) (Or.inl ⟨by rfl, ?h3_18_10_1_4⟩) (by assumption) ?_
          case h3_18_10_1_4 => (intro w hSw; (try dsimp only at hSw); go_simp; try with_reducible rfl)
          try simp only [Act.put, List.setIfInBounds_toArray, List.set_cons_zero, List.set_cons_succ, List.getElem_toArray, List.getElem_cons_zero, List.getElem_cons_succ]
          refine wpAnyH_take (i := 4) (v := ?_) rfl (by kernel_rfl) (by kernel_rfl) (by kernel_rfl) (fun _ _ _ h => h) (Or.inl ⟨by rfl, ?h3_18_10_1_5⟩) (by assumption) ?_
          case h3_18_10_1_5 => (intro w hSw; (try dsimp only at hSw); go_simp; try with_reducible rfl)
          try simp only [Act.put, List.setIfInBounds_toArray, List.set_cons_zero, List.set_cons_succ, List.getElem_toArray, List.getElem_cons_zero, List.getElem_cons_succ]
          refine wpAnyH_take (i := 5) (v := ?_) rfl (by kernel_rfl) (by kernel_rfl) (by kernel_rfl) (fun _ _ _ h => h) (Or.inl ⟨by rfl, ?h3_18_10_1_6⟩) (by assumption) ?_
          case h3_18_10_1_6 => (intro w hSw; (try dsimp only at hSw); go_simp; try with_reducible rfl)
          try simp only [Act.put, List.setIfInBounds_toArray, List.set_cons_zero, List.set_cons_succ, List.getElem_toArray, List.getElem_cons_zero, List.getElem_cons_succ]
          refine wpAnyH_take (i := 6) (v := ?_) rfl (by kernel_rfl) (by kernel_rfl) (by kernel_rfl) (fun _ _ _ h => h) (Or.inl ⟨by rfl, ?h3_18_10_1_7⟩) (by assumption) ?_
          case h3_18_10_1_7 => (intro w hSw; (try dsimp only at hSw); go_simp; try with_reducible rfl)
          try simp only [Act.put, List.setIfInBounds_toArray, List.set_cons_zero, List.set_cons_succ, List.getElem_toArray, List.getElem_cons_zero, List.getElem_cons_succ]
          refine wpAnyH_take (i := 7) (v := ?_) rfl (by kernel_rfl) (by kernel_rfl) (by kernel_rfl) (fun _ _ _ h => h) (Or.inl ⟨by rfl, ?h3_18_10_1_8⟩) (by assumption) ?_
          case h3_18_10_1_8 => (intro w hSw; (try dsimp only at hSw); go_simp; try with_reducible rfl)
          try simp only [Act.put, List.setIfInBounds_toArray, List.set_cons_zero, List.set_cons_succ, List.getElem_toArray, List.getElem_cons_zero, List.getElem_cons_succ]
          refine wpAnyH_take (i := 8) (v := ?_) rfl (by kernel_rfl) (by kernel_rfl) (by kernel_rfl) (fun _ _ _ h => h) (Or.inl ⟨by rfl, ?h3_18_10_1_9⟩) (by assumption) ?_
          case h3_18_10_1_9 => (intro w hSw; (try dsimp only at hSw); go_simp; try with_reducible rfl)
          try simp only [Act.put, List.setIfInBounds_toArray, List.set_cons_zero, List.set_cons_succ, List.getElem_toArray, List.getElem_cons_zero, List.getElem_cons_succ]
          refine wpAnyH_take (i := 9) (v := ?_) rfl (by kernel_rfl) (by kernel_rfl) (by kernel_rfl) (fun _ _ _ h => h) (Or.inl ⟨by rfl, ?h3_18_10_1_10⟩) (by assumption) ?_
          case h3_18_10_1_10 => (intro w hSw; (try dsimp only at hSw); go_simp; try with_reducible rfl)
          try simp only [Act.put, List.setIfInBounds_toArray, List.set_cons_zero, List.set_cons_succ, List.getElem_toArray, List.getElem_cons_zero, List.getElem_cons_succ]
          refine wpAnyH_take (i := 10) (v := ?_) rfl (by kernel_rfl) (by kernel_rfl) (by kernel_rfl) (fun _ _ _ h => h) (Or.inl ⟨by rfl, ?h3_18_10_1_11⟩) (by assumption) ?_
          case h3_18_10_1_11 => (intro w hSw; (try dsimp only at hSw); go_simp; try with_reducible rfl)
          try simp only [Act.put, List.setIfInBounds_toArray, List.set_cons_zero, List.set_cons_succ, List.getElem_toArray, List.getElem_cons_zero, List.getElem_cons_succ]
          refine wpAnyH_ready (rs := [11]) (by kernel_rfl) (by simp) ?_
          refine AllReadyH.cons rfl (fun K hK => ?_) AllReadyH.nil
          go_simp
          (with_reducible refine (alike_true HG.out.2.2.1 HG.out.2.2.2).mono ?_)
          rintro e wj ⟨rfl, hbj⟩
          have hbij := (dqr wi).trans (hbj.mono (dqr wi).size)
          have aa0 := (hbij.cell (p := ⟨rb, 0, none⟩) hri).trans k7
          have aa1 := (hbij.cell (p := ⟨ga, j * 4, none⟩) hgi).trans a0
          have aa2 := (hbij.cell (p := ⟨ga, j * 4 + 1, none⟩) hgi).trans a1
          have aa3 := (hbij.cell (p := ⟨ga, j * 4 + 2, none⟩) hgi).trans a2
          have aa4 := (hbij.cell (p := ⟨ga, j * 4 + 3, none⟩) hgi).trans a3
          have aa5 := (hbij.cell (p := ⟨gr, j * 4, none⟩) hgri).trans b0
          have aa6 := (hbij.cell (p := ⟨gr, j * 4 + 1, none⟩) hgri).trans b1
          have aa7 := (hbij.cell (p := ⟨gr, j * 4 + 2, none⟩) hgri).trans b2
          have aa8 := (hbij.cell (p := ⟨gr, j * 4 + 3, none⟩) hgri).trans b3
          have HN := Lib.hid (HB.out.trans (hbij.mono HB.out.size))
          clear hbj hbij
          go_wp2_with fail
          refine hK.out _ _ (by (try dsimp only); go_keep) (fun hHeld2 => ?_)
          clear hK K hHeld
          have hHeld := hHeld2
          clear hHeld2
          try simp only [Act.put, List.setIfInBounds_toArray, List.set_cons_zero, List.set_cons_succ, List.getElem_toArray, List.getElem_cons_zero, List.getElem_cons_succ]
          refine wpAnyH_take (i := 12) (v := ?_) rfl (by kernel_rfl) (by kernel_rfl) (by kernel_rfl) (fun _ _ _ h => h) (Or.inl ⟨by rfl, ?h3_18_10_1_12⟩) (by assumption) ?_
          case h3_18_10_1_12 => (intro w hSw; (try dsimp only at hSw); go_simp; try with_reducible rfl)
          try simp only [Act.put, List.setIfInBounds_toArray, List.set_cons_zero, List.set_cons_succ, List.getElem_toArray, List.getElem_cons_zero, List.getElem_cons_succ]
          refine wpAnyH_done (by kernel_rfl) ?_ _
          clear hHeld
          go_wp2
          go_roundw
          case rel => exact ⟨j + 1, by omega, by go_num, HN⟩
          case measure => simp [intOf]; omega
        · have HI := Lib.hid (And.intro (H7.out.1.below HB.out) (And.intro (H7.out.2.1.trans (HB.out.mono H7.out.2.1.size)) (ref_kept H7.out.2.2 HB.out)))
          rw [hwi] at HI k7 hri ⊢
          clear hwi r7 r6
          rcases lst_find (partE es') nm0 es' with ⟨hlr, hlf⟩ | ⟨kk, ⟨emk, eid, enm, eat⟩, hlr, hek, hlf⟩
          · have HL := Lib.hid (And.intro hlr (show lastF nm0 es' = none from hlf))
            have zz : decide ((0 : Int) ≤ -1) = false := by decide
            clear hlr hlf
            go_wp2_with (first
              | (go_at_call 16; (with_reducible refine (last_none_n HI.out.1.1 HL.out.2).mono ?_); rintro e w8 ⟨rfl, hb8⟩; have H8 := Lib.hid (And.intro (HI.out.1.below (hb8.trans (((Below.refl _ w8).alloc (Nat.le_refl _) (.cells #[.bool false, .int .i64 0, .string ⟨#[]⟩, .slice none 0 0] 33)).mono hb8.size))) (And.intro (HI.out.2.1.trans ((hb8.trans (((Below.refl _ w8).alloc (Nat.le_refl _) (.cells #[.bool false, .int .i64 0, .string ⟨#[]⟩, .slice none 0 0] 33)).mono hb8.size)).mono HI.out.2.1.size)) (Blk.new w8 33 #[.bool false, .int .i64 0, .string ⟨#[]⟩, .slice none 0 0]))); clear hb8)
              | (go_at_call 17; (with_reducible refine (dlast_any H8.out.1.2 HL.out.1).mono ?_); rintro e w9 ⟨rfl, hb9⟩; have hx9 := blk_kept H8.out.2.2 hb9; have x0 := hx9.cell 0 (.bool false) rfl; have x1 := hx9.cell 1 (.int .i64 0) rfl; have x2 := hx9.cell 2 (.string ⟨#[]⟩) rfl; have x3 := hx9.cell 3 (.slice none 0 0) rfl; have hbl := hx9.lt; have H9 := Lib.hid (And.intro (H8.out.1.below hb9) (H8.out.2.1.trans (hb9.mono H8.out.2.1.size))); clear hb9 hx9))
            obtain ⟨bx, hbx⟩ : ∃ bx, w8.heap.size = bx := ⟨_, rfl⟩
            rw [hbx] at x0 x1 x2 x3 hbl ⊢
            clear hbx k7
            refine wp_region_held_drew (S := (fun w' => w'.cell? ⟨bx, 0, none⟩ = some (.bool false) ∧ w'.cell? ⟨bx, 1, none⟩ = some (.int .i64 0) ∧ w'.cell? ⟨bx, 2, none⟩ = some (.string ⟨#[]⟩) ∧ w'.cell? ⟨bx, 3, none⟩ = some (.slice none 0 0))) (by kernel_rfl) (by (try dsimp only); go_keep) (fun hHeld => ?_)
            refine wpAnyH_take (i := 0) (v := ?_) rfl (by kernel_rfl) (by kernel_rfl) (by kernel_rfl) (fun _ _ _ h => h) (Or.inl ⟨by rfl, ?h3_23_12_2_1⟩) (by assumption) ?_
            case h3_23_12_2_1 => (intro w hSw; (try dsimp only at hSw); go_simp; try with_reducible rfl)
            try simp only [Act.put, List.setIfInBounds_toArray, List.set_cons_zero, List.set_cons_succ, List.getElem_toArray, List.getElem_cons_zero, List.getElem_cons_succ]
            refine wpAnyH_take (i := 1) (v := ?_) rfl (by kernel_rfl) (by kernel_rfl) (by kernel_rfl) (fun _ _ _ h => h) (Or.inl ⟨by rfl, ?h3_23_12_2_2⟩) (by assumption) ?_
            case h3_23_12_2_2 => (intro w hSw; (try dsimp only at hSw); go_simp; try with_reducible rfl)
            try simp only [Act.put, List.setIfInBounds_toArray, List.set_cons_zero, List.set_cons_succ, List.getElem_toArray, List.getElem_cons_zero, List.getElem_cons_succ]
            refine wpAnyH_take (i := 2) (v := ?_) rfl (by kernel_rfl) (by kernel_rfl) (by kernel_rfl) (fun _ _ _ h => h) (Or.inl ⟨by rfl, ?h3_23_12_2_3⟩) (by assumption) ?_
            case h3_23_12_2_3 => (intro w hSw; (try dsimp only at hSw); go_simp; try with_reducible rfl)
            try simp only [Act.put, List.setIfInBounds_toArray, List.set_cons_zero, List.set_cons_succ, List.getElem_toArray, List.getElem_cons_zero, List.getElem_cons_succ]
            refine wpAnyH_take (i := 3) (v := ?_) rfl (by kernel_rfl) (by kernel_rfl) (by kernel_rfl) (fun _ _ _ h => h) (Or.inl ⟨by rfl, ?h3_23_12_2_4⟩) (by assumption) ?_
            case h3_23_12_2_4 => (intro w hSw; (try dsimp only at hSw); go_simp; try with_reducible rfl)
            try simp only [Act.put, List.setIfInBounds_toArray, List.set_cons_zero, List.set_cons_succ, List.getElem_toArray, List.getElem_cons_zero, List.getElem_cons_succ]
            refine wpAnyH_take (i := 4) (v := ?_) rfl (by kernel_rfl) (by kernel_rfl) (by kernel_rfl) (fun _ _ _ h => h) (Or.inl ⟨by rfl, ?h3_23_12_2_5⟩) (by assumption) ?_
            case h3_23_12_2_5 => (intro w hSw; (try dsimp only at hSw); go_simp; try with_reducible rfl)
            try simp only [Act.put, List.setIfInBounds_toArray, List.set_cons_zero, List.set_cons_succ, List.getElem_toArray, List.getElem_cons_zero, List.getElem_cons_succ]
            refine wpAnyH_take (i := 5) (v := ?_) rfl (by kernel_rfl) (by kernel_rfl) (by kernel_rfl) (fun _ _ _ h => h) (Or.inl ⟨by rfl, ?h3_23_12_2_6⟩) (by assumption) ?_
            case h3_23_12_2_6 => (intro w hSw; (try dsimp only at hSw); go_simp; try with_reducible rfl)
            try simp only [Act.put, List.setIfInBounds_toArray, List.set_cons_zero, List.set_cons_succ, List.getElem_toArray, List.getElem_cons_zero, List.getElem_cons_succ]
            refine wpAnyH_take (i := 6) (v := ?_) rfl (by kernel_rfl) (by kernel_rfl) (by kernel_rfl) (fun _ _ _ h => h) (Or.inl ⟨by rfl, ?h3_23_12_2_7⟩) (by assumption) ?_
            case h3_23_12_2_7 => (intro w hSw; (try dsimp only at hSw); go_simp; try with_reducible rfl)
            try simp only [Act.put, List.setIfInBounds_toArray, List.set_cons_zero, List.set_cons_succ, List.getElem_toArray, List.getElem_cons_zero, List.getElem_cons_succ]
            refine wpAnyH_take (i := 7) (v := undef) rfl (by kernel_rfl) (by kernel_rfl) (by kernel_rfl) (fun _ _ _ h => h) (Or.inr ⟨by rfl, rfl⟩) (by assumption) ?_
            try simp only [Act.put, List.setIfInBounds_toArray, List.set_cons_zero, List.set_cons_succ, List.getElem_toArray, List.getElem_cons_zero, List.getElem_cons_succ]
            refine wpAnyH_take (i := 8) (v := undef) rfl (by kernel_rfl) (by kernel_rfl) (by kernel_rfl) (fun _ _ _ h => h) (Or.inr ⟨by rfl, rfl⟩) (by assumption) ?_
            try simp only [Act.put, List.setIfInBounds_toArray, List.set_cons_zero, List.set_cons_succ, List.getElem_toArray, List.getElem_cons_zero, List.getElem_cons_succ]
            refine wpAnyH_take (i := 9) (v := undef) rfl (by kernel_rfl) (by kernel_rfl) (by kernel_rfl) (fun _ _ _ h => h) (Or.inr ⟨by rfl, rfl⟩) (by assumption) ?_
            try simp only [Act.put, List.setIfInBounds_toArray, List.set_cons_zero, List.set_cons_succ, List.getElem_toArray, List.getElem_cons_zero, List.getElem_cons_succ]
            refine wpAnyH_take (i := 10) (v := undef) rfl (by kernel_rfl) (by kernel_rfl) (by kernel_rfl) (fun _ _ _ h => h) (Or.inr ⟨by rfl, rfl⟩) (by assumption) ?_
            try simp only [Act.put, List.setIfInBounds_toArray, List.set_cons_zero, List.set_cons_succ, List.getElem_toArray, List.getElem_cons_zero, List.getElem_cons_succ]
            refine wpAnyH_take (i := 11) (v := undef) rfl (by kernel_rfl) (by kernel_rfl) (by kernel_rfl) (fun _ _ _ h => h) (Or.inr ⟨by rfl, rfl⟩) (by assumption) ?_
            try simp only [Act.put, List.setIfInBounds_toArray, List.set_cons_zero, List.set_cons_succ, List.getElem_toArray, List.getElem_cons_zero, List.getElem_cons_succ]
            refine wpAnyH_take (i := 12) (v := undef) rfl (by kernel_rfl) (by kernel_rfl) (by kernel_rfl) (fun _ _ _ h => h) (Or.inr ⟨by rfl, rfl⟩) (by assumption) ?_
            try simp only [Act.put, List.setIfInBounds_toArray, List.set_cons_zero, List.set_cons_succ, List.getElem_toArray, List.getElem_cons_zero, List.getElem_cons_succ]
            refine wpAnyH_take (i := 13) (v := undef) rfl (by kernel_rfl) (by kernel_rfl) (by kernel_rfl) (fun _ _ _ h => h) (Or.inr ⟨by rfl, rfl⟩) (by assumption) ?_
            try simp only [Act.put, List.setIfInBounds_toArray, List.set_cons_zero, List.set_cons_succ, List.getElem_toArray, List.getElem_cons_zero, List.getElem_cons_succ]
            refine wpAnyH_take (i := 14) (v := undef) rfl (by kernel_rfl) (by kernel_rfl) (by kernel_rfl) (fun _ _ _ h => h) (Or.inr ⟨by rfl, rfl⟩) (by assumption) ?_
            try simp only [Act.put, List.setIfInBounds_toArray, List.set_cons_zero, List.set_cons_succ, List.getElem_toArray, List.getElem_cons_zero, List.getElem_cons_succ]
            refine wpAnyH_take (i := 15) (v := undef) rfl (by kernel_rfl) (by kernel_rfl) (by kernel_rfl) (fun _ _ _ h => h) (Or.inr ⟨by rfl, rfl⟩) (by assumption) ?_
            try simp only [Act.put, List.setIfInBounds_toArray, List.set_cons_zero, List.set_cons_succ, List.getElem_toArray, List.getElem_cons_zero, List.getElem_cons_succ]
            refine wpAnyH_take (i := 16) (v := undef) rfl (by kernel_rfl) (by kernel_rfl) (by kernel_rfl) (fun _ _ _ h => h) (Or.inr ⟨by rfl, rfl⟩) (by assumption) ?_
            try simp only [Act.put, List.setIfInBounds_toArray, List.set_cons_zero, List.set_cons_succ, List.getElem_toArray, List.getElem_cons_zero, List.getElem_cons_succ]
            refine wpAnyH_take (i := 17) (v := ?_) rfl (by kernel_rfl) (by kernel_rfl) (by kernel_rfl) (fun _ _ _ h => h) (Or.inl ⟨by rfl, ?h3_23_12_2_8⟩) (by assumption) ?_
            case h3_23_12_2_8 => (intro w hSw; (try dsimp only at hSw); go_simp; try with_reducible rfl)
            try simp only [Act.put, List.setIfInBounds_toArray, List.set_cons_zero, List.set_cons_succ, List.getElem_toArray, List.getElem_cons_zero, List.getElem_cons_succ]
            refine wpAnyH_take (i := 18) (v := ?_) rfl (by kernel_rfl) (by kernel_rfl) (by kernel_rfl) (fun _ _ _ h => h) (Or.inl ⟨by rfl, ?h3_23_12_2_9⟩) (by assumption) ?_
            case h3_23_12_2_9 => (intro w hSw; (try dsimp only at hSw); go_simp; try with_reducible rfl)
            try simp only [Act.put, List.setIfInBounds_toArray, List.set_cons_zero, List.set_cons_succ, List.getElem_toArray, List.getElem_cons_zero, List.getElem_cons_succ]
            refine wpAnyH_take (i := 19) (v := ?_) rfl (by kernel_rfl) (by kernel_rfl) (by kernel_rfl) (fun _ _ _ h => h) (Or.inl ⟨by rfl, ?h3_23_12_2_10⟩) (by assumption) ?_
            case h3_23_12_2_10 => (intro w hSw; (try dsimp only at hSw); go_simp; try with_reducible rfl)
            try simp only [Act.put, List.setIfInBounds_toArray, List.set_cons_zero, List.set_cons_succ, List.getElem_toArray, List.getElem_cons_zero, List.getElem_cons_succ]
            refine wpAnyH_take (i := 20) (v := ?_) rfl (by kernel_rfl) (by kernel_rfl) (by kernel_rfl) (fun _ _ _ h => h) (Or.inl ⟨by rfl, ?h3_23_12_2_11⟩) (by assumption) ?_
            case h3_23_12_2_11 => (intro w hSw; (try dsimp only at hSw); go_simp; try with_reducible rfl)
            try simp only [Act.put, List.setIfInBounds_toArray, List.set_cons_zero, List.set_cons_succ, List.getElem_toArray, List.getElem_cons_zero, List.getElem_cons_succ]
            refine wpAnyH_take (i := 21) (v := ?_) rfl (by kernel_rfl) (by kernel_rfl) (by kernel_rfl) (fun _ _ _ h => h) (Or.inl ⟨by rfl, ?h3_23_12_2_12⟩) (by assumption) ?_
            case h3_23_12_2_12 => (intro w hSw; (try dsimp only at hSw); go_simp; try with_reducible rfl)
            try simp only [Act.put, List.setIfInBounds_toArray, List.set_cons_zero, List.set_cons_succ, List.getElem_toArray, List.getElem_cons_zero, List.getElem_cons_succ]
            refine wpAnyH_take (i := 22) (v := ?_) rfl (by kernel_rfl) (by kernel_rfl) (by kernel_rfl) (fun _ _ _ h => h) (Or.inl ⟨by rfl, ?h3_23_12_2_13⟩) (by assumption) ?_
            case h3_23_12_2_13 => (intro w hSw; (try dsimp only at hSw); go_simp; try with_reducible rfl)
            try simp only [Act.put, List.setIfInBounds_toArray, List.set_cons_zero, List.set_cons_succ, List.getElem_toArray, List.getElem_cons_zero, List.getElem_cons_succ]
            refine wpAnyH_take (i := 23) (v := ?_) rfl (by kernel_rfl) (by kernel_rfl) (by kernel_rfl) (fun _ _ _ h => h) (Or.inl ⟨by rfl, ?h3_23_12_2_14⟩) (by assumption) ?_
            case h3_23_12_2_14 => (intro w hSw; (try dsimp only at hSw); go_simp; try with_reducible rfl)
            try simp only [Act.put, List.setIfInBounds_toArray, List.set_cons_zero, List.set_cons_succ, List.getElem_toArray, List.getElem_cons_zero, List.getElem_cons_succ]
            refine wpAnyH_take (i := 24) (v := ?_) rfl (by kernel_rfl) (by kernel_rfl) (by kernel_rfl) (fun _ _ _ h => h) (Or.inl ⟨by rfl, ?h3_23_12_2_15⟩) (by assumption) ?_
            case h3_23_12_2_15 => (intro w hSw; (try dsimp only at hSw); go_simp; try with_reducible rfl)
            try simp only [Act.put, List.setIfInBounds_toArray, List.set_cons_zero, List.set_cons_succ, List.getElem_toArray, List.getElem_cons_zero, List.getElem_cons_succ]
            refine wpAnyH_ready (rs := [25]) (by kernel_rfl) (by simp) ?_
            refine AllReadyH.cons rfl (fun K hK => ?_) AllReadyH.nil
            go_simp
            (with_reducible refine (alike_true (AtrsAt.nil w9.drew 0) (AtrsAt.nil w9.drew 0)).mono ?_)
            rintro e wa ⟨rfl, hba⟩
            have hb9a := (dqr w9).trans (hba.mono (dqr w9).size)
            have aa0 := (hb9a.cell (p := ⟨bx, 0, none⟩) hbl).trans x0
            have aa1 := (hb9a.cell (p := ⟨bx, 1, none⟩) hbl).trans x1
            have aa2 := (hb9a.cell (p := ⟨bx, 2, none⟩) hbl).trans x2
            have aa3 := (hb9a.cell (p := ⟨bx, 3, none⟩) hbl).trans x3
            have HAA := Lib.hid (And.intro (H9.out.1.below hb9a) (And.intro (H9.out.2.trans (hb9a.mono H9.out.2.size)) hb9a))
            clear hba hb9a
            go_wp2_with fail
            refine hK.out _ _ (by (try dsimp only); go_keep) (fun hHeld2 => ?_)
            clear hK K hHeld
            have hHeld := hHeld2
            clear hHeld2
            try simp only [Act.put, List.setIfInBounds_toArray, List.set_cons_zero, List.set_cons_succ, List.getElem_toArray, List.getElem_cons_zero, List.getElem_cons_succ]
            refine wpAnyH_take (i := 26) (v := ?_) rfl (by kernel_rfl) (by kernel_rfl) (by kernel_rfl) (fun _ _ _ h => h) (Or.inl ⟨by rfl, ?h3_23_12_2_16⟩) (by assumption) ?_
            case h3_23_12_2_16 => (intro w hSw; (try dsimp only at hSw); go_simp; try with_reducible rfl)
            try simp only [Act.put, List.setIfInBounds_toArray, List.set_cons_zero, List.set_cons_succ, List.getElem_toArray, List.getElem_cons_zero, List.getElem_cons_succ]
            refine wpAnyH_take (i := 27) (v := ?_) rfl (by kernel_rfl) (by kernel_rfl) (by kernel_rfl) (fun _ _ _ h => h) (Or.inl ⟨by rfl, ?h3_23_12_2_17⟩) (by assumption) ?_
            case h3_23_12_2_17 => (intro w hSw; (try dsimp only at hSw); go_simp; try with_reducible rfl)
            try simp only [Act.put, List.setIfInBounds_toArray, List.set_cons_zero, List.set_cons_succ, List.getElem_toArray, List.getElem_cons_zero, List.getElem_cons_succ]
            refine wpAnyH_take (i := 28) (v := ?_) rfl (by kernel_rfl) (by kernel_rfl) (by kernel_rfl) (fun _ _ _ h => h) (Or.inl ⟨by rfl, ?h3_23_12_2_18⟩) (by assumption) ?_
            case h3_23_12_2_18 => (intro w hSw; (try dsimp only at hSw); go_simp; try with_reducible rfl)
            try simp only [Act.put, List.setIfInBounds_toArray, List.set_cons_zero, List.set_cons_succ, List.getElem_toArray, List.getElem_cons_zero, List.getElem_cons_succ]
            refine wpAnyH_take (i := 29) (v := ?_) rfl (by kernel_rfl) (by kernel_rfl) (by kernel_rfl) (fun _ _ _ h => h) (Or.inl ⟨by rfl, ?h3_23_12_2_19⟩) (by assumption) ?_
            case h3_23_12_2_19 => (intro w hSw; (try dsimp only at hSw); go_simp; try with_reducible rfl)
            try simp only [Act.put, List.setIfInBounds_toArray, List.set_cons_zero, List.set_cons_succ, List.getElem_toArray, List.getElem_cons_zero, List.getElem_cons_succ]
            refine wpAnyH_take (i := 30) (v := ?_) rfl (by kernel_rfl) (by kernel_rfl) (by kernel_rfl) (fun _ _ _ h => h) (Or.inl ⟨by rfl, ?h3_23_12_2_20⟩) (by assumption) ?_
            case h3_23_12_2_20 => (intro w hSw; (try dsimp only at hSw); go_simp; try with_reducible rfl)
            try simp only [Act.put, List.setIfInBounds_toArray, List.set_cons_zero, List.set_cons_succ, List.getElem_toArray, List.getElem_cons_zero, List.getElem_cons_succ]
            refine wpAnyH_take (i := 31) (v := ?_) rfl (by kernel_rfl) (by kernel_rfl) (by kernel_rfl) (fun _ _ _ h => h) (Or.inl ⟨by rfl, ?h3_23_12_2_21⟩) (by assumption) ?_
            case h3_23_12_2_21 => (intro w hSw; (try dsimp only at hSw); go_simp; try with_reducible rfl)
            try simp only [Act.put, List.setIfInBounds_toArray, List.set_cons_zero, List.set_cons_succ, List.getElem_toArray, List.getElem_cons_zero, List.getElem_cons_succ]
            refine wpAnyH_take (i := 33) (v := ?_) rfl (by kernel_rfl) (by kernel_rfl) (by kernel_rfl) (fun _ _ _ h => h) (Or.inl ⟨by rfl, ?h3_23_12_2_22⟩) (by assumption) ?_
            case h3_23_12_2_22 => (intro w hSw; (try dsimp only at hSw); go_simp; try with_reducible rfl)
            try simp only [Act.put, List.setIfInBounds_toArray, List.set_cons_zero, List.set_cons_succ, List.getElem_toArray, List.getElem_cons_zero, List.getElem_cons_succ]
            refine wpAnyH_take (i := 34) (v := ?_) rfl (by kernel_rfl) (by kernel_rfl) (by kernel_rfl) (fun _ _ _ h => h) (Or.inl ⟨by rfl, ?h3_23_12_2_23⟩) (by assumption) ?_
            case h3_23_12_2_23 => (intro w hSw; (try dsimp only at hSw); go_simp; try with_reducible rfl)
            try simp only [Act.put, List.setIfInBounds_toArray, List.set_cons_zero, List.set_cons_succ, List.getElem_toArray, List.getElem_cons_zero, List.getElem_cons_succ]
            refine wpAnyH_ready (rs := [32]) (by kernel_rfl) (by simp) ?_
            refine AllReadyH.cons rfl (fun K hK => ?_) AllReadyH.nil
            go_simp
            (with_reducible refine (cut_n HAA.out.1.1 (HO.out.below HAA.out.2.1) HS.out.2.2.2.2.1).mono ?_)
            rintro e wb ⟨vb1, rfl, hi1, hbb⟩
            have hb9b := HAA.out.2.2.trans (hbb.mono HAA.out.2.2.size)
            have ab0 := (hb9b.cell (p := ⟨bx, 0, none⟩) hbl).trans x0
            have ab1 := (hb9b.cell (p := ⟨bx, 1, none⟩) hbl).trans x1
            have ab2 := (hb9b.cell (p := ⟨bx, 2, none⟩) hbl).trans x2
            have ab3 := (hb9b.cell (p := ⟨bx, 3, none⟩) hbl).trans x3
            have HBB := Lib.hid (And.intro (HAA.out.1.below hbb) (And.intro (HAA.out.2.1.trans (hbb.mono HAA.out.2.1.size)) (And.intro hb9b hi1)))
            clear hbb hb9b hi1
            go_wp2_with fail
            refine hK.out _ _ (by (try dsimp only); go_keep) (fun hHeld2 => ?_)
            clear hK K hHeld
            have hHeld := hHeld2
            clear hHeld2
            try simp only [Act.put, List.setIfInBounds_toArray, List.set_cons_zero, List.set_cons_succ, List.getElem_toArray, List.getElem_cons_zero, List.getElem_cons_succ]
            refine wpAnyH_ready (rs := [35]) (by kernel_rfl) (by simp) ?_
            refine AllReadyH.cons rfl (fun K hK => ?_) AllReadyH.nil
            go_simp
            (with_reducible refine (dcut_any HBB.out.1.2 (HO.out.below HBB.out.2.1) HS.out.2.2.2.2.1).mono ?_)
            rintro e wc ⟨vc1, rfl, hi2, hbc⟩
            have hb9c := HBB.out.2.2.1.trans (hbc.mono HBB.out.2.2.1.size)
            have ac0 := (hb9c.cell (p := ⟨bx, 0, none⟩) hbl).trans x0
            have ac1 := (hb9c.cell (p := ⟨bx, 1, none⟩) hbl).trans x1
            have ac2 := (hb9c.cell (p := ⟨bx, 2, none⟩) hbl).trans x2
            have ac3 := (hb9c.cell (p := ⟨bx, 3, none⟩) hbl).trans x3
            have HCC := Lib.hid (And.intro (HBB.out.1.below hbc) (And.intro (HBB.out.2.1.trans (hbc.mono HBB.out.2.1.size)) (And.intro hb9c (And.intro (HBB.out.2.2.2.below hbc) hi2))))
            clear hbc hb9c hi2
            go_wp2_with fail
            refine hK.out _ _ (by (try dsimp only); go_keep) (fun hHeld2 => ?_)
            clear hK K hHeld
            have hHeld := hHeld2
            clear hHeld2
            try simp only [Act.put, List.setIfInBounds_toArray, List.set_cons_zero, List.set_cons_succ, List.getElem_toArray, List.getElem_cons_zero, List.getElem_cons_succ]
            refine wpAnyH_ready (rs := [36]) (by kernel_rfl) (by simp) ?_
            refine AllReadyH.cons rfl (fun K hK => ?_) AllReadyH.nil
            go_simp
            (with_reducible refine (ints_true HCC.out.2.2.2.1 HCC.out.2.2.2.2).mono ?_)
            rintro e wd ⟨rfl, qd, hqd⟩
            have hbd : Below wc.heap.size wc wd := by rw [← hqd]; exact below_drewN (Below.refl _ wc) qd
            have hb9d := HCC.out.2.2.1.trans (hbd.mono HCC.out.2.2.1.size)
            have ad0 := (hb9d.cell (p := ⟨bx, 0, none⟩) hbl).trans x0
            have ad1 := (hb9d.cell (p := ⟨bx, 1, none⟩) hbl).trans x1
            have ad2 := (hb9d.cell (p := ⟨bx, 2, none⟩) hbl).trans x2
            have ad3 := (hb9d.cell (p := ⟨bx, 3, none⟩) hbl).trans x3
            have HDD := Lib.hid (And.intro (HCC.out.1.below hbd) (HCC.out.2.1.trans (hbd.mono HCC.out.2.1.size)))
            clear hbd hb9d hqd
            go_wp2_with fail
            refine hK.out _ _ (by (try dsimp only); go_keep) (fun hHeld2 => ?_)
            clear hK K hHeld
            have hHeld := hHeld2
            clear hHeld2
            try simp only [Act.put, List.setIfInBounds_toArray, List.set_cons_zero, List.set_cons_succ, List.getElem_toArray, List.getElem_cons_zero, List.getElem_cons_succ]
            refine wpAnyH_take (i := 37) (v := ?_) rfl (by kernel_rfl) (by kernel_rfl) (by kernel_rfl) (fun _ _ _ h => h) (Or.inl ⟨by rfl, ?h3_23_12_2_24⟩) (by assumption) ?_
            case h3_23_12_2_24 => (intro w hSw; (try dsimp only at hSw); go_simp; try with_reducible rfl)
            try simp only [Act.put, List.setIfInBounds_toArray, List.set_cons_zero, List.set_cons_succ, List.getElem_toArray, List.getElem_cons_zero, List.getElem_cons_succ]
            refine wpAnyH_take (i := 38) (v := ?_) rfl (by kernel_rfl) (by kernel_rfl) (by kernel_rfl) (fun _ _ _ h => h) (Or.inl ⟨by rfl, ?h3_23_12_2_25⟩) (by assumption) ?_
            case h3_23_12_2_25 => (intro w hSw; (try dsimp only at hSw); go_simp; try with_reducible rfl)
            try simp only [Act.put, List.setIfInBounds_toArray, List.set_cons_zero, List.set_cons_succ, List.getElem_toArray, List.getElem_cons_zero, List.getElem_cons_succ]
            refine wpAnyH_done (by kernel_rfl) ?_ _
            clear hHeld
            go_wp2
            go_roundw
            case rel => exact ⟨k + 1, es', by omega, by go_num, Lib.hid ⟨HDD.out.1, HS.out.2.1, HDD.out.2⟩⟩
            case measure => simp [intOf]; omega
          · obtain ⟨gr, hgr, hgrl, hcr⟩ := HI.out.2.2 (fun e0 => by rw [e0] at hek; simp at hek)
            obtain ⟨vb, nb, cb, htb, s0, s1, s2, s3⟩ := hcr kk _ hek
            simp only at s0 s1 s2 s3 htb
            have hkn : kk < n := by have := (List.getElem?_eq_some_iff.1 hek).1; rw [HS.out.2.2.1] at this; exact this
            have i1 : (0 : Int) ≤ (kk : Int) := by omega
            have i2 : (kk : Int) < (n : Int) := by omega
            have HL := Lib.hid (And.intro hlr (And.intro (show lastF nm0 es' = some ⟨emk, eid, enm, eat⟩ from hlf) (And.intro hgr htb)))
            clear hlr hlf hek hcr htb hgr
            rw [HL.out.2.2.1] at k7
            go_wp2_with (first
              | (go_at_call 16; (with_reducible refine (last_some_n HI.out.1.1 HL.out.2.1 HL.out.2.2.2.ok).mono ?_); rintro e w8 ⟨ua, una, uc, rfl, hu8, hb8⟩; have hba := hb8.trans (((Below.refl _ w8).alloc (Nat.le_refl _) (.cells #[.bool emk, i64 eid, .string enm, .slice ua una uc] 33)).mono hb8.size); have H8 := Lib.hid (And.intro (HI.out.1.below hba) (And.intro (HI.out.2.1.trans (hba.mono HI.out.2.1.size)) (And.intro (Blk.new w8 33 #[.bool emk, i64 eid, .string enm, .slice ua una uc]) (And.intro (hu8.below ((Below.refl _ w8).alloc (Nat.le_refl _) (.cells #[.bool emk, i64 eid, .string enm, .slice ua una uc] 33))) hba)))); clear hu8 hb8 hba)
              | (go_at_call 17; (with_reducible refine (dlast_any H8.out.1.2 HL.out.1).mono ?_); rintro e w9 ⟨rfl, hb9⟩; have hx9 := blk_kept H8.out.2.2.1 hb9; have x0 := hx9.cell 0 (.bool emk) rfl; have x1 := hx9.cell 1 (i64 eid) rfl; have x2 := hx9.cell 2 (.string enm) rfl; have x3 := hx9.cell 3 (.slice ua una uc) rfl; have hbl := hx9.lt; have hbi := H8.out.2.2.2.2.trans (hb9.mono H8.out.2.2.2.2.size); have k9 := (hbi.cell (p := ⟨rb, 0, none⟩) hri).trans k7; have q0 := (hbi.cell (p := ⟨gr, kk * 4, none⟩) hgrl).trans s0; have q1 := (hbi.cell (p := ⟨gr, kk * 4 + 1, none⟩) hgrl).trans s1; have q2 := (hbi.cell (p := ⟨gr, kk * 4 + 2, none⟩) hgrl).trans s2; have q3 := (hbi.cell (p := ⟨gr, kk * 4 + 3, none⟩) hgrl).trans s3; have hr9 := Nat.lt_of_lt_of_le hri hbi.size; have hg9 := Nat.lt_of_lt_of_le hgrl hbi.size; have H9 := Lib.hid (And.intro (H8.out.1.below hb9) (And.intro (H8.out.2.1.trans (hb9.mono H8.out.2.1.size)) (And.intro ((H8.out.2.2.2.1.below hb9).below (dqr w9)) ((HL.out.2.2.2.below hbi).below (dqr w9))))); clear hb9 hx9 hbi))
            obtain ⟨bx, hbx⟩ : ∃ bx, w8.heap.size = bx := ⟨_, rfl⟩
            rw [hbx] at x0 x1 x2 x3 hbl ⊢
            clear hbx k7 s0 s1 s2 s3
            refine wp_region_held_drew (S := (fun w' => w'.cell? ⟨bx, 0, none⟩ = some (.bool emk) ∧ w'.cell? ⟨bx, 1, none⟩ = some (i64 eid) ∧ w'.cell? ⟨bx, 2, none⟩ = some (.string enm) ∧ w'.cell? ⟨bx, 3, none⟩ = some (.slice ua una uc) ∧ w'.cell? ⟨rb, 0, none⟩ = some (.slice (some ⟨gr, 0, none⟩) n cr) ∧ w'.cell? ⟨gr, kk * 4, none⟩ = some (.bool emk) ∧ w'.cell? ⟨gr, kk * 4 + 1, none⟩ = some (i64 eid) ∧ w'.cell? ⟨gr, kk * 4 + 2, none⟩ = some (.string enm) ∧ w'.cell? ⟨gr, kk * 4 + 3, none⟩ = some (.slice vb nb cb))) (by kernel_rfl) (by (try dsimp only); go_keep) (fun hHeld => ?_)
            refine wpAnyH_take (i := 0) (v := ?_) rfl (by kernel_rfl) (by kernel_rfl) (by kernel_rfl) (fun _ _ _ h => h) (Or.inl ⟨by rfl, ?h3_23_12_3_1⟩) (by assumption) ?_
            case h3_23_12_3_1 => (intro w hSw; (try dsimp only at hSw); go_simp; try with_reducible rfl)
            try simp only [Act.put, List.setIfInBounds_toArray, List.set_cons_zero, List.set_cons_succ, List.getElem_toArray, List.getElem_cons_zero, List.getElem_cons_succ]
            refine wpAnyH_take (i := 1) (v := ?_) rfl (by kernel_rfl) (by kernel_rfl) (by kernel_rfl) (fun _ _ _ h => h) (Or.inl ⟨by rfl, ?h3_23_12_3_2⟩) (by assumption) ?_
            case h3_23_12_3_2 => (intro w hSw; (try dsimp only at hSw); go_simp; try with_reducible rfl)
            try simp only [Act.put, List.setIfInBounds_toArray, List.set_cons_zero, List.set_cons_succ, List.getElem_toArray, List.getElem_cons_zero, List.getElem_cons_succ]
            refine wpAnyH_take (i := 2) (v := ?_) rfl (by kernel_rfl) (by kernel_rfl) (by kernel_rfl) (fun _ _ _ h => h) (Or.inl ⟨by rfl, ?h3_23_12_3_3⟩) (by assumption) ?_
            case h3_23_12_3_3 => (intro w hSw; (try dsimp only at hSw); go_simp; try with_reducible rfl)
            try simp only [Act.put, List.setIfInBounds_toArray, List.set_cons_zero, List.set_cons_succ, List.getElem_toArray, List.getElem_cons_zero, List.getElem_cons_succ]
            refine wpAnyH_take (i := 3) (v := ?_) rfl (by kernel_rfl) (by kernel_rfl) (by kernel_rfl) (fun _ _ _ h => h) (Or.inl ⟨by rfl, ?h3_23_12_3_4⟩) (by assumption) ?_
            case h3_23_12_3_4 => (intro w hSw; (try dsimp only at hSw); go_simp; try with_reducible rfl)
            try simp only [Act.put, List.setIfInBounds_toArray, List.set_cons_zero, List.set_cons_succ, List.getElem_toArray, List.getElem_cons_zero, List.getElem_cons_succ]
            refine wpAnyH_take (i := 4) (v := ?_) rfl (by kernel_rfl) (by kernel_rfl) (by kernel_rfl) (fun _ _ _ h => h) (Or.inl ⟨by rfl, ?h3_23_12_3_5⟩) (by assumption) ?_
            case h3_23_12_3_5 => (intro w hSw; (try dsimp only at hSw); go_simp; try with_reducible rfl)
            try simp only [Act.put, List.setIfInBounds_toArray, List.set_cons_zero, List.set_cons_succ, List.getElem_toArray, List.getElem_cons_zero, List.getElem_cons_succ]
            refine wpAnyH_take (i := 5) (v := ?_) rfl (by kernel_rfl) (by kernel_rfl) (by kernel_rfl) (fun _ _ _ h => h) (Or.inl ⟨by rfl, ?h3_23_12_3_6⟩) (by assumption) ?_
            case h3_23_12_3_6 => (intro w hSw; (try dsimp only at hSw); go_simp; try with_reducible rfl)
            try simp only [Act.put, List.setIfInBounds_toArray, List.set_cons_zero, List.set_cons_succ, List.getElem_toArray, List.getElem_cons_zero, List.getElem_cons_succ]
            refine wpAnyH_take (i := 6) (v := ?_) rfl (by kernel_rfl) (by kernel_rfl) (by kernel_rfl) (fun _ _ _ h => h) (Or.inl ⟨by rfl, ?h3_23_12_3_7⟩) (by assumption) ?_
            case h3_23_12_3_7 => (intro w hSw; (try dsimp only at hSw); go_simp; try with_reducible rfl)
            try simp only [Act.put, List.setIfInBounds_toArray, List.set_cons_zero, List.set_cons_succ, List.getElem_toArray, List.getElem_cons_zero, List.getElem_cons_succ]
            refine wpAnyH_take (i := 7) (v := ?_) rfl (by kernel_rfl) (by kernel_rfl) (by kernel_rfl) (fun _ _ _ h => h) (Or.inl ⟨by rfl, ?h3_23_12_3_8⟩) (by assumption) ?_
            case h3_23_12_3_8 => (intro w hSw; (try dsimp only at hSw); go_simp; try with_reducible rfl)
            try simp only [Act.put, List.setIfInBounds_toArray, List.set_cons_zero, List.set_cons_succ, List.getElem_toArray, List.getElem_cons_zero, List.getElem_cons_succ]
            refine wpAnyH_take (i := 8) (v := ?_) rfl (by kernel_rfl) (by kernel_rfl) (by kernel_rfl) (fun _ _ _ h => h) (Or.inl ⟨by rfl, ?h3_23_12_3_9⟩) (by assumption) ?_
            case h3_23_12_3_9 => (intro w hSw; (try dsimp only at hSw); go_simp; try with_reducible rfl)
            try simp only [Act.put, List.setIfInBounds_toArray, List.set_cons_zero, List.set_cons_succ, List.getElem_toArray, List.getElem_cons_zero, List.getElem_cons_succ]
            refine wpAnyH_take (i := 9) (v := ?_) rfl (by kernel_rfl) (by kernel_rfl) (by kernel_rfl) (fun _ _ _ h => h) (Or.inl ⟨by rfl, ?h3_23_12_3_10⟩) (by assumption) ?_
            case h3_23_12_3_10 => (intro w hSw; (try dsimp only at hSw); go_simp; try with_reducible rfl)
            try simp only [Act.put, List.setIfInBounds_toArray, List.set_cons_zero, List.set_cons_succ, List.getElem_toArray, List.getElem_cons_zero, List.getElem_cons_succ]
            refine wpAnyH_take (i := 10) (v := ?_) rfl (by kernel_rfl) (by kernel_rfl) (by kernel_rfl) (fun _ _ _ h => h) (Or.inl ⟨by rfl, ?h3_23_12_3_11⟩) (by assumption) ?_
            case h3_23_12_3_11 => (intro w hSw; (try dsimp only at hSw); go_simp; try with_reducible rfl)
            try simp only [Act.put, List.setIfInBounds_toArray, List.set_cons_zero, List.set_cons_succ, List.getElem_toArray, List.getElem_cons_zero, List.getElem_cons_succ]
            refine wpAnyH_take (i := 11) (v := ?_) rfl (by kernel_rfl) (by kernel_rfl) (by kernel_rfl) (fun _ _ _ h => h) (Or.inl ⟨by rfl, ?h3_23_12_3_12⟩) (by assumption) ?_
            case h3_23_12_3_12 => (intro w hSw; (try dsimp only at hSw); go_simp; try with_reducible rfl)
            try simp only [Act.put, List.setIfInBounds_toArray, List.set_cons_zero, List.set_cons_succ, List.getElem_toArray, List.getElem_cons_zero, List.getElem_cons_succ]
            refine wpAnyH_take (i := 12) (v := ?_) rfl (by kernel_rfl) (by kernel_rfl) (by kernel_rfl) (fun _ _ _ h => h) (Or.inl ⟨by rfl, ?h3_23_12_3_13⟩) (by assumption) ?_
            case h3_23_12_3_13 => (intro w hSw; (try dsimp only at hSw); go_simp; try with_reducible rfl)
            try simp only [Act.put, List.setIfInBounds_toArray, List.set_cons_zero, List.set_cons_succ, List.getElem_toArray, List.getElem_cons_zero, List.getElem_cons_succ]
            refine wpAnyH_take (i := 13) (v := ?_) rfl (by kernel_rfl) (by kernel_rfl) (by kernel_rfl) (fun _ _ _ h => h) (Or.inl ⟨by rfl, ?h3_23_12_3_14⟩) (by assumption) ?_
            case h3_23_12_3_14 => (intro w hSw; (try dsimp only at hSw); go_simp; try with_reducible rfl)
            try simp only [Act.put, List.setIfInBounds_toArray, List.set_cons_zero, List.set_cons_succ, List.getElem_toArray, List.getElem_cons_zero, List.getElem_cons_succ]
            refine wpAnyH_take (i := 14) (v := ?_) rfl (by kernel_rfl) (by kernel_rfl) (by kernel_rfl) (fun _ _ _ h => h) (Or.inl ⟨by rfl, ?h3_23_12_3_15⟩) (by assumption) ?_
            case h3_23_12_3_15 => (intro w hSw; (try dsimp only at hSw); go_simp; try with_reducible rfl)
            try simp only [Act.put, List.setIfInBounds_toArray, List.set_cons_zero, List.set_cons_succ, List.getElem_toArray, List.getElem_cons_zero, List.getElem_cons_succ]
            refine wpAnyH_ready (rs := [15]) (by kernel_rfl) (by simp) ?_
            refine AllReadyH.cons rfl (fun K hK => ?_) AllReadyH.nil
            go_simp
            (with_reducible refine (alike_true H9.out.2.2.1 H9.out.2.2.2).mono ?_)
            rintro e wa ⟨rfl, hba⟩
            have hb9a := (dqr w9).trans (hba.mono (dqr w9).size)
            have aa0 := (hb9a.cell (p := ⟨bx, 0, none⟩) hbl).trans x0
            have aa1 := (hb9a.cell (p := ⟨bx, 1, none⟩) hbl).trans x1
            have aa2 := (hb9a.cell (p := ⟨bx, 2, none⟩) hbl).trans x2
            have aa3 := (hb9a.cell (p := ⟨bx, 3, none⟩) hbl).trans x3
            have aa4 := (hb9a.cell (p := ⟨rb, 0, none⟩) hr9).trans k9
            have aa5 := (hb9a.cell (p := ⟨gr, kk * 4, none⟩) hg9).trans q0
            have aa6 := (hb9a.cell (p := ⟨gr, kk * 4 + 1, none⟩) hg9).trans q1
            have aa7 := (hb9a.cell (p := ⟨gr, kk * 4 + 2, none⟩) hg9).trans q2
            have aa8 := (hb9a.cell (p := ⟨gr, kk * 4 + 3, none⟩) hg9).trans q3
            have HAA := Lib.hid (And.intro (H9.out.1.below hb9a) (And.intro (H9.out.2.1.trans (hb9a.mono H9.out.2.1.size)) hb9a))
            clear hba hb9a
            go_wp2_with fail
            refine hK.out _ _ (by (try dsimp only); go_keep) (fun hHeld2 => ?_)
            clear hK K hHeld
            have hHeld := hHeld2
            clear hHeld2
            try simp only [Act.put, List.setIfInBounds_toArray, List.set_cons_zero, List.set_cons_succ, List.getElem_toArray, List.getElem_cons_zero, List.getElem_cons_succ]
            refine wpAnyH_take (i := 16) (v := ?_) rfl (by kernel_rfl) (by kernel_rfl) (by kernel_rfl) (fun _ _ _ h => h) (Or.inl ⟨by rfl, ?h3_23_12_3_16⟩) (by assumption) ?_
            case h3_23_12_3_16 => (intro w hSw; (try dsimp only at hSw); go_simp; try with_reducible rfl)
            try simp only [Act.put, List.setIfInBounds_toArray, List.set_cons_zero, List.set_cons_succ, List.getElem_toArray, List.getElem_cons_zero, List.getElem_cons_succ]
            refine wpAnyH_take (i := 17) (v := ?_) rfl (by kernel_rfl) (by kernel_rfl) (by kernel_rfl) (fun _ _ _ h => h) (Or.inl ⟨by rfl, ?h3_23_12_3_17⟩) (by assumption) ?_
            case h3_23_12_3_17 => (intro w hSw; (try dsimp only at hSw); go_simp; try with_reducible rfl)
            try simp only [Act.put, List.setIfInBounds_toArray, List.set_cons_zero, List.set_cons_succ, List.getElem_toArray, List.getElem_cons_zero, List.getElem_cons_succ]
            refine wpAnyH_take (i := 18) (v := ?_) rfl (by kernel_rfl) (by kernel_rfl) (by kernel_rfl) (fun _ _ _ h => h) (Or.inl ⟨by rfl, ?h3_23_12_3_18⟩) (by assumption) ?_
            case h3_23_12_3_18 => (intro w hSw; (try dsimp only at hSw); go_simp; try with_reducible rfl)
            try simp only [Act.put, List.setIfInBounds_toArray, List.set_cons_zero, List.set_cons_succ, List.getElem_toArray, List.getElem_cons_zero, List.getElem_cons_succ]
            refine wpAnyH_take (i := 19) (v := ?_) rfl (by kernel_rfl) (by kernel_rfl) (by kernel_rfl) (fun _ _ _ h => h) (Or.inl ⟨by rfl, ?h3_23_12_3_19⟩) (by assumption) ?_
            case h3_23_12_3_19 => (intro w hSw; (try dsimp only at hSw); go_simp; try with_reducible rfl)
            try simp only [Act.put, List.setIfInBounds_toArray, List.set_cons_zero, List.set_cons_succ, List.getElem_toArray, List.getElem_cons_zero, List.getElem_cons_succ]
            refine wpAnyH_take (i := 20) (v := ?_) rfl (by kernel_rfl) (by kernel_rfl) (by kernel_rfl) (fun _ _ _ h => h) (Or.inl ⟨by rfl, ?h3_23_12_3_20⟩) (by assumption) ?_
            case h3_23_12_3_20 => (intro w hSw; (try dsimp only at hSw); go_simp; try with_reducible rfl)
            try simp only [Act.put, List.setIfInBounds_toArray, List.set_cons_zero, List.set_cons_succ, List.getElem_toArray, List.getElem_cons_zero, List.getElem_cons_succ]
            refine wpAnyH_take (i := 21) (v := ?_) rfl (by kernel_rfl) (by kernel_rfl) (by kernel_rfl) (fun _ _ _ h => h) (Or.inl ⟨by rfl, ?h3_23_12_3_21⟩) (by assumption) ?_
            case h3_23_12_3_21 => (intro w hSw; (try dsimp only at hSw); go_simp; try with_reducible rfl)
            try simp only [Act.put, List.setIfInBounds_toArray, List.set_cons_zero, List.set_cons_succ, List.getElem_toArray, List.getElem_cons_zero, List.getElem_cons_succ]
            refine wpAnyH_take (i := 22) (v := ?_) rfl (by kernel_rfl) (by kernel_rfl) (by kernel_rfl) (fun _ _ _ h => h) (Or.inl ⟨by rfl, ?h3_23_12_3_22⟩) (by assumption) ?_
            case h3_23_12_3_22 => (intro w hSw; (try dsimp only at hSw); go_simp; try with_reducible rfl)
            try simp only [Act.put, List.setIfInBounds_toArray, List.set_cons_zero, List.set_cons_succ, List.getElem_toArray, List.getElem_cons_zero, List.getElem_cons_succ]
            refine wpAnyH_take (i := 23) (v := undef) rfl (by kernel_rfl) (by kernel_rfl) (by kernel_rfl) (fun _ _ _ h => h) (Or.inr ⟨by rfl, rfl⟩) (by assumption) ?_
            try simp only [Act.put, List.setIfInBounds_toArray, List.set_cons_zero, List.set_cons_succ, List.getElem_toArray, List.getElem_cons_zero, List.getElem_cons_succ]
            refine wpAnyH_take (i := 24) (v := undef) rfl (by kernel_rfl) (by kernel_rfl) (by kernel_rfl) (fun _ _ _ h => h) (Or.inr ⟨by rfl, rfl⟩) (by assumption) ?_
            try simp only [Act.put, List.setIfInBounds_toArray, List.set_cons_zero, List.set_cons_succ, List.getElem_toArray, List.getElem_cons_zero, List.getElem_cons_succ]
            refine wpAnyH_take (i := 25) (v := undef) rfl (by kernel_rfl) (by kernel_rfl) (by kernel_rfl) (fun _ _ _ h => h) (Or.inr ⟨by rfl, rfl⟩) (by assumption) ?_
            try simp only [Act.put, List.setIfInBounds_toArray, List.set_cons_zero, List.set_cons_succ, List.getElem_toArray, List.getElem_cons_zero, List.getElem_cons_succ]
            refine wpAnyH_take (i := 26) (v := undef) rfl (by kernel_rfl) (by kernel_rfl) (by kernel_rfl) (fun _ _ _ h => h) (Or.inr ⟨by rfl, rfl⟩) (by assumption) ?_
            try simp only [Act.put, List.setIfInBounds_toArray, List.set_cons_zero, List.set_cons_succ, List.getElem_toArray, List.getElem_cons_zero, List.getElem_cons_succ]
            refine wpAnyH_take (i := 27) (v := ?_) rfl (by kernel_rfl) (by kernel_rfl) (by kernel_rfl) (fun _ _ _ h => h) (Or.inl ⟨by rfl, ?h3_23_12_3_23⟩) (by assumption) ?_
            case h3_23_12_3_23 => (intro w hSw; (try dsimp only at hSw); go_simp; try with_reducible rfl)
            try simp only [Act.put, List.setIfInBounds_toArray, List.set_cons_zero, List.set_cons_succ, List.getElem_toArray, List.getElem_cons_zero, List.getElem_cons_succ]
            refine wpAnyH_take (i := 28) (v := ?_) rfl (by kernel_rfl) (by kernel_rfl) (by kernel_rfl) (fun _ _ _ h => h) (Or.inl ⟨by rfl, ?h3_23_12_3_24⟩) (by assumption) ?_
            case h3_23_12_3_24 => (intro w hSw; (try dsimp only at hSw); go_simp; try with_reducible rfl)
            try simp only [Act.put, List.setIfInBounds_toArray, List.set_cons_zero, List.set_cons_succ, List.getElem_toArray, List.getElem_cons_zero, List.getElem_cons_succ]
            refine wpAnyH_take (i := 29) (v := ?_) rfl (by kernel_rfl) (by kernel_rfl) (by kernel_rfl) (fun _ _ _ h => h) (Or.inl ⟨by rfl, ?h3_23_12_3_25⟩) (by assumption) ?_
            case h3_23_12_3_25 => (intro w hSw; (try dsimp only at hSw); go_simp; try with_reducible rfl)
            try simp only [Act.put, List.setIfInBounds_toArray, List.set_cons_zero, List.set_cons_succ, List.getElem_toArray, List.getElem_cons_zero, List.getElem_cons_succ]
            refine wpAnyH_take (i := 30) (v := ?_) rfl (by kernel_rfl) (by kernel_rfl) (by kernel_rfl) (fun _ _ _ h => h) (Or.inl ⟨by rfl, ?h3_23_12_3_26⟩) (by assumption) ?_
            case h3_23_12_3_26 => (intro w hSw; (try dsimp only at hSw); go_simp; try with_reducible rfl)
            try simp only [Act.put, List.setIfInBounds_toArray, List.set_cons_zero, List.set_cons_succ, List.getElem_toArray, List.getElem_cons_zero, List.getElem_cons_succ]
            refine wpAnyH_take (i := 31) (v := ?_) rfl (by kernel_rfl) (by kernel_rfl) (by kernel_rfl) (fun _ _ _ h => h) (Or.inl ⟨by rfl, ?h3_23_12_3_27⟩) (by assumption) ?_
            case h3_23_12_3_27 => (intro w hSw; (try dsimp only at hSw); go_simp; try with_reducible rfl)
            try simp only [Act.put, List.setIfInBounds_toArray, List.set_cons_zero, List.set_cons_succ, List.getElem_toArray, List.getElem_cons_zero, List.getElem_cons_succ]
            refine wpAnyH_take (i := 33) (v := ?_) rfl (by kernel_rfl) (by kernel_rfl) (by kernel_rfl) (fun _ _ _ h => h) (Or.inl ⟨by rfl, ?h3_23_12_3_28⟩) (by assumption) ?_
            case h3_23_12_3_28 => (intro w hSw; (try dsimp only at hSw); go_simp; try with_reducible rfl)
            try simp only [Act.put, List.setIfInBounds_toArray, List.set_cons_zero, List.set_cons_succ, List.getElem_toArray, List.getElem_cons_zero, List.getElem_cons_succ]
            refine wpAnyH_take (i := 34) (v := ?_) rfl (by kernel_rfl) (by kernel_rfl) (by kernel_rfl) (fun _ _ _ h => h) (Or.inl ⟨by rfl, ?h3_23_12_3_29⟩) (by assumption) ?_
            case h3_23_12_3_29 => (intro w hSw; (try dsimp only at hSw); go_simp; try with_reducible rfl)
            try simp only [Act.put, List.setIfInBounds_toArray, List.set_cons_zero, List.set_cons_succ, List.getElem_toArray, List.getElem_cons_zero, List.getElem_cons_succ]
            refine wpAnyH_ready (rs := [32]) (by kernel_rfl) (by simp) ?_
            refine AllReadyH.cons rfl (fun K hK => ?_) AllReadyH.nil
            go_simp
            (with_reducible refine (cut_n HAA.out.1.1 (HO.out.below HAA.out.2.1) HS.out.2.2.2.2.1).mono ?_)
            rintro e wb ⟨vb1, rfl, hi1, hbb⟩
            have hb9b := HAA.out.2.2.trans (hbb.mono HAA.out.2.2.size)
            have ab0 := (hb9b.cell (p := ⟨bx, 0, none⟩) hbl).trans x0
            have ab1 := (hb9b.cell (p := ⟨bx, 1, none⟩) hbl).trans x1
            have ab2 := (hb9b.cell (p := ⟨bx, 2, none⟩) hbl).trans x2
            have ab3 := (hb9b.cell (p := ⟨bx, 3, none⟩) hbl).trans x3
            have ab4 := (hb9b.cell (p := ⟨rb, 0, none⟩) hr9).trans k9
            have ab5 := (hb9b.cell (p := ⟨gr, kk * 4, none⟩) hg9).trans q0
            have ab6 := (hb9b.cell (p := ⟨gr, kk * 4 + 1, none⟩) hg9).trans q1
            have ab7 := (hb9b.cell (p := ⟨gr, kk * 4 + 2, none⟩) hg9).trans q2
            have ab8 := (hb9b.cell (p := ⟨gr, kk * 4 + 3, none⟩) hg9).trans q3
            have HBB := Lib.hid (And.intro (HAA.out.1.below hbb) (And.intro (HAA.out.2.1.trans (hbb.mono HAA.out.2.1.size)) (And.intro hb9b hi1)))
            clear hbb hb9b hi1
            go_wp2_with fail
            refine hK.out _ _ (by (try dsimp only); go_keep) (fun hHeld2 => ?_)
            clear hK K hHeld
            have hHeld := hHeld2
            clear hHeld2
            try simp only [Act.put, List.setIfInBounds_toArray, List.set_cons_zero, List.set_cons_succ, List.getElem_toArray, List.getElem_cons_zero, List.getElem_cons_succ]
            refine wpAnyH_ready (rs := [35]) (by kernel_rfl) (by simp) ?_
            refine AllReadyH.cons rfl (fun K hK => ?_) AllReadyH.nil
            go_simp
            (with_reducible refine (dcut_any HBB.out.1.2 (HO.out.below HBB.out.2.1) HS.out.2.2.2.2.1).mono ?_)
            rintro e wc ⟨vc1, rfl, hi2, hbc⟩
            have hb9c := HBB.out.2.2.1.trans (hbc.mono HBB.out.2.2.1.size)
            have ac0 := (hb9c.cell (p := ⟨bx, 0, none⟩) hbl).trans x0
            have ac1 := (hb9c.cell (p := ⟨bx, 1, none⟩) hbl).trans x1
            have ac2 := (hb9c.cell (p := ⟨bx, 2, none⟩) hbl).trans x2
            have ac3 := (hb9c.cell (p := ⟨bx, 3, none⟩) hbl).trans x3
            have ac4 := (hb9c.cell (p := ⟨rb, 0, none⟩) hr9).trans k9
            have ac5 := (hb9c.cell (p := ⟨gr, kk * 4, none⟩) hg9).trans q0
            have ac6 := (hb9c.cell (p := ⟨gr, kk * 4 + 1, none⟩) hg9).trans q1
            have ac7 := (hb9c.cell (p := ⟨gr, kk * 4 + 2, none⟩) hg9).trans q2
            have ac8 := (hb9c.cell (p := ⟨gr, kk * 4 + 3, none⟩) hg9).trans q3
            have HCC := Lib.hid (And.intro (HBB.out.1.below hbc) (And.intro (HBB.out.2.1.trans (hbc.mono HBB.out.2.1.size)) (And.intro hb9c (And.intro (HBB.out.2.2.2.below hbc) hi2))))
            clear hbc hb9c hi2
            go_wp2_with fail
            refine hK.out _ _ (by (try dsimp only); go_keep) (fun hHeld2 => ?_)
            clear hK K hHeld
            have hHeld := hHeld2
            clear hHeld2
            try simp only [Act.put, List.setIfInBounds_toArray, List.set_cons_zero, List.set_cons_succ, List.getElem_toArray, List.getElem_cons_zero, List.getElem_cons_succ]
            refine wpAnyH_ready (rs := [36]) (by kernel_rfl) (by simp) ?_
            refine AllReadyH.cons rfl (fun K hK => ?_) AllReadyH.nil
            go_simp
            (with_reducible refine (ints_true HCC.out.2.2.2.1 HCC.out.2.2.2.2).mono ?_)
            rintro e wd ⟨rfl, qd, hqd⟩
            have hbd : Below wc.heap.size wc wd := by rw [← hqd]; exact below_drewN (Below.refl _ wc) qd
            have hb9d := HCC.out.2.2.1.trans (hbd.mono HCC.out.2.2.1.size)
            have ad0 := (hb9d.cell (p := ⟨bx, 0, none⟩) hbl).trans x0
            have ad1 := (hb9d.cell (p := ⟨bx, 1, none⟩) hbl).trans x1
            have ad2 := (hb9d.cell (p := ⟨bx, 2, none⟩) hbl).trans x2
            have ad3 := (hb9d.cell (p := ⟨bx, 3, none⟩) hbl).trans x3
            have ad4 := (hb9d.cell (p := ⟨rb, 0, none⟩) hr9).trans k9
            have ad5 := (hb9d.cell (p := ⟨gr, kk * 4, none⟩) hg9).trans q0
            have ad6 := (hb9d.cell (p := ⟨gr, kk * 4 + 1, none⟩) hg9).trans q1
            have ad7 := (hb9d.cell (p := ⟨gr, kk * 4 + 2, none⟩) hg9).trans q2
            have ad8 := (hb9d.cell (p := ⟨gr, kk * 4 + 3, none⟩) hg9).trans q3
            have HDD := Lib.hid (And.intro (HCC.out.1.below hbd) (HCC.out.2.1.trans (hbd.mono HCC.out.2.1.size)))
            clear hbd hb9d hqd
            go_wp2_with fail
            refine hK.out _ _ (by (try dsimp only); go_keep) (fun hHeld2 => ?_)
            clear hK K hHeld
            have hHeld := hHeld2
            clear hHeld2
            try simp only [Act.put, List.setIfInBounds_toArray, List.set_cons_zero, List.set_cons_succ, List.getElem_toArray, List.getElem_cons_zero, List.getElem_cons_succ]
            refine wpAnyH_take (i := 37) (v := ?_) rfl (by kernel_rfl) (by kernel_rfl) (by kernel_rfl) (fun _ _ _ h => h) (Or.inl ⟨by rfl, ?h3_23_12_3_30⟩) (by assumption) ?_
            case h3_23_12_3_30 => (intro w hSw; (try dsimp only at hSw); go_simp; try with_reducible rfl)
            try simp only [Act.put, List.setIfInBounds_toArray, List.set_cons_zero, List.set_cons_succ, List.getElem_toArray, List.getElem_cons_zero, List.getElem_cons_succ]
            refine wpAnyH_take (i := 38) (v := ?_) rfl (by kernel_rfl) (by kernel_rfl) (by kernel_rfl) (fun _ _ _ h => h) (Or.inl ⟨by rfl, ?h3_23_12_3_31⟩) (by assumption) ?_
            case h3_23_12_3_31 => (intro w hSw; (try dsimp only at hSw); go_simp; try with_reducible rfl)
            try simp only [Act.put, List.setIfInBounds_toArray, List.set_cons_zero, List.set_cons_succ, List.getElem_toArray, List.getElem_cons_zero, List.getElem_cons_succ]
            refine wpAnyH_done (by kernel_rfl) ?_ _
            clear hHeld
            go_wp2
            go_roundw
            case rel => exact ⟨k + 1, es', by omega, by go_num, Lib.hid ⟨HDD.out.1, HS.out.2.1, HDD.out.2⟩⟩
            case measure => simp [intOf]; omega
    · go_wp2_with (first | (go_at_call 10; (with_reducible refine (four_any _).mono ?_); rintro e w9 ⟨rfl, hb9⟩; have H9 := Lib.hid hb9; clear hb9))
      go_ret
      exact ⟨rfl, HK.out.2.2.trans (H9.out.mono HK.out.2.2.size)⟩

theorem activeSteps_walk {w : World} {v u : Value} {l : List (Stp × Value)} {nm0 : ByteArray} {q : Option Addr × Nat × Nat} (h : StepsAt w v l) (hu : u = .slice q.1 q.2.1 q.2.2 ∧ (q.2.1 ≤ 50 → ∃ opn, IntsAt w u opn ∧ opn.length = q.2.1)) : Calls Try.prog 3 #[v, .string nm0, u] w fun e w' => e = .returned (.bool true) ∧ Below w.heap.size w w' := by
  obtain ⟨rfl, hu⟩ := hu
  by_cases hb : 130 < l.length ∨ 50 < q.2.1
  · exact steps_long h hb
  · obtain ⟨opn, h1, h2⟩ := hu (by omega)
    exact steps_main h (by omega) h1 (by omega)
theorem open_intsT {H : Type} {enc : TypeId × Value → H} {W : World} {spare : Nat → Bool} {held : Bool} {v : Value} {d : DataW H} {ps : List MemPlace}
    {r : Reach} {b0 : Nat} (hv : Value.okWide Try.prog W r b0 23 v) (h : DataW.Trod enc Try.prog W 0 spare held 23 v d ps) :
    ∃ q : Option Addr × Nat × Nat, (v = .slice q.1 q.2.1 q.2.2 ∧ (q.2.1 ≤ 50 → ∃ xs, IntsAt W v xs ∧ xs.length = q.2.1)) ∧ True := by
  obtain ⟨ad, n, c, h1, h2⟩ := open_ints hv h
  exact ⟨(ad, n, c), ⟨h1, h2⟩, trivial⟩

namespace activeSteps
open Go.ChangeShapes Go.WideShapes Go.ChangeAt Go.RowKit Go.Joins Go.Deep
open Go.ChangeMaps (open_string shut_string)
set_option linter.unusedVariables false
set_option maxRecDepth 100000 in
theorem lifted (os : Os) (started : os.Started) (H : Type) (enc : TypeId × Value → H) :
    ReturnsInHanded {} Try.checked os 3 .any (Rows.activeStepsSpec.pre6 enc Try.prog Try.f3 Rows.activeStepsRow.domain false) (Rows.activeStepsSpec.post enc Try.prog Try.f3 false true false false) := by
  refine returnsInHanded_of_change_sized (C := Try.checked) own started (by kernel_rfl) Try.func3
    (ChangeSpec.witness6 (enc := enc) (C := Try.checked) false ⟨#[], #[.slice none 0 0, .string ByteArray.empty, .slice none 0 0], []⟩ 8 (by kernel_rfl) (by kernel_rfl) (by kernel_rfl) (by kernel_rfl)) ?_
  intro W base args ds gs before hval0 hW hcnd hsz0 _
  have hval : ∀ (j : Nat) t v, Try.f3.params[j]? = some t → args[j]? = some v → Value.okWide Try.prog W .any base t v := hval0
  have hW' := hW
  obtain ⟨p, q, hA0, hV, rfl, hfz, hnd⟩ := hW
  have hA : DataW.TrodAll enc Try.prog W 0 (fun _ => true) true Try.f3.params.toList args.toList ds p := hA0
  rw [Try.params3] at hA hval
  obtain ⟨v0, vs0, d0, ds0, p0, q0, hargs, rfl, rfl, h0, r0⟩ := trodAll_cons hA
  obtain ⟨v1, vs1, d1, ds1, p1, q1, rfl, rfl, rfl, h1, r1⟩ := trodAll_cons r0
  obtain ⟨v2, vs2, d2, ds2, p2, q2, rfl, rfl, rfl, h2, r2⟩ := trodAll_cons r1
  obtain ⟨rfl, rfl, rfl⟩ := trodAll_nil r2
  obtain rfl : args = #[v0, v1, v2] := by cases args; simp_all
  obtain ⟨rfl, rfl⟩ := trodVars_none hV
  have h0k := h0
  have hlt0 : ∀ x ∈ p0, x.block < W.heap.size := fun x hx => by simpa using hW'.lt x (by simp [hx])
  have hwt0 : ∀ q ∈ d0.weights Try.prog 22, q ≤ reachBytes := fun q hq => of_decide_eq_true (List.all_eq_true.1 hsz0 q (DataW.weights_mem_each (j := 0) (t := 22) rfl rfl q hq))
  obtain ⟨l0, hl0, hw0⟩ := open_steps (hval 0 22 v0 rfl rfl) h0 hwt0
  obtain ⟨a1, rfl, rfl, rfl, w1⟩ := open_string Try.underlying9 (hval 1 9 v1 rfl rfl) h1
  have h2k := h2
  have hlt2 : ∀ x ∈ p2, x.block < W.heap.size := fun x hx => by simpa using hW'.lt x (by simp [hx])
  obtain ⟨l2, hl2, hw2⟩ := open_intsT (hval 2 23 v2 rfl rfl) h2
  clear hA0 hval0 hsz0
  refine (activeSteps_walk hl0 hl2).mono fun e W' ⟨he, bel⟩ => ?_
  subst he
  exact ⟨_, rfl, _, _, _, [], _, [], hW', trodAll_mk1 (shut_bool Try.underlying4 _), (trodAll_cons_mk (Below.trod laid (by kernel_rfl) (of_decide_eq_true (by kernel_rfl)) h0k bel hlt0) (trodAll_cons_mk (shut_string Try.underlying9 w1) (trodAll_cons_mk (Below.trod laid (by kernel_rfl) (of_decide_eq_true (by kernel_rfl)) h2k bel hlt2) trodAll_mk0))), rfl, bel.frame _, fun h => by cases h⟩
theorem over : Rows.activeStepsRow.holds Try.pinned (OpenSpec.ofChange Rows.activeStepsSpec) :=
  OpenClaim.holds_of_wide 3 Try.f3 rfl rfl rfl rfl rfl rfl rfl ⟨rfl, rfl, rfl, rfl, rfl⟩ rfl rfl rfl rfl rfl (by kernel_rfl) Try.func3 (by kernel_rfl)
    (of_decide_eq_true (by kernel_rfl)) (by unfold Func.isWrapper; first | (rw [if_pos (by decide +kernel)]; kernel_rfl) | (rw [if_neg (by decide +kernel)]; exact ⟨rfl, rfl⟩))
    (fun os started H enc _ => lifted os started H enc)
end activeSteps
/-- The row: whatever the input, true. -/
theorem activeSteps_holds : Rows.ActiveStepsSaid := activeSteps.over


end Go.Proofs.Ytjopfgdgmniigaa
