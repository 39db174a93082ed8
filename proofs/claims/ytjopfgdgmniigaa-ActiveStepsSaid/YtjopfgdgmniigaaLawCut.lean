/-
  rectolaw10.ActiveCut returns true for every input.
  Written by an AI agent.
-/
import Derived.Test.YtjopfgdgmniigaaCutLaw
import Derived.Test.YtjopfgdgmniigaaSteps
import Derived.Test.YtjopfgdgmniigaaRows
namespace Go.Proofs.Ytjopfgdgmniigaa
open Go.RowKit Go.Maps

set_option maxHeartbeats 4000000 in
theorem activeCut_long {w : World} {v : Value} {l : List (Stp × Value)} {od : Option Addr} {on oc : Nat} (h : StepsAt w v l) (hb : 90 < l.length ∨ 50 < on) :
    Calls Try.prog 6 #[v, .slice od on oc] w fun e w' => e = .returned (.bool true) ∧ Below w.heap.size w w' := by
  obtain ⟨ad, c, rfl, hl, _, _⟩ := h
  obtain ⟨n, hn⟩ : ∃ n, l.length = n := ⟨_, rfl⟩
  rw [hn] at hb ⊢
  clear hn hl
  by_cases h90 : 90 < n
  · have z1 : decide ((90 : Int) < (n : Int)) = true := by simp; omega
    clear hb
    go_enter Try.func6, Try.ntmps6
    go_wp2_with (first
      | (go_at_call 9; (with_reducible refine (new_any _).mono ?_); rintro e w1 ⟨rfl, hl, hb⟩; have H1 := Lib.hid hb; clear hl hb)
      | (go_at_call 10; (with_reducible refine (four_any _).mono ?_); rintro e w2 ⟨rfl, hb⟩; have H2 := Lib.hid hb; clear hb))
    go_ret
    exact ⟨rfl, H1.out.trans (H2.out.mono H1.out.size)⟩
  · have z1 : decide ((90 : Int) < (n : Int)) = false := by simp; omega
    have z2 : decide ((50 : Int) < (on : Int)) = true := by simp; omega
    clear hb
    go_enter Try.func6, Try.ntmps6
    go_wp2_with (first
      | (go_at_call 9; (with_reducible refine (new_any _).mono ?_); rintro e w1 ⟨rfl, hl, hb⟩; have H1 := Lib.hid hb; clear hl hb)
      | (go_at_call 10; (with_reducible refine (four_any _).mono ?_); rintro e w2 ⟨rfl, hb⟩; have H2 := Lib.hid hb; clear hb))
    go_ret
    exact ⟨rfl, H1.out.trans (H2.out.mono H1.out.size)⟩

theorem cut_form {w : World} {v : Value} {opn : List Int} {es : List Ent} {N f : Nat} (h : IntsAt w v (cutL opn es)) (hN : es.length = N) (hf : cutE opn es = f) : ∃ ca cc, v = .slice ca (N - f) cc := by
  obtain ⟨ad, c, hv, _⟩ := h
  refine ⟨ad, c, ?_⟩
  rw [hv]
  congr 1
  simp [cutL, hN, hf]

theorem cutL_get {opn : List Int} {es : List Ent} {N f k : Nat} (hN : es.length = N) (hf : cutE opn es = f) (h : f ≤ k) (hk : k < N) : (cutL opn es)[k - f]? = some (k : Int) := by
  unfold cutL
  rw [hN, hf]
  rw [List.getElem?_map, List.getElem?_range (by omega)]
  simp
  omega

theorem take_contains {opn : List Int} {q : Nat} {o id : Int} (h : opn[q]? = some o) : (opn.take (q + 1)).contains id = ((opn.take q).contains id || (id == o)) := by
  rw [List.take_add_one, h]
  simp only [Option.toList]
  cases h1 : (opn.take q).contains id <;> cases h2 : (id == o) <;> simp_all

/-- A list of the law's own, of at most 100 entries. -/
def Own100 (w wr : World) : Prop := ∃ es, ListIs wr w.heap.size w.heap.size 63 33 es ∧ es.length ≤ 100

set_option maxHeartbeats 8000000 in
set_option maxRecDepth 100000 in
theorem activeCut_main {w : World} {v : Value} {l : List (Stp × Value)} {od : Option Addr} {on oc : Nat} {opn : List Int} (h : StepsAt w v l) (hl : l.length ≤ 90) (ho : IntsAt w (.slice od on oc) opn) (hol : opn.length = on) (hon : on ≤ 50) :
    Calls Try.prog 6 #[v, .slice od on oc] w fun e w' => e = .returned (.bool true) ∧ Below w.heap.size w w' := by
  obtain ⟨ad, c, rfl, _, hat, hr⟩ := h
  obtain ⟨n, hn⟩ : ∃ n, l.length = n := ⟨_, rfl⟩
  rw [hn] at hl ⊢
  have HN := Lib.hid (And.intro hn hol)
  have HAT := Lib.hid hat
  have HR := Lib.hid hr
  have HO := Lib.hid ho
  have z1 : decide ((90 : Int) < (n : Int)) = false := by simp; omega
  have z2 : decide ((50 : Int) < (on : Int)) = false := by simp; omega
  clear hn hol hat hr ho
  go_enter Try.func6, Try.ntmps6
  go_wp2_with (first
    | (go_at_call 9; (with_reducible refine (new_any _).mono ?_); rintro e w1 ⟨rfl, hl1, hb⟩; have H1 := Lib.hid (And.intro hl1 hb); clear hl1 hb))
  go_loopw [36] (fun i wr => ∃ k : Nat, k ≤ n ∧ i = i64 k ∧ Hid (Own100 w wr) ∧ Below w.heap.size w wr) (fun i _ => n - (intOf i).toNat)
  case atStart => exact ⟨0, Nat.zero_le _, rfl, Lib.hid ⟨[], H1.out.1, by simp⟩, H1.out.2⟩
  case round =>
    obtain ⟨k, hk, rfl, HK, hbel⟩ := hrel
    by_cases hlt : k < n
    · obtain ⟨⟨⟨what, nn, ⟨mk, id, nm, ats⟩⟩, va⟩, hx⟩ : ∃ x, l[k]? = some x := ⟨_, List.getElem?_eq_getElem (by rw [HN.out.1]; exact hlt)⟩
      obtain ⟨g, off, had, hg, hc⟩ := HR.out (fun e => by rw [e] at hx; simp at hx)
      obtain ⟨d0, d1, d2, d3, d4, d5⟩ := hc k _ hx
      have hatr := HAT.out _ (List.mem_of_getElem? hx)
      simp only at d0 d1 d2 d3 d4 d5 hatr
      obtain ⟨ea, en, ec, hev⟩ := hatr.fit
      subst hev
      have up := fun (o : Nat) => (hbel.cell (p := ⟨g, o, none⟩) hg)
      have e0 := (up _).trans d0
      have e1 := (up _).trans d1
      have e2 := (up _).trans d2
      have e3 := (up _).trans d3
      have e4 := (up _).trans d4
      have e5 := (up _).trans d5
      obtain ⟨es, hes, hel⟩ := HK.out
      have HL := Lib.hid (hes.below ((Below.refl _ wr).alloc (Nat.le_refl _) (.cells #[i64 what, i64 nn, .bool mk, i64 id, .string nm, .slice ea en ec] 35)))
      have HE := Lib.hid hel
      have HTR := Lib.hid ((hatr.below hbel).below ((Below.refl _ wr).alloc (Nat.le_refl _) (.cells #[i64 what, i64 nn, .bool mk, i64 id, .string nm, .slice ea en ec] 35)))
      have HAD := Lib.hid had
      have HBE := Lib.hid hbel
      clear hx hc d0 d1 d2 d3 d4 d5 hatr up hes hel had hbel
      rw [HAD.out]
      by_cases h5 : what = 5
      · have z5 : (what == 5) = true := by simpa using h5
        clear h5
        go_wp2_with (first | (go_at_call 24; (with_reducible refine (mark_any HL.out HE.out).mono ?_); rintro e w2 ⟨rfl, hl2, hf2⟩; have H2 := Lib.hid (And.intro hl2 hf2); clear hl2 hf2))
        go_roundw
        case rel =>
          have b1 := HBE.out.alloc HBE.out.size (.cells #[i64 what, i64 nn, .bool mk, i64 id, .string nm, .slice ea en ec] 35)
          exact ⟨k + 1, by omega, by go_num, Lib.hid ⟨_, H2.out.1, markS_length HE.out⟩, b1.trans (below_of_fr H2.out.2 b1.size)⟩
        case measure => simp [intOf]; omega
      · have z5 : (what == 5) = false := by simpa using h5
        clear h5
        go_wp2_with (first | (go_at_call 22; (with_reducible refine (add_any HL.out HE.out HTR.out).mono ?_); rintro e w2 ⟨rfl, hl2, hf2⟩; have H2 := Lib.hid (And.intro hl2 hf2); clear hl2 hf2))
        go_roundw
        case rel =>
          have b1 := HBE.out.alloc HBE.out.size (.cells #[i64 what, i64 nn, .bool mk, i64 id, .string nm, .slice ea en ec] 35)
          exact ⟨k + 1, by omega, by go_num, Lib.hid ⟨_, H2.out.1, addS_length _ HE.out⟩, b1.trans (below_of_fr H2.out.2 b1.size)⟩
        case measure => simp [intOf]; omega
    · obtain ⟨es, hes, hel⟩ := HK.out
      obtain ⟨N, hN⟩ : ∃ N, es.length = N := ⟨_, rfl⟩
      obtain ⟨f, hf⟩ : ∃ f, cutE opn es = f := ⟨_, rfl⟩
      have hfN : f ≤ N := by rw [← hf, ← hN]; exact cutE_le _ _
      have hN100 : N ≤ 100 := by omega
      have hspec := cutE_spec opn es
      rw [hf] at hspec
      have HL := Lib.hid hes
      have HE := Lib.hid (And.intro hN (And.intro hf hspec))
      have HBE := Lib.hid hbel
      have HOW := Lib.hid (HO.out.below hbel)
      clear hes hel hN hf hspec hbel
      have hcast : (N : Int) - ((N - f : Nat) : Int) = (f : Int) := by omega
      go_wp2_with (first
        | (go_at_call 14; (with_reducible refine (all_n HL.out HE.out.1).mono ?_); rintro e w2 ⟨aa, ac, ps, rfl, hrow, hps, hb2⟩; have H2 := Lib.hid (And.intro hrow (And.intro hps hb2)); clear hrow hps hb2)
        | (go_at_call 19; (with_reducible refine (cut_any (HL.out.below H2.out.2.2) (HOW.out.below H2.out.2.2)).mono ?_); rintro e w3 ⟨v3, rfl, hi3, hb3⟩; have hi4 := cut_form hi3 HE.out.1 HE.out.2.1; obtain ⟨ca, cc, rfl⟩ := hi4; have H3 := Lib.hid (And.intro hi3 hb3); clear hi3 hb3))
      have HBW : Hid (Below w.heap.size w w3) := Lib.hid (by
        have b1 := HBE.out.trans (H2.out.2.2.mono HBE.out.size)
        exact b1.trans (H3.out.2.mono b1.size))
      clear hcast
      go_loopw [62] (fun i wr => ∃ k : Nat, k ≤ N ∧ i = i64 k ∧ Below w3.heap.size w3 wr) (fun i _ => N - (intOf i).toNat)
      case atStart => exact ⟨0, Nat.zero_le _, rfl, Below.refl _ _⟩
      case round =>
        obtain ⟨k, hk, rfl, hbel⟩ := hrel
        by_cases hlt : k < N
        · obtain ⟨ra, rcap, hve, _, _, hrr⟩ := H2.out.1.form
          have hpl : ps.length = N := by rw [← HE.out.1, ← H2.out.2.1]; simp
          obtain ⟨⟨⟨mk, id, nm, ats⟩, xv⟩, hx⟩ : ∃ x, ps[k]? = some x := ⟨_, List.getElem?_eq_getElem (by rw [hpl]; exact hlt)⟩
          obtain ⟨g2, hra, _, hg2, hcc⟩ := hrr (fun e => by rw [e] at hx; simp at hx)
          obtain ⟨d0, d1, d2, d3⟩ := hcc k _ hx
          obtain ⟨xa, xn, xc, hxv⟩ := (H2.out.1.2.2 _ (List.mem_of_getElem? hx)).fit
          simp only [Value.slice.injEq] at hve
          simp only at d0 d1 d2 d3 hxv
          subst hxv
          have hga : g2 < w3.heap.size := Nat.lt_of_lt_of_le hg2 H3.out.2.size
          have up := fun (o : Nat) => (hbel.cell (p := ⟨g2, o, none⟩) hga).trans (H3.out.2.cell (p := ⟨g2, o, none⟩) hg2)
          have e0 := (up _).trans d0
          have e1 := (up _).trans d1
          have e2 := (up _).trans d2
          have e3 := (up _).trans d3
          have hxe : es[k]? = some ⟨mk, id, nm, ats⟩ := by rw [← H2.out.2.1, List.getElem?_map, hx]; rfl
          have HX := Lib.hid hxe
          have HAA := Lib.hid (hve.1.trans hra)
          have HB3 := Lib.hid hbel
          clear hrr hpl hx hcc d0 d1 d2 d3 up hxe hve hra hbel
          rw [HAA.out]
          have hbox := Blk.new wr 33 #[.bool mk, i64 id, .string nm, .slice xa xn xc]
          have y0 := hbox.cell 0 (.bool mk) rfl
          have y1 := hbox.cell 1 (i64 id) rfl
          have HOI := Lib.hid ((HO.out.below HBW.out).below (HB3.out.mono (Nat.le_refl _)))
          clear hbox
          go_wp2
          go_loopw [13, 71] (fun b j wq => ∃ (q : Nat) (r : Bool), q ≤ on ∧ j = i64 q ∧ b = .bool r ∧ Hid (r = (mk || (opn.take q).contains id)) ∧ wq = wr.alloc (.cells #[.bool mk, i64 id, .string nm, .slice xa xn xc] 33)) (fun _ j _ => on - (intOf j).toNat)
          case atStart => exact ⟨0, mk, Nat.zero_le _, rfl, rfl, Lib.hid (by simp), rfl⟩
          case round =>
            obtain ⟨q, r, hq, rfl, rfl, HRR, rfl⟩ := hrel
            by_cases hlt2 : q < on
            · obtain ⟨o, hoq⟩ : ∃ o, opn[q]? = some o := ⟨_, List.getElem?_eq_getElem (by rw [HN.out.2]; exact hlt2)⟩
              obtain ⟨od', oc', hoe, _, hrr⟩ := HOI.out
              obtain ⟨g3, off3, hod, hg3, hc3⟩ := hrr (fun e => by rw [e] at hoq; simp at hoq)
              have c1 := hc3 q o hoq
              simp only [Value.slice.injEq] at hoe
              have hod2 := hoe.1.trans hod
              have hcon := take_contains (id := id) hoq
              have HQ := Lib.hid hcon
              have HOD := Lib.hid hod2
              clear hoq hoe hrr hod hc3 hcon hod2
              rw [HOD.out]
              cases r
              · cases mk
                · by_cases hio : id = o
                  · have z8 : (id == o) = true := by simpa using hio
                    have HZ := Lib.hid z8
                    clear hio
                    go_wp2
                    go_roundw
                    case rel =>
                      refine ⟨q + 1, true, by omega, by go_num, rfl, Lib.hid ?_, by trivial⟩
                      rw [HQ.out, HZ.out]; simp
                    case measure => simp [intOf]; omega
                  · have z8 : (id == o) = false := by simpa using hio
                    have HZ := Lib.hid z8
                    clear hio
                    go_wp2
                    go_roundw
                    case rel =>
                      refine ⟨q + 1, false, by omega, by go_num, rfl, Lib.hid ?_, by trivial⟩
                      rw [HQ.out, HZ.out, ← Bool.or_assoc, ← HRR.out]; rfl
                    case measure => simp [intOf]; omega
                · exact absurd HRR.out (by simp)
              · go_wp2
                go_roundw
                case rel =>
                  refine ⟨q + 1, true, by omega, by go_num, rfl, Lib.hid ?_, by trivial⟩
                  rw [HQ.out, ← Bool.or_assoc, ← HRR.out]; rfl
                case measure => simp [intOf]; omega
            · have hqe : q = on := by omega
              have hstop : r = stopB opn ⟨mk, id, nm, ats⟩ := by
                rw [HRR.out, List.take_of_length_le (by have := HN.out.2; omega)]; rfl
              have HST := Lib.hid hstop
              clear hstop
              by_cases hkf : f ≤ k
              · have hr0 : r = false := by rw [HST.out]; exact HE.out.2.2.1 k _ HX.out hkf
                subst hr0
                have hcx : (cutL opn es)[k - f]? = some (k : Int) := cutL_get HE.out.1 HE.out.2.1 hkf hlt
                obtain ⟨cd, cc2, hce, _, hcr⟩ := H3.out.1
                obtain ⟨g4, off4, hcd, hg4, hc4⟩ := hcr (fun e => by rw [e] at hcx; simp at hcx)
                have d0 := hc4 _ _ hcx
                simp only [Value.slice.injEq] at hce
                have hbx : Below w3.heap.size w3 (wr.alloc (.cells #[.bool mk, i64 id, .string nm, .slice xa xn xc] 33)) := HB3.out.alloc HB3.out.size _
                have x0 := (hbx.cell (p := ⟨g4, off4 + (k - f), none⟩) hg4).trans d0
                have hca := hce.1.trans hcd
                have HB4 := Lib.hid hbx
                clear hce hcd hcr hc4 hcx d0 hbx
                subst hca
                have q1 : decide ((f : Int) ≤ (k : Int)) = true := by simpa using hkf
                have q2 : ((k : Int) - (f : Int)) = ((k - f : Nat) : Int) := by omega
                have q3 : k - f < N - f := by omega
                have q4 : (N : Int) - ((N - f : Nat) : Int) = (f : Int) := by omega
                have q5 : ((k : Int) == (f : Int) - 1) = false := by simp; omega
                have HX2 := Lib.hid (And.intro hkf hlt)
                go_wp2
                go_roundw
                case rel => exact ⟨k + 1, by omega, by go_num, HB4.out⟩
                case measure => simp [intOf]; omega
              · have hkf2 : k < f := by omega
                have q1 : decide ((f : Int) ≤ (k : Int)) = false := by simp; omega
                have HB4 := Lib.hid (HB3.out.alloc HB3.out.size (.cells #[.bool mk, i64 id, .string nm, .slice xa xn xc] 33))
                by_cases hk1 : k + 1 = f
                · have hr1 : r = true := by
                    rw [HST.out]
                    refine HE.out.2.2.2 _ (by omega) ?_
                    rw [show f - 1 = k by omega]
                    exact HX.out
                  subst hr1
                  have q5 : ((k : Int) == (f : Int) - 1) = true := by simp; omega
                  go_wp2
                  go_roundw
                  case rel => exact ⟨k + 1, by omega, by go_num, HB4.out⟩
                  case measure => simp [intOf]; omega
                · have q5 : ((k : Int) == (f : Int) - 1) = false := by simp; omega
                  cases r
                  · go_wp2
                    go_roundw
                    case rel => exact ⟨k + 1, by omega, by go_num, HB4.out⟩
                    case measure => simp [intOf]; omega
                  · go_wp2
                    go_roundw
                    case rel => exact ⟨k + 1, by omega, by go_num, HB4.out⟩
                    case measure => simp [intOf]; omega
        · go_wp2_with (first | (go_at_call 10; (with_reducible refine (four_any _).mono ?_); rintro e w4 ⟨rfl, hb4⟩; have H4 := Lib.hid hb4; clear hb4))
          go_ret
          have b2 := HBW.out.trans (hbel.mono HBW.out.size)
          exact ⟨rfl, b2.trans (H4.out.mono b2.size)⟩

theorem activeCut_walk {w : World} {v : Value} {l : List (Stp × Value)} {od : Option Addr} {on oc : Nat} (h : StepsAt w v l) (ho : on ≤ 50 → ∃ opn, IntsAt w (.slice od on oc) opn ∧ opn.length = on) :
    Calls Try.prog 6 #[v, .slice od on oc] w fun e w' => e = .returned (.bool true) ∧ Below w.heap.size w w' := by
  by_cases hb : 90 < l.length ∨ 50 < on
  · exact activeCut_long h hb
  · obtain ⟨opn, h1, h2⟩ := ho (by omega)
    exact activeCut_main h (by omega) h1 h2 (by omega)

/-- A slice of integers that came in; as a list, where it is short. -/
theorem open_ints {H : Type} {enc : TypeId × Value → H} {W : World} {spare : Nat → Bool} {held : Bool} {v : Value} {d : DataW H} {ps : List MemPlace}
    {r : Reach} {b0 : Nat} (hv : Value.okWide Try.prog W r b0 23 v) (h : DataW.Trod enc Try.prog W 0 spare held 23 v d ps) :
    ∃ ad n c, v = .slice ad n c ∧ (n ≤ 50 → ∃ xs, IntsAt W v xs ∧ xs.length = n) := by
  obtain ⟨av, lv, cv, rfl⟩ := Go.WideShapes.okWide_slice Try.underlying23 hv
  refine ⟨av, lv, cv, rfl, fun hn => ?_⟩
  obtain ⟨fuel, hf⟩ := h
  rcases Go.Deep.open_slice Try.underlying23 hf with ⟨hcs, _⟩ | ⟨a, len, cap, m, q, D, Pl, hcs, _, hl, hm, hmm, hxx, hi⟩
  · have he := List.singleton_inj.1 hcs
    rw [he]
    injection he with _ h2 _
    exact ⟨[], IntsAt.nil _ _ _, h2.symm⟩
  · have he := List.singleton_inj.1 hcs
    rw [he]
    injection he with _ h2 _
    subst h2
    have hlm : lv ≤ m := by rw [hmm]; split <;> omega
    have hex : ∀ i, i < lv → ∃ y : Int, W.cell? (a.add (i * 1)) = some (i64 y) := by
      intro i hi'
      obtain ⟨cs, hc, ht⟩ := hi i (by omega)
      rw [cells3] at hc
      obtain ⟨y, k0, _, _⟩ := DataW.trod_int Try.underlying3 ht
      subst k0
      obtain ⟨_, _, hat⟩ := World.cells?_some hc
      have z0 := hat 0 (by omega)
      rw [Go.Deep.add_add] at z0
      exact ⟨y, by simpa using z0⟩
    let f : Nat → Int := fun i => if h : i < lv then (hex i h).choose else 0
    have hf' : ∀ i, i < lv → W.cell? (a.add (i * 1)) = some (i64 (f i)) := by
      intro i h
      have : f i = (hex i h).choose := by simp only [f]; rw [dif_pos h]
      rw [this]
      exact (hex i h).choose_spec
    refine ⟨(List.range lv).map f, ⟨some a, cap, by simp, by simp; omega, fun hne => ?_⟩, by simp⟩
    have hl0 : 0 < lv := by
      rcases Nat.eq_zero_or_pos lv with h | h
      · rw [h] at hne; simp at hne
      · exact h
    have h0 := cell_some (hf' 0 hl0)
    simp only [Nat.zero_mul, Addr.add, if_true] at h0
    obtain ⟨g, off, sp⟩ := a
    obtain ⟨rfl, hg⟩ := h0
    refine ⟨g, off, rfl, hg, fun k x hx => ?_⟩
    rw [List.getElem?_map] at hx
    have hk : k < lv := by
      rcases Nat.lt_or_ge k lv with h | h
      · exact h
      · rw [List.getElem?_eq_none (by simpa using h)] at hx; simp at hx
    rw [List.getElem?_range hk] at hx
    simp only [Option.map_some, Option.some.injEq] at hx
    subst hx
    have ha : ∀ q, (⟨g, off, none⟩ : Addr).add q = ⟨g, off + q, none⟩ := fun q => by unfold Addr.add; split <;> simp_all
    have := hf' k hk
    simp only [ha, Nat.mul_one] at this
    exact this

namespace activeCut
open Go.ChangeShapes Go.WideShapes Go.ChangeAt Go.RowKit Go.Joins Go.Deep
open Go.ChangeMaps (open_string shut_string)
set_option linter.unusedVariables false
set_option maxRecDepth 100000 in
theorem lifted (os : Os) (started : os.Started) (H : Type) (enc : TypeId × Value → H) :
    ReturnsInHanded {} Try.checked os 6 .any (Rows.activeCutSpec.pre6 enc Try.prog Try.f6 Rows.activeCutRow.domain false) (Rows.activeCutSpec.post enc Try.prog Try.f6 false true false false) := by
  refine returnsInHanded_of_change_sized (C := Try.checked) own started (by kernel_rfl) Try.func6
    (ChangeSpec.witness6 (enc := enc) (C := Try.checked) false ⟨#[], #[.slice none 0 0, .slice none 0 0], []⟩ 8 (by kernel_rfl) (by kernel_rfl) (by kernel_rfl) (by kernel_rfl)) ?_
  intro W base args ds gs before hval0 hW hcnd hsz0 _
  have hval : ∀ (j : Nat) t v, Try.f6.params[j]? = some t → args[j]? = some v → Value.okWide Try.prog W .any base t v := hval0
  have hW' := hW
  obtain ⟨p, q, hA0, hV, rfl, hfz, hnd⟩ := hW
  have hA : DataW.TrodAll enc Try.prog W 0 (fun _ => true) true Try.f6.params.toList args.toList ds p := hA0
  rw [Try.params6] at hA hval
  obtain ⟨v0, vs0, d0, ds0, p0, q0, hargs, rfl, rfl, h0, r0⟩ := trodAll_cons hA
  obtain ⟨v1, vs1, d1, ds1, p1, q1, rfl, rfl, rfl, h1, r1⟩ := trodAll_cons r0
  obtain ⟨rfl, rfl, rfl⟩ := trodAll_nil r1
  obtain rfl : args = #[v0, v1] := by cases args; simp_all
  obtain ⟨rfl, rfl⟩ := trodVars_none hV
  have h0k := h0
  have h1k := h1
  have hlt0 : ∀ x ∈ p0, x.block < W.heap.size := fun x hx => by simpa using hW'.lt x (by simp [hx])
  have hlt1 : ∀ x ∈ p1, x.block < W.heap.size := fun x hx => by simpa using hW'.lt x (by simp [hx])
  have hwt : ∀ q ∈ d0.weights Try.prog 22, q ≤ reachBytes := fun q hq => of_decide_eq_true (List.all_eq_true.1 hsz0 q (DataW.weights_mem_each (j := 0) (t := 22) rfl rfl q hq))
  obtain ⟨l, hl, _⟩ := open_steps (hval 0 22 v0 rfl rfl) h0 hwt
  obtain ⟨od, on, oc, rfl, hop⟩ := open_ints (hval 1 23 v1 rfl rfl) h1
  clear hA0 hval0 hsz0
  refine (activeCut_walk hl hop).mono fun e W' ⟨he, bel⟩ => ?_
  subst he
  exact ⟨_, rfl, _, _, _, [], _, [], hW', trodAll_mk1 (shut_bool Try.underlying4 _), (trodAll_cons_mk (Below.trod laid (by kernel_rfl) (of_decide_eq_true (by kernel_rfl)) h0k bel hlt0) (trodAll_cons_mk (Below.trod laid (by kernel_rfl) (of_decide_eq_true (by kernel_rfl)) h1k bel hlt1) trodAll_mk0)), rfl, bel.frame _, fun h => by cases h⟩
theorem over : Rows.activeCutRow.holds Try.pinned (OpenSpec.ofChange Rows.activeCutSpec) :=
  OpenClaim.holds_of_wide 6 Try.f6 rfl rfl rfl rfl rfl rfl rfl ⟨rfl, rfl, rfl, rfl, rfl⟩ rfl rfl rfl rfl rfl (by kernel_rfl) Try.func6 (by kernel_rfl)
    (of_decide_eq_true (by kernel_rfl)) (by unfold Func.isWrapper; first | (rw [if_pos (by decide +kernel)]; kernel_rfl) | (rw [if_neg (by decide +kernel)]; exact ⟨rfl, rfl⟩))
    (fun os started H enc _ => lifted os started H enc)
end activeCut
/-- The row: whatever the steps and the open ones, true. -/
theorem activeCut_holds : Rows.ActiveCutSaid := activeCut.over

end Go.Proofs.Ytjopfgdgmniigaa
