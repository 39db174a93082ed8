/-
  rectolaw10.ActiveArk returns true for every input.
  Written by an AI agent.
-/
import Derived.Test.YtjopfgdgmniigaaArkLaw
import Derived.Test.YtjopfgdgmniigaaSteps
import Derived.Test.YtjopfgdgmniigaaRows
namespace Go.Proofs.Ytjopfgdgmniigaa
open Go.RowKit Go.Maps

theorem AtrsAt.up {w : World} {B B' : Nat} {v : Value} {l : List Atr} (h : AtrsAt w B v l) (hB : B ≤ B') : AtrsAt w B' v l := by
  obtain ⟨ad, c, hv, h1, h2, h3, h4⟩ := h
  exact ⟨ad, c, hv, h1, h2, h3, fun hne => by
    obtain ⟨g, off, q1, q2, q3, q4⟩ := h4 hne
    exact ⟨g, off, q1, q2, q3.imp (fun h => Nat.lt_of_lt_of_le h hB) id, q4⟩⟩

theorem add_n {w : World} {B lb : Nat} {es es' : List Ent} {va : Value} {mk : Bool} {id r : Int} {nm : ByteArray} {l : List Atr} (h : ListIs w B lb 63 33 es) (hl : es.length ≤ 100) (ha : AtrsAt w B va l)
    (hs : addS es ⟨mk, id, nm, l⟩ = es') (hr : addR es ⟨mk, id, nm, l⟩ = r) : Calls Try.prog 22 #[ptr lb, .agg #[.bool mk, i64 id, .string nm, va]] w (AddIt B lb es' r w) := by
  subst hs hr
  exact add_any h hl ha

theorem alike27_n {w : World} {B : Nat} {m m' : Bool} {i i' : Int} {n n' : ByteArray} {v v' : Value} {l l' : List Atr} {r : Bool} (h : AtrsAt w B v l) (h' : AtrsAt w B v' l') (hr : alikeB n l n' l' = r) :
    Calls Try.prog 27 #[.agg #[.bool m, i64 i, .string n, v], .agg #[.bool m', i64 i', .string n', v']] w fun e w' => e = .returned (.bool r) ∧ Below w.heap.size w w' := by
  subst hr
  exact alike27 h h'

theorem ark_take {e x : Ent} {es : List Ent} {k : Nat} (h : es[k]? = some x) : arkF e (es.take (k + 1)) = ark e (arkF e (es.take k)) x := by
  unfold arkF
  rw [List.take_add_one, h, List.foldl_append]
  rfl
theorem ark_le (e : Ent) : ∀ (l : List Ent) (n : Nat), l.foldl (ark e) n ≤ n + l.length
  | [], n => by simp
  | x :: l, n => by
    simp only [List.foldl_cons, List.length_cons]
    have := ark_le e l (ark e n x)
    have : ark e n x ≤ n + 1 := by unfold ark; split <;> (try split) <;> omega
    omega

/-- A list of the law's own, of at most 100 entries, of which at most three are alike. -/
def OwnArk (w wr : World) : Prop := ∃ es, ListIs wr w.heap.size w.heap.size 63 33 es ∧ es.length ≤ 100 ∧ ArkInv es

set_option maxHeartbeats 4000000 in
theorem activeArk_long {w : World} {v : Value} {l : List (Stp × Value)} (h : StepsAt w v l) (hb : 90 < l.length) :
    Calls Try.prog 5 #[v] w fun e w' => e = .returned (.bool true) ∧ Below w.heap.size w w' := by
  obtain ⟨ad, c, rfl, hl, _, _⟩ := h
  obtain ⟨n, hn⟩ : ∃ n, l.length = n := ⟨_, rfl⟩
  rw [hn] at hb ⊢
  clear hn hl
  have z1 : decide ((90 : Int) < (n : Int)) = true := by simp; omega
  clear hb
  go_enter Try.func5, Try.ntmps5
  go_wp2_with (first
    | (go_at_call 9; (with_reducible refine (new_any _).mono ?_); rintro e w1 ⟨rfl, hl, hb⟩; have H1 := Lib.hid hb; clear hl hb)
    | (go_at_call 10; (with_reducible refine (four_any _).mono ?_); rintro e w2 ⟨rfl, hb⟩; have H2 := Lib.hid hb; clear hb))
  go_ret
  exact ⟨rfl, H1.out.trans (H2.out.mono H1.out.size)⟩

set_option maxHeartbeats 8000000 in
set_option maxRecDepth 100000 in
theorem activeArk_main {w : World} {v : Value} {l : List (Stp × Value)} (h : StepsAt w v l) (hl : l.length ≤ 90) :
    Calls Try.prog 5 #[v] w fun e w' => e = .returned (.bool true) ∧ Below w.heap.size w w' := by
  obtain ⟨ad, c, rfl, _, hat, hr⟩ := h
  obtain ⟨n, hn⟩ : ∃ n, l.length = n := ⟨_, rfl⟩
  rw [hn] at hl ⊢
  have HN := Lib.hid hn
  have HAT := Lib.hid hat
  have HR := Lib.hid hr
  have z1 : decide ((90 : Int) < (n : Int)) = false := by simp; omega
  clear hn hat hr
  go_enter Try.func5, Try.ntmps5
  go_wp2_with (first
    | (go_at_call 9; (with_reducible refine (new_any _).mono ?_); rintro e w1 ⟨rfl, hl1, hb⟩; have H1 := Lib.hid (And.intro hl1 hb); clear hl1 hb))
  go_loopw [24] (fun i wr => ∃ k : Nat, k ≤ n ∧ i = i64 k ∧ Hid (OwnArk w wr) ∧ Below w.heap.size w wr) (fun i _ => n - (intOf i).toNat)
  case atStart => exact ⟨0, Nat.zero_le _, rfl, Lib.hid ⟨[], H1.out.1, by simp, ark_nil⟩, H1.out.2⟩
  case round =>
    obtain ⟨k, hk, rfl, HK, hbel⟩ := hrel
    by_cases hlt : k < n
    · obtain ⟨⟨⟨what, nn, ⟨mk, id, nm, ats⟩⟩, va⟩, hx⟩ : ∃ x, l[k]? = some x := ⟨_, List.getElem?_eq_getElem (by rw [HN.out]; exact hlt)⟩
      obtain ⟨g, off, had, hg, hc⟩ := HR.out (fun e => by rw [e] at hx; simp at hx)
      obtain ⟨d0, d1, d2, d3, d4, d5⟩ := hc k _ hx
      have hatr := HAT.out _ (List.mem_of_getElem? hx)
      simp only at d0 d1 d2 d3 d4 d5 hatr
      obtain ⟨ea, en, ec, hev⟩ := hatr.fit
      subst hev
      have e0 := (hbel.cell (p := ⟨g, _, none⟩) hg).trans d0
      have e1 := (hbel.cell (p := ⟨g, _, none⟩) hg).trans d1
      have e2 := (hbel.cell (p := ⟨g, _, none⟩) hg).trans d2
      have e3 := (hbel.cell (p := ⟨g, _, none⟩) hg).trans d3
      have e4 := (hbel.cell (p := ⟨g, _, none⟩) hg).trans d4
      have e5 := (hbel.cell (p := ⟨g, _, none⟩) hg).trans d5
      obtain ⟨es, hes, hel, hai⟩ := HK.out
      obtain ⟨w2, hw2⟩ : ∃ w2, wr.alloc (.cells #[i64 what, i64 nn, .bool mk, i64 id, .string nm, .slice ea en ec] 35) = w2 := ⟨_, rfl⟩
      have hbox := Blk.new wr 35 #[i64 what, i64 nn, .bool mk, i64 id, .string nm, .slice ea en ec]
      have hb2 : Below wr.heap.size wr w2 := by rw [← hw2]; exact (Below.refl _ wr).alloc (Nat.le_refl _) _
      rw [hw2] at hbox
      have HL := Lib.hid (hes.below hb2)
      have HE := Lib.hid (And.intro hel hai)
      have HTR := Lib.hid ((hatr.below hbel).below hb2)
      have HAD := Lib.hid had
      have HBE := Lib.hid (hbel.trans (hb2.mono hbel.size))
      have HBX := Lib.hid hbox
      have y0 := hbox.cell 0 (i64 what) rfl
      have y5 := hbox.cell 5 (.slice ea en ec) rfl
      have y2 := hbox.cell 2 (.bool mk) rfl
      have y3 := hbox.cell 3 (i64 id) rfl
      have y4 := hbox.cell 4 (.string nm) rfl
      clear hx hc d0 d1 d2 d3 d4 d5 hatr hes hel hai had hbel hb2 hbox
      rw [HAD.out]
      by_cases h20 : 20 < en
      · have z2 : decide ((20 : Int) < (en : Int)) = true := by simp; omega
        go_wp2_with (first
          | (go_at_call 10; (with_reducible refine (four_any _).mono ?_); rintro e w3 ⟨rfl, hb⟩; have H2 := Lib.hid hb; clear hb))
        go_ret
        exact ⟨rfl, HBE.out.trans (H2.out.mono HBE.out.size)⟩
      · have z2 : decide ((20 : Int) < (en : Int)) = false := by simp; omega
        by_cases h5 : what = 5
        · have z5 : (what == 5) = true := by simpa using h5
          clear h5
          go_wp2_with (first | (go_at_call 24; (with_reducible refine (mark_any HL.out HE.out.1).mono ?_); rintro e w3 ⟨rfl, hl2, hf2⟩; have H2 := Lib.hid (And.intro hl2 hf2); clear hl2 hf2))
          go_roundw
          case rel =>
            exact ⟨k + 1, by omega, by go_num, Lib.hid ⟨_, H2.out.1, markS_length HE.out.1, ark_markS HE.out.2⟩, HBE.out.trans (below_of_fr H2.out.2 HBE.out.size)⟩
          case measure => simp [intOf]; omega
        · have z5 : (what == 5) = false := by simpa using h5
          clear h5
          obtain ⟨rr, hrr⟩ : ∃ rr, addR es ⟨mk, id, nm, ats⟩ = rr := ⟨_, rfl⟩
          obtain ⟨es', hes'⟩ : ∃ es', addS es ⟨mk, id, nm, ats⟩ = es' := ⟨_, rfl⟩
          have HA := Lib.hid (And.intro hes' hrr)
          have HE' : Hid (es'.length ≤ 100 ∧ ArkInv es') := Lib.hid (by rw [← hes']; exact ⟨addS_length _ HE.out.1, ark_addS HE.out.2⟩)
          clear hrr hes'
          by_cases hr0 : rr = 0
          · have z6 : (rr != 0) = false := by simpa using hr0
            clear hr0
            obtain ⟨N, hN⟩ : ∃ N, es'.length = N := ⟨_, rfl⟩
            have HN' := Lib.hid hN
            have hN100 : N ≤ 100 := by rw [← hN]; exact HE'.out.1
            clear hN
            have hbig := HBX.out.lt
            go_wp2_with (first
              | (go_at_call 22; (with_reducible refine (add_n HL.out HE.out.1 HTR.out HA.out.1 HA.out.2).mono ?_); rintro e w3 ⟨rfl, hl2, hf2⟩; have H2 := Lib.hid (And.intro hl2 hf2); clear hl2 hf2)
              | (go_at_call 14; (with_reducible refine (all_n H2.out.1 HN'.out).mono ?_); rintro e w4 ⟨aa, ac, ps, rfl, hrow, hps, hb3⟩; have H3 := Lib.hid (And.intro hrow (And.intro hps hb3)); clear hrow hps hb3))
            have HBX4 : Hid (Blk w4 wr.heap.size 35 #[i64 what, i64 nn, .bool mk, i64 id, .string nm, .slice ea en ec]) := Lib.hid (blk_kept (H2.out.2.blk HBX.out (.inr rfl)) H3.out.2.2)
            have HTR4 : Hid (AtrsAt w4 w.heap.size (.slice ea en ec) ats) := Lib.hid ((HTR.out.fr H2.out.2 (Nat.le_refl _) (fun _ _ => rfl)).below H3.out.2.2)
            have HB4 : Hid (Below w.heap.size w w4) := Lib.hid (by
              have b1 := HBE.out.trans (below_of_fr H2.out.2 HBE.out.size)
              exact b1.trans (H3.out.2.2.mono b1.size))
            have hwl : w.heap.size ≤ w3.heap.size := (HBE.out.trans (below_of_fr H2.out.2 HBE.out.size)).size
            have HW3 := Lib.hid hwl
            clear hwl
            obtain ⟨wo, rfl⟩ : ∃ wo, wo = wr := ⟨_, rfl⟩
            go_loopw [6, 48] (fun s j wq => ∃ q : Nat, q ≤ N ∧ j = i64 q ∧ s = i64 (arkF ⟨mk, id, nm, ats⟩ (es'.take q)) ∧ Below w4.heap.size w4 wq) (fun _ j _ => N - (intOf j).toNat)
            case atStart => exact ⟨0, Nat.zero_le _, rfl, rfl, Below.refl _ _⟩
            case round =>
              obtain ⟨q, hq, rfl, rfl, hbel⟩ := hrel
              obtain ⟨sq, hsq⟩ : ∃ sq, arkF ⟨mk, id, nm, ats⟩ (es'.take q) = sq := ⟨_, rfl⟩
              have hsq100 : sq ≤ 100 := by
                have := ark_le ⟨mk, id, nm, ats⟩ (es'.take q) 0
                have h2 : (es'.take q).length ≤ N := by rw [List.length_take, HN'.out]; omega
                rw [← hsq]; unfold arkF; omega
              rw [hsq]
              have HSQ := Lib.hid hsq
              have HBQ := Lib.hid hbel
              clear hsq
              by_cases hlq : q < N
              · obtain ⟨ra, rcap, hve, _, _, hrr⟩ := H3.out.1.form
                have hpl : ps.length = N := by rw [← HN'.out, ← H3.out.2.1]; simp
                obtain ⟨⟨⟨mk2, id2, nm2, ats2⟩, xv⟩, hx⟩ : ∃ x, ps[q]? = some x := ⟨_, List.getElem?_eq_getElem (by rw [hpl]; exact hlq)⟩
                obtain ⟨g2, hra, _, hg2, hcc⟩ := hrr (fun e => by rw [e] at hx; simp at hx)
                obtain ⟨d0, d1, d2, d3⟩ := hcc q _ hx
                have hxat := H3.out.1.2.2 _ (List.mem_of_getElem? hx)
                obtain ⟨xa, xn, xc, hxv⟩ := hxat.fit
                simp only [Value.slice.injEq] at hve
                simp only at d0 d1 d2 d3 hxv hxat
                subst hxv
                have e0 := (hbel.cell (p := ⟨g2, _, none⟩) hg2).trans d0
                have e1 := (hbel.cell (p := ⟨g2, _, none⟩) hg2).trans d1
                have e2 := (hbel.cell (p := ⟨g2, _, none⟩) hg2).trans d2
                have e3 := (hbel.cell (p := ⟨g2, _, none⟩) hg2).trans d3
                have hxe : es'[q]? = some ⟨mk2, id2, nm2, ats2⟩ := by rw [← H3.out.2.1, List.getElem?_map, hx]; rfl
                have hstep := ark_take (e := ⟨mk, id, nm, ats⟩) hxe
                rw [HSQ.out] at hstep
                have HX := Lib.hid hstep
                have HAA := Lib.hid (hve.1.trans hra)
                have hbx := blk_kept HBX4.out hbel
                have HG2 := Lib.hid (Nat.lt_of_lt_of_le hg2 hbel.size)
                have HXAT : Hid (AtrsAt wr.drew w3.heap.size (.slice xa xn xc) ats2) := Lib.hid (hxat.below hbel.drew)
                have HTRQ : Hid (AtrsAt wr.drew w3.heap.size (.slice ea en ec) ats) := Lib.hid ((HTR4.out.below hbel.drew).up HW3.out)
                have HBXQ := Lib.hid hbx
                have hbz := hbx.lt
                clear hrr hpl hx hcc d0 d1 d2 d3 hxat hxe hstep hve hra hbel hbx
                rw [HAA.out]
                cases mk2
                · have f2 := HBXQ.out.cell 2 (.bool mk) rfl
                  have f3 := HBXQ.out.cell 3 (i64 id) rfl
                  have f4 := HBXQ.out.cell 4 (.string nm) rfl
                  have f5 := HBXQ.out.cell 5 (.slice ea en ec) rfl
                  obtain ⟨ra0, hra0⟩ : ∃ r, alikeB nm2 ats2 nm ats = r := ⟨_, rfl⟩
                  have HRA := Lib.hid hra0
                  clear hra0
                  go_wp2_with fail
                  go_region_held3 (fun w' => w'.cell? ⟨g2, q * 4, none⟩ = some (.bool false) ∧ w'.cell? ⟨g2, q * 4 + 1, none⟩ = some (i64 id2) ∧ w'.cell? ⟨g2, q * 4 + 2, none⟩ = some (.string nm2) ∧ w'.cell? ⟨g2, q * 4 + 3, none⟩ = some (.slice xa xn xc) ∧ w'.cell? ⟨wo.heap.size, 2, none⟩ = some (.bool mk) ∧ w'.cell? ⟨wo.heap.size, 3, none⟩ = some (i64 id) ∧ w'.cell? ⟨wo.heap.size, 4, none⟩ = some (.string nm) ∧ w'.cell? ⟨wo.heap.size, 5, none⟩ = some (.slice ea en ec)) (go_keep) (first
                    | (go_at_call 28; (with_reducible refine (ref_any (mk := false) (id := id2) (nm := nm2) (ad := xa) (n := xn) (c := xc)).mono ?_); rintro e w5 ⟨rfl, hb5⟩; have s0 := (hb5.cell (p := ⟨g2, _, none⟩) HG2.out).trans e0; have s1 := (hb5.cell (p := ⟨g2, _, none⟩) HG2.out).trans e1; have s2 := (hb5.cell (p := ⟨g2, _, none⟩) HG2.out).trans e2; have s3 := (hb5.cell (p := ⟨g2, _, none⟩) HG2.out).trans e3; have r2 := (hb5.cell (p := ⟨wo.heap.size, 2, none⟩) hbz).trans f2; have r3 := (hb5.cell (p := ⟨wo.heap.size, 3, none⟩) hbz).trans f3; have r4 := (hb5.cell (p := ⟨wo.heap.size, 4, none⟩) hbz).trans f4; have r5 := (hb5.cell (p := ⟨wo.heap.size, 5, none⟩) hbz).trans f5; have H5 := Lib.hid hb5; clear hb5)
                    | (go_at_call 28; (with_reducible refine (ref_any (mk := mk) (id := id) (nm := nm) (ad := ea) (n := en) (c := ec)).mono ?_); rintro e w6 ⟨rfl, hb6⟩; have t0 := (hb6.cell (p := ⟨g2, _, none⟩) (Nat.lt_of_lt_of_le HG2.out H5.out.size)).trans s0; have t1 := (hb6.cell (p := ⟨g2, _, none⟩) (Nat.lt_of_lt_of_le HG2.out H5.out.size)).trans s1; have t2 := (hb6.cell (p := ⟨g2, _, none⟩) (Nat.lt_of_lt_of_le HG2.out H5.out.size)).trans s2; have t3 := (hb6.cell (p := ⟨g2, _, none⟩) (Nat.lt_of_lt_of_le HG2.out H5.out.size)).trans s3; have v2 := (hb6.cell (p := ⟨wo.heap.size, 2, none⟩) (Nat.lt_of_lt_of_le hbz H5.out.size)).trans r2; have v3 := (hb6.cell (p := ⟨wo.heap.size, 3, none⟩) (Nat.lt_of_lt_of_le hbz H5.out.size)).trans r3; have v4 := (hb6.cell (p := ⟨wo.heap.size, 4, none⟩) (Nat.lt_of_lt_of_le hbz H5.out.size)).trans r4; have v5 := (hb6.cell (p := ⟨wo.heap.size, 5, none⟩) (Nat.lt_of_lt_of_le hbz H5.out.size)).trans r5; have H6 := Lib.hid (H5.out.trans (hb6.mono H5.out.size)); clear hb6)
                    | (go_at_call 27; (with_reducible refine (alike27_n (HXAT.out.below H6.out) (HTRQ.out.below H6.out) HRA.out).mono ?_); rintro e w7 ⟨rfl, hb7⟩; have u0 := (hb7.cell (p := ⟨g2, _, none⟩) (Nat.lt_of_lt_of_le HG2.out H6.out.size)).trans t0; have u1 := (hb7.cell (p := ⟨g2, _, none⟩) (Nat.lt_of_lt_of_le HG2.out H6.out.size)).trans t1; have u2 := (hb7.cell (p := ⟨g2, _, none⟩) (Nat.lt_of_lt_of_le HG2.out H6.out.size)).trans t2; have u3 := (hb7.cell (p := ⟨g2, _, none⟩) (Nat.lt_of_lt_of_le HG2.out H6.out.size)).trans t3; have x2 := (hb7.cell (p := ⟨wo.heap.size, 2, none⟩) (Nat.lt_of_lt_of_le hbz H6.out.size)).trans v2; have x3 := (hb7.cell (p := ⟨wo.heap.size, 3, none⟩) (Nat.lt_of_lt_of_le hbz H6.out.size)).trans v3; have x4 := (hb7.cell (p := ⟨wo.heap.size, 4, none⟩) (Nat.lt_of_lt_of_le hbz H6.out.size)).trans v4; have x5 := (hb7.cell (p := ⟨wo.heap.size, 5, none⟩) (Nat.lt_of_lt_of_le hbz H6.out.size)).trans v5; have H7 := Lib.hid (H6.out.trans (hb7.mono H6.out.size)); clear hb7))
                  have hbf : Hid (Below w4.heap.size w4 w7) := Lib.hid (HBQ.out.drew.trans (H7.out.mono HBQ.out.size))
                  have hwrap : IntKind.i64.wrap ((sq : Int) + 1) = (sq : Int) + 1 := IntWalk.i64_in _ (by omega)
                  cases ra0
                  · go_wp2
                    go_roundw
                    case rel =>
                      refine ⟨q + 1, by omega, by go_num, ?_, hbf.out⟩
                      rw [HX.out]
                      simp [ark, alikeE, HRA.out]
                    case measure => simp [intOf]; omega
                  · go_wp2
                    go_roundw
                    case rel =>
                      refine ⟨q + 1, by omega, by go_num, ?_, hbf.out⟩
                      rw [HX.out]
                      simp [ark, alikeE, HRA.out]
                    case measure => simp [intOf]; omega
                · go_wp2
                  go_roundw
                  case rel =>
                    refine ⟨q + 1, by omega, by go_num, ?_, HBQ.out⟩
                    rw [HX.out]
                    rfl
                  case measure => simp [intOf]; omega
              · have hqN : q = N := by omega
                have h3 : decide ((3 : Int) < (sq : Int)) = false := by
                  have h1 := HE'.out.2 ⟨mk, id, nm, ats⟩
                  have h2 := HSQ.out
                  rw [List.take_of_length_le (by rw [HN'.out]; omega)] at h2
                  simp; omega
                clear hbel
                go_wp2
                go_roundw
                case rel =>
                  have b1 := HB4.out.trans (HBQ.out.mono HB4.out.size)
                  exact ⟨k + 1, by omega, by go_num, Lib.hid ⟨_, (H2.out.1.below H3.out.2.2).below HBQ.out, HE'.out⟩, b1⟩
                case measure => simp [intOf]; omega
          · have z6 : (rr != 0) = true := by simpa using hr0
            clear hr0
            go_wp2_with (first | (go_at_call 22; (with_reducible refine (add_n HL.out HE.out.1 HTR.out HA.out.1 HA.out.2).mono ?_); rintro e w3 ⟨rfl, hl2, hf2⟩; have H2 := Lib.hid (And.intro hl2 hf2); clear hl2 hf2))
            go_roundw
            case rel =>
              exact ⟨k + 1, by omega, by go_num, Lib.hid ⟨_, H2.out.1, HE'.out⟩, HBE.out.trans (below_of_fr H2.out.2 HBE.out.size)⟩
            case measure => simp [intOf]; omega
    · have HBE := Lib.hid hbel
      clear hbel
      go_wp2_with (first | (go_at_call 10; (with_reducible refine (four_any _).mono ?_); rintro e w4 ⟨rfl, hb4⟩; have H4 := Lib.hid hb4; clear hb4))
      go_ret
      exact ⟨rfl, HBE.out.trans (H4.out.mono HBE.out.size)⟩

theorem activeArk_walk {w : World} {v : Value} {l : List (Stp × Value)} (h : StepsAt w v l) :
    Calls Try.prog 5 #[v] w fun e w' => e = .returned (.bool true) ∧ Below w.heap.size w w' := by
  by_cases hb : 90 < l.length
  · exact activeArk_long h hb
  · exact activeArk_main h (by omega)

namespace activeArk
open Go.ChangeShapes Go.WideShapes Go.ChangeAt Go.RowKit Go.Joins Go.Deep
open Go.ChangeMaps (open_string shut_string)
set_option linter.unusedVariables false
set_option maxRecDepth 100000 in
theorem lifted (os : Os) (started : os.Started) (H : Type) (enc : TypeId × Value → H) :
    ReturnsInHanded {} Try.checked os 5 .any (Rows.activeArkSpec.pre6 enc Try.prog Try.f5 Rows.activeArkRow.domain false) (Rows.activeArkSpec.post enc Try.prog Try.f5 false true false false) := by
  refine returnsInHanded_of_change_sized (C := Try.checked) own started (by kernel_rfl) Try.func5
    (ChangeSpec.witness6 (enc := enc) (C := Try.checked) false ⟨#[], #[.slice none 0 0], []⟩ 8 (by kernel_rfl) (by kernel_rfl) (by kernel_rfl) (by kernel_rfl)) ?_
  intro W base args ds gs before hval0 hW hcnd hsz0 _
  have hval : ∀ (j : Nat) t v, Try.f5.params[j]? = some t → args[j]? = some v → Value.okWide Try.prog W .any base t v := hval0
  have hW' := hW
  obtain ⟨p, q, hA0, hV, rfl, hfz, hnd⟩ := hW
  have hA : DataW.TrodAll enc Try.prog W 0 (fun _ => true) true Try.f5.params.toList args.toList ds p := hA0
  rw [Try.params5] at hA hval
  obtain ⟨v0, vs0, d0, ds0, p0, q0, hargs, rfl, rfl, h0, r0⟩ := trodAll_cons hA
  obtain ⟨rfl, rfl, rfl⟩ := trodAll_nil r0
  obtain rfl : args = #[v0] := by cases args; simp_all
  obtain ⟨rfl, rfl⟩ := trodVars_none hV
  have h0k := h0
  have hlt0 : ∀ x ∈ p0, x.block < W.heap.size := fun x hx => by simpa using hW'.lt x (by simp [hx])
  have hwt : ∀ q ∈ d0.weights Try.prog 22, q ≤ reachBytes := fun q hq => of_decide_eq_true (List.all_eq_true.1 hsz0 q (DataW.weights_mem_each (j := 0) (t := 22) rfl rfl q hq))
  obtain ⟨l, hl, _⟩ := open_steps (hval 0 22 v0 rfl rfl) h0 hwt
  clear hA0 hval0 hsz0
  refine (activeArk_walk hl).mono fun e W' ⟨he, bel⟩ => ?_
  subst he
  exact ⟨_, rfl, _, _, _, [], _, [], hW', trodAll_mk1 (shut_bool Try.underlying4 _), (trodAll_cons_mk (Below.trod laid (by kernel_rfl) (of_decide_eq_true (by kernel_rfl)) h0k bel hlt0) trodAll_mk0), rfl, bel.frame _, fun h => by cases h⟩
theorem over : Rows.activeArkRow.holds Try.pinned (OpenSpec.ofChange Rows.activeArkSpec) :=
  OpenClaim.holds_of_wide 5 Try.f5 rfl rfl rfl rfl rfl rfl rfl ⟨rfl, rfl, rfl, rfl, rfl⟩ rfl rfl rfl rfl rfl (by kernel_rfl) Try.func5 (by kernel_rfl)
    (of_decide_eq_true (by kernel_rfl)) (by unfold Func.isWrapper; first | (rw [if_pos (by decide +kernel)]; kernel_rfl) | (rw [if_neg (by decide +kernel)]; exact ⟨rfl, rfl⟩))
    (fun os started H enc _ => lifted os started H enc)
end activeArk
/-- The row: whatever the steps, true. -/
theorem activeArk_holds : Rows.ActiveArkSaid := activeArk.over

end Go.Proofs.Ytjopfgdgmniigaa
