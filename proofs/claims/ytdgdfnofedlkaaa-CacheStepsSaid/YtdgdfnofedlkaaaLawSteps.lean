/-
  rectolaw33.CacheSteps returns true for every input: a cache does, step by step, what the document's cache does.
  Written by an AI agent.
-/
import Derived.Test.YtdgdfnofedlkaaaOpen
import Derived.Test.YtdgdfnofedlkaaaRows
import Derived.BigQuiet
import Derived.Deep.RegionWith
namespace Go.Proofs.Ytdgdfnofedlkaaa
open Go.RowKit Go.Maps

theorem does_at (what id : Int) (s : ByteArray) {w : World} {B cb rb : Nat} {most bytes : Int} {S : Sta} {N : Nat} (h : Both w B cb rb most bytes S N) (hN : N < 1000000) (hw : (Lit.int .i64 id).wf = true) {S' : Sta} (hS : S.step most bytes ⟨what, id, s⟩ = S') :
    Calls Try.prog 10 #[ptr cb, ptr rb, .agg #[i64 what, i64 id, .string s]] w (DoneIt B cb rb most bytes S' (N + 1) w) := by
  subst hS
  exact does_any ⟨what, id, s⟩ h hN hw

theorem bytes_same {w : World} {B cb : Nat} {most bytes hits misses : Int} {st : List Txt} (h : Cache Try.prog w B cb most bytes st hits misses) {T : Int} (hT : tot st = T) :
    Calls Try.prog 11 #[ptr cb] w fun e w' => e = .returned (i64 T) ∧ w = w' := by
  subst hT
  exact bytes_any h

/-- What the document's cache reads as. -/
theorem ref_reads {w : World} {B rb : Nat} {most bytes hits misses : Int} {st : List Txt} (h : Ref w B rb most bytes st hits misses) {m : Nat} (hm : st.length = m) :
    ∃ ad cp, RefAt w B rb most bytes st hits misses (.slice ad m cp) ∧ ∀ (k : Nat) (x : Txt), st[k]? = some x → ∃ g, ad = some ⟨g, 0, none⟩ ∧ g < w.heap.size ∧ w.cell? ⟨g, k * 2, none⟩ = some (i64 x.1) ∧ w.cell? ⟨g, k * 2 + 1, none⟩ = some (.string x.2) := by
  subst hm
  obtain ⟨v, h⟩ := h
  rcases row_form h.2.1 with ⟨rfl, rfl⟩ | ⟨g, cap, rfl, hnc, hcm, hBg, hg, hcell⟩
  · exact ⟨none, 0, h, fun k x hx => by simp at hx⟩
  · exact ⟨_, cap, h, fun k x hx => ⟨g, rfl, hg, hcell k x hx⟩⟩

theorem sum_same {w : World} {B rb : Nat} {most bytes hits misses : Int} {st : List Txt} {ad : Option Addr} {m cp : Nat} (h : RefAt w B rb most bytes st hits misses (.slice ad m cp)) {T : Int} (hT : tot st = T) (hb : T ≤ 1000000000000) :
    Calls Try.prog 12 #[.slice ad m cp] w fun e w' => e = .returned (i64 T) ∧ Below w.heap.size w w' := sum_at h rfl hT hb

theorem Both.below {w w' : World} {B cb rb : Nat} {most bytes : Int} {S : Sta} {N : Nat} (h : Both w B cb rb most bytes S N) (hb : Below w.heap.size w w') : Both w' B cb rb most bytes S N := ⟨h.cache.below hb, h.ref.below hb, h.good⟩

theorem cell_one_at (w : World) (o : Obj) (v : Value) (t : TypeId) {b : Nat} (hb : b = (w.alloc o).heap.size) : ∀ (j : Nat) (u : Value), [v][j]? = some u → ((w.alloc o).alloc (.cells #[v] t)).cell? ((⟨b, 0, none⟩ : Addr).add j) = some u := by
  subst hb
  exact cell_one_new _ _ _

/-- What a round of CacheSteps leaves. -/
def StepsR (w : World) (rb : Nat) (most bytes : Int) (k : Nat) (wr : World) : Prop :=
  ∃ S, Both wr w.heap.size w.heap.size rb most bytes S k ∧ Below w.heap.size w wr

theorem cache_drewN {w : World} {B cb : Nat} {most bytes hits misses : Int} {st : List Txt} (h : Cache Try.prog w B cb most bytes st hits misses) (n : Nat) : Cache Try.prog (w.drewN n) B cb most bytes st hits misses := h.below (below_drewN (Below.refl _ w) n)
theorem ids_eq {w : World} {B cb : Nat} {most bytes hits misses : Int} {st : List Txt} (h : Cache Try.prog w B cb most bytes st hits misses) {m : Nat} (hm : st.length = m) :
    Calls Try.prog 15 #[ptr cb] w fun e w' => ∃ ad cp, e = .returned (.slice ad m cp) ∧ IntsAt w' (.slice ad m cp) (st.map (·.1)) ∧ Below w.heap.size w w' := by
  have hlen := h.facts
  refine (ids_any h).mono ?_
  rintro e w' ⟨v, rfl, hown, hbel⟩
  have hi : IntsAt w' v (st.map (·.1)) := IntsAt.of_own (base := w.heap.size) (e := 3) (by rw [List.map_map, List.length_map]; exact hown) (by simp; omega)
  obtain ⟨ad, cp, rfl⟩ := own_slice hown
  subst hm
  exact ⟨ad, cp, rfl, hi, hbel⟩
theorem ints_same {w : World} {va vb : Value} {xs : List Int} (ha : IntsAt w va xs) (hb : IntsAt w vb xs) :
    Calls Try.prog 14 #[va, vb] w fun e w' => e = .returned (.bool true) ∧ ∃ n, w.drewN n = w' := by
  have := ints_any ha hb
  rw [decide_eq_true rfl] at this
  exact this
theorem ref_new (w : World) (most bytes : Int) : Ref (w.alloc (.cells #[i64 most, i64 bytes, .slice none 0 0, i64 0, i64 0] 32)) w.heap.size w.heap.size most bytes [] 0 0 :=
  ⟨_, Blk.new w 32 _, World.ownsRow_nil _ _ _ _, Nat.le_refl _, by simp⟩

theorem below_of_fr {B : Nat} {T : Obj → Bool} {a w : World} (h : Fr B T a w) (hB : B ≤ a.heap.size) : Below B a w := ⟨h.os, h.tape, h.output, h.size, fun k hk => h.block k (Nat.lt_of_lt_of_le hk hB) (.inl hk)⟩
theorem RefAt.mono {w : World} {B B' rb : Nat} {most bytes hits misses : Int} {st : List Txt} {v : Value} (h : RefAt w B rb most bytes st hits misses v) (hB : B' ≤ B) : RefAt w B' rb most bytes st hits misses v :=
  ⟨h.1, own_mono h.2.1 hB, Nat.le_trans hB h.2.2.1, h.2.2.2⟩

set_option maxHeartbeats 4000000 in
set_option maxRecDepth 100000 in
theorem cacheSteps_walk {most bytes : Int} {v : Value} {l : List Stp} {w : World} (h : StepsAt w v l) (hwf : ∀ x ∈ l, (Lit.int .i64 x.id).wf = true) :
    Calls Try.prog 3 #[i64 most, i64 bytes, v] w fun e w' => e = .returned (.bool true) ∧ Below w.heap.size w w' := by
  by_cases hbad : most < 1 ∨ 1000 < most ∨ bytes < 0 ∨ 65536 < bytes
  · have HBAD := Lib.hid hbad
    rcases hbad with hbad | hbad | hbad | hbad
    all_goals go_enter Try.func3, Try.ntmps3
    all_goals go_wp2_with (first
      | (go_at_call 7; refine (new_no most bytes _ HBAD.out).mono ?_; rintro e w' ⟨rfl, rfl⟩)
      | (go_at_call 8; refine (two_any _).mono ?_; rintro e w2 ⟨rfl, h2⟩; have H2 := Lib.hid h2; clear h2))
    all_goals first
      | (exfalso; have := HBAD.out; omega)
      | (go_ret; exact ⟨rfl, H2.out⟩)
  have H := Lib.hid h
  have HW := Lib.hid hwf
  have HM := Lib.hid (show 1 ≤ most ∧ most ≤ 1000 ∧ 0 ≤ bytes ∧ bytes ≤ 65536 by omega)
  have m1 : ¬ most < 1 := by omega
  have m2 : ¬ 1000 < most := by omega
  have m3 : ¬ bytes < 0 := by omega
  have m4 : ¬ 65536 < bytes := by omega
  clear h hwf hbad
  cases hlb : longB l
  case true =>
    have HL := Lib.hid hlb
    clear hlb
    go_enter Try.func3, Try.ntmps3
    go_wp2_with (first
      | (go_at_call 7; refine (new_yes most bytes _ HM.out.1 HM.out.2.1 HM.out.2.2.1 HM.out.2.2.2).mono ?_; rintro e w1 ⟨rfl, hc, hf⟩; have H1 := Lib.hid (And.intro hc hf); clear hc hf)
      | (go_at_call 9; refine (long_any (H.out.below H1.out.2.below)).mono ?_; rintro e w2 ⟨rfl, h2⟩; rw [HL.out]; have H2 := Lib.hid h2; clear h2)
      | (go_at_call 8; refine (two_any _).mono ?_; rintro e w3 ⟨rfl, h3⟩; have H3 := Lib.hid h3; clear h3))
    go_ret
    exact ⟨rfl, (H1.out.2.below.trans (H2.out.mono H1.out.2.size)).trans (H3.out.mono (Nat.le_trans H1.out.2.size H2.out.size))⟩
  case false =>
    have HL := Lib.hid hlb
    have hn102 : l.length ≤ 101 := by
      unfold longB at hlb
      simp only [Bool.or_eq_false_iff, decide_eq_false_iff_not] at hlb
      omega
    clear hlb
    obtain ⟨ad, c, rfl, hl, hr⟩ := H.out
    obtain ⟨n, hn⟩ : ∃ n, l.length = n := ⟨_, rfl⟩
    rw [hn] at hl H hn102 ⊢
    have HN := Lib.hid hn
    have HR := Lib.hid hr
    clear hn hr
    go_enter Try.func3, Try.ntmps3
    go_wp2_with (first
      | (go_at_call 7; refine (new_yes most bytes _ HM.out.1 HM.out.2.1 HM.out.2.2.1 HM.out.2.2.2).mono ?_; rintro e w1 ⟨rfl, hc, hf⟩; have H1 := Lib.hid (And.intro hc hf); clear hc hf)
      | (go_at_call 9; refine (long_any (H.out.below H1.out.2.below)).mono ?_; rintro e w2 ⟨rfl, h2⟩; rw [HL.out]; have H2 := Lib.hid h2; clear h2))
    go_loopw [71] (fun i wr => ∃ k : Nat, k ≤ n ∧ i = i64 k ∧ Hid (StepsR w w2.heap.size most bytes k wr)) (fun i _ => n - (intOf i).toNat)
    case atStart =>
      refine ⟨0, Nat.zero_le _, rfl, ⟨⟨[], 0, 0⟩, ⟨(H1.out.1.below H2.out).below ((Below.refl _ _).alloc (Nat.le_refl _) _), ?_, by simp⟩, ?_⟩⟩
      · obtain ⟨v, q⟩ := ref_new w2 most bytes
        exact ⟨v, q.mono (Nat.le_trans H1.out.2.size H2.out.size)⟩
      · exact (H1.out.2.below.trans (H2.out.mono H1.out.2.size)).alloc (Nat.le_trans H1.out.2.size H2.out.size) _
    case round =>
      obtain ⟨k, hk, rfl, HK⟩ := hrel
      by_cases hlt : k < n
      · obtain ⟨x, hx⟩ : ∃ x, l[k]? = some x := ⟨_, List.getElem?_eq_getElem (by rw [HN.out]; exact hlt)⟩
        obtain ⟨what, id, s⟩ := x
        obtain ⟨g, off, had, hg, hc⟩ := HR.out (fun e => by have := HN.out; rw [e] at this; simp at this; omega)
        obtain ⟨d0, d1, d2⟩ := hc k _ hx
        obtain ⟨S, hboth, hbel⟩ := HK.out
        have e0 := (hbel.cell (p := ⟨g, off + k * 3, none⟩) hg).trans d0
        have e1 := (hbel.cell (p := ⟨g, off + k * 3 + 1, none⟩) hg).trans d1
        have e2 := (hbel.cell (p := ⟨g, off + k * 3 + 2, none⟩) hg).trans d2
        simp only at e0 e1 e2
        have HX := Lib.hid (HW.out _ (List.mem_of_getElem? hx))
        have HAD := Lib.hid had
        obtain ⟨S', hS⟩ : ∃ S', S.step most bytes ⟨what, id, s⟩ = S' := ⟨_, rfl⟩
        obtain ⟨T, hT⟩ : ∃ T, tot S'.st = T := ⟨_, rfl⟩
        obtain ⟨m, hm⟩ : ∃ m, S'.st.length = m := ⟨_, rfl⟩
        have H0 := Lib.hid (boxed hboth (i64 what) (i64 id) (.string s))
        have HS := Lib.hid (And.intro hS (And.intro hT hm))
        have HBEL := Lib.hid hbel
        clear hc hx had d0 d1 d2 hboth hS hT hm hbel
        rw [HAD.out]
        go_wp2_with fail
        go_region_with (first
          | (go_at_call 10; (with_reducible refine (does_at what id s H0.out.1.drew (by omega) HX.out HS.out.1).mono ?_); rintro e wa ⟨rfl, hba, hfa⟩; obtain ⟨adr, cpr, hra, hrow⟩ := ref_reads hba.ref HS.out.2.2; have ra2 := hra.1.cell 2 (.slice adr m cpr) rfl; have hpa := hfa.blk H0.out.2.drew (.inr rfl); have s0 := hpa.cell 0 (i64 what) rfl; have s1 := hpa.cell 1 (i64 id) rfl; have s2 := hpa.cell 2 (.string s) rfl; clear hpa; have HA := Lib.hid (And.intro hba (And.intro hfa (And.intro hra hrow))); clear hba hfa hra hrow)
          | (go_at_call 11; (with_reducible refine (bytes_same HA.out.1.cache HS.out.2.1).mono ?_); rintro e wb ⟨rfl, rfl⟩)
          | (go_at_call 12; (with_reducible refine (sum_same HA.out.2.2.1 HS.out.2.1 (by have := HA.out.1.cache.facts; have := HS.out.2.1; omega)).mono ?_); rintro e wc ⟨rfl, hbc⟩; have t0 := (hbc.cell (p := ⟨wr.heap.size, 0, none⟩) (by have := HA.out.2.1.size; simp at this; simp; omega)).trans s0; have t1 := (hbc.cell (p := ⟨wr.heap.size, 1, none⟩) (by have := HA.out.2.1.size; simp at this; simp; omega)).trans s1; have t2 := (hbc.cell (p := ⟨wr.heap.size, 2, none⟩) (by have := HA.out.2.1.size; simp at this; simp; omega)).trans s2; have HC := Lib.hid hbc; clear hbc))
        all_goals
          have hrc := HA.out.2.2.1.below HC.out
          have rc2 := hrc.1.cell 2 (.slice adr m cpr) rfl
          have rc3 := hrc.1.cell 3 (i64 S'.hits) rfl
          have rc4 := hrc.1.cell 4 (i64 S'.misses) rfl
          have rlt := hrc.1.lt
          have hm1000 : m ≤ 1000 := by have := HA.out.1.cache.facts; have := HS.out.2.2; omega
          clear hrc
          obtain ⟨i0, hi, hz0, hz1, hz2⟩ := info_parts info3
          go_wp2_with fail
          go_loopw [12, 95] (fun v i wi => ∃ j : Nat, j ≤ m ∧ i = i64 j ∧ wi.ownsRow wc.heap.size 3 1 v j ((S'.st.take j).map fun x => i64 x.1) ∧ Below wc.heap.size wc wi) (fun _ i _ => m - (intOf i).toNat)
          case atStart => exact ⟨0, Nat.zero_le _, rfl, World.ownsRow_nil _ _ _ _, Below.refl _ _⟩
          case round =>
            obtain ⟨j, hj, rfl, hown, hbi⟩ := hrel
            by_cases hjm : j < m
            · obtain ⟨y, hy⟩ : ∃ y, S'.st[j]? = some y := ⟨_, List.getElem?_eq_getElem (by rw [HS.out.2.2]; exact hjm)⟩
              obtain ⟨gr, hadr, hgr, f1, f2⟩ := HA.out.2.2.2 j y hy
              have hgc := Nat.lt_of_lt_of_le hgr HC.out.size
              have g1 := (hbi.cell (p := ⟨gr, j * 2, none⟩) hgc).trans ((HC.out.cell (p := ⟨gr, j * 2, none⟩) hgr).trans f1)
              have g2 := (hbi.cell (p := ⟨gr, j * 2 + 1, none⟩) hgc).trans ((HC.out.cell (p := ⟨gr, j * 2 + 1, none⟩) hgr).trans f2)
              have HY := Lib.hid hy
              have HADR := Lib.hid hadr
              have HO := Lib.hid hown
              have HBI := Lib.hid hbi
              obtain ⟨av, cv, rfl⟩ := own_slice hown
              clear f1 f2 hy hadr hown hbi
              rw [HADR.out]
              go_wp2_with (first
                | (at_builtin; refine wpList_append_own _ rfl _ _ 38 rfl wc.heap.size 3 i0 (.int .i64 0) 1 8 Try.underlying38 hi hz0 hz1 hz2 rfl (by decide) _ _ _ rfl ((HO.out.alloc _).alloc _) _ 1 1 [i64 y.1] rfl rfl (cell_one_at _ _ _ _ (by simp)) (by intro u hu; simp at hu; subst hu; rfl) (by unfold maxLen; omega) (by omega) (by have := HBI.out.size; simp; omega) ?_; intro v' w4 hown' hgrow _))
              have hb4 : Below wc.heap.size wc w4 := ((HBI.out.alloc HBI.out.size _).alloc (by have := HBI.out.size; simp; omega) _).grown hgrow (by have := HBI.out.size; simp; omega) (fun k hk => (own_kind HO.out k hk).1)
              have HO4 := Lib.hid hown'
              have HB4 := Lib.hid hb4
              clear hgrow hown' hb4
              go_wp2
              go_roundw
              case rel =>
                refine ⟨j + 1, by omega, by go_num, ?_, HB4.out⟩
                have := HO4.out
                rw [List.take_add_one, HY.out]
                simpa using this
              case measure => simp [intOf]; omega
            · have hjm' : j = m := by omega
              have htk : S'.st.take j = S'.st := List.take_of_length_le (by have := HS.out.2.2; omega)
              rw [htk] at hown
              have hci := (HA.out.1.cache.below HC.out).below hbi
              have HCI := Lib.hid hci
              have hint := IntsAt.of_own (xs := S'.st.map (·.1)) (base := wc.heap.size) (e := 3) (v := _) (w := _) (by rw [List.map_map, List.length_map, HS.out.2.2, ← hjm']; exact hown) (by have := HS.out.2.2; simp; omega)
              have HINT := Lib.hid hint
              have HBI := Lib.hid hbi
              have e3 := (hbi.cell (p := ⟨w2.heap.size, 3, none⟩) rlt).trans rc3
              have e4 := (hbi.cell (p := ⟨w2.heap.size, 4, none⟩) rlt).trans rc4
              have hlti := Nat.lt_of_lt_of_le rlt hbi.size
              clear htk hown hci hint hbi hjm'
              go_wp2_with (first
                | (go_at_call 13; (with_reducible refine (counts_any HCI.out).mono ?_); rintro e w5 ⟨rfl, n5, rfl⟩)
                | (go_at_call 15; (with_reducible refine (ids_eq (cache_drewN HCI.out n5) HS.out.2.2).mono ?_); rintro e w6 ⟨ad6, cp6, rfl, h6, hb6⟩; have k3 := (hb6.cell (p := ⟨w2.heap.size, 3, none⟩) hlti).trans e3; have k4 := (hb6.cell (p := ⟨w2.heap.size, 4, none⟩) hlti).trans e4; have H6 := Lib.hid (And.intro h6 hb6); clear h6 hb6)
                | (go_at_call 14; (with_reducible refine (ints_same H6.out.1 ((HINT.out.drewN n5).below H6.out.2)).mono ?_); rintro e w7 ⟨rfl, n7, rfl⟩))
              go_roundw
              case rel =>
                have b1 := (HBEL.out.alloc HBEL.out.size (.cells #[i64 what, i64 id, .string s] 34)).drew
                have b2 := b1.trans (below_of_fr HA.out.2.1 b1.size)
                have b3 := b2.trans (HC.out.mono b2.size)
                have b4 := b3.trans (HBI.out.mono b3.size)
                have b5 := below_drewN b4 n5
                have b6 := b5.trans (H6.out.2.mono b5.size)
                refine ⟨k + 1, by omega, by go_num, ⟨S', ?_, below_drewN b6 n7⟩⟩
                exact ((((HA.out.1.below HC.out).below HBI.out).below (below_drewN (Below.refl _ _) n5)).below H6.out.2).below (below_drewN (Below.refl _ _) n7)
              case measure => simp [intOf]; omega
      · go_wp2_with (first
          | (go_at_call 8; refine (two_any _).mono ?_; rintro e w3 ⟨rfl, h3⟩; have H3 := Lib.hid h3; clear h3))
        go_ret
        obtain ⟨S, _, hbel⟩ := HK.out
        exact ⟨rfl, hbel.trans (H3.out.mono hbel.size)⟩

namespace cacheSteps
open Go.ChangeShapes Go.WideShapes Go.ChangeAt Go.RowKit Go.Joins Go.Deep
open Go.ChangeMaps (open_string shut_string)
set_option linter.unusedVariables false
set_option maxRecDepth 100000 in
theorem lifted (os : Os) (started : os.Started) (H : Type) (enc : TypeId × Value → H) :
    ReturnsInHanded {} Try.checked os 3 .any (Rows.cacheStepsSpec.pre6 enc Try.prog Try.f3 Rows.cacheStepsRow.domain false) (Rows.cacheStepsSpec.post enc Try.prog Try.f3 false true false false) := by
  refine returnsInHanded_of_change_sized (C := Try.checked) own started (by kernel_rfl) Try.func3
    (ChangeSpec.witness6 (enc := enc) (C := Try.checked) false ⟨#[], #[.int .i64 0, .int .i64 0, .slice none 0 0], []⟩ 8 (by kernel_rfl) (by kernel_rfl) (by kernel_rfl) (by kernel_rfl)) ?_
  intro W base args ds gs before hval0 hW hcnd hsz0 _
  have hval : ∀ (j : Nat) t v, Try.f3.params[j]? = some t → args[j]? = some v → Value.okWide Try.prog W .any base t v := hval0
  have hW' := hW
  obtain ⟨p, q, hA0, hV, rfl, hfz, hnd⟩ := hW
  have hA : DataW.TrodAll enc Try.prog W 0 (fun _ => true) true Try.f3.params.toList args.toList ds p := hA0
  rw [Try.params3] at hA hval
  obtain ⟨v0, vs0, d0, ds0, p0, q0, hargs, rfl, rfl, h0, r0⟩ := trodAll_cons hA
  obtain ⟨v1, vs1, d1, ds1, p1, q1, rfl, rfl, rfl, h1, r1⟩ := trodAll_cons r0
  obtain ⟨v2, vs2, d2, ds2, p2, q2, rfl, rfl, rfl, h2, r2⟩ := trodAll_cons r1
  obtain ⟨rfl, rfl, rfl⟩ := trodAll_nil r2
  obtain rfl : args = #[v0, v1, v2] := by cases args; simp_all
  obtain ⟨rfl, rfl⟩ := trodVars_none hV
  obtain ⟨a0, rfl, rfl, rfl, w0⟩ := open_int Try.underlying3 (hval 0 3 v0 rfl rfl) h0
  obtain ⟨a1, rfl, rfl, rfl, w1⟩ := open_int Try.underlying3 (hval 1 3 v1 rfl rfl) h1
  have h2k := h2
  have hlt : ∀ x ∈ p2, x.block < W.heap.size := fun x hx => by simpa using hW'.lt x (by simp [hx])
  obtain ⟨l, hl, hlw⟩ := open_steps (hval 2 22 v2 rfl rfl) h2
  clear hA0 hval0 hsz0
  refine (cacheSteps_walk hl hlw).mono fun e W' ⟨he, bel⟩ => ?_
  subst he
  exact ⟨_, rfl, _, _, _, [], _, [], hW', trodAll_mk1 (shut_bool Try.underlying4 _), (trodAll_cons_mk (shut_int Try.underlying3 w0) (trodAll_cons_mk (shut_int Try.underlying3 w1) (trodAll_cons_mk (Below.trod laid (by kernel_rfl) (of_decide_eq_true (by kernel_rfl)) h2k bel hlt) trodAll_mk0))), rfl, bel.frame _, fun h => by cases h⟩
theorem over : Rows.cacheStepsRow.holds Try.pinned (OpenSpec.ofChange Rows.cacheStepsSpec) :=
  OpenClaim.holds_of_wide 3 Try.f3 rfl rfl rfl rfl rfl rfl rfl ⟨rfl, rfl, rfl, rfl, rfl⟩ rfl rfl rfl rfl rfl (by kernel_rfl) Try.func3 (by kernel_rfl)
    (of_decide_eq_true (by kernel_rfl)) (by unfold Func.isWrapper; first | (rw [if_pos (by decide +kernel)]; kernel_rfl) | (rw [if_neg (by decide +kernel)]; exact ⟨rfl, rfl⟩))
    (fun os started H enc _ => lifted os started H enc)
end cacheSteps
/-- The row: whatever the input, true. -/
theorem cacheSteps_holds : Rows.CacheStepsSaid := cacheSteps.over

end Go.Proofs.Ytdgdfnofedlkaaa
