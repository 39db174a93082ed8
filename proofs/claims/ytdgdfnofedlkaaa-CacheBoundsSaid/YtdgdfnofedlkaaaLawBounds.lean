/-
  rectolaw33.CacheBounds returns true for every input: a cache keeps its bounds, and what was put last and taken is there.
  Written by an AI agent.
-/
import Derived.Test.YtdgdfnofedlkaaaOpen
import Derived.Test.YtdgdfnofedlkaaaRows
import Derived.BigQuiet
namespace Go.Proofs.Ytdgdfnofedlkaaa
open Go.RowKit Go.Maps

theorem putL_yes {most bytes id : Int} {s : ByteArray} (st : List Txt) (h : (s.size : Int) ≤ bytes) : ∃ r, putL most bytes id s st = (id, s) :: r := by
  unfold putL
  rw [if_neg (by omega)]
  exact ⟨_, rfl⟩
theorem putL_no {most bytes id : Int} {s : ByteArray} (st : List Txt) (h : ¬ (s.size : Int) ≤ bytes) : putL most bytes id s st = drp id st := by
  unfold putL
  rw [if_pos (by omega)]
theorem hasB_head (id : Int) (s : ByteArray) (r : List Txt) : hasB id ((id, s) :: r) = true := by simp [hasB]
theorem gotS_head (id : Int) (s : ByteArray) (r : List Txt) : gotS id ((id, s) :: r) = s := by simp [gotS]
theorem hasB_drp (id : Int) (st : List Txt) : hasB id (drp id st) = false := hasB_false.2 drp_not

theorem get_miss {w : World} {B cb : Nat} {most bytes hits misses : Int} {st : List Txt} (h : Cache Try.prog w B cb most bytes st hits misses) (id : Int) (hw : (Lit.int .i64 id).wf = true)
    (h0 : 0 ≤ hits) (h1 : hits < 9223372036854775807) (h2 : 0 ≤ misses) (h3 : misses < 9223372036854775807) (hb : hasB id st = false) :
    Calls Try.prog 19 #[ptr cb, i64 id] w fun e w' => e = .returned (.tuple #[.string ByteArray.empty, .bool false]) ∧ Cache Try.prog w' B cb most bytes st hits (misses + 1) ∧ Fr B CK w w' := by
  have := get_any h id hw h0 h1 h2 h3
  have hg : gotS id st = ByteArray.empty := by
    unfold gotS
    rw [List.find?_eq_none.2]
    · rfl
    · intro x hx hid
      have : hasB id st = true := List.any_eq_true.2 ⟨x, hx, hid⟩
      rw [hb] at this; simp at this
  have hl : gotL id st = st := by unfold gotL; rw [hb]; rfl
  rw [hb, hg, hl] at this
  simpa using this

theorem Cache.drew {w : World} {B cb : Nat} {most bytes hits misses : Int} {st : List Txt} (h : Cache Try.prog w B cb most bytes st hits misses) : Cache Try.prog w.drew B cb most bytes st hits misses := h.below ((Below.refl _ w).drew)
theorem Cache.drewN {w : World} {B cb : Nat} {most bytes hits misses : Int} {st : List Txt} (h : Cache Try.prog w B cb most bytes st hits misses) (n : Nat) : Cache Try.prog (w.drewN n) B cb most bytes st hits misses := h.below (below_drewN (Below.refl _ w) n)
theorem bytes_eq {w : World} {B cb : Nat} {most bytes hits misses : Int} {st : List Txt} (h : Cache Try.prog w B cb most bytes st hits misses) {T : Int} (hT : tot st = T) :
    Calls Try.prog 11 #[ptr cb] w fun e w' => e = .returned (i64 T) ∧ w' = w := by
  subst hT
  exact (bytes_any h).mono fun e w' h => ⟨h.1, h.2.symm⟩
theorem ids_eq {w : World} {B cb : Nat} {most bytes hits misses : Int} {st : List Txt} (h : Cache Try.prog w B cb most bytes st hits misses) {m : Nat} (hm : st.length = m) :
    Calls Try.prog 15 #[ptr cb] w fun e w' => ∃ ad cp, e = .returned (.slice ad m cp) ∧ IntsAt w' (.slice ad m cp) (st.map (·.1)) ∧ Below w.heap.size w w' := by
  have hlen := h.facts
  refine (ids_any h).mono ?_
  rintro e w' ⟨v, rfl, hown, hbel⟩
  have hi : IntsAt w' v (st.map (·.1)) := IntsAt.of_own (base := w.heap.size) (e := 3) (by rw [List.map_map, List.length_map]; exact hown) (by simp; omega)
  obtain ⟨ad, cp, rfl⟩ := own_slice hown
  subst hm
  exact ⟨ad, cp, rfl, hi, hbel⟩
theorem IntsAt.first {w : World} {ad : Option Addr} {m cp : Nat} {x : Int} {xs : List Int} (h : IntsAt w (.slice ad m cp) (x :: xs)) : ∃ g off, ad = some ⟨g, off, none⟩ ∧ g < w.heap.size ∧ w.cell? ⟨g, off, none⟩ = some (i64 x) := by
  obtain ⟨ad', c', he, _, hr⟩ := h
  obtain ⟨g, off, ha, hg, hc⟩ := hr (by simp)
  simp only [Value.slice.injEq] at he
  exact ⟨g, off, he.1.trans ha, hg, hc 0 x rfl⟩

theorem below_of_fr {B : Nat} {T : Obj → Bool} {a w : World} (h : Fr B T a w) (hB : B ≤ a.heap.size) : Below B a w := ⟨h.os, h.tape, h.output, h.size, fun k hk => h.block k (Nat.lt_of_lt_of_le hk hB) (.inl hk)⟩

/-- What a round of CacheBounds leaves. -/
def BoundsAt (w : World) (most bytes : Int) (k : Nat) (wr : World) : Prop :=
  ∃ st hits misses, Cache Try.prog wr w.heap.size w.heap.size most bytes st hits misses ∧ 0 ≤ hits ∧ 0 ≤ misses ∧ hits + misses ≤ k ∧ Below w.heap.size w wr

set_option maxHeartbeats 4000000 in
set_option maxRecDepth 100000 in
theorem cacheBounds_walk {most bytes : Int} {v : Value} {l : List Stp} {w : World} (h : StepsAt w v l) (hwf : ∀ x ∈ l, (Lit.int .i64 x.id).wf = true) :
    Calls Try.prog 5 #[i64 most, i64 bytes, v] w fun e w' => e = .returned (.bool true) ∧ Below w.heap.size w w' := by
  by_cases hbad : most < 1 ∨ 1000 < most ∨ bytes < 0 ∨ 65536 < bytes
  · have HBAD := Lib.hid hbad
    clear hbad
    go_enter Try.func5, Try.ntmps5
    go_wp2_with (first
      | (go_at_call 7; refine (new_no most bytes _ HBAD.out).mono ?_; rintro e w' ⟨rfl, rfl⟩)
      | (go_at_call 8; refine (two_any _).mono ?_; rintro e w2 ⟨rfl, h2⟩; have H2 := Lib.hid h2; clear h2))
    go_ret
    exact ⟨rfl, H2.out⟩
  have H := Lib.hid h
  have HW := Lib.hid hwf
  have HM := Lib.hid (show 1 ≤ most ∧ most ≤ 1000 ∧ 0 ≤ bytes ∧ bytes ≤ 65536 by omega)
  clear h hwf hbad
  cases hlb : longB l
  case true =>
    have HL := Lib.hid hlb
    clear hlb
    go_enter Try.func5, Try.ntmps5
    go_wp2_with (first
      | (go_at_call 7; refine (new_yes most bytes _ HM.out.1 HM.out.2.1 HM.out.2.2.1 HM.out.2.2.2).mono ?_; rintro e w1 ⟨rfl, hc, hf⟩; have H1 := Lib.hid (And.intro hc hf); clear hc hf)
      | (go_at_call 9; refine (long_any (H.out.below H1.out.2.below)).mono ?_; rintro e w2 ⟨rfl, h2⟩; rw [HL.out]; have H2 := Lib.hid h2; clear h2)
      | (go_at_call 8; refine (two_any _).mono ?_; rintro e w3 ⟨rfl, h3⟩; have H3 := Lib.hid h3; clear h3))
    go_ret
    exact ⟨rfl, (H1.out.2.below.trans (H2.out.mono H1.out.2.size)).trans (H3.out.mono (Nat.le_trans H1.out.2.size H2.out.size))⟩
  case false =>
    have HL := Lib.hid hlb
    clear hlb
    obtain ⟨ad, c, rfl, hl, hr⟩ := H.out
    obtain ⟨n, hn⟩ : ∃ n, l.length = n := ⟨_, rfl⟩
    rw [hn] at hl H ⊢
    have HN := Lib.hid hn
    have HR := Lib.hid hr
    clear hn hr
    go_enter Try.func5, Try.ntmps5
    go_wp2_with (first
      | (go_at_call 7; refine (new_yes most bytes _ HM.out.1 HM.out.2.1 HM.out.2.2.1 HM.out.2.2.2).mono ?_; rintro e w1 ⟨rfl, hc, hf⟩; have H1 := Lib.hid (And.intro hc hf); clear hc hf)
      | (go_at_call 9; refine (long_any (H.out.below H1.out.2.below)).mono ?_; rintro e w2 ⟨rfl, h2⟩; rw [HL.out]; have H2 := Lib.hid h2; clear h2))
    go_loopw [41] (fun i wr => ∃ k : Nat, k ≤ n ∧ i = i64 k ∧ Hid (BoundsAt w most bytes k wr)) (fun i _ => n - (intOf i).toNat)
    case atStart =>
      exact ⟨0, Nat.zero_le _, rfl, ⟨[], 0, 0, H1.out.1.below H2.out, by omega, by omega, by omega, H1.out.2.below.trans (H2.out.mono H1.out.2.size)⟩⟩
    case round =>
      obtain ⟨k, hk, rfl, HK⟩ := hrel
      by_cases hlt : k < n
      · obtain ⟨x, hx⟩ : ∃ x, l[k]? = some x := ⟨_, List.getElem?_eq_getElem (by rw [HN.out]; exact hlt)⟩
        obtain ⟨what, id, s⟩ := x
        obtain ⟨g, off, had, hg, hc⟩ := HR.out (fun e => by have := HN.out; rw [e] at this; simp at this; omega)
        obtain ⟨d0, d1, d2⟩ := hc k _ hx
        obtain ⟨st, hits, misses, hca, hh, hm, hsum, hbel⟩ := HK.out
        have e0 := (hbel.cell (p := ⟨g, off + k * 3, none⟩) hg).trans d0
        have e1 := (hbel.cell (p := ⟨g, off + k * 3 + 1, none⟩) hg).trans d1
        have e2 := (hbel.cell (p := ⟨g, off + k * 3 + 2, none⟩) hg).trans d2
        simp only at e0 e1 e2
        have HX := Lib.hid (HW.out _ (List.mem_of_getElem? hx))
        have HAD := Lib.hid had
        have HB0 := Lib.hid (Blk.new wr 34 #[i64 what, i64 id, .string s])
        have HC0 := Lib.hid (hca.below ((Below.refl _ wr).alloc (Nat.le_refl _) (.cells #[i64 what, i64 id, .string s] 34)))
        have HG := Lib.hid (And.intro hh (And.intro hm (And.intro hsum hbel)))
        have HG4 := Lib.hid (show 0 ≤ hits ∧ hits < 9223372036854775807 ∧ 0 ≤ misses ∧ misses < 9223372036854775807 by omega)
        clear hc hx had d0 d1 d2 hca hh hm hsum hbel
        rw [HAD.out]
        by_cases hs : (s.size : Int) ≤ bytes
        · obtain ⟨r, hr⟩ := putL_yes (most := most) (id := id) st hs
          obtain ⟨st', hst⟩ : ∃ st', (id, s) :: r = st' := ⟨_, rfl⟩
          obtain ⟨m, hm⟩ : ∃ m, st'.length = m := ⟨_, rfl⟩
          obtain ⟨T, hT⟩ : ∃ T, tot st' = T := ⟨_, rfl⟩
          rw [hst] at hr
          have hm1 : 1 ≤ m := by rw [← hm, ← hst]; simp
          have HS := Lib.hid (And.intro hst (And.intro hm hT))
          have HP := Lib.hid hr
          have b4 := decide_eq_true hs
          have b3 : ((m : Int) == 0) = false := by simp; omega
          have i0 : (0 : Int) < (m : Int) := by omega
          have i2 : 0 < m := by omega
          have i3 : ¬ (m = 0) := by omega
          clear hst hm hT hr
          go_wp2_with (first
            | (go_at_call 16; (with_reducible refine (put_eq HC0.out id s HX.out HP.out (decide_eq_true hs)).mono ?_); rintro e w3 ⟨rfl, hc3, hf3⟩; have hb3 := hf3.blk HB0.out (.inr rfl); have H3 := Lib.hid (And.intro hc3 (And.intro hf3 hb3)); clear hc3 hf3 hb3)
            | (go_at_call 15; (with_reducible refine (ids_eq H3.out.1 HS.out.2.1).mono ?_); rintro e w4 ⟨ad4, cp4, rfl, hint, hbel4⟩; have H4 := Lib.hid (And.intro hint hbel4); clear hint hbel4))
          obtain ⟨g4, off4, had4, hg4, i1⟩ := IntsAt.first (x := id) (xs := r.map (·.1)) (by have := H4.out.1; rw [← HS.out.1] at this; exact this)
          have hb4 := (H4.out.2.block wr.heap.size H3.out.2.2.lt).trans H3.out.2.2
          have s1 := Blk.cell hb4 1 (i64 id) rfl
          have s2 := Blk.cell hb4 2 (.string s) rfl
          have hfa := (H3.out.1.below H4.out.2).facts
          have b1 : decide (most < (m : Int)) = false := by have := HS.out.2.1; simp; omega
          have b2 : decide (bytes < T) = false := by have := HS.out.2.2; simp; omega
          have HAD4 := Lib.hid had4
          have HB4 := Lib.hid hb4
          clear had4 hb4 hfa
          rw [HAD4.out]
          have HC4 := Lib.hid (H3.out.1.below H4.out.2)
          go_quiet (first | (go_at_call 11; exact Calls.quiet_of_same (bytes_eq (HC4.out.drewN _) HS.out.2.2)))
          go_wp2_with (first
            | (go_at_call 19; (with_reducible refine (get_eq (HC4.out.drewN _) id HX.out HG4.out.1 HG4.out.2.1 HG4.out.2.2.1 HG4.out.2.2.2 (s := s) (by rw [← HS.out.1]; exact gotS_head _ _ _) rfl (by rw [← HS.out.1]; exact hasB_head _ _ _) rfl).mono ?_); rintro e w6 ⟨rfl, hc6, hf6⟩; have s3 := (hf6.blk (Blk.drewN HB4.out _) (.inr rfl)).cell 2 (.string s) rfl; have H6 := Lib.hid (And.intro hc6 hf6); clear hc6 hf6))
          go_roundw
          case rel =>
            obtain ⟨q0, q1, q2, q3⟩ := HG.out
            have F3 := (((Fr.refl w.heap.size CK wr).alloc (.cells #[i64 what, i64 id, .string s] 34)).trans H3.out.2.1)
            refine ⟨k + 1, by omega, by go_num, ⟨_, _, _, H6.out.1, by omega, by omega, by omega, ?_⟩⟩
            exact (below_drewN ((q3.trans (below_of_fr F3 q3.size)).trans (H4.out.2.mono (Nat.le_trans q3.size F3.size))) _).trans (below_of_fr H6.out.2 (Nat.le_trans q3.size (Nat.le_trans F3.size H4.out.2.size)))
          case measure => simp [intOf]; omega
        · have hr := putL_no (most := most) (id := id) st hs
          obtain ⟨st', hst⟩ : ∃ st', drp id st = st' := ⟨_, rfl⟩
          obtain ⟨m, hm⟩ : ∃ m, st'.length = m := ⟨_, rfl⟩
          obtain ⟨T, hT⟩ : ∃ T, tot st' = T := ⟨_, rfl⟩
          rw [hst] at hr
          have HS := Lib.hid (And.intro hst (And.intro hm hT))
          have HP := Lib.hid hr
          have b4 := decide_eq_false hs
          clear hst hm hT hr
          go_wp2_with (first
            | (go_at_call 16; (with_reducible refine (put_eq HC0.out id s HX.out HP.out (decide_eq_false hs)).mono ?_); rintro e w3 ⟨rfl, hc3, hf3⟩; have hb3 := hf3.blk HB0.out (.inr rfl); have H3 := Lib.hid (And.intro hc3 (And.intro hf3 hb3)); clear hc3 hf3 hb3)
            | (go_at_call 15; (with_reducible refine (ids_eq H3.out.1 HS.out.2.1).mono ?_); rintro e w4 ⟨ad4, cp4, rfl, hint, hbel4⟩; have H4 := Lib.hid (And.intro hint hbel4); clear hint hbel4))
          have hb4 := (H4.out.2.block wr.heap.size H3.out.2.2.lt).trans H3.out.2.2
          have s1 := Blk.cell hb4 1 (i64 id) rfl
          have s2 := Blk.cell hb4 2 (.string s) rfl
          have hfa := (H3.out.1.below H4.out.2).facts
          have b1 : decide (most < (m : Int)) = false := by have := HS.out.2.1; simp; omega
          have b2 : decide (bytes < T) = false := by have := HS.out.2.2; simp; omega
          have HB4 := Lib.hid hb4
          clear hb4 hfa
          have HC4 := Lib.hid (H3.out.1.below H4.out.2)
          go_quiet (first | (go_at_call 11; exact Calls.quiet_of_same (bytes_eq (HC4.out.drewN _) HS.out.2.2)))
          go_wp2_with (first
            | (go_at_call 19; (with_reducible refine (get_miss (HC4.out.drewN _) id HX.out HG4.out.1 HG4.out.2.1 HG4.out.2.2.1 HG4.out.2.2.2 (by rw [← HS.out.1]; exact hasB_drp _ _)).mono ?_); rintro e w6 ⟨rfl, hc6, hf6⟩; have s3 := (hf6.blk (Blk.drewN HB4.out _) (.inr rfl)).cell 2 (.string s) rfl; have H6 := Lib.hid (And.intro hc6 hf6); clear hc6 hf6))
          go_roundw
          case rel =>
            obtain ⟨q0, q1, q2, q3⟩ := HG.out
            have F3 := (((Fr.refl w.heap.size CK wr).alloc (.cells #[i64 what, i64 id, .string s] 34)).trans H3.out.2.1)
            refine ⟨k + 1, by omega, by go_num, ⟨_, _, _, H6.out.1, by omega, by omega, by omega, ?_⟩⟩
            exact (below_drewN ((q3.trans (below_of_fr F3 q3.size)).trans (H4.out.2.mono (Nat.le_trans q3.size F3.size))) _).trans (below_of_fr H6.out.2 (Nat.le_trans q3.size (Nat.le_trans F3.size H4.out.2.size)))
          case measure => simp [intOf]; omega
      · go_wp2_with (first
          | (go_at_call 8; refine (two_any _).mono ?_; rintro e w3 ⟨rfl, h3⟩; have H3 := Lib.hid h3; clear h3))
        go_ret
        obtain ⟨st, hits, misses, _, _, _, _, hbel⟩ := HK.out
        exact ⟨rfl, hbel.trans (H3.out.mono hbel.size)⟩

namespace cacheBounds
open Go.ChangeShapes Go.WideShapes Go.ChangeAt Go.RowKit Go.Joins Go.Deep
open Go.ChangeMaps (open_string shut_string)
set_option linter.unusedVariables false
set_option maxRecDepth 100000 in
theorem lifted (os : Os) (started : os.Started) (H : Type) (enc : TypeId × Value → H) :
    ReturnsInHanded {} Try.checked os 5 .any (Rows.cacheBoundsSpec.pre6 enc Try.prog Try.f5 Rows.cacheBoundsRow.domain false) (Rows.cacheBoundsSpec.post enc Try.prog Try.f5 false true false false) := by
  refine returnsInHanded_of_change_sized (C := Try.checked) own started (by kernel_rfl) Try.func5
    (ChangeSpec.witness6 (enc := enc) (C := Try.checked) false ⟨#[], #[.int .i64 0, .int .i64 0, .slice none 0 0], []⟩ 8 (by kernel_rfl) (by kernel_rfl) (by kernel_rfl) (by kernel_rfl)) ?_
  intro W base args ds gs before hval0 hW hcnd hsz0 _
  have hval : ∀ (j : Nat) t v, Try.f5.params[j]? = some t → args[j]? = some v → Value.okWide Try.prog W .any base t v := hval0
  have hW' := hW
  obtain ⟨p, q, hA0, hV, rfl, hfz, hnd⟩ := hW
  have hA : DataW.TrodAll enc Try.prog W 0 (fun _ => true) true Try.f5.params.toList args.toList ds p := hA0
  rw [Try.params5] at hA hval
  obtain ⟨v0, vs0, d0, ds0, p0, q0, hargs, rfl, rfl, h0, r0⟩ := trodAll_cons hA
  obtain ⟨v1, vs1, d1, ds1, p1, q1, rfl, rfl, rfl, h1, r1⟩ := trodAll_cons r0
  obtain ⟨v2, vs2, d2, ds2, p2, q2, rfl, rfl, rfl, h2, r2⟩ := trodAll_cons r1
  obtain ⟨rfl, rfl, rfl⟩ := trodAll_nil r2
  obtain rfl : args = #[v0, v1, v2] := by cases args; simp_all
  obtain ⟨rfl, rfl⟩ := trodVars_none hV
  obtain ⟨a0, rfl, rfl, rfl, w0⟩ := open_int Try.underlying3 (hval 0 3 v0 rfl rfl) h0
  obtain ⟨a1, rfl, rfl, rfl, w1⟩ := open_int Try.underlying3 (hval 1 3 v1 rfl rfl) h1
  have h2k := h2
  have hlt : ∀ x ∈ p2, x.block < W.heap.size := fun x hx => by simpa using hW'.lt x (by simp [hx])
  obtain ⟨l, hl, hlw⟩ := open_steps (hval 2 22 v2 rfl rfl) h2
  clear hA0 hval0 hsz0
  refine (cacheBounds_walk hl hlw).mono fun e W' ⟨he, bel⟩ => ?_
  subst he
  exact ⟨_, rfl, _, _, _, [], _, [], hW', trodAll_mk1 (shut_bool Try.underlying4 _), (trodAll_cons_mk (shut_int Try.underlying3 w0) (trodAll_cons_mk (shut_int Try.underlying3 w1) (trodAll_cons_mk (Below.trod laid (by kernel_rfl) (of_decide_eq_true (by kernel_rfl)) h2k bel hlt) trodAll_mk0))), rfl, bel.frame _, fun h => by cases h⟩
theorem over : Rows.cacheBoundsRow.holds Try.pinned (OpenSpec.ofChange Rows.cacheBoundsSpec) :=
  OpenClaim.holds_of_wide 5 Try.f5 rfl rfl rfl rfl rfl rfl rfl ⟨rfl, rfl, rfl, rfl, rfl⟩ rfl rfl rfl rfl rfl (by kernel_rfl) Try.func5 (by kernel_rfl)
    (of_decide_eq_true (by kernel_rfl)) (by unfold Func.isWrapper; first | (rw [if_pos (by decide +kernel)]; kernel_rfl) | (rw [if_neg (by decide +kernel)]; exact ⟨rfl, rfl⟩))
    (fun os started H enc _ => lifted os started H enc)
end cacheBounds
/-- The row: whatever the input, true. -/
theorem cacheBounds_holds : Rows.CacheBoundsSaid := cacheBounds.over

end Go.Proofs.Ytdgdfnofedlkaaa
