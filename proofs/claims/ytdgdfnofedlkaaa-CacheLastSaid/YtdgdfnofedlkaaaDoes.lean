/-
  rectolaw33.long and rectolaw33.does, walked: a step done by the program's cache and by the document's.
  Written by an AI agent.
-/
import Derived.Test.YtdgdfnofedlkaaaTwo
import Derived.Deep.RegionWith
namespace Go.Proofs.Ytdgdfnofedlkaaa
open Go.RowKit Go.Maps

/-- A step: what, an ID, a text. -/
structure Stp where
  what : Int
  id : Int
  s : ByteArray

/-- The slice v reads as these steps. -/
def StepsAt (w : World) (v : Value) (l : List Stp) : Prop :=
  ∃ ad c, v = .slice ad l.length c ∧ l.length ≤ 9223372036854775807 ∧ (l ≠ [] → ∃ g off, ad = some ⟨g, off, none⟩ ∧ g < w.heap.size ∧ ∀ (k : Nat) (x : Stp), l[k]? = some x →
    w.cell? ⟨g, off + k * 3, none⟩ = some (i64 x.what) ∧ w.cell? ⟨g, off + k * 3 + 1, none⟩ = some (i64 x.id) ∧ w.cell? ⟨g, off + k * 3 + 2, none⟩ = some (.string x.s))

theorem StepsAt.below {w w' : World} {v : Value} {l : List Stp} (h : StepsAt w v l) (hb : Below w.heap.size w w') : StepsAt w' v l := by
  obtain ⟨ad, c, hv, hl, hr⟩ := h
  refine ⟨ad, c, hv, hl, fun hne => ?_⟩
  obtain ⟨g, off, ha, hg, hc⟩ := hr hne
  refine ⟨g, off, ha, Nat.lt_of_lt_of_le hg hb.size, fun k x hx => ?_⟩
  obtain ⟨h1, h2, h3⟩ := hc k x hx
  exact ⟨(hb.cell (p := ⟨g, off + k * 3, none⟩) hg).trans h1, (hb.cell (p := ⟨g, off + k * 3 + 1, none⟩) hg).trans h2, (hb.cell (p := ⟨g, off + k * 3 + 2, none⟩) hg).trans h3⟩

def longB (l : List Stp) : Bool := decide (101 < l.length) || l.any fun x => decide (70000 < x.s.size)

set_option maxHeartbeats 2000000 in
theorem long_any {w : World} {v : Value} {l : List Stp} (h : StepsAt w v l) :
    Calls Try.prog 9 #[v] w fun e w' => e = .returned (.bool (longB l)) ∧ Below w.heap.size w w' := by
  obtain ⟨ad, c, rfl, hl, hr⟩ := h
  obtain ⟨n, hn⟩ : ∃ n, l.length = n := ⟨_, rfl⟩
  obtain ⟨r, hlr⟩ : ∃ r, longB l = r := ⟨_, rfl⟩
  rw [hn] at hl ⊢
  rw [hlr]
  have HN := Lib.hid hn
  have HL := Lib.hid hlr
  have HR := Lib.hid hr
  clear hn hlr hr
  go_enter Try.func9, Try.ntmps9
  go_wp2
  go_loopw [7] (fun i wr => ∃ k : Nat, k ≤ n ∧ i = i64 k ∧ Below w.heap.size w wr ∧ Hid (k ≤ 101 ∧ ∀ j x, j < k → l[j]? = some x → x.s.size ≤ 70000)) (fun i _ => n - (intOf i).toNat)
  case atStart => exact ⟨0, Nat.zero_le _, rfl, Below.refl _ _, ⟨by omega, fun j x hj => by omega⟩⟩
  case round =>
    obtain ⟨k, hk, rfl, hbel, HK⟩ := hrel
    by_cases hlt : k < n
    · obtain ⟨x, hx⟩ : ∃ x, l[k]? = some x := ⟨_, List.getElem?_eq_getElem (by rw [HN.out]; exact hlt)⟩
      obtain ⟨g, off, had, hg, hc⟩ := HR.out (fun e => by have := HN.out; rw [e] at this; simp at this; omega)
      obtain ⟨d0, d1, d2⟩ := hc k x hx
      have e0 := (hbel.cell (p := ⟨g, off + k * 3, none⟩) hg).trans d0
      have e1 := (hbel.cell (p := ⟨g, off + k * 3 + 1, none⟩) hg).trans d1
      have e2 := (hbel.cell (p := ⟨g, off + k * 3 + 2, none⟩) hg).trans d2
      have HX := Lib.hid hx
      have HAD := Lib.hid had
      clear hc hx had d0 d1 d2
      rw [HAD.out]
      by_cases h100 : (100 : Int) < (k : Int)
      · have ht : r = true := by
          rw [← HL.out, longB]
          have := HN.out
          rw [decide_eq_true (by omega)]; rfl
        have HT := Lib.hid ht
        clear ht
        go_wp2
        go_ret
        exact ⟨by rw [HT.out]; rfl, hbel.alloc hbel.size _⟩
      · by_cases hs : (70000 : Int) < (x.s.size : Int)
        · have ht : r = true := by
            rw [← HL.out, longB]
            have h1 : l.any (fun x => decide (70000 < x.s.size)) = true := List.any_eq_true.2 ⟨x, List.mem_of_getElem? HX.out, by simp; omega⟩
            rw [h1]; simp
          have HT := Lib.hid ht
          clear ht
          go_wp2
          go_ret
          exact ⟨by rw [HT.out]; rfl, hbel.alloc hbel.size _⟩
        · go_wp2
          go_roundw
          case rel =>
            refine ⟨k + 1, by omega, by go_num, hbel.alloc hbel.size _, by omega, fun j y hj hy => ?_⟩
            by_cases e : j = k
            · subst e
              rw [HX.out] at hy
              obtain rfl := Option.some.inj hy
              omega
            · exact HK.out.2 j y (by omega) hy
          case measure => simp [intOf]; omega
    · have ht : r = false := by
        rw [← HL.out, longB]
        have h1 := HK.out
        have h2 := HN.out
        rw [decide_eq_false (by omega)]
        simp only [Bool.false_or]
        rw [List.any_eq_false]
        intro x hx
        obtain ⟨j, hj, rfl⟩ := List.getElem_of_mem hx
        have := h1.2 j _ (by omega) (List.getElem?_eq_getElem hj)
        simp; omega
      have HT := Lib.hid ht
      clear ht
      go_wp2
      go_ret
      exact ⟨by rw [HT.out]; rfl, hbel⟩

/-- The state that both caches have. -/
structure Sta where
  st : List Txt
  hits : Int
  misses : Int

/-- What a step does to it. -/
def Sta.step (most bytes : Int) (S : Sta) (x : Stp) : Sta :=
  if x.what = 0 ∨ x.what = 1 ∨ x.what = 2 then ⟨putL most bytes x.id x.s S.st, S.hits, S.misses⟩
  else if x.what = 3 ∨ x.what = 4 ∨ x.what = 5 then ⟨gotL x.id S.st, if hasB x.id S.st then S.hits + 1 else S.hits, if hasB x.id S.st then S.misses else S.misses + 1⟩
  else if x.what = 6 then ⟨drp x.id S.st, S.hits, S.misses⟩
  else if x.what = 7 then ⟨[], 0, 0⟩
  else S

/-- Both caches hold it. -/
structure Both (w : World) (B cb rb : Nat) (most bytes : Int) (S : Sta) (N : Nat) : Prop where
  cache : Cache Try.prog w B cb most bytes S.st S.hits S.misses
  ref : Ref w B rb most bytes S.st S.hits S.misses
  good : 0 ≤ S.hits ∧ 0 ≤ S.misses ∧ S.hits + S.misses ≤ N

abbrev BK : Obj → Bool := kinds [54, 56, 32] true
theorem ck_bk : ∀ o, CK o = true → BK o = true := by
  intro o; cases o <;> simp [kinds]
  rintro (h | h) <;> simp [h]
theorem rk_bk : ∀ o, RK o = true → BK o = true := by
  intro o; cases o <;> simp [kinds]
  intro h; simp [h]

theorem Ref.fr {w w' : World} {B B' rb : Nat} {T : Obj → Bool} {most bytes hits misses : Int} {st : List Txt} (h : Ref w B rb most bytes st hits misses) (hb : Fr B' T w w') (h32 : ∀ cs fr, T (.cells cs 32 fr) = false) (h40 : ∀ cs fr, T (.cells cs 40 fr) = false) :
    Ref w' B rb most bytes st hits misses := by
  obtain ⟨v, h⟩ := h
  exact ⟨v, h.fr hb h32 h40⟩
theorem ref_ck {w w' : World} {B B' rb : Nat} {most bytes hits misses : Int} {st : List Txt} (hf : Fr B' CK w w') (h : Ref w B rb most bytes st hits misses) : Ref w' B rb most bytes st hits misses := h.fr hf (fun _ _ => rfl) (fun _ _ => rfl)
theorem cache_rk {w w' : World} {B B' cb : Nat} {most bytes hits misses : Int} {st : List Txt} (hf : Fr B' RK w w') (h : Cache Try.prog w B cb most bytes st hits misses) : Cache Try.prog w' B cb most bytes st hits misses :=
  h.fr hf (fun _ _ => rfl) (fun _ _ => rfl) (fun _ _ => rfl)
theorem Ref.below {w w' : World} {B rb : Nat} {most bytes hits misses : Int} {st : List Txt} (h : Ref w B rb most bytes st hits misses) (hb : Below w.heap.size w w') : Ref w' B rb most bytes st hits misses := by
  obtain ⟨v, h⟩ := h
  exact ⟨v, h.below hb⟩
theorem Cache.facts {w : World} {B cb : Nat} {most bytes hits misses : Int} {st : List Txt} (h : Cache Try.prog w B cb most bytes st hits misses) : (st.map (·.1)).Nodup ∧ (st.length : Int) ≤ most ∧ tot st ≤ bytes ∧ 1 ≤ most ∧ most ≤ 1000 ∧ bytes ≤ 65536 := by
  obtain ⟨mb, rb, L, tx, pv, nx, M, h⟩ := h
  have := h.fits
  exact ⟨h.idsNodup, by omega, by omega, by omega, by omega, by omega⟩

def DoneIt (B cb rb : Nat) (most bytes : Int) (S : Sta) (N : Nat) (w : World) (e : Ending) (w' : World) : Prop :=
  e = .returned (.bool true) ∧ Both w' B cb rb most bytes S N ∧ Fr B BK w w'

/-- The step's own copy, and both caches behind it. -/
theorem boxed {w : World} {B cb rb : Nat} {most bytes : Int} {S : Sta} {N : Nat} (h : Both w B cb rb most bytes S N) (a id s : Value) :
    Both (w.alloc (.cells #[a, id, s] 34)) B cb rb most bytes S N ∧ Blk (w.alloc (.cells #[a, id, s] 34)) w.heap.size 34 #[a, id, s] :=
  ⟨⟨h.cache.below ((Below.refl _ w).alloc (Nat.le_refl _) _), h.ref.below ((Below.refl _ w).alloc (Nat.le_refl _) _), h.good⟩, Blk.new w 34 _⟩
theorem Both.drew {w : World} {B cb rb : Nat} {most bytes : Int} {S : Sta} {N : Nat} (h : Both w B cb rb most bytes S N) : Both w.drew B cb rb most bytes S N :=
  ⟨h.cache.below ((Below.refl _ w).drew), h.ref.below ((Below.refl _ w).drew), h.good⟩

theorem rput_at {w : World} {B rb : Nat} {most bytes hits misses : Int} {st : List Txt} (h : Ref w B rb most bytes st hits misses)
    (hn : (st.map (·.1)).Nodup ∧ (st.length : Int) ≤ most ∧ tot st ≤ bytes ∧ 1 ≤ most ∧ most ≤ 1000 ∧ bytes ≤ 65536) (id : Int) (s : ByteArray) :
    Calls Try.prog 20 #[ptr rb, i64 id, .string s] w (RPut B rb most bytes hits misses (putL most bytes id s st) (decide ((s.size : Int) ≤ bytes)) w) :=
  rput_any h hn.1 hn.2.1 hn.2.2.1 hn.2.2.2.1 hn.2.2.2.2.1 hn.2.2.2.2.2 id s

set_option maxHeartbeats 4000000 in
theorem does_put {w : World} {B cb rb : Nat} {most bytes : Int} {S : Sta} {N : Nat} {x : Stp} (h : Both w B cb rb most bytes S N) (hw : (Lit.int .i64 x.id).wf = true) (hx : x.what = 0 ∨ x.what = 1 ∨ x.what = 2) :
    Calls Try.prog 10 #[ptr cb, ptr rb, .agg #[i64 x.what, i64 x.id, .string x.s]] w (DoneIt B cb rb most bytes ⟨putL most bytes x.id x.s S.st, S.hits, S.misses⟩ (N + 1) w) := by
  obtain ⟨what, id, s⟩ := x
  simp only at hx hw ⊢
  have HN := Lib.hid h.cache.facts
  have HW := Lib.hid hw
  have H0 := Lib.hid (boxed h (i64 what) (i64 id) (.string s))
  have HGD := Lib.hid h.good
  clear h hw
  rcases hx with rfl | rfl | rfl
  all_goals go_enter Try.func10, Try.ntmps10
  all_goals go_wp2_with fail
  all_goals go_region_held3 (fun w' => w'.cell? ⟨w.heap.size, 1, none⟩ = some (i64 id) ∧ w'.cell? ⟨w.heap.size, 2, none⟩ = some (.string s)) (go_keep) (first | (go_at_call 16; (with_reducible refine (put_any H0.out.1.drew.cache id s HW.out).mono ?_); rintro e wa ⟨rfl, hca, hfa⟩; have hpa := hfa.blk H0.out.2.drew (.inr rfl); have s1 := hpa.cell 1 (i64 id) rfl; have s2 := hpa.cell 2 (.string s) rfl; have HA := Lib.hid (And.intro hca (And.intro hfa hpa)); clear hca hfa hpa) | (go_at_call 20; (with_reducible refine (rput_at (ref_ck HA.out.2.1 H0.out.1.drew.ref) HN.out id s).mono ?_); rintro e wb ⟨rfl, hrb, hfb⟩; have hpb := hfb.blk HA.out.2.2 (.inr rfl); have t1 := hpb.cell 1 (i64 id) rfl; have t2 := hpb.cell 2 (.string s) rfl; have HB := Lib.hid (And.intro hrb hfb); clear hrb hfb hpb))
  all_goals go_wp2
  all_goals go_ret
  all_goals
    have hg := HGD.out
    exact ⟨rfl, ⟨cache_rk HB.out.2 HA.out.1, HB.out.1, by simp only; omega⟩, (((Fr.refl B BK w).alloc _).drew).trans ((HA.out.2.1.mono (Nat.le_refl _) ck_bk).trans (HB.out.2.mono (Nat.le_refl _) rk_bk))⟩

set_option maxHeartbeats 4000000 in
theorem does_drop {w : World} {B cb rb : Nat} {most bytes : Int} {S : Sta} {N : Nat} {x : Stp} (h : Both w B cb rb most bytes S N) (hw : (Lit.int .i64 x.id).wf = true) (hx : x.what = 6) :
    Calls Try.prog 10 #[ptr cb, ptr rb, .agg #[i64 x.what, i64 x.id, .string x.s]] w (DoneIt B cb rb most bytes ⟨drp x.id S.st, S.hits, S.misses⟩ (N + 1) w) := by
  obtain ⟨what, id, s⟩ := x
  simp only at hx hw ⊢
  subst hx
  have HN := Lib.hid h.cache.facts
  have HW := Lib.hid hw
  have H0 := Lib.hid (boxed h (i64 6) (i64 id) (.string s))
  have HGD := Lib.hid h.good
  clear h hw
  go_enter Try.func10, Try.ntmps10
  go_wp2_with fail
  go_region_held3 (fun w' => w'.cell? ⟨w.heap.size, 1, none⟩ = some (i64 id)) (go_keep) (first | (go_at_call 17; (with_reducible refine (drop_any H0.out.1.drew.cache id HW.out).mono ?_); rintro e wa ⟨rfl, hca, hfa⟩; have hpa := hfa.blk H0.out.2.drew (.inr rfl); have s1 := hpa.cell 1 (i64 id) rfl; have HA := Lib.hid (And.intro hca (And.intro hfa hpa)); clear hca hfa hpa) | (go_at_call 22; (with_reducible refine (rdrop_any (ref_ck HA.out.2.1 H0.out.1.drew.ref) HN.out.1 id).mono ?_); rintro e wb ⟨rfl, hrb, hfb⟩; have hpb := hfb.blk HA.out.2.2 (.inr rfl); have t1 := hpb.cell 1 (i64 id) rfl; have HB := Lib.hid (And.intro hrb hfb); clear hrb hfb hpb))
  go_wp2
  go_ret
  have hg := HGD.out
  exact ⟨rfl, ⟨cache_rk HB.out.2 HA.out.1, HB.out.1, by simp only; omega⟩, (((Fr.refl B BK w).alloc _).drew).trans ((HA.out.2.1.mono (Nat.le_refl _) ck_bk).trans (HB.out.2.mono (Nat.le_refl _) rk_bk))⟩

set_option maxHeartbeats 4000000 in
theorem does_get {w : World} {B cb rb : Nat} {most bytes : Int} {S : Sta} {N : Nat} {x : Stp} (h : Both w B cb rb most bytes S N) (hN : N < 1000000) (hw : (Lit.int .i64 x.id).wf = true) (hx : x.what = 3 ∨ x.what = 4 ∨ x.what = 5) :
    Calls Try.prog 10 #[ptr cb, ptr rb, .agg #[i64 x.what, i64 x.id, .string x.s]] w
      (DoneIt B cb rb most bytes ⟨gotL x.id S.st, if hasB x.id S.st then S.hits + 1 else S.hits, if hasB x.id S.st then S.misses else S.misses + 1⟩ (N + 1) w) := by
  obtain ⟨what, id, s⟩ := x
  simp only at hx hw ⊢
  have HN := Lib.hid h.cache.facts
  have HW := Lib.hid hw
  have H0 := Lib.hid (boxed h (i64 what) (i64 id) (.string s))
  have HGD := Lib.hid h.good
  have HG4 := Lib.hid (show 0 ≤ S.hits ∧ S.hits < 9223372036854775807 ∧ 0 ≤ S.misses ∧ S.misses < 9223372036854775807 by have := h.good; omega)
  clear h hw
  rcases hx with rfl | rfl | rfl
  all_goals go_enter Try.func10, Try.ntmps10
  all_goals go_wp2_with (first | (go_at_call 19; (with_reducible refine (get_any H0.out.1.cache id HW.out HG4.out.1 HG4.out.2.1 HG4.out.2.2.1 HG4.out.2.2.2).mono ?_); rintro e wa ⟨rfl, hca, hfa⟩; have hpa := hfa.blk H0.out.2 (.inr rfl); have s1 := hpa.cell 1 (i64 id) rfl; have HA := Lib.hid (And.intro hca (And.intro hfa hpa)); clear hca hfa hpa) | (go_at_call 21; (with_reducible refine (rget_any (ref_ck HA.out.2.1 H0.out.1.ref) HN.out.1 id HG4.out.1 HG4.out.2.1 HG4.out.2.2.1 HG4.out.2.2.2).mono ?_); rintro e wb ⟨rfl, hrb, hfb⟩; have HB := Lib.hid (And.intro hrb hfb); clear hrb hfb))
  all_goals go_ret
  all_goals
    have hg := HGD.out
    have ha := HA.out
    have hb := HB.out
    first
      | (have hh : hasB id S.st = true := by assumption
         simp only [hh, if_true] at ha hb ⊢
         exact ⟨rfl, ⟨cache_rk hb.2 ha.1, hb.1, by simp only; omega⟩, ((Fr.refl B BK w).alloc _).trans ((ha.2.1.mono (Nat.le_refl _) ck_bk).trans (hb.2.mono (Nat.le_refl _) rk_bk))⟩)
      | (have hh : hasB id S.st = false := Bool.eq_false_iff.2 (by assumption)
         simp only [hh, Bool.false_eq_true, if_false] at ha hb ⊢
         exact ⟨rfl, ⟨cache_rk hb.2 ha.1, hb.1, by simp only; omega⟩, ((Fr.refl B BK w).alloc _).trans ((ha.2.1.mono (Nat.le_refl _) ck_bk).trans (hb.2.mono (Nat.le_refl _) rk_bk))⟩)

set_option maxHeartbeats 4000000 in
theorem does_clear {w : World} {B cb rb : Nat} {most bytes : Int} {S : Sta} {N : Nat} {x : Stp} (h : Both w B cb rb most bytes S N) (hx : x.what = 7) :
    Calls Try.prog 10 #[ptr cb, ptr rb, .agg #[i64 x.what, i64 x.id, .string x.s]] w (DoneIt B cb rb most bytes ⟨[], 0, 0⟩ (N + 1) w) := by
  obtain ⟨what, id, s⟩ := x
  simp only at hx ⊢
  subst hx
  have H0 := Lib.hid (boxed h (i64 7) (i64 id) (.string s))
  clear h
  go_enter Try.func10, Try.ntmps10
  go_wp2_with (first | (go_at_call 18; (with_reducible refine (clear_any H0.out.1.cache).mono ?_); rintro e wa ⟨rfl, hca, hfa⟩; have hra := ref_ck hfa H0.out.1.ref; obtain ⟨v, hra⟩ := hra; have r2 := hra.1.cell 2 v rfl; have r3 := hra.1.cell 3 (i64 S.hits) rfl; have r4 := hra.1.cell 4 (i64 S.misses) rfl; have f2 := hra.1.fro 2; have f3 := hra.1.fro 3; have f4 := hra.1.fro 4; have HA := Lib.hid (And.intro hca (And.intro hfa hra)); clear hca hfa hra))
  go_ret
  obtain ⟨hca, hfa, hra⟩ := HA.out
  have k1 := hra.1.put 2 (.slice none 0 0)
  have k2 := k1.put 3 (i64 0)
  have k3 := k2.put 4 (i64 0)
  have F1 := (((Fr.refl B RK wa).setCell hra.1 rfl hra.2.2.1 2 (.slice none 0 0)).setCell k1 rfl hra.2.2.1 3 (i64 0)).setCell k2 rfl hra.2.2.1 4 (i64 0)
  exact ⟨rfl, ⟨cache_rk F1 hca, ⟨_, k3, World.ownsRow_nil _ _ _ _, hra.2.2.1, by simp⟩, by simp only; omega⟩, ((Fr.refl B BK w).alloc _).trans ((hfa.mono (Nat.le_refl _) ck_bk).trans (F1.mono (Nat.le_refl _) rk_bk))⟩

set_option maxHeartbeats 4000000 in
theorem does_other {w : World} {B cb rb : Nat} {most bytes : Int} {S : Sta} {N : Nat} {x : Stp} (h : Both w B cb rb most bytes S N) (hx : x.what < 0 ∨ 7 < x.what) :
    Calls Try.prog 10 #[ptr cb, ptr rb, .agg #[i64 x.what, i64 x.id, .string x.s]] w (DoneIt B cb rb most bytes S (N + 1) w) := by
  obtain ⟨what, id, s⟩ := x
  simp only at hx ⊢
  have H0 := Lib.hid (boxed h (i64 what) (i64 id) (.string s))
  have e0 : (what == 0) = false := by simp; omega
  have e1 : (what == 1) = false := by simp; omega
  have e2 : (what == 2) = false := by simp; omega
  have e3 : (what == 3) = false := by simp; omega
  have e4 : (what == 4) = false := by simp; omega
  have e5 : (what == 5) = false := by simp; omega
  have e6 : (what == 6) = false := by simp; omega
  have e7 : (what == 7) = false := by simp; omega
  have HGD := Lib.hid h.good
  clear h hx
  go_enter Try.func10, Try.ntmps10
  go_wp2
  go_ret
  have hg := HGD.out
  exact ⟨rfl, ⟨H0.out.1.cache, H0.out.1.ref, by omega⟩, (Fr.refl B BK w).alloc _⟩

theorem does_any {w : World} {B cb rb : Nat} {most bytes : Int} {S : Sta} {N : Nat} (x : Stp) (h : Both w B cb rb most bytes S N) (hN : N < 1000000) (hw : (Lit.int .i64 x.id).wf = true) :
    Calls Try.prog 10 #[ptr cb, ptr rb, .agg #[i64 x.what, i64 x.id, .string x.s]] w (DoneIt B cb rb most bytes (S.step most bytes x) (N + 1) w) := by
  unfold Sta.step
  by_cases h1 : x.what = 0 ∨ x.what = 1 ∨ x.what = 2
  · rw [if_pos h1]; exact does_put h hw h1
  rw [if_neg h1]
  by_cases h2 : x.what = 3 ∨ x.what = 4 ∨ x.what = 5
  · rw [if_pos h2]; exact does_get h hN hw h2
  rw [if_neg h2]
  by_cases h3 : x.what = 6
  · rw [if_pos h3]; exact does_drop h hw h3
  rw [if_neg h3]
  by_cases h4 : x.what = 7
  · rw [if_pos h4]; exact does_clear h h4
  rw [if_neg h4]
  exact does_other h (by omega)

end Go.Proofs.Ytdgdfnofedlkaaa
