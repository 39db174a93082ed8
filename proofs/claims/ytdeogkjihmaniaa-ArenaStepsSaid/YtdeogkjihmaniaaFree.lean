/-
  slices.Index at numbers; within, free, place of an arena, walked.
  Written by an AI agent.
-/
import Derived.Test.YtdeogkjihmaniaaChain
import Derived.ScopeJumps
import Derived.WalkMore
import Derived.LoopTactic
namespace Go.Proofs.Ytdeogkjihmaniaa
open Go.RowKit

/-- The place of a number among others. -/
def idxZ (x : Int) (l : List Int) : Int := if x ∈ l then (l.idxOf x : Nat) else -1

theorem idxOf_at {l : List Int} {x : Int} {k : Nat} (hk : l[k]? = some x) (hno : x ∉ l.take k) : l.idxOf x = k := by
  induction l generalizing k with
  | nil => simp at hk
  | cons y r ih =>
    cases k with
    | zero => simp at hk; subst hk; simp
    | succ k =>
      simp at hk hno
      have : ¬ (y == x) = true := by simp; exact fun e => hno.1 e.symm
      rw [List.idxOf_cons]
      simp only [this]
      simp [ih hk hno.2]

theorem index_any {w : World} {B n : Nat} {v : Value} {l : List Int} {x : Int} (h : w.ownsRow B 3 1 v n (l.map i64)) (hn : n ≤ 1000000) : Calls Try.prog 60 #[v, i64 x] w fun e w' => e = .returned (i64 (idxZ x l)) ∧ w = w' := by
  have hln : l.length = n := by have := own_length1 h; simpa using this
  have hcell : ∀ (k : Nat) (y : Int), l[k]? = some y → ∃ g c, v = .slice (some ⟨g, 0, none⟩) n c ∧ w.cell? ⟨g, k, none⟩ = some (i64 y) := by
    intro k y hy
    rcases h.2 with ⟨_, h0⟩ | ⟨g, cap, cur, rfl, _, _, _, _, _, _⟩
    · have := (List.getElem?_eq_some_iff.1 hy).1; omega
    · have hk := (List.getElem?_eq_some_iff.1 hy).1
      refine ⟨g, cap, rfl, ?_⟩
      rw [h.cellAt k (by omega), List.getElem?_map, hy]
      rfl
  obtain ⟨ad, c, rfl⟩ := own_slice h
  obtain ⟨r, hr⟩ : ∃ r, idxZ x l = r := ⟨_, rfl⟩
  rw [hr]
  have H := Lib.hid (And.intro hln (And.intro hcell hr))
  clear h hln hcell hr
  go_enter Try.func60, Try.ntmps60
  go_wp2
  go_loop [5, 8] (fun _ i => ∃ k : Nat, k ≤ n ∧ i = i64 k ∧ Hid (x ∉ l.take k)) (fun _ i => n - (intOf i).toNat)
  case atStart => exact ⟨0, Nat.zero_le _, rfl, Lib.hid (by simp)⟩
  case round =>
    obtain ⟨k, hk, rfl, HK⟩ := hrel
    by_cases hlt : k < n
    · obtain ⟨y, hy⟩ : ∃ y, l[k]? = some y := ⟨_, List.getElem?_eq_getElem (by rw [H.out.1]; exact hlt)⟩
      obtain ⟨g, c', he, hc⟩ := H.out.2.1 k y hy
      simp only [Value.slice.injEq, true_and] at he
      obtain ⟨rfl, rfl⟩ := he
      have i1 : (0 : Int) ≤ (k : Int) := by omega
      have HY := Lib.hid hy
      clear hy
      by_cases hxy : x = y
      · have z : (x == y) = true := by simpa using hxy
        have hrk : r = k := by
          rw [← H.out.2.2]
          unfold idxZ
          rw [if_pos (by rw [hxy]; exact List.mem_of_getElem? HY.out), idxOf_at (by rw [hxy]; exact HY.out) HK.out]
        subst hrk
        clear hxy
        go_wp2
        go_ret
        exact ⟨rfl, rfl⟩
      · have z : (x == y) = false := by simpa using hxy
        have hk1 : x ∉ l.take (k + 1) := by
          rw [List.take_add_one, HY.out]
          simp only [List.mem_append]
          rintro (h | h)
          · exact HK.out h
          · simp at h; exact hxy h
        have HK1 := Lib.hid hk1
        clear hxy hk1
        go_wp2
        go_round
        case rel => exact ⟨k + 1, by omega, by go_num, HK1⟩
        case measure => simp [intOf]; omega
    · have hrk : r = -1 := by
        rw [← H.out.2.2]
        unfold idxZ
        have := HK.out
        rw [List.take_of_length_le (by rw [H.out.1]; omega)] at this
        rw [if_neg this]
      subst hrk
      go_wp2
      go_ret
      exact ⟨rfl, rfl⟩
abbrev parsI (l : List It) : List Int := l.map (·.par)

theorem par_get {l : List It} {k : Nat} {e : It} (h : l[k]? = some e) : (parsI l)[k]? = some e.par := by rw [List.getElem?_map, h]; rfl

theorem within_any {w : World} {B a id : Nat} {t : Nat} {v : Value} {l : List It} {r : Bool} (h : ArenaAt w B a v l) (hg : PGood (parsI l)) (hid : id < l.length) (hr : und (parsI l) id t = r) :
    Calls Try.prog 51 #[ptr a, i64 id, i64 t] w fun e w' => e = .returned (.bool r) ∧ w = w' := by
  obtain ⟨rk, hrk⟩ := hg.rank
  obtain ⟨ad, c, rfl, hlc, hc9, hrr⟩ := h.form
  obtain ⟨g, rfl, hgB, hgs, hc⟩ := hrr (fun e => by rw [e] at hid; simp at hid)
  have c0 := h.blk.cell 0 (.slice (some ⟨g, 0, none⟩) l.length c) rfl
  obtain ⟨n, hn⟩ : ∃ n, l.length = n := ⟨_, rfl⟩
  have hp6 : ∀ (k : Nat) (e : It), l[k]? = some e → w.cell? ⟨g, k * 8 + 6, none⟩ = some (i64 e.par) := fun k e hk => (hc k e hk).2.2.2.2.2.2.1
  have hu : r = true ↔ Und (parsI l) t id := by rw [← hr]; exact und_iff hg (by simpa using hid)
  rw [hn] at hlc c0 hid
  have H := Lib.hid (And.intro hp6 (And.intro hn (And.intro hg (And.intro hu hrk))))
  clear hp6 hn hg hu hrk hrr hc h hr
  go_enter Try.func51, Try.ntmps51
  go_wp2
  refine wp_scope_jumps 0 (fun a' w' => w = w' ∧ ∃ (x : Nat) (u7 u8 u9 u10 u11 u12 u13 u14 u15 u16 u17 u18 u19 : Value), a' = { tmps := #[ptr a, i64 x, i64 t, undef, undef, undef, .bool false, u7, u8, u9, u10, u11, u12, u13, u14, u15, u16, u17, u18, u19], defers := [] } ∧ x < n ∧ Hid (Und (parsI l) t x ↔ Und (parsI l) t id)) (fun a' _ => rk ((intOf (a'.tmps.getD 1 undef)).toNat)) rfl ?_ ?_
  · obtain ⟨x, rfl⟩ : ∃ x, x = id := ⟨_, rfl⟩
    have hx : x < n := hid
    have HX : Hid (Und (parsI l) t x ↔ Und (parsI l) t x) := Lib.hid Iff.rfl
    obtain ⟨e, he⟩ : ∃ e, l[x]? = some e := ⟨_, List.getElem?_eq_getElem (by rw [H.out.2.1]; exact hx)⟩
    have d6 := H.out.1 x e he
    have i1 : (0 : Int) ≤ (x : Int) := by omega
    have i2 : (x : Int) < (n : Int) := by omega
    obtain ⟨q, hq⟩ : ∃ q, e.par = q := ⟨_, rfl⟩
    have hpq := par_get he
    rw [hq] at d6 hpq
    have HQ := Lib.hid hpq
    clear he hq hpq
    by_cases hxt : (x : Int) = (t : Int)
    · have z1 : ((x : Int) == (t : Int)) = true := by simpa using hxt
      have hrt : r = true := by
        refine H.out.2.2.2.1.2 (HX.out.1 ?_)
        obtain rfl : x = t := by omega
        exact .here
      subst hrt
      clear hxt
      go_wp2
      go_step3
      go_wp2
      simp only [Exit.jump]
      go_ret
      exact ⟨rfl, rfl⟩
    · have z1 : ((x : Int) == (t : Int)) = false := by simpa using hxt
      have hxt' : x ≠ t := by omega
      clear hxt
      by_cases hq1 : q = -1
      · subst hq1
        have hrf : r = false := by
          cases hr : r with
          | false => rfl
          | true =>
            cases HX.out.2 (H.out.2.2.2.1.1 hr) with
            | here => exact absurd rfl hxt'
            | up h _ => rw [HQ.out] at h; injection h; omega
        subst hrf
        go_wp2
        go_step3
        go_wp2
        simp only [Exit.jump]
        go_ret
        exact ⟨rfl, rfl⟩
      · have z2 : (q != -1) = true := by simpa using hq1
        obtain ⟨p, hp, hpl⟩ : ∃ p : Nat, q = p ∧ p < n := by
          rcases H.out.2.2.1.rng x q HQ.out with h1 | ⟨p, h1, h2⟩
          · exact absurd h1 hq1
          · rw [List.length_map, H.out.2.1] at h2
            exact ⟨p, h1, h2⟩
        subst hp
        have hlt := H.out.2.2.2.2 x p HQ.out
        have hup : Hid (Und (parsI l) t p ↔ Und (parsI l) t x) := Lib.hid ⟨fun h => HX.out.1 (.up HQ.out h), fun h => by
          cases HX.out.2 h with
          | here => exact absurd rfl hxt'
          | up h h' =>
            rw [HQ.out] at h
            injection h with h
            obtain rfl := Int.ofNat.inj h
            exact h'⟩
        clear hq1
        go_wp2
        go_step3
        go_wp2
        go_step3
        exact ⟨rfl, rfl, p, _, _, _, _, _, _, _, _, _, _, _, _, _, rfl, hpl, hup⟩
  · rintro a' w' ⟨rfl, x, u7, u8, u9, u10, u11, u12, u13, u14, u15, u16, u17, u18, u19, rfl, hx, HX⟩
    obtain ⟨e, he⟩ : ∃ e, l[x]? = some e := ⟨_, List.getElem?_eq_getElem (by rw [H.out.2.1]; exact hx)⟩
    have d6 := H.out.1 x e he
    have i1 : (0 : Int) ≤ (x : Int) := by omega
    have i2 : (x : Int) < (n : Int) := by omega
    obtain ⟨q, hq⟩ : ∃ q, e.par = q := ⟨_, rfl⟩
    have hpq := par_get he
    rw [hq] at d6 hpq
    have HQ := Lib.hid hpq
    clear he hq hpq
    by_cases hxt : (x : Int) = (t : Int)
    · have z1 : ((x : Int) == (t : Int)) = true := by simpa using hxt
      have hrt : r = true := by
        refine H.out.2.2.2.1.2 (HX.out.1 ?_)
        obtain rfl : x = t := by omega
        exact .here
      subst hrt
      clear hxt
      go_wp2
      simp only [Exit.jump]
      go_ret
      exact ⟨rfl, rfl⟩
    · have z1 : ((x : Int) == (t : Int)) = false := by simpa using hxt
      have hxt' : x ≠ t := by omega
      clear hxt
      by_cases hq1 : q = -1
      · subst hq1
        have hrf : r = false := by
          cases hr : r with
          | false => rfl
          | true =>
            cases HX.out.2 (H.out.2.2.2.1.1 hr) with
            | here => exact absurd rfl hxt'
            | up h _ => rw [HQ.out] at h; injection h; omega
        subst hrf
        go_wp2
        simp only [Exit.jump]
        go_ret
        exact ⟨rfl, rfl⟩
      · have z2 : (q != -1) = true := by simpa using hq1
        obtain ⟨p, hp, hpl⟩ : ∃ p : Nat, q = p ∧ p < n := by
          rcases H.out.2.2.1.rng x q HQ.out with h1 | ⟨p, h1, h2⟩
          · exact absurd h1 hq1
          · rw [List.length_map, H.out.2.1] at h2
            exact ⟨p, h1, h2⟩
        subst hp
        have hlt := H.out.2.2.2.2 x p HQ.out
        have hup : Hid (Und (parsI l) t p ↔ Und (parsI l) t id) := Lib.hid ⟨fun h => HX.out.1 (.up HQ.out h), fun h => by
          cases HX.out.2 h with
          | here => exact absurd rfl hxt'
          | up h h' =>
            rw [HQ.out] at h
            injection h with h
            obtain rfl := Int.ofNat.inj h
            exact h'⟩
        clear hq1
        go_wp2
        go_step3
        exact ⟨rfl, ⟨rfl, p, _, _, _, _, _, _, _, _, _, _, _, _, _, rfl, hpl, hup⟩, by simpa [intOf] using hlt⟩

/-- May a node be put into an element? -/
def freeB (l : List It) (id p : Nat) : Bool := match l[id]? with
  | some e => !decide (id = 0) && decide (e.par = -1) && !und (parsI l) p id
  | none => false

set_option maxHeartbeats 1000000 in
theorem free_any {w : World} {B a id p : Nat} {v : Value} {l : List It} {r : Bool} (h : ArenaAt w B a v l) (hg : PGood (parsI l)) (hid : id < l.length) (hp : p < l.length) (hr : freeB l id p = r) :
    Calls Try.prog 36 #[ptr a, i64 id, i64 p] w fun e w' => e = .returned (.bool r) ∧ w = w' := by
  obtain ⟨e, he⟩ : ∃ e, l[id]? = some e := ⟨_, List.getElem?_eq_getElem hid⟩
  obtain ⟨ad, c, rfl, hlc, hc9, hrr⟩ := h.form
  obtain ⟨g, rfl, hgB, hgs, hc⟩ := hrr (fun e => by rw [e] at hid; simp at hid)
  have c0 := h.blk.cell 0 (.slice (some ⟨g, 0, none⟩) l.length c) rfl
  obtain ⟨_, _, _, _, _, _, d6, _⟩ := hc id e he
  obtain ⟨n, hn⟩ : ∃ n, l.length = n := ⟨_, rfl⟩
  unfold freeB at hr
  rw [he] at hr
  dsimp only at hr
  have H := Lib.hid (And.intro h (And.intro hg hp))
  rw [hn] at hlc c0 hid
  clear hrr hc h hg hn he hp
  obtain ⟨q, hq⟩ : ∃ q, e.par = q := ⟨_, rfl⟩
  obtain ⟨u, hu⟩ : ∃ u, und (parsI l) p id = u := ⟨_, rfl⟩
  rw [hq] at d6 hr
  rw [hu] at hr
  have HU := Lib.hid hu
  clear hq hu
  by_cases h0 : id = 0
  · subst h0
    rw [decide_eq_true rfl] at hr
    simp at hr
    subst hr
    go_enter Try.func36, Try.ntmps36
    go_wp2
    go_ret
    exact ⟨rfl, rfl⟩
  · have z0 : ((id : Int) != 0) = true := by simp; omega
    rw [decide_eq_false h0] at hr
    by_cases hq1 : q = -1
    · subst hq1
      clear h0
      cases u with
      | true =>
        simp at hr
        subst hr
        go_enter Try.func36, Try.ntmps36
        go_wp2_with (first
          | (go_at_call 51; (with_reducible refine (within_any H.out.1 H.out.2.1 H.out.2.2 HU.out).mono ?_); rintro e w1 ⟨rfl, rfl⟩))
        go_ret
        exact ⟨rfl, rfl⟩
      | false =>
        simp at hr
        subst hr
        go_enter Try.func36, Try.ntmps36
        go_wp2_with (first
          | (go_at_call 51; (with_reducible refine (within_any H.out.1 H.out.2.1 H.out.2.2 HU.out).mono ?_); rintro e w1 ⟨rfl, rfl⟩))
        go_ret
        exact ⟨rfl, rfl⟩
    · have z1 : (q == -1) = false := by simpa using hq1
      rw [decide_eq_false hq1] at hr
      simp at hr
      subst hr
      clear h0 hq1
      go_enter Try.func36, Try.ntmps36
      go_wp2
      go_ret
      exact ⟨rfl, rfl⟩

theorem place_any {w : World} {B a id p : Nat} {v : Value} {l : List It} {e ep : It} (h : ArenaAt w B a v l) (he : l[id]? = some e) (hp : e.par = p) (hep : l[p]? = some ep) :
    Calls Try.prog 49 #[ptr a, i64 id] w fun e w' => e = .returned (.tuple #[i64 p, i64 (idxZ id ep.kids)]) ∧ w = w' := by
  obtain ⟨ad, c, rfl, hlc, hc9, hrr⟩ := h.form
  obtain ⟨g, rfl, hgB, hgs, hc⟩ := hrr (fun e => by rw [e] at he; simp at he)
  have c0 := h.blk.cell 0 (.slice (some ⟨g, 0, none⟩) l.length c) rfl
  obtain ⟨_, _, _, _, _, _, d6, _⟩ := hc id e he
  obtain ⟨_, _, _, _, _, _, _, d7⟩ := hc p ep hep
  have hid := (List.getElem?_eq_some_iff.1 he).1
  have hpl := (List.getElem?_eq_some_iff.1 hep).1
  obtain ⟨n, hn⟩ : ∃ n, l.length = n := ⟨_, rfl⟩
  have hk := (h.its ep (List.mem_of_getElem? hep)).kids
  have hkf := (h.its ep (List.mem_of_getElem? hep)).few
  obtain ⟨kad, kc, hkv⟩ := own_slice hk
  obtain ⟨m, hm⟩ : ∃ m, ep.kids.length = m := ⟨_, rfl⟩
  rw [hm] at hk hkf hkv
  rw [hkv] at hk d7
  rw [hp] at d6
  rw [hn] at hlc c0 hid hpl
  have H := Lib.hid hk
  clear hrr hc h hn he hp hep hk hkv hm
  have i1 : (0 : Int) ≤ (p : Int) := by omega
  have i2 : (p : Int) < (n : Int) := by omega
  go_enter Try.func49, Try.ntmps49
  go_wp2_with (first
    | (go_at_call 60; (with_reducible refine (index_any H.out hkf).mono ?_); rintro e w1 ⟨rfl, rfl⟩))
  go_ret2
  exact ⟨rfl, rfl⟩

theorem own_empty (w : World) (e : TypeId) (size : Nat) : (w.alloc (.cells #[] e)).ownsRow w.heap.size e size (.slice (some ⟨w.heap.size, 0, none⟩) 0 0) 0 [] :=
  ⟨by simp, .inr ⟨w.heap.size, 0, #[], rfl, Nat.le_refl _, Go.heap_alloc_new w _, Nat.le_refl _, by simp [maxLen], by simp, by simp⟩⟩
theorem eqlS (w : World) (a : Addr) (n c : Nat) : (binOp .eql 40 (.slice (some a) n c) (.slice none 0 0)).run Try.prog w = .ok (.bool false) w := by
  kernel_rfl
theorem eqlN (w : World) (n c : Nat) : (binOp .eql 40 (.slice none n c) (.slice none 0 0)).run Try.prog w = .ok (.bool true) w := by
  kernel_rfl

/-- slices.Clone of numbers. -/
theorem cloneN_any {w : World} {B n : Nat} {v : Value} {l : List Int} (h : w.ownsRow B 3 1 v n (l.map i64)) (hn : n ≤ 1000000) : Calls Try.prog 39 #[v] w fun e w' => ∃ v', e = .returned v' ∧ w'.ownsRow w.heap.size 3 1 v' n (l.map i64) ∧ Below w.heap.size w w' := by
  obtain ⟨i0, hi, hz0, hz1, hz2⟩ := info_parts info3
  have hln : l.length = n := by have := own_length1 h; simpa using this
  rcases h.2 with ⟨rfl, h0⟩ | ⟨g, c, cur, rfl, hgb, hg, hnc, hm, _, _⟩
  · subst h0
    have hl0 : l = [] := List.length_eq_zero_iff.1 hln
    subst hl0
    have e1 := eqlN w 0 0
    clear h
    go_enter Try.func39, Try.ntmps39
    go_wp2
    go_ret
    exact ⟨_, rfl, World.ownsRow_nil _ _ _ _, Below.refl _ _⟩
  · have ha : ∀ (j : Nat) (u : Value), (l.map i64)[j]? = some u → (w.alloc (.cells #[] 3)).cell? ((⟨g, 0, none⟩ : Addr).add j) = some u := (h.alloc _).cells rfl
    have HA := Lib.hid (And.intro ha hln)
    have e1 := eqlS w ⟨g, 0, none⟩ n c
    clear h hg ha hln
    go_enter Try.func39, Try.ntmps39
    go_wp2_with (first
      | (at_builtin; refine wpList_append_own _ rfl (.tmp 5) (.tmp 6) 40 rfl w.heap.size 3 i0 _ 1 8 Try.underlying40 hi hz0 hz1 hz2 rfl (by decide) _ _ _ rfl (own_empty w 3 1) _ _ _ (l.map i64) rfl ?c0 ?c1 (ints_one l) ?c3 ?c4 ?c5 ?_))
    case c0 => rw [List.length_map, HA.out.2, Nat.mul_one]
    case c1 => exact HA.out.1
    case c3 => unfold maxLen; omega
    case c4 => omega
    case c5 => simp
    intro v' w' hown hgrow _
    have hb : Below w.heap.size w w' := ((Below.refl _ w).alloc (Nat.le_refl _) _).grown hgrow (by simp) (fun k hk => by cases hk; exact Nat.le_refl _)
    have HO := Lib.hid (And.intro hown hb)
    clear hown hgrow hb
    go_wp2
    go_ret
    exact ⟨_, rfl, by simpa using HO.out.1, HO.out.2⟩

def kidsI (l : List It) (id : Int) : List Int := match getI l id with
  | some e => e.kids
  | none => []

def KidsIt (l : List Int) (w : World) (e : Ending) (w' : World) : Prop :=
  ∃ v', e = .returned v' ∧ w'.ownsRow w.heap.size 3 1 v' l.length (l.map i64) ∧ Below w.heap.size w w'

theorem kids_any {w : World} {B a : Nat} {id : Int} {v : Value} {l : List It} (h : ArenaAt w B a v l) : Calls Try.prog 17 #[ptr a, i64 id] w (KidsIt (kidsI l id) w) := by
  have H := Lib.hid h
  have hi := isB_get l id
  cases hg : getI l id with
  | none =>
    rw [hg] at hi
    have hk : kidsI l id = [] := by unfold kidsI; rw [hg]
    rw [hk]
    have HI := Lib.hid (hi.trans rfl : isB l id = false)
    clear hi hg h hk
    go_enter Try.func17, Try.ntmps17
    go_wp2_with (first
      | (go_at_call 35; (with_reducible refine (is_any H.out HI.out).mono ?_); rintro e w1 ⟨rfl, rfl⟩))
    go_ret
    exact ⟨_, rfl, World.ownsRow_nil _ _ _ _, Below.refl _ _⟩
  | some e =>
    rw [hg] at hi
    have hk : kidsI l id = e.kids := by unfold kidsI; rw [hg]
    rw [hk]
    have HI := Lib.hid (hi.trans rfl : isB l id = true)
    obtain ⟨k, rfl, hk, hkl⟩ := getI_some hg
    obtain ⟨ad, c, rfl, hlc, hc9, hrr⟩ := h.form
    obtain ⟨g, rfl, hgB, hgs, hc⟩ := hrr (fun e => by rw [e] at hk; simp at hk)
    obtain ⟨_, _, _, _, _, _, _, d7⟩ := hc k e hk
    have c0 := h.blk.cell 0 (.slice (some ⟨g, 0, none⟩) l.length c) rfl
    have hkk := (h.its e (List.mem_of_getElem? hk)).kids
    have hkf := (h.its e (List.mem_of_getElem? hk)).few
    obtain ⟨kad, kc, hkv⟩ := own_slice hkk
    obtain ⟨n, hn⟩ : ∃ n, l.length = n := ⟨_, rfl⟩
    obtain ⟨m, hm⟩ : ∃ m, e.kids.length = m := ⟨_, rfl⟩
    rw [hm] at hkk hkf hkv
    have HM := Lib.hid hm
    rw [hkv] at hkk d7
    rw [hn] at hlc hkl c0
    have HK := Lib.hid hkk
    clear hi hg h hrr hc hn hk hgB hgs hkk hkv hm
    go_enter Try.func17, Try.ntmps17
    go_wp2_with (first
      | (go_at_call 35; (with_reducible refine (is_any H.out HI.out).mono ?_); rintro e w1 ⟨rfl, rfl⟩)
      | (go_at_call 39; (with_reducible refine (cloneN_any HK.out hkf).mono ?_); rintro e w1 ⟨v', rfl, hown, hbel⟩; have HO := Lib.hid (And.intro hown hbel); clear hown hbel))
    go_ret
    exact ⟨_, rfl, by rw [HM.out]; exact HO.out.1, HO.out.2⟩

end Go.Proofs.Ytdeogkjihmaniaa
