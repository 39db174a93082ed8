/-
  rectolaw11.ArenaOnce returns true for every list of steps.
  Written by an AI agent.
-/
import Derived.Test.YtdeogkjihmaniaaSteps
import Derived.Test.YtdeogkjihmaniaaOpen
import Derived.Test.YtdeogkjihmaniaaRows
namespace Go.Proofs.Ytdeogkjihmaniaa
open Go.RowKit

/-! ### Reads by the state -/
def St.parP (S : St) (id : Int) : Int × Bool := if parN S.ps id = -1 then (0, false) else (parN S.ps id, true)
theorem Mod.parP {l : List It} {S : St} (m : Mod l S) (id : Int) : parP l id = S.parP id := by
  unfold Ytdeogkjihmaniaa.parP St.parP getI parN
  by_cases h : 0 ≤ id
  · have h' : ¬ id < 0 := by omega
    simp only [if_pos h, if_neg h', List.getD_eq_getElem?_getD, ← m.ps]
    unfold parsI
    rw [List.getElem?_map]
    cases hk : l[id.toNat]? with
    | none => simp
    | some e => simp
  · have h' : id < 0 := by omega
    simp only [if_neg h, if_pos h', if_true]
theorem Mod.kidsI {l : List It} {S : St} (m : Mod l S) {k : Nat} (hk : k < S.l.length) : kidsI l k = S.kids k := by
  obtain ⟨e, he⟩ := m.ex hk
  unfold Ytdeogkjihmaniaa.kidsI getI
  rw [if_pos (by omega), Int.toNat_natCast, he]
  exact m.kids k e he
theorem par_ar {w : World} {B a : Nat} {S : St} {id p : Int} {r : Bool} (h : Ar w B a S) (hr : S.parP id = (p, r)) : Calls Try.prog 22 #[ptr a, i64 id] w fun e w' => e = .returned (.tuple #[i64 p, .bool r]) ∧ w = w' := by
  obtain ⟨v, l, h, m⟩ := h
  exact (parent_any h ((m.parP id).trans hr)).mono fun _ _ ⟨h1, h2⟩ => ⟨h1, h2.symm⟩
theorem kids_ar {w : World} {B a k : Nat} {S : St} (h : Ar w B a S) (hk : k < S.l.length) : Calls Try.prog 17 #[ptr a, i64 k] w (KidsIt (S.kids k) w) := by
  obtain ⟨v, l, h, m⟩ := h
  have := kids_any (id := k) h
  rw [m.kidsI hk] at this
  exact this

theorem below_of_fr {B : Nat} {T : Obj → Bool} {a w : World} (h : Fr B T a w) (hB : B ≤ a.heap.size) : Below B a w := ⟨h.os, h.tape, h.output, h.size, fun k hk => h.block k (Nat.lt_of_lt_of_le hk hB) (.inl hk)⟩
theorem rmod0 : RMod [root0] [] S0 := ⟨rfl, rfl⟩
theorem two0 {w : World} {B a rb B2 : Nat} {v vL : Value} (h : ArenaAt w B a v [rootI]) (h2 : RefAt w B2 rb vL (.slice none 0 0) [root0] []) (hB : B ≤ B2) : Two w B a rb S0 S0 :=
  ⟨v, [rootI], vL, .slice none 0 0, [root0], [], h, mod0, ⟨h2.blk, Nat.le_trans hB h2.low, own_mono h2.rowL hB, own_mono h2.rowR hB, fun e he => by rw [List.mem_singleton.1 he]; exact AtrsAt.nil _ _⟩, rmod0, fun k hk => by simp [Value.ownBlock] at hk⟩
/-- k steps on. -/
def Walked (w : World) (l : List Stp) (k a rb : Nat) (wr : World) : Prop := Two wr w.heap.size a rb (stepsOf l k) (stepsOf l k) ∧ Inv (stepsOf l k) k ∧ Below w.heap.size w wr
theorem Two.ar {w : World} {B a rb : Nat} {S1 S2 : St} (h : Two w B a rb S1 S2) : Ar w B a S1 := by
  obtain ⟨v, l, _, _, _, _, h1, h2, _⟩ := h
  exact ⟨v, l, h1, h2⟩

/-- A step of the law's loop. -/
theorem does_step {w wr : World} {l : List Stp} {k a rb : Nat} {x : Stp} (h : Walked w l k a rb wr) (hk : k ≤ 61) (hx : l[k]? = some x) (hs : x.s.size ≤ 50) :
    Calls Try.prog 21 #[ptr a, ptr rb, .agg #[i64 x.what, i64 x.a, i64 x.b, .string x.s]] wr fun e w' => e = .returned (.bool true) ∧ Walked w l (k + 1) a rb w' ∧ Fr w.heap.size BK wr w' := by
  obtain ⟨h1, h2, h3⟩ := h
  have ht : ∀ nd ∈ (stepsOf l k).l, nd.text.size + x.s.size ≤ 9223372036854775807 := fun nd hn => by
    have := h2.txt nd hn
    omega
  refine (does_any x h1 h2.good ht).mono ?_
  rintro e w' ⟨rfl, q1, q2⟩
  refine ⟨rfl, ?_, q2⟩
  unfold Walked
  rw [stepsOf_succ hx]
  exact ⟨q1, h2.step hs, h3.trans (below_of_fr q2 h3.size)⟩
theorem Walked.below {w wr w' : World} {l : List Stp} {k a rb : Nat} (h : Walked w l k a rb wr) (hb : Below wr.heap.size wr w') : Walked w l k a rb w' :=
  ⟨h.1.below hb, h.2.1, h.2.2.trans (hb.mono h.2.2.size)⟩

/-! ### Who is whose kid -/
theorem parP_yes {S : St} (g : Good S) {k p : Nat} (h : S.ps[k]? = some (p : Int)) : S.parP k = ((p : Int), true) ∧ p < S.l.length := by
  unfold St.parP
  rw [parN_get h, if_neg (by omega)]
  refine ⟨rfl, ?_⟩
  rcases g.pg.rng k p h with h1 | ⟨q, h1, h2⟩
  · omega
  · rw [Good.ps_length] at h2; omega
theorem parP_no {S : St} {k : Nat} (h : S.ps[k]? = some (-1)) : S.parP k = (0, false) := by
  unfold St.parP
  rw [parN_get h, if_pos rfl]
theorem ps_cases {S : St} (g : Good S) {k : Nat} (hk : k < S.l.length) : S.ps[k]? = some (-1) ∨ ∃ p : Nat, S.ps[k]? = some (p : Int) := by
  have h : S.ps[k]? = some (S.ps[k]'(by rw [Good.ps_length]; exact hk)) := List.getElem?_eq_getElem _
  rcases g.pg.rng k _ h with h1 | ⟨q, h1, h2⟩
  · rw [h1] at h; exact .inl h
  · rw [h1] at h; exact .inr ⟨q, h⟩
/-- What is known of a node's parent. -/
structure ParF (S : St) (id : Nat) (p : Int) (r : Bool) : Prop where
  is : S.parP id = (p, r)
  kid : ∀ k : Nat, (id : Int) ∈ S.kids k → r = true ∧ p = k
  yes : r = true → ∃ k : Nat, p = k ∧ k < S.l.length ∧ (id : Int) ∈ S.kids k
theorem parF {S : St} (g : Good S) {id : Nat} (h : id < S.l.length) : ∃ p r, ParF S id p r := by
  have hkid : ∀ k : Nat, (id : Int) ∈ S.kids k → S.ps[id]? = some (k : Int) := fun k hk => by
    obtain ⟨j, h1, h2, _⟩ := Good.kid_par hk
    obtain rfl : id = j := by omega
    exact h2
  rcases ps_cases g h with h1 | ⟨p, h1⟩
  · refine ⟨0, false, parP_no h1, fun k hk => ?_, fun e => by cases e⟩
    have := hkid k hk
    rw [h1] at this
    have := Option.some.inj this
    omega
  · obtain ⟨h2, h3⟩ := parP_yes g h1
    refine ⟨p, true, h2, fun k hk => ⟨rfl, ?_⟩, fun _ => ⟨p, rfl, h3, g.mem_kids h1⟩⟩
    have := hkid k hk
    rw [h1] at this
    simpa using this
/-- How often a node was met: ahead of k's kids. -/
def tm (p : Int) (r : Bool) (k : Nat) : Nat := if r = true ∧ p < k then 1 else 0
def hit (id : Nat) (l : List Int) : Nat := if (id : Int) ∈ l then 1 else 0
theorem ParF.tm_succ {S : St} {id : Nat} {p : Int} {r : Bool} (h : ParF S id p r) (k : Nat) : tm p r k + hit id (S.kids k) = tm p r (k + 1) := by
  unfold tm hit
  cases r with
  | false =>
    have h1 : ¬ (id : Int) ∈ S.kids k := fun hm => by have := (h.kid k hm).1; cases this
    simp [h1]
  | true =>
    obtain ⟨q, rfl, _, hq⟩ := h.yes rfl
    by_cases e : q = k
    · subst e
      simp [hq]
      omega
    · have h1 : ¬ (id : Int) ∈ S.kids k := fun hm => e (by have := (h.kid k hm).2; omega)
      have h2 : q < k ↔ q < k + 1 := by omega
      simp only [h1, if_false, Nat.add_zero, true_and]
      by_cases hl : q < k
      · rw [if_pos (by omega), if_pos (by omega)]
      · rw [if_neg (by omega), if_neg (by omega)]
theorem ParF.tm0 {S : St} {id : Nat} {p : Int} {r : Bool} (h : ParF S id p r) : tm p r 0 = 0 := by
  unfold tm
  rw [if_neg]
  rintro ⟨h1, h2⟩
  obtain ⟨k, h3, _⟩ := h.yes h1
  omega
theorem tm_le (p : Int) (r : Bool) (k : Nat) : tm p r k ≤ 1 := by unfold tm; split <;> omega
theorem hit_le (id : Nat) (l : List Int) : hit id l ≤ 1 := by unfold hit; split <;> omega
theorem ParF.tm_all {S : St} {id : Nat} {p : Int} {r : Bool} (h : ParF S id p r) : tm p r S.l.length = if r = true then 1 else 0 := by
  unfold tm
  cases r with
  | false => simp
  | true =>
    obtain ⟨k, h3, h4, _⟩ := h.yes rfl
    rw [if_pos ⟨rfl, by omega⟩, if_pos rfl]
theorem hit_take {l : List Int} {id j : Nat} {x : Int} (hn : l.Nodup) (h : l[j]? = some x) : hit id (l.take (j + 1)) = hit id (l.take j) + (if x = id then 1 else 0) := by
  unfold hit
  rw [List.take_add_one, h]
  simp only [Option.toList_some, List.mem_append, List.mem_singleton]
  by_cases e : x = id
  · subst e
    have hno : ¬ (id : Int) ∈ l.take j := fun hm => by
      obtain ⟨i, hi⟩ := List.getElem?_of_mem hm
      have hil : i < j := by
        have := (List.getElem?_eq_some_iff.1 hi).1
        simp at this; omega
      rw [List.getElem?_take_of_lt hil] at hi
      have hjl := (List.getElem?_eq_some_iff.1 h).1
      have := (List.getElem?_inj (by omega) hn).1 (hi.trans h.symm)
      omega
    rw [if_pos (Or.inr rfl), if_neg hno, if_pos rfl]
  · rw [if_neg e, Nat.add_zero]
    by_cases hm : (id : Int) ∈ l.take j
    · rw [if_pos (Or.inl hm), if_pos hm]
    · rw [if_neg (by rintro (h1 | h1); exact hm h1; exact e h1.symm), if_neg hm]

theorem own_int {w : World} {B n c : Nat} {ad : Option Addr} {xs : List Int} {k : Nat} {x : Int} (h : w.ownsRow B 3 1 (.slice ad n c) n (xs.map i64)) (hn : k < n) (hk : xs[k]? = some x) :
    ∃ g, ad = some ⟨g, 0, none⟩ ∧ n ≤ c ∧ g < w.heap.size ∧ w.cell? ⟨g, k, none⟩ = some (i64 x) := by
  have hr := h
  rcases h.2 with ⟨_, h0⟩ | ⟨g, cap, cur, hv, hb, hg, hnc, hm, _, _⟩
  · omega
  · simp only [Value.slice.injEq] at hv
    obtain ⟨rfl, _, rfl⟩ := hv
    refine ⟨g, rfl, hnc, (Array.getElem?_eq_some_iff.1 hg).1, ?_⟩
    rw [hr.cellAt k (by omega), List.getElem?_map, hk]
    rfl
theorem once_long {w : World} {v : Value} {l : List Stp} (h : StepsAt w v l) (hl : longB l = true) : Calls Try.prog 6 #[v] w fun e w' => e = .returned (.bool true) ∧ Below w.heap.size w w' := by
  obtain ⟨ad, c, rfl, _⟩ := id h
  have H := Lib.hid (And.intro h hl)
  clear h hl
  go_enter Try.func6, Try.ntmps6
  go_wp2_with (first
    | (go_at_call 9; refine (new_any _).mono ?_; rintro e w1 ⟨rfl, _, hb⟩; have H1 := Lib.hid hb; clear hb)
    | (go_at_call 19; refine (long_any (H.out.1.below H1.out)).mono ?_; rintro e w2 ⟨rfl, h2⟩; rw [H.out.2]; have H2 := Lib.hid (H1.out.trans (h2.mono H1.out.size)); clear h2)
    | (go_at_call 10; refine (three_any _).mono ?_; rintro e w3 ⟨rfl, h3⟩; have H3 := Lib.hid h3; clear h3))
  go_ret
  exact ⟨rfl, H2.out.trans (H3.out.mono H2.out.size)⟩

/-- k's kids, j of them gone through. -/
def TimesAt (S : St) (id k j : Nat) (p : Int) (r : Bool) (t : Int) : Prop := t = ((tm p r k + hit id ((S.kids k).take j) : Nat) : Int)

set_option maxHeartbeats 8000000 in
set_option maxRecDepth 100000 in
theorem once_main {w : World} {v : Value} {l : List Stp} (h : StepsAt w v l) (hl : longB l = false) : Calls Try.prog 6 #[v] w fun e w' => e = .returned (.bool true) ∧ Below w.heap.size w w' := by
  obtain ⟨ad, c, rfl, _, hr⟩ := id h
  obtain ⟨m, hm⟩ : ∃ m, l.length = m := ⟨_, rfl⟩
  rw [hm] at h ⊢
  have hm61 : m ≤ 61 := by have := (longB_false hl).1; omega
  have H := Lib.hid (And.intro h hl)
  have HL := Lib.hid (And.intro hm (longB_false hl))
  have HR := Lib.hid hr
  clear h hl hm hr
  go_enter Try.func6, Try.ntmps6
  go_wp2_with (first
    | (go_at_call 9; refine (new_any _).mono ?_; rintro e w1 ⟨rfl, ⟨va, ha⟩, hb⟩; have H1 := Lib.hid (And.intro ha hb); clear ha hb)
    | (go_at_call 19; refine (long_any (H.out.1.below H1.out.2)).mono ?_; rintro e w2 ⟨rfl, h2⟩; rw [H.out.2]; have H2 := Lib.hid (And.intro (H1.out.1.below h2) (H1.out.2.trans (h2.mono H1.out.2.size))); clear h2)
    | (go_at_call 20; refine (rnew_any _).mono ?_; rintro e w3 ⟨rfl, ⟨vL, h3⟩, hb⟩; have H3 := Lib.hid (show Walked w l 0 (w.heap.size + 1) (w2.heap.size + 1) w3 from ⟨two0 (H2.out.1.below hb) h3 H2.out.2.size, inv0, H2.out.2.trans (hb.mono H2.out.2.size)⟩); clear h3 hb))
  obtain ⟨rb, hrb⟩ : ∃ rb, w2.heap.size + 1 = rb := ⟨_, rfl⟩
  rw [hrb] at H3 ⊢
  clear hrb
  go_loopw [6, 34] (fun _ i wr => ∃ k : Nat, k ≤ m ∧ i = i64 k ∧ Hid (Walked w l k (w.heap.size + 1) rb wr)) (fun _ i _ => m - (intOf i).toNat)
  case atStart => exact ⟨0, Nat.zero_le _, rfl, H3⟩
  case round =>
    obtain ⟨k, hk, rfl, HK⟩ := hrel
    by_cases hlt : k < m
    · obtain ⟨x, hx⟩ : ∃ x, l[k]? = some x := ⟨_, List.getElem?_eq_getElem (by rw [HL.out.1]; exact hlt)⟩
      obtain ⟨g, off, had, hg, hc⟩ := HR.out (fun e => by have := HL.out.1; rw [e] at this; simp at this; omega)
      obtain ⟨d0, d1, d2, d3⟩ := hc k x hx
      have hbel := HK.out.2.2
      have e0 := (hbel.cell (p := ⟨g, off + k * 4, none⟩) hg).trans d0
      have e1 := (hbel.cell (p := ⟨g, off + k * 4 + 1, none⟩) hg).trans d1
      have e2 := (hbel.cell (p := ⟨g, off + k * 4 + 2, none⟩) hg).trans d2
      have e3 := (hbel.cell (p := ⟨g, off + k * 4 + 3, none⟩) hg).trans d3
      have HW := Lib.hid (HK.out.below ((Below.refl _ wr).alloc (Nat.le_refl _) (.cells #[i64 x.what, i64 x.a, i64 x.b, .string x.s] 49)))
      have HX := Lib.hid (And.intro hx (HL.out.2.2 k x hx))
      have HAD := Lib.hid had
      have hk61 : Hid (k ≤ 61) := Lib.hid (by have := HL.out.2.1; have := HL.out.1; omega)
      clear hc hx had d0 d1 d2 d3 hbel
      rw [HAD.out]
      go_wp2_with (first
        | (go_at_call 21; (with_reducible refine (does_step HW.out hk61.out HX.out.1 HX.out.2).mono ?_); rintro e w4 ⟨rfl, h4, hf4⟩; have H4 := Lib.hid h4; clear h4 hf4))
      go_roundw
      case rel => exact ⟨k + 1, by omega, by go_num, H4⟩
      case measure => simp [intOf]; omega
    · obtain rfl : k = m := by omega
      obtain ⟨S, hS⟩ : ∃ S, stepsOf l k = S := ⟨_, rfl⟩
      obtain ⟨n, hn⟩ : ∃ n, S.l.length = n := ⟨_, rfl⟩
      have HA : Hid (Ar wr w.heap.size (w.heap.size + 1) S ∧ Below w.heap.size w wr) := by
        have := HK.out
        unfold Walked at this
        rw [hS] at this
        exact Lib.hid ⟨this.1.ar, this.2.2⟩
      have HG : Hid (Good S ∧ S.l.length = n) := by
        have := HK.out.2.1.good
        rw [hS] at this
        exact Lib.hid ⟨this, hn⟩
      have hn600 : n ≤ 600 := by rw [← hn]; exact HG.out.1.len
      clear hS hn HK
      go_wp2_with (first
        | (go_at_call 13; (with_reducible refine (len_ar HA.out.1 HG.out.2).mono ?_); rintro e w' ⟨rfl, rfl⟩))
      obtain ⟨wo, hwo⟩ : ∃ wo, wo = wr := ⟨_, rfl⟩
      subst hwo
      go_loopw [8, 9, 10, 11, 12, 14, 15, 16, 17, 18] (fun i _ _ _ _ _ _ _ _ _ wr => ∃ id : Nat, id ≤ n ∧ i = i64 id ∧ Hid (Below w.heap.size w wr ∧ Ar wr w.heap.size (w.heap.size + 1) S)) (fun i _ _ _ _ _ _ _ _ _ _ => n - (intOf i).toNat)
      case atStart => exact ⟨0, Nat.zero_le _, rfl, Lib.hid ⟨HA.out.2, HA.out.1⟩⟩
      case round =>
        obtain ⟨id, hid, rfl, HI⟩ := hrel
        by_cases hlt : id < n
        · obtain ⟨p, r, hp⟩ := parF HG.out.1 (by rw [HG.out.2]; exact hlt : id < S.l.length)
          have HP := Lib.hid hp
          clear hp
          go_wp2_with (first
            | (go_at_call 22; (with_reducible refine (par_ar HI.out.2 HP.out.is).mono ?_); rintro e w' ⟨rfl, rfl⟩))
          obtain ⟨w5, hw5⟩ : ∃ w5, w5 = wr := ⟨_, rfl⟩
          subst hw5
          go_loopw [11, 12, 14] (fun t q _ wr => ∃ k : Nat, k ≤ n ∧ q = i64 k ∧ t = i64 (tm p r k : Nat) ∧ Hid (Below w.heap.size w wr ∧ Ar wr w.heap.size (w.heap.size + 1) S)) (fun _ q _ _ => n - (intOf q).toNat)
          case atStart => exact ⟨0, Nat.zero_le _, rfl, by rw [HP.out.tm0]; rfl, HI⟩
          case round =>
            obtain ⟨k, hk, rfl, rfl, HQ⟩ := hrel
            by_cases hltk : k < n
            · obtain ⟨T0, hT0⟩ : ∃ T0, tm p r k = T0 := ⟨_, rfl⟩
              have hT1 : T0 ≤ 1 := by rw [← hT0]; exact tm_le _ _ _
              rw [hT0]
              obtain ⟨ks, hks⟩ : ∃ ks, S.kids k = ks := ⟨_, rfl⟩
              obtain ⟨N, hN⟩ : ∃ N, ks.length = N := ⟨_, rfl⟩
              have HK := Lib.hid (And.intro hT0 (And.intro hks hN))
              have hN6 : N ≤ 600 := by rw [← hN, ← hks]; exact HG.out.1.kids_len _
              clear hT0 hks hN
              go_wp2_with (first
                | (go_at_call 17; (with_reducible refine (kids_ar HQ.out.2 (by rw [HG.out.2]; exact hltk)).mono ?_); rintro e w6 ⟨v6, rfl, h6, hb6⟩; rw [HK.out.2.1, HK.out.2.2] at h6; obtain ⟨ad6, c6, rfl⟩ := own_slice h6; have H6 := Lib.hid (And.intro h6 (And.intro (HQ.out.2.below hb6) (HQ.out.1.trans (hb6.mono HQ.out.1.size)))); clear h6 hb6))
              go_loopw [11, 14, 65] (fun t _ j wr => ∃ jj : Nat, jj ≤ N ∧ j = i64 jj ∧ Hid (w6 = wr) ∧ ∃ T : Nat, t = i64 T ∧ T ≤ 2 ∧ Hid (T = T0 + hit id (ks.take jj))) (fun _ _ j _ => N - (intOf j).toNat)
              case atStart => exact ⟨0, Nat.zero_le _, rfl, Lib.hid rfl, T0, rfl, by omega, Lib.hid (by simp [hit])⟩
              case round =>
                obtain ⟨jj, hj, rfl, HW6, T, rfl, hT2, HT⟩ := hrel
                obtain rfl := HW6.out
                by_cases hltj : jj < N
                · obtain ⟨x, hx⟩ : ∃ x, ks[jj]? = some x := ⟨_, List.getElem?_eq_getElem (by rw [HK.out.2.2]; exact hltj)⟩
                  obtain ⟨g6, had6, hnc6, hg6, c6⟩ := own_int H6.out.1 hltj hx
                  have HST := Lib.hid (hit_take (id := id) (by rw [← HK.out.2.1]; exact nodup_kids _ HG.out.1.nodup : ks.Nodup) hx)
                  have HXK : Hid ((x = (id : Int)) → r = true ∧ p = (k : Int)) := Lib.hid fun e => HP.out.kid k (by rw [HK.out.2.1, ← e]; exact List.mem_of_getElem? hx)
                  have HAD6 := Lib.hid had6
                  clear hx had6
                  rw [HAD6.out]
                  by_cases hxi : x = (id : Int)
                  · obtain ⟨hr1, hp1⟩ := HXK.out hxi
                    have z1 : (x == (id : Int)) = true := by simp [hxi]
                    have z2 : (p != (k : Int)) = false := by simp [hp1]
                    have hT1' : T ≤ 1 := by
                      have := HST.out
                      rw [if_pos hxi] at this
                      have h2 := hit_le id (ks.take (jj + 1))
                      have := HT.out
                      omega
                    have HE := Lib.hid (show T + 1 = T0 + hit id (ks.take (jj + 1)) by rw [HST.out, if_pos hxi, HT.out]; omega)
                    have HXI := Lib.hid (And.intro hxi hp1)
                    clear hxi hp1
                    subst hr1
                    go_wp2
                    go_roundw
                    case rel => exact ⟨jj + 1, by omega, by go_num, (by first | exact Lib.hid rfl | exact Lib.hid trivial), T + 1, by go_num, by omega, HE⟩
                    case measure => simp [intOf]; omega
                  · have z1 : (x == (id : Int)) = false := by simpa using hxi
                    have HE := Lib.hid (show T = T0 + hit id (ks.take (jj + 1)) by rw [HST.out, if_neg hxi, HT.out]; omega)
                    have HXI := Lib.hid hxi
                    clear hxi
                    go_wp2
                    go_roundw
                    case rel => exact ⟨jj + 1, by omega, by go_num, (by first | exact Lib.hid rfl | exact Lib.hid trivial), T, rfl, by omega, HE⟩
                    case measure => simp [intOf]; omega
                · go_wp2
                  go_roundw
                  case rel =>
                    have hjN : jj = N := by omega
                    have HE : T = tm p r (k + 1) := by
                      rw [← HP.out.tm_succ k, HK.out.1, HT.out, HK.out.2.1, hjN, ← HK.out.2.2, List.take_length]
                    exact ⟨k + 1, by omega, by go_num, by rw [HE], Lib.hid ⟨H6.out.2.2, H6.out.2.1⟩⟩
                  case measure => simp [intOf]; omega
            · obtain rfl : k = n := by omega
              have htm : tm p r k = if r = true then 1 else 0 := by
                have := HP.out.tm_all
                rw [HG.out.2] at this
                exact this
              rw [htm]
              clear htm
              obtain ⟨rk, hrk, hrb⟩ := HG.out.1.pg.bounded
              rw [Good.ps_length, HG.out.2] at hrb
              have HRK := Lib.hid (And.intro hrk hrb)
              have hid1 : id < k := hlt
              clear hrk hrb
              cases r
              all_goals
                simp only [Bool.false_eq_true, if_false, if_true, Int.natCast_zero, Int.natCast_one]
                go_wp2
                obtain ⟨w8, hw8⟩ : ∃ w8, w8 = wr := ⟨_, rfl⟩
                subst hw8
                go_loopw [15, 16, 17, 18] (fun u i _ _ wr => ∃ (x j : Nat), x < k ∧ j ≤ k ∧ u = i64 x ∧ i = i64 j ∧ Hid (rk x + j < k) ∧ Hid (w8 = wr)) (fun _ i _ _ _ => k + 1 - (intOf i).toNat)
                case atStart => exact ⟨id, 0, hid1, Nat.zero_le _, rfl, rfl, Lib.hid (HRK.out.2 id hid1), Lib.hid rfl⟩
                case round =>
                  obtain ⟨x, j, hx, hj, rfl, rfl, HJ, HW⟩ := hrel
                  obtain rfl := HW.out
                  have hjk : j < k := by have := HJ.out; omega
                  obtain ⟨p2, r2, hp2⟩ := parF HG.out.1 (by rw [HG.out.2]; exact hx : x < S.l.length)
                  have HP2 := Lib.hid hp2
                  have z0 : decide ((j : Int) ≤ (k : Int)) = true := by simp; omega
                  have z1 : ((j : Int) == (k : Int)) = false := by simp; omega
                  clear hp2
                  cases hr2 : r2
                  case false =>
                    subst hr2
                    go_wp2_with (first
                      | (go_at_call 22; (with_reducible refine (par_ar HQ.out.2 HP2.out.is).mono ?_); rintro e w' ⟨rfl, rfl⟩))
                    go_roundw
                    case rel => exact ⟨id + 1, by omega, by go_num, HQ⟩
                    case measure => simp [intOf]; omega
                  case true =>
                    subst hr2
                    obtain ⟨y, rfl, hyk, hyx⟩ := HP2.out.yes rfl
                    rw [HG.out.2] at hyk
                    have HY : Hid (rk y < rk x) := by
                      obtain ⟨x', h1, h2, _⟩ := Good.kid_par hyx
                      obtain rfl : x = x' := by omega
                      exact Lib.hid (HRK.out.1 _ _ h2)
                    clear hyx
                    go_wp2_with (first
                      | (go_at_call 22; (with_reducible refine (par_ar HQ.out.2 HP2.out.is).mono ?_); rintro e w' ⟨rfl, rfl⟩))
                    go_roundw
                    case rel => exact ⟨y, j + 1, hyk, by omega, rfl, by go_num, Lib.hid (by have := HJ.out; have := HY.out; omega), (by first | exact Lib.hid rfl | exact Lib.hid trivial)⟩
                    case measure => simp [intOf]; omega
        · go_wp2_with (first
            | (go_at_call 10; refine (three_any _).mono ?_; rintro e w3 ⟨rfl, h3⟩; have H3 := Lib.hid h3; clear h3))
          go_ret
          exact ⟨rfl, HI.out.1.trans (H3.out.mono HI.out.1.size)⟩

theorem once_all {w : World} {v : Value} {l : List Stp} (h : StepsAt w v l) : Calls Try.prog 6 #[v] w fun e w' => e = .returned (.bool true) ∧ Below w.heap.size w w' := by
  cases hl : longB l
  · exact once_main h hl
  · exact once_long h hl
section
open Go.ChangeShapes Go.WideShapes Go.Deep
theorem open_stepsT {H : Type} {enc : TypeId × Value → H} {W : World} {spare : Nat → Bool} {held : Bool} {v : Value} {d : DataW H} {ps : List MemPlace}
    {r : Reach} {b0 : Nat} (hv : Value.okWide Try.prog W r b0 44 v) (h : DataW.Trod enc Try.prog W 0 spare held 44 v d ps) :
    ∃ l : List Stp, StepsAt W v l ∧ True := by
  obtain ⟨l, hl⟩ : ∃ l : List Stp, StepsAt W v l := open_steps hv h
  exact ⟨l, hl, trivial⟩
end

namespace arenaOnce
open Go.ChangeShapes Go.WideShapes Go.ChangeAt Go.RowKit Go.Joins Go.Deep
open Go.ChangeMaps (open_string shut_string)
set_option linter.unusedVariables false
set_option maxRecDepth 100000 in
theorem lifted (os : Os) (started : os.Started) (H : Type) (enc : TypeId × Value → H) :
    ReturnsInHanded {} Try.checked os 6 .any (Rows.arenaOnceSpec.pre6 enc Try.prog Try.f6 Rows.arenaOnceRow.domain false) (Rows.arenaOnceSpec.post enc Try.prog Try.f6 false true false false) := by
  refine returnsInHanded_of_change_sized (C := Try.checked) own started (by kernel_rfl) Try.func6
    (ChangeSpec.witness6 (enc := enc) (C := Try.checked) false ⟨#[], #[.slice none 0 0], []⟩ 8 (by kernel_rfl) (by kernel_rfl) (by kernel_rfl) (by kernel_rfl)) ?_
  intro W base args ds gs before hval0 hW hcnd hsz0 _
  have hval : ∀ (j : Nat) t v, Try.f6.params[j]? = some t → args[j]? = some v → Value.okWide Try.prog W .any base t v := hval0
  have hW' := hW
  obtain ⟨p, q, hA0, hV, rfl, hfz, hnd⟩ := hW
  have hA : DataW.TrodAll enc Try.prog W 0 (fun _ => true) true Try.f6.params.toList args.toList ds p := hA0
  rw [Try.params6] at hA hval
  obtain ⟨v0, vs0, d0, ds0, p0, q0, hargs, rfl, rfl, h0, r0⟩ := trodAll_cons hA
  obtain ⟨rfl, rfl, rfl⟩ := trodAll_nil r0
  obtain rfl : args = #[v0] := by cases args; simp_all
  obtain ⟨rfl, rfl⟩ := trodVars_none hV
  have h0k := h0
  have hlt0 : ∀ x ∈ p0, x.block < W.heap.size := fun x hx => by simpa using hW'.lt x (by simp [hx])
  obtain ⟨l0, hl0, hw0⟩ := open_stepsT (hval 0 44 v0 rfl rfl) h0
  clear hA0 hval0 hsz0
  refine (once_all hl0).mono fun e W' ⟨he, bel⟩ => ?_
  subst he
  exact ⟨_, rfl, _, _, _, [], _, [], hW', trodAll_mk1 (shut_bool Try.underlying4 _), (trodAll_cons_mk (Below.trod laid (by kernel_rfl) (of_decide_eq_true (by kernel_rfl)) h0k bel hlt0) trodAll_mk0), rfl, bel.frame _, fun h => by cases h⟩
theorem over : Rows.arenaOnceRow.holds Try.pinned (OpenSpec.ofChange Rows.arenaOnceSpec) :=
  OpenClaim.holds_of_wide 6 Try.f6 rfl rfl rfl rfl rfl rfl rfl ⟨rfl, rfl, rfl, rfl, rfl⟩ rfl rfl rfl rfl rfl (by kernel_rfl) Try.func6 (by kernel_rfl)
    (of_decide_eq_true (by kernel_rfl)) (by unfold Func.isWrapper; first | (rw [if_pos (by decide +kernel)]; kernel_rfl) | (rw [if_neg (by decide +kernel)]; exact ⟨rfl, rfl⟩))
    (fun os started H enc _ => lifted os started H enc)
end arenaOnce
/-- The row: whatever the input, true. -/
theorem arenaOnce_holds : Rows.ArenaOnceSaid := arenaOnce.over

end Go.Proofs.Ytdeogkjihmaniaa
