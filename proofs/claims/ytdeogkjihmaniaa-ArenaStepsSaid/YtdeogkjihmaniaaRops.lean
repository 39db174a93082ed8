/-
  The document's arena: Append, Before, Detach, walked.
  Written by an AI agent.
-/
import Derived.Test.YtdeogkjihmaniaaRloose
namespace Go.Proofs.Ytdeogkjihmaniaa
open Go.RowKit

section
variable {w : World} {B rb : Nat} {vL vR : Value} {l : List Ro} {row : List Int} {S : St}

/-- What a method leaves, its code an integer. -/
abbrev RcIt (B rb : Nat) (vR : Value) (r : Int × St) (w : World) : Ending → World → Prop := RfIt B rb vR (i64 r.1) r.2 w

theorem rapp_bad {p id : Int} (h : RefAt w B rb vL vR l row) (m : RMod l row S) (hb : (S.elem p && S.is id) = false) : Calls Try.prog 42 #[ptr rb, i64 p, i64 id] w (RcIt B rb vR (1, S) w) := by
  cases h1 : S.elem p with
  | false =>
    have H := Lib.hid (And.intro h (And.intro m h1))
    clear h m h1 hb
    go_enter Try.func42, Try.ntmps42
    go_wp2_with (first
      | (go_at_call 53; (with_reducible refine (relem_any H.out.1 H.out.2.1 H.out.2.2).mono ?_); rintro e w1 ⟨rfl, rfl⟩))
    go_ret
    exact RfIt.same H.out.1 H.out.2.1
  | true =>
    rw [h1, Bool.true_and] at hb
    have H := Lib.hid (And.intro h (And.intro m (And.intro h1 hb)))
    clear h m h1 hb
    go_enter Try.func42, Try.ntmps42
    go_wp2_with (first
      | (go_at_call 53; (with_reducible refine (relem_any H.out.1 H.out.2.1 H.out.2.2.1).mono ?_); rintro e w1 ⟨rfl, rfl⟩)
      | (go_at_call 23; (with_reducible refine (ris_any H.out.1 H.out.2.1 H.out.2.2.2).mono ?_); rintro e w1 ⟨rfl, rfl⟩))
    go_ret
    exact RfIt.same H.out.1 H.out.2.1

theorem rapp_good {p id : Nat} (h : RefAt w B rb vL vR l row) (m : RMod l row S) (g : Good S) (he : S.elem p = true) (hi : S.is id = true) : Calls Try.prog 42 #[ptr rb, i64 p, i64 id] w (RcIt B rb vR (if S.free id p then (0, S.put S.row.length id p) else (7, S)) w) := by
  obtain ⟨p', nd, hpp, hpl, _, _⟩ := St.elem_nat he
  obtain ⟨id', hii, hil⟩ := St.is_nat hi
  obtain rfl : p = p' := Int.ofNat.inj hpp
  obtain rfl : id = id' := Int.ofNat.inj hii
  obtain ⟨e, hek, hSe⟩ := m.ex' hil
  obtain ⟨gg, c, rfl, hlc, hc9, hkl, _, _, c0, _, _, _, _, _, _, _, d6⟩ := h.cells hek
  have hpar := ps_get hSe
  unfold St.free
  rw [parN_get hpar]
  obtain ⟨q, hq⟩ : ∃ q, e.nd.par = q := ⟨_, rfl⟩
  obtain ⟨n, hn⟩ : ∃ n, l.length = n := ⟨_, rfl⟩
  obtain ⟨u, hu⟩ : ∃ u, und S.ps p id = u := ⟨_, rfl⟩
  have H := Lib.hid (And.intro h (And.intro m (And.intro he (And.intro hi (And.intro g (And.intro hpl (And.intro hu hil)))))))
  rw [hq] at d6 hpar ⊢
  rw [hu]
  rw [hn] at c0 hlc hkl
  have i3 : (0 : Int) ≤ (id : Int) := by omega
  have i4 : (id : Int) < (n : Int) := by omega
  by_cases h0 : id = 0
  · have z0 : ((id : Int) == 0) = true := by simp; omega
    have z0' : decide ((id : Int) = 0) = true := decide_eq_true (by omega)
    rw [z0']
    clear h m g he hi hpl hil hek hSe hn hq hu hpar hpp hii h0
    go_enter Try.func42, Try.ntmps42
    go_wp2_with (first
      | (go_at_call 53; (with_reducible refine (relem_any H.out.1 H.out.2.1 H.out.2.2.1).mono ?_); rintro e w1 ⟨rfl, rfl⟩)
      | (go_at_call 23; (with_reducible refine (ris_any H.out.1 H.out.2.1 H.out.2.2.2.1).mono ?_); rintro e w1 ⟨rfl, rfl⟩))
    go_ret
    exact RfIt.same H.out.1 H.out.2.1
  · have z0 : ((id : Int) == 0) = false := by simp; omega
    have z0' : decide ((id : Int) = 0) = false := decide_eq_false (by omega)
    rw [z0']
    by_cases hq1 : q = -1
    · subst hq1
      cases u with
      | true =>
        clear h m g he hi hpl hil hek hSe hn hq hu hpar hpp hii h0
        go_enter Try.func42, Try.ntmps42
        go_wp2_with (first
          | (go_at_call 53; (with_reducible refine (relem_any H.out.1 H.out.2.1 H.out.2.2.1).mono ?_); rintro e w1 ⟨rfl, rfl⟩)
          | (go_at_call 23; (with_reducible refine (ris_any H.out.1 H.out.2.1 H.out.2.2.2.1).mono ?_); rintro e w1 ⟨rfl, rfl⟩)
          | (go_at_call 54; (with_reducible refine (rwithin_any H.out.1 H.out.2.1 H.out.2.2.2.2.1 H.out.2.2.2.2.2.1 H.out.2.2.2.2.2.2.1).mono ?_); rintro e w1 ⟨rfl, rfl⟩))
        go_ret
        exact RfIt.same H.out.1 H.out.2.1
      | false =>
        obtain ⟨ra, rc, hv⟩ := own_slice h.rowR
        obtain ⟨rn, hrn⟩ : ∃ rn, row.length = rn := ⟨_, rfl⟩
        have c1 := h.blk.cell 1 vR rfl
        rw [hv, hrn] at c1
        have hrn2 : S.row.length = rn := by rw [← m.row]; exact hrn
        have hl600 := g.row_len
        have HR := Lib.hid (And.intro hrn2 (And.intro hl600 hv))
        simp only [Bool.not_false, decide_true, Bool.and_self, if_true]
        rw [hrn2]
        clear h m g he hi hpl hil hek hSe hn hq hu hpar hpp hii h0 hv hrn hrn2 hl600
        go_enter Try.func42, Try.ntmps42
        go_wp2_with (first
          | (go_at_call 53; (with_reducible refine (relem_any H.out.1 H.out.2.1 H.out.2.2.1).mono ?_); rintro e w1 ⟨rfl, rfl⟩)
          | (go_at_call 23; (with_reducible refine (ris_any H.out.1 H.out.2.1 H.out.2.2.2.1).mono ?_); rintro e w1 ⟨rfl, rfl⟩)
          | (go_at_call 54; (with_reducible refine (rwithin_any H.out.1 H.out.2.1 H.out.2.2.2.2.1 H.out.2.2.2.2.2.1 H.out.2.2.2.2.2.2.1).mono ?_); rintro e w1 ⟨rfl, rfl⟩)
          | (go_at_call 55; (with_reducible refine (rput_any (at_ := rn) H.out.1 H.out.2.1 H.out.2.2.2.2.2.2.2 (by rw [HR.out.1]; exact Nat.le_refl _) (by have := HR.out.2.1; omega)).mono ?_); rintro e w1 ⟨rfl, hx⟩; have HO := Lib.hid hx; clear hx))
        go_ret
        exact ⟨rfl, HO.out⟩
    · have z1 : decide ((0 : Int) ≤ q) = true := by
        rcases g.pg.rng id q hpar with h1 | ⟨pp, h1, _⟩
        · exact absurd h1 hq1
        · exact decide_eq_true (by omega)
      have z2 : decide (q = -1) = false := decide_eq_false hq1
      rw [z2]
      clear h m g he hi hpl hil hek hSe hn hq hu hpar hpp hii h0 hq1
      go_enter Try.func42, Try.ntmps42
      go_wp2_with (first
        | (go_at_call 53; (with_reducible refine (relem_any H.out.1 H.out.2.1 H.out.2.2.1).mono ?_); rintro e w1 ⟨rfl, rfl⟩)
        | (go_at_call 23; (with_reducible refine (ris_any H.out.1 H.out.2.1 H.out.2.2.2.1).mono ?_); rintro e w1 ⟨rfl, rfl⟩))
      go_ret
      exact RfIt.same H.out.1 H.out.2.1

theorem rapp_any {p id : Int} (h : RefAt w B rb vL vR l row) (m : RMod l row S) (g : Good S) : Calls Try.prog 42 #[ptr rb, i64 p, i64 id] w (RcIt B rb vR (S.app p id) w) := by
  unfold St.app
  by_cases hb : (S.elem p && S.is id) = true
  · rw [if_pos hb]
    obtain ⟨he, hi⟩ := (Bool.and_eq_true _ _).mp hb |> (fun h => h)
    obtain ⟨p', _, rfl, _⟩ := St.elem_nat he
    obtain ⟨id', rfl, _⟩ := St.is_nat hi
    exact rapp_good h m g he hi
  · rw [if_neg hb]
    exact rapp_bad h m (by simpa using hb)

/-! ### Detach -/
theorem rdet_any {id : Int} (h : RefAt w B rb vL vR l row) (m : RMod l row S) (g : Good S) : Calls Try.prog 44 #[ptr rb, i64 id] w (RcIt B rb vR (S.det id) w) := by
  unfold St.det
  by_cases hi : S.is id = true
  · rw [if_pos hi]
    obtain ⟨k, rfl, hk⟩ := St.is_nat hi
    obtain ⟨e, hek, hSe⟩ := m.ex' hk
    obtain ⟨gg, c, rfl, hlc, hc9, hkl, _, _, c0, _, _, _, _, _, _, _, d6⟩ := h.cells hek
    have hpar := ps_get hSe
    rw [parN_get hpar]
    obtain ⟨q, hq⟩ : ∃ q, e.nd.par = q := ⟨_, rfl⟩
    obtain ⟨n, hn⟩ : ∃ n, l.length = n := ⟨_, rfl⟩
    rw [hq] at d6 hpar ⊢
    have H := Lib.hid (And.intro h (And.intro m (And.intro hi (And.intro g hk))))
    rw [hn] at c0 hlc hkl
    have i3 : (0 : Int) ≤ (k : Int) := by omega
    have i4 : (k : Int) < (n : Int) := by omega
    by_cases hq1 : q = -1
    · subst hq1
      clear h m g hi hk hek hSe hn hq hpar
      go_enter Try.func44, Try.ntmps44
      go_wp2_with (first
        | (go_at_call 23; (with_reducible refine (ris_any H.out.1 H.out.2.1 H.out.2.2.1).mono ?_); rintro e w1 ⟨rfl, rfl⟩))
      go_ret
      exact RfIt.same H.out.1 H.out.2.1
    · rw [if_neg hq1]
      obtain ⟨pp, hqp, hin⟩ : ∃ pp : Nat, q = pp ∧ (k : Int) ∈ S.row := by
        rcases g.pg.rng k q hpar with h1 | ⟨pp, h1, _⟩
        · exact absurd h1 hq1
        · exact ⟨pp, h1, g.all k pp (by rw [hpar, h1])⟩
      have z1 : decide (q < 0) = false := decide_eq_false (by omega)
      have HI := Lib.hid hin
      rw [Int.toNat_natCast]
      clear h m g hi hk hek hSe hn hq hpar hq1 hqp hin
      go_enter Try.func44, Try.ntmps44
      go_wp2_with (first
        | (go_at_call 23; (with_reducible refine (ris_any H.out.1 H.out.2.1 H.out.2.2.1).mono ?_); rintro e w1 ⟨rfl, rfl⟩)
        | (go_at_call 57; (with_reducible refine (rloose_any H.out.1 H.out.2.1 H.out.2.2.2.1 H.out.2.2.2.2 HI.out).mono ?_); rintro e w1 ⟨rfl, hx⟩; have HO := Lib.hid hx; clear hx))
      go_ret
      exact ⟨rfl, HO.out⟩
  · rw [if_neg hi]
    have H := Lib.hid (And.intro h (And.intro m (show S.is id = false by simpa using hi)))
    clear h m g hi
    go_enter Try.func44, Try.ntmps44
    go_wp2_with (first
      | (go_at_call 23; (with_reducible refine (ris_any H.out.1 H.out.2.1 H.out.2.2).mono ?_); rintro e w1 ⟨rfl, rfl⟩))
    go_ret
    exact RfIt.same H.out.1 H.out.2.1

/-! ### Before -/
theorem rbef_bad {p id : Int} (h : RefAt w B rb vL vR l row) (m : RMod l row S) (hb : (S.is p && S.is id) = false) : Calls Try.prog 43 #[ptr rb, i64 p, i64 id] w (RcIt B rb vR (1, S) w) := by
  cases h1 : S.is p with
  | false =>
    have H := Lib.hid (And.intro h (And.intro m h1))
    clear h m h1 hb
    go_enter Try.func43, Try.ntmps43
    go_wp2_with (first
      | (go_at_call 23; (with_reducible refine (ris_any H.out.1 H.out.2.1 H.out.2.2).mono ?_); rintro e w1 ⟨rfl, rfl⟩))
    go_ret
    exact RfIt.same H.out.1 H.out.2.1
  | true =>
    rw [h1, Bool.true_and] at hb
    have H := Lib.hid (And.intro h (And.intro m (And.intro h1 hb)))
    clear h m h1 hb
    go_enter Try.func43, Try.ntmps43
    go_wp2_with (first
      | (go_at_call 23; (with_reducible refine (ris_any H.out.1 H.out.2.1 H.out.2.2.1).mono ?_); rintro e w1 ⟨rfl, rfl⟩)
      | (go_at_call 23; (with_reducible refine (ris_any H.out.1 H.out.2.1 H.out.2.2.2).mono ?_); rintro e w1 ⟨rfl, rfl⟩))
    go_ret
    exact RfIt.same H.out.1 H.out.2.1

theorem RefAt.drew (h : RefAt w B rb vL vR l row) : RefAt w.drew B rb vL vR l row := h.below (Below.refl _ _).drew
theorem RfIt.of_drew {r : Value} {e : Ending} {w' : World} (h : RfIt B rb vR r S w.drew e w') : RfIt B rb vR r S w e w' := by
  obtain ⟨h1, vL', vR', l', row', h2, h3, h4⟩ := h
  exact ⟨h1, vL', vR', l', row', h2, h3, (RWent.of_below (Below.refl _ w).drew B vR).trans h4⟩

set_option maxHeartbeats 2000000 in
theorem rbef_good {p id : Nat} (h : RefAt w B rb vL vR l row) (m : RMod l row S) (g : Good S) (he : S.is p = true) (hi : S.is id = true) :
    Calls Try.prog 43 #[ptr rb, i64 p, i64 id] w (RcIt B rb vR (if !decide (parN S.ps p = -1) && S.free id p then (0, S.put (S.row.idxOf (p : Int)) id (parN S.ps p)) else (7, S)) w) := by
  obtain ⟨p', hpp, hpl⟩ := St.is_nat he
  obtain ⟨id', hii, hil⟩ := St.is_nat hi
  obtain rfl : p = p' := Int.ofNat.inj hpp
  obtain rfl : id = id' := Int.ofNat.inj hii
  obtain ⟨e, hek, hSe⟩ := m.ex' hil
  obtain ⟨en, hen, hSn⟩ := m.ex' hpl
  obtain ⟨gg, c, rfl, hlc, hc9, hkl, _, _, c0, _, _, _, _, _, _, _, d6⟩ := h.cells hek
  have hkl2 := (List.getElem?_eq_some_iff.1 hen).1
  have n6 : w.cell? ⟨gg, p * 7 + 6, none⟩ = some (i64 en.nd.par) := by
    obtain ⟨g', c', hv, _, _, _, _, _, _, _, _, _, _, _, _, _, n6⟩ := h.cells hen
    simp only [Value.slice.injEq, Option.some.injEq, Addr.mk.injEq, and_true, true_and] at hv
    obtain ⟨rfl, _⟩ := hv
    exact n6
  have hpar := ps_get hSe
  have hparn := ps_get hSn
  unfold St.free
  rw [parN_get hpar, parN_get hparn]
  obtain ⟨q, hq⟩ : ∃ q, e.nd.par = q := ⟨_, rfl⟩
  obtain ⟨qn, hqn⟩ : ∃ qn, en.nd.par = qn := ⟨_, rfl⟩
  obtain ⟨n, hn⟩ : ∃ n, l.length = n := ⟨_, rfl⟩
  obtain ⟨u, hu⟩ : ∃ u, und S.ps p id = u := ⟨_, rfl⟩
  have H := Lib.hid (And.intro h (And.intro m (And.intro he (And.intro hi (And.intro g (And.intro hpl (And.intro hu hil)))))))
  rw [hq] at d6 hpar ⊢
  rw [hqn] at n6 hparn ⊢
  rw [hu]
  rw [hn] at c0 hlc hkl hkl2
  have i1 : (0 : Int) ≤ (p : Int) := by omega
  have i2 : (p : Int) < (n : Int) := by omega
  have i3 : (0 : Int) ≤ (id : Int) := by omega
  have i4 : (id : Int) < (n : Int) := by omega
  by_cases hqn1 : qn = -1
  · subst hqn1
    simp only [decide_true, Bool.not_true, Bool.false_and, Bool.false_eq_true, if_false]
    clear h m g he hi hpl hil hek hSe hen hSn hn hq hqn hu hpar hparn hpp hii
    go_enter Try.func43, Try.ntmps43
    go_wp2_with (first
      | (go_at_call 23; (with_reducible refine (ris_any H.out.1 H.out.2.1 H.out.2.2.1).mono ?_); rintro e w1 ⟨rfl, rfl⟩) | (go_at_call 23; (with_reducible refine (ris_any H.out.1 H.out.2.1 H.out.2.2.2.1).mono ?_); rintro e w1 ⟨rfl, rfl⟩))
    all_goals go_ret
    all_goals exact RfIt.same H.out.1 H.out.2.1
  · have y1 : decide (qn < 0) = false := by
      rcases g.pg.rng p qn hparn with h1 | ⟨pp, h1, _⟩
      · exact absurd h1 hqn1
      · exact decide_eq_false (by omega)
    have y2 : decide (qn = -1) = false := decide_eq_false hqn1
    rw [y2]
    by_cases h0 : id = 0
    · have z0 : ((id : Int) == 0) = true := by simp; omega
      have z0' : decide ((id : Int) = 0) = true := decide_eq_true (by omega)
      rw [z0']
      clear h m g he hi hpl hil hek hSe hen hSn hn hq hqn hu hpar hparn hpp hii h0 hqn1
      go_enter Try.func43, Try.ntmps43
      go_wp2_with (first
        | (go_at_call 23; (with_reducible refine (ris_any H.out.1 H.out.2.1 H.out.2.2.1).mono ?_); rintro e w1 ⟨rfl, rfl⟩) | (go_at_call 23; (with_reducible refine (ris_any H.out.1 H.out.2.1 H.out.2.2.2.1).mono ?_); rintro e w1 ⟨rfl, rfl⟩))
      all_goals go_ret
      all_goals exact RfIt.same H.out.1 H.out.2.1
    · have z0 : ((id : Int) == 0) = false := by simp; omega
      have z0' : decide ((id : Int) = 0) = false := decide_eq_false (by omega)
      rw [z0']
      by_cases hq1 : q = -1
      · subst hq1
        cases u with
        | true =>
          clear h m g he hi hpl hil hek hSe hen hSn hn hq hqn hu hpar hparn hpp hii h0 hqn1
          go_enter Try.func43, Try.ntmps43
          go_wp2_with (first
            | (go_at_call 23; (with_reducible refine (ris_any H.out.1 H.out.2.1 H.out.2.2.1).mono ?_); rintro e w1 ⟨rfl, rfl⟩) | (go_at_call 23; (with_reducible refine (ris_any H.out.1 H.out.2.1 H.out.2.2.2.1).mono ?_); rintro e w1 ⟨rfl, rfl⟩) | (go_at_call 54; (with_reducible refine (rwithin_any H.out.1 H.out.2.1 H.out.2.2.2.2.1 H.out.2.2.2.2.2.1 H.out.2.2.2.2.2.2.1).mono ?_); rintro e w1 ⟨rfl, rfl⟩))
          all_goals go_ret
          all_goals exact RfIt.same H.out.1 H.out.2.1
        | false =>
          obtain ⟨at_, hat⟩ : ∃ at_, row.idxOf (p : Int) = at_ := ⟨_, rfl⟩
          have hat2 : S.row.idxOf (p : Int) = at_ := by rw [← m.row]; exact hat
          have hle : at_ ≤ S.row.length := by rw [← hat2]; exact List.idxOf_le_length
          have hl600 := g.row_len
          have HR := Lib.hid (And.intro hat (And.intro hle (And.intro (show row.length ≤ 1000000 by rw [m.row]; omega) (show S.row.length ≤ 1000000 by omega))))
          simp only [Bool.not_false, decide_true, Bool.and_self, if_true]
          rw [hat2]
          clear h m g he hi hpl hil hek hSe hen hSn hn hq hqn hu hpar hparn hpp hii h0 hqn1 hat hat2 hle hl600
          go_enter Try.func43, Try.ntmps43
          go_wp2_with (first
            | (go_at_call 23; (with_reducible refine (ris_any H.out.1 H.out.2.1 H.out.2.2.1).mono ?_); rintro e w1 ⟨rfl, rfl⟩) | (go_at_call 23; (with_reducible refine (ris_any H.out.1 H.out.2.1 H.out.2.2.2.1).mono ?_); rintro e w1 ⟨rfl, rfl⟩) | (go_at_call 54; (with_reducible refine (rwithin_any H.out.1 H.out.2.1 H.out.2.2.2.2.1 H.out.2.2.2.2.2.1 H.out.2.2.2.2.2.2.1).mono ?_); rintro e w1 ⟨rfl, rfl⟩))
          go_region_with (first
            | (go_at_call 56; (with_reducible refine (rat_any H.out.1.drew HR.out.1 HR.out.2.2.1).mono ?_); rintro e w1 ⟨rfl, rfl⟩)
            | (go_at_call 55; (with_reducible refine (rput_any (at_ := at_) H.out.1.drew H.out.2.1 H.out.2.2.2.2.2.2.2 HR.out.2.1 HR.out.2.2.2).mono ?_); rintro e w1 ⟨rfl, hx⟩; have HO := Lib.hid hx; clear hx))
          all_goals go_wp2
          all_goals go_ret
          all_goals exact RfIt.of_drew ⟨rfl, HO.out⟩
      · have z1 : decide ((0 : Int) ≤ q) = true := by
          rcases g.pg.rng id q hpar with h1 | ⟨pp, h1, _⟩
          · exact absurd h1 hq1
          · exact decide_eq_true (by omega)
        have z2 : decide (q = -1) = false := decide_eq_false hq1
        rw [z2]
        clear h m g he hi hpl hil hek hSe hen hSn hn hq hqn hu hpar hparn hpp hii h0 hqn1 hq1
        go_enter Try.func43, Try.ntmps43
        go_wp2_with (first
          | (go_at_call 23; (with_reducible refine (ris_any H.out.1 H.out.2.1 H.out.2.2.1).mono ?_); rintro e w1 ⟨rfl, rfl⟩) | (go_at_call 23; (with_reducible refine (ris_any H.out.1 H.out.2.1 H.out.2.2.2.1).mono ?_); rintro e w1 ⟨rfl, rfl⟩))
        all_goals go_ret
        all_goals exact RfIt.same H.out.1 H.out.2.1

theorem rbef_any {p id : Int} (h : RefAt w B rb vL vR l row) (m : RMod l row S) (g : Good S) : Calls Try.prog 43 #[ptr rb, i64 p, i64 id] w (RcIt B rb vR (S.bef p id) w) := by
  unfold St.bef
  by_cases hb : (S.is p && S.is id) = true
  · rw [if_pos hb]
    obtain ⟨he, hi⟩ := (Bool.and_eq_true _ _).mp hb |> (fun h => h)
    obtain ⟨p', rfl, _⟩ := St.is_nat he
    obtain ⟨id', rfl, _⟩ := St.is_nat hi
    exact rbef_good h m g he hi
  · rw [if_neg hb]
    exact rbef_bad h m (by simpa using hb)
end
end Go.Proofs.Ytdeogkjihmaniaa
