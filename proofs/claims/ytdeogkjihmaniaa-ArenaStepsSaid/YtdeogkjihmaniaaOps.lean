/-
  Append, Before, Detach of an arena over the plain model, walked.
  Written by an AI agent.
-/
import Derived.Test.YtdeogkjihmaniaaModel
namespace Go.Proofs.Ytdeogkjihmaniaa
open Go.RowKit

namespace St
def is (S : St) (id : Int) : Bool := decide (0 ≤ id) && decide (id < S.l.length)
def get (S : St) (id : Int) : Option Nd := if 0 ≤ id then S.l[id.toNat]? else none
def elem (S : St) (id : Int) : Bool := match S.get id with
  | some nd => decide (nd.kind = 1)
  | none => false
def free (S : St) (id p : Int) : Bool := !decide (id = 0) && decide (parN S.ps id = -1) && !und S.ps p id
def app (S : St) (p id : Int) : Int × St :=
  if S.elem p && S.is id then if S.free id p then (0, S.put S.row.length id.toNat p) else (7, S) else (1, S)
def bef (S : St) (next id : Int) : Int × St :=
  if S.is next && S.is id then if !decide (parN S.ps next = -1) && S.free id next then (0, S.put (S.row.idxOf next) id.toNat (parN S.ps next)) else (7, S) else (1, S)
def det (S : St) (id : Int) : Int × St :=
  if S.is id then if parN S.ps id = -1 then (7, S) else (0, S.loosen id.toNat) else (1, S)
end St

theorem Mod.is {l : List It} {S : St} (m : Mod l S) (id : Int) : isB l id = S.is id := by unfold isB St.is; rw [m.len]
theorem Mod.elem {l : List It} {S : St} (m : Mod l S) (id : Int) : elemB l id = S.elem id := by
  unfold elemB St.elem St.get getI
  by_cases h : 0 ≤ id
  · rw [if_pos h, if_pos h, ← m.nd, List.getElem?_map]
    cases l[id.toNat]? <;> rfl
  · rw [if_neg h, if_neg h]
theorem St.is_nat {S : St} {id : Int} (h : S.is id = true) : ∃ k : Nat, id = k ∧ k < S.l.length := by
  unfold St.is at h
  simp only [Bool.and_eq_true, decide_eq_true_eq] at h
  exact ⟨id.toNat, by omega, by omega⟩
theorem St.elem_nat {S : St} {id : Int} (h : S.elem id = true) : ∃ (k : Nat) (nd : Nd), id = k ∧ k < S.l.length ∧ S.l[k]? = some nd ∧ nd.kind = 1 := by
  unfold St.elem St.get at h
  by_cases h0 : 0 ≤ id
  · rw [if_pos h0] at h
    cases hk : S.l[id.toNat]? with
    | none => rw [hk] at h; cases h
    | some nd =>
      rw [hk] at h
      exact ⟨id.toNat, nd, by omega, (List.getElem?_eq_some_iff.1 hk).1, hk, by simpa using h⟩
  · rw [if_neg h0] at h
    cases h
theorem St.elem_is {S : St} {id : Int} (h : S.elem id = true) : S.is id = true := by
  obtain ⟨k, nd, rfl, h1, _⟩ := St.elem_nat h
  unfold St.is
  simp; omega
theorem Mod.free {l : List It} {S : St} (m : Mod l S) {id : Nat} (p : Nat) (h : id < S.l.length) : freeB l id p = S.free id p := by
  obtain ⟨e, he⟩ := m.ex h
  unfold freeB St.free
  rw [he]
  dsimp only
  rw [m.ps, parN_get (m.par he)]
  have : decide (id = 0) = decide ((id : Int) = 0) := by
    by_cases h0 : id = 0
    · subst h0; rfl
    · rw [decide_eq_false h0, decide_eq_false (by omega)]
  rw [this]

/-- What a method leaves. -/
def ArIt (B a : Nat) (l : List It) (r : Int × St) (w : World) (e : Ending) (w' : World) : Prop :=
  e = .returned (i64 r.1) ∧ ∃ v l', ArenaAt w' B a v l' ∧ Went B l w l' w' ∧ Mod l' r.2
theorem ArIt.same {B a : Nat} {l : List It} {r : Int} {S : St} {w : World} {v : Value} (h : ArenaAt w B a v l) (m : Mod l S) : ArIt B a l (r, S) w (.returned (i64 r)) w := ⟨rfl, v, l, h, Went.refl _ _ _, m⟩

theorem app_bad {w : World} {B a : Nat} {p id : Int} {v : Value} {l : List It} {S : St} (h : ArenaAt w B a v l) (m : Mod l S) (hb : (S.elem p && S.is id) = false) : Calls Try.prog 15 #[ptr a, i64 p, i64 id] w (ArIt B a l (1, S) w) := by
  have he := m.elem p
  have hi := m.is id
  cases h1 : S.elem p with
  | false =>
    rw [h1] at he
    have H := Lib.hid (And.intro h (And.intro m he))
    clear h m he hi h1 hb
    go_enter Try.func15, Try.ntmps15
    go_wp2_with (first
      | (go_at_call 32; (with_reducible refine (element_any H.out.1 H.out.2.2).mono ?_); rintro e w1 ⟨rfl, rfl⟩))
    go_ret
    exact ArIt.same H.out.1 H.out.2.1
  | true =>
    rw [h1] at he hb
    rw [Bool.true_and] at hb
    rw [hb] at hi
    have H := Lib.hid (And.intro h (And.intro m (And.intro he hi)))
    clear h m he hi h1 hb
    go_enter Try.func15, Try.ntmps15
    go_wp2_with (first
      | (go_at_call 32; (with_reducible refine (element_any H.out.1 H.out.2.2.1).mono ?_); rintro e w1 ⟨rfl, rfl⟩)
      | (go_at_call 35; (with_reducible refine (is_any H.out.1 H.out.2.2.2).mono ?_); rintro e w1 ⟨rfl, rfl⟩))
    go_ret
    exact ArIt.same H.out.1 H.out.2.1

theorem St.free_parts {S : St} (g : Good S) {id p : Nat} (hid : id < S.l.length) (hp : p < S.l.length) (h : S.free id p = true) : S.ps[id]? = some (-1) ∧ id ≠ 0 ∧ ¬ Und S.ps id p := by
  unfold St.free at h
  simp only [Bool.and_eq_true, Bool.not_eq_true', decide_eq_false_iff_not, decide_eq_true_eq] at h
  obtain ⟨⟨h1, h2⟩, h3⟩ := h
  refine ⟨?_, by omega, fun hu => ?_⟩
  · obtain ⟨q, hq⟩ : ∃ q, S.ps[id]? = some q := ⟨_, List.getElem?_eq_getElem (by rw [Good.ps_length]; exact hid)⟩
    rw [parN_get hq] at h2
    rw [hq, h2]
  · rw [(und_iff g.pg (by rw [Good.ps_length]; exact hp)).2 hu] at h3
    cases h3

theorem app_good {w : World} {B a : Nat} {p id : Nat} {v : Value} {l : List It} {S : St} (h : ArenaAt w B a v l) (m : Mod l S) (g : Good S) (he : S.elem p = true) (hi : S.is id = true) : Calls Try.prog 15 #[ptr a, i64 p, i64 id] w (ArIt B a l (if S.free id p then (0, S.put S.row.length id p) else (7, S)) w) := by
  obtain ⟨p', nd, hpp, hpl, _, _⟩ := St.elem_nat he
  obtain ⟨id', hii, hil⟩ := St.is_nat hi
  obtain rfl : p = p' := Int.ofNat.inj hpp
  obtain rfl : id = id' := Int.ofNat.inj hii
  obtain ⟨ep, hep⟩ := m.ex hpl
  have he' := (m.elem p).trans he
  have hi' := (m.is id).trans hi
  have hf := m.free p hil
  have hpg : PGood (parsI l) := by rw [m.ps]; exact g.pg
  have hlp : p < l.length := by rw [m.len]; exact hpl
  have hli : id < l.length := by rw [m.len]; exact hil
  cases hfr : S.free id p with
  | false =>
    rw [hfr] at hf
    have H := Lib.hid (And.intro h (And.intro m (And.intro he' (And.intro hi' (And.intro hpg (And.intro hlp (And.intro hli hf)))))))
    clear h m g he hi hpl hil hep he' hi' hf hpg hfr hpp hii hlp hli
    go_enter Try.func15, Try.ntmps15
    go_wp2_with (first
      | (go_at_call 32; (with_reducible refine (element_any H.out.1 H.out.2.2.1).mono ?_); rintro e w1 ⟨rfl, rfl⟩)
      | (go_at_call 35; (with_reducible refine (is_any H.out.1 H.out.2.2.2.1).mono ?_); rintro e w1 ⟨rfl, rfl⟩)
      | (go_at_call 36; (with_reducible refine (free_any H.out.1 H.out.2.2.2.2.1 H.out.2.2.2.2.2.2.1 H.out.2.2.2.2.2.1 H.out.2.2.2.2.2.2.2).mono ?_); rintro e w1 ⟨rfl, rfl⟩))
    go_ret
    exact ArIt.same H.out.1 H.out.2.1
  | true =>
    rw [hfr] at hf
    obtain ⟨f1, f2, f3⟩ := St.free_parts g hil hpl hfr
    obtain ⟨ad, c, rfl, hlc, hc9, hrr⟩ := h.form
    obtain ⟨gg, rfl, hgB, hgs, hc⟩ := hrr (fun e => by rw [e] at hep; simp at hep)
    have c0 := h.blk.cell 0 (.slice (some ⟨gg, 0, none⟩) l.length c) rfl
    obtain ⟨_, _, _, _, _, _, _, d7⟩ := hc p ep hep
    obtain ⟨kad, kc, hkv⟩ := (h.its ep (List.mem_of_getElem? hep)).kform
    obtain ⟨mm, hmm⟩ : ∃ mm, ep.kids.length = mm := ⟨_, rfl⟩
    have hfew : mm < 1000000 := by
      rw [← hmm, m.kids p ep hep]
      have := g.kids_len p
      omega
    have H := Lib.hid (And.intro h (And.intro m (And.intro he' (And.intro hi' (And.intro hpg (And.intro hlp (And.intro hli hf)))))))
    have G := Lib.hid (And.intro g (And.intro hep (And.intro hmm (And.intro f1 hfew))))
    obtain ⟨n, hn⟩ : ∃ n, l.length = n := ⟨_, rfl⟩
    rw [hkv, hmm] at d7
    rw [hn] at c0 hlc hlp hli
    clear h m g he hi hpl hil hep he' hi' hf hpg hfr hpp hii hrr hc hkv hmm f1 f2 f3 hn
    go_enter Try.func15, Try.ntmps15
    go_wp2_with (first
      | (go_at_call 32; (with_reducible refine (element_any H.out.1 H.out.2.2.1).mono ?_); rintro e w1 ⟨rfl, rfl⟩)
      | (go_at_call 35; (with_reducible refine (is_any H.out.1 H.out.2.2.2.1).mono ?_); rintro e w1 ⟨rfl, rfl⟩)
      | (go_at_call 36; (with_reducible refine (free_any H.out.1 H.out.2.2.2.2.1 H.out.2.2.2.2.2.2.1 H.out.2.2.2.2.2.1 H.out.2.2.2.2.2.2.2).mono ?_); rintro e w1 ⟨rfl, rfl⟩)
      | (go_at_call 37; (with_reducible refine (put_any (at_ := mm) H.out.1 G.out.2.1 H.out.2.2.2.2.2.2.1 (by rw [G.out.2.2.1]; exact Nat.le_refl _) (by rw [G.out.2.2.1]; exact hfew)).mono ?_); rintro e w1 ⟨rfl, v1, v3, h1, hw1⟩; have HO := Lib.hid (And.intro h1 hw1); clear h1 hw1))
    go_ret
    refine ⟨rfl, v1, _, HO.out.1, HO.out.2, Mod.put H.out.2.1 G.out.1 G.out.2.1 G.out.2.2.2.1 ?_⟩
    have hid := (List.getElem?_eq_some_iff.1 G.out.2.2.2.1).1
    rw [kids_ins_end hid (G.out.1.loose G.out.2.2.2.1), ← G.out.2.2.1, H.out.2.1.kids p ep G.out.2.1]
    rfl

/-- Append, whatever the numbers. -/
theorem app_any {w : World} {B a : Nat} {p id : Int} {v : Value} {l : List It} {S : St} (h : ArenaAt w B a v l) (m : Mod l S) (g : Good S) : Calls Try.prog 15 #[ptr a, i64 p, i64 id] w (ArIt B a l (S.app p id) w) := by
  unfold St.app
  by_cases hb : (S.elem p && S.is id) = true
  · rw [if_pos hb]
    obtain ⟨he, hi⟩ := (Bool.and_eq_true _ _).mp hb |> (fun h => h)
    obtain ⟨p', _, rfl, _⟩ := St.elem_nat he
    obtain ⟨id', rfl, _⟩ := St.is_nat hi
    exact app_good h m g he hi
  · rw [if_neg hb]
    exact app_bad h m (by simpa using hb)

theorem Good.app {S : St} (g : Good S) (p id : Int) : Good (S.app p id).2 := by
  unfold St.app
  split
  · rename_i hb
    obtain ⟨he, hi⟩ := (Bool.and_eq_true _ _).mp hb |> (fun h => h)
    obtain ⟨p', _, rfl, hp, _⟩ := St.elem_nat he
    obtain ⟨id', rfl, hil⟩ := St.is_nat hi
    split
    · rename_i hf
      obtain ⟨f1, f2, f3⟩ := St.free_parts g hil hp hf
      exact g.put f1 f2 hp f3
    · exact g
  · exact g

/-! ### Detach -/
theorem det_any {w : World} {B a : Nat} {id : Int} {v : Value} {l : List It} {S : St} (h : ArenaAt w B a v l) (m : Mod l S) (g : Good S) : Calls Try.prog 27 #[ptr a, i64 id] w (ArIt B a l (S.det id) w) := by
  unfold St.det
  by_cases hi : S.is id = true
  · rw [if_pos hi]
    obtain ⟨k, rfl, hk⟩ := St.is_nat hi
    obtain ⟨e, he⟩ := m.ex hk
    have hp := m.par he
    rw [parN_get hp]
    by_cases h1 : e.par = -1
    · rw [if_pos h1]
      refine (det_loose h he h1).mono ?_
      rintro e' w' ⟨rfl, rfl⟩
      exact ArIt.same h m
    · rw [if_neg h1]
      rcases g.pg.rng k _ hp with h2 | ⟨p, h2, hpl⟩
      · exact absurd h2 h1
      · rw [Good.ps_length] at hpl
        obtain ⟨ep, hep⟩ := m.ex hpl
        rw [h2] at hp
        have hin : (k : Int) ∈ ep.kids := by rw [m.kids p ep hep]; exact g.mem_kids hp
        refine (det_ok h he h2 hep hin).mono ?_
        rintro e' w' ⟨rfl, v', v3, h3, h4⟩
        exact ⟨rfl, v', _, h3, h4, m.loosen g hep hp⟩
  · rw [if_neg hi]
    refine (det_bad h ((m.is id).trans (by simpa using hi))).mono ?_
    rintro e' w' ⟨rfl, rfl⟩
    exact ArIt.same h m
theorem Good.det {S : St} (g : Good S) (id : Int) : Good (S.det id).2 := by
  unfold St.det
  split
  · split
    · exact g
    · exact g.loosen _
  · exact g

/-! ### Before -/
theorem bef_bad {w : World} {B a : Nat} {p id : Int} {v : Value} {l : List It} {S : St} (h : ArenaAt w B a v l) (m : Mod l S) (hb : (S.is p && S.is id) = false) : Calls Try.prog 28 #[ptr a, i64 p, i64 id] w (ArIt B a l (1, S) w) := by
  have he := m.is p
  have hi := m.is id
  cases h1 : S.is p with
  | false =>
    rw [h1] at he
    have H := Lib.hid (And.intro h (And.intro m he))
    clear h m he hi h1 hb
    go_enter Try.func28, Try.ntmps28
    go_wp2_with (first
      | (go_at_call 35; (with_reducible refine (is_any H.out.1 H.out.2.2).mono ?_); rintro e w1 ⟨rfl, rfl⟩))
    go_ret
    exact ArIt.same H.out.1 H.out.2.1
  | true =>
    rw [h1] at he hb
    rw [Bool.true_and] at hb
    rw [hb] at hi
    have H := Lib.hid (And.intro h (And.intro m (And.intro he hi)))
    clear h m he hi h1 hb
    go_enter Try.func28, Try.ntmps28
    go_wp2_with (first
      | (go_at_call 35; (with_reducible refine (is_any H.out.1 H.out.2.2.1).mono ?_); rintro e w1 ⟨rfl, rfl⟩)
      | (go_at_call 35; (with_reducible refine (is_any H.out.1 H.out.2.2.2).mono ?_); rintro e w1 ⟨rfl, rfl⟩))
    go_ret
    exact ArIt.same H.out.1 H.out.2.1

theorem bef_good {w : World} {B a : Nat} {p id : Nat} {v : Value} {l : List It} {S : St} (h : ArenaAt w B a v l) (m : Mod l S) (g : Good S) (he : S.is p = true) (hi : S.is id = true) :
    Calls Try.prog 28 #[ptr a, i64 p, i64 id] w (ArIt B a l (if !decide (parN S.ps p = -1) && S.free id p then (0, S.put (S.row.idxOf (p : Int)) id (parN S.ps p)) else (7, S)) w) := by
  obtain ⟨p', hpp, hpl⟩ := St.is_nat he
  obtain ⟨id', hii, hil⟩ := St.is_nat hi
  obtain rfl : p = p' := Int.ofNat.inj hpp
  obtain rfl : id = id' := Int.ofNat.inj hii
  obtain ⟨e, hep⟩ := m.ex hpl
  have he' := (m.is p).trans he
  have hi' := (m.is id).trans hi
  have hf := m.free p hil
  have hpg : PGood (parsI l) := by rw [m.ps]; exact g.pg
  have hlp : p < l.length := by rw [m.len]; exact hpl
  have hli : id < l.length := by rw [m.len]; exact hil
  have hpar := m.par hep
  rw [parN_get hpar]
  obtain ⟨ad, c, rfl, hlc, hc9, hrr⟩ := h.form
  obtain ⟨gg, rfl, hgB, hgs, hc⟩ := hrr (fun e => by rw [e] at hep; simp at hep)
  have c0 := h.blk.cell 0 (.slice (some ⟨gg, 0, none⟩) l.length c) rfl
  obtain ⟨_, _, _, _, _, _, d6, _⟩ := hc p e hep
  obtain ⟨n, hn⟩ : ∃ n, l.length = n := ⟨_, rfl⟩
  obtain ⟨q, hq⟩ : ∃ q, e.par = q := ⟨_, rfl⟩
  rw [hq] at d6 hpar ⊢
  by_cases hq1 : q = -1
  · subst hq1
    have H := Lib.hid (And.intro h (And.intro m (And.intro he' hi')))
    rw [hn] at c0 hlc hlp hli
    clear h m g he hi hpl hil hep he' hi' hf hpg hpp hii hrr hc hn hq hpar
    go_enter Try.func28, Try.ntmps28
    go_wp2_with (first
      | (go_at_call 35; (with_reducible refine (is_any H.out.1 H.out.2.2.1).mono ?_); rintro e w1 ⟨rfl, rfl⟩)
      | (go_at_call 35; (with_reducible refine (is_any H.out.1 H.out.2.2.2).mono ?_); rintro e w1 ⟨rfl, rfl⟩))
    go_ret
    exact ArIt.same H.out.1 H.out.2.1
  · have z1 : (q == -1) = false := by simpa using hq1
    rw [decide_eq_false hq1]
    cases hfr : S.free id p with
    | false =>
      rw [hfr] at hf
      have H := Lib.hid (And.intro h (And.intro m (And.intro he' (And.intro hi' (And.intro hpg (And.intro hlp (And.intro hli hf)))))))
      rw [hn] at c0 hlc hlp hli
      clear h m g he hi hpl hil hep he' hi' hf hpg hfr hpp hii hrr hc hn hq hpar hq1
      go_enter Try.func28, Try.ntmps28
      go_wp2_with (first
        | (go_at_call 35; (with_reducible refine (is_any H.out.1 H.out.2.2.1).mono ?_); rintro e w1 ⟨rfl, rfl⟩)
        | (go_at_call 35; (with_reducible refine (is_any H.out.1 H.out.2.2.2.1).mono ?_); rintro e w1 ⟨rfl, rfl⟩)
        | (go_at_call 36; (with_reducible refine (free_any H.out.1 H.out.2.2.2.2.1 H.out.2.2.2.2.2.2.1 H.out.2.2.2.2.2.1 H.out.2.2.2.2.2.2.2).mono ?_); rintro e w1 ⟨rfl, rfl⟩))
      go_ret
      exact ArIt.same H.out.1 H.out.2.1
    | true =>
      rw [hfr] at hf
      obtain ⟨f1, f2, f3⟩ := St.free_parts g hil hpl hfr
      obtain ⟨pp, hqp, hppl⟩ : ∃ pp : Nat, q = pp ∧ pp < S.l.length := by
        rcases g.pg.rng p q hpar with h2 | ⟨pp, h2, h3⟩
        · exact absurd h2 hq1
        · exact ⟨pp, h2, by rw [← Good.ps_length]; exact h3⟩
      subst hqp
      obtain ⟨ep, hepp⟩ := m.ex hppl
      have hin : (p : Int) ∈ ep.kids := by rw [m.kids pp ep hepp]; exact g.mem_kids hpar
      have hlt : ep.kids.idxOf (p : Int) < ep.kids.length := List.idxOf_lt_length_iff.2 hin
      obtain ⟨at_, hat⟩ : ∃ at_, ep.kids.idxOf (p : Int) = at_ := ⟨_, rfl⟩
      have hfew : ep.kids.length < 1000000 := by
        rw [m.kids pp ep hepp]
        have := g.kids_len pp
        omega
      have H := Lib.hid (And.intro h (And.intro m (And.intro he' (And.intro hi' (And.intro hpg (And.intro hlp (And.intro hli hf)))))))
      have G := Lib.hid (And.intro g (And.intro hep (And.intro hq (And.intro hepp (And.intro hin (And.intro hat (And.intro (show at_ ≤ ep.kids.length by omega) (And.intro hfew (And.intro f1 hpar)))))))))
      rw [hn] at c0 hlc hlp hli
      clear h m g he hi hpl hil hep he' hi' hf hpg hfr hpp hii hrr hc hn hq hpar hq1 hepp hin hat hlt hfew f1 f2 f3
      go_enter Try.func28, Try.ntmps28
      go_wp2_with (first
        | (go_at_call 35; (with_reducible refine (is_any H.out.1 H.out.2.2.1).mono ?_); rintro e w1 ⟨rfl, rfl⟩)
        | (go_at_call 35; (with_reducible refine (is_any H.out.1 H.out.2.2.2.1).mono ?_); rintro e w1 ⟨rfl, rfl⟩)
        | (go_at_call 36; (with_reducible refine (free_any H.out.1 H.out.2.2.2.2.1 H.out.2.2.2.2.2.2.1 H.out.2.2.2.2.2.1 H.out.2.2.2.2.2.2.2).mono ?_); rintro e w1 ⟨rfl, rfl⟩)
        | (go_at_call 49; (with_reducible refine (place_any H.out.1 G.out.2.1 G.out.2.2.1 G.out.2.2.2.1).mono ?_); rintro e w1 ⟨rfl, rfl⟩; rw [idxZ_mem G.out.2.2.2.2.1, G.out.2.2.2.2.2.1])
        | (go_at_call 37; (with_reducible refine (put_any (at_ := at_) H.out.1 G.out.2.2.2.1 H.out.2.2.2.2.2.2.1 G.out.2.2.2.2.2.2.1 G.out.2.2.2.2.2.2.2.1).mono ?_); rintro e w1 ⟨rfl, v1, v3, h1, hw1⟩; have HO := Lib.hid (And.intro h1 hw1); clear h1 hw1))
      go_ret
      obtain ⟨g, hep, hq, hepp, hin, hat, _, _, f1, hpar⟩ := G.out
      refine ⟨rfl, v1, _, HO.out.1, HO.out.2, Mod.put H.out.2.1 g hepp f1 ?_⟩
      have hid := (List.getElem?_eq_some_iff.1 f1).1
      rw [kids_ins_before hid (g.loose f1) (parN_get hpar), ← hat, H.out.2.1.kids pp ep hepp]
      rfl

theorem bef_any {w : World} {B a : Nat} {p id : Int} {v : Value} {l : List It} {S : St} (h : ArenaAt w B a v l) (m : Mod l S) (g : Good S) : Calls Try.prog 28 #[ptr a, i64 p, i64 id] w (ArIt B a l (S.bef p id) w) := by
  unfold St.bef
  by_cases hb : (S.is p && S.is id) = true
  · rw [if_pos hb]
    obtain ⟨he, hi⟩ := (Bool.and_eq_true _ _).mp hb |> (fun h => h)
    obtain ⟨p', rfl, _⟩ := St.is_nat he
    obtain ⟨id', rfl, _⟩ := St.is_nat hi
    exact bef_good h m g he hi
  · rw [if_neg hb]
    exact bef_bad h m (by simpa using hb)

theorem und_par {ps : List Int} {x p id : Nat} (h : ps[x]? = some (p : Int)) (hn : ¬ Und ps id x) : ¬ Und ps id p := fun hu => hn (.up h hu)

theorem Good.bef {S : St} (g : Good S) (p id : Int) : Good (S.bef p id).2 := by
  unfold St.bef
  split
  · rename_i hb
    obtain ⟨he, hi⟩ := (Bool.and_eq_true _ _).mp hb |> (fun h => h)
    obtain ⟨p', rfl, hp⟩ := St.is_nat he
    obtain ⟨id', rfl, hil⟩ := St.is_nat hi
    split
    · rename_i hf
      simp only [Bool.and_eq_true, Bool.not_eq_true', decide_eq_false_iff_not] at hf
      obtain ⟨f1, f2, f3⟩ := St.free_parts g hil hp hf.2
      obtain ⟨q, hq⟩ : ∃ q, S.ps[p']? = some q := ⟨_, List.getElem?_eq_getElem (by rw [Good.ps_length]; exact hp)⟩
      have hq1 := hf.1
      rw [parN_get hq] at hq1
      rcases g.pg.rng p' q hq with h2 | ⟨pp, h2, h3⟩
      · exact absurd h2 hq1
      · subst h2
        show Good (S.put _ id' (parN S.ps p'))
        rw [parN_get hq]
        exact g.put f1 f2 (by rw [← Good.ps_length]; exact h3) (und_par hq f3)
    · exact g
  · exact g

end Go.Proofs.Ytdeogkjihmaniaa
