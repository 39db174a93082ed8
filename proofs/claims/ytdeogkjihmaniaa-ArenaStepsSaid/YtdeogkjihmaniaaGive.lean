/-
  WordsBefore and Give of an arena, walked.
  Written by an AI agent.
-/
import Derived.Test.YtdeogkjihmaniaaThree
namespace Go.Proofs.Ytdeogkjihmaniaa
open Go.RowKit

theorem wordsB_bad {w : World} {B a : Nat} {p : Int} {v : Value} {l : List It} {S : St} {s : ByteArray} (h : ArenaAt w B a v l) (m : Mod l S) (hb : (S.is p && !decide (s = ⟨#[]⟩)) = false) : Calls Try.prog 30 #[ptr a, i64 p, .string s] w (ArIt B a l (1, S) w) := by
  have he := m.is p
  cases h1 : S.is p with
  | false =>
    rw [h1] at he
    have H := Lib.hid (And.intro h (And.intro m he))
    clear h m he h1 hb
    go_enter Try.func30, Try.ntmps30
    go_wp2_with (first
      | (go_at_call 35; (with_reducible refine (is_any H.out.1 H.out.2.2).mono ?_); rintro e w1 ⟨rfl, rfl⟩))
    go_ret
    exact ArIt.same H.out.1 H.out.2.1
  | true =>
    rw [h1] at he hb
    simp at hb
    subst hb
    have H := Lib.hid (And.intro h (And.intro m he))
    clear h m he h1
    go_enter Try.func30, Try.ntmps30
    go_wp2_with (first
      | (go_at_call 35; (with_reducible refine (is_any H.out.1 H.out.2.2).mono ?_); rintro e w1 ⟨rfl, rfl⟩))
    go_ret
    exact ArIt.same H.out.1 H.out.2.1

theorem nonempty_of {s : ByteArray} (hs : s ≠ ⟨#[]⟩) : s.toList.isEmpty = false := by
  cases hz : s.toList.isEmpty with
  | false => rfl
  | true => exact absurd (empty_of (List.isEmpty_iff.1 hz)) hs

theorem wordsB_good {w : World} {B a : Nat} {p : Nat} {v : Value} {l : List It} {S : St} {s : ByteArray} (h : ArenaAt w B a v l) (m : Mod l S) (g : Good S) (he : S.is p = true) (hs : s ≠ ⟨#[]⟩) (ht : ∀ nd ∈ S.l, nd.text.size + s.size ≤ 9223372036854775807) :
    Calls Try.prog 30 #[ptr a, i64 p, .string s] w (ArIt B a l (if parN S.ps p = -1 then (7, S) else S.write (parN S.ps p).toNat ((S.kids (parN S.ps p)).idxOf (p : Int)) (S.row.idxOf (p : Int)) s) w) := by
  obtain ⟨p', hpp, hpl⟩ := St.is_nat he
  obtain rfl : p = p' := Int.ofNat.inj hpp
  obtain ⟨e, hep⟩ := m.ex hpl
  have he' := (m.is p).trans he
  have hlp : p < l.length := by rw [m.len]; exact hpl
  have hpar := m.par hep
  rw [parN_get hpar]
  obtain ⟨ad, c, rfl, hlc, hc9, hrr⟩ := h.form
  obtain ⟨gg, rfl, hgB, hgs, hc⟩ := hrr (fun e => by rw [e] at hep; simp at hep)
  have c0 := h.blk.cell 0 (.slice (some ⟨gg, 0, none⟩) l.length c) rfl
  obtain ⟨_, _, _, _, _, _, d6, _⟩ := hc p e hep
  obtain ⟨n, hn⟩ : ∃ n, l.length = n := ⟨_, rfl⟩
  obtain ⟨q, hq⟩ : ∃ q, e.par = q := ⟨_, rfl⟩
  have z0 := nonempty_of hs
  rw [hq] at d6 hpar ⊢
  by_cases hq1 : q = -1
  · subst hq1
    rw [if_pos rfl]
    have H := Lib.hid (And.intro h (And.intro m he'))
    rw [hn] at c0 hlc hlp
    clear h m g he hpl hep he' hpp hrr hc hn hq hpar hs ht
    go_enter Try.func30, Try.ntmps30
    go_wp2_with (first
      | (go_at_call 35; (with_reducible refine (is_any H.out.1 H.out.2.2).mono ?_); rintro e w1 ⟨rfl, rfl⟩))
    go_ret
    exact ArIt.same H.out.1 H.out.2.1
  · rw [if_neg hq1]
    have z1 : (q == -1) = false := by simpa using hq1
    obtain ⟨pp, hqp, hppl⟩ : ∃ pp : Nat, q = pp ∧ pp < S.l.length := by
      rcases g.pg.rng p q hpar with h2 | ⟨pp, h2, h3⟩
      · exact absurd h2 hq1
      · exact ⟨pp, h2, by rw [← Good.ps_length]; exact h3⟩
    subst hqp
    obtain ⟨ep, hepp⟩ := m.ex hppl
    have hin : (p : Int) ∈ ep.kids := by rw [m.kids pp ep hepp]; exact g.mem_kids hpar
    have hidx : (S.kids pp).idxOf (p : Int) = ep.kids.idxOf (p : Int) := by rw [m.kids pp ep hepp]
    obtain ⟨at_, hat⟩ : ∃ at_, ep.kids.idxOf (p : Int) = at_ := ⟨_, rfl⟩
    have hcnt : (kidsOf S.ps (S.row.take (S.row.idxOf (p : Int))) pp).length = at_ := by
      rw [← hat, ← hidx]
      unfold St.kids kidsOf
      rw [idxOf_filter (P := fun x => decide (parN S.ps x = (pp : Int))) (by simpa using parN_get hpar)]
    rw [hidx, hat]
    have hpn : ((pp : Int)).toNat = pp := by simp
    rw [hpn]
    have H := Lib.hid (And.intro h (And.intro m (And.intro he' (And.intro g (And.intro hep (And.intro hq (And.intro hepp (And.intro hin (And.intro hat (And.intro hppl (And.intro hcnt ht)))))))))))
    rw [hn] at c0 hlc hlp
    clear h m g he hpl hep he' hpp hrr hc hn hq hpar hs ht hq1 hepp hin hidx hat hcnt hppl hpn
    go_enter Try.func30, Try.ntmps30
    go_wp2_with (first
      | (go_at_call 35; (with_reducible refine (is_any H.out.1 H.out.2.2.1).mono ?_); rintro e w1 ⟨rfl, rfl⟩)
      | (go_at_call 49; (with_reducible refine (place_any H.out.1 H.out.2.2.2.2.1 H.out.2.2.2.2.2.1 H.out.2.2.2.2.2.2.1).mono ?_); rintro e w1 ⟨rfl, rfl⟩; rw [idxZ_mem H.out.2.2.2.2.2.2.2.1, H.out.2.2.2.2.2.2.2.2.1])
      | (go_at_call 33; (with_reducible refine (write_any H.out.1 H.out.2.1 H.out.2.2.2.1 H.out.2.2.2.2.2.2.2.2.2.1 H.out.2.2.2.2.2.2.2.2.2.2.1 H.out.2.2.2.2.2.2.2.2.2.2.2).mono ?_); rintro e w1 ⟨rfl, hq⟩; have HQ := Lib.hid hq; clear hq))
    go_ret
    exact ⟨rfl, HQ.out⟩

theorem wordsB_any {w : World} {B a : Nat} {p : Int} {v : Value} {l : List It} {S : St} {s : ByteArray} (h : ArenaAt w B a v l) (m : Mod l S) (g : Good S) (ht : ∀ nd ∈ S.l, nd.text.size + s.size ≤ 9223372036854775807) :
    Calls Try.prog 30 #[ptr a, i64 p, .string s] w (ArIt B a l (S.wordsB p s) w) := by
  unfold St.wordsB
  by_cases hb : (S.is p && !decide (s = ⟨#[]⟩)) = true
  · rw [if_pos hb]
    simp only [Bool.and_eq_true, Bool.not_eq_true', decide_eq_false_iff_not] at hb
    obtain ⟨p', rfl, _⟩ := St.is_nat hb.1
    exact wordsB_good h m g hb.1 hb.2 ht
  · rw [if_neg hb]
    exact wordsB_bad h m (by simpa using hb)
theorem Good.par_lt {S : St} (g : Good S) {p : Nat} (hp : p < S.l.length) (h : parN S.ps p ≠ -1) : ∃ q : Nat, parN S.ps p = q ∧ S.ps[p]? = some (q : Int) ∧ q < S.l.length := by
  obtain ⟨x, hx⟩ : ∃ x, S.ps[p]? = some x := ⟨_, List.getElem?_eq_getElem (by rw [Good.ps_length]; exact hp)⟩
  rw [parN_get hx] at h ⊢
  rcases g.pg.rng p x hx with h2 | ⟨q, h2, h3⟩
  · exact absurd h2 h
  · exact ⟨q, h2, by rw [hx, h2], by rw [← Good.ps_length]; exact h3⟩
theorem Good.wordsB {S : St} (g : Good S) (p : Int) (s : ByteArray) : Good (S.wordsB p s).2 := by
  unfold St.wordsB
  split
  · rename_i hb
    simp only [Bool.and_eq_true] at hb
    obtain ⟨p', rfl, hp⟩ := St.is_nat hb.1
    split
    · exact g
    · rename_i h1
      obtain ⟨q, h2, _, h3⟩ := g.par_lt hp h1
      rw [h2]
      exact g.write (by simpa using h3) s
  · exact g

/-! ### Give -/
namespace St
def move (S : St) (to : Nat) (k : Int) : St := (S.loosen k.toNat).put (S.loosen k.toNat).row.length k.toNat to
def gives (S : St) (ks : List Int) (to : Nat) : St := ks.foldl (fun S k => S.move to k) S
def give (S : St) (fr to : Int) : Int × St := if S.elem fr && S.elem to then if und S.ps to fr then (7, S) else (0, S.gives (S.kids fr) to.toNat) else (1, S)
end St

theorem und_set_self {ps : List Int} {k x : Nat} {q : Int} (h : Und (ps.set k q) k x) : Und ps k x := by
  induction h with
  | here => exact .here
  | up h1 _ ih =>
    rename_i y p _
    by_cases hy : k = y
    · subst hy; exact .here
    · rw [List.getElem?_set_ne hy] at h1
      exact .up h1 ih
theorem und_set {ps : List Int} {k t x : Nat} {q : Int} (h : Und (ps.set k q) t x) : Und ps t x ∨ Und ps k x := by
  induction h with
  | here => exact .inl .here
  | up h1 _ ih =>
    rename_i y p _
    by_cases hy : k = y
    · subst hy; exact .inr .here
    · rw [List.getElem?_set_ne hy] at h1
      exact ih.imp (.up h1) (.up h1)
theorem und_trans {ps : List Int} {k t x : Nat} (h : Und ps k x) (h2 : Und ps t k) : Und ps t x := by
  induction h with
  | here => exact h2
  | up h1 _ ih => exact .up h1 ih

/-- j kids on. -/
structure GiveR (S : St) (ks : List Int) (fr to j : Nat) (S' : St) : Prop where
  eq : S' = (ks.take j).foldl (fun S k => S.move to k) S
  good : Good S'
  rest : ∀ k ∈ ks.drop j, ∃ n : Nat, k = n ∧ S'.ps[n]? = some (fr : Int)
  und : ¬ Und S'.ps fr to
  len : S'.l.length = S.l.length
theorem GiveR.zero {S : St} {fr to : Nat} (g : Good S) (h : ¬ Und S.ps fr to) : GiveR S (S.kids fr) fr to 0 S := by
  refine ⟨rfl, g, fun k hk => ?_, h, rfl⟩
  rw [List.drop_zero] at hk
  obtain ⟨n, h1, h2, _⟩ := Good.kid_par hk
  exact ⟨n, h1, h2⟩
theorem Good.kid_ne0 {S : St} (g : Good S) {k : Nat} {p : Nat} (h : S.ps[k]? = some (p : Int)) : k ≠ 0 := by
  rintro rfl
  obtain ⟨nd, h1, _, h3⟩ := g.root
  have : S.ps[0]? = some nd.par := by unfold St.ps; rw [List.getElem?_map, h1]; rfl
  rw [this, h3] at h
  injection h
  omega
theorem GiveR.parts {S S' : St} {ks : List Int} {fr to j k : Nat} (h : GiveR S ks fr to j S') (hx : ks[j]? = some (k : Int)) : S'.ps[k]? = some (fr : Int) ∧ k < S'.l.length ∧ (S'.loosen k).ps[k]? = some (-1) ∧ k ≠ 0 ∧ ¬ Und (S'.loosen k).ps k to := by
  have hj := (List.getElem?_eq_some_iff.1 hx).1
  have hm : (k : Int) ∈ ks.drop j := by
    rw [List.drop_eq_getElem_cons hj]
    have := (List.getElem?_eq_some_iff.1 hx).2
    rw [this]; simp
  obtain ⟨n, h1, h2⟩ := h.rest _ hm
  obtain rfl := Int.ofNat.inj h1
  have hkl := (List.getElem?_eq_some_iff.1 h2).1
  refine ⟨h2, by rw [← Good.ps_length]; exact hkl, by rw [loosen_ps, List.getElem?_set_self hkl], h.good.kid_ne0 h2, fun hu => ?_⟩
  rw [loosen_ps] at hu
  exact h.und (und_trans (und_set_self hu) (.up h2 .here))
theorem GiveR.step {S S' : St} {ks : List Int} {fr to j k : Nat} (h : GiveR S ks fr to j S') (hx : ks[j]? = some (k : Int)) (hnd : ks.Nodup) (hto : to < S.l.length) : GiveR S ks fr to (j + 1) (S'.move to k) := by
  obtain ⟨h1, h2, h3, h4, h5⟩ := h.parts hx
  have hj := (List.getElem?_eq_some_iff.1 hx).1
  have hne : to ≠ fr := fun e => h.und (by rw [e]; exact .here)
  have hps : (S'.move to (k : Int)).ps = S'.ps.set k (to : Int) := by
    unfold St.move
    rw [Int.toNat_natCast, put_ps, loosen_ps, List.set_set]
  have hkl : k < S'.ps.length := by rw [Good.ps_length]; exact h2
  refine ⟨?_, ?_, fun x hx' => ?_, fun hu => ?_, ?_⟩
  · rw [List.take_add_one, hx, List.foldl_append, ← h.eq]; rfl
  · unfold St.move
    rw [Int.toNat_natCast]
    refine (h.good.loosen k).put h3 h4 ?_ h5
    show to < (St.setPar S'.l k (-1)).length
    rw [setPar_length, h.len]; exact hto
  · obtain ⟨n, hn1, hn2⟩ := h.rest x (by
      rw [List.drop_eq_getElem_cons hj]
      exact List.mem_cons_of_mem _ hx')
    refine ⟨n, hn1, ?_⟩
    rw [hps, List.getElem?_set_ne (fun e => ?_)]
    · exact hn2
    · subst e
      have hd : (ks.drop j).Nodup := List.Nodup.sublist (List.drop_sublist _ _) hnd
      rw [List.drop_eq_getElem_cons hj] at hd
      have he := (List.getElem?_eq_some_iff.1 hx).2
      rw [he] at hd
      exact (List.nodup_cons.1 hd).1 (by rw [← hn1]; exact hx')
  · rw [hps] at hu
    rcases und_set hu with hu | hu
    · exact h.und hu
    · exact h.und (und_trans hu (.up h1 .here))
  · unfold St.move
    show (St.setPar (St.setPar S'.l _ _) _ _).length = _
    rw [setPar_length, setPar_length, h.len]

theorem Good.give {S : St} (g : Good S) (fr to : Int) : Good (S.give fr to).2 := by
  unfold St.give
  split
  · rename_i hb
    obtain ⟨he, hi⟩ := (Bool.and_eq_true _ _).mp hb |> (fun h => h)
    obtain ⟨f, _, rfl, hf, _⟩ := St.elem_nat he
    obtain ⟨t, _, rfl, htl, _⟩ := St.elem_nat hi
    split
    · exact g
    · rename_i hu
      have hu' : ¬ Und S.ps f t := fun h => hu ((und_iff g.pg (by rw [Good.ps_length]; exact htl)).2 h)
      have hall : ∀ j, ∃ S', GiveR S (S.kids f) f t j S' := by
        intro j
        induction j with
        | zero => exact ⟨S, GiveR.zero g hu'⟩
        | succ j ih =>
          obtain ⟨S', h⟩ := ih
          cases hx : (S.kids f)[j]? with
          | none =>
            have hle := List.getElem?_eq_none_iff.1 hx
            have hd : (S.kids f).drop (j + 1) = (S.kids f).drop j := by rw [List.drop_eq_nil_of_le hle, List.drop_eq_nil_of_le (by omega)]
            have ht : (S.kids f).take (j + 1) = (S.kids f).take j := by rw [List.take_of_length_le hle, List.take_of_length_le (by omega)]
            exact ⟨S', by rw [ht]; exact h.eq, h.good, by rw [hd]; exact h.rest, h.und, h.len⟩
          | some x =>
            obtain ⟨k, rfl, _⟩ := Good.kid_par (List.mem_of_getElem? hx)
            exact ⟨_, h.step hx (nodup_kids _ g.nodup) htl⟩
      obtain ⟨S', h⟩ := hall (S.kids f).length
      have := h.eq
      rw [List.take_length] at this
      show Good (S.gives (S.kids f) ((t : Int)).toNat)
      rw [Int.toNat_natCast]
      unfold St.gives
      rw [← this]
      exact h.good
  · exact g

theorem give_bad {w : World} {B a : Nat} {p id : Int} {v : Value} {l : List It} {S : St} (h : ArenaAt w B a v l) (m : Mod l S) (hb : (S.elem p && S.elem id) = false) : Calls Try.prog 29 #[ptr a, i64 p, i64 id] w (ArIt B a l (1, S) w) := by
  have he := m.elem p
  have hi := m.elem id
  cases h1 : S.elem p with
  | false =>
    rw [h1] at he
    have H := Lib.hid (And.intro h (And.intro m he))
    clear h m he hi h1 hb
    go_enter Try.func29, Try.ntmps29
    go_wp2_with (first
      | (go_at_call 32; (with_reducible refine (element_any H.out.1 H.out.2.2).mono ?_); rintro e w1 ⟨rfl, rfl⟩))
    go_ret
    exact ArIt.same H.out.1 H.out.2.1
  | true =>
    rw [h1] at he hb
    rw [Bool.true_and] at hb
    rw [hb] at hi
    have H := Lib.hid (And.intro h (And.intro m (And.intro he hi)))
    clear h m he hi h1 hb
    go_enter Try.func29, Try.ntmps29
    go_wp2_with (first
      | (go_at_call 32; (with_reducible refine (element_any H.out.1 H.out.2.2.1).mono ?_); rintro e w1 ⟨rfl, rfl⟩)
      | (go_at_call 32; (with_reducible refine (element_any H.out.1 H.out.2.2.2).mono ?_); rintro e w1 ⟨rfl, rfl⟩))
    go_ret
    exact ArIt.same H.out.1 H.out.2.1

/-- Where a node's kids lie. -/
theorem ArenaAt.kidcells {w : World} {B a p : Nat} {v : Value} {l : List It} {S : St} (h : ArenaAt w B a v l) (m : Mod l S) (g : Good S) (hp : p < S.l.length) :
    ∃ gg c n kad kc mm ep, v = .slice (some ⟨gg, 0, none⟩) n c ∧ p < n ∧ n ≤ c ∧ mm ≤ 600 ∧ w.cell? ⟨a, 0, none⟩ = some (.slice (some ⟨gg, 0, none⟩) n c) ∧ w.cell? ⟨gg, p * 8 + 7, none⟩ = some (.slice kad mm kc) ∧ l[p]? = some ep ∧ ep.kids.length = mm ∧ ep.kids = S.kids p := by
  obtain ⟨ep, hep⟩ := m.ex hp
  obtain ⟨ad, c, rfl, hlc, hc9, hrr⟩ := h.form
  obtain ⟨gg, rfl, _, _, hc⟩ := hrr (fun e => by rw [e] at hep; simp at hep)
  obtain ⟨_, _, _, _, _, _, _, d7⟩ := hc p ep hep
  obtain ⟨kad, kc, hkv⟩ := (h.its ep (List.mem_of_getElem? hep)).kform
  rw [hkv] at d7
  exact ⟨gg, c, l.length, kad, kc, ep.kids.length, ep, rfl, (List.getElem?_eq_some_iff.1 hep).1, hlc, by rw [m.kids p ep hep]; exact g.kids_len p, h.blk.cell 0 _ rfl, d7, hep, rfl, m.kids p ep hep⟩

theorem det_move {w : World} {B a k to : Nat} {v : Value} {l : List It} {S S' : St} {ks : List Int} {fr j : Nat} (h : ArenaAt w B a v l) (m : Mod l S') (hg : GiveR S ks fr to j S') (hx : ks[j]? = some (k : Int)) :
    Calls Try.prog 27 #[ptr a, i64 k] w fun e w' => e = .returned (i64 0) ∧ ∃ v' l', ArenaAt w' B a v' l' ∧ Went B l w l' w' ∧ Mod l' (S'.loosen k) := by
  obtain ⟨h1, h2, _⟩ := hg.parts hx
  have hd : S'.det (k : Int) = (0, S'.loosen k) := by
    unfold St.det
    have : S'.is (k : Int) = true := by unfold St.is; simp; omega
    rw [if_pos this, parN_get h1, if_neg (by omega)]
    rfl
  refine (det_any (id := (k : Int)) h m hg.good).mono ?_
  rintro e w' ⟨rfl, v', l', h3, h4, h5⟩
  rw [hd] at h5 ⊢
  exact ⟨rfl, v', l', h3, h4, h5⟩
theorem put_move {w : World} {B a k to mm : Nat} {v : Value} {l : List It} {S S' : St} {ks : List Int} {fr j : Nat} {ep : It} (h : ArenaAt w B a v l) (m : Mod l (S'.loosen k)) (hg : GiveR S ks fr to j S') (hx : ks[j]? = some (k : Int)) (hep : l[to]? = some ep) (hm : ep.kids.length = mm) :
    Calls Try.prog 37 #[ptr a, i64 to, i64 mm, i64 k] w fun e w' => e = .returned (.tuple #[]) ∧ ∃ v' l', ArenaAt w' B a v' l' ∧ Went B l w l' w' ∧ Mod l' (S'.move to k) := by
  obtain ⟨h1, h2, h3, _⟩ := hg.parts hx
  have gl := hg.good.loosen k
  have hkl : k < l.length := by rw [m.len]; show k < (St.setPar S'.l k (-1)).length; rw [setPar_length]; exact h2
  refine (put_any (at_ := mm) h hep hkl (by omega) (by rw [m.kids to ep hep]; have := gl.kids_len to; omega)).mono ?_
  rintro e w' ⟨rfl, v1, v3, h4, h5⟩
  refine ⟨rfl, v1, _, h4, h5, ?_⟩
  unfold St.move
  rw [Int.toNat_natCast]
  refine Mod.put m gl hep h3 ?_
  have hlt := (List.getElem?_eq_some_iff.1 h3).1
  rw [kids_ins_end hlt (gl.loose h3), ← hm, m.kids to ep hep]
  rfl

theorem lt_loosen {S S' : St} {k id : Nat} (h : S'.l.length = S.l.length) (hid : id < S.l.length) : id < (S'.loosen k).l.length := by
  show id < (St.setPar S'.l k (-1)).length
  rw [setPar_length, h]
  exact hid

/-- Where Give stands, j kids on. -/
def GiveIt (B a : Nat) (l : List It) (S : St) (ks : List Int) (fr to : Nat) (w1 : World) (j : Nat) (wr : World) : Prop :=
  ∃ v' l' S', ArenaAt wr B a v' l' ∧ Went B l w1 l' wr ∧ Mod l' S' ∧ GiveR S ks fr to j S'

set_option maxHeartbeats 2000000 in
theorem give_good {w : World} {B a : Nat} {p id : Nat} {v : Value} {l : List It} {S : St} (h : ArenaAt w B a v l) (m : Mod l S) (g : Good S) (he : S.elem p = true) (hi : S.elem id = true) :
    Calls Try.prog 29 #[ptr a, i64 p, i64 id] w (ArIt B a l (if und S.ps id p then (7, S) else (0, S.gives (S.kids p) id)) w) := by
  obtain ⟨p', _, hpp, hpl, _, _⟩ := St.elem_nat he
  obtain ⟨id', _, hii, hil, _, _⟩ := St.elem_nat hi
  obtain rfl : p = p' := Int.ofNat.inj hpp
  obtain rfl : id = id' := Int.ofNat.inj hii
  have he' := (m.elem p).trans he
  have hi' := (m.elem id).trans hi
  have hpg : PGood (parsI l) := by rw [m.ps]; exact g.pg
  have hlp : p < l.length := by rw [m.len]; exact hpl
  have hli : id < l.length := by rw [m.len]; exact hil
  cases hu : und S.ps id p with
  | true =>
    have hu' : und (parsI l) id p = true := by rw [m.ps]; exact hu
    have H := Lib.hid (And.intro h (And.intro m (And.intro he' (And.intro hi' (And.intro hpg (And.intro hli hu'))))))
    clear h m g he hi hpl hil he' hi' hpg hu hpp hii hlp hli hu'
    go_enter Try.func29, Try.ntmps29
    go_wp2_with (first
      | (go_at_call 32; (with_reducible refine (element_any H.out.1 H.out.2.2.1).mono ?_); rintro e w1 ⟨rfl, rfl⟩)
      | (go_at_call 32; (with_reducible refine (element_any H.out.1 H.out.2.2.2.1).mono ?_); rintro e w1 ⟨rfl, rfl⟩)
      | (go_at_call 51; (with_reducible refine (within_any H.out.1 H.out.2.2.2.2.1 H.out.2.2.2.2.2.1 H.out.2.2.2.2.2.2).mono ?_); rintro e w1 ⟨rfl, rfl⟩))
    go_ret
    exact ArIt.same H.out.1 H.out.2.1
  | false =>
    have hu' : und (parsI l) id p = false := by rw [m.ps]; exact hu
    have hund : ¬ Und S.ps p id := fun h => by
      rw [(und_iff g.pg (by rw [Good.ps_length]; exact hil)).2 h] at hu
      cases hu
    have hkI : kidsI l p = S.kids p := by
      obtain ⟨ep, hep⟩ := m.ex hpl
      unfold kidsI
      rw [getI_nat, hep]
      exact m.kids p ep hep
    obtain ⟨ks, hks⟩ : ∃ ks, S.kids p = ks := ⟨_, rfl⟩
    obtain ⟨n, hn⟩ : ∃ n, ks.length = n := ⟨_, rfl⟩
    have hn600 : n ≤ 600 := by rw [← hn, ← hks]; exact g.kids_len p
    obtain ⟨NB, hNB⟩ : ∃ NB, w.heap.size = NB := ⟨_, rfl⟩
    have HNB := Lib.hid hNB
    clear hNB
    have H := Lib.hid (And.intro h (And.intro m (And.intro he' (And.intro hi' (And.intro hpg (And.intro hli hu'))))))
    have G := Lib.hid (And.intro g (And.intro hund (And.intro (hkI.trans hks) (And.intro hks (And.intro hn (And.intro hil hpl))))))
    rw [hks]
    clear h m g he hi hpl hil he' hi' hpg hu hpp hii hlp hli hu' hund hkI hks hn
    go_enter Try.func29, Try.ntmps29
    go_wp2_with (first
      | (go_at_call 32; (with_reducible refine (element_any H.out.1 H.out.2.2.1).mono ?_); rintro e w1 ⟨rfl, rfl⟩)
      | (go_at_call 32; (with_reducible refine (element_any H.out.1 H.out.2.2.2.1).mono ?_); rintro e w1 ⟨rfl, rfl⟩)
      | (go_at_call 51; (with_reducible refine (within_any H.out.1 H.out.2.2.2.2.1 H.out.2.2.2.2.2.1 H.out.2.2.2.2.2.2).mono ?_); rintro e w1 ⟨rfl, rfl⟩)
      | (go_at_call 17; (with_reducible refine (kids_any H.out.1).mono ?_); rintro e w1 ⟨vk, rfl, hown, hbel⟩; rw [G.out.2.2.1, HNB.out] at hown; obtain ⟨kad, kc, rfl⟩ := own_slice hown; have HK := Lib.hid (And.intro hown hbel); clear hown hbel; rw [G.out.2.2.2.2.1] at HK ⊢))
    go_loopw [8, 29] (fun _ i wr => ∃ j : Nat, j ≤ n ∧ i = i64 j ∧ Hid (GiveIt B a l S ks p id w1 j wr) ∧ Hid (wr.ownsRow NB 3 1 (.slice kad n kc) n (ks.map i64))) (fun _ i _ => n - (intOf i).toNat)
    case atStart =>
      refine ⟨0, Nat.zero_le _, rfl, Lib.hid ⟨_, l, S, H.out.1.below HK.out.2, Went.refl _ _ _, H.out.2.1, ?_⟩, Lib.hid HK.out.1⟩
      rw [← G.out.2.2.2.1]
      exact GiveR.zero G.out.1 G.out.2.1
    case round =>
      obtain ⟨j, hj, rfl, HG, HR⟩ := hrel
      by_cases hlt : j < n
      · obtain ⟨x, hx⟩ : ∃ x, ks[j]? = some x := ⟨_, List.getElem?_eq_getElem (by rw [G.out.2.2.2.2.1]; exact hlt)⟩
        obtain ⟨k, rfl, _⟩ : ∃ k : Nat, x = k ∧ True := by
          have : x ∈ S.kids p := by rw [G.out.2.2.2.1]; exact List.mem_of_getElem? hx
          obtain ⟨k, h1, _⟩ := Good.kid_par this
          exact ⟨k, h1, trivial⟩
        obtain ⟨kg, rfl, kcell, hkc⟩ : ∃ kg, kad = some ⟨kg, 0, none⟩ ∧ wr.cell? ⟨kg, j, none⟩ = some (i64 k) ∧ n ≤ kc := by
          rcases HR.out.2 with ⟨_, h0⟩ | ⟨kg, kc', cur, hv, _, _, hnc, _⟩
          · omega
          · simp only [Value.slice.injEq, true_and] at hv
            obtain ⟨rfl, rfl⟩ := hv
            refine ⟨kg, rfl, ?_, hnc⟩
            rw [HR.out.cellAt j (by omega), List.getElem?_map, hx]
            rfl
        obtain ⟨v', l', S', h1, h2, h3, h4⟩ := HG.out
        have HS := Lib.hid (And.intro h1 (And.intro h2 (And.intro h3 (And.intro h4 hx))))
        have i1 : (0 : Int) ≤ (j : Int) := by omega
        have i2 : (j : Int) < (n : Int) := by omega
        have i3 : (0 : Int) ≤ (id : Int) := by omega
        clear h1 h2 h3 h4 hx
        go_wp2_with (first
          | (go_at_call 27; (with_reducible refine (det_move HS.out.1 HS.out.2.2.1 HS.out.2.2.2.1 HS.out.2.2.2.2).mono ?_); rintro e w2 ⟨rfl, v2, l2, h1, h2, h3⟩; obtain ⟨gg, c, nn, kad2, kc2, mm, ep, rfl, hpn, hnc, hmm, a0, a7, hep, hml, _⟩ := h1.kidcells h3 (HS.out.2.2.2.1.good.loosen k) (lt_loosen HS.out.2.2.2.1.len G.out.2.2.2.2.2.1); have i4 : (id : Int) < (nn : Int) := Int.ofNat_lt.2 hpn; have HD := Lib.hid (And.intro h1 (And.intro h2 (And.intro h3 (And.intro hep hml)))); clear h1 h2 h3 hep hml)
          | (go_at_call 37; (with_reducible refine (put_move HD.out.1 HD.out.2.2.1 HS.out.2.2.2.1 HS.out.2.2.2.2 HD.out.2.2.2.1 HD.out.2.2.2.2).mono ?_); rintro e w3 ⟨rfl, v3, l3, h1, h2, h3⟩; have HP := Lib.hid (And.intro h1 (And.intro h2 h3)); clear h1 h2 h3))
        go_roundw
        case rel =>
          have W2 := HS.out.2.1.trans HD.out.2.1
          have hfoot : ∀ {lx : List It} {wx : World}, Went B l w1 lx wx → ∀ q, (Value.slice (some ⟨kg, 0, none⟩) n kc).ownBlock = some q → ¬ foot lx q := fun hw q hq hf => by
            have hkk := HK.out.1.lt q hq
            have hNB := HNB.out
            rcases hw.foot q hf with h | h
            · have := (H.out.1.foot_lt h).2; omega
            · omega
          refine ⟨j + 1, by omega, by go_num, Lib.hid ⟨_, _, _, HP.out.1, W2.trans HP.out.2.1, HP.out.2.2, HS.out.2.2.2.1.step HS.out.2.2.2.2 ?_ G.out.2.2.2.2.2.1⟩, Lib.hid ?_⟩
          · rw [← G.out.2.2.2.1]; exact nodup_kids _ G.out.1.nodup
          · exact HP.out.2.1.own (HD.out.2.1.own HR.out (hfoot HS.out.2.1)) (hfoot W2)
        case measure => simp [intOf]; omega
      · have hjn : j = n := by omega
        obtain ⟨v', l', S', h1, h2, h3, h4⟩ := HG.out
        have hS : S' = S.gives ks id := by
          have := h4.eq
          rw [List.take_of_length_le (by rw [G.out.2.2.2.2.1]; omega)] at this
          exact this
        subst hS
        have HF := Lib.hid (And.intro h1 (And.intro h2 h3))
        clear h1 h2 h3 h4 hjn
        go_wp2
        go_ret
        exact ⟨rfl, _, _, HF.out.1, (Went.of_below HK.out.2 B l).trans HF.out.2.1, HF.out.2.2⟩

theorem give_any {w : World} {B a : Nat} {p id : Int} {v : Value} {l : List It} {S : St} (h : ArenaAt w B a v l) (m : Mod l S) (g : Good S) : Calls Try.prog 29 #[ptr a, i64 p, i64 id] w (ArIt B a l (S.give p id) w) := by
  unfold St.give
  by_cases hb : (S.elem p && S.elem id) = true
  · rw [if_pos hb]
    obtain ⟨he, hi⟩ := (Bool.and_eq_true _ _).mp hb |> (fun h => h)
    obtain ⟨p', _, rfl, _⟩ := St.elem_nat he
    obtain ⟨id', _, rfl, _⟩ := St.elem_nat hi
    exact give_good h m g he hi
  · rw [if_neg hb]
    exact give_bad h m (by simpa using hb)

end Go.Proofs.Ytdeogkjihmaniaa
