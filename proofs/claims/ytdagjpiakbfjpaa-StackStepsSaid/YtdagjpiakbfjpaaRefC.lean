/-
  The document's stack (rectoref09): Find, last, In, Back, To, Remove, walked.
  Written by an AI agent.
-/
import Derived.Test.YtdagjpiakbfjpaaRefB
namespace Go.Proofs.Ytdagjpiakbfjpaa
open Go.RowKit

/-- The place of the last entry of which p is true; -1: there is none. -/
def lastR (p : Ent → Bool) : List Ent → Int
  | [] => -1
  | e :: r => if p e then (r.length : Int) else lastR p r
def lastE (p : Ent → Bool) (es : List Ent) : Int := lastR p es.reverse
theorem lastE_nil (p : Ent → Bool) : lastE p [] = -1 := rfl
theorem lastE_snoc (p : Ent → Bool) (es : List Ent) (e : Ent) : lastE p (es ++ [e]) = if p e then (es.length : Int) else lastE p es := by
  unfold lastE
  rw [List.reverse_append]
  show lastR p (e :: es.reverse) = _
  rw [lastR, List.length_reverse]
theorem findR_last (id : Int) (l : List Ent) : findR id l = lastR (fun e => e.id == id) l := by
  induction l with
  | nil => rfl
  | cons e r ih => rw [findR, lastR, ih]
theorem findE_last (id : Int) (es : List Ent) : findE id es = lastE (fun e => e.id == id) es := findR_last id _
theorem snoc_ind {α : Type} {P : List α → Prop} (h0 : P []) (h1 : ∀ l x, P l → P (l ++ [x])) : ∀ l, P l := by
  intro l
  have : ∀ r : List α, P r.reverse := fun r => by
    induction r with
    | nil => exact h0
    | cons x r ih => rw [List.reverse_cons]; exact h1 _ _ ih
  have := this l.reverse
  rwa [List.reverse_reverse] at this
theorem lastE_bound (p : Ent → Bool) (es : List Ent) : -1 ≤ lastE p es ∧ lastE p es < es.length := by
  refine snoc_ind (P := fun es => -1 ≤ lastE p es ∧ lastE p es < es.length) ⟨by rw [lastE_nil]; omega, by rw [lastE_nil]; simp⟩ (fun l x ih => ?_) es
  rw [lastE_snoc, List.length_append]
  simp only [List.length_cons, List.length_nil]
  split <;> omega
theorem popW_last (p : Ent → Bool) (es : List Ent) : popW (fun e => !p e) es = es.take (lastE p es + 1).toNat := by
  refine snoc_ind (P := fun es => popW (fun e => !p e) es = es.take (lastE p es + 1).toNat) rfl (fun l x ih => ?_) es
  rw [popW_snoc, lastE_snoc]
  have hb := lastE_bound p l
  cases hp : p x
  · simp only [Bool.not_false, if_true, Bool.false_eq_true, if_false]
    rw [ih, List.take_append_of_le_length (by omega)]
  · simp only [Bool.not_true, Bool.false_eq_true, if_false, if_true]
    rw [List.take_of_length_le (by simp)]
theorem inB_snoc (scope : Int) (ns : List ByteArray) (es : List Ent) (e : Ent) : inB scope ns (es ++ [e]) = if isB ns e then true else if endB scope e then false else inB scope ns es := by
  unfold inB
  rw [List.reverse_append]
  rfl
theorem inB_last (scope : Int) (ns : List ByteArray) (es : List Ent) : inB scope ns es = if lastE (isB ns) es < 0 then false else (es.drop (lastE (isB ns) es + 1).toNat).all (fun e => !endB scope e) := by
  refine snoc_ind (P := fun es => inB scope ns es = if lastE (isB ns) es < 0 then false else (es.drop (lastE (isB ns) es + 1).toNat).all (fun e => !endB scope e)) rfl (fun l x ih => ?_) es
  rw [inB_snoc, lastE_snoc]
  have hb := lastE_bound (isB ns) l
  cases hp : isB ns x
  · simp only [Bool.false_eq_true, if_false]
    rw [ih]
    by_cases h0 : lastE (isB ns) l < 0
    · rw [if_pos h0, if_pos h0]
      simp
    · rw [if_neg h0, if_neg h0, List.drop_append_of_le_length (by omega), List.all_append]
      cases hq : endB scope x <;> simp [hq]
  · simp only [if_true]
    rw [if_neg (by omega), List.drop_eq_nil_of_le (by simp)]
    rfl

/-- Where the entries of the document's stack lie. -/
theorem RAt.form {w : World} {B lb : Nat} {v : Value} {es : List Ent} (h : RAt w B lb v es) :
    ∃ ad c, v = .slice ad es.length c ∧ es.length ≤ c ∧ c ≤ 9223372036854775807 ∧ (es ≠ [] → ∃ g, ad = some ⟨g, 0, none⟩ ∧ B ≤ g ∧ g < w.heap.size ∧ ∀ (k : Nat) (e : Ent), es[k]? = some e →
      w.cell? ⟨g, k * 3, none⟩ = some (i64 e.id) ∧ w.cell? ⟨g, k * 3 + 1, none⟩ = some (i64 e.space) ∧ w.cell? ⟨g, k * 3 + 2, none⟩ = some (.string e.name)) := by
  rcases h.2.2.1.2 with ⟨rfl, h0⟩ | ⟨g, cap, cur, rfl, hb, hg, hnc, hm, _, _⟩
  · exact ⟨none, 0, by rw [h0], by omega, by omega, fun hne => absurd (List.length_eq_zero_iff.1 h0) hne⟩
  · unfold maxLen at hm
    refine ⟨_, cap, rfl, hnc, hm, fun _ => ⟨g, rfl, hb, (Array.getElem?_eq_some_iff.1 hg).1, fun k e hk => ?_⟩⟩
    obtain ⟨f0, f1, f2⟩ := flatE_get es k e hk
    have hc := h.2.2.1.cells (g := g) rfl
    have ea : ∀ j, (⟨g, 0, none⟩ : Addr).add j = ⟨g, j, none⟩ := fun j => by unfold Addr.add; split <;> simp_all
    have h0 := hc _ _ f0
    have h1 := hc _ _ f1
    have h2 := hc _ _ f2
    rw [ea] at h0 h1 h2
    exact ⟨h0, h1, h2⟩

set_option maxHeartbeats 1000000 in
theorem rfind_any {w : World} {B rb : Nat} {es : List Ent} {id r : Int} (h : Rf w B rb es) (hr : findE id es = r) : Calls Try.prog 20 #[ptr rb, i64 id] w fun e w' => e = .returned (i64 r) ∧ Below w.heap.size w w' := by
  obtain ⟨v, hst⟩ := h
  obtain ⟨ad, cap, rfl, hnc, hcm, hrr⟩ := hst.form
  obtain ⟨n, hn⟩ : ∃ n, es.length = n := ⟨_, rfl⟩
  have c0 := hst.1.cell 0 (.slice ad es.length cap) rfl
  have hl := hst.2.2.2
  rw [hn] at hnc hl c0
  rw [findE_last] at hr
  have HN := Lib.hid (And.intro hn hr)
  have HR := Lib.hid hrr
  clear hst hn hrr hr
  go_enter Try.func20, Try.ntmps20
  go_wp2
  go_loopw [5, 6, 7, 13] (fun at_ _ _ i wr => ∃ (k : Nat) (x : Int), k ≤ n ∧ i = i64 k ∧ at_ = i64 x ∧ Hid (lastE (fun e => e.id == id) (es.take k) = x) ∧ Hid (Below w.heap.size w wr)) (fun _ _ _ i _ => n - (intOf i).toNat)
  case atStart => exact ⟨0, -1, Nat.zero_le _, rfl, rfl, Lib.hid rfl, Lib.hid (Below.refl _ _)⟩
  case round =>
    obtain ⟨k, x, hk, rfl, rfl, HX, HB⟩ := hrel
    by_cases hlt : k < n
    · obtain ⟨e, he⟩ : ∃ e, es[k]? = some e := ⟨_, List.getElem?_eq_getElem (by rw [HN.out.1]; exact hlt)⟩
      obtain ⟨g, had, _, hg, hc⟩ := HR.out (fun e0 => by rw [e0] at he; simp at he)
      obtain ⟨d0, d1, d2⟩ := hc k e he
      have e0 := (HB.out.cell (p := ⟨g, k * 3, none⟩) hg).trans d0
      have e1 := (HB.out.cell (p := ⟨g, k * 3 + 1, none⟩) hg).trans d1
      have e2 := (HB.out.cell (p := ⟨g, k * 3 + 2, none⟩) hg).trans d2
      have hts : es.take (k + 1) = es.take k ++ [e] := by rw [List.take_add_one, he]; rfl
      have HT : Hid (lastE (fun e => e.id == id) (es.take (k + 1)) = if e.id == id then (k : Int) else x) := Lib.hid (by
        rw [hts, lastE_snoc, HX.out, List.length_take, HN.out.1, Nat.min_eq_left hk])
      obtain ⟨xid, hxid⟩ : ∃ xid, e.id = xid := ⟨_, rfl⟩
      rw [hxid] at e0 HT
      obtain ⟨xs, hxs⟩ : ∃ xs, e.space = xs := ⟨_, rfl⟩
      obtain ⟨xn, hxn⟩ : ∃ xn, e.name = xn := ⟨_, rfl⟩
      rw [hxs] at e1
      rw [hxn] at e2
      have HAD := Lib.hid had
      clear hc he had d0 d1 d2 hts hxid hxs hxn
      rw [HAD.out]
      cases hq : (xid == id)
      · rw [hq] at HT
        go_wp2
        go_roundw
        case rel => exact ⟨k + 1, x, by omega, by go_num, rfl, HT, Lib.hid (HB.out.alloc HB.out.size _)⟩
        case measure => simp [intOf]; omega
      · rw [hq] at HT
        go_wp2
        go_roundw
        case rel => exact ⟨k + 1, k, by omega, by go_num, rfl, HT, Lib.hid (HB.out.alloc HB.out.size _)⟩
        case measure => simp [intOf]; omega
    · have hx : x = r := by
        rw [← HN.out.2, ← HX.out, List.take_of_length_le (by rw [HN.out.1]; omega)]
      subst hx
      go_wp2
      go_ret
      exact ⟨rfl, HB.out⟩

set_option maxHeartbeats 1000000 in
theorem rlast_any {w : World} {B rb : Nat} {es : List Ent} {va : Value} {ns : List ByteArray} {r : Int} (h : Rf w B rb es) (ha : NamesAt w va ns) (hr : lastE (isB ns) es = r) : Calls Try.prog 37 #[ptr rb, va] w fun e w' => e = .returned (i64 r) ∧ Below w.heap.size w w' := by
  obtain ⟨v, hst⟩ := h
  obtain ⟨ad, cap, rfl, hnc, hcm, hrr⟩ := hst.form
  obtain ⟨n, hn⟩ : ∃ n, es.length = n := ⟨_, rfl⟩
  have c0 := hst.1.cell 0 (.slice ad es.length cap) rfl
  have hl := hst.2.2.2
  rw [hn] at hnc hl c0
  have HN := Lib.hid (And.intro hn hr)
  have HR := Lib.hid hrr
  have HA := Lib.hid ha
  obtain ⟨nad, nc, rfl, _, _⟩ := ha
  clear hst hn hrr hr
  go_enter Try.func37, Try.ntmps37
  go_wp2
  go_loopw [5, 6, 7, 13] (fun at_ _ _ i wr => ∃ (k : Nat) (x : Int), k ≤ n ∧ i = i64 k ∧ at_ = i64 x ∧ Hid (lastE (isB ns) (es.take k) = x) ∧ Hid (Below w.heap.size w wr)) (fun _ _ _ i _ => n - (intOf i).toNat)
  case atStart => exact ⟨0, -1, Nat.zero_le _, rfl, rfl, Lib.hid rfl, Lib.hid (Below.refl _ _)⟩
  case round =>
    obtain ⟨k, x, hk, rfl, rfl, HX, HB⟩ := hrel
    by_cases hlt : k < n
    · obtain ⟨⟨xid, xs, xn⟩, he⟩ : ∃ e, es[k]? = some e := ⟨_, List.getElem?_eq_getElem (by rw [HN.out.1]; exact hlt)⟩
      obtain ⟨g, had, _, hg, hc⟩ := HR.out (fun e0 => by rw [e0] at he; simp at he)
      obtain ⟨d0, d1, d2⟩ := hc k _ he
      have e0 := (HB.out.cell (p := ⟨g, k * 3, none⟩) hg).trans d0
      have e1 := (HB.out.cell (p := ⟨g, k * 3 + 1, none⟩) hg).trans d1
      have e2 := (HB.out.cell (p := ⟨g, k * 3 + 2, none⟩) hg).trans d2
      simp only at e0 e1 e2
      have hts : es.take (k + 1) = es.take k ++ [⟨xid, xs, xn⟩] := by rw [List.take_add_one, he]; rfl
      have HT : Hid (lastE (isB ns) (es.take (k + 1)) = if isB ns ⟨xid, xs, xn⟩ then (k : Int) else x) := Lib.hid (by
        rw [hts, lastE_snoc, HX.out, List.length_take, HN.out.1, Nat.min_eq_left hk])
      have HAD := Lib.hid had
      clear hc he had d0 d1 d2 hts
      rw [HAD.out]
      have HB2 := Lib.hid (HB.out.alloc HB.out.size (.cells #[i64 xid, i64 xs, .string xn] 50))
      cases hq : isB ns ⟨xid, xs, xn⟩
      · rw [hq] at HT
        have HQ := Lib.hid hq
        clear hq
        go_wp2_with (first | (go_at_call 46; (with_reducible refine (ris_n (HA.out.below HB2.out) HQ.out).mono ?_); rintro e w1 ⟨rfl, hb1⟩; have H1 := Lib.hid hb1; clear hb1))
        go_roundw
        case rel => exact ⟨k + 1, x, by omega, by go_num, rfl, HT, Lib.hid (HB2.out.trans (H1.out.mono HB2.out.size))⟩
        case measure => simp [intOf]; omega
      · rw [hq] at HT
        have HQ := Lib.hid hq
        clear hq
        go_wp2_with (first | (go_at_call 46; (with_reducible refine (ris_n (HA.out.below HB2.out) HQ.out).mono ?_); rintro e w1 ⟨rfl, hb1⟩; have H1 := Lib.hid hb1; clear hb1))
        go_roundw
        case rel => exact ⟨k + 1, k, by omega, by go_num, rfl, HT, Lib.hid (HB2.out.trans (H1.out.mono HB2.out.size))⟩
        case measure => simp [intOf]; omega
    · have hx : x = r := by
        rw [← HN.out.2, ← HX.out, List.take_of_length_le (by rw [HN.out.1]; omega)]
      subst hx
      go_wp2
      go_ret
      exact ⟨rfl, HB.out⟩

theorem rback_any {w : World} {B rb n : Nat} {es q : List Ent} {va : Value} {ns : List ByteArray} (h : Rf w B rb es) (ha : NamesAt w va ns) (hq : popW (backP ns) es = q) (hn : n + q.length = es.length) :
    Calls Try.prog 34 #[ptr rb, va] w fun e w' => e = .returned (i64 n) ∧ Rf w' B rb q ∧ Fr B RK w w' := by
  have HH := Lib.hid h
  have HA := Lib.hid ha
  obtain ⟨nad, nc, rfl, _, _⟩ := ha
  obtain ⟨v, h⟩ := h
  obtain ⟨ad, c, rfl⟩ := own_slice h.2.2.1
  obtain ⟨m, hm⟩ : ∃ m, es.length = m := ⟨_, rfl⟩
  have c0 := h.1.cell 0 (.slice ad es.length c) rfl
  have hl := h.2.2.2
  rw [hm] at c0 hl hn
  obtain ⟨qn, hqn⟩ : ∃ qn, q.length = qn := ⟨_, rfl⟩
  rw [hqn] at hn
  obtain ⟨r, hr⟩ : ∃ r, lastE (isB ns) es = r := ⟨_, rfl⟩
  have hb := lastE_bound (isB ns) es
  have hpl : popW (backP ns) es = es.take (lastE (isB ns) es + 1).toNat := popW_last (isB ns) es
  rw [hr] at hb hpl
  rw [hm] at hb
  have hqr : r + 1 = (qn : Int) := by
    rw [← hqn, ← hq, hpl, List.length_take, hm]
    omega
  have hw1 : IntKind.i64.wrap (r + 1) = (qn : Int) := by rw [hqr]; exact IntWalk.i64_in _ (by omega)
  have hw2 : IntKind.i64.wrap ((m : Int) - (qn : Int)) = (n : Int) := by rw [IntWalk.i64_in _ (by omega)]; omega
  have HT : Hid (es.take qn = q) := Lib.hid (by rw [← hq, hpl, hqr, Int.toNat_natCast])
  have H := Lib.hid (And.intro hm (And.intro hr (And.intro hqn (And.intro hn (And.intro hqr (And.intro hq (And.intro hpl hl)))))))
  clear h hm hr hqn hn hqr hq hpl hb
  go_enter Try.func34, Try.ntmps34
  go_wp2_with (first
    | (go_at_call 37; (with_reducible refine (rlast_any HH.out HA.out H.out.2.1).mono ?_); rintro e w1 ⟨rfl, hb1⟩; have H1 := Lib.hid hb1; clear hb1)
    | (go_at_call 45; (with_reducible refine (rcut_n (HH.out.below H1.out) rfl (by have := H.out.1; have := H.out.2.2.2.1; omega) HT.out).mono ?_); rintro e w2 ⟨rfl, ⟨v2, h2⟩, hf2⟩; obtain ⟨ad2, c2, rfl⟩ := own_slice h2.2.2.1; have d0 := h2.1.cell 0 (.slice ad2 q.length c2) rfl; rw [H.out.2.2.1] at d0; have H2 := Lib.hid (And.intro h2 hf2); clear h2 hf2))
  go_ret
  exact ⟨rfl, ⟨_, H2.out.1⟩, (Fr.of_below H1.out B RK).trans H2.out.2⟩

theorem rpop_n {w : World} {B rb : Nat} {es q : List Ent} {b : Bool} (h : Rf w B rb es) (hb : topB es = b) (hq : es.dropLast = q) :
    Calls Try.prog 32 #[ptr rb] w fun e w' => e = .returned (.bool b) ∧ Rf w' B rb q ∧ Fr B RK w w' := by
  subst hb hq
  exact rpop_any h

theorem rto_any {w : World} {B rb n : Nat} {es q : List Ent} {va : Value} {ns : List ByteArray} (h : Rf w B rb es) (ha : NamesAt w va ns) (hq : popW (backP ns) es = q) (hn : n + q.dropLast.length = es.length) :
    Calls Try.prog 33 #[ptr rb, va] w fun e w' => e = .returned (i64 n) ∧ Rf w' B rb q.dropLast ∧ Fr B RK w w' := by
  have HH := Lib.hid h
  have HA := Lib.hid ha
  obtain ⟨nad, nc, rfl, _, _⟩ := ha
  obtain ⟨v, h⟩ := h
  obtain ⟨ad, c, rfl⟩ := own_slice h.2.2.1
  obtain ⟨m, hm⟩ : ∃ m, es.length = m := ⟨_, rfl⟩
  have c0 := h.1.cell 0 (.slice ad es.length c) rfl
  have hl := h.2.2.2
  rw [hm] at c0 hl hn
  obtain ⟨qn, hqn⟩ : ∃ qn, q.dropLast.length = qn := ⟨_, rfl⟩
  rw [hqn] at hn
  have hqm : q.length ≤ m := by rw [← hq, ← hm]; exact popW_length _ _
  obtain ⟨d, hd⟩ : ∃ d, d + q.length = m := ⟨m - q.length, by omega⟩
  have hw2 : IntKind.i64.wrap ((m : Int) - (qn : Int)) = (n : Int) := by rw [IntWalk.i64_in _ (by omega)]; omega
  have H := Lib.hid (And.intro hm (And.intro hqn (And.intro hq hd)))
  clear h hm hqn hn hq hqm hd
  go_enter Try.func33, Try.ntmps33
  go_wp2_with (first
    | (go_at_call 34; (with_reducible refine (rback_any (n := d) HH.out HA.out H.out.2.2.1 (by rw [H.out.1]; exact H.out.2.2.2)).mono ?_); rintro e w1 ⟨rfl, h1, hf1⟩; have H1 := Lib.hid (And.intro h1 hf1); clear h1 hf1)
    | (go_at_call 32; (with_reducible refine (rpop_any H1.out.1).mono ?_); rintro e w2 ⟨rfl, ⟨v2, h2⟩, hf2⟩; obtain ⟨ad2, c2, rfl⟩ := own_slice h2.2.2.1; have d0 := h2.1.cell 0 (.slice ad2 q.dropLast.length c2) rfl; rw [H.out.2.1] at d0; have H2 := Lib.hid (And.intro h2 hf2); clear h2 hf2))
  go_ret
  exact ⟨rfl, ⟨_, H2.out.1⟩, H1.out.2.trans H2.out.2⟩

set_option maxHeartbeats 1000000 in
theorem rin_any {w : World} {B rb : Nat} {es : List Ent} {scope : Int} {va : Value} {ns : List ByteArray} {r : Bool} (h : Rf w B rb es) (ha : NamesAt w va ns) (hr : inB scope ns es = r) :
    Calls Try.prog 22 #[ptr rb, i64 scope, va] w fun e w' => e = .returned (.bool r) ∧ Below w.heap.size w w' := by
  have HH := Lib.hid h
  have HA := Lib.hid ha
  obtain ⟨nad, nc, rfl, _, _⟩ := ha
  obtain ⟨v, h⟩ := h
  obtain ⟨x, hx⟩ : ∃ x, lastE (isB ns) es = x := ⟨_, rfl⟩
  have hb := lastE_bound (isB ns) es
  rw [inB_last] at hr
  rw [hx] at hb hr
  by_cases hx0 : x < 0
  · rw [if_pos hx0] at hr
    subst hr
    have hz : decide (x < 0) = true := decide_eq_true hx0
    have HX := Lib.hid hx
    clear hx hb hx0 h
    go_enter Try.func22, Try.ntmps22
    go_wp2_with (first
      | (go_at_call 37; (with_reducible refine (rlast_any HH.out HA.out HX.out).mono ?_); rintro e w1 ⟨rfl, hb1⟩; have H1 := Lib.hid hb1; clear hb1))
    go_ret
    exact ⟨rfl, H1.out⟩
  · rw [if_neg hx0] at hr
    obtain ⟨k, hk⟩ : ∃ k : Nat, x + 1 = k := ⟨(x + 1).toNat, by omega⟩
    rw [hk, Int.toNat_natCast] at hr
    have hz : decide (x < 0) = false := decide_eq_false hx0
    obtain ⟨ad, c, rfl⟩ := own_slice h.2.2.1
    obtain ⟨n, hn⟩ : ∃ n, es.length = n := ⟨_, rfl⟩
    have c0 := h.1.cell 0 (.slice ad es.length c) rfl
    have hrl := h.1.lt
    have hl := h.2.2.2
    have hrow := h.2.2.1
    obtain ⟨_, _, hfe, _, _, hform⟩ := h.form
    rw [hn] at c0 hl hb hrow
    have hkn : k ≤ n := by omega
    obtain ⟨_, ao, cc, hsl, _, hao⟩ := own_cut (P := Try.prog) (t := 42) (l := (k : Int)) Try.underlying42 size50 hrow rfl hkn
    have hwk : IntKind.i64.wrap (x + 1) = (k : Int) := by rw [hk]; exact IntWalk.i64_in _ (by omega)
    obtain ⟨m, hm⟩ : ∃ m, n - k = m := ⟨_, rfl⟩
    rw [hm] at hsl
    simp only [Value.slice.injEq] at hfe
    obtain ⟨rfl, _, rfl⟩ := hfe
    have H := Lib.hid (And.intro hx (And.intro hn (And.intro hm (And.intro hr (And.intro hform hao)))))
    have hm6 : m ≤ 1000000 := by omega
    have hkn6 : k + m = n := by omega
    clear h hx hn hm hr hform hao hk hkn hb hx0 hrow
    go_enter Try.func22, Try.ntmps22
    go_wp2_with (first
      | (go_at_call 37; (with_reducible refine (rlast_any HH.out HA.out H.out.1).mono ?_); rintro e w1 ⟨rfl, hb1⟩; have c1 := (hb1.cell (p := ⟨rb, 0, none⟩) hrl).trans c0; have H1 := Lib.hid hb1; clear hb1))
    go_loopw [9, 23] (fun _ i wr => ∃ j : Nat, j ≤ m ∧ i = i64 j ∧ Hid (((es.drop k).take j).all (fun e => !endB scope e) = true) ∧ Hid (Below w.heap.size w wr)) (fun _ i _ => m - (intOf i).toNat)
    case atStart => exact ⟨0, Nat.zero_le _, rfl, Lib.hid (by simp), H1⟩
    case round =>
      obtain ⟨j, hj, rfl, HJ, HB⟩ := hrel
      by_cases hlt : j < m
      · obtain ⟨⟨xid, xs, xn⟩, he⟩ : ∃ e, es[k + j]? = some e := ⟨_, List.getElem?_eq_getElem (by rw [H.out.2.1]; omega)⟩
        obtain ⟨g, had, _, hg, hc⟩ := H.out.2.2.2.2.1 (fun e0 => by rw [e0] at he; simp at he)
        obtain ⟨g', _, had', hao⟩ := H.out.2.2.2.2.2 (by omega)
        have hgg : g' = g := by rw [had'] at had; simpa using had
        subst hgg
        obtain ⟨d0, d1, d2⟩ := hc (k + j) _ he
        have e0 := (HB.out.cell (p := ⟨g', (k + j) * 3, none⟩) hg).trans d0
        have e1 := (HB.out.cell (p := ⟨g', (k + j) * 3 + 1, none⟩) hg).trans d1
        have e2 := (HB.out.cell (p := ⟨g', (k + j) * 3 + 2, none⟩) hg).trans d2
        rw [Nat.add_mul] at e0 e1 e2
        simp only at e0 e1 e2
        have HE := Lib.hid he
        have HAO := Lib.hid hao
        clear hc he had had' d0 d1 d2 hao
        rw [HAO.out]
        have HB2 := Lib.hid (HB.out.alloc HB.out.size (.cells #[i64 xid, i64 xs, .string xn] 50))
        have hdk : ((es.drop k).take (j + 1)) = (es.drop k).take j ++ [⟨xid, xs, xn⟩] := by
          rw [List.take_add_one, List.getElem?_drop, HE.out]; rfl
        cases hq : endB scope ⟨xid, xs, xn⟩
        · have HQ := Lib.hid hq
          have HN : Hid (((es.drop k).take (j + 1)).all (fun e => !endB scope e) = true) := Lib.hid (by rw [hdk, List.all_append, HJ.out]; simp [hq])
          clear hq hdk
          go_wp2_with (first | (go_at_call 38; (with_reducible refine (rends_any HQ.out).mono ?_); rintro e w2 ⟨rfl, hb2⟩; have H2 := Lib.hid hb2; clear hb2))
          go_roundw
          case rel => exact ⟨j + 1, by omega, by go_num, HN, Lib.hid (HB2.out.trans (H2.out.mono HB2.out.size))⟩
          case measure => simp [intOf]; omega
        · have HQ := Lib.hid hq
          have hrf : r = false := by
            rw [← H.out.2.2.2.1, List.all_eq_false]
            exact ⟨⟨xid, xs, xn⟩, List.mem_of_getElem? (by rw [List.getElem?_drop]; exact HE.out), by simp [hq]⟩
          subst hrf
          clear hq hdk
          go_wp2_with (first | (go_at_call 38; (with_reducible refine (rends_any HQ.out).mono ?_); rintro e w2 ⟨rfl, hb2⟩; have H2 := Lib.hid hb2; clear hb2))
          go_ret
          exact ⟨rfl, HB2.out.trans (H2.out.mono HB2.out.size)⟩
      · have hrt : r = true := by
          have := HJ.out
          rw [List.take_of_length_le (by rw [List.length_drop, H.out.2.1]; omega)] at this
          rw [← H.out.2.2.2.1]
          exact this
        subst hrt
        go_wp2
        go_ret
        exact ⟨rfl, HB.out⟩

def remS (id : Int) (es : List Ent) : List Ent := if findE id es < 0 then es else es.take (findE id es).toNat ++ es.drop ((findE id es).toNat + 1)
def remB (id : Int) (es : List Ent) : Bool := decide (0 ≤ findE id es)

set_option maxHeartbeats 1000000 in
theorem rrem_any {w : World} {B rb : Nat} {es : List Ent} {id : Int} (h : Rf w B rb es) :
    Calls Try.prog 36 #[ptr rb, i64 id] w fun e w' => e = .returned (.bool (remB id es)) ∧ Rf w' B rb (remS id es) ∧ Fr B RK w w' := by
  have HH := Lib.hid h
  obtain ⟨v, h⟩ := h
  obtain ⟨x, hx⟩ : ∃ x, findE id es = x := ⟨_, rfl⟩
  have hb := lastE_bound (fun e => e.id == id) es
  rw [← findE_last, hx] at hb
  unfold remS remB
  rw [hx]
  have HX := Lib.hid hx
  by_cases hx0 : x < 0
  · rw [if_pos hx0, show decide (0 ≤ x) = false by simpa using hx0]
    have hz : decide (x < 0) = true := decide_eq_true hx0
    clear hx hb hx0 h
    go_enter Try.func36, Try.ntmps36
    go_wp2_with (first
      | (go_at_call 20; (with_reducible refine (rfind_any HH.out HX.out).mono ?_); rintro e w1 ⟨rfl, hb1⟩; have H1 := Lib.hid hb1; clear hb1))
    go_ret
    exact ⟨rfl, HH.out.below H1.out, Fr.of_below H1.out _ _⟩
  · rw [if_neg hx0, show decide (0 ≤ x) = true by simpa using hx0]
    obtain ⟨k, rfl⟩ : ∃ k : Nat, x = k := ⟨x.toNat, by omega⟩
    have hz : decide ((k : Int) < 0) = false := decide_eq_false hx0
    rw [Int.toNat_natCast]
    obtain ⟨ad, c, rfl⟩ := own_slice h.2.2.1
    obtain ⟨n, hn⟩ : ∃ n, es.length = n := ⟨_, rfl⟩
    have c0 := h.1.cell 0 (.slice ad es.length c) rfl
    have hrl := h.1.lt
    have hl := h.2.2.2
    have hrow := h.2.2.1
    have HN := Lib.hid hn
    have HF := Lib.hid h
    rw [hn] at c0 hl hb hrow
    obtain ⟨⟨hsl, hsrc⟩, _⟩ := own_cut (P := Try.prog) (t := 42) (l := (k : Int)) (k := k) Try.underlying42 size50 hrow rfl (by omega)
    obtain ⟨_, ao, cc, hsl2, hsrc2, _⟩ := own_cut (P := Try.prog) (t := 42) (l := (k : Int) + 1) (k := k + 1) Try.underlying42 size50 hrow (by omega) (by omega)
    obtain ⟨i0, hi, hy0, hy1, hy2⟩ := info_parts info50
    obtain ⟨m, hm⟩ : ∃ m, n - (k + 1) = m := ⟨_, rfl⟩
    rw [hm] at hsl2 hsrc2
    have hw : IntKind.i64.wrap ((k : Int) + 1) = (k : Int) + 1 := IntWalk.i64_in _ (by omega)
    have H := Lib.hid (And.intro hsrc (And.intro hsrc2 (And.intro (show k + 1 + m = n by omega) hl)))
    clear h hrow hsrc hsrc2 hm hx hb hn hx0 hl
    go_enter Try.func36, Try.ntmps36
    go_wp2_with (first
      | (go_at_call 20; (with_reducible refine (rfind_any HH.out HX.out).mono ?_); rintro e w0 ⟨rfl, hb0⟩; have d0 := (hb0.cell (p := ⟨rb, 0, none⟩) hrl).trans c0; have H0 := Lib.hid hb0; clear hb0)
      | (at_builtin; refine wpList_append_src rfl (.tmp 12) (.tmp 18) 42 rfl w.heap.size 50 i0 _ 3 32 Try.underlying42 hi hy0 hy1 hy2 rfl (by decide) (.slice none 0 0) 0 [] rfl (World.ownsRow_nil _ _ _ _) ad k c ((flatE es).take (k * 3)) rfl (by have := HN.out; have := H.out.2.2.1; rw [List.length_take, flatE_length]; omega) (H.out.1.below H0.out) (fun u hu => flatE_one es u (List.mem_of_mem_take hu)) (by have := H.out.2.2; unfold maxLen; omega) (by have := H.out.2.2; omega) H0.out.size ?_; intro v1 w1 hown1 hg1 _; obtain ⟨b1, o1⟩ := r_zero H0.out hown1 hg1; obtain ⟨a1, k1, rfl⟩ := own_slice o1; have c1 := (b1.cell (p := ⟨rb, 0, none⟩) hrl).trans c0; have H1 := Lib.hid (And.intro b1 o1); clear hown1 hg1 b1 o1)
      | (at_builtin; refine wpList_append_src rfl (.tmp 20) (.tmp 27) 42 rfl w.heap.size 50 i0 _ 3 32 Try.underlying42 hi hy0 hy1 hy2 rfl (by decide) _ k _ rfl H1.out.2 ao m cc ((flatE es).drop ((k + 1) * 3)) rfl (by have := HN.out; have := H.out.2.2; rw [List.length_drop, flatE_length]; omega) (H.out.2.1.below H1.out.1) (fun u hu => flatE_one es u (List.mem_of_mem_drop hu)) (by have := H.out.2.2; unfold maxLen; omega) (by have := H.out.2.2; omega) H1.out.1.size ?_; intro v3 w3 hown3 hg3 _; obtain ⟨b3, o3⟩ := r_two H1.out.1 H1.out.2 hown3 hg3; obtain ⟨a3, k3, rfl⟩ := own_slice o3; have c1 := (b3.cell (p := ⟨rb, 0, none⟩) hrl).trans c0; have f1 := (blk_kept HF.out.1 b3).fro 0; have H3 := Lib.hid (And.intro b3 o3); clear hown3 hg3 b3 o3))
    go_ret
    have ho := H3.out.2
    rw [flatE_take, flatE_drop, ← flatE_append] at ho
    have hlen : (es.take k ++ es.drop (k + 1)).length = k + m := by
      have := H.out.2.2.1
      have := HN.out
      rw [List.length_append, List.length_take, List.length_drop]; omega
    refine ⟨rfl, rebuilt HF.out.1 HF.out.2.1 H3.out.1 ?_ ?_⟩
    · rw [hlen]; exact ho
    · rw [hlen]
      have := H.out.2.2
      omega
end Go.Proofs.Ytdagjpiakbfjpaa
