/-
  The document's list (rectoref10): what looks: Part, Find, Last, wrong, walked.
  Written by an AI agent.
-/
import Derived.Test.YtjopfgdgmniigaaArkLaw
import Derived.Test.YtjopfgdgmniigaaInsL
import Derived.Test.YtjopfgdgmniigaaLast
import Derived.Test.YtjopfgdgmniigaaSrc
namespace Go.Proofs.Ytjopfgdgmniigaa
open Go.RowKit Go.Maps

theorem snoc_ind {α : Type} {P : List α → Prop} (h0 : P []) (h1 : ∀ l x, P l → P (l ++ [x])) : ∀ l, P l := by
  intro l
  have : ∀ r : List α, P r.reverse := fun r => by
    induction r with
    | nil => exact h0
    | cons x r ih => rw [List.reverse_cons]; exact h1 _ _ ih
  have := this l.reverse
  rwa [List.reverse_reverse] at this
theorem findE_snoc (id : Int) (es : List Ent) (e : Ent) : findE id (es ++ [e]) = if !e.mark && e.id == id then (es.length : Int) else findE id es := by
  unfold findE
  rw [List.reverse_append]
  show findR id (e :: es.reverse) = _
  rw [findR_cons, List.length_reverse]
theorem cutE_snoc (opn : List Int) (es : List Ent) (e : Ent) : cutE opn (es ++ [e]) = if e.mark || opn.contains e.id then es.length + 1 else cutE opn es := by
  unfold cutE
  rw [List.reverse_append]
  show cutR opn (e :: es.reverse) = _
  rw [cutR_cons, List.length_reverse]
theorem findE_bound (id : Int) (es : List Ent) : -1 ≤ findE id es ∧ findE id es < es.length := by
  refine snoc_ind (P := fun es => -1 ≤ findE id es ∧ findE id es < es.length) ⟨by simp [findE, findR], by simp [findE, findR]⟩ (fun l x ih => ?_) es
  rw [findE_snoc, List.length_append]
  simp only [List.length_cons, List.length_nil]
  split <;> omega
theorem take_snoc {α : Type} {l : List α} {k : Nat} {x : α} (h : l[k]? = some x) : l.take (k + 1) = l.take k ++ [x] := by rw [List.take_add_one, h]; rfl

theorem info41 : (Try.prog.info? 41).map (fun i => (i.zero, i.size, i.bytes)) = some (some (.agg #[.bool false, .int .i64 0, .string ⟨#[]⟩, .slice none 0 0]), 4, 56) := by kernel_rfl
theorem size41 (w : World) : (sizeOf (Try.prog.elem 28)).run Try.prog w = .ok 4 w := by
  obtain ⟨i, hi, _, hz, _⟩ := info_parts info41
  show (sizeOf 41).run Try.prog w = .ok 4 w
  simp [sizeOf, typeInfo, hi, hz]

/-- What the document's methods may turn: lists. -/
abbrev Doc (w : World) (B rb : Nat) (es : List Ent) : Prop := ListIs w B rb 30 41 es
theorem Doc.lk {w w' : World} {B B' rb : Nat} {es : List Ent} (h : Doc w B rb es) (hf : Fr B' LK w w') (hB : B ≤ B') : Doc w' B rb es := by
  obtain ⟨v, ps, h, e⟩ := h
  exact ⟨v, ps, h.fr hf hB (fun _ _ => rfl) (fun _ _ => rfl) (fun _ _ => rfl), e⟩
theorem Doc.dk {w w' : World} {B B' lb : Nat} {es : List Ent} (h : ListIs w B lb 63 33 es) (hf : Fr B' DK w w') (hB : B ≤ B') : ListIs w' B lb 63 33 es := by
  obtain ⟨v, ps, h, e⟩ := h
  exact ⟨v, ps, h.fr hf hB (fun _ _ => rfl) (fun _ _ => rfl) (fun _ _ => rfl), e⟩

/-- The document's list, opened at its names. -/
theorem Doc.at_ {w : World} {B rb n : Nat} {es : List Ent} (h : Doc w B rb es) (hn : es.length = n) :
    ∃ ad c ps, ListAt w B rb 30 41 (.slice ad n c) ps ∧ ps.map (·.1) = es ∧ w.cell? ⟨rb, 0, none⟩ = some (.slice ad n c) ∧ rb < w.heap.size ∧ n ≤ c ∧ c ≤ 9223372036854775807 ∧ n ≤ 1000000 ∧
      (es ≠ [] → ∃ g, ad = some ⟨g, 0, none⟩ ∧ B ≤ g ∧ g < w.heap.size ∧ ∀ (k : Nat) (e : Ent), es[k]? = some e → ∃ va na ca, ps[k]? = some (e, .slice va na ca) ∧ e.attrs.length = na ∧ AtrsAt w B (.slice va na ca) e.attrs ∧
        w.cell? ⟨g, k * 4, none⟩ = some (.bool e.mark) ∧ w.cell? ⟨g, k * 4 + 1, none⟩ = some (i64 e.id) ∧ w.cell? ⟨g, k * 4 + 2, none⟩ = some (.string e.name) ∧ w.cell? ⟨g, k * 4 + 3, none⟩ = some (.slice va na ca)) := by
  obtain ⟨v, ps, h, he⟩ := h
  obtain ⟨ad, cap, rfl, hnc, hcm, hr⟩ := h.2.2.form
  have hpn : ps.length = n := by rw [← hn, ← he, List.length_map]
  have c0 := h.1.cell 0 (.slice ad ps.length cap) rfl
  have h2 := h.2.2.2.1
  rw [hpn] at hnc c0 h h2
  refine ⟨ad, cap, ps, h, he, c0, h.1.lt, hnc, hcm, h2, fun hne => ?_⟩
  obtain ⟨g, had, hB, hg, hc⟩ := hr (fun e => hne (by rw [← he, e]; rfl))
  refine ⟨g, had, hB, hg, fun k e hk => ?_⟩
  rw [← he, List.getElem?_map] at hk
  cases hq : ps[k]? with
  | none => rw [hq] at hk; cases hk
  | some q =>
    rw [hq] at hk
    simp only [Option.map_some, Option.some.injEq] at hk
    subst hk
    have hat := h.2.2.2.2 q (List.mem_of_getElem? hq)
    obtain ⟨a, c, hv⟩ := hat.form
    obtain ⟨c0, c1, c2, c3⟩ := hc k q hq
    obtain ⟨q1, q2⟩ := q
    simp only at hv hat c0 c1 c2 c3
    subst hv
    exact ⟨a, _, c, rfl, rfl, hat, c0, c1, c2, c3⟩

set_option maxHeartbeats 1000000 in
theorem dpart_any {w : World} {B rb : Nat} {es : List Ent} {r : Nat} (h : Doc w B rb es) (hr : partE es = r) : Calls Try.prog 39 #[ptr rb] w fun e w' => e = .returned (i64 r) ∧ Below w.heap.size w w' := by
  obtain ⟨n, hn⟩ : ∃ n, es.length = n := ⟨_, rfl⟩
  obtain ⟨ad, c, ps, hL, hps, c0, hrl, hnc, hcm, hl, hrr⟩ := h.at_ hn
  have HN := Lib.hid (And.intro hn hr)
  have HR := Lib.hid hrr
  clear h hn hr hrr hL hps
  go_enter Try.func39, Try.ntmps39
  go_wp2
  go_loopw [3, 4, 5, 11] (fun at_ _ _ i wr => ∃ (k x : Nat), k ≤ n ∧ x ≤ k ∧ i = i64 k ∧ at_ = i64 x ∧ Hid (partE (es.take k) = x) ∧ Hid (Below w.heap.size w wr)) (fun _ _ _ i _ => n - (intOf i).toNat)
  case atStart => exact ⟨0, 0, Nat.zero_le _, Nat.zero_le _, rfl, rfl, Lib.hid rfl, Lib.hid (Below.refl _ _)⟩
  case round =>
    obtain ⟨k, x, hk, hxk, rfl, rfl, HX, HB⟩ := hrel
    by_cases hlt : k < n
    · obtain ⟨⟨mk, id, nm, ats⟩, he⟩ : ∃ e, es[k]? = some e := ⟨_, List.getElem?_eq_getElem (by rw [HN.out.1]; exact hlt)⟩
      obtain ⟨g, had, _, hg, hc⟩ := HR.out (fun e0 => by rw [e0] at he; simp at he)
      obtain ⟨va, na, ca, _, _, _, d0, d1, d2, d3⟩ := hc k _ he
      have e0 := (HB.out.cell (p := ⟨g, k * 4, none⟩) hg).trans d0
      have e1 := (HB.out.cell (p := ⟨g, k * 4 + 1, none⟩) hg).trans d1
      have e2 := (HB.out.cell (p := ⟨g, k * 4 + 2, none⟩) hg).trans d2
      have e3 := (HB.out.cell (p := ⟨g, k * 4 + 3, none⟩) hg).trans d3
      simp only at e0 e1 e2 e3
      have HT : Hid (partE (es.take (k + 1)) = if mk then k + 1 else x) := Lib.hid (by
        rw [take_snoc he, partE_snoc, HX.out, List.length_take, HN.out.1, Nat.min_eq_left hk])
      have HAD := Lib.hid had
      have hw : IntKind.i64.wrap ((k : Int) + 1) = (k : Int) + 1 := IntWalk.i64_in _ (by omega)
      clear hc he had d0 d1 d2 d3
      rw [HAD.out]
      cases mk
      · go_wp2
        go_roundw
        case rel => exact ⟨k + 1, x, by omega, by omega, by go_num, rfl, HT, Lib.hid (HB.out.alloc HB.out.size _)⟩
        case measure => simp [intOf]; omega
      · go_wp2
        go_roundw
        case rel => exact ⟨k + 1, k + 1, by omega, by omega, by go_num, by go_num, HT, Lib.hid (HB.out.alloc HB.out.size _)⟩
        case measure => simp [intOf]; omega
    · have hx : x = r := by
        rw [← HN.out.2, ← HX.out, List.take_of_length_le (by rw [HN.out.1]; omega)]
      subst hx
      go_wp2
      go_ret
      exact ⟨rfl, HB.out⟩

theorem dwrong_any {w : World} {mk : Bool} {id : Int} {nm : ByteArray} {ad : Option Addr} {n c : Nat} {r : Bool} (hr : wrongB mk id = r) : Calls Try.prog 46 #[.agg #[.bool mk, i64 id, .string nm, .slice ad n c]] w fun e w' => e = .returned (.bool r) ∧ Below w.heap.size w w' := by
  subst hr
  unfold wrongB
  cases mk
  · go_enter Try.func46, Try.ntmps46
    go_wp2
    go_ret
    exact ⟨rfl, (Below.refl _ _).alloc (Nat.le_refl _) _⟩
  · go_enter Try.func46, Try.ntmps46
    go_wp2
    go_ret
    exact ⟨rfl, (Below.refl _ _).alloc (Nat.le_refl _) _⟩
theorem name_eq (nm l : ByteArray) : decide (nm = l) = (nm.toList == l.toList) := by
  by_cases h : nm = l
  · subst h; simp
  · have : ¬ nm.toList = l.toList := fun e => h (toList_inj e)
    simp [h, this]
set_option maxHeartbeats 1000000 in
theorem dfind_any {w : World} {B rb : Nat} {es : List Ent} {id0 r : Int} (h : Doc w B rb es) (hr : findE id0 es = r) : Calls Try.prog 13 #[ptr rb, i64 id0] w fun e w' => e = .returned (i64 r) ∧ Below w.heap.size w w' := by
  obtain ⟨n, hn⟩ : ∃ n, es.length = n := ⟨_, rfl⟩
  obtain ⟨ad, c, ps, hL, hps, c0, hrl, hnc, hcm, hl, hrr⟩ := h.at_ hn
  have HN := Lib.hid (And.intro hn hr)
  have HR := Lib.hid hrr
  clear h hn hr hrr hL hps
  go_enter Try.func13, Try.ntmps13
  go_wp2
  go_loopw [5, 6, 7, 13] (fun at_ _ _ i wr => ∃ (k : Nat) (x : Int), k ≤ n ∧ i = i64 k ∧ at_ = i64 x ∧ Hid (findE id0 (es.take k) = x) ∧ Hid (Below w.heap.size w wr)) (fun _ _ _ i _ => n - (intOf i).toNat)
  case atStart => exact ⟨0, -1, Nat.zero_le _, rfl, rfl, Lib.hid rfl, Lib.hid (Below.refl _ _)⟩
  case round =>
    obtain ⟨k, x, hk, rfl, rfl, HX, HB⟩ := hrel
    by_cases hlt : k < n
    · obtain ⟨⟨mk, id, nm, ats⟩, he⟩ : ∃ e, es[k]? = some e := ⟨_, List.getElem?_eq_getElem (by rw [HN.out.1]; exact hlt)⟩
      obtain ⟨g, had, _, hg, hc⟩ := HR.out (fun e0 => by rw [e0] at he; simp at he)
      obtain ⟨va, na, ca, _, _, _, d0, d1, d2, d3⟩ := hc k _ he
      have e0 := (HB.out.cell (p := ⟨g, k * 4, none⟩) hg).trans d0
      have e1 := (HB.out.cell (p := ⟨g, k * 4 + 1, none⟩) hg).trans d1
      have e2 := (HB.out.cell (p := ⟨g, k * 4 + 2, none⟩) hg).trans d2
      have e3 := (HB.out.cell (p := ⟨g, k * 4 + 3, none⟩) hg).trans d3
      simp only at e0 e1 e2 e3
      obtain ⟨q, hq⟩ : ∃ q, (id == id0) = q := ⟨_, rfl⟩
      have HT : Hid (findE id0 (es.take (k + 1)) = if !mk && q then (k : Int) else x) := Lib.hid (by
        rw [take_snoc he, findE_snoc, HX.out, List.length_take, HN.out.1, Nat.min_eq_left hk, ← hq])
      have HAD := Lib.hid had
      clear hc he had d0 d1 d2 d3
      rw [HAD.out]
      cases mk
      · cases q
        · go_wp2
          go_roundw
          case rel => exact ⟨k + 1, x, by omega, by go_num, rfl, HT, Lib.hid (HB.out.alloc HB.out.size _)⟩
          case measure => simp [intOf]; omega
        · go_wp2
          go_roundw
          case rel => exact ⟨k + 1, k, by omega, by go_num, rfl, HT, Lib.hid (HB.out.alloc HB.out.size _)⟩
          case measure => simp [intOf]; omega
      · clear hq
        go_wp2
        go_roundw
        case rel => exact ⟨k + 1, x, by omega, by go_num, rfl, HT, Lib.hid (HB.out.alloc HB.out.size _)⟩
        case measure => simp [intOf]; omega
    · have hx : x = r := by
        rw [← HN.out.2, ← HX.out, List.take_of_length_le (by rw [HN.out.1]; omega)]
      subst hx
      go_wp2
      go_ret
      exact ⟨rfl, HB.out⟩

/-- The place of the last entry of a name from a place on; -1: there is none. -/
def lstR (P : Nat) (nm : ByteArray) : List Ent → Int
  | [] => -1
  | e :: r => if decide (P ≤ r.length) && decide (e.name = nm) then (r.length : Int) else lstR P nm r
def lstE (P : Nat) (nm : ByteArray) (es : List Ent) : Int := lstR P nm es.reverse
theorem lstE_snoc (P : Nat) (nm : ByteArray) (es : List Ent) (e : Ent) : lstE P nm (es ++ [e]) = if decide (P ≤ es.length) && decide (e.name = nm) then (es.length : Int) else lstE P nm es := by
  unfold lstE
  rw [List.reverse_append]
  show lstR P nm (e :: es.reverse) = _
  rw [lstR, List.length_reverse]
theorem lst_find (P : Nat) (nm : ByteArray) (es : List Ent) :
    (lstE P nm es = -1 ∧ ((es.drop P).reverse).find? (fun e => decide (e.name = nm)) = none) ∨ ∃ (k : Nat) (e : Ent), lstE P nm es = (k : Int) ∧ es[k]? = some e ∧ ((es.drop P).reverse).find? (fun e => decide (e.name = nm)) = some e := by
  refine snoc_ind (P := fun es => (lstE P nm es = -1 ∧ ((es.drop P).reverse).find? (fun e => decide (e.name = nm)) = none) ∨ ∃ (k : Nat) (e : Ent), lstE P nm es = (k : Int) ∧ es[k]? = some e ∧ ((es.drop P).reverse).find? (fun e => decide (e.name = nm)) = some e) (.inl ⟨rfl, by simp⟩) (fun l x ih => ?_) es
  rw [lstE_snoc]
  by_cases hP : P ≤ l.length
  · rw [List.drop_append_of_le_length hP, List.reverse_append]
    simp only [List.reverse_cons, List.reverse_nil, List.nil_append, List.singleton_append, List.find?_cons, hP, decide_true, Bool.true_and]
    cases hx : decide (x.name = nm)
    · simp only [Bool.false_eq_true, if_false]
      rcases ih with ih | ⟨k, e, h1, h2, h3⟩
      · exact .inl ih
      · exact .inr ⟨k, e, h1, by rw [List.getElem?_append_left (List.getElem?_eq_some_iff.1 h2).1]; exact h2, h3⟩
    · simp only [if_true]
      exact .inr ⟨l.length, x, rfl, by simp, rfl⟩
  · have h0 : (l ++ [x]).drop P = [] := List.drop_eq_nil_of_le (by simp; omega)
    have h1 : l.drop P = [] := List.drop_eq_nil_of_le (by omega)
    rw [h0, show decide (P ≤ l.length) = false by simpa using hP]
    rw [h1] at ih
    simp only [Bool.false_and, Bool.false_eq_true, if_false]
    rcases ih with ih | ⟨k, e, _, _, h3⟩
    · exact .inl ih
    · simp at h3

set_option maxHeartbeats 1000000 in
theorem dlast_any {w : World} {B rb : Nat} {es : List Ent} {nm0 : ByteArray} {r : Int} (h : Doc w B rb es) (hr : lstE (partE es) nm0 es = r) : Calls Try.prog 17 #[ptr rb, .string nm0] w fun e w' => e = .returned (i64 r) ∧ Below w.heap.size w w' := by
  obtain ⟨P, hP⟩ : ∃ P, partE es = P := ⟨_, rfl⟩
  rw [hP] at hr
  have HP := Lib.hid (And.intro h hP)
  clear hP
  obtain ⟨n, hn⟩ : ∃ n, es.length = n := ⟨_, rfl⟩
  obtain ⟨ad, c, ps, hL, hps, c0, hrl, hnc, hcm, hl, hrr⟩ := h.at_ hn
  have HN := Lib.hid (And.intro hn hr)
  have HR := Lib.hid hrr
  clear h hn hr hrr hL hps
  go_enter Try.func17, Try.ntmps17
  go_wp2
  go_loopw [5, 6, 7, 13] (fun at_ _ _ i wr => ∃ (k : Nat) (x : Int), k ≤ n ∧ i = i64 k ∧ at_ = i64 x ∧ Hid (lstE P nm0 (es.take k) = x) ∧ Hid (Below w.heap.size w wr)) (fun _ _ _ i _ => n - (intOf i).toNat)
  case atStart => exact ⟨0, -1, Nat.zero_le _, rfl, rfl, Lib.hid rfl, Lib.hid (Below.refl _ _)⟩
  case round =>
    obtain ⟨k, x, hk, rfl, rfl, HX, HB⟩ := hrel
    by_cases hlt : k < n
    · obtain ⟨⟨mk, id, nm, ats⟩, he⟩ : ∃ e, es[k]? = some e := ⟨_, List.getElem?_eq_getElem (by rw [HN.out.1]; exact hlt)⟩
      obtain ⟨g, had, _, hg, hc⟩ := HR.out (fun e0 => by rw [e0] at he; simp at he)
      obtain ⟨va, na, ca, _, _, _, d0, d1, d2, d3⟩ := hc k _ he
      have e0 := (HB.out.cell (p := ⟨g, k * 4, none⟩) hg).trans d0
      have e1 := (HB.out.cell (p := ⟨g, k * 4 + 1, none⟩) hg).trans d1
      have e2 := (HB.out.cell (p := ⟨g, k * 4 + 2, none⟩) hg).trans d2
      have e3 := (HB.out.cell (p := ⟨g, k * 4 + 3, none⟩) hg).trans d3
      simp only at e0 e1 e2 e3
      obtain ⟨q, hq⟩ : ∃ q, decide (nm = nm0) = q := ⟨_, rfl⟩
      have hq2 : (nm.toList == nm0.toList) = q := by rw [← hq]; exact (name_eq nm nm0).symm
      have HT : Hid (lstE P nm0 (es.take (k + 1)) = if decide (P ≤ k) && q then (k : Int) else x) := Lib.hid (by
        rw [take_snoc he, lstE_snoc, HX.out, List.length_take, HN.out.1, Nat.min_eq_left hk, ← hq])
      have HB2 := Lib.hid (HB.out.alloc HB.out.size (.cells #[.bool mk, i64 id, .string nm, .slice va na ca] 41))
      have HBX := Lib.hid (Blk.new wr 41 #[.bool mk, i64 id, .string nm, .slice va na ca])
      clear hq
      have HAD := Lib.hid had
      clear hc he had d0 d1 d2 d3
      rw [HAD.out]
      by_cases hPk : P ≤ k
      · have hz : decide (P ≤ k) = true := decide_eq_true hPk
        rw [hz] at HT
        clear hPk
        cases q
        · go_wp2_with (first | (go_at_call 39; (with_reducible refine (dpart_any (HP.out.1.below HB2.out) HP.out.2).mono ?_); rintro e w2 ⟨rfl, hb2⟩; have hx2 := blk_kept HBX.out hb2; have y0 := hx2.cell 0 (.bool mk) rfl; have y1 := hx2.cell 1 (i64 id) rfl; have y2 := hx2.cell 2 (.string nm) rfl; have y3 := hx2.cell 3 (.slice va na ca) rfl; have H2 := Lib.hid hb2; clear hb2 hx2))
          go_roundw
          case rel => exact ⟨k + 1, x, by omega, by go_num, rfl, HT, Lib.hid (HB2.out.trans (H2.out.mono HB2.out.size))⟩
          case measure => simp [intOf]; omega
        · go_wp2_with (first | (go_at_call 39; (with_reducible refine (dpart_any (HP.out.1.below HB2.out) HP.out.2).mono ?_); rintro e w2 ⟨rfl, hb2⟩; have hx2 := blk_kept HBX.out hb2; have y0 := hx2.cell 0 (.bool mk) rfl; have y1 := hx2.cell 1 (i64 id) rfl; have y2 := hx2.cell 2 (.string nm) rfl; have y3 := hx2.cell 3 (.slice va na ca) rfl; have H2 := Lib.hid hb2; clear hb2 hx2))
          go_roundw
          case rel => exact ⟨k + 1, k, by omega, by go_num, rfl, HT, Lib.hid (HB2.out.trans (H2.out.mono HB2.out.size))⟩
          case measure => simp [intOf]; omega
      · have hz : decide (P ≤ k) = false := decide_eq_false hPk
        rw [hz] at HT
        clear hPk
        go_wp2_with (first | (go_at_call 39; (with_reducible refine (dpart_any (HP.out.1.below HB2.out) HP.out.2).mono ?_); rintro e w2 ⟨rfl, hb2⟩; have hx2 := blk_kept HBX.out hb2; have y0 := hx2.cell 0 (.bool mk) rfl; have y1 := hx2.cell 1 (i64 id) rfl; have y2 := hx2.cell 2 (.string nm) rfl; have y3 := hx2.cell 3 (.slice va na ca) rfl; have H2 := Lib.hid hb2; clear hb2 hx2))
        go_roundw
        case rel => exact ⟨k + 1, x, by omega, by go_num, rfl, HT, Lib.hid (HB2.out.trans (H2.out.mono HB2.out.size))⟩
        case measure => simp [intOf]; omega
    · have hx : x = r := by
        rw [← HN.out.2, ← HX.out, List.take_of_length_le (by rw [HN.out.1]; omega)]
      subst hx
      go_wp2
      go_ret
      exact ⟨rfl, HB.out⟩
end Go.Proofs.Ytjopfgdgmniigaa
