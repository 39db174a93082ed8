/-
  (*Stack).Find, Back, To, Implied, walked.
  Written by an AI agent.
-/
import Derived.Test.YtdagjpiakbfjpaaTop
namespace Go.Proofs.Ytdagjpiakbfjpaa
open Go.RowKit

def findR (id : Int) : List Ent → Int
  | [] => -1
  | e :: r => if e.id == id then (r.length : Int) else findR id r
def findE (id : Int) (es : List Ent) : Int := findR id es.reverse

theorem rev_get {α : Type} {l : List α} {i : Nat} (h : i < l.length) : ∃ x, l[l.length - 1 - i]? = some x ∧ l.reverse.drop i = x :: l.reverse.drop (i + 1) := by
  have hr : i < l.reverse.length := by simpa using h
  refine ⟨l.reverse[i], ?_, List.drop_eq_getElem_cons hr⟩
  rw [List.getElem_reverse]
  exact List.getElem?_eq_getElem _

set_option maxHeartbeats 1000000 in
theorem find_stk {w : World} {B lb : Nat} {es : List Ent} (h : Stk w B lb es) (id : Int) : Calls Try.prog 19 #[ptr lb, i64 id] w fun e w' => e = .returned (i64 (findE id es)) ∧ w' = w := by
  obtain ⟨v, hst⟩ := h
  obtain ⟨ad, cap, rfl, hnc, hcm, hr⟩ := hst.form
  obtain ⟨n, hn⟩ : ∃ n, es.length = n := ⟨_, rfl⟩
  have c0 := hst.1.cell 0 (.slice ad es.length cap) rfl
  have hl := hst.2.2.2
  rw [hn] at hnc hl c0
  have HN := Lib.hid hn
  have HR := Lib.hid hr
  have hwr : IntKind.i64.wrap ((n : Int) - 1) = (n : Int) - 1 := IntWalk.i64_in _ (by omega)
  clear hst hn hr
  go_enter Try.func19, Try.ntmps19
  go_wp2
  go_loopw [5] (fun i wr => ∃ k : Nat, k ≤ n ∧ i = .int .i64 ((n : Int) - 1 - (k : Int)) ∧ Hid (findE id es = findR id (es.reverse.drop k)) ∧ wr = w) (fun i _ => (intOf i + 1).toNat)
  case atStart => exact ⟨0, Nat.zero_le _, by simp, Lib.hid rfl, rfl⟩
  case round =>
    obtain ⟨k, hk, rfl, HP, rfl⟩ := hrel
    by_cases hlt : k < n
    · obtain ⟨x, hx, hd⟩ := rev_get (l := es) (i := k) (by rw [HN.out]; exact hlt)
      obtain ⟨j, hj⟩ : ∃ j, n - 1 - k = j := ⟨_, rfl⟩
      rw [HN.out, hj] at hx
      have hji : (n : Int) - 1 - (k : Int) = (j : Int) := by omega
      rw [hji]
      have hjn : j < n := by omega
      obtain ⟨g, had, _, _, hc⟩ := HR.out (fun e => by rw [e] at hx; simp at hx)
      obtain ⟨d0, _⟩ := hc j x hx
      obtain ⟨xid, hxid⟩ : ∃ xid, x.id = xid := ⟨_, rfl⟩
      rw [hxid] at d0
      have hln : (es.reverse.drop (k + 1)).length = j := by rw [List.length_drop, List.length_reverse, HN.out]; omega
      have HD := Lib.hid (And.intro hd (And.intro hxid hln))
      have HAD := Lib.hid had
      have hz : decide ((0 : Int) ≤ (j : Int)) = true := by simp
      have hwj : IntKind.i64.wrap ((j : Int) - 1) = (j : Int) - 1 := IntWalk.i64_in _ (by omega)
      clear hc hx had hd hxid hln
      rw [HAD.out] at c0
      by_cases he : xid = id
      · have e1 : (xid == id) = true := by simpa using he
        have HE := Lib.hid e1
        clear he
        go_wp2
        go_ret
        refine ⟨?_, rfl⟩
        rw [HP.out, HD.out.1]
        unfold findR
        rw [HD.out.2.1, HE.out, HD.out.2.2]
        rfl
      · have e1 : (xid == id) = false := by simpa using he
        have HE := Lib.hid e1
        clear he
        go_wp2
        go_roundw
        case rel =>
          refine ⟨k + 1, by omega, by congr 1; omega, Lib.hid ?_, by trivial⟩
          rw [HP.out, HD.out.1]
          rw [findR, HD.out.2.1, HE.out]
          rfl
        case measure => simp [intOf]
    · have hkn : k = n := by omega
      have hp0 : findE id es = -1 := by
        rw [HP.out, List.drop_eq_nil_of_le (by simp; have := HN.out; omega)]
        rfl
      have HP0 := Lib.hid hp0
      have hz : decide ((0 : Int) ≤ (n : Int) - 1 - (k : Int)) = false := by simp; omega
      clear hp0
      go_wp2
      go_ret
      exact ⟨by rw [HP0.out]; rfl, rfl⟩

/-- What is left where the last ones are taken off as long as p is true of them. -/
def popW (p : Ent → Bool) (es : List Ent) : List Ent := (es.reverse.dropWhile p).reverse
theorem popW_nil (p : Ent → Bool) : popW p [] = [] := rfl
theorem popW_snoc (p : Ent → Bool) (es : List Ent) (e : Ent) : popW p (es ++ [e]) = if p e then popW p es else es ++ [e] := by
  unfold popW
  rw [List.reverse_append]
  simp only [List.reverse_cons, List.reverse_nil, List.nil_append, List.singleton_append, List.dropWhile_cons]
  split
  · rfl
  · simp
theorem popW_yes {p : Ent → Bool} {es : List Ent} (h : es ≠ []) (hp : p (topE es) = true) : popW p es = popW p es.dropLast := by
  rw [show popW p es = popW p (es.dropLast ++ [topE es]) from by rw [← topE_dropLast h], popW_snoc, hp]
  rfl
theorem popW_no {p : Ent → Bool} {es : List Ent} (h : es ≠ []) (hp : p (topE es) = false) : popW p es = es := by
  rw [show popW p es = popW p (es.dropLast ++ [topE es]) from by rw [← topE_dropLast h], popW_snoc, hp]
  simp only [Bool.false_eq_true, if_false]
  exact (topE_dropLast h).symm
theorem popW_length (p : Ent → Bool) (es : List Ent) : (popW p es).length ≤ es.length := by
  unfold popW
  rw [List.length_reverse]
  have := (List.dropWhile_suffix p (l := es.reverse)).length_le
  simpa using this

def backP (ns : List ByteArray) (e : Ent) : Bool := !isB ns e

theorem pop_n {w : World} {B lb : Nat} {es : List Ent} {te : Ent} {tb : Bool} (h : Stk w B lb es) (h1 : topE es = te) (h2 : topB es = tb) :
    Calls Try.prog 23 #[ptr lb] w fun e w' => e = .returned (.tuple #[.agg #[i64 te.id, i64 te.space, .string te.name], .bool tb]) ∧ Stk w' B lb es.dropLast ∧ Fr B LK w w' ∧ w.grownBy w' (some lb) := by
  subst h1 h2
  exact pop_stk h
theorem top_m {w : World} {B lb : Nat} {es : List Ent} {te : Ent} {tb : Bool} (h : Stk w B lb es) (h1 : topE es = te) (h2 : topB es = tb) :
    Calls Try.prog 16 #[ptr lb] w fun e w' => e = .returned (.tuple #[.agg #[i64 te.id, i64 te.space, .string te.name], .bool tb]) ∧ Below w.heap.size w w' := by
  subst h1 h2
  exact top_stk h
theorem is_n {w : World} {va : Value} {ns : List ByteArray} {id sp : Int} {nm : ByteArray} {r : Bool} (ha : NamesAt w va ns) (hr : isB ns ⟨id, sp, nm⟩ = r) : Calls Try.prog 27 #[.agg #[i64 id, i64 sp, .string nm], va] w fun e w' => e = .returned (.bool r) ∧ Below w.heap.size w w' := by
  subst hr
  exact is_any ha
/-- What the walks of Back and Implied have reached. -/
abbrev Top1 (B lb : Nat) (p : Ent → Bool) (es : List Ent) (w wr : World) (k bx : Nat) (te : Ent) (tb : Bool) (cur : List Ent) : Prop :=
  Stk wr B lb cur ∧ Fr B LK w wr ∧ Blk wr bx 27 #[i64 te.id, i64 te.space, .string te.name] ∧ topE cur = te ∧ topB cur = tb ∧ popW p cur = popW p es ∧ cur.length + k = es.length ∧ bx ≠ lb ∧ w.grownBy wr (some lb)

def BackIt (B lb : Nat) (p : Ent → Bool) (es : List Ent) (w : World) (e : Ending) (w' : World) : Prop :=
  e = .returned (i64 ((es.length : Int) - ((popW p es).length : Int))) ∧ Stk w' B lb (popW p es) ∧ Fr B LK w w' ∧ w.grownBy w' (some lb)

theorem NamesAt.grown {w w' : World} {B lb : Nat} {v : Value} {ns : List ByteArray} {es : List Ent} (h : NamesAt w v ns) (hs : Stk w B lb es) (hg : w.grownBy w' (some lb)) : NamesAt w' v ns := by
  obtain ⟨ad, c, hv, hl, hr⟩ := h
  refine ⟨ad, c, hv, hl, fun hne => ?_⟩
  obtain ⟨g, off, ha, hgl, hc⟩ := hr hne
  have hgn : g ≠ lb := by
    rintro rfl
    obtain ⟨sv, hst⟩ := hs
    obtain ⟨rd, rc, rfl⟩ := own_slice hst.2.2.1
    obtain ⟨x, r, rfl⟩ : ∃ x r, ns = x :: r := by
      cases ns with
      | nil => exact absurd rfl hne
      | cons x r => exact ⟨x, r, rfl⟩
    have h1 := hc 0 x rfl
    rw [cell_of_row w g (off + 0) _ 59 (0, 0) hst.1] at h1
    cases off with
    | zero => simp at h1
    | succ o => simp at h1
  exact ⟨g, off, ha, Nat.lt_of_lt_of_le hgl hg.size, fun k x hk => (World.cell?_of_block (w := w) (a := ⟨g, off + k, none⟩) (hg.block g hgl (fun e => hgn (Option.some.inj e)))).trans (hc k x hk)⟩
theorem box_set {w : World} {g : Nat} {a b c : Value} (h : Blk w g 27 #[a, b, c]) (a' b' c' : Value) : Blk (((w.setCell ⟨g, 0, none⟩ a').setCell ⟨g, 1, none⟩ b').setCell ⟨g, 2, none⟩ c') g 27 #[a', b', c'] := ((h.put 0 a').put 1 b').put 2 c'

set_option maxHeartbeats 4000000 in
set_option maxRecDepth 100000 in
theorem back_stk {w : World} {B lb : Nat} {es : List Ent} {va : Value} {ns : List ByteArray} (h : Stk w B lb es) (ha : NamesAt w va ns) (hl : es.length ≤ 1000) : Calls Try.prog 14 #[ptr lb, va] w (BackIt B lb (backP ns) es w) := by
  have HA := Lib.hid ha
  obtain ⟨ad, ca, rfl, _, _⟩ := ha
  have hlb : lb < w.heap.size := by obtain ⟨v, hst⟩ := h; exact hst.1.lt
  obtain ⟨te, hte⟩ : ∃ te, topE es = te := ⟨_, rfl⟩
  obtain ⟨tb, htb⟩ : ∃ tb, topB es = tb := ⟨_, rfl⟩
  have HS := Lib.hid (And.intro h (And.intro hte htb))
  clear h hte htb
  go_enter Try.func14, Try.ntmps14
  go_wp2_with (first
    | (go_at_call 16; (with_reducible refine (top_m HS.out.1 HS.out.2.1 HS.out.2.2).mono ?_); rintro e w1 ⟨rfl, hb1⟩; have H1 := Lib.hid hb1; clear hb1))
  go_loopw [5, 6, 7] (fun n p o wr => ∃ (k bx : Nat) (te : Ent) (tb : Bool) (cur : List Ent), n = i64 k ∧ p = ptr bx ∧ o = .bool tb ∧ Hid (Top1 B lb (backP ns) es w wr k bx te tb cur)) (fun n _ _ _ => es.length + 1 - (intOf n).toNat)
  case atStart =>
    have hb := H1.out.alloc H1.out.size (.cells #[i64 te.id, i64 te.space, .string te.name] 27)
    exact ⟨0, w1.heap.size, te, tb, es, rfl, rfl, rfl, Lib.hid ⟨HS.out.1.below hb, Fr.of_below hb B LK, Blk.new _ _ _, HS.out.2.1, HS.out.2.2, rfl, rfl, by have := H1.out.size; omega, grown_below hb⟩⟩
  case round =>
    obtain ⟨k, bx, te2, tb2, cur, rfl, rfl, rfl, HT⟩ := hrel
    have hkl : k ≤ es.length := by have := HT.out.2.2.2.2.2.2.1; omega
    cases tb2
    · have hcur := topB_false HT.out.2.2.2.2.1
      have HC := Lib.hid hcur
      clear hcur
      go_wp2
      go_ret
      have h1 := HT.out.2.2.2.2.2.1
      have h2 := HT.out.2.2.2.2.2.2.1
      rw [HC.out, popW_nil] at h1
      rw [HC.out] at h2
      have h3 := HT.out.1
      rw [HC.out] at h3
      refine ⟨?_, by rw [← h1]; exact h3, HT.out.2.1, HT.out.2.2.2.2.2.2.2.2⟩
      rw [← h1]
      simp at h2
      subst h2
      simp
    · have hne := topB_true HT.out.2.2.2.2.1
      have HNE := Lib.hid hne
      obtain ⟨r, hr⟩ : ∃ r, isB ns te2 = r := ⟨_, rfl⟩
      have HRR := Lib.hid hr
      have x0 := HT.out.2.2.1.cell 0 (i64 te2.id) rfl
      have x1 := HT.out.2.2.1.cell 1 (i64 te2.space) rfl
      have x2 := HT.out.2.2.1.cell 2 (.string te2.name) rfl
      have HAR : Hid (NamesAt wr (.slice ad ns.length ca) ns) := Lib.hid (HA.out.grown HS.out.1 HT.out.2.2.2.2.2.2.2.2)
      clear hne hr
      cases r
      · have hpy : popW (backP ns) cur = popW (backP ns) cur.dropLast := popW_yes HNE.out (by unfold backP; rw [HT.out.2.2.2.1, HRR.out]; rfl)
        have HPY := Lib.hid hpy
        obtain ⟨te3, hte3⟩ : ∃ te, topE cur.dropLast = te := ⟨_, rfl⟩
        obtain ⟨tb3, htb3⟩ : ∃ tb, topB cur.dropLast = tb := ⟨_, rfl⟩
        have HT3 := Lib.hid (And.intro hte3 htb3)
        have hwk : IntKind.i64.wrap ((k : Int) + 1) = (k : Int) + 1 := IntWalk.i64_in _ (by omega)
        clear hpy hte3 htb3
        go_wp2_with (first
          | (go_at_call 27; (with_reducible refine (is_n HAR.out HRR.out).mono ?_); rintro e w2 ⟨rfl, hb2⟩; have H2 := Lib.hid hb2; clear hb2)
          | (go_at_call 23; (with_reducible refine (pop_n (HT.out.1.below H2.out) HT.out.2.2.2.1 HT.out.2.2.2.2.1).mono ?_); rintro e w3 ⟨rfl, hs3, hf3, hg3⟩; have hbx := blk_kept HT.out.2.2.1 H2.out; have hbx3 : Blk w3 bx 27 #[i64 te2.id, i64 te2.space, .string te2.name] := (hg3.block bx hbx.lt (fun e => HT.out.2.2.2.2.2.2.2.1 (Option.some.inj e))).trans hbx; have y0 := hbx3.cell 0 (i64 te2.id) rfl; have y1 := hbx3.cell 1 (i64 te2.space) rfl; have y2 := hbx3.cell 2 (.string te2.name) rfl; have H3 := Lib.hid (And.intro hs3 (And.intro ((HT.out.2.1.trans (Fr.of_below H2.out B LK)).trans hf3) ((HT.out.2.2.2.2.2.2.2.2.trans (grown_below H2.out)).trans hg3))); clear hs3 hf3 hg3 hbx hbx3)
          | (go_at_call 16; (with_reducible refine (top_m (H3.out.1.below ((Below.refl _ w3).alloc (Nat.le_refl _) (.cells #[i64 te2.id, i64 te2.space, .string te2.name] 27))) HT3.out.1 HT3.out.2).mono ?_); rintro e w5 ⟨rfl, hb5⟩; have hbo := blk_kept (Blk.new w3 27 #[i64 te2.id, i64 te2.space, .string te2.name]) hb5; have z0 := hbo.cell 0 (i64 te2.id) rfl; have z1 := hbo.cell 1 (i64 te2.space) rfl; have z2 := hbo.cell 2 (.string te2.name) rfl; have f0 := hbo.fro 0; have f1 := hbo.fro 1; have f2 := hbo.fro 2; have H5 := Lib.hid (And.intro hb5 hbo); clear hb5 hbo))
        go_roundw
        case rel =>
          have hw3 := H3.out.2.1.size
          have hb4 : Below w3.heap.size w3 w5 := ((Below.refl _ w3).alloc (Nat.le_refl _) (.cells #[i64 te2.id, i64 te2.space, .string te2.name] 27)).trans (H5.out.1.mono (by simp))
          refine ⟨k + 1, w3.heap.size, te3, tb3, cur.dropLast, by go_num, rfl, rfl, Lib.hid ⟨?_, ?_, box_set H5.out.2 _ _ _, HT3.out.1, HT3.out.2, HPY.out.symm.trans HT.out.2.2.2.2.2.1, ?_, ?_, ?_⟩⟩
          · obtain ⟨sv, hsv⟩ := H3.out.1
            have hsv5 := hsv.below hb4
            have hne : lb ≠ w3.heap.size := by omega
            have hob : sv.ownBlock ≠ some w3.heap.size := fun e => by
              have := (hsv.2.2.1.lt _ e).2
              omega
            exact ⟨sv, ((hsv5.far hne hob 0 _).far hne hob 1 _).far hne hob 2 _⟩
          · exact (((H3.out.2.1.trans (Fr.of_below hb4 B LK)).new hw3 0 _).new hw3 1 _).new hw3 2 _
          · have := HT.out.2.2.2.2.2.2.1
            have hlc : 0 < cur.length := List.length_pos_iff.2 HNE.out
            rw [List.length_dropLast]
            omega
          · omega
          · exact grown_new (grown_new (grown_new (H3.out.2.2.trans (grown_below hb4)) hw3 0 _) hw3 1 _) hw3 2 _
        case measure => simp [intOf]; omega
      · have hpn : popW (backP ns) cur = cur := popW_no HNE.out (by unfold backP; rw [HT.out.2.2.2.1, HRR.out]; rfl)
        have HPN := Lib.hid hpn
        clear hpn
        go_wp2_with (first
          | (go_at_call 27; (with_reducible refine (is_n HAR.out HRR.out).mono ?_); rintro e w2 ⟨rfl, hb2⟩; have H2 := Lib.hid hb2; clear hb2))
        go_ret
        have h1 := HT.out.2.2.2.2.2.1
        have h2 := HT.out.2.2.2.2.2.2.1
        rw [HPN.out] at h1
        refine ⟨?_, by rw [← h1]; exact HT.out.1.below H2.out, HT.out.2.1.trans (Fr.of_below H2.out B LK), HT.out.2.2.2.2.2.2.2.2.trans (grown_below H2.out)⟩
        rw [← h1]
        have h5 : (es.length : Int) - (cur.length : Int) = (k : Int) := by omega
        rw [h5]
        rfl

def liN : List ByteArray := [⟨#[108, 105]⟩, ⟨#[112]⟩]
def impP (but : ByteArray) (e : Ent) : Bool := isB liN e && !decide (e.name = but)

set_option maxHeartbeats 4000000 in
set_option maxRecDepth 100000 in
theorem implied_stk {w : World} {B lb : Nat} {es : List Ent} (but : ByteArray) (h : Stk w B lb es) (hl : es.length ≤ 1000) : Calls Try.prog 24 #[ptr lb, .string but] w (BackIt B lb (impP but) es w) := by
  have hlb : lb < w.heap.size := by obtain ⟨v, hst⟩ := h; exact hst.1.lt
  obtain ⟨te, hte⟩ : ∃ te, topE es = te := ⟨_, rfl⟩
  obtain ⟨tb, htb⟩ : ∃ tb, topB es = tb := ⟨_, rfl⟩
  have HS := Lib.hid (And.intro h (And.intro hte htb))
  clear h hte htb
  go_enter Try.func24, Try.ntmps24
  go_wp2_with (first
    | (go_at_call 16; (with_reducible refine (top_m HS.out.1 HS.out.2.1 HS.out.2.2).mono ?_); rintro e w1 ⟨rfl, hb1⟩; have H1 := Lib.hid hb1; clear hb1))
  go_loopw [5, 6, 7] (fun n p o wr => ∃ (k bx : Nat) (te : Ent) (tb : Bool) (cur : List Ent), n = i64 k ∧ p = ptr bx ∧ o = .bool tb ∧ Hid (Top1 B lb (impP but) es w wr k bx te tb cur)) (fun n _ _ _ => es.length + 1 - (intOf n).toNat)
  case atStart =>
    have hb := H1.out.alloc H1.out.size (.cells #[i64 te.id, i64 te.space, .string te.name] 27)
    exact ⟨0, w1.heap.size, te, tb, es, rfl, rfl, rfl, Lib.hid ⟨HS.out.1.below hb, Fr.of_below hb B LK, Blk.new _ _ _, HS.out.2.1, HS.out.2.2, rfl, rfl, by have := H1.out.size; omega, grown_below hb⟩⟩
  case round =>
    obtain ⟨k, bx, te2, tb2, cur, rfl, rfl, rfl, HT⟩ := hrel
    have hkl : k ≤ es.length := by have := HT.out.2.2.2.2.2.2.1; omega
    cases tb2
    · have hcur := topB_false HT.out.2.2.2.2.1
      have HC := Lib.hid hcur
      clear hcur
      go_wp2
      go_ret
      have h1 := HT.out.2.2.2.2.2.1
      have h2 := HT.out.2.2.2.2.2.2.1
      rw [HC.out, popW_nil] at h1
      rw [HC.out] at h2
      have h3 := HT.out.1
      rw [HC.out] at h3
      refine ⟨?_, by rw [← h1]; exact h3, HT.out.2.1, HT.out.2.2.2.2.2.2.2.2⟩
      rw [← h1]
      simp at h2
      subst h2
      simp
    · have hne := topB_true HT.out.2.2.2.2.1
      have HNE := Lib.hid hne
      obtain ⟨r, hr⟩ : ∃ r, isB [⟨#[108, 105]⟩, ⟨#[112]⟩] te2 = r := ⟨_, rfl⟩
      obtain ⟨q, hq⟩ : ∃ q, decide (te2.name = but) = q := ⟨_, rfl⟩
      have hq2 : (te2.name.toList == but.toList) = q := by rw [← name_eq]; exact hq
      have hq3 : (te2.name.toList != but.toList) = !q := by rw [bne, hq2]
      have HRR := Lib.hid (And.intro hr hq)
      have himp : impP but te2 = (r && !q) := by unfold impP liN; rw [hr, hq]
      have HIM := Lib.hid himp
      have x0 := HT.out.2.2.1.cell 0 (i64 te2.id) rfl
      have x1 := HT.out.2.2.1.cell 1 (i64 te2.space) rfl
      have x2 := HT.out.2.2.1.cell 2 (.string te2.name) rfl
      have hzb := HT.out.2.2.1.lt
      clear hne hr hq himp
      cases hrq : (r && !q)
      · have hpn : popW (impP but) cur = cur := popW_no HNE.out (by rw [HT.out.2.2.2.1, HIM.out, hrq])
        have HPN := Lib.hid hpn
        clear hpn
        have fin : ∀ w2 : World, Below wr.heap.size wr w2 → BackIt B lb (impP but) es w (.returned (i64 k)) w2 := by
          intro w2 hb2
          have h1 := HT.out.2.2.2.2.2.1
          have h2 := HT.out.2.2.2.2.2.2.1
          rw [HPN.out] at h1
          refine ⟨?_, by rw [← h1]; exact HT.out.1.below hb2, HT.out.2.1.trans (Fr.of_below hb2 B LK), HT.out.2.2.2.2.2.2.2.2.trans (grown_below hb2)⟩
          rw [← h1]
          have h5 : (es.length : Int) - (cur.length : Int) = (k : Int) := by omega
          rw [h5]
        have HF := Lib.hid fin
        clear fin
        cases r
        · go_wp2_with (first
            | (go_at_call 27; (with_reducible refine (is_n ((NamesAt.two wr ⟨#[108, 105]⟩ ⟨#[112]⟩ 9)) HRR.out.1).mono ?_); rintro e w2 ⟨rfl, hb2⟩; have H2 := Lib.hid (((Below.refl _ wr).alloc (Nat.le_refl _) (.cells #[.string ⟨#[108, 105]⟩, .string ⟨#[112]⟩] 9)).trans (hb2.mono (by simp))); clear hb2))
          go_ret
          exact HF.out _ H2.out
        · cases q
          · cases hrq
          · go_wp2_with (first
              | (go_at_call 27; (with_reducible refine (is_n ((NamesAt.two wr ⟨#[108, 105]⟩ ⟨#[112]⟩ 9)) HRR.out.1).mono ?_); rintro e w2 ⟨rfl, hb2⟩; have hbb := ((Below.refl _ wr).alloc (Nat.le_refl _) (.cells #[.string ⟨#[108, 105]⟩, .string ⟨#[112]⟩] 9)).trans (hb2.mono (by simp)); have v2 := (hbb.cell (p := ⟨bx, 2, none⟩) hzb).trans x2; have H2 := Lib.hid hbb; clear hb2 hbb))
            go_ret
            exact HF.out _ H2.out
      · have hr1 : r = true ∧ q = false := by cases r <;> cases q <;> simp_all
        obtain ⟨rfl, rfl⟩ := hr1
        have hpy : popW (impP but) cur = popW (impP but) cur.dropLast := popW_yes HNE.out (by rw [HT.out.2.2.2.1, HIM.out]; rfl)
        have HPY := Lib.hid hpy
        obtain ⟨te3, hte3⟩ : ∃ te, topE cur.dropLast = te := ⟨_, rfl⟩
        obtain ⟨tb3, htb3⟩ : ∃ tb, topB cur.dropLast = tb := ⟨_, rfl⟩
        have HT3 := Lib.hid (And.intro hte3 htb3)
        have hwk : IntKind.i64.wrap ((k : Int) + 1) = (k : Int) + 1 := IntWalk.i64_in _ (by omega)
        clear hpy hte3 htb3 hrq
        go_wp2_with (first
          | (go_at_call 27; (with_reducible refine (is_n ((NamesAt.two wr ⟨#[108, 105]⟩ ⟨#[112]⟩ 9)) HRR.out.1).mono ?_); rintro e w2 ⟨rfl, hb2⟩; have hbb := ((Below.refl _ wr).alloc (Nat.le_refl _) (.cells #[.string ⟨#[108, 105]⟩, .string ⟨#[112]⟩] 9)).trans (hb2.mono (by simp)); have v2 := (hbb.cell (p := ⟨bx, 2, none⟩) hzb).trans x2; have H2 := Lib.hid hbb; clear hb2 hbb)
          | (go_at_call 23; (with_reducible refine (pop_n (HT.out.1.below H2.out) HT.out.2.2.2.1 HT.out.2.2.2.2.1).mono ?_); rintro e w3 ⟨rfl, hs3, hf3, hg3⟩; have hbx := blk_kept HT.out.2.2.1 H2.out; have hbx3 : Blk w3 bx 27 #[i64 te2.id, i64 te2.space, .string te2.name] := (hg3.block bx hbx.lt (fun e => HT.out.2.2.2.2.2.2.2.1 (Option.some.inj e))).trans hbx; have y0 := hbx3.cell 0 (i64 te2.id) rfl; have y1 := hbx3.cell 1 (i64 te2.space) rfl; have y2 := hbx3.cell 2 (.string te2.name) rfl; have H3 := Lib.hid (And.intro hs3 (And.intro ((HT.out.2.1.trans (Fr.of_below H2.out B LK)).trans hf3) ((HT.out.2.2.2.2.2.2.2.2.trans (grown_below H2.out)).trans hg3))); clear hs3 hf3 hg3 hbx hbx3)
          | (go_at_call 16; (with_reducible refine (top_m (H3.out.1.below ((Below.refl _ w3).alloc (Nat.le_refl _) (.cells #[i64 te2.id, i64 te2.space, .string te2.name] 27))) HT3.out.1 HT3.out.2).mono ?_); rintro e w5 ⟨rfl, hb5⟩; have hbo := blk_kept (Blk.new w3 27 #[i64 te2.id, i64 te2.space, .string te2.name]) hb5; have z0 := hbo.cell 0 (i64 te2.id) rfl; have z1 := hbo.cell 1 (i64 te2.space) rfl; have z2 := hbo.cell 2 (.string te2.name) rfl; have f0 := hbo.fro 0; have f1 := hbo.fro 1; have f2 := hbo.fro 2; have H5 := Lib.hid (And.intro hb5 hbo); clear hb5 hbo))
        go_roundw
        case rel =>
          have hw3 := H3.out.2.1.size
          have hb4 : Below w3.heap.size w3 w5 := ((Below.refl _ w3).alloc (Nat.le_refl _) (.cells #[i64 te2.id, i64 te2.space, .string te2.name] 27)).trans (H5.out.1.mono (by simp))
          refine ⟨k + 1, w3.heap.size, te3, tb3, cur.dropLast, by go_num, rfl, rfl, Lib.hid ⟨?_, ?_, box_set H5.out.2 _ _ _, HT3.out.1, HT3.out.2, HPY.out.symm.trans HT.out.2.2.2.2.2.1, ?_, ?_, ?_⟩⟩
          · obtain ⟨sv, hsv⟩ := H3.out.1
            have hsv5 := hsv.below hb4
            have hne : lb ≠ w3.heap.size := by omega
            have hob : sv.ownBlock ≠ some w3.heap.size := fun e => by
              have := (hsv.2.2.1.lt _ e).2
              omega
            exact ⟨sv, ((hsv5.far hne hob 0 _).far hne hob 1 _).far hne hob 2 _⟩
          · exact (((H3.out.2.1.trans (Fr.of_below hb4 B LK)).new hw3 0 _).new hw3 1 _).new hw3 2 _
          · have := HT.out.2.2.2.2.2.2.1
            have hlc : 0 < cur.length := List.length_pos_iff.2 HNE.out
            rw [List.length_dropLast]
            omega
          · omega
          · exact grown_new (grown_new (grown_new (H3.out.2.2.trans (grown_below hb4)) hw3 0 _) hw3 1 _) hw3 2 _
        case measure => simp [intOf]; omega

end Go.Proofs.Ytdagjpiakbfjpaa
