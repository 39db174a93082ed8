/-
  (*List).Add, walked.
  Written by an AI agent.
-/
import Derived.Test.YtjopfgdgmniigaaDel
namespace Go.Proofs.Ytjopfgdgmniigaa
open Go.RowKit Go.Maps

def wrongB (mk : Bool) (id : Int) : Bool := mk || decide (id < 0)

set_option maxHeartbeats 1000000 in
theorem wrong_any {w : World} {mk : Bool} {id : Int} {nm : ByteArray} {ad : Option Addr} {n c : Nat} : Calls Try.prog 41 #[.agg #[.bool mk, i64 id, .string nm, .slice ad n c]] w fun e w' => e = .returned (.bool (wrongB mk id)) ∧ Below w.heap.size w w' := by
  cases mk
  · by_cases hi : id < 0
    · have h1 : decide (id < 0) = true := by simpa using hi
      go_enter Try.func41, Try.ntmps41
      go_wp2
      go_ret
      exact ⟨by unfold wrongB; rw [h1]; rfl, (Below.refl _ w).alloc (Nat.le_refl _) _⟩
    · have h1 : decide (id < 0) = false := by simpa using hi
      go_enter Try.func41, Try.ntmps41
      go_wp2
      go_ret
      exact ⟨by unfold wrongB; rw [h1]; rfl, (Below.refl _ w).alloc (Nat.le_refl _) _⟩
  · go_enter Try.func41, Try.ntmps41
    go_wp2
    go_ret
    exact ⟨rfl, (Below.refl _ w).alloc (Nat.le_refl _) _⟩

def alikeE (a b : Ent) : Bool := alikeB a.name a.attrs b.name b.attrs
def addL (es : List Ent) (e : Ent) : List Ent :=
  if 3 ≤ (es.drop (partE es)).countP (alikeE · e) then es.eraseIdx (partE es + (es.drop (partE es)).findIdx (alikeE · e)) ++ [e] else es ++ [e]

/-- What Add leaves. -/
def AddIt (B lb : Nat) (es : List Ent) (r : Int) (w : World) (e : Ending) (w' : World) : Prop :=
  e = .returned (i64 r) ∧ ListIs w' B lb 63 33 es ∧ Fr B LK w w'

set_option maxHeartbeats 2000000 in
theorem add_wrong {w : World} {B lb : Nat} {es : List Ent} {va : Value} {mk : Bool} {id : Int} {nm : ByteArray} {l : List Atr} (h : ListIs w B lb 63 33 es) (ha : AtrsAt w B va l) (hw : wrongB mk id = true) :
    Calls Try.prog 22 #[ptr lb, .agg #[.bool mk, i64 id, .string nm, va]] w (AddIt B lb es 1 w) := by
  have H := Lib.hid h
  obtain ⟨ad, c, rfl⟩ := ha.form
  have HW := Lib.hid hw
  clear h ha hw
  go_enter Try.func22, Try.ntmps22
  go_wp2_with (first | (go_at_call 41; (with_reducible refine wrong_any.mono ?_); rintro e w1 ⟨rfl, hb⟩; rw [HW.out]; have HB := Lib.hid hb; clear hb))
  go_ret
  have b1 := ((Below.refl w.heap.size w).alloc (Nat.le_refl _) (.cells #[.bool mk, i64 id, .string nm, .slice ad l.length c] 33))
  have b2 := b1.trans (HB.out.mono b1.size)
  exact ⟨rfl, H.out.below b2, Fr.of_below b2 B LK⟩

set_option maxHeartbeats 2000000 in
theorem add_full {w : World} {B lb : Nat} {es : List Ent} {va : Value} {mk : Bool} {id : Int} {nm : ByteArray} {l : List Atr} (h : ListIs w B lb 63 33 es) (hl : es.length = 100) (ha : AtrsAt w B va l) (hw : wrongB mk id = false) :
    Calls Try.prog 22 #[ptr lb, .agg #[.bool mk, i64 id, .string nm, va]] w (AddIt B lb es 5 w) := by
  have H := Lib.hid h
  obtain ⟨v, ps, ⟨hb, hB, hrow⟩, rfl⟩ := h
  obtain ⟨rd, rc, rfl⟩ := own_slice hrow.1
  obtain ⟨ad, c, rfl⟩ := ha.form
  have hlp : ps.length = 100 := by simpa using hl
  have c0 := hb.cell 0 _ rfl
  have hlb := hb.lt
  rw [hlp] at c0
  have HW := Lib.hid hw
  clear hb hrow ha hw hl hlp
  go_enter Try.func22, Try.ntmps22
  go_wp2_with (first | (go_at_call 41; (with_reducible refine wrong_any.mono ?_); rintro e w1 ⟨rfl, hb⟩; rw [HW.out]; have q0 := (hb.cell (p := ⟨lb, 0, none⟩) (Nat.lt_of_lt_of_le hlb (by simp))).trans ((((Below.refl w.heap.size w).alloc (Nat.le_refl _) _).cell (p := ⟨lb, 0, none⟩) hlb).trans c0); have HB := Lib.hid hb; clear hb))
  go_ret
  have b1 := ((Below.refl w.heap.size w).alloc (Nat.le_refl _) (.cells #[.bool mk, i64 id, .string nm, .slice ad l.length c] 33))
  have b2 := b1.trans (HB.out.mono b1.size)
  exact ⟨rfl, H.out.below b2, Fr.of_below b2 B LK⟩

/-- What the loop of Add has counted, j entries on. -/
def AddR (e : Ent) (D : List Ent) (p j : Nat) (first : Int) (c : Nat) : Prop :=
  (D.take j).countP (alikeE · e) = c ∧ (c = 0 → first = -1) ∧ (c ≠ 0 → first = ((p + D.findIdx (alikeE · e) : Nat) : Int) ∧ D.findIdx (alikeE · e) < j)

theorem AddR.zero (e : Ent) (D : List Ent) (p : Nat) : AddR e D p 0 (-1) 0 := ⟨by simp, fun _ => rfl, fun h => absurd rfl h⟩
theorem AddR.no {e x : Ent} {D : List Ent} {p j c : Nat} {first : Int} (h : AddR e D p j first c) (hx : D[j]? = some x) (ha : alikeE x e = false) : AddR e D p (j + 1) first c := by
  obtain ⟨h1, h2, h3⟩ := h
  refine ⟨?_, h2, fun hc => ⟨(h3 hc).1, by have := (h3 hc).2; omega⟩⟩
  rw [List.take_add_one, hx, List.countP_append, h1]
  simp [ha]
theorem AddR.yes {e x : Ent} {D : List Ent} {p j c : Nat} {first : Int} (h : AddR e D p j first c) (hx : D[j]? = some x) (ha : alikeE x e = true) :
    AddR e D p (j + 1) (if c = 0 then ((p + j : Nat) : Int) else first) (c + 1) := by
  obtain ⟨h1, h2, h3⟩ := h
  refine ⟨?_, fun h => by omega, fun _ => ?_⟩
  · rw [List.take_add_one, hx, List.countP_append, h1]
    simp [ha]
  · by_cases hc : c = 0
    · rw [if_pos hc]
      have hj : j < D.length := (List.getElem?_eq_some_iff.1 hx).1
      have hxj : D[j] = x := (List.getElem?_eq_some_iff.1 hx).2
      have hf : D.findIdx (alikeE · e) = j := by
        rw [List.findIdx_eq hj]
        refine ⟨by rw [hxj]; exact ha, fun i hi => ?_⟩
        rw [hc, List.countP_eq_zero] at h1
        have hm : D[i] ∈ D.take j := by
          rw [List.mem_take_iff_getElem]
          exact ⟨i, by omega, rfl⟩
        have := h1 _ hm
        simpa using this
      rw [hf]
      exact ⟨rfl, by omega⟩
    · rw [if_neg hc]
      exact ⟨(h3 hc).1, by have := (h3 hc).2; omega⟩

theorem put_n {w : World} {B lb n : Nat} {v va : Value} {ps : List (Ent × Value)} {mk : Bool} {id : Int} {nm : ByteArray} {l : List Atr} (h : ListAt w B lb 63 33 v ps) (hn : ps.length = n) (hl : n < 1000000) (ha : AtrsAt w B va l) :
    Calls Try.prog 44 #[ptr lb, i64 n, .agg #[.bool mk, i64 id, .string nm, va]] w (PutE B lb ps ⟨mk, id, nm, l⟩ w) := by
  subst hn
  exact put_end h hl ha
theorem put_i {w : World} {B lb n : Nat} {v va : Value} {ps : List (Ent × Value)} {mk : Bool} {id : Int} {nm : ByteArray} {l : List Atr} (h : ListAt w B lb 63 33 v ps) (hn : ps.length = n) (hl : n < 1000000) (ha : AtrsAt w B va l) {m : Int} (hm : m = (n : Int)) :
    Calls Try.prog 44 #[ptr lb, .int .i64 m, .agg #[.bool mk, i64 id, .string nm, va]] w (PutE B lb ps ⟨mk, id, nm, l⟩ w) := by
  subst hn hm
  exact put_end h hl ha
theorem del_done {wr w5 : World} {B lb g a k n rc : Nat} {ps A C : List (Ent × Value)} {px : Ent × Value} (h : ListAt wr B lb 63 33 (.slice (some ⟨g, 0, none⟩) n rc) ps) (hsp : ps = A ++ px :: C)
    (hown5 : w5.ownsRow B 33 4 (.slice (some ⟨g, 0, none⟩) (a + k) rc) (a + k) (flatP (A ++ C))) (hgrow : wr.grownBy w5 (some g)) (hA : A.length = a) (hC : C.length = k) (hl : a + k ≤ 1000000) :
    ListAt (w5.setCell ⟨lb, 0, none⟩ (.slice (some ⟨g, 0, none⟩) (a + k) rc)) B lb 63 33 (.slice (some ⟨g, 0, none⟩) (a + k) rc) (A ++ C) ∧ Fr B LK wr (w5.setCell ⟨lb, 0, none⟩ (.slice (some ⟨g, 0, none⟩) (a + k) rc)) := by
  have F1 : Fr B K33 wr w5 := grown_fr (v := .slice (some ⟨g, 0, none⟩) n rc) hgrow h.2.2.1
  have hb5 : Blk w5 lb 63 #[.slice (some ⟨g, 0, none⟩) n rc] := F1.blk h.1 (.inr rfl)
  have F2 : Fr B LK wr (w5.setCell ⟨lb, 0, none⟩ (.slice (some ⟨g, 0, none⟩) (a + k) rc)) := (F1.mono (Nat.le_refl _) k33_lk).setCell hb5 rfl h.2.1 0 _
  refine ⟨⟨hb5.put 0 _, h.2.1, ?_, ?_, ?_⟩, F2⟩
  · have := own_setCell hown5 hb5 (by decide) 0 (.slice (some ⟨g, 0, none⟩) (a + k) rc)
    rw [List.length_append, hA, hC]
    exact this
  · simp; omega
  · intro p hp
    refine (h.2.2.2.2 p ?_).fr F2 (Nat.le_refl _) (fun _ _ => rfl)
    rw [hsp]
    rcases List.mem_append.1 hp with hp | hp
    · exact List.mem_append_left _ hp
    · exact List.mem_append_right _ (List.mem_cons_of_mem _ hp)

theorem AtrsAt.fit {w : World} {B : Nat} {v : Value} {l : List Atr} (h : AtrsAt w B v l) : ∃ ad n c, v = .slice ad n c := by
  obtain ⟨ad, c, e, _⟩ := h
  exact ⟨ad, _, c, e⟩

set_option maxHeartbeats 8000000 in
set_option maxRecDepth 10000 in
theorem add_ok {w : World} {B lb : Nat} {es : List Ent} {va : Value} {mk : Bool} {id : Int} {nm : ByteArray} {l : List Atr} (h : ListIs w B lb 63 33 es) (hl : es.length < 100) (ha : AtrsAt w B va l) (hw : wrongB mk id = false) :
    Calls Try.prog 22 #[ptr lb, .agg #[.bool mk, i64 id, .string nm, va]] w (AddIt B lb (addL es ⟨mk, id, nm, l⟩) 0 w) := by
  have H := Lib.hid (And.intro h ha)
  obtain ⟨v, ps, hlist, hes⟩ := h
  obtain ⟨rd, rc, hv⟩ := own_slice hlist.2.2.1
  subst hv
  obtain ⟨ad, c, hva⟩ := ha.form
  subst hva
  obtain ⟨n, hn⟩ : ∃ n, ps.length = n := ⟨_, rfl⟩
  obtain ⟨na, hna⟩ : ∃ na, l.length = na := ⟨_, rfl⟩
  obtain ⟨p, hp⟩ : ∃ p, partE es = p := ⟨_, rfl⟩
  have hn100 : n < 100 := by rw [← hn]; rw [← hes] at hl; simpa using hl
  have hpn : p ≤ n := by
    have h1 := partE_le es
    have h2 : es.length = ps.length := by rw [← hes]; simp
    omega
  have c0 := hlist.1.cell 0 _ rfl
  have hlb := hlist.1.lt
  have HL := Lib.hid hlist
  rw [hn] at c0 HL
  rw [hna] at H ⊢
  have HW := Lib.hid hw
  have HE := Lib.hid (And.intro hes (And.intro hn (And.intro hna hp)))
  have hbox := Blk.new w 33 #[.bool mk, i64 id, .string nm, .slice ad na c]
  have HBX := Lib.hid hbox
  have n100 : ((n : Int) == 100) = false := by simp; omega
  obtain ⟨rd', rc', hve, hnc, hcm, hr⟩ := hlist.2.2.form
  simp only [Value.slice.injEq, true_and] at hve
  obtain ⟨rfl, rfl⟩ := hve
  rw [hn] at hnc
  have HR := Lib.hid hr
  clear hlist ha hw hl hes hn hna hp hbox hr
  go_enter Try.func22, Try.ntmps22
  go_wp2_with (first
    | (go_at_call 41; (with_reducible refine wrong_any.mono ?_); rintro e w1 ⟨rfl, hb⟩; rw [HW.out]; have q0 := (hb.cell (p := ⟨lb, 0, none⟩) (Nat.lt_of_lt_of_le hlb (by simp))).trans ((((Below.refl w.heap.size w).alloc (Nat.le_refl _) _).cell (p := ⟨lb, 0, none⟩) hlb).trans c0); have HB := Lib.hid hb; clear hb)
    | (go_at_call 38; (with_reducible refine (last_any ((H.out.1.below ((Below.refl _ w).alloc (Nat.le_refl _) _)).below HB.out)).mono ?_); rintro e w2 ⟨rfl, rfl⟩; rw [HE.out.2.2.2]))
  have hbw : Below w.heap.size w w2 := by
    have b1 := ((Below.refl w.heap.size w).alloc (Nat.le_refl _) (.cells #[.bool mk, i64 id, .string nm, .slice ad na c] 33))
    exact b1.trans (HB.out.mono b1.size)
  have HBW := Lib.hid hbw
  have HBX2 := Lib.hid ((HB.out.block w.heap.size HBX.out.lt).trans HBX.out)
  clear hbw
  go_loopw [5, 6, 7] (fun f cv i wr => ∃ (first : Int) (cc q : Nat), f = i64 first ∧ cv = i64 cc ∧ i = i64 q ∧ p ≤ q ∧ q ≤ n ∧ cc ≤ q ∧ Hid (AddR ⟨mk, id, nm, l⟩ (es.drop p) p (q - p) first cc) ∧ Below w2.heap.size w2 wr) (fun _ _ i _ => n - (intOf i).toNat)
  case atStart => exact ⟨-1, 0, p, rfl, rfl, rfl, Nat.le_refl _, hpn, Nat.zero_le _, Lib.hid (by rw [Nat.sub_self]; exact AddR.zero _ _ _), Below.refl _ _⟩
  case round =>
    obtain ⟨first, cc, q, rfl, rfl, rfl, hpq, hqn, hcq, HA, hbel⟩ := hrel
    have q0' := (hbel.cell (p := ⟨lb, 0, none⟩) (Nat.lt_of_lt_of_le hlb HBW.out.size)).trans q0
    by_cases hlt : q < n
    · obtain ⟨⟨⟨emk, eid, enm, eat⟩, ev⟩, hx⟩ : ∃ x, ps[q]? = some x := ⟨_, List.getElem?_eq_getElem (by rw [HE.out.2.1]; exact hlt)⟩
      obtain ⟨g, hrd, _, hg, hc⟩ := HR.out (fun e => by rw [e] at hx; simp at hx)
      obtain ⟨d0, d1, d2, d3⟩ := hc q _ hx
      have hga : g < w2.heap.size := Nat.lt_of_lt_of_le hg HBW.out.size
      have hat := HL.out.2.2.2.2 _ (List.mem_of_getElem? hx)
      simp only at hat d0 d1 d2 d3
      obtain ⟨ea, en, ec, hev⟩ := hat.fit
      subst hev
      have up := fun (o : Nat) => (hbel.cell (p := ⟨g, o, none⟩) hga).trans (HBW.out.cell (p := ⟨g, o, none⟩) hg)
      have hbx : Blk wr w.heap.size 33 #[.bool mk, i64 id, .string nm, .slice ad na c] := (hbel.block w.heap.size (Blk.lt HBX2.out)).trans HBX2.out
      have l0 : ∀ d, (World.mk wr.heap wr.tape d wr.os wr.output).cell? ⟨lb, 0, none⟩ = some (.slice rd n rc) := fun _ => q0'
      have l1 : ∀ d, (World.mk wr.heap wr.tape d wr.os wr.output).cell? ⟨g, q * 4, none⟩ = some (.bool emk) := fun _ => (up _).trans d0
      have l2 : ∀ d, (World.mk wr.heap wr.tape d wr.os wr.output).cell? ⟨g, q * 4 + 1, none⟩ = some (i64 eid) := fun _ => (up _).trans d1
      have l3 : ∀ d, (World.mk wr.heap wr.tape d wr.os wr.output).cell? ⟨g, q * 4 + 2, none⟩ = some (.string enm) := fun _ => (up _).trans d2
      have l4 : ∀ d, (World.mk wr.heap wr.tape d wr.os wr.output).cell? ⟨g, q * 4 + 3, none⟩ = some (.slice ea en ec) := fun _ => (up _).trans d3
      have b0 : ∀ d, (World.mk wr.heap wr.tape d wr.os wr.output).cell? ⟨w.heap.size, 0, none⟩ = some (.bool mk) := fun _ => hbx.cell 0 _ rfl
      have b1 : ∀ d, (World.mk wr.heap wr.tape d wr.os wr.output).cell? ⟨w.heap.size, 1, none⟩ = some (i64 id) := fun _ => hbx.cell 1 _ rfl
      have b2 : ∀ d, (World.mk wr.heap wr.tape d wr.os wr.output).cell? ⟨w.heap.size, 2, none⟩ = some (.string nm) := fun _ => hbx.cell 2 _ rfl
      have b3 : ∀ d, (World.mk wr.heap wr.tape d wr.os wr.output).cell? ⟨w.heap.size, 3, none⟩ = some (.slice ad na c) := fun _ => hbx.cell 3 _ rfl
      have hD : (es.drop p)[q - p]? = some ⟨emk, eid, enm, eat⟩ := by
        rw [List.getElem?_drop, show p + (q - p) = q by omega, ← HE.out.1, List.getElem?_map, hx]
        rfl
      obtain ⟨ab, hab⟩ : ∃ ab, alikeB enm eat nm l = ab := ⟨_, rfl⟩
      have hbw2 : Below w.heap.size w wr := HBW.out.trans (hbel.mono HBW.out.size)
      have HX := Lib.hid (And.intro hD hab)
      have HT := Lib.hid (And.intro (hat.below hbw2) (H.out.2.below hbw2))
      have HRD := Lib.hid hrd
      have HBE := Lib.hid hbel
      clear hx hc d0 d1 d2 d3 hat up hbx hD hab hbw2 hrd hbel q0'
      rw [HRD.out] at l0 ⊢
      have hbs : lb < wr.heap.size := Nat.lt_of_lt_of_le (Nat.lt_of_lt_of_le hlb HBW.out.size) HBE.out.size
      go_wp2_with fail
      go_still_tail 8, (by kernel_rfl)
      change wpList _ _ _ _ _ wr.drew
      clear l0 l1 l2 l3 l4 b0 b1 b2 b3
      cases ab
      case false =>
        go_wp2_with (first | (go_at_call 42; (with_reducible refine (alike_any (AtrsAt.below HT.out.1 ((Below.refl _ wr).drew)) (AtrsAt.below HT.out.2 ((Below.refl _ wr).drew))).mono ?_); rintro e w4 ⟨rfl, hb4⟩; rw [HX.out.2]; have HB4 := Lib.hid hb4; clear hb4))
        go_roundw
        case rel =>
          have hb5 := HBE.out.trans ((((Below.refl wr.heap.size wr).drew).trans HB4.out).mono HBE.out.size)
          refine ⟨first, cc, q + 1, rfl, rfl, by go_num, by omega, by omega, by omega, Lib.hid ?_, hb5⟩
          rw [show q + 1 - p = q - p + 1 by omega]
          exact HA.out.no HX.out.1 HX.out.2
        case measure => simp [intOf]; omega
      case true =>
        by_cases hcc : cc = 0
        · have z1 : ((cc : Int) == 0) = true := by simp; omega
          go_wp2_with (first | (go_at_call 42; (with_reducible refine (alike_any (AtrsAt.below HT.out.1 ((Below.refl _ wr).drew)) (AtrsAt.below HT.out.2 ((Below.refl _ wr).drew))).mono ?_); rintro e w4 ⟨rfl, hb4⟩; rw [HX.out.2]; have HB4 := Lib.hid hb4; clear hb4))
          go_roundw
          case rel =>
            have hb5 := HBE.out.trans ((((Below.refl wr.heap.size wr).drew).trans HB4.out).mono HBE.out.size)
            refine ⟨(q : Int), cc + 1, q + 1, rfl, by go_num, by go_num, by omega, by omega, by omega, Lib.hid ?_, hb5⟩
            rw [show q + 1 - p = q - p + 1 by omega]
            have := HA.out.yes HX.out.1 HX.out.2
            rw [if_pos hcc, show p + (q - p) = q by omega] at this
            exact this
          case measure => simp [intOf]; omega
        · have z1 : ((cc : Int) == 0) = false := by simp; omega
          go_wp2_with (first | (go_at_call 42; (with_reducible refine (alike_any (AtrsAt.below HT.out.1 ((Below.refl _ wr).drew)) (AtrsAt.below HT.out.2 ((Below.refl _ wr).drew))).mono ?_); rintro e w4 ⟨rfl, hb4⟩; rw [HX.out.2]; have HB4 := Lib.hid hb4; clear hb4))
          go_roundw
          case rel =>
            have hb5 := HBE.out.trans ((((Below.refl wr.heap.size wr).drew).trans HB4.out).mono HBE.out.size)
            refine ⟨first, cc + 1, q + 1, rfl, by go_num, by go_num, by omega, by omega, by omega, Lib.hid ?_, hb5⟩
            rw [show q + 1 - p = q - p + 1 by omega]
            have := HA.out.yes HX.out.1 HX.out.2
            rw [if_neg hcc] at this
            exact this
          case measure => simp [intOf]; omega
    · have hqe : q = n := by omega
      have hDl : (es.drop p).length = n - p := by
        have h2 : es.length = ps.length := by rw [← HE.out.1]; simp
        rw [List.length_drop, h2, HE.out.2.1]
      have hcnt : (es.drop p).countP (alikeE · ⟨mk, id, nm, l⟩) = cc := by
        have := HA.out.1
        rw [List.take_of_length_le (by omega)] at this
        exact this
      have hbw2 : Below w.heap.size w wr := HBW.out.trans (hbel.mono HBW.out.size)
      have hlist := HL.out.below hbw2
      have hatr := H.out.2.below hbw2
      have hbx : Blk wr w.heap.size 33 #[.bool mk, i64 id, .string nm, .slice ad na c] := (hbel.block w.heap.size (Blk.lt HBX2.out)).trans HBX2.out
      by_cases h3 : 3 ≤ cc
      · have z1 : decide ((3 : Int) ≤ (cc : Int)) = true := by simp; omega
        obtain ⟨hf1, hf2⟩ := HA.out.2.2 (by omega)
        obtain ⟨a, hadef⟩ : ∃ a, p + (es.drop p).findIdx (alikeE · ⟨mk, id, nm, l⟩) = a := ⟨_, rfl⟩
        rw [hadef] at hf1
        subst hf1
        have han : a < n := by omega
        have hadd : addL es ⟨mk, id, nm, l⟩ = es.eraseIdx a ++ [⟨mk, id, nm, l⟩] := by
          unfold addL
          rw [HE.out.2.2.2, hcnt, if_pos h3, hadef]
        obtain ⟨k, hk⟩ : ∃ k, n = a + 1 + k := ⟨n - a - 1, by omega⟩
        obtain ⟨g, hrd, hBg, hg, _⟩ := HR.out (fun e => by have := HE.out.2.1; rw [e] at this; simp at this; omega)
        have hal : a < ps.length := by rw [HE.out.2.1]; exact han
        obtain ⟨A, px, C, hsp, hA, hC⟩ : ∃ A px C, ps = A ++ px :: C ∧ A.length = a ∧ C.length = k := by
          refine ⟨ps.take a, ps[a], ps.drop (a + 1), ?_, ?_, ?_⟩
          · rw [← List.drop_eq_getElem_cons hal, List.take_append_drop]
          · rw [List.length_take]; omega
          · rw [List.length_drop, HE.out.2.1]; omega
        have her : es.eraseIdx a = (A ++ C).map (·.1) := by
          rw [← HE.out.1, hsp, List.map_append, List.map_cons, List.eraseIdx_append_of_length_le (by simp; omega)]
          simp [hA]
        have hone : ∀ y ∈ C, y.2.oneCell' = true := fun y hy => by
          obtain ⟨_, _, _, e⟩ := (hlist.2.2.2.2 y (by rw [hsp]; simp [hy])).fit
          rw [e]; rfl
        subst hk
        rw [hrd] at hlist q0'
        have hown : wr.ownsRow B 33 4 (.slice (some ⟨g, 0, none⟩) (a + 1 + k) rc) (a + 1 + k) (flatP (A ++ px :: C)) := by
          have := hlist.2.2.1
          rw [HE.out.2.1, hsp] at this
          exact this
        have HF := Lib.hid (And.intro hlist (And.intro hatr (And.intro hadd (And.intro hbw2 (And.intro hbx (And.intro hown (And.intro hA (And.intro hC (And.intro hone (And.intro her hsp))))))))))
        have HRD := Lib.hid hrd
        have hlbr : lb < wr.heap.size := hlist.1.lt
        clear hlist hatr hadd hbw2 hbx hDl hcnt hbel hf2 hadef hrd hsp hA hC hone her hown
        rw [HRD.out]
        go_wp2_with (first | (go_at_call 43; (with_reducible refine (delete_one HF.out.2.2.2.2.2.1 HF.out.2.2.2.2.2.2.1 HF.out.2.2.2.2.2.2.2.1 (by omega) HF.out.2.2.2.2.2.2.2.2.1).mono ?_); rintro e w5 ⟨rfl, hown5, hgrow5⟩; have hk5 := (hgrow5.block lb HF.out.1.1.lt (fun e => own_ne HF.out.2.2.2.2.2.1 HF.out.1.1 (by decide) e.symm)).trans HF.out.1.1; have z5 := Blk.cell hk5 0 _ rfl; have zf := Blk.fro hk5 0; have H5 := Lib.hid (And.intro hown5 (And.intro hgrow5 hk5)); clear hown5 hgrow5 hk5))
        obtain ⟨hl6, F6⟩ := del_done HF.out.1 HF.out.2.2.2.2.2.2.2.2.2.2 H5.out.1 H5.out.2.1 HF.out.2.2.2.2.2.2.1 HF.out.2.2.2.2.2.2.2.1 (by omega)
        have hb6 : Blk (w5.setCell ⟨lb, 0, none⟩ (.slice (some ⟨g, 0, none⟩) (a + k) rc)) w.heap.size 33 #[.bool mk, i64 id, .string nm, .slice ad na c] := by
          have hne : w.heap.size ≠ g := by omega
          have h1 : Blk w5 w.heap.size 33 #[.bool mk, i64 id, .string nm, .slice ad na c] := (H5.out.2.1.block w.heap.size HF.out.2.2.2.2.1.lt (fun e => hne (Option.some.inj e))).trans HF.out.2.2.2.2.1
          exact h1.far (by simp; omega) _
        have ha6 := HF.out.2.1.fr F6 (Nat.le_refl _) (fun _ _ => rfl)
        have q6 := hl6.1.cell 0 _ rfl
        generalize w5.setCell ⟨lb, 0, none⟩ (.slice (some ⟨g, 0, none⟩) (a + k) rc) = w6 at hl6 F6 hb6 ha6 q6 ⊢
        have l0 : ∀ d, (World.mk w6.heap w6.tape d w6.os w6.output).cell? ⟨lb, 0, none⟩ = some (.slice (some ⟨g, 0, none⟩) (a + k) rc) := fun _ => q6
        have b0 : ∀ d, (World.mk w6.heap w6.tape d w6.os w6.output).cell? ⟨w.heap.size, 0, none⟩ = some (.bool mk) := fun _ => hb6.cell 0 _ rfl
        have b1 : ∀ d, (World.mk w6.heap w6.tape d w6.os w6.output).cell? ⟨w.heap.size, 1, none⟩ = some (i64 id) := fun _ => hb6.cell 1 _ rfl
        have b2 : ∀ d, (World.mk w6.heap w6.tape d w6.os w6.output).cell? ⟨w.heap.size, 2, none⟩ = some (.string nm) := fun _ => hb6.cell 2 _ rfl
        have b3 : ∀ d, (World.mk w6.heap w6.tape d w6.os w6.output).cell? ⟨w.heap.size, 3, none⟩ = some (.slice ad na c) := fun _ => hb6.cell 3 _ rfl
        have H6 := Lib.hid (And.intro hl6 (And.intro ha6 F6))
        have hlen6 : (A ++ C).length = a + k := by rw [List.length_append, HF.out.2.2.2.2.2.2.1, HF.out.2.2.2.2.2.2.2.1]
        have HL6 := Lib.hid hlen6
        clear hl6 ha6 F6 hb6 q6 hlen6 z5 zf
        go_still_tail 7, (by kernel_rfl)
        change wpList _ _ _ _ _ w6.drew
        clear l0 b0 b1 b2 b3
        go_wp2_with (first | (go_at_call 44; (with_reducible refine (put_i (n := a + k) (ListAt.below H6.out.1 ((Below.refl _ w6).drew)) HL6.out (by omega) (AtrsAt.below H6.out.2.1 ((Below.refl _ w6).drew)) (by simp)).mono ?_); rintro e w7 ⟨rfl, v7, va7, hl7, _, hf7⟩; have H7 := Lib.hid (And.intro hl7 hf7); clear hl7 hf7))
        go_ret
        exact ⟨rfl, ⟨_, _, H7.out.1, by rw [HF.out.2.2.1, HF.out.2.2.2.2.2.2.2.2.2.1]; simp⟩, (((Fr.of_below HF.out.2.2.2.1 B LK).trans H6.out.2.2).drew).trans H7.out.2⟩
      · have z1 : decide ((3 : Int) ≤ (cc : Int)) = false := by simp; omega
        have hadd : addL es ⟨mk, id, nm, l⟩ = es ++ [⟨mk, id, nm, l⟩] := by
          unfold addL
          rw [HE.out.2.2.2, hcnt, if_neg h3]
        have l0 : ∀ d, (World.mk wr.heap wr.tape d wr.os wr.output).cell? ⟨lb, 0, none⟩ = some (.slice rd n rc) := fun _ => q0'
        have b0 : ∀ d, (World.mk wr.heap wr.tape d wr.os wr.output).cell? ⟨w.heap.size, 0, none⟩ = some (.bool mk) := fun _ => hbx.cell 0 _ rfl
        have b1 : ∀ d, (World.mk wr.heap wr.tape d wr.os wr.output).cell? ⟨w.heap.size, 1, none⟩ = some (i64 id) := fun _ => hbx.cell 1 _ rfl
        have b2 : ∀ d, (World.mk wr.heap wr.tape d wr.os wr.output).cell? ⟨w.heap.size, 2, none⟩ = some (.string nm) := fun _ => hbx.cell 2 _ rfl
        have b3 : ∀ d, (World.mk wr.heap wr.tape d wr.os wr.output).cell? ⟨w.heap.size, 3, none⟩ = some (.slice ad na c) := fun _ => hbx.cell 3 _ rfl
        have HF := Lib.hid (And.intro hlist (And.intro hatr (And.intro hadd hbw2)))
        clear hlist hatr hadd hbw2 hbx hDl hcnt hbel
        go_wp2_with fail
        go_still_tail 7, (by kernel_rfl)
        change wpList _ _ _ _ _ wr.drew
        clear l0 b0 b1 b2 b3
        go_wp2_with (first | (go_at_call 44; (with_reducible refine (put_n (ListAt.below HF.out.1 ((Below.refl _ wr).drew)) HE.out.2.1 (by omega) (AtrsAt.below HF.out.2.1 ((Below.refl _ wr).drew))).mono ?_); rintro e w5 ⟨rfl, v5, va5, hl5, _, hf5⟩; have H5 := Lib.hid (And.intro hl5 hf5); clear hl5 hf5))
        go_ret
        exact ⟨rfl, ⟨_, _, H5.out.1, by rw [HF.out.2.2.1, ← HE.out.1]; simp⟩, ((Fr.of_below HF.out.2.2.2 B LK).drew).trans H5.out.2⟩

end Go.Proofs.Ytjopfgdgmniigaa
