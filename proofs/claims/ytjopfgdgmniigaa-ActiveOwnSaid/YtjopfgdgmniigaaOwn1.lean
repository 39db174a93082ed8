/-
  (*List).Add on an empty list; (*List).All, whose attributes lie in rows of their own.
  Written by an AI agent.
-/
import Derived.Test.YtjopfgdgmniigaaMark
import Derived.Test.YtjopfgdgmniigaaNil
namespace Go.Proofs.Ytjopfgdgmniigaa
open Go.RowKit Go.Maps

theorem put_0 {w : World} {B lb : Nat} {v va : Value} {mk : Bool} {id : Int} {nm : ByteArray} {l : List Atr} (h : ListAt w B lb 63 33 v []) (ha : AtrsAt w B va l) :
    Calls Try.prog 44 #[ptr lb, .int .i64 0, .agg #[.bool mk, i64 id, .string nm, va]] w (PutE B lb [] ⟨mk, id, nm, l⟩ w) := put_i h (n := 0) rfl (by omega) ha (m := 0) rfl

set_option maxHeartbeats 4000000 in
theorem add_first {w : World} {B lb : Nat} {va : Value} {mk : Bool} {id : Int} {nm : ByteArray} {l : List Atr} (h : ListIs w B lb 63 33 []) (ha : AtrsAt w B va l) (hw : wrongB mk id = false) :
    Calls Try.prog 22 #[ptr lb, .agg #[.bool mk, i64 id, .string nm, va]] w fun e w' => e = .returned (i64 0) ∧ ∃ v' va', ListAt w' B lb 63 33 v' [(⟨mk, id, nm, l⟩, va')] ∧ w'.ownsRow w.heap.size 60 2 va' l.length (flatA l) ∧ Fr B LK w w' := by
  have H := Lib.hid (And.intro h ha)
  obtain ⟨v, ps, hlist, hes⟩ := h
  obtain ⟨rd, rc, hv⟩ := own_slice hlist.2.2.1
  subst hv
  have hps : ps = [] := by simpa using hes
  subst hps
  obtain ⟨ad, na, c, hva⟩ := ha.fit
  subst hva
  have c0 := hlist.1.cell 0 (.slice rd 0 rc) rfl
  have hlb := hlist.1.lt
  have HL := Lib.hid hlist
  have HW := Lib.hid hw
  have hbox := Blk.new w 33 #[.bool mk, i64 id, .string nm, .slice ad na c]
  have HBX := Lib.hid hbox
  clear hlist ha hw hes hbox
  go_enter Try.func22, Try.ntmps22
  go_wp2_with (first
    | (go_at_call 41; (with_reducible refine wrong_any.mono ?_); rintro e w1 ⟨rfl, hb⟩; rw [HW.out]; have q0 := (hb.cell (p := ⟨lb, 0, none⟩) (Nat.lt_of_lt_of_le hlb (by simp))).trans ((((Below.refl w.heap.size w).alloc (Nat.le_refl _) _).cell (p := ⟨lb, 0, none⟩) hlb).trans c0); have HB := Lib.hid hb; clear hb)
    | (go_at_call 38; (with_reducible refine (last_any (es := []) ((H.out.1.below ((Below.refl _ w).alloc (Nat.le_refl _) _)).below HB.out)).mono ?_); rintro e w2 ⟨rfl, rfl⟩))
  have hbw : Below w.heap.size w w2 := by
    have b1 := ((Below.refl w.heap.size w).alloc (Nat.le_refl _) (.cells #[.bool mk, i64 id, .string nm, .slice ad na c] 33))
    exact b1.trans (HB.out.mono b1.size)
  have HBW := Lib.hid hbw
  have hbx : Blk w2 w.heap.size 33 #[.bool mk, i64 id, .string nm, .slice ad na c] := (HB.out.block w.heap.size HBX.out.lt).trans HBX.out
  have b0 := hbx.cell 0 (.bool mk) rfl
  have b1 := hbx.cell 1 (i64 id) rfl
  have b2 := hbx.cell 2 (.string nm) rfl
  have b3 := hbx.cell 3 (.slice ad na c) rfl
  clear hbw hbx
  go_loopw [5, 6, 7] (fun f cv i wr => f = i64 (-1) ∧ cv = i64 0 ∧ i = i64 0 ∧ wr = w2) (fun _ _ i _ => 0)
  case atStart => exact ⟨rfl, rfl, rfl, rfl⟩
  case round =>
    obtain ⟨rfl, rfl, rfl, rfl⟩ := hrel
    have l0 : ∀ d, (World.mk wr.heap wr.tape d wr.os wr.output).cell? ⟨lb, 0, none⟩ = some (.slice rd 0 rc) := fun _ => q0
    have l1 : ∀ d, (World.mk wr.heap wr.tape d wr.os wr.output).cell? ⟨w.heap.size, 0, none⟩ = some (.bool mk) := fun _ => b0
    have l2 : ∀ d, (World.mk wr.heap wr.tape d wr.os wr.output).cell? ⟨w.heap.size, 1, none⟩ = some (i64 id) := fun _ => b1
    have l3 : ∀ d, (World.mk wr.heap wr.tape d wr.os wr.output).cell? ⟨w.heap.size, 2, none⟩ = some (.string nm) := fun _ => b2
    have l4 : ∀ d, (World.mk wr.heap wr.tape d wr.os wr.output).cell? ⟨w.heap.size, 3, none⟩ = some (.slice ad na c) := fun _ => b3
    go_wp2_with fail
    go_still_tail 7, (by kernel_rfl)
    change wpList _ _ _ _ _ wr.drew
    clear l0 l1 l2 l3 l4
    go_wp2_with (first
      | (go_at_call 44; (with_reducible refine (put_0 (ListAt.below HL.out HBW.out.drew) (H.out.2.below HBW.out.drew)).mono ?_); rintro e w3 ⟨rfl, v3, va3, hl3, ho3, hf3⟩; have H3 := Lib.hid (And.intro hl3 (And.intro ho3 hf3)); clear hl3 ho3 hf3))
    go_ret
    exact ⟨rfl, _, _, H3.out.1, own_mono H3.out.2.1 HBW.out.size, (Fr.of_below HBW.out.drew B LK).trans H3.out.2.2⟩

/-- Rows of their own for the attributes. -/
def OwnAll (w : World) (B : Nat) (ps : List (Ent × Value)) : Prop := ∀ p ∈ ps, w.ownsRow B 60 2 p.2 p.1.attrs.length (flatA p.1.attrs)

theorem own_done {w wr w1 w4 : World} {en : Nat} {oa ua : Option Addr} {oc uc : Nat} {qs : List (Ent × Value)} {e0 : Ent} {o o' : Obj} (hbel : Below w.heap.size w wr) (h : RowE wr w.heap.size 33 (.slice oa qs.length oc) qs) (ho : OwnAll wr w.heap.size qs) (hen : e0.attrs.length = en)
    (hown : w1.ownsRow (wr.alloc o).heap.size 60 2 (.slice ua en uc) en (flatA e0.attrs)) (hb1 : Below (wr.alloc o).heap.size (wr.alloc o) w1)
    (hgrow : (w1.alloc o').grownBy w4 (Value.slice oa qs.length oc).ownBlock) :
    OwnAll w4 w.heap.size (qs ++ [(e0, .slice ua en uc)]) := by
  subst hen
  have hrow := all_own (o' := o') h.1 hb1
  have F1 : Fr w.heap.size K33 wr w1 := ((Fr.refl w.heap.size K33 wr).alloc o).trans (Fr.of_below hb1 w.heap.size K33)
  have F2 : Fr w.heap.size K33 wr w4 := (F1.alloc o').trans (grown_fr hgrow hrow)
  have F3 : Fr w.heap.size K33 w1 w4 := ((Fr.refl w.heap.size K33 w1).alloc o').trans (grown_fr hgrow hrow)
  intro p hp
  rcases List.mem_append.1 hp with hp | hp
  · exact F2.own (ho p hp) (fun _ _ => rfl)
  · obtain rfl := List.mem_singleton.1 hp
    exact own_mono (F3.own hown (fun _ _ => rfl)) (by have := hbel.size; simp; omega)

set_option maxHeartbeats 4000000 in
theorem all_rows {w : World} {B lb : Nat} {es : List Ent} (h : ListIs w B lb 63 33 es) : Calls Try.prog 14 #[ptr lb] w fun e w' => ∃ v ps, e = .returned v ∧ RowE w' w.heap.size 33 v ps ∧ OwnAll w' w.heap.size ps ∧ ps.map (·.1) = es ∧ Below w.heap.size w w' := by
  obtain ⟨v, ps, hlist, hes⟩ := h
  obtain ⟨rd, rc, hve, hnc, hcm, hr⟩ := hlist.2.2.form
  subst hve
  obtain ⟨n, hn⟩ : ∃ n, ps.length = n := ⟨_, rfl⟩
  have hl := hlist.2.2.2.1
  have c0 := hlist.1.cell 0 _ rfl
  have hlb := hlist.1.lt
  have HL := Lib.hid hlist
  rw [hn] at c0 hnc hl
  have HE := Lib.hid (And.intro hes hn)
  have HR := Lib.hid hr
  obtain ⟨i0, hi, hz0, hz1, hz2⟩ := info_parts info33
  clear hlist hes hn hr
  go_enter Try.func14, Try.ntmps14
  go_wp2
  go_loopw [3, 13] (fun vo i wr => ∃ k : Nat, k ≤ n ∧ i = i64 k ∧ (∃ qs, Hid (RowE wr w.heap.size 33 vo qs ∧ qs.map (·.1) = es.take k ∧ OwnAll wr w.heap.size qs) ∧ ∃ ad c, vo = .slice ad qs.length c) ∧ Below w.heap.size w wr) (fun _ i _ => n - (intOf i).toNat)
  case atStart => exact ⟨0, Nat.zero_le _, rfl, ⟨[], Lib.hid ⟨⟨World.ownsRow_nil _ _ _ _, by simp, by simp⟩, rfl, fun _ h => by cases h⟩, none, 0, rfl⟩, Below.refl _ _⟩
  case round =>
    obtain ⟨k, hk, rfl, ⟨qs, HQ, oa, oc, rfl⟩, hbel⟩ := hrel
    by_cases hlt : k < n
    · obtain ⟨⟨⟨emk, eid, enm, eat⟩, ev⟩, hx⟩ : ∃ x, ps[k]? = some x := ⟨_, List.getElem?_eq_getElem (by rw [HE.out.2]; exact hlt)⟩
      obtain ⟨g, hrd, _, hg, hc⟩ := HR.out (fun e => by rw [e] at hx; simp at hx)
      obtain ⟨d0, d1, d2, d3⟩ := hc k _ hx
      have hat := HL.out.2.2.2.2 _ (List.mem_of_getElem? hx)
      simp only at hat d0 d1 d2 d3
      obtain ⟨ea, ec, hev⟩ := hat.form
      subst hev
      obtain ⟨en, hen⟩ : ∃ en, eat.length = en := ⟨_, rfl⟩
      have up := fun (o : Nat) => (hbel.cell (p := ⟨g, o, none⟩) hg)
      have e0 := (up _).trans d0
      have e1 := (up _).trans d1
      have e2 := (up _).trans d2
      have e3 := (up _).trans d3
      rw [hen] at e3 hat
      have HX := Lib.hid (And.intro hx (And.intro hen (hat.below hbel)))
      have HRD := Lib.hid hrd
      have HBE := Lib.hid hbel
      clear hx hc d0 d1 d2 d3 hat up hrd hbel hen
      rw [HRD.out]
      go_wp2_with (first
        | (go_at_call 35; (with_reducible refine (copied_n (mk := emk) (id := eid) (nm := enm) (HX.out.2.2.below ((Below.refl _ wr).alloc (Nat.le_refl _) _)) HX.out.2.1).mono ?_); rintro e w1 ⟨ua, uc, rfl, hown, hb1⟩; have HO := Lib.hid (And.intro hown hb1); clear hown hb1)
        | (at_builtin; refine wpList_append_own _ rfl (.tmp 17) (.tmp 20) 38 rfl w.heap.size 33 i0 _ 4 56 Try.underlying38 hi hz0 hz1 hz2 rfl (by decide) _ _ _ rfl (all_own HQ.out.1.1 HO.out.2) ⟨_, 0, none⟩ 1 1 [.bool emk, i64 eid, .string enm, .slice ua en uc] rfl rfl (news4 _ _ _ _ _) (by intro u hu; simp at hu; rcases hu with rfl | rfl | rfl | rfl <;> rfl) (by have := HQ.out.1.2.1; unfold maxLen; omega) (by have := HQ.out.1.2.1; omega) (by have := HBE.out.size; have := HO.out.2.size; simp at this; simp; omega) ?_; intro v' w' hown' hgrow _; obtain ⟨na, nc, rfl⟩ := own_slice hown'; have HF := Lib.hid (And.intro hown' hgrow); clear hown' hgrow))
      go_roundw
      case rel =>
        obtain ⟨hq1, hq2, hq3⟩ := HQ.out
        have hql : qs.length = k := by
          have := congrArg List.length hq2
          rw [List.length_map, List.length_take, ← HE.out.1, List.length_map] at this
          have := HE.out.2
          omega
        have D := all_done (es := es) (o := .cells #[.bool emk, i64 eid, .string enm, .slice ea en ec] 33) (e0 := ⟨emk, eid, enm, eat⟩) HBE.out hq1 HX.out.2.1 HO.out.1 HO.out.2 HF.out.1 HF.out.2 (by omega) HX.out.2.2.ok
        have E := own_done (o := .cells #[.bool emk, i64 eid, .string enm, .slice ea en ec] 33) (e0 := ⟨emk, eid, enm, eat⟩) HBE.out hq1 hq3 HX.out.2.1 HO.out.1 HO.out.2 HF.out.2
        refine ⟨k + 1, by omega, by go_num, ⟨qs ++ [(⟨emk, eid, enm, eat⟩, .slice ua en uc)], Lib.hid ⟨D.1, ?_, E⟩, na, nc, by simp⟩, D.2⟩
        rw [List.map_append, hq2, List.take_add_one, ← HE.out.1, List.getElem?_map, HX.out.1]
        rfl
      case measure => simp [intOf]; omega
    · have hkn : k = n := by omega
      have htk : es.take k = es := List.take_of_length_le (by rw [← HE.out.1, List.length_map, HE.out.2]; omega)
      rw [htk] at HQ
      go_wp2
      go_ret
      exact ⟨_, qs, rfl, HQ.out.1, HQ.out.2.2, HQ.out.2.1, hbel⟩

end Go.Proofs.Ytjopfgdgmniigaa
