/-
  (*List).All, (*List).Cut, New, walked.
  Written by an AI agent.
-/
import Derived.Test.YtjopfgdgmniigaaAdd
import Derived.Test.YtjopfgdgmniigaaInts
namespace Go.Proofs.Ytjopfgdgmniigaa
open Go.RowKit Go.Maps

theorem new_any (w : World) : Calls Try.prog 9 #[] w fun e w' => e = .returned (ptr w.heap.size) ∧ ListIs w' w.heap.size w.heap.size 63 33 [] ∧ Below w.heap.size w w' := by
  go_enter Try.func9, Try.ntmps9
  go_wp2
  go_ret
  exact ⟨rfl, ⟨_, [], ⟨Blk.new w 63 _, Nat.le_refl _, World.ownsRow_nil _ _ _ _, by simp, by simp⟩, rfl⟩, (Below.refl _ _).alloc (Nat.le_refl _) _⟩

/-- What All gives. -/
def AllIt (es : List Ent) (w : World) (e : Ending) (w' : World) : Prop :=
  ∃ v ps, e = .returned v ∧ RowE w' w.heap.size 33 v ps ∧ ps.map (·.1) = es ∧ Below w.heap.size w w'

theorem all_own {wr w1 : World} {B n : Nat} {v : Value} {xs : List Value} {o o' : Obj} (h : wr.ownsRow B 33 4 v n xs) (hb : Below (wr.alloc o).heap.size (wr.alloc o) w1) : (w1.alloc o').ownsRow B 33 4 v n xs :=
  own_below (own_below (own_below h ((Below.refl wr.heap.size wr).alloc (Nat.le_refl _) o) (Nat.le_refl _)) hb (Nat.le_refl _)) ((Below.refl w1.heap.size w1).alloc (Nat.le_refl _) o') (Nat.le_refl _)
theorem news4 (w : World) (a b c d : Value) : ∀ (j : Nat) (u : Value), [a, b, c, d][j]? = some u → (w.alloc (.cells #[a, b, c, d] 33)).cell? ((⟨w.heap.size, 0, none⟩ : Addr).add j) = some u := by
  intro j u hu
  have e : ∀ j, (⟨w.heap.size, 0, none⟩ : Addr).add j = ⟨w.heap.size, j, none⟩ := fun j => by unfold Addr.add; split <;> simp_all
  rw [e]
  have hb := Blk.new w 33 #[a, b, c, d]
  exact hb.cell j u (by simpa using hu)
theorem all_done {w wr w1 w4 : World} {es : List Ent} {en : Nat} {oa ua na : Option Addr} {oc uc nc : Nat} {qs : List (Ent × Value)} {e0 : Ent} {o o' : Obj} (hbel : Below w.heap.size w wr) (h : RowE wr w.heap.size 33 (.slice oa qs.length oc) qs) (hen : e0.attrs.length = en)
    (hown : w1.ownsRow (wr.alloc o).heap.size 60 2 (.slice ua en uc) en (flatA e0.attrs)) (hb1 : Below (wr.alloc o).heap.size (wr.alloc o) w1) (hown4 : w4.ownsRow w.heap.size 33 4 (.slice na (qs.length + 1) nc) (qs.length + 1) (flatP qs ++ [.bool e0.mark, i64 e0.id, .string e0.name, .slice ua en uc]))
    (hgrow : (w1.alloc o').grownBy w4 (Value.slice oa qs.length oc).ownBlock) (hl : qs.length < 1000000) (hok : e0.attrs.length ≤ 4398046511104 ∧ ∀ x ∈ e0.attrs, AtrOk x) :
    RowE w4 w.heap.size 33 (.slice na (qs.length + 1) nc) (qs ++ [(e0, .slice ua en uc)]) ∧ Below w.heap.size w w4 := by
  subst hen
  have hrow := all_own (o' := o') h.1 hb1
  have F1 : Fr w.heap.size K33 wr w1 := ((Fr.refl w.heap.size K33 wr).alloc o).trans (Fr.of_below hb1 w.heap.size K33)
  have F2 : Fr w.heap.size K33 wr w4 := (F1.alloc o').trans (grown_fr hgrow hrow)
  have F3 : Fr w.heap.size K33 w1 w4 := ((Fr.refl w.heap.size K33 w1).alloc o').trans (grown_fr hgrow hrow)
  have hua := F3.own hown (fun _ _ => rfl)
  refine ⟨⟨?_, ?_, ?_⟩, ?_⟩
  · rw [flatP_append]
    simpa [flatP] using hown4
  · simp; omega
  · intro p hp
    rcases List.mem_append.1 hp with hp | hp
    · exact (h.2.2 p hp).fr F2 (Nat.le_refl _) (fun _ _ => rfl)
    · obtain rfl := List.mem_singleton.1 hp
      exact AtrsAt.of_own hua hok.1 hok.2
  · exact ⟨F2.os.trans hbel.os, F2.tape.trans hbel.tape, F2.output.trans hbel.output, Nat.le_trans hbel.size F2.size, fun i hi => (F2.block i (Nat.lt_of_lt_of_le hi hbel.size) (.inl hi)).trans (hbel.block i hi)⟩

set_option maxHeartbeats 4000000 in
theorem all_any {w : World} {B lb : Nat} {es : List Ent} (h : ListIs w B lb 63 33 es) : Calls Try.prog 14 #[ptr lb] w (AllIt es w) := by
  obtain ⟨v, ps, hlist, hes⟩ := h
  obtain ⟨rd, rc, hve, hnc, hcm, hr⟩ := hlist.2.2.form
  subst hve
  obtain ⟨n, hn⟩ : ∃ n, ps.length = n := ⟨_, rfl⟩
  have hl := hlist.2.2.2.1
  have c0 := hlist.1.cell 0 _ rfl
  have hlb := hlist.1.lt
  have HL := Lib.hid hlist
  rw [hn] at c0 hnc hl
  have HE := Lib.hid (And.intro hes hn)
  have HR := Lib.hid hr
  obtain ⟨i0, hi, hz0, hz1, hz2⟩ := info_parts info33
  clear hlist hes hn hr
  go_enter Try.func14, Try.ntmps14
  go_wp2
  go_loopw [3, 13] (fun vo i wr => ∃ k : Nat, k ≤ n ∧ i = i64 k ∧ (∃ qs, Hid (RowE wr w.heap.size 33 vo qs ∧ qs.map (·.1) = es.take k) ∧ ∃ ad c, vo = .slice ad qs.length c) ∧ Below w.heap.size w wr) (fun _ i _ => n - (intOf i).toNat)
  case atStart => exact ⟨0, Nat.zero_le _, rfl, ⟨[], Lib.hid ⟨⟨World.ownsRow_nil _ _ _ _, by simp, by simp⟩, rfl⟩, none, 0, rfl⟩, Below.refl _ _⟩
  case round =>
    obtain ⟨k, hk, rfl, ⟨qs, HQ, oa, oc, rfl⟩, hbel⟩ := hrel
    by_cases hlt : k < n
    · obtain ⟨⟨⟨emk, eid, enm, eat⟩, ev⟩, hx⟩ : ∃ x, ps[k]? = some x := ⟨_, List.getElem?_eq_getElem (by rw [HE.out.2]; exact hlt)⟩
      obtain ⟨g, hrd, _, hg, hc⟩ := HR.out (fun e => by rw [e] at hx; simp at hx)
      obtain ⟨d0, d1, d2, d3⟩ := hc k _ hx
      have hat := HL.out.2.2.2.2 _ (List.mem_of_getElem? hx)
      simp only at hat d0 d1 d2 d3
      obtain ⟨ea, ec, hev⟩ := hat.form
      subst hev
      obtain ⟨en, hen⟩ : ∃ en, eat.length = en := ⟨_, rfl⟩
      have up := fun (o : Nat) => (hbel.cell (p := ⟨g, o, none⟩) hg)
      have e0 := (up _).trans d0
      have e1 := (up _).trans d1
      have e2 := (up _).trans d2
      have e3 := (up _).trans d3
      rw [hen] at e3 hat
      have HX := Lib.hid (And.intro hx (And.intro hen (hat.below hbel)))
      have HRD := Lib.hid hrd
      have HBE := Lib.hid hbel
      clear hx hc d0 d1 d2 d3 hat up hrd hbel hen
      rw [HRD.out]
      go_wp2_with (first
        | (go_at_call 35; (with_reducible refine (copied_n (mk := emk) (id := eid) (nm := enm) (HX.out.2.2.below ((Below.refl _ wr).alloc (Nat.le_refl _) _)) HX.out.2.1).mono ?_); rintro e w1 ⟨ua, uc, rfl, hown, hb1⟩; have HO := Lib.hid (And.intro hown hb1); clear hown hb1)
        | (at_builtin; refine wpList_append_own _ rfl (.tmp 17) (.tmp 20) 38 rfl w.heap.size 33 i0 _ 4 56 Try.underlying38 hi hz0 hz1 hz2 rfl (by decide) _ _ _ rfl (all_own HQ.out.1.1 HO.out.2) ⟨_, 0, none⟩ 1 1 [.bool emk, i64 eid, .string enm, .slice ua en uc] rfl rfl (news4 _ _ _ _ _) (by intro u hu; simp at hu; rcases hu with rfl | rfl | rfl | rfl <;> rfl) (by have := HQ.out.1.2.1; unfold maxLen; omega) (by have := HQ.out.1.2.1; omega) (by have := HBE.out.size; have := HO.out.2.size; simp at this; simp; omega) ?_; intro v' w' hown' hgrow _; obtain ⟨na, nc, rfl⟩ := own_slice hown'; have HF := Lib.hid (And.intro hown' hgrow); clear hown' hgrow))
      go_roundw
      case rel =>
        obtain ⟨hq1, hq2⟩ := HQ.out
        have hql : qs.length = k := by
          have := congrArg List.length hq2
          rw [List.length_map, List.length_take, ← HE.out.1, List.length_map] at this
          have := HE.out.2
          omega
        have D := all_done (es := es) (o := .cells #[.bool emk, i64 eid, .string enm, .slice ea en ec] 33) (e0 := ⟨emk, eid, enm, eat⟩) HBE.out hq1 HX.out.2.1 HO.out.1 HO.out.2 HF.out.1 HF.out.2 (by omega) HX.out.2.2.ok
        refine ⟨k + 1, by omega, by go_num, ⟨qs ++ [(⟨emk, eid, enm, eat⟩, .slice ua en uc)], Lib.hid ⟨D.1, ?_⟩, na, nc, by simp⟩, D.2⟩
        rw [List.map_append, hq2, List.take_add_one, ← HE.out.1, List.getElem?_map, HX.out.1]
        rfl
      case measure => simp [intOf]; omega
    · have hkn : k = n := by omega
      have htk : es.take k = es := List.take_of_length_le (by rw [← HE.out.1, List.length_map, HE.out.2]; omega)
      rw [htk] at HQ
      go_wp2
      go_ret
      exact ⟨_, qs, rfl, HQ.out.1, HQ.out.2, hbel⟩

end Go.Proofs.Ytjopfgdgmniigaa
