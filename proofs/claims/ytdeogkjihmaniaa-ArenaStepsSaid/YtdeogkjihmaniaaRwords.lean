/-
  The document's arena: words, Words, WordsBefore, walked.
  Written by an AI agent.
-/
import Derived.Test.YtdeogkjihmaniaaRkids
import Derived.Deep.DeepCutAuto
import Derived.Deep.CutBlock
import Derived.BigRegion
namespace Go.Proofs.Ytdeogkjihmaniaa
open Go.RowKit

/-- Where words are put among kids: ahead of next, or at the end. -/
structure PosOf (ks : List Int) (next : Int) (at_ : Nat) : Prop where
  no : ∀ i x, i < at_ → ks[i]? = some x → x ≠ next
  le : at_ ≤ ks.length
  yes : at_ < ks.length → ks[at_]? = some next

/-- The kid just ahead, or -1. -/
def befK (ks : List Int) (i : Nat) : Int := if i = 0 then -1 else (ks[i - 1]?).getD (-1)
theorem befK_succ {ks : List Int} {i : Nat} {x : Int} (h : ks[i]? = some x) : befK ks (i + 1) = x := by
  unfold befK
  rw [if_neg (by omega), Nat.add_sub_cancel, h]
  rfl

section
variable {w : World} {B rb : Nat} {vL vR : Value} {l : List Ro} {row : List Int} {S : St}

theorem RMod.text (m : RMod l row S) {id : Nat} {e : Ro} {s : ByteArray} (he : l[id]? = some e) : RMod (l.set id { e with nd := { e.nd with text := e.nd.text ++ s } }) row (S.text id s) := by
  refine ⟨?_, m.row⟩
  rw [List.map_set, m.nd]
  have : S.l[id]? = some e.nd := by rw [← m.nd, List.getElem?_map, he]; rfl
  show _ = St.setText S.l id s
  rw [setText_eq this]

theorem RefAt.drewN (h : RefAt w B rb vL vR l row) (n : Nat) : RefAt (w.drewN n) B rb vL vR l row := h.below (below_drewN (Below.refl _ _) n)

/-- The row's place, behind Add. -/
theorem rat_add {nd : Nd} {x : Int} {r : Nat} {S : St} (h : RefAt w B rb vL vR l row) (m : RMod l row (S.add nd)) (g : Good S) (hr : S.row.idxOf x = r) : Calls Try.prog 56 #[ptr rb, i64 x] w fun e w' => e = .returned (i64 r) ∧ w = w' := by
  have e1 : row = S.row := m.row
  exact rat_any h (by rw [e1]; exact hr) (by rw [e1]; have := g.row_len; omega)
theorem rput_add {p n ln : Nat} {s : ByteArray} {S : St} (h : RefAt w B rb vL vR l row) (m : RMod l row (S.add ⟨2, 0, ⟨#[]⟩, [], s, -1⟩)) (g : Good S) (hl : S.l.length = ln) (hn : n ≤ S.row.length) :
    Calls Try.prog 55 #[ptr rb, i64 n, i64 ln, i64 p] w (RfIt B rb vR (.tuple #[]) ((S.add ⟨2, 0, ⟨#[]⟩, [], s, -1⟩).put n ln p) w) :=
  rput_any h m (by simp [St.add]; omega) hn (by show S.row.length ≤ _; have := g.row_len; omega)

theorem prev_cases {S : St} {p at_ : Nat} (hle : at_ ≤ (S.kids p).length) :
    (S.prev p at_ = none ∧ befK (S.kids p) at_ = -1) ∨ ∃ (k : Nat) (nd : Nd), S.prev p at_ = some (k : Int) ∧ befK (S.kids p) at_ = k ∧ k < S.l.length ∧ S.l[k]? = some nd := by
  unfold St.prev befK
  by_cases h0 : at_ = 0
  · rw [if_pos h0, if_pos h0]; exact .inl ⟨rfl, rfl⟩
  · rw [if_neg h0, if_neg h0]
    obtain ⟨x, hx⟩ : ∃ x, (S.kids p)[at_ - 1]? = some x := ⟨_, List.getElem?_eq_getElem (by omega)⟩
    obtain ⟨k, rfl, hk, _⟩ := Good.kid_par (List.mem_of_getElem? hx)
    have hkl : k < S.l.length := by rw [← Good.ps_length]; exact (List.getElem?_eq_some_iff.1 hk).1
    rw [hx]
    exact .inr ⟨k, _, rfl, rfl, hkl, List.getElem?_eq_getElem hkl⟩

set_option maxHeartbeats 4000000 in
set_option maxRecDepth 100000 in
theorem rwrite_any {p at_ n : Nat} {next : Int} {s : ByteArray} (h : RefAt w B rb vL vR l row) (m : RMod l row S) (g : Good S) (hp : p < S.l.length) (hpos : PosOf (S.kids p) next at_)
    (hn : (next < 0 ∧ S.row.length = n) ∨ (0 ≤ next ∧ S.row.idxOf next = n)) (ht : ∀ nd ∈ S.l, nd.text.size + s.size ≤ 9223372036854775807) :
    Calls Try.prog 58 #[ptr rb, i64 p, i64 next, .string s] w (RcIt B rb vR (S.write p at_ n s) w) := by
  obtain ⟨ks, hks⟩ : ∃ ks, S.kids p = ks := ⟨_, rfl⟩
  obtain ⟨kn, hkn⟩ : ∃ kn, ks.length = kn := ⟨_, rfl⟩
  obtain ⟨bf, hbf⟩ : ∃ bf, befK ks at_ = bf := ⟨_, rfl⟩
  rw [hks] at hpos
  have hatn : at_ ≤ kn := by rw [← hkn]; exact hpos.le
  have hk600 : kn ≤ 600 := by rw [← hkn, ← hks]; exact g.kids_len p
  obtain ⟨W, hW⟩ : ∃ W, S.write p at_ n s = W := ⟨_, rfl⟩
  have H := Lib.hid (And.intro h (And.intro m (And.intro g (And.intro hp hn))))
  have G := Lib.hid (And.intro hks (And.intro hkn (And.intro hbf (And.intro hpos (And.intro ht hW)))))
  rw [hW]
  clear h m g hp hn hks hkn hbf hpos ht hW
  go_enter Try.func58, Try.ntmps58
  go_upto_block 0 with (first | (go_at_call 24; (with_reducible refine (rkids_any H.out.1 H.out.2.1 H.out.2.2.1).mono ?_); rintro e w1 ⟨vk, rfl, hown, hbel⟩; rw [G.out.1, G.out.2.1] at hown; obtain ⟨kad, kc, rfl⟩ := own_slice hown; have HK := Lib.hid (And.intro hown hbel); clear hown hbel))
  go_cut [9] (fun b wx => b = i64 bf ∧ w1 = wx)
  case first =>
    go_wp2
    go_loop [9, 11, 18] (fun b _ i => ∃ j : Nat, j ≤ at_ ∧ i = i64 j ∧ b = i64 (befK ks j)) (fun _ _ i => kn - (intOf i).toNat)
    case atStart => exact ⟨0, Nat.zero_le _, rfl, rfl⟩
    case round =>
      obtain ⟨j, hj, rfl, rfl⟩ := hrel
      by_cases hlt : j < kn
      · obtain ⟨x, hx⟩ : ∃ x, ks[j]? = some x := ⟨_, List.getElem?_eq_getElem (by rw [G.out.2.1]; exact hlt)⟩
        obtain ⟨kg, rfl, kcell, hkc⟩ : ∃ kg, kad = some ⟨kg, 0, none⟩ ∧ w1.cell? ⟨kg, j, none⟩ = some (i64 x) ∧ kn ≤ kc := by
          have hrow := HK.out.1
          rcases hrow.2 with ⟨_, h0⟩ | ⟨kg, kc', cur, hv, _, _, hnc, _⟩
          · omega
          · simp only [Value.slice.injEq, true_and] at hv
            obtain ⟨rfl, rfl⟩ := hv
            refine ⟨kg, rfl, ?_, hnc⟩
            rw [hrow.cellAt j (by omega), List.getElem?_map, hx]
            rfl
        have i1 : (0 : Int) ≤ (j : Int) := by omega
        have i2 : (j : Int) < (kn : Int) := by omega
        have hsc := befK_succ hx
        have HX := Lib.hid (And.intro hx hsc)
        clear hx hsc
        by_cases hja : j < at_
        · have hne := G.out.2.2.2.1.no j x hja HX.out.1
          have z : (x == next) = false := by simpa using hne
          clear hne
          go_wp2
          go_round
          case rel => exact ⟨j + 1, by omega, by go_num, by rw [HX.out.2]⟩
          case measure => simp [intOf]; omega
        · have hja' : j = at_ := by omega
          have hxe : x = next := by
            have := G.out.2.2.2.1.yes (by rw [G.out.2.1]; omega)
            rw [← hja', HX.out.1] at this
            exact Option.some.inj this
          have z : (x == next) = true := by simpa using hxe
          have hb : befK ks j = bf := by rw [hja']; exact G.out.2.2.1
          rw [hb]
          clear hja hja' hxe hb
          go_wp2
          go_meet
          exact ⟨rfl, rfl⟩
      · have hja' : j = at_ := by omega
        have hb : befK ks j = bf := by rw [hja']; exact G.out.2.2.1
        rw [hb]
        clear hb hja'
        go_wp2
        go_meet
        exact ⟨rfl, rfl⟩
  case rest =>
    obtain ⟨rfl, rfl⟩ := hcut
    have HR := Lib.hid (And.intro (H.out.1.below HK.out.2) trivial)
    have hW := G.out.2.2.2.2.2
    unfold St.write at hW
    rcases prev_cases (S := S) (p := p) (at_ := at_) (by rw [G.out.1, G.out.2.1]; exact hatn) with ⟨hp1, hb1⟩ | ⟨k, nd, hp1, hb1, hkl, hSk⟩
    · rw [G.out.1, G.out.2.2.1] at hb1
      rw [hp1] at hW
      have HWF := Lib.hid hW.symm
      subst hb1
      clear hW hp1
      by_cases hl6 : S.l.length = 600
      · have hwe : W = (5, S) := by rw [HWF.out]; unfold St.fresh; rw [if_pos hl6]
        subst hwe
        have HL := Lib.hid hl6
        clear hl6
        go_wp2_with (first | (go_at_call 41; (with_reducible refine (radd_full HR.out.1 H.out.2.1 HL.out (AtrsAt.nil _ _)).mono ?_); rintro e w2 ⟨rfl, hb2⟩; have HP := Lib.hid hb2; clear hb2))
        go_ret
        exact ⟨rfl, _, _, _, _, HR.out.1.below HP.out, H.out.2.1, (RWent.of_below HK.out.2 B vR).trans (RWent.of_below HP.out B vR)⟩
      · obtain ⟨ln, hlnn⟩ : ∃ ln, S.l.length = ln := ⟨_, rfl⟩
        have hwe : W = (0, (S.add ⟨2, 0, ⟨#[]⟩, [], s, -1⟩).put n ln p) := by rw [HWF.out]; unfold St.fresh; rw [if_neg hl6, hlnn]
        subst hwe
        have hln : ln < 600 := by have := H.out.2.2.1.len; omega
        have HL := Lib.hid hlnn
        clear hl6 hlnn
        rcases H.out.2.2.2.2 with ⟨hnx, hnr⟩ | ⟨hnx, hnr⟩
        · have z3 : decide ((0 : Int) ≤ next) = false := decide_eq_false (by omega)
          have HN := Lib.hid hnr
          clear hnx hnr
          go_wp2_with (first
            | (go_at_call 41; (with_reducible refine (radd_any HR.out.1 H.out.2.1 HL.out hln (AtrsAt.nil _ _)).mono ?_); rintro e w2 ⟨rfl, vL2, vR2, l2, row2, h1, h2, h3⟩; obtain ⟨ra, rc, hv⟩ := own_slice h1.rowR; have a1 := h1.blk.cell 1 vR2 rfl; rw [hv, (congrArg List.length h2.row).trans HN.out] at a1; have HP := Lib.hid (And.intro h1 (And.intro h2 h3)); clear h1 h2 h3 hv)
            | (go_at_call 55; (with_reducible refine (rput_add HP.out.1 HP.out.2.1 H.out.2.2.1 HL.out (Nat.le_of_eq HN.out.symm)).mono ?_); rintro e w3 ⟨rfl, vL3, vR3, l3, row3, h1, h2, h3⟩; have HQ := Lib.hid (And.intro h1 (And.intro h2 h3)); clear h1 h2 h3))
          go_ret
          exact ⟨rfl, _, _, _, _, HQ.out.1, HQ.out.2.1, (RWent.of_below HK.out.2 B vR).trans (HP.out.2.2.trans HQ.out.2.2)⟩
        · have z3 : decide ((0 : Int) ≤ next) = true := decide_eq_true hnx
          have HN := Lib.hid hnr
          have HNL := Lib.hid (show n ≤ S.row.length by rw [← hnr]; exact List.idxOf_le_length)
          clear hnx hnr
          go_wp2_with (first
            | (go_at_call 41; (with_reducible refine (radd_any HR.out.1 H.out.2.1 HL.out hln (AtrsAt.nil _ _)).mono ?_); rintro e w2 ⟨rfl, vL2, vR2, l2, row2, h1, h2, h3⟩; obtain ⟨ra, rc, hv⟩ := own_slice h1.rowR; have a1 := h1.blk.cell 1 vR2 rfl; rw [hv] at a1; have HP := Lib.hid (And.intro h1 (And.intro h2 h3)); clear h1 h2 h3 hv)
            | (go_at_call 56; (with_reducible refine (rat_add HP.out.1 HP.out.2.1 H.out.2.2.1 HN.out).mono ?_); rintro e w3 ⟨rfl, rfl⟩)
            | (go_at_call 55; (with_reducible refine (rput_add HP.out.1 HP.out.2.1 H.out.2.2.1 HL.out HNL.out).mono ?_); rintro e w3 ⟨rfl, vL3, vR3, l3, row3, h1, h2, h3⟩; have HQ := Lib.hid (And.intro h1 (And.intro h2 h3)); clear h1 h2 h3))
          go_ret
          exact ⟨rfl, _, _, _, _, HQ.out.1, HQ.out.2.1, (RWent.of_below HK.out.2 B vR).trans (HP.out.2.2.trans HQ.out.2.2)⟩
    · rw [G.out.1, G.out.2.2.1] at hb1
      rw [hp1] at hW
      dsimp only at hW
      rw [St.get_nat, hSk] at hW
      dsimp only at hW
      obtain ⟨e, hek, hend⟩ := H.out.2.1.ex hSk
      obtain ⟨gg, c, rfl, hlc, hc9, hkl2, _, _, c0, fro, d0, _, _, _, d4, _, _⟩ := HR.out.1.cells hek
      obtain ⟨ln0, hln0⟩ : ∃ ln0, l.length = ln0 := ⟨_, rfl⟩
      rw [hend] at d0 d4
      have f4 := fro (k * 7 + 4)
      obtain ⟨ki, hki⟩ : ∃ ki, nd.kind = ki := ⟨_, rfl⟩
      obtain ⟨tx, htx⟩ : ∃ tx, nd.text = tx := ⟨_, rfl⟩
      rw [hki] at d0 hW
      rw [htx] at d4
      rw [hln0] at c0 hlc hkl2
      subst hb1
      have i3 : (0 : Int) ≤ (k : Int) := by omega
      have i4 : (k : Int) < (ln0 : Int) := by omega
      have hsz := G.out.2.2.2.2.1 nd (List.mem_of_getElem? hSk)
      rw [htx] at hsz
      have hsz' : ¬ (9223372036854775807 : Int) < (tx.size : Int) + (s.size : Int) := by omega
      by_cases hk2 : ki = 2
      · rw [if_pos hk2] at hW
        have z : (ki == 2) = true := by simpa using hk2
        have HE := Lib.hid (And.intro hek (And.intro hend htx))
        have HWF := Lib.hid hW.symm
        clear hek hend hW hSk hp1 hkl hk2 hki htx hln0 fro hsz
        go_wp2_with fail
        go_region
        have hwe : W = (0, S.text k s) := HWF.out
        subst hwe
        go_wp2
        go_ret
        obtain ⟨t1, t2⟩ := HR.out.1.cell_turn (j := 4) (u := .string (tx ++ s)) (e' := { e with nd := { e.nd with text := e.nd.text ++ s } }) HE.out.1 (by omega) (by rw [← HE.out.2.2, ← HE.out.2.1]; rfl) rfl rfl
        exact ⟨rfl, _, _, _, _, t1.drew, H.out.2.1.text HE.out.1, (RWent.of_below HK.out.2 B vR).trans ⟨t2.drew, fun _ h => .inl h⟩⟩
      · rw [if_neg hk2] at hW
        have z : (ki == 2) = false := by simpa using hk2
        have HWF := Lib.hid hW.symm
        clear hek hend hW hSk hp1 hkl hk2 hki htx hln0 fro f4 d4 hsz hsz'
        by_cases hl6 : S.l.length = 600
        · have hwe : W = (5, S) := by rw [HWF.out]; unfold St.fresh; rw [if_pos hl6]
          subst hwe
          have HL := Lib.hid hl6
          clear hl6
          go_wp2_with (first | (go_at_call 41; (with_reducible refine (radd_full HR.out.1 H.out.2.1 HL.out (AtrsAt.nil _ _)).mono ?_); rintro e w2 ⟨rfl, hb2⟩; have HP := Lib.hid hb2; clear hb2))
          go_ret
          exact ⟨rfl, _, _, _, _, HR.out.1.below HP.out, H.out.2.1, (RWent.of_below HK.out.2 B vR).trans (RWent.of_below HP.out B vR)⟩
        · obtain ⟨ln, hlnn⟩ : ∃ ln, S.l.length = ln := ⟨_, rfl⟩
          have hwe : W = (0, (S.add ⟨2, 0, ⟨#[]⟩, [], s, -1⟩).put n ln p) := by rw [HWF.out]; unfold St.fresh; rw [if_neg hl6, hlnn]
          subst hwe
          have hln : ln < 600 := by have := H.out.2.2.1.len; omega
          have HL := Lib.hid hlnn
          clear hl6 hlnn
          rcases H.out.2.2.2.2 with ⟨hnx, hnr⟩ | ⟨hnx, hnr⟩
          · have z3 : decide ((0 : Int) ≤ next) = false := decide_eq_false (by omega)
            have HN := Lib.hid hnr
            clear hnx hnr
            go_wp2_with (first
              | (go_at_call 41; (with_reducible refine (radd_any HR.out.1 H.out.2.1 HL.out hln (AtrsAt.nil _ _)).mono ?_); rintro e w2 ⟨rfl, vL2, vR2, l2, row2, h1, h2, h3⟩; obtain ⟨ra, rc, hv⟩ := own_slice h1.rowR; have a1 := h1.blk.cell 1 vR2 rfl; rw [hv, (congrArg List.length h2.row).trans HN.out] at a1; have HP := Lib.hid (And.intro h1 (And.intro h2 h3)); clear h1 h2 h3 hv)
              | (go_at_call 55; (with_reducible refine (rput_add HP.out.1 HP.out.2.1 H.out.2.2.1 HL.out (Nat.le_of_eq HN.out.symm)).mono ?_); rintro e w3 ⟨rfl, vL3, vR3, l3, row3, h1, h2, h3⟩; have HQ := Lib.hid (And.intro h1 (And.intro h2 h3)); clear h1 h2 h3))
            go_ret
            exact ⟨rfl, _, _, _, _, HQ.out.1, HQ.out.2.1, (RWent.of_below HK.out.2 B vR).trans (HP.out.2.2.trans HQ.out.2.2)⟩
          · have z3 : decide ((0 : Int) ≤ next) = true := decide_eq_true hnx
            have HN := Lib.hid hnr
            have HNL := Lib.hid (show n ≤ S.row.length by rw [← hnr]; exact List.idxOf_le_length)
            clear hnx hnr
            go_wp2_with (first
              | (go_at_call 41; (with_reducible refine (radd_any HR.out.1 H.out.2.1 HL.out hln (AtrsAt.nil _ _)).mono ?_); rintro e w2 ⟨rfl, vL2, vR2, l2, row2, h1, h2, h3⟩; obtain ⟨ra, rc, hv⟩ := own_slice h1.rowR; have a1 := h1.blk.cell 1 vR2 rfl; rw [hv] at a1; have HP := Lib.hid (And.intro h1 (And.intro h2 h3)); clear h1 h2 h3 hv)
              | (go_at_call 56; (with_reducible refine (rat_add HP.out.1 HP.out.2.1 H.out.2.2.1 HN.out).mono ?_); rintro e w3 ⟨rfl, rfl⟩)
              | (go_at_call 55; (with_reducible refine (rput_add HP.out.1 HP.out.2.1 H.out.2.2.1 HL.out HNL.out).mono ?_); rintro e w3 ⟨rfl, vL3, vR3, l3, row3, h1, h2, h3⟩; have HQ := Lib.hid (And.intro h1 (And.intro h2 h3)); clear h1 h2 h3))
            go_ret
            exact ⟨rfl, _, _, _, _, HQ.out.1, HQ.out.2.1, (RWent.of_below HK.out.2 B vR).trans (HP.out.2.2.trans HQ.out.2.2)⟩


theorem pos_end {S : St} (p : Nat) : PosOf (S.kids p) (-1) (S.kids p).length := ⟨fun i x hi hx => by
  obtain ⟨k, h1, _⟩ := Good.kid_par (List.mem_of_getElem? hx)
  omega, Nat.le_refl _, fun h => absurd h (Nat.lt_irrefl _)⟩
theorem pos_at {ks : List Int} {next : Int} (h : next ∈ ks) : PosOf ks next (ks.idxOf next) := by
  have hlt := List.idxOf_lt_length_iff.2 h
  refine ⟨fun i x hi hx e => ?_, Nat.le_of_lt hlt, fun _ => ?_⟩
  · subst e
    have h1 := List.not_of_lt_findIdx (p := (· == x)) hi
    have h2 := (List.getElem?_eq_some_iff.1 hx).2
    rw [h2] at h1
    simp at h1
  · rw [List.getElem?_eq_getElem hlt, List.getElem_idxOf]

theorem rwords_bad {p : Int} {s : ByteArray} (h : RefAt w B rb vL vR l row) (m : RMod l row S) (hb : (S.elem p && !decide (s = ⟨#[]⟩)) = false) : Calls Try.prog 46 #[ptr rb, i64 p, .string s] w (RcIt B rb vR (1, S) w) := by
  cases h1 : S.elem p with
  | false =>
    have H := Lib.hid (And.intro h (And.intro m h1))
    clear h m h1 hb
    go_enter Try.func46, Try.ntmps46
    go_wp2_with (first
      | (go_at_call 53; (with_reducible refine (relem_any H.out.1 H.out.2.1 H.out.2.2).mono ?_); rintro e w1 ⟨rfl, rfl⟩))
    go_ret
    exact RfIt.same H.out.1 H.out.2.1
  | true =>
    rw [h1] at hb
    simp at hb
    subst hb
    have H := Lib.hid (And.intro h (And.intro m h1))
    clear h m h1
    go_enter Try.func46, Try.ntmps46
    go_wp2_with (first
      | (go_at_call 53; (with_reducible refine (relem_any H.out.1 H.out.2.1 H.out.2.2).mono ?_); rintro e w1 ⟨rfl, rfl⟩))
    go_ret
    exact RfIt.same H.out.1 H.out.2.1

theorem rwords_any {p : Int} {s : ByteArray} (h : RefAt w B rb vL vR l row) (m : RMod l row S) (g : Good S) (ht : ∀ nd ∈ S.l, nd.text.size + s.size ≤ 9223372036854775807) : Calls Try.prog 46 #[ptr rb, i64 p, .string s] w (RcIt B rb vR (S.words p s) w) := by
  unfold St.words
  by_cases hb : (S.elem p && !decide (s = ⟨#[]⟩)) = true
  · rw [if_pos hb]
    simp only [Bool.and_eq_true, Bool.not_eq_true', decide_eq_false_iff_not] at hb
    obtain ⟨q, _, rfl, hql, _⟩ := St.elem_nat hb.1
    have z1 := nonempty_of hb.2
    obtain ⟨nn, hnn⟩ : ∃ nn, S.row.length = nn := ⟨_, rfl⟩
    have hor : ((-1 : Int) < 0 ∧ S.row.length = nn) ∨ (0 ≤ (-1 : Int) ∧ S.row.idxOf (-1) = nn) := .inl ⟨by omega, hnn⟩
    rw [Int.toNat_natCast, hnn]
    have H := Lib.hid (And.intro h (And.intro m (And.intro hb.1 (And.intro g (And.intro hql (And.intro (pos_end (S := S) q) (And.intro hor ht)))))))
    clear h m g hb hql ht hor hnn
    go_enter Try.func46, Try.ntmps46
    go_wp2_with (first
      | (go_at_call 53; (with_reducible refine (relem_any H.out.1 H.out.2.1 H.out.2.2.1).mono ?_); rintro e w1 ⟨rfl, rfl⟩)
      | (go_at_call 58; (with_reducible refine (rwrite_any H.out.1 H.out.2.1 H.out.2.2.2.1 H.out.2.2.2.2.1 H.out.2.2.2.2.2.1 H.out.2.2.2.2.2.2.1 H.out.2.2.2.2.2.2.2).mono ?_); rintro e w1 ⟨rfl, hx⟩; have HO := Lib.hid hx; clear hx))
    go_ret
    exact ⟨rfl, HO.out⟩
  · rw [if_neg hb]
    exact rwords_bad h m (by simpa using hb)

theorem rwordsB_bad {p : Int} {s : ByteArray} (h : RefAt w B rb vL vR l row) (m : RMod l row S) (hb : (S.is p && !decide (s = ⟨#[]⟩)) = false) : Calls Try.prog 47 #[ptr rb, i64 p, .string s] w (RcIt B rb vR (1, S) w) := by
  cases h1 : S.is p with
  | false =>
    have H := Lib.hid (And.intro h (And.intro m h1))
    clear h m h1 hb
    go_enter Try.func47, Try.ntmps47
    go_wp2_with (first
      | (go_at_call 23; (with_reducible refine (ris_any H.out.1 H.out.2.1 H.out.2.2).mono ?_); rintro e w1 ⟨rfl, rfl⟩))
    go_ret
    exact RfIt.same H.out.1 H.out.2.1
  | true =>
    rw [h1] at hb
    simp at hb
    subst hb
    have H := Lib.hid (And.intro h (And.intro m h1))
    clear h m h1
    go_enter Try.func47, Try.ntmps47
    go_wp2_with (first
      | (go_at_call 23; (with_reducible refine (ris_any H.out.1 H.out.2.1 H.out.2.2).mono ?_); rintro e w1 ⟨rfl, rfl⟩))
    go_ret
    exact RfIt.same H.out.1 H.out.2.1

theorem rwordsB_any {p : Int} {s : ByteArray} (h : RefAt w B rb vL vR l row) (m : RMod l row S) (g : Good S) (ht : ∀ nd ∈ S.l, nd.text.size + s.size ≤ 9223372036854775807) : Calls Try.prog 47 #[ptr rb, i64 p, .string s] w (RcIt B rb vR (S.wordsB p s) w) := by
  unfold St.wordsB
  by_cases hb : (S.is p && !decide (s = ⟨#[]⟩)) = true
  · rw [if_pos hb]
    simp only [Bool.and_eq_true, Bool.not_eq_true', decide_eq_false_iff_not] at hb
    obtain ⟨k, rfl, hk⟩ := St.is_nat hb.1
    have z1 := nonempty_of hb.2
    obtain ⟨e, hek, hSe⟩ := m.ex' hk
    obtain ⟨gg, c, rfl, hlc, hc9, hkl, _, _, c0, _, _, _, _, _, _, _, d6⟩ := h.cells hek
    have hpar := ps_get hSe
    rw [parN_get hpar]
    obtain ⟨q, hq⟩ : ∃ q, e.nd.par = q := ⟨_, rfl⟩
    obtain ⟨n, hn⟩ : ∃ n, l.length = n := ⟨_, rfl⟩
    rw [hq] at d6 hpar ⊢
    have H := Lib.hid (And.intro h (And.intro m (And.intro hb.1 (And.intro g ht))))
    rw [hn] at c0 hlc hkl
    have i3 : (0 : Int) ≤ (k : Int) := by omega
    have i4 : (k : Int) < (n : Int) := by omega
    by_cases hq1 : q = -1
    · subst hq1
      clear h m g hb hk hek hSe hn hq hpar ht
      go_enter Try.func47, Try.ntmps47
      go_wp2_with (first
        | (go_at_call 23; (with_reducible refine (ris_any H.out.1 H.out.2.1 H.out.2.2.1).mono ?_); rintro e w1 ⟨rfl, rfl⟩))
      go_ret
      exact RfIt.same H.out.1 H.out.2.1
    · rw [if_neg hq1]
      obtain ⟨pp, hqp, hppl⟩ : ∃ pp : Nat, q = pp ∧ pp < S.l.length := by
        rcases g.pg.rng k q hpar with h1 | ⟨pp, h1, h2⟩
        · exact absurd h1 hq1
        · exact ⟨pp, h1, by rw [← Good.ps_length]; exact h2⟩
      subst hqp
      have hin : (k : Int) ∈ S.kids pp := g.mem_kids hpar
      have z1 : decide ((pp : Int) < 0) = false := decide_eq_false (by omega)
      obtain ⟨nn, hnn⟩ : ∃ nn, S.row.idxOf (k : Int) = nn := ⟨_, rfl⟩
      have hor : ((k : Int) < 0 ∧ S.row.length = nn) ∨ (0 ≤ (k : Int) ∧ S.row.idxOf (k : Int) = nn) := .inr ⟨i3, hnn⟩
      have G := Lib.hid (And.intro hppl (And.intro (pos_at hin) hor))
      rw [Int.toNat_natCast, hnn]
      clear hor hnn
      clear h m g hb hk hek hSe hn hq hpar hq1 hppl hin ht
      go_enter Try.func47, Try.ntmps47
      go_wp2_with (first
        | (go_at_call 23; (with_reducible refine (ris_any H.out.1 H.out.2.1 H.out.2.2.1).mono ?_); rintro e w1 ⟨rfl, rfl⟩)
        | (go_at_call 58; (with_reducible refine (rwrite_any H.out.1 H.out.2.1 H.out.2.2.2.1 G.out.1 G.out.2.1 G.out.2.2 H.out.2.2.2.2).mono ?_); rintro e w1 ⟨rfl, hx⟩; have HO := Lib.hid hx; clear hx))
      go_ret
      exact ⟨rfl, HO.out⟩
  · rw [if_neg hb]
    exact rwordsB_bad h m (by simpa using hb)
end
end Go.Proofs.Ytdeogkjihmaniaa
