/-
  The document's list (rectoref10): Add, Cut, walked.
  Written by an AI agent.
-/
import Derived.Test.YtjopfgdgmniigaaRefR
import Derived.StillTailTactics
namespace Go.Proofs.Ytjopfgdgmniigaa
open Go.RowKit Go.Maps

theorem alike_n {w : World} {B : Nat} {m m' : Bool} {i i' : Int} {n n' : ByteArray} {v v' : Value} {l l' : List Atr} {r : Bool} (h : AtrsAt w B v l) (h' : AtrsAt w B v' l') (hr : alikeB n l n' l' = r) :
    Calls Try.prog 27 #[.agg #[.bool m, i64 i, .string n, v], .agg #[.bool m', i64 i', .string n', v']] w fun e w' => e = .returned (.bool r) ∧ Below w.heap.size w w' := by
  subst hr
  exact alike27 h h'

set_option maxHeartbeats 8000000 in
set_option maxRecDepth 10000 in
theorem dadd_ok {w : World} {B rb na ca : Nat} {va : Option Addr} {es q : List Ent} {mk : Bool} {id : Int} {nm : ByteArray} {l : List Atr} (h : Doc w B rb es) (hl : es.length < 100) (ha : AtrsAt w B (.slice va na ca) l) (hw : wrongB mk id = false) (hq : addL es ⟨mk, id, nm, l⟩ = q) :
    Calls Try.prog 29 #[ptr rb, .agg #[.bool mk, i64 id, .string nm, .slice va na ca]] w fun e w' => e = .returned (i64 0) ∧ Doc w' B rb q ∧ Fr B DK w w' := by
  obtain ⟨n, hn⟩ : ∃ n, es.length = n := ⟨_, rfl⟩
  obtain ⟨ad, c, ps, hL, hps, c0, hrl, hnc, hcm, hl6, hrr⟩ := h.at_ hn
  obtain ⟨p, hp⟩ : ∃ p, partE es = p := ⟨_, rfl⟩
  have hpn : p ≤ n := by rw [← hp, ← hn]; exact partE_le es
  have hbx := Blk.new w 41 #[.bool mk, i64 id, .string nm, .slice va na ca]
  have b0 := (Below.refl _ w).alloc (Nat.le_refl w.heap.size) (.cells #[.bool mk, i64 id, .string nm, .slice va na ca] 41)
  have x0 := hbx.cell 0 (.bool mk) rfl
  have x1 := hbx.cell 1 (i64 id) rfl
  have x2 := hbx.cell 2 (.string nm) rfl
  have x3 := hbx.cell 3 (.slice va na ca) rfl
  have H := Lib.hid (And.intro h (And.intro ha (And.intro hbx b0)))
  have HE := Lib.hid (And.intro hn (And.intro hp hq))
  have HW := Lib.hid hw
  have HR := Lib.hid hrr
  rw [hn] at hl
  have hz : decide ((99 : Int) < (n : Int)) = false := by simp; omega
  clear hL hps h ha hbx b0 hn hp hw hrr hq
  go_enter Try.func29, Try.ntmps29
  go_wp2_with (first
    | (go_at_call 46; (with_reducible refine (dwrong_any HW.out).mono ?_); rintro e w1 ⟨rfl, hb1⟩; have hx1 := blk_kept H.out.2.2.1 hb1; have y0 := hx1.cell 0 (.bool mk) rfl; have y1 := hx1.cell 1 (i64 id) rfl; have y2 := hx1.cell 2 (.string nm) rfl; have y3 := hx1.cell 3 (.slice va na ca) rfl; have H1 := Lib.hid (And.intro (H.out.2.2.2.trans (hb1.mono H.out.2.2.2.size)) hx1); have c1 := (H1.out.1.cell (p := ⟨rb, 0, none⟩) hrl).trans c0; clear hb1 hx1))
  clear x0 x1 x2 x3 y0 y1 y2 y3 c1
  go_loopw [5, 6, 7, 8, 22] (fun cv f _ _ i wr => ∃ (first : Int) (cc k : Nat), f = i64 first ∧ cv = i64 cc ∧ i = i64 k ∧ k ≤ n ∧ cc ≤ k ∧ Hid (AddR ⟨mk, id, nm, l⟩ (es.drop p) p (k - p) first cc) ∧ Hid (Below w.heap.size w wr ∧ Blk wr w.heap.size 41 #[.bool mk, i64 id, .string nm, .slice va na ca])) (fun _ _ _ _ i _ => n - (intOf i).toNat)
  case atStart => exact ⟨-1, 0, 0, rfl, rfl, rfl, Nat.zero_le _, Nat.le_refl _, Lib.hid (by rw [Nat.zero_sub]; exact AddR.zero _ _ _), H1⟩
  case round =>
    obtain ⟨first, cc, k, rfl, rfl, rfl, hk, hck, HA, HB⟩ := hrel
    have hbx := HB.out.2
    have x0 := hbx.cell 0 (.bool mk) rfl
    have x1 := hbx.cell 1 (i64 id) rfl
    have x2 := hbx.cell 2 (.string nm) rfl
    have x3 := hbx.cell 3 (.slice va na ca) rfl
    have hxl := hbx.lt
    clear hbx
    by_cases hlt : k < n
    · obtain ⟨⟨emk, eid, enm, eat⟩, he⟩ : ∃ e, es[k]? = some e := ⟨_, List.getElem?_eq_getElem (by rw [HE.out.1]; exact hlt)⟩
      obtain ⟨g, had, _, hg, hc⟩ := HR.out (fun e0 => by rw [e0] at he; simp at he)
      obtain ⟨eva, ena, eca, _, _, heat, d0, d1, d2, d3⟩ := hc k _ he
      have e0 := (HB.out.1.cell (p := ⟨g, k * 4, none⟩) hg).trans d0
      have e1 := (HB.out.1.cell (p := ⟨g, k * 4 + 1, none⟩) hg).trans d1
      have e2 := (HB.out.1.cell (p := ⟨g, k * 4 + 2, none⟩) hg).trans d2
      have e3 := (HB.out.1.cell (p := ⟨g, k * 4 + 3, none⟩) hg).trans d3
      simp only at e0 e1 e2 e3 heat
      obtain ⟨ab, hab⟩ : ∃ ab, alikeB enm eat nm l = ab := ⟨_, rfl⟩
      have HAD := Lib.hid had
      have bb : Below wr.heap.size wr (wr.alloc (.cells #[.bool emk, i64 eid, .string enm, .slice eva ena eca] 41)) := (Below.refl _ wr).alloc (Nat.le_refl _) _
      have HBX := Lib.hid (And.intro (HB.out.1.trans (bb.mono HB.out.1.size)) (And.intro (blk_kept HB.out.2 bb) (And.intro (Blk.new wr 41 #[.bool emk, i64 eid, .string enm, .slice eva ena eca]) (H.out.1.below (HB.out.1.trans (bb.mono HB.out.1.size))))))
      have HX := Lib.hid (And.intro he (And.intro hab heat))
      clear hc he had d0 d1 d2 d3 heat hab bb
      rw [HAD.out]
      by_cases hpk : p ≤ k
      · have hz1 : decide (p ≤ k) = true := decide_eq_true hpk
        have hD : Hid ((es.drop p)[k - p]? = some ⟨emk, eid, enm, eat⟩) := Lib.hid (by rw [List.getElem?_drop, show p + (k - p) = k by omega]; exact HX.out.1)
        have hkp : k + 1 - p = k - p + 1 := by omega
        have HKP := Lib.hid hkp
        clear hkp
        cases ab
        · go_wp2_with (first
            | (go_at_call 39; (with_reducible refine (dpart_any HBX.out.2.2.2 HE.out.2.1).mono ?_); rintro e w2 ⟨rfl, hb2⟩; have hx2 := blk_kept HBX.out.2.1 hb2; have y0 := hx2.cell 0 (.bool mk) rfl; have y1 := hx2.cell 1 (i64 id) rfl; have y2 := hx2.cell 2 (.string nm) rfl; have y3 := hx2.cell 3 (.slice va na ca) rfl; have hz2 := blk_kept HBX.out.2.2.1 hb2; have z0 := hz2.cell 0 (.bool emk) rfl; have z1 := hz2.cell 1 (i64 eid) rfl; have z2 := hz2.cell 2 (.string enm) rfl; have z3 := hz2.cell 3 (.slice eva ena eca) rfl; have H2 := Lib.hid (And.intro (HBX.out.1.trans (hb2.mono HBX.out.1.size)) hx2); clear hb2 hx2 hz2)
            | (go_at_call 27; (with_reducible refine (alike_n (HX.out.2.2.below H2.out.1) (H.out.2.1.below H2.out.1) HX.out.2.1).mono ?_); rintro e w3 ⟨rfl, hb3⟩; have H3 := Lib.hid (And.intro (H2.out.1.trans (hb3.mono H2.out.1.size)) (blk_kept H2.out.2 hb3)); clear hb3))
          go_roundw
          case rel => exact ⟨first, cc, k + 1, rfl, rfl, by go_num, by omega, by omega, Lib.hid (by rw [HKP.out]; exact HA.out.no hD.out HX.out.2.1), H3⟩
          case measure => simp [intOf]; omega
        · have hwc : IntKind.i64.wrap ((cc : Int) + 1) = (cc : Int) + 1 := IntWalk.i64_in _ (by omega)
          by_cases hcc : cc = 0
          · have hf : first = -1 := HA.out.2.1 hcc
            subst hf
            have HCC := Lib.hid hcc
            clear hcc
            go_wp2_with (first
              | (go_at_call 39; (with_reducible refine (dpart_any HBX.out.2.2.2 HE.out.2.1).mono ?_); rintro e w2 ⟨rfl, hb2⟩; have hx2 := blk_kept HBX.out.2.1 hb2; have y0 := hx2.cell 0 (.bool mk) rfl; have y1 := hx2.cell 1 (i64 id) rfl; have y2 := hx2.cell 2 (.string nm) rfl; have y3 := hx2.cell 3 (.slice va na ca) rfl; have hz2 := blk_kept HBX.out.2.2.1 hb2; have z0 := hz2.cell 0 (.bool emk) rfl; have z1 := hz2.cell 1 (i64 eid) rfl; have z2 := hz2.cell 2 (.string enm) rfl; have z3 := hz2.cell 3 (.slice eva ena eca) rfl; have H2 := Lib.hid (And.intro (HBX.out.1.trans (hb2.mono HBX.out.1.size)) hx2); clear hb2 hx2 hz2)
              | (go_at_call 27; (with_reducible refine (alike_n (HX.out.2.2.below H2.out.1) (H.out.2.1.below H2.out.1) HX.out.2.1).mono ?_); rintro e w3 ⟨rfl, hb3⟩; have H3 := Lib.hid (And.intro (H2.out.1.trans (hb3.mono H2.out.1.size)) (blk_kept H2.out.2 hb3)); clear hb3))
            go_roundw
            case rel =>
              refine ⟨(k : Int), cc + 1, k + 1, rfl, by go_num, by go_num, by omega, by omega, Lib.hid ?_, H3⟩
              have := HA.out.yes hD.out HX.out.2.1
              rw [if_pos HCC.out, show p + (k - p) = k by omega] at this
              rw [HKP.out]
              exact this
            case measure => simp [intOf]; omega
          · have hf := (HA.out.2.2 hcc).1
            have hz3 : decide (first < 0) = false := by rw [hf]; simp; omega
            have HCC := Lib.hid hcc
            clear hcc hf
            go_wp2_with (first
              | (go_at_call 39; (with_reducible refine (dpart_any HBX.out.2.2.2 HE.out.2.1).mono ?_); rintro e w2 ⟨rfl, hb2⟩; have hx2 := blk_kept HBX.out.2.1 hb2; have y0 := hx2.cell 0 (.bool mk) rfl; have y1 := hx2.cell 1 (i64 id) rfl; have y2 := hx2.cell 2 (.string nm) rfl; have y3 := hx2.cell 3 (.slice va na ca) rfl; have hz2 := blk_kept HBX.out.2.2.1 hb2; have z0 := hz2.cell 0 (.bool emk) rfl; have z1 := hz2.cell 1 (i64 eid) rfl; have z2 := hz2.cell 2 (.string enm) rfl; have z3 := hz2.cell 3 (.slice eva ena eca) rfl; have H2 := Lib.hid (And.intro (HBX.out.1.trans (hb2.mono HBX.out.1.size)) hx2); clear hb2 hx2 hz2)
              | (go_at_call 27; (with_reducible refine (alike_n (HX.out.2.2.below H2.out.1) (H.out.2.1.below H2.out.1) HX.out.2.1).mono ?_); rintro e w3 ⟨rfl, hb3⟩; have H3 := Lib.hid (And.intro (H2.out.1.trans (hb3.mono H2.out.1.size)) (blk_kept H2.out.2 hb3)); clear hb3))
            go_roundw
            case rel =>
              refine ⟨first, cc + 1, k + 1, rfl, by go_num, by go_num, by omega, by omega, Lib.hid ?_, H3⟩
              have := HA.out.yes hD.out HX.out.2.1
              rw [if_neg HCC.out] at this
              rw [HKP.out]
              exact this
            case measure => simp [intOf]; omega
      · have hz1 : decide (p ≤ k) = false := decide_eq_false hpk
        have hkp : k + 1 - p = k - p := by omega
        have HKP := Lib.hid hkp
        clear hkp hpk
        go_wp2_with (first
          | (go_at_call 39; (with_reducible refine (dpart_any HBX.out.2.2.2 HE.out.2.1).mono ?_); rintro e w2 ⟨rfl, hb2⟩; have H2 := Lib.hid (And.intro (HBX.out.1.trans (hb2.mono HBX.out.1.size)) (blk_kept HBX.out.2.1 hb2)); clear hb2))
        go_roundw
        case rel => exact ⟨first, cc, k + 1, rfl, rfl, by go_num, by omega, by omega, Lib.hid (by rw [HKP.out]; exact HA.out), H2⟩
        case measure => simp [intOf]; omega
    · have hkn : k = n := by omega
      have hDl : (es.drop p).length = n - p := by rw [List.length_drop, HE.out.1]
      have hcnt : (es.drop p).countP (alikeE · ⟨mk, id, nm, l⟩) = cc := by
        have := HA.out.1
        rw [List.take_of_length_le (by omega)] at this
        exact this
      by_cases h3 : 3 ≤ cc
      · have z1 : decide ((2 : Int) < (cc : Int)) = true := by simp; omega
        obtain ⟨hf1, hf2⟩ := HA.out.2.2 (by omega)
        obtain ⟨a, hadef⟩ : ∃ a, p + (es.drop p).findIdx (alikeE · ⟨mk, id, nm, l⟩) = a := ⟨_, rfl⟩
        rw [hadef] at hf1
        subst hf1
        have han : a < n := by omega
        obtain ⟨q1, hq1⟩ : ∃ q1, es.take a ++ es.drop (a + 1) = q1 := ⟨_, rfl⟩
        have hq1l : q1.length + 1 = n := by rw [← hq1, List.length_append, List.length_take, List.length_drop, HE.out.1]; omega
        have hadd : q1.take q1.length ++ ⟨mk, id, nm, l⟩ :: q1.drop q1.length = q := by
          rw [List.take_length, List.drop_length, ← hq1, ← List.eraseIdx_eq_take_drop_succ, ← HE.out.2.2]
          unfold addL
          rw [HE.out.2.1, hcnt, if_pos h3, hadef]
        obtain ⟨m, hm⟩ : ∃ m, q1.length = m := ⟨_, rfl⟩
        rw [hm] at hadd hq1l
        have HQ := Lib.hid (And.intro hq1 (And.intro (show a < es.length by rw [HE.out.1]; exact han) (And.intro (show es.length ≤ 1000 by rw [HE.out.1]; omega) (And.intro hadd (And.intro hm (show m ≤ q1.length ∧ q1.length ≤ 1000 by omega))))))
        have HBB := Lib.hid (And.intro (H.out.1.below HB.out.1) (And.intro (H.out.2.1.below HB.out.1) HB.out.2))
        clear hDl hcnt hf2 hadef hq1 hadd hkn x0 x1 x2 x3 hxl
        go_wp2_with (first
          | (go_at_call 47; (with_reducible refine (ddrop_any HBB.out.1 HQ.out.2.1 HQ.out.2.2.1 HQ.out.1).mono ?_); rintro e w6 ⟨rfl, h6, f6⟩; have H6 := Lib.hid (And.intro h6 (And.intro f6 (And.intro (HBB.out.2.1.fr f6 (Nat.le_refl _) (fun _ _ => rfl)) (f6.blk HBB.out.2.2 (.inr rfl))))); clear h6 f6))
        obtain ⟨ad6, c6, ps6, _, _, q6, hrl6, _⟩ := H6.out.1.at_ HQ.out.2.2.2.2.1
        have l0 : ∀ d, (World.mk w6.heap w6.tape d w6.os w6.output).cell? ⟨rb, 0, none⟩ = some (.slice ad6 m c6) := fun _ => q6
        have b0 : ∀ d, (World.mk w6.heap w6.tape d w6.os w6.output).cell? ⟨w.heap.size, 0, none⟩ = some (.bool mk) := fun _ => H6.out.2.2.2.cell 0 _ rfl
        have b1 : ∀ d, (World.mk w6.heap w6.tape d w6.os w6.output).cell? ⟨w.heap.size, 1, none⟩ = some (i64 id) := fun _ => H6.out.2.2.2.cell 1 _ rfl
        have b2 : ∀ d, (World.mk w6.heap w6.tape d w6.os w6.output).cell? ⟨w.heap.size, 2, none⟩ = some (.string nm) := fun _ => H6.out.2.2.2.cell 2 _ rfl
        have b3 : ∀ d, (World.mk w6.heap w6.tape d w6.os w6.output).cell? ⟨w.heap.size, 3, none⟩ = some (.slice va na ca) := fun _ => H6.out.2.2.2.cell 3 _ rfl
        clear q6
        go_still_tail 7, (by kernel_rfl)
        change wpList _ _ _ _ _ w6.drew
        clear l0 b0 b1 b2 b3
        go_wp2_with (first | (go_at_call 48; (with_reducible refine (dput_any (H6.out.1.below ((Below.refl _ w6).drew)) rfl HQ.out.2.2.2.2.2.1 HQ.out.2.2.2.2.2.2 (H6.out.2.2.1.below ((Below.refl _ w6).drew)) HQ.out.2.2.2.1).mono ?_); rintro e w7 ⟨rfl, h7, f7⟩; have H7 := Lib.hid (And.intro h7 f7); clear h7 f7))
        go_ret
        exact ⟨rfl, H7.out.1, (((dbel HB.out.1 B).trans H6.out.2.1).drew).trans H7.out.2⟩
      · have z1 : decide ((2 : Int) < (cc : Int)) = false := by simp; omega
        have hadd : es.take n ++ ⟨mk, id, nm, l⟩ :: es.drop n = q := by
          have hn := HE.out.1
          rw [List.take_of_length_le (by omega), List.drop_eq_nil_of_le (by omega), ← HE.out.2.2]
          unfold addL
          rw [HE.out.2.1, hcnt, if_neg h3]
        have HQ := Lib.hid (And.intro hadd (show n ≤ es.length ∧ es.length ≤ 1000 by rw [HE.out.1]; omega))
        have q6 := (HB.out.1.cell (p := ⟨rb, 0, none⟩) hrl).trans c0
        have HBB := Lib.hid (And.intro (H.out.1.below HB.out.1) (H.out.2.1.below HB.out.1))
        have l0 : ∀ d, (World.mk wr.heap wr.tape d wr.os wr.output).cell? ⟨rb, 0, none⟩ = some (.slice ad n c) := fun _ => q6
        have b0 : ∀ d, (World.mk wr.heap wr.tape d wr.os wr.output).cell? ⟨w.heap.size, 0, none⟩ = some (.bool mk) := fun _ => HB.out.2.cell 0 _ rfl
        have b1 : ∀ d, (World.mk wr.heap wr.tape d wr.os wr.output).cell? ⟨w.heap.size, 1, none⟩ = some (i64 id) := fun _ => HB.out.2.cell 1 _ rfl
        have b2 : ∀ d, (World.mk wr.heap wr.tape d wr.os wr.output).cell? ⟨w.heap.size, 2, none⟩ = some (.string nm) := fun _ => HB.out.2.cell 2 _ rfl
        have b3 : ∀ d, (World.mk wr.heap wr.tape d wr.os wr.output).cell? ⟨w.heap.size, 3, none⟩ = some (.slice va na ca) := fun _ => HB.out.2.cell 3 _ rfl
        clear hadd hDl hcnt q6 hkn x0 x1 x2 x3 hxl
        go_wp2_with fail
        go_still_tail 7, (by kernel_rfl)
        change wpList _ _ _ _ _ wr.drew
        clear l0 b0 b1 b2 b3
        go_wp2_with (first | (go_at_call 48; (with_reducible refine (dput_any (HBB.out.1.below ((Below.refl _ wr).drew)) rfl HQ.out.2.1 HQ.out.2.2 (HBB.out.2.below ((Below.refl _ wr).drew)) HQ.out.1).mono ?_); rintro e w7 ⟨rfl, h7, f7⟩; have H7 := Lib.hid (And.intro h7 f7); clear h7 f7))
        go_ret
        exact ⟨rfl, H7.out.1, ((dbel HB.out.1 B).drew).trans H7.out.2⟩

theorem dadd_any {w : World} {B rb na ca : Nat} {va : Option Addr} {es q : List Ent} {mk : Bool} {id r : Int} {nm : ByteArray} {l : List Atr} (h : Doc w B rb es) (hl : es.length ≤ 100) (ha : AtrsAt w B (.slice va na ca) l) (hq : addS es ⟨mk, id, nm, l⟩ = q) (hr : addR es ⟨mk, id, nm, l⟩ = r) :
    Calls Try.prog 29 #[ptr rb, .agg #[.bool mk, i64 id, .string nm, .slice va na ca]] w fun e w' => e = .returned (i64 r) ∧ Doc w' B rb q ∧ Fr B DK w w' := by
  obtain ⟨wb, hwb⟩ : ∃ wb, wrongB mk id = wb := ⟨_, rfl⟩
  unfold addS at hq
  unfold addR at hr
  simp only at hq hr
  rw [hwb] at hq hr
  have b0 := (Below.refl _ w).alloc (Nat.le_refl w.heap.size) (.cells #[.bool mk, i64 id, .string nm, .slice va na ca] 41)
  have hbx := Blk.new w 41 #[.bool mk, i64 id, .string nm, .slice va na ca]
  have x0 := hbx.cell 0 (.bool mk) rfl
  have x1 := hbx.cell 1 (i64 id) rfl
  have x2 := hbx.cell 2 (.string nm) rfl
  have x3 := hbx.cell 3 (.slice va na ca) rfl
  have HW := Lib.hid hwb
  have HH := Lib.hid (And.intro h b0)
  cases wb
  · simp only [Bool.false_eq_true, if_false] at hq hr
    by_cases h100 : es.length = 100
    · rw [if_pos h100] at hq hr
      subst hq hr
      obtain ⟨ad, c, ps, _, _, c0, hrl, _⟩ := h.at_ h100
      clear h hl ha b0 hbx hwb h100
      go_enter Try.func29, Try.ntmps29
      go_wp2_with (first | (go_at_call 46; (with_reducible refine (dwrong_any HW.out).mono ?_); rintro e w1 ⟨rfl, hb1⟩; have H1 := Lib.hid (HH.out.2.trans (hb1.mono HH.out.2.size)); have c1 := (H1.out.cell (p := ⟨rb, 0, none⟩) hrl).trans c0; clear hb1))
      go_ret
      exact ⟨rfl, HH.out.1.below H1.out, dbel H1.out B⟩
    · rw [if_neg h100] at hq hr
      subst hr
      exact dadd_ok h (by omega) ha hwb hq
  · rw [if_pos rfl] at hq hr
    subst hq hr
    clear h hl ha b0 hbx hwb
    go_enter Try.func29, Try.ntmps29
    go_wp2_with (first | (go_at_call 46; (with_reducible refine (dwrong_any HW.out).mono ?_); rintro e w1 ⟨rfl, hb1⟩; have H1 := Lib.hid (HH.out.2.trans (hb1.mono HH.out.2.size)); clear hb1))
    go_ret
    exact ⟨rfl, HH.out.1.below H1.out, dbel H1.out B⟩
end Go.Proofs.Ytjopfgdgmniigaa
