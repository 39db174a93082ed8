/-
  rectolaw33.CacheLast returns true for every input: what is got is what was put last of that ID, and was not dropped since.
  Written by an AI agent.
-/
import Derived.Test.YtdgdfnofedlkaaaLast
import Derived.Test.YtdgdfnofedlkaaaRows
import Derived.BigQuiet
namespace Go.Proofs.Ytdgdfnofedlkaaa
open Go.RowKit Go.Maps

theorem below_of_fr {B : Nat} {T : Obj → Bool} {a w : World} (h : Fr B T a w) (hB : B ≤ a.heap.size) : Below B a w := ⟨h.os, h.tape, h.output, h.size, fun k hk => h.block k (Nat.lt_of_lt_of_le hk hB) (.inl hk)⟩

/-- What a round of CacheLast leaves. -/
def LastR (w : World) (most bytes : Int) (l : List Stp) (k : Nat) (wr : World) : Prop :=
  ∃ st hits misses, Cache Try.prog wr w.heap.size w.heap.size most bytes st hits misses ∧ 0 ≤ hits ∧ 0 ≤ misses ∧ hits + misses ≤ k ∧ Told st (l.take k) ∧ Below w.heap.size w wr

theorem LastR.next {w wr wa : World} {most bytes : Int} {l : List Stp} {k : Nat} {x : Stp} {st' : List Txt} {hits' misses' : Int}
    (hx : l[k]? = some x) (hbel : Below w.heap.size w wr) (o : Obj) (hf : Fr w.heap.size CK (wr.alloc o) wa)
    (hc : Cache Try.prog wa w.heap.size w.heap.size most bytes st' hits' misses') (h0 : 0 ≤ hits') (h1 : 0 ≤ misses') (h2 : hits' + misses' ≤ k + 1) (ht : Told st' (l.take k ++ [x])) : LastR w most bytes l (k + 1) wa := by
  refine ⟨st', hits', misses', hc, h0, h1, by simpa using h2, ?_, ?_⟩
  · rw [List.take_add_one, hx]; exact ht
  · have b1 := hbel.alloc hbel.size o
    exact b1.trans (below_of_fr hf b1.size)

theorem get_hit {w : World} {B cb : Nat} {most bytes hits misses : Int} {st : List Txt} (h : Cache Try.prog w B cb most bytes st hits misses) (id : Int) (hw : (Lit.int .i64 id).wf = true)
    (h0 : 0 ≤ hits) (h1 : hits < 9223372036854775807) (h2 : 0 ≤ misses) (h3 : misses < 9223372036854775807) (hb : hasB id st = true) {g : ByteArray} (hg : gotS id st = g) :
    Calls Try.prog 19 #[ptr cb, i64 id] w fun e w' => e = .returned (.tuple #[.string g, .bool true]) ∧ Cache Try.prog w' B cb most bytes (gotL id st) (hits + 1) misses ∧ Fr B CK w w' := by
  have := get_any h id hw h0 h1 h2 h3
  rw [hb, hg] at this
  simpa using this

theorem get_miss {w : World} {B cb : Nat} {most bytes hits misses : Int} {st : List Txt} (h : Cache Try.prog w B cb most bytes st hits misses) (id : Int) (hw : (Lit.int .i64 id).wf = true)
    (h0 : 0 ≤ hits) (h1 : hits < 9223372036854775807) (h2 : 0 ≤ misses) (h3 : misses < 9223372036854775807) (hb : hasB id st = false) :
    Calls Try.prog 19 #[ptr cb, i64 id] w fun e w' => e = .returned (.tuple #[.string ⟨#[]⟩, .bool false]) ∧ Cache Try.prog w' B cb most bytes (gotL id st) hits (misses + 1) ∧ Fr B CK w w' := by
  have := get_any h id hw h0 h1 h2 h3
  have hg : gotS id st = ⟨#[]⟩ := by
    unfold gotS
    rw [List.find?_eq_none.2]
    · rfl
    · intro x hx hid
      have : hasB id st = true := List.any_eq_true.2 ⟨x, hx, hid⟩
      rw [hb] at this; simp at this
  rw [hb, hg] at this
  simpa using this

set_option maxHeartbeats 4000000 in
set_option maxRecDepth 100000 in
theorem cacheLast_walk {most bytes : Int} {v : Value} {l : List Stp} {w : World} (h : StepsAt w v l) (hwf : ∀ x ∈ l, (Lit.int .i64 x.id).wf = true) (hcap : ∀ ad n c, v = .slice ad n c → n ≤ c ∧ c ≤ 9223372036854775807) :
    Calls Try.prog 4 #[i64 most, i64 bytes, v] w fun e w' => e = .returned (.bool true) ∧ Below w.heap.size w w' := by
  by_cases hbad : most < 1 ∨ 1000 < most ∨ bytes < 0 ∨ 65536 < bytes
  · have HBAD := Lib.hid hbad
    clear hbad
    go_enter Try.func4, Try.ntmps4
    go_wp2_with (first
      | (go_at_call 7; refine (new_no most bytes _ HBAD.out).mono ?_; rintro e w' ⟨rfl, rfl⟩)
      | (go_at_call 8; refine (two_any _).mono ?_; rintro e w2 ⟨rfl, h2⟩; have H2 := Lib.hid h2; clear h2))
    go_ret
    exact ⟨rfl, H2.out⟩
  have H := Lib.hid h
  have HW := Lib.hid hwf
  have HM := Lib.hid (show 1 ≤ most ∧ most ≤ 1000 ∧ 0 ≤ bytes ∧ bytes ≤ 65536 by omega)
  clear h hwf hbad
  cases hlb : longB l
  case true =>
    have HL := Lib.hid hlb
    clear hlb
    go_enter Try.func4, Try.ntmps4
    go_wp2_with (first
      | (go_at_call 7; refine (new_yes most bytes _ HM.out.1 HM.out.2.1 HM.out.2.2.1 HM.out.2.2.2).mono ?_; rintro e w1 ⟨rfl, hc, hf⟩; have H1 := Lib.hid (And.intro hc hf); clear hc hf)
      | (go_at_call 9; refine (long_any (H.out.below H1.out.2.below)).mono ?_; rintro e w2 ⟨rfl, h2⟩; rw [HL.out]; have H2 := Lib.hid h2; clear h2)
      | (go_at_call 8; refine (two_any _).mono ?_; rintro e w3 ⟨rfl, h3⟩; have H3 := Lib.hid h3; clear h3))
    go_ret
    exact ⟨rfl, (H1.out.2.below.trans (H2.out.mono H1.out.2.size)).trans (H3.out.mono (Nat.le_trans H1.out.2.size H2.out.size))⟩
  case false =>
    have HL := Lib.hid hlb
    have hn102 : l.length ≤ 101 := by
      unfold longB at hlb
      simp only [Bool.or_eq_false_iff, decide_eq_false_iff_not] at hlb
      omega
    clear hlb
    obtain ⟨ad, c, rfl, hl, hr⟩ := H.out
    obtain ⟨hc1, hc2⟩ := hcap _ _ _ rfl
    obtain ⟨n, hn⟩ : ∃ n, l.length = n := ⟨_, rfl⟩
    rw [hn] at hl hc1 H hn102 ⊢
    have HN := Lib.hid hn
    have HR := Lib.hid hr
    clear hn hr hcap
    go_enter Try.func4, Try.ntmps4
    go_wp2_with (first
      | (go_at_call 7; refine (new_yes most bytes _ HM.out.1 HM.out.2.1 HM.out.2.2.1 HM.out.2.2.2).mono ?_; rintro e w1 ⟨rfl, hc, hf⟩; have H1 := Lib.hid (And.intro hc hf); clear hc hf)
      | (go_at_call 9; refine (long_any (H.out.below H1.out.2.below)).mono ?_; rintro e w2 ⟨rfl, h2⟩; rw [HL.out]; have H2 := Lib.hid h2; clear h2))
    go_loopw [42] (fun i wr => ∃ k : Nat, k ≤ n ∧ i = i64 k ∧ Hid (LastR w most bytes l k wr)) (fun i _ => n - (intOf i).toNat)
    case atStart =>
      exact ⟨0, Nat.zero_le _, rfl, ⟨[], 0, 0, H1.out.1.below H2.out, by omega, by omega, by omega, Told.nil _, H1.out.2.below.trans (H2.out.mono H1.out.2.size)⟩⟩
    case round =>
      obtain ⟨k, hk, rfl, HK⟩ := hrel
      by_cases hlt : k < n
      · obtain ⟨x, hx⟩ : ∃ x, l[k]? = some x := ⟨_, List.getElem?_eq_getElem (by rw [HN.out]; exact hlt)⟩
        obtain ⟨what, id, s⟩ := x
        obtain ⟨g, off, had, hg, hc⟩ := HR.out (fun e => by have := HN.out; rw [e] at this; simp at this; omega)
        obtain ⟨d0, d1, d2⟩ := hc k _ hx
        obtain ⟨st, hits, misses, hca, hh, hm, hsum, htold, hbel⟩ := HK.out
        have e0 := (hbel.cell (p := ⟨g, off + k * 3, none⟩) hg).trans d0
        have e1 := (hbel.cell (p := ⟨g, off + k * 3 + 1, none⟩) hg).trans d1
        have e2 := (hbel.cell (p := ⟨g, off + k * 3 + 2, none⟩) hg).trans d2
        simp only at e0 e1 e2
        have HCELL := Lib.hid hc
        have HX := Lib.hid (And.intro hx (HW.out _ (List.mem_of_getElem? hx)))
        have HAD := Lib.hid had
        have HB0 := Lib.hid (Blk.new wr 34 #[i64 what, i64 id, .string s])
        have HC0 := Lib.hid (hca.below ((Below.refl _ wr).alloc (Nat.le_refl _) (.cells #[i64 what, i64 id, .string s] 34)))
        have HG := Lib.hid (And.intro hh (And.intro hm (And.intro hsum (And.intro htold hbel))))
        have HG4 := Lib.hid (show 0 ≤ hits ∧ hits < 9223372036854775807 ∧ 0 ≤ misses ∧ misses < 9223372036854775807 by omega)
        clear hc hx had d0 d1 d2 hca hh hm hsum htold hbel
        rw [HAD.out]
        by_cases h012 : what = 0 ∨ what = 1 ∨ what = 2
        · rcases h012 with rfl | rfl | rfl
          all_goals go_wp2_with (first | (go_at_call 16; (with_reducible refine (put_any HC0.out id s HX.out.2).mono ?_); rintro e wa ⟨rfl, hca, hfa⟩; have HA := Lib.hid (And.intro hca hfa); clear hca hfa))
          all_goals (
            go_roundw
            case rel =>
              obtain ⟨q0, q1, q2, q3, q4⟩ := HG.out
              exact ⟨k + 1, by omega, by go_num, Lib.hid (LastR.next HX.out.1 q4 _ HA.out.2 HA.out.1 q0 q1 (by omega) (q3.put (x := ⟨_, _, _⟩) (by simp)))⟩
            case measure => simp [intOf]; omega)
        by_cases h6 : what = 6
        · subst h6
          clear h012
          go_wp2_with (first | (go_at_call 17; (with_reducible refine (drop_any HC0.out id HX.out.2).mono ?_); rintro e wa ⟨rfl, hca, hfa⟩; have HA := Lib.hid (And.intro hca hfa); clear hca hfa))
          go_roundw
          case rel =>
            obtain ⟨q0, q1, q2, q3, q4⟩ := HG.out
            exact ⟨k + 1, by omega, by go_num, Lib.hid (LastR.next HX.out.1 q4 _ HA.out.2 HA.out.1 q0 q1 (by omega) (q3.drop (x := ⟨_, _, _⟩) (by simp)))⟩
          case measure => simp [intOf]; omega
        by_cases h7 : what = 7
        · subst h7
          clear h012 h6
          go_wp2_with (first | (go_at_call 18; (with_reducible refine (clear_any HC0.out).mono ?_); rintro e wa ⟨rfl, hca, hfa⟩; have HA := Lib.hid (And.intro hca hfa); clear hca hfa))
          go_roundw
          case rel =>
            obtain ⟨q0, q1, q2, q3, q4⟩ := HG.out
            exact ⟨k + 1, by omega, by go_num, Lib.hid (LastR.next HX.out.1 q4 _ HA.out.2 HA.out.1 (by omega) (by omega) (by omega) (Told.nil _))⟩
          case measure => simp [intOf]; omega
        have w0 : (what == 0) = false := by simp; omega
        have w1 : (what == 1) = false := by simp; omega
        have w2 : (what == 2) = false := by simp; omega
        have w6 : (what == 6) = false := by simp; omega
        have w7 : (what == 7) = false := by simp; omega
        have HNE := Lib.hid (show what ≠ 0 ∧ what ≠ 1 ∧ what ≠ 2 ∧ what ≠ 6 ∧ what ≠ 7 by omega)
        clear h012 h6 h7
        cases hb : hasB id st
        case false =>
          have HB := Lib.hid hb
          clear hb
          go_wp2_with (first | (go_at_call 19; (with_reducible refine (get_miss HC0.out id HX.out.2 HG4.out.1 HG4.out.2.1 HG4.out.2.2.1 HG4.out.2.2.2 HB.out).mono ?_); rintro e wa ⟨rfl, hca, hfa⟩; have HA := Lib.hid (And.intro hca hfa); clear hca hfa))
          go_roundw
          case rel =>
            obtain ⟨q0, q1, q2, q3, q4⟩ := HG.out
            obtain ⟨n0, n1, n2, n6, n7⟩ := HNE.out
            exact ⟨k + 1, by omega, by go_num, Lib.hid (LastR.next HX.out.1 q4 _ HA.out.2 HA.out.1 (by omega) (by omega) (by omega) (q3.look (x := ⟨_, _, _⟩) n0 n1 n2 n6 n7))⟩
          case measure => simp [intOf]; omega
        case true =>
          have HB := Lib.hid hb
          obtain ⟨gx, hgx⟩ : ∃ gx, gotS id st = gx := ⟨_, rfl⟩
          have HGX := Lib.hid hgx
          clear hb hgx
          go_wp2_with (first | (go_at_call 19; (with_reducible refine (get_hit HC0.out id HX.out.2 HG4.out.1 HG4.out.2.1 HG4.out.2.2.1 HG4.out.2.2.2 HB.out HGX.out).mono ?_); rintro e wa ⟨rfl, hca, hfa⟩; have HA := Lib.hid (And.intro hca hfa); clear hca hfa))
          have hbw := (HG.out.2.2.2.2.alloc HG.out.2.2.2.2.size (.cells #[i64 what, i64 id, .string s] 34))
          have HBW := Lib.hid (hbw.trans (below_of_fr HA.out.2 hbw.size))
          have HS0 := Lib.hid (HA.out.2.blk HB0.out (.inr rfl))
          have HLR := Lib.hid (show LastR w most bytes l (k + 1) wa by
            obtain ⟨q0, q1, q2, q3, q4⟩ := HG.out
            obtain ⟨n0, n1, n2, n6, n7⟩ := HNE.out
            exact LastR.next HX.out.1 q4 _ HA.out.2 HA.out.1 (by omega) (by omega) (by omega) (q3.look (x := ⟨_, _, _⟩) n0 n1 n2 n6 n7))
          have HLA := Lib.hid (HGX.out ▸ HG.out.2.2.2.1.last HB.out)
          clear hbw
          go_loopw [65] (fun i wi => ∃ j : Nat, j ≤ k ∧ i = i64 j ∧ (∃ y : Stp, Hid (lastOf id (l.take j) = y) ∧ Blk wi wa.heap.size 34 #[i64 y.what, i64 y.id, .string y.s]) ∧ Below wa.heap.size wa wi) (fun i _ => k - (intOf i).toNat)
          case atStart => exact ⟨0, Nat.zero_le _, rfl, ⟨⟨7, 0, ⟨#[]⟩⟩, Lib.hid rfl, Blk.new _ _ _⟩, (Below.refl _ _).alloc (Nat.le_refl _) _⟩
          case round =>
            obtain ⟨j, hj, rfl, ⟨y, HYL, hyb⟩, hbi⟩ := hrel
            obtain ⟨yw, yi, ys⟩ := y
            simp only at hyb
            have hs0 := (hbi.block _ HS0.out.lt).trans HS0.out
            have s1 := Blk.cell hs0 1 (i64 id) rfl
            clear hs0
            by_cases hjk : j < k
            · obtain ⟨t, ht⟩ : ∃ t, l[j]? = some t := ⟨_, List.getElem?_eq_getElem (by rw [HN.out]; omega)⟩
              obtain ⟨tw, ti, ts⟩ := t
              obtain ⟨d0, d1, d2⟩ := HCELL.out j _ ht
              have hgw := Nat.lt_of_lt_of_le hg HBW.out.size
              have f0 := (hbi.cell (p := ⟨g, off + j * 3, none⟩) hgw).trans ((HBW.out.cell (p := ⟨g, off + j * 3, none⟩) hg).trans d0)
              have f1 := (hbi.cell (p := ⟨g, off + j * 3 + 1, none⟩) hgw).trans ((HBW.out.cell (p := ⟨g, off + j * 3 + 1, none⟩) hg).trans d1)
              have f2 := (hbi.cell (p := ⟨g, off + j * 3 + 2, none⟩) hgw).trans ((HBW.out.cell (p := ⟨g, off + j * 3 + 2, none⟩) hg).trans d2)
              simp only at f0 f1 f2
              have HT := Lib.hid ht
              have HBI := Lib.hid hbi
              have HYB := Lib.hid hyb
              have hsz := hbi.size
              have hss := Nat.lt_of_lt_of_le HS0.out.lt hbi.size
              clear d0 d1 d2 ht hbi
              have hy' := HYB.out.alloc (.cells #[i64 tw, i64 ti, .string ts] 34)
              have c0 := hy'.cell 0 (i64 yw) rfl
              have c1 := hy'.cell 1 (i64 yi) rfl
              have c2 := hy'.cell 2 (.string ys) rfl
              have fr0 := hy'.fro 0
              have fr1 := hy'.fro 1
              have fr2 := hy'.fro 2
              clear hy'
              cases hp : pickB id ⟨tw, ti, ts⟩
              case true =>
                have HP := Lib.hid hp
                have hyes : tw = 7 ∨ (ti = id ∧ tw = 0) ∨ (ti = id ∧ tw = 1) ∨ (ti = id ∧ tw = 2) ∨ (ti = id ∧ tw = 6) := by
                  unfold pickB at hp
                  simp at hp
                  omega
                clear hp
                rcases hyes with rfl | ⟨rfl, rfl⟩ | ⟨rfl, rfl⟩ | ⟨rfl, rfl⟩ | ⟨rfl, rfl⟩
                all_goals go_wp2
                all_goals (
                  go_roundw
                  case rel =>
                    refine ⟨j + 1, by omega, by go_num, ⟨⟨_, _, _⟩, Lib.hid ?_, (((HYB.out.alloc _).put 0 _).put 1 _).put 2 _⟩, ?_⟩
                    · rw [lastOf_take HT.out, if_pos HP.out]
                    · exact (((HBI.out.alloc HBI.out.size _).setCell (Nat.le_refl _) _).setCell (Nat.le_refl _) _).setCell (Nat.le_refl _) _
                  case measure => simp [intOf]; omega)
              case false =>
                have HP := Lib.hid hp
                have hno : (tw == 7) = false ∧ ((ti == id) = false ∨ ((ti == id) = true ∧ (tw == 0) = false ∧ (tw == 1) = false ∧ (tw == 2) = false ∧ (tw == 6) = false)) := by
                  unfold pickB at hp
                  simp at hp ⊢
                  omega
                clear hp
                obtain ⟨hn7, hn | ⟨hn, hn0, hn1, hn2, hn6⟩⟩ := hno
                all_goals go_wp2
                all_goals (
                  go_roundw
                  case rel =>
                    refine ⟨j + 1, by omega, by go_num, ⟨⟨yw, yi, ys⟩, Lib.hid ?_, HYB.out.alloc _⟩, HBI.out.alloc HBI.out.size _⟩
                    rw [lastOf_take HT.out, if_neg (by rw [HP.out]; simp)]
                    exact HYL.out
                  case measure => simp [intOf]; omega)
            · have hjk' : j = k := by omega
              have hl1 := HLA.out
              rw [← hjk', HYL.out] at hl1
              obtain ⟨hl2, hl3⟩ := hl1
              simp only at hl2 hl3
              have hl4 : decide (2 < yw) = false := by simp; omega
              have c0 := hyb.cell 0 (i64 yw) rfl
              have c2 := hyb.cell 2 (.string ys) rfl
              rw [hl3] at c2
              have HBI := Lib.hid hbi
              clear hyb hbi hl2 hl3 hjk'
              go_wp2
              go_roundw
              case rel =>
                obtain ⟨st2, hits2, misses2, z0, z1, z2, z3, z4, z5⟩ := HLR.out
                exact ⟨k + 1, by omega, by go_num, Lib.hid ⟨st2, hits2, misses2, z0.below HBI.out, z1, z2, z3, z4, z5.trans (HBI.out.mono z5.size)⟩⟩
              case measure => simp [intOf]; omega
      · go_wp2_with (first
          | (go_at_call 8; refine (two_any _).mono ?_; rintro e w3 ⟨rfl, h3⟩; have H3 := Lib.hid h3; clear h3))
        go_ret
        obtain ⟨st, hits, misses, _, _, _, _, _, hbel⟩ := HK.out
        exact ⟨rfl, hbel.trans (H3.out.mono hbel.size)⟩

/-- The argument's length is within its capacity. -/
theorem cap_ok {H : Type} {enc : TypeId × Value → H} {W : World} {spare : Nat → Bool} {held : Bool} {v : Value} {d : DataW H} {ps : List MemPlace}
    (h : DataW.Trod enc Try.prog W 0 spare held 22 v d ps) : ∀ ad n c, v = .slice ad n c → n ≤ c ∧ c ≤ 9223372036854775807 := by
  rintro ad n c rfl
  obtain ⟨fuel, hf⟩ := h
  rcases Go.Deep.open_slice Try.underlying22 hf with ⟨hcs, _⟩ | ⟨a, len, cap, m, q, D, Pl, hcs, _, hl, hm, _, _, _⟩
  · have := List.singleton_inj.1 hcs
    simp only [Value.slice.injEq] at this
    omega
  · have := List.singleton_inj.1 hcs
    simp only [Value.slice.injEq] at this
    unfold maxLen at hm
    omega

namespace cacheLast
open Go.ChangeShapes Go.WideShapes Go.ChangeAt Go.RowKit Go.Joins Go.Deep
open Go.ChangeMaps (open_string shut_string)
set_option linter.unusedVariables false
set_option maxRecDepth 100000 in
theorem lifted (os : Os) (started : os.Started) (H : Type) (enc : TypeId × Value → H) :
    ReturnsInHanded {} Try.checked os 4 .any (Rows.cacheLastSpec.pre6 enc Try.prog Try.f4 Rows.cacheLastRow.domain false) (Rows.cacheLastSpec.post enc Try.prog Try.f4 false true false false) := by
  refine returnsInHanded_of_change_sized (C := Try.checked) own started (by kernel_rfl) Try.func4
    (ChangeSpec.witness6 (enc := enc) (C := Try.checked) false ⟨#[], #[.int .i64 0, .int .i64 0, .slice none 0 0], []⟩ 8 (by kernel_rfl) (by kernel_rfl) (by kernel_rfl) (by kernel_rfl)) ?_
  intro W base args ds gs before hval0 hW hcnd hsz0 _
  have hval : ∀ (j : Nat) t v, Try.f4.params[j]? = some t → args[j]? = some v → Value.okWide Try.prog W .any base t v := hval0
  have hW' := hW
  obtain ⟨p, q, hA0, hV, rfl, hfz, hnd⟩ := hW
  have hA : DataW.TrodAll enc Try.prog W 0 (fun _ => true) true Try.f4.params.toList args.toList ds p := hA0
  rw [Try.params4] at hA hval
  obtain ⟨v0, vs0, d0, ds0, p0, q0, hargs, rfl, rfl, h0, r0⟩ := trodAll_cons hA
  obtain ⟨v1, vs1, d1, ds1, p1, q1, rfl, rfl, rfl, h1, r1⟩ := trodAll_cons r0
  obtain ⟨v2, vs2, d2, ds2, p2, q2, rfl, rfl, rfl, h2, r2⟩ := trodAll_cons r1
  obtain ⟨rfl, rfl, rfl⟩ := trodAll_nil r2
  obtain rfl : args = #[v0, v1, v2] := by cases args; simp_all
  obtain ⟨rfl, rfl⟩ := trodVars_none hV
  obtain ⟨a0, rfl, rfl, rfl, w0⟩ := open_int Try.underlying3 (hval 0 3 v0 rfl rfl) h0
  obtain ⟨a1, rfl, rfl, rfl, w1⟩ := open_int Try.underlying3 (hval 1 3 v1 rfl rfl) h1
  have h2k := h2
  have hlt : ∀ x ∈ p2, x.block < W.heap.size := fun x hx => by simpa using hW'.lt x (by simp [hx])
  obtain ⟨l, hl, hlw⟩ := open_steps (hval 2 22 v2 rfl rfl) h2
  clear hA0 hval0 hsz0
  refine (cacheLast_walk hl hlw (cap_ok h2k)).mono fun e W' ⟨he, bel⟩ => ?_
  subst he
  exact ⟨_, rfl, _, _, _, [], _, [], hW', trodAll_mk1 (shut_bool Try.underlying4 _), (trodAll_cons_mk (shut_int Try.underlying3 w0) (trodAll_cons_mk (shut_int Try.underlying3 w1) (trodAll_cons_mk (Below.trod laid (by kernel_rfl) (of_decide_eq_true (by kernel_rfl)) h2k bel hlt) trodAll_mk0))), rfl, bel.frame _, fun h => by cases h⟩
theorem over : Rows.cacheLastRow.holds Try.pinned (OpenSpec.ofChange Rows.cacheLastSpec) :=
  OpenClaim.holds_of_wide 4 Try.f4 rfl rfl rfl rfl rfl rfl rfl ⟨rfl, rfl, rfl, rfl, rfl⟩ rfl rfl rfl rfl rfl (by kernel_rfl) Try.func4 (by kernel_rfl)
    (of_decide_eq_true (by kernel_rfl)) (by unfold Func.isWrapper; first | (rw [if_pos (by decide +kernel)]; kernel_rfl) | (rw [if_neg (by decide +kernel)]; exact ⟨rfl, rfl⟩))
    (fun os started H enc _ => lifted os started H enc)
end cacheLast
/-- The row: whatever the input, true. -/
theorem cacheLast_holds : Rows.CacheLastSaid := cacheLast.over

end Go.Proofs.Ytdgdfnofedlkaaa
