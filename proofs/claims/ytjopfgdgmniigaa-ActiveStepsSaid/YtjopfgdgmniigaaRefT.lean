/-
  The document's list (rectoref10): Cut, walked.
  Written by an AI agent.
-/
import Derived.Test.YtjopfgdgmniigaaRefS
namespace Go.Proofs.Ytjopfgdgmniigaa
open Go.RowKit Go.Maps

theorem take_has {xs : List Int} {j : Nat} {x : Int} (h : xs[j]? = some x) (y : Int) : (xs.take (j + 1)).contains y = ((xs.take j).contains y || y == x) := by
  rw [take_snoc h, List.contains_eq_any_beq, List.contains_eq_any_beq, List.any_append]
  simp

set_option maxHeartbeats 8000000 in
theorem dcut_any {w : World} {B rb : Nat} {es : List Ent} {vo : Value} {opn xs : List Int} (h : Doc w B rb es) (ho : IntsAt w vo opn) (hx : cutL opn es = xs) : Calls Try.prog 20 #[ptr rb, vo] w (CutIt xs w) := by
  obtain ⟨n, hn⟩ : ∃ n, es.length = n := ⟨_, rfl⟩
  obtain ⟨ad, c, ps, hL, hps, c0, hrl, hnc, hcm, hl6, hrr⟩ := h.at_ hn
  obtain ⟨m, hm⟩ : ∃ m, opn.length = m := ⟨_, rfl⟩
  obtain ⟨od, oc, rfl, hml, hor⟩ := id ho
  rw [hm] at hml ⊢
  obtain ⟨F, hF⟩ : ∃ F, cutE opn es = F := ⟨_, rfl⟩
  have hFn : F ≤ n := by rw [← hF, ← hn]; exact cutE_le opn es
  have HE := Lib.hid (And.intro hn (And.intro hm (And.intro hF hx)))
  have HR := Lib.hid hrr
  have HO := Lib.hid hor
  obtain ⟨i0, hi, hz0, hz1, hz2⟩ := info_parts info3
  clear hL hps h ho hn hm hrr hor hF hx
  go_enter Try.func20, Try.ntmps20
  go_wp2
  go_loopw [5, 6, 7, 9, 17, 26, 27, 28] (fun f _ _ _ i _ _ _ wr => ∃ (k x : Nat), k ≤ n ∧ x ≤ k ∧ i = i64 k ∧ f = i64 x ∧ Hid (cutE opn (es.take k) = x) ∧ Hid (Below w.heap.size w wr)) (fun _ _ _ _ i _ _ _ _ => n - (intOf i).toNat)
  case atStart => exact ⟨0, 0, Nat.zero_le _, Nat.le_refl _, rfl, rfl, Lib.hid rfl, Lib.hid (Below.refl _ _)⟩
  case round =>
    obtain ⟨k, x, hk, hxk, rfl, rfl, HX, HB⟩ := hrel
    by_cases hlt : k < n
    · obtain ⟨⟨mk, id, nm, ats⟩, he⟩ : ∃ e, es[k]? = some e := ⟨_, List.getElem?_eq_getElem (by rw [HE.out.1]; exact hlt)⟩
      obtain ⟨g, had, _, hg, hc⟩ := HR.out (fun e0 => by rw [e0] at he; simp at he)
      obtain ⟨va, na, ca, _, _, _, d0, d1, d2, d3⟩ := hc k _ he
      have e0 := (HB.out.cell (p := ⟨g, k * 4, none⟩) hg).trans d0
      have e1 := (HB.out.cell (p := ⟨g, k * 4 + 1, none⟩) hg).trans d1
      have e2 := (HB.out.cell (p := ⟨g, k * 4 + 2, none⟩) hg).trans d2
      have e3 := (HB.out.cell (p := ⟨g, k * 4 + 3, none⟩) hg).trans d3
      simp only at e0 e1 e2 e3
      have HT : Hid (cutE opn (es.take (k + 1)) = if mk || opn.contains id then k + 1 else x) := Lib.hid (by
        rw [take_snoc he, cutE_snoc, HX.out, List.length_take, HE.out.1, Nat.min_eq_left hk])
      have HAD := Lib.hid had
      have hw : IntKind.i64.wrap ((k : Int) + 1) = (k : Int) + 1 := IntWalk.i64_in _ (by omega)
      have hb2 := HB.out.alloc HB.out.size (.cells #[.bool mk, i64 id, .string nm, .slice va na ca] 41)
      have hbx := Blk.new wr 41 #[.bool mk, i64 id, .string nm, .slice va na ca]
      have HB2 := Lib.hid (And.intro hb2 hbx)
      clear hc he had d0 d1 d2 d3 hb2 hbx
      rw [HAD.out]
      obtain ⟨wq, hwq⟩ : ∃ wq, wr = wq := ⟨_, rfl⟩
      rw [hwq] at HB2 e0 e1 e2 e3 ⊢
      clear HB
      cases mk
      · go_wp2
        go_loopw [5, 9, 28] (fun f _ i wi => ∃ (j y : Nat), j ≤ m ∧ i = i64 j ∧ f = i64 y ∧ Hid (y = if (opn.take j).contains id then k + 1 else x) ∧ wi = wq.alloc (.cells #[.bool false, i64 id, .string nm, .slice va na ca] 41)) (fun _ _ i _ => m - (intOf i).toNat)
        case atStart => exact ⟨0, x, Nat.zero_le _, rfl, rfl, Lib.hid (by simp), rfl⟩
        case round =>
          obtain ⟨j, y, hj, rfl, rfl, HY, rfl⟩ := hrel
          have x0 := HB2.out.2.cell 0 (.bool false) rfl
          have x1 := HB2.out.2.cell 1 (i64 id) rfl
          by_cases hjm : j < m
          · obtain ⟨oj, hoj⟩ : ∃ oj, opn[j]? = some oj := ⟨_, List.getElem?_eq_getElem (by rw [HE.out.2.1]; exact hjm)⟩
            obtain ⟨go, off, hod, hgo, hco⟩ := HO.out (fun e => by rw [e] at hoj; simp at hoj)
            have o0 := (HB2.out.1.cell (p := ⟨go, off + j, none⟩) hgo).trans (hco j _ hoj)
            obtain ⟨q, hq⟩ : ∃ q, (id == oj) = q := ⟨_, rfl⟩
            have HQ : Hid ((opn.take (j + 1)).contains id = ((opn.take j).contains id || q)) := Lib.hid (by rw [take_has hoj, hq])
            have HOD := Lib.hid hod
            clear hoj hco hod
            rw [HOD.out]
            cases q
            · go_wp2
              go_roundw
              case rel => exact ⟨j + 1, y, by omega, by go_num, rfl, Lib.hid (by rw [HQ.out, Bool.or_false]; exact HY.out), by trivial⟩
              case measure => simp [intOf]; omega
            · go_wp2
              go_roundw
              case rel => exact ⟨j + 1, k + 1, by omega, by go_num, by go_num, Lib.hid (by rw [HQ.out, Bool.or_true, if_pos rfl]), by trivial⟩
              case measure => simp [intOf]; omega
          · have hy : y = if opn.contains id then k + 1 else x := by
              have := HY.out
              rw [List.take_of_length_le (by rw [HE.out.2.1]; omega)] at this
              exact this
            have HYY := Lib.hid hy
            have hyk : y ≤ k + 1 := by rw [hy]; split <;> omega
            clear hy
            go_wp2
            go_roundw
            case rel => exact ⟨k + 1, y, by omega, hyk, by go_num, rfl, Lib.hid (by rw [HT.out, HYY.out]; rfl), Lib.hid HB2.out.1⟩
            case measure => simp [intOf]; omega
      · go_wp2
        go_loopw [5, 9, 28] (fun f _ i wi => ∃ (j : Nat), j ≤ m ∧ i = i64 j ∧ f = .int .i64 ((k : Int) + 1) ∧ wi = wq.alloc (.cells #[.bool true, i64 id, .string nm, .slice va na ca] 41)) (fun _ _ i _ => m - (intOf i).toNat)
        case atStart => exact ⟨0, Nat.zero_le _, rfl, rfl, rfl⟩
        case round =>
          obtain ⟨j, hj, rfl, rfl, rfl⟩ := hrel
          have x0 := HB2.out.2.cell 0 (.bool true) rfl
          have x1 := HB2.out.2.cell 1 (i64 id) rfl
          by_cases hjm : j < m
          · obtain ⟨oj, hoj⟩ : ∃ oj, opn[j]? = some oj := ⟨_, List.getElem?_eq_getElem (by rw [HE.out.2.1]; exact hjm)⟩
            obtain ⟨go, off, hod, hgo, hco⟩ := HO.out (fun e => by rw [e] at hoj; simp at hoj)
            have o0 := (HB2.out.1.cell (p := ⟨go, off + j, none⟩) hgo).trans (hco j _ hoj)
            have HOD := Lib.hid hod
            clear hoj hco hod
            rw [HOD.out]
            go_wp2
            go_roundw
            case rel => exact ⟨j + 1, by omega, by go_num, rfl, by trivial⟩
            case measure => simp [intOf]; omega
          · go_wp2
            go_roundw
            case rel => exact ⟨k + 1, k + 1, by omega, Nat.le_refl _, by go_num, by go_num, Lib.hid (by rw [HT.out]; rfl), Lib.hid HB2.out.1⟩
            case measure => simp [intOf]; omega
    · have hxF : x = F := by
        have := HX.out
        rw [List.take_of_length_le (by rw [HE.out.1]; omega), HE.out.2.2.1] at this
        exact this.symm
      subst hxF
      have q0 := (HB.out.cell (p := ⟨rb, 0, none⟩) hrl).trans c0
      obtain ⟨wq, hwq⟩ : ∃ wq, wr = wq := ⟨_, rfl⟩
      rw [hwq] at HB q0 ⊢
      clear hwq
      go_wp2
      go_loopw [10, 11, 50] (fun out _ i wi => ∃ j : Nat, j ≤ n ∧ i = i64 j ∧ Hid (wi.ownsRow w.heap.size 3 1 out (j - x) (((List.range (j - x)).map fun q => ((x + q : Nat) : Int)).map fun x => i64 x)) ∧ (∃ ad c, out = .slice ad (j - x) c) ∧ Hid (Below w.heap.size w wi)) (fun _ _ i _ => n - (intOf i).toNat)
      case atStart => exact ⟨0, Nat.zero_le _, rfl, Lib.hid (by rw [Nat.zero_sub]; exact World.ownsRow_nil _ _ _ _), ⟨none, 0, by rw [Nat.zero_sub]⟩, HB⟩
      case round =>
        obtain ⟨j, hj, rfl, HOW, ⟨oa, oc', rfl⟩, HBJ⟩ := hrel
        by_cases hjn : j < n
        · by_cases hxj : x ≤ j
          · have hz : decide (x ≤ j) = true := decide_eq_true hxj
            obtain ⟨d, hd⟩ : ∃ d, j - x = d := ⟨_, rfl⟩
            have hd1 : j + 1 - x = d + 1 := by omega
            have hd2 : x + d = j := by omega
            have hdl : d ≤ 1000000 := by omega
            rw [hd] at HOW ⊢
            have HD := Lib.hid (And.intro hd1 hd2)
            clear hd hd1 hd2 hxj
            go_wp2_with (first
              | (at_builtin; refine wpList_append_own _ rfl (.tmp 56) (.tmp 58) 23 rfl w.heap.size 3 i0 (.int .i64 0) 1 8 Try.underlying23 hi hz0 hz1 hz2 rfl (by decide) _ _ _ rfl (own_alloc HOW.out _) ⟨_, 0, none⟩ 1 1 [i64 j] rfl rfl (cell_one_new _ _ _) (by intro u hu; simp at hu; subst hu; rfl) (by unfold maxLen; omega) (by omega) (by have := HBJ.out.size; simp; omega) ?_; intro v' w4 hown' hgrow _; obtain ⟨na, nc, rfl⟩ := own_slice hown'; have HF := Lib.hid (And.intro hown' ((HBJ.out.alloc HBJ.out.size _).grown hgrow (by have := HBJ.out.size; simp; omega) (fun k hk => (own_kind HOW.out k hk).1))); clear hown' hgrow))
            go_roundw
            case rel =>
              refine ⟨j + 1, by omega, by go_num, Lib.hid ?_, ⟨na, nc, by rw [HD.out.1]⟩, Lib.hid HF.out.2⟩
              rw [HD.out.1, List.range_succ, List.map_append, List.map_append]
              have := HF.out.1
              have h1i : (j : Int) = (x : Int) + (d : Int) := by have := HD.out.2; omega
              simpa [h1i] using this
            case measure => simp [intOf]; omega
          · have hz : decide (x ≤ j) = false := decide_eq_false hxj
            have hd1 : j + 1 - x = j - x := by omega
            have HD := Lib.hid hd1
            clear hd1 hxj
            go_wp2
            go_roundw
            case rel => exact ⟨j + 1, by omega, by go_num, by rw [HD.out]; exact HOW, ⟨oa, oc', by rw [HD.out]⟩, HBJ⟩
            case measure => simp [intOf]; omega
        · have hjn' : j = n := by omega
          subst hjn'
          have HQ := Lib.hid hjn
          clear hjn
          go_wp2
          go_ret
          refine ⟨_, rfl, ?_, HBJ.out⟩
          have hint : IntsAt _ _ (((List.range (j - x)).map fun q => ((x + q : Nat) : Int))) := IntsAt.of_own (w := _) (base := w.heap.size) (e := 3) (by simpa using HOW.out) (by simp; omega)
          have hxs := HE.out.2.2.2
          unfold cutL at hxs
          rw [HE.out.2.2.1, HE.out.1] at hxs
          rw [← hxs]
          exact hint
end Go.Proofs.Ytjopfgdgmniigaa
