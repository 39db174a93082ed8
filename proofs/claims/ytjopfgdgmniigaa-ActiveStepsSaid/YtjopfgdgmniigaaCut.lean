/-
  slices.Contains at int, (*List).Cut, walked.
  Written by an AI agent.
-/
import Derived.Test.YtjopfgdgmniigaaAll
import Derived.Deep.DeepCutAuto
import Derived.Deep.CutBlock
import Derived.Maps.AppendAt
namespace Go.Proofs.Ytjopfgdgmniigaa
open Go.RowKit Go.Maps

set_option maxHeartbeats 1000000 in
theorem index_any {w : World} {va : Value} {xs : List Int} (ha : IntsAt w va xs) (x : Int) :
    Calls Try.prog 51 #[va, i64 x] w fun e w' => (∃ r, e = .returned (i64 r) ∧ decide (r ≥ 0) = xs.contains x) ∧ w' = w := by
  obtain ⟨ad, ca, rfl, hla, hra⟩ := ha
  obtain ⟨n, hn⟩ : ∃ n, xs.length = n := ⟨_, rfl⟩
  rw [hn] at hla ⊢
  have HN := Lib.hid hn
  have HA := Lib.hid hra
  clear hn hra
  go_enter Try.func51, Try.ntmps51
  go_wp2
  go_loopw [8] (fun i wr => ∃ k : Nat, k ≤ n ∧ i = i64 k ∧ Hid (x ∉ xs.take k) ∧ wr = w) (fun i _ => n - (intOf i).toNat)
  case atStart => exact ⟨0, Nat.zero_le _, rfl, Lib.hid (by simp), rfl⟩
  case round =>
    obtain ⟨k, hk, rfl, HK, rfl⟩ := hrel
    by_cases hlt : k < n
    · obtain ⟨y, hy⟩ : ∃ y, xs[k]? = some y := ⟨_, List.getElem?_eq_getElem (by rw [HN.out]; exact hlt)⟩
      obtain ⟨g, off, had, _, hc⟩ := HA.out (fun e => by rw [e] at hy; simp at hy)
      have c1 := hc k y hy
      have HY := Lib.hid hy
      have HAD := Lib.hid had
      clear hc hy had
      rw [HAD.out]
      by_cases hxy : x = y
      · have e1 : (x == y) = true := by simpa using hxy
        have hm : xs.contains x = true := by
          rw [hxy]
          simpa using List.mem_of_getElem? HY.out
        have HM := Lib.hid hm
        clear hxy hm
        go_wp2
        go_ret
        exact ⟨⟨(k : Int), rfl, by rw [HM.out]; simp⟩, rfl⟩
      · have e1 : (x == y) = false := by simpa using hxy
        have HXY := Lib.hid hxy
        clear hxy
        go_wp2
        go_roundw
        case rel =>
          refine ⟨k + 1, by omega, by go_num, Lib.hid ?_, by trivial⟩
          rw [List.take_add_one, HY.out]
          have h1 := HK.out
          have h2 := HXY.out
          simp [h1, h2]
        case measure => simp [intOf]; omega
    · have hm : xs.contains x = false := by
        have h1 := HK.out
        rw [List.take_of_length_le (by rw [HN.out]; omega)] at h1
        simpa using h1
      have HM := Lib.hid hm
      clear hm
      go_wp2
      go_ret
      exact ⟨⟨-1, rfl, by rw [HM.out]; rfl⟩, rfl⟩

theorem contains_any {w : World} {va : Value} {xs : List Int} (ha : IntsAt w va xs) (x : Int) {r : Bool} (hr : xs.contains x = r) :
    Calls Try.prog 40 #[va, i64 x] w fun e w' => e = .returned (.bool r) ∧ w' = w := by
  have H := Lib.hid ha
  obtain ⟨ad, ca, rfl, _⟩ := ha
  have HR := Lib.hid hr
  clear hr
  go_enter Try.func40, Try.ntmps40
  go_wp2_with (first | (go_at_call 51; (with_reducible refine (index_any H.out x).mono ?_); rintro e w1 ⟨⟨q, rfl, hq⟩, rfl⟩; have HQ := Lib.hid hq; clear hq))
  go_ret
  exact ⟨by rw [← HR.out, ← HQ.out]; rfl, rfl⟩

theorem cutR_le (opn : List Int) : ∀ es, cutR opn es ≤ es.length
  | [] => Nat.le_refl _
  | e :: r => by
    rw [cutR_cons]
    have := cutR_le opn r
    split <;> simp <;> omega
theorem cutE_le (opn : List Int) (es : List Ent) : cutE opn es ≤ es.length := by
  have := cutR_le opn es.reverse
  rw [List.length_reverse] at this
  exact this

/-- The places from a place on. -/
def cutL (opn : List Int) (es : List Ent) : List Int := (List.range (es.length - cutE opn es)).map fun i => ((cutE opn es + i : Nat) : Int)

def CutIt (xs : List Int) (w : World) (e : Ending) (w' : World) : Prop := ∃ v, e = .returned v ∧ IntsAt w' v xs ∧ Below w.heap.size w w'

theorem info3 : (Try.prog.info? 3).map (fun i => (i.zero, i.size, i.bytes)) = some (some (.int .i64 0), 1, 8) := by kernel_rfl

set_option maxHeartbeats 4000000 in
theorem cut_any {w : World} {B lb : Nat} {es : List Ent} {vo : Value} {opn : List Int} (h : ListIs w B lb 63 33 es) (ho : IntsAt w vo opn) : Calls Try.prog 19 #[ptr lb, vo] w (CutIt (cutL opn es) w) := by
  have HO := Lib.hid ho
  obtain ⟨v, ps, hlist, hes⟩ := h
  obtain ⟨rd, rc, hve, hnc, hcm, hr⟩ := hlist.2.2.form
  subst hve
  obtain ⟨n, hn⟩ : ∃ n, ps.length = n := ⟨_, rfl⟩
  have hl := hlist.2.2.2.1
  have c0 := hlist.1.cell 0 _ rfl
  have hlb := hlist.1.lt
  obtain ⟨od, oc, hvo, _⟩ := ho
  subst hvo
  rw [hn] at c0 hnc hl
  have HE := Lib.hid (And.intro hes hn)
  have HR := Lib.hid hr
  obtain ⟨i0, hi, hz0, hz1, hz2⟩ := info_parts info3
  clear hlist hes hn hr
  cases rd with
  | none =>
    have hps : ps = [] := Classical.byContradiction fun hne => by
      obtain ⟨g, he, _⟩ := HR.out hne
      cases he
    obtain ⟨he, hn⟩ := HE.out
    subst hps
    simp only [List.length_nil] at hn
    subst hn
    simp only [List.map_nil] at he
    subst he
    clear HE HR
    go_enter Try.func19, Try.ntmps19
    go_wp2
    refine wp_loop_rounds 1 ?_
    rw [rounds_succ]
    go_wp2
    refine wp_loop_rounds 1 ?_
    rw [rounds_succ]
    go_wp2
    go_ret
    exact ⟨_, rfl, IntsAt.nil _ _ _, Below.refl _ _⟩
  | some a =>
  go_enter Try.func19, Try.ntmps19
  go_upto_block 0 with fail
  go_cut [5] (fun f wx => f = i64 (cutE opn es) ∧ wx = w)
  case first =>
    go_wp2
    go_loopw [5] (fun f wr => ∃ k : Nat, k ≤ n ∧ f = i64 k ∧ Hid (cutE opn es = cutR opn (es.reverse.drop (n - k))) ∧ wr = w) (fun f _ => (intOf f).toNat)
    case atStart => exact ⟨n, Nat.le_refl _, rfl, Lib.hid (by rw [Nat.sub_self]; rfl), rfl⟩
    case round =>
      obtain ⟨k, hk, rfl, HK, rfl⟩ := hrel
      by_cases hk0 : 0 < k
      · obtain ⟨x, hx, hd⟩ := rev_get (l := es) (i := n - k) (by rw [← HE.out.1, List.length_map, HE.out.2]; omega)
        rw [← HE.out.1, List.length_map, HE.out.2, show n - 1 - (n - k) = k - 1 by omega, List.getElem?_map] at hx
        obtain ⟨p, hp, rfl⟩ := Option.map_eq_some_iff.1 hx
        obtain ⟨g, hrd, _, hg, hc⟩ := HR.out (fun e => by rw [e] at hp; simp at hp)
        obtain ⟨j, hj⟩ : ∃ j, k = j + 1 := ⟨k - 1, by omega⟩
        subst hj
        rw [show j + 1 - 1 = j by omega] at hp
        obtain ⟨d0, d1, _, _⟩ := hc _ _ hp
        obtain ⟨⟨pm, pi, pn, pa⟩, pv⟩ := p
        simp only at d0 d1
        rw [show n - (j + 1) + 1 = n - j by omega] at hd
        have hstep : cutE opn es = if pm || opn.contains pi then j + 1 else cutR opn (es.reverse.drop (n - j)) := by
          rw [HK.out, hd, cutR_cons]
          have : (es.reverse.drop (n - j)).length = j := by
            rw [List.length_drop, List.length_reverse, ← HE.out.1, List.length_map, HE.out.2]; omega
          rw [this]
        have hjn : j < n := by omega
        have HS := Lib.hid hstep
        obtain rfl := Option.some.inj hrd
        clear hx hc hp hd hstep hrd
        cases pm
        · cases hcon : opn.contains pi
          · have HCON := Lib.hid hcon
            clear hcon
            go_wp2_with (first | (go_at_call 40; (with_reducible refine (contains_any HO.out pi HCON.out).mono ?_); rintro e w' ⟨rfl, rfl⟩))
            go_roundw
            case rel =>
              refine ⟨j, by omega, rfl, Lib.hid ?_, by trivial⟩
              rw [HS.out, HCON.out]; rfl
            case measure => simp [intOf]
          · have HCON := Lib.hid hcon
            clear hcon
            go_wp2_with (first | (go_at_call 40; (with_reducible refine (contains_any HO.out pi HCON.out).mono ?_); rintro e w' ⟨rfl, rfl⟩))
            go_meet
            exact ⟨by rw [HS.out, HCON.out]; rfl, by trivial⟩
        · go_wp2
          go_meet
          exact ⟨by rw [HS.out]; rfl, by trivial⟩
      · have hk1 : k = 0 := by omega
        have hz : cutE opn es = 0 := by
          rw [HK.out, hk1, List.drop_of_length_le (by rw [List.length_reverse, ← HE.out.1, List.length_map, HE.out.2]; omega)]
          rfl
        go_wp2
        go_meet
        exact ⟨by rw [hz, hk1], by trivial⟩
  case rest =>
    obtain ⟨rfl, rfl⟩ := hcut
    obtain ⟨f, hf⟩ : ∃ f, cutE opn es = f := ⟨_, rfl⟩
    have hfn : f ≤ n := by
      have h1 := cutE_le opn es
      have h2 : es.length = n := by rw [← HE.out.1, List.length_map, HE.out.2]
      omega
    have HFD := Lib.hid hf
    rw [hf]
    clear hf
    go_wp2
    go_loopw [6, 7] (fun vo i wr => ∃ j : Nat, f + j ≤ n ∧ i = i64 ((f + j : Nat) : Int) ∧ Hid (wr.ownsRow wc.heap.size 3 1 vo j (((List.range j).map fun q => ((f + q : Nat) : Int)).map fun x => i64 x)) ∧ (∃ ad c, vo = .slice ad j c) ∧ Below wc.heap.size wc wr) (fun _ i _ => n - (intOf i).toNat)
    case atStart => exact ⟨0, by omega, rfl, Lib.hid (World.ownsRow_nil _ _ _ _), ⟨none, 0, rfl⟩, Below.refl _ _⟩
    case round =>
      obtain ⟨j, hj, rfl, HOW, ⟨oa, oc', rfl⟩, hbel⟩ := hrel
      have c0' := (hbel.cell (p := ⟨lb, 0, none⟩) hlb).trans c0
      obtain ⟨q, hq⟩ : ∃ q, f + j = q := ⟨_, rfl⟩
      have HQ := Lib.hid hq
      have hjn' : j ≤ n := by omega
      rw [hq] at hj ⊢
      clear hq
      by_cases hlt : q < n
      · have HBE := Lib.hid hbel
        clear hbel
        go_wp2_with (first
          | (at_builtin; refine wpList_append_own _ rfl (.tmp 55) (.tmp 57) 23 rfl wc.heap.size 3 i0 (.int .i64 0) 1 8 Try.underlying23 hi hz0 hz1 hz2 rfl (by decide) _ _ _ rfl (HOW.out.alloc _) ⟨_, 0, none⟩ 1 1 [i64 q] rfl rfl (cell_one_new _ _ _) (by intro u hu; simp at hu; subst hu; rfl) (by unfold maxLen; omega) (by omega) (by have := HBE.out.size; simp; omega) ?_; intro v' w4 hown' hgrow _; obtain ⟨na, nc, rfl⟩ := own_slice hown'; have HF := Lib.hid (And.intro hown' hgrow); clear hown' hgrow))
        go_roundw
        case rel =>
          have hb4 : Below wc.heap.size wc w4 := (HBE.out.alloc HBE.out.size _).grown HF.out.2 (by have := HBE.out.size; simp; omega) (fun k hk => (own_kind HOW.out k hk).1)
          have h1 := HQ.out
          refine ⟨j + 1, by omega, by rw [show f + (j + 1) = q + 1 by omega]; go_num, Lib.hid ?_, ⟨na, nc, rfl⟩, hb4⟩
          rw [List.range_succ, List.map_append, List.map_append]
          have := HF.out.1
          have h1i : (q : Int) = (f : Int) + (j : Int) := by omega
          simpa [h1i] using this
        case measure => simp [intOf]; omega
      · have hjn : j = es.length - f := by
          have h1 := HQ.out
          have h2 : es.length = n := by rw [← HE.out.1, List.length_map, HE.out.2]
          omega
        have hlen : es.length = n := by rw [← HE.out.1, List.length_map, HE.out.2]
        have HJ := Lib.hid (And.intro hjn hlen)
        clear hjn hlen
        go_wp2
        go_ret
        have hint : IntsAt _ _ (((List.range j).map fun q => ((f + q : Nat) : Int))) := IntsAt.of_own (w := _) (base := wc.heap.size) (e := 3) (by simpa using HOW.out) (by have := HJ.out.2; simp; omega)
        refine ⟨_, rfl, ?_, hbel⟩
        unfold cutL
        rw [HFD.out, ← HJ.out.1]
        exact hint

end Go.Proofs.Ytjopfgdgmniigaa
