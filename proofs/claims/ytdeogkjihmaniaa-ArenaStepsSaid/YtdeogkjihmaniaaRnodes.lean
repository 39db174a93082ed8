/-
  (*rectoref11.Arena).Nodes, walked: it calls itself.
  Written by an AI agent.
-/
import Derived.Test.YtdeogkjihmaniaaRout
namespace Go.Proofs.Ytdeogkjihmaniaa
open Go.RowKit
attribute [local go_sem ↓] Go.wp_at_zero Go.wp_at_succ

theorem own_int_at {w : World} {B n c : Nat} {ad : Option Addr} {xs : List Int} {k : Nat} {x : Int} (h : w.ownsRow B 3 1 (.slice ad n c) n (xs.map i64)) (hn : k < n) (hk : xs[k]? = some x) :
    ∃ g, ad = some ⟨g, 0, none⟩ ∧ n ≤ c ∧ g < w.heap.size ∧ w.cell? ⟨g, k, none⟩ = some (i64 x) := by
  have hr := h
  rcases h.2 with ⟨_, h0⟩ | ⟨g, cap, cur, hv, hb, hg, hnc, hm, _, _⟩
  · omega
  · simp only [Value.slice.injEq] at hv
    obtain ⟨rfl, _, rfl⟩ := hv
    refine ⟨g, rfl, hnc, (Array.getElem?_eq_some_iff.1 hg).1, ?_⟩
    rw [hr.cellAt k (by omega), List.getElem?_map, hk]
    rfl
theorem kid_kept {W w3 : World} {nb : Nat} {cs : Array Value} (h : Blk W nb 39 cs) (hb : Below W.heap.size W w3) : Blk w3 nb 39 cs := (hb.block nb h.lt).trans h
theorem rout_own {w : World} {B base ol : Nat} {v : Value} {xs : List Tn} (hol : xs.length = ol) (h : ROut w B base v xs) (o : Obj) : (w.alloc o).ownsRow base 39 6 v ol (flatN xs) := by
  subst hol
  exact h.row.alloc o
theorem rnews (w3 : World) (cs : List Value) : ∀ j u, cs[j]? = some u → (w3.alloc (.cells cs.toArray 39)).cell? ((⟨w3.heap.size, 0, none⟩ : Addr).add j) = some u := by
  have h := Blk.new w3 39 cs.toArray
  have := World.news_of_block (w := (w3.alloc (.cells cs.toArray 39))) h
  simpa using this
theorem cellsN_one (t : Tr) (av kv : Value) {a1 a2 : Option Addr} {n1 n2 c1 c2 : Nat} (h1 : av = .slice a1 n1 c1 := by rfl) (h2 : kv = .slice a2 n2 c2 := by rfl) : ∀ u ∈ cellsN ⟨t, av, kv⟩, u.oneCell' = true := by
  intro u hu
  simp only [cellsN, List.mem_cons, List.not_mem_nil, or_false] at hu
  rcases hu with rfl | rfl | rfl | rfl | rfl | rfl <;> first | rfl | (rw [h1]; rfl) | (rw [h2]; rfl)
theorem rout_far {w : World} {B base : Nat} {v : Value} {xs : List Tn} (h : ROut w B base v xs) : v.ownBlock ≠ some w.heap.size := fun e => by
  have := own_lt h.row e
  omega
theorem kid_far {w3 w5 : World} {B base nb : Nat} {v : Value} {xs : List Tn} {cs : Array Value} {o : Obj} (hp : Blk w3 nb 39 cs) (_ : ROut w3 B base v xs) (hg : (w3.alloc o).grownBy w5 v.ownBlock) (hf : v.ownBlock ≠ some nb) : Blk w5 nb 39 cs :=
  (hg.block nb (by have := hp.lt; simp; omega) (fun e => hf e.symm)).trans (hp.alloc o)
theorem lies_at {ob : Option Nat} {g H : Nat} (h : ob = some g ∨ g = H) : some g = ob ∨ some g = some H := by
  rcases h with h | h
  · exact .inl h.symm
  · exact .inr (congrArg some h)
/-- A node made: what was gathered, its attributes, its kids. -/
theorem rnode_made {wr w3 : World} {B base : Nat} {O : Obj} {o u1 u2 : Value} {xs : List Tn} {ats : List Atr} {ts : List Tr} (hxs : ROut wr B base o xs) (ha : AtrsAt wr B u1 ats ∧ base ≤ wr.heap.size)
    (hb : Below (wr.alloc O).drew.heap.size (wr.alloc O).drew w3) (ht : TrsAt (fun k => (wr.alloc O).drew.heap.size ≤ k) (AtrsAt w3 B) w3 u2 ts) :
    ROut w3 B base o xs ∧ AtrsAt w3 B u1 ats ∧ TrsAt (fun k => base ≤ k ∧ o.ownBlock ≠ some k) (AtrsAt w3 B) w3 u2 ts ∧ Below wr.heap.size wr w3 := by
  have h0 : Below wr.heap.size wr (wr.alloc O).drew := ((Below.refl _ wr).alloc (Nat.le_refl _) O).drew
  have h1 : Below wr.heap.size wr w3 := h0.trans (hb.mono h0.size)
  refine ⟨hxs.below h1, ha.1.below h1, ht.turn (Nat.le_refl _) (fun k hk hd => ⟨rfl, ?_, fun e => ?_⟩) (fun _ _ h => h), h1⟩
  · have := h0.size; have := ha.2; omega
  · have := own_lt hxs.row e
    have := h0.size
    omega

set_option maxHeartbeats 8000000 in
set_option maxRecDepth 100000 in
theorem rnodes_any {B rb : Nat} {S : St} (g : Good S) (ht : ∀ nd ∈ S.l, nd.text.size ≤ TB) {r : Nat → Nat} (hr : ∀ (k p : Nat), S.ps[k]? = some (p : Int) → r p < r k) (hrb : ∀ k, k < S.l.length → r k < S.l.length) :
    ∀ (n id : Nat), id < S.l.length → S.l.length ≤ r id + n → ∀ {w : World} {vL vR : Value} {lr : List Ro} {row : List Int}, RefAt w B rb vL vR lr row → RMod lr row S → Calls Try.prog 26 #[ptr rb, i64 id] w (RNodesIt B (treeOf S n id) w) := by
  intro n
  induction n with
  | zero => intro id hid hn; have := hrb id hid; omega
  | succ n ih =>
    intro id hid hn w vL vR lr row h m
    obtain ⟨ks, hks⟩ : ∃ ks, S.kids id = ks := ⟨_, rfl⟩
    obtain ⟨mm, hmm⟩ : ∃ mm, ks.length = mm := ⟨_, rfl⟩
    have hm600 : mm ≤ 600 := by rw [← hmm, ← hks]; exact g.kids_len id
    have hBw : B ≤ w.heap.size := Nat.le_of_lt (Nat.lt_of_le_of_lt h.low h.blk.lt)
    have has : rb < w.heap.size := h.blk.lt
    have H := Lib.hid (And.intro h (And.intro m (And.intro hks hmm)))
    have HBw := Lib.hid hBw
    have HM := Lib.hid (And.intro g (And.intro ht (And.intro hr (And.intro hrb hn))))
    have HIH := Lib.hid ih
    clear h m hks hmm g ht hr hrb hn ih hBw
    go_enter Try.func26, Try.ntmps26
    go_wp2_with (first
      | (go_at_call 24; (with_reducible refine (rkids_any H.out.1 H.out.2.1 HM.out.1).mono ?_); rintro e w1 ⟨v1, rfl, hk1, hb1⟩; rw [H.out.2.2.1, H.out.2.2.2] at hk1; obtain ⟨kad, kc, rfl⟩ := own_slice hk1; have H1 := Lib.hid (And.intro hk1 hb1); clear hk1 hb1))
    go_loopw [5, 7, 8, 13] (fun o _ _ i wr => ∃ j : Nat, j ≤ mm ∧ i = i64 j ∧ Below w1.heap.size w1 wr ∧ Hid (∃ xs, ROut wr B w1.heap.size o xs ∧ GotN S n ks j xs)) (fun _ _ _ i _ => mm - (intOf i).toNat)
    case atStart => exact ⟨0, Nat.zero_le _, rfl, Below.refl _ _, ⟨[], ROut.nil _ _ _, rfl, by simp, by simp⟩⟩
    case round =>
      obtain ⟨j, hj, rfl, hbel, HX⟩ := hrel
      by_cases hlt : j < mm
      · obtain ⟨xs, hxs, hgot⟩ := HX.out
        obtain ⟨x, hx⟩ : ∃ x, ks[j]? = some x := ⟨_, List.getElem?_eq_getElem (by rw [H.out.2.2.2]; exact hlt)⟩
        have hxm : x ∈ S.kids id := by rw [H.out.2.2.1]; exact List.mem_of_getElem? hx
        obtain ⟨k, rfl, hpk, _⟩ := Good.kid_par hxm
        have hkl : k < S.l.length := by rw [← Good.ps_length]; exact (List.getElem?_eq_some_iff.1 hpk).1
        obtain ⟨nd, hnd⟩ : ∃ nd, S.l[k]? = some nd := ⟨_, List.getElem?_eq_getElem hkl⟩
        obtain ⟨e, he, hend⟩ := H.out.2.1.ex hnd
        obtain ⟨kg, hkad, hmc, hkgl, kcell⟩ := own_int_at H1.out.1 hlt hx
        have hbw : Below w.heap.size w wr := H1.out.2.trans (hbel.mono H1.out.2.size)
        obtain ⟨gg, c, hvL, hlc, hc9, hklr, _, hgs, c0, _, f0, f1, f2, f3, f4, f5, _⟩ := H.out.1.cells he
        obtain ⟨ln, hln⟩ : ∃ ln, lr.length = ln := ⟨_, rfl⟩
        have hatr := H.out.1.atrs e (List.mem_of_getElem? he)
        rw [hend] at f0 f1 f2 f4 hatr
        obtain ⟨aad, ac, hav⟩ := hatr.form
        obtain ⟨ki, hki⟩ : ∃ ki, nd.kind = ki := ⟨_, rfl⟩
        obtain ⟨sp, hsp⟩ : ∃ sp, nd.space = sp := ⟨_, rfl⟩
        obtain ⟨nm, hnm⟩ : ∃ nm, nd.name = nm := ⟨_, rfl⟩
        obtain ⟨tx, htx⟩ : ∃ tx, nd.text = tx := ⟨_, rfl⟩
        obtain ⟨an, han⟩ : ∃ an, nd.attrs.length = an := ⟨_, rfl⟩
        rw [han] at hav
        rw [hki] at f0
        rw [hsp] at f1
        rw [hnm] at f2
        rw [hav] at f3 hatr
        rw [htx] at f4
        rw [hln] at c0 hlc hklr
        have e0 := (hbw.cell (p := ⟨gg, k * 7, none⟩) hgs).trans f0
        have e1 := (hbw.cell (p := ⟨gg, k * 7 + 1, none⟩) hgs).trans f1
        have e2 := (hbw.cell (p := ⟨gg, k * 7 + 2, none⟩) hgs).trans f2
        have e3 := (hbw.cell (p := ⟨gg, k * 7 + 3, none⟩) hgs).trans f3
        have e4 := (hbw.cell (p := ⟨gg, k * 7 + 4, none⟩) hgs).trans f4
        have e5 := (hbw.cell (p := ⟨gg, k * 7 + 5, none⟩) hgs).trans f5
        have ec0 := (hbw.cell (p := ⟨rb, 0, none⟩) has).trans c0
        have ek := (hbel.cell (p := ⟨kg, j, none⟩) hkgl).trans kcell
        have HA : Hid (AtrsAt wr B (.slice aad an ac) nd.attrs ∧ w1.heap.size ≤ wr.heap.size) := Lib.hid ⟨hatr.below hbw, hbel.size⟩
        have htx9 : tx.size ≤ TB := by rw [← htx]; exact HM.out.2.1 _ (List.mem_of_getElem? hnd)
        have hrk := HM.out.2.2.1 k id hpk
        have hBBw : Below wr.heap.size wr (wr.alloc (.cells #[i64 ki, i64 sp, .string nm, .slice aad an ac, .string tx, .slice none 0 0] 39)).drew := ((Below.refl _ wr).alloc (Nat.le_refl _) _).drew
        have HB1 := Lib.hid (And.intro ((H.out.1.below hbw).below hBBw) (Blk.new wr 39 #[i64 ki, i64 sp, .string nm, .slice aad an ac, .string tx, .slice none 0 0]).drew)
        have HBB : Hid (B ≤ w1.heap.size) := Lib.hid (Nat.le_trans HBw.out H1.out.2.size)
        obtain ⟨oad, oc, ho⟩ := own_slice hxs.row
        have hxl : xs.length ≤ 600 := by have := hgot.2.1; omega
        subst ho
        obtain ⟨ol, hol⟩ : ∃ ol, xs.length = ol := ⟨_, rfl⟩
        rw [hol] at hxl hxs ⊢
        have HV := Lib.hid (And.intro hkl (And.intro (show S.l.length ≤ r k + n by have := HM.out.2.2.2.2; omega) (And.intro hx (And.intro hxs (And.intro hgot trivial)))))
        have HNX : Hid (S.l[k]? = some (ndI (itOf nd)) ∧ nd.kind = ki ∧ nd.space = sp ∧ nd.name = nm ∧ nd.text = tx) := Lib.hid ⟨hnd, hki, hsp, hnm, htx⟩
        have HBE := Lib.hid hbel
        have i1 : (0 : Int) ≤ (k : Int) := by omega
        have i2 : (k : Int) < (ln : Int) := by omega
        have i3 : (0 : Int) ≤ (j : Int) := by omega
        have i4 : (j : Int) < (mm : Int) := by omega
        have HOL := Lib.hid hol
        have HKA := Lib.hid hkad
        clear f0 f1 f2 f3 f4 f5 hatr hav hki hsp hnm htx han hrk hpk he hend hnd hx hxm kcell hgot hbel hbw hBBw hvL hkad hln c0
        obtain ⟨i0, hi, hz0, hz1, hz2⟩ := info_parts info39
        rw [HKA.out]
        by_cases hk2 : ki = 2
        · have z1 : (ki == 2) = true := by simpa using hk2
          have hk2' := Lib.hid hk2
          clear hk2
          cases ol with
          | zero =>
            clear hxs hol
            go_wp2_with fail
            go_region_held_law (fun w' => w'.cell? ⟨wr.heap.size, 0, none⟩ = some (i64 ki) ∧ w'.cell? ⟨wr.heap.size, 1, none⟩ = some (i64 sp) ∧ w'.cell? ⟨wr.heap.size, 2, none⟩ = some (.string nm) ∧ w'.cell? ⟨wr.heap.size, 3, none⟩ = some (.slice aad an ac) ∧ w'.cell? ⟨wr.heap.size, 4, none⟩ = some (.string tx)) (go_keep) (first
              | (go_at_call 26; (with_reducible refine (HIH.out k HV.out.1 HV.out.2.1 HB1.out.1 H.out.2.1).mono ?_); rintro e2 w3 ⟨v2, rfl, ht2, hb2⟩; obtain ⟨ad2, c2, rfl⟩ := ht2.form; have hp2 := kid_kept HB1.out.2 hb2; have q0 := hp2.cell 0 (i64 ki) rfl; have q1 := hp2.cell 1 (i64 sp) rfl; have q2 := hp2.cell 2 (.string nm) rfl; have q3 := hp2.cell 3 (.slice aad an ac) rfl; have q4 := hp2.cell 4 (.string tx) rfl; have H2 := Lib.hid (And.intro (rnode_made HV.out.2.2.2.1 HA.out hb2 ht2) (And.intro hp2 hb2)); clear ht2 hb2 hp2)
              | (refine step_append_lies _ rfl (.tmp 59) (.tmp 74) 36 (by rfl) w1.heap.size 39 i0 _ 6 96 Try.underlying36 hi hz0 hz1 hz2 rfl (by decide) (.slice oad 0 oc) 0 (flatN xs) (by rfl) (rout_own HOL.out H2.out.1.1 _) ⟨w3.heap.size, 0, none⟩ 1 1 (cellsN ⟨⟨ki, sp, nm, nd.attrs, tx, treeOf S n k⟩, .slice aad an ac, .slice ad2 (treeOf S n k).length c2⟩) (by rfl) rfl (rnews _ _) (cellsN_one _ _ _) (by decide) (by unfold maxLen; omega) (by omega) (by have h1 := HBE.out.size; have h2 := H2.out.1.2.2.2.size; simp at h2 ⊢; omega) _ rfl ?_; intro g5 cap5 w5 hown5 hgrow5 hat5 _; have hp5 := kid_far H2.out.2.1 H2.out.1.1 hgrow5 (rout_far HV.out.2.2.2.1); have q0 := hp5.cell 0 (i64 ki) rfl; have q1 := hp5.cell 1 (i64 sp) rfl; have q2 := hp5.cell 2 (.string nm) rfl; have q3 := hp5.cell 3 (.slice aad an ac) rfl; have q4 := hp5.cell 4 (.string tx) rfl; have H5 := Lib.hid (And.intro hown5 (And.intro hgrow5 hat5)); clear hown5 hgrow5 hat5 hp5))
            all_goals go_wp2
            all_goals go_roundw
            case rel =>
              obtain ⟨a1, a2, a3, a4⟩ := H2.out.1
              have hb4 : Below wr.heap.size wr (w3.alloc (.cells (cellsN ⟨⟨ki, sp, nm, nd.attrs, tx, treeOf S n k⟩, .slice aad an ac, .slice ad2 (treeOf S n k).length c2⟩).toArray 39)) := a4.alloc a4.size _
              have hb5 := (HBE.out.trans (hb4.mono HBE.out.size)).grown H5.out.2.1 (by have h1 := HBE.out.size; have h2 := hb4.size; omega) (fun g hg => (own_kind a1.row g hg).1)
              refine ⟨j + 1, by omega, by go_num, hb5, xs ++ [⟨⟨ki, sp, nm, nd.attrs, tx, treeOf S n k⟩, .slice aad an ac, .slice ad2 (treeOf S n k).length c2⟩], ?_, ?_⟩
              · exact a1.push HBB.out a2 a3 ((Below.refl _ _).alloc (Nat.le_refl _) (.cells (cellsN ⟨⟨ki, sp, nm, nd.attrs, tx, treeOf S n k⟩, .slice aad an ac, .slice ad2 (treeOf S n k).length c2⟩).toArray 39)) (by rw [HOL.out]; exact H5.out.1) H5.out.2.1 (lies_at H5.out.2.2)
              · have := got_push (e := itOf nd) (av := .slice aad an ac) (kv := .slice ad2 (treeOf S n k).length c2) HV.out.2.2.2.2.1 HV.out.2.2.1 HNX.out.1 (by show nd.text.size ≤ TB; rw [HNX.out.2.2.2.2]; exact htx9) (.inl (List.length_eq_zero_iff.1 HOL.out))
                have e1 : (itOf nd).kind = ki := HNX.out.2.1
                have e2 : (itOf nd).space = sp := HNX.out.2.2.1
                have e3 : (itOf nd).name = nm := HNX.out.2.2.2.1
                have e4 : (itOf nd).text = tx := HNX.out.2.2.2.2
                rw [e1, e2, e3, e4] at this
                exact this
            case measure => simp [intOf]; omega
          | succ q =>
            have hog : ∃ og, oad = some ⟨og, 0, none⟩ ∧ og < wr.heap.size ∧ q + 1 ≤ oc := by
              have hr := hxs.row
              rcases hr.2 with ⟨_, h0⟩ | ⟨og, oc', cur, h1, _, h2, h3, _⟩
              · omega
              · simp only [Value.slice.injEq] at h1
                obtain ⟨rfl, _, rfl⟩ := h1
                exact ⟨og, rfl, (Array.getElem?_eq_some_iff.1 h2).1, by omega⟩
            obtain ⟨og, rfl, hogl, hoc⟩ := hog
            have hogne : og ≠ wr.heap.size := by omega
            obtain ⟨lx, hlx, hlast⟩ := out_last hol
            obtain ⟨oc0, oc4⟩ := hxs.cells hlx
            obtain ⟨lk, hlk⟩ : ∃ lk, lx.t.kind = lk := ⟨_, rfl⟩
            obtain ⟨lt, hlt4⟩ : ∃ lt, lx.t.text = lt := ⟨_, rfl⟩
            rw [hlk] at oc0
            rw [hlt4] at oc4
            have s1 : (q : Int) + 1 - 1 = (q : Int) := by omega
            have s2 : IntKind.i64.wrap ((q : Int) + 1 - 1) = (q : Int) := by rw [s1]; exact IntWalk.i64_in _ (by omega)
            have i5 : (0 : Int) ≤ (q : Int) := by omega
            have i6 : (q : Int) < (q : Int) + 1 := by omega
            have HLX := Lib.hid (And.intro hlx (And.intro hlast (And.intro hlk hlt4)))
            clear hxs hol hlx hlast hlk hlt4
            by_cases hl2 : lk = 2
            · have z2 : (lk == 2) = true := by simpa using hl2
              have hl2' := Lib.hid hl2
              clear hl2
              have hsz : ¬ (9223372036854775807 : Int) < (lt.size : Int) + (tx.size : Int) := by
                have h1 := HV.out.2.2.2.2.1.2.2 lx (List.mem_of_getElem? HLX.out.1)
                rw [HLX.out.2.2.2] at h1
                have h2 : j * TB ≤ 600 * 1000000000 := Nat.mul_le_mul (by omega) TB_le
                have h3 := TB_le
                omega
              go_wp2_with fail
              obtain ⟨w4, hw4⟩ : ∃ w4, wr.alloc (.cells #[i64 ki, i64 sp, .string nm, .slice aad an ac, .string tx, .slice none 0 0] 39) = w4 := ⟨_, rfl⟩
              have H4 : Hid (ROut w4 B w1.heap.size (.slice (some ⟨og, 0, none⟩) (q + 1) oc) xs ∧ Below wr.heap.size wr w4 ∧ w4.cell? ⟨wr.heap.size, 4, none⟩ = some (.string tx)) := Lib.hid (by
                rw [← hw4]
                exact ⟨HV.out.2.2.2.1.below ((Below.refl _ wr).alloc (Nat.le_refl _) _), (Below.refl _ wr).alloc (Nat.le_refl _) _, (Blk.new wr 39 _).cell 4 _ rfl⟩)
              have o4' := (H4.out.1.cells HLX.out.1).2
              have f4' := (H4.out.1.text (s := lt) HBB.out HLX.out.1).2
              rw [HLX.out.2.2.2] at o4'
              have n4' := H4.out.2.2
              rw [hw4]
              clear oc0 oc4 hw4 e0 e1 e2 e3 e4 e5 ec0 ek
              go_region
              go_wp2
              go_roundw
              case rel =>
                have hd := (H4.out.1.below (Below.refl _ w4).drew).text (s := lt ++ tx) HBB.out HLX.out.1
                have hogB := (own_kind H4.out.1.row og rfl).1
                refine ⟨j + 1, by omega, by go_num, ((HBE.out.trans (H4.out.2.1.mono HBE.out.size)).drew).setCell hogB _, _, hd.1, ?_⟩
                have := got_text (e := itOf nd) HV.out.2.2.2.2.1 HV.out.2.2.1 HNX.out.1 (by show nd.text.size ≤ TB; rw [HNX.out.2.2.2.2]; exact htx9) HOL.out HLX.out.1 (HNX.out.2.1.trans hk2'.out) (HLX.out.2.2.1.trans hl2'.out)
                have e4 : (itOf nd).text = tx := HNX.out.2.2.2.2
                rw [HLX.out.2.2.2, e4] at this
                exact this
              case measure => simp [intOf]; omega
            · have z2 : (lk == 2) = false := by simpa using hl2
              have hl2' := Lib.hid hl2
              clear hl2
              go_wp2_with fail
              go_region_held_law (fun w' => w'.cell? ⟨wr.heap.size, 0, none⟩ = some (i64 ki) ∧ w'.cell? ⟨wr.heap.size, 1, none⟩ = some (i64 sp) ∧ w'.cell? ⟨wr.heap.size, 2, none⟩ = some (.string nm) ∧ w'.cell? ⟨wr.heap.size, 3, none⟩ = some (.slice aad an ac) ∧ w'.cell? ⟨wr.heap.size, 4, none⟩ = some (.string tx)) (go_keep) (first
                | (go_at_call 26; (with_reducible refine (HIH.out k HV.out.1 HV.out.2.1 HB1.out.1 H.out.2.1).mono ?_); rintro e2 w3 ⟨v2, rfl, ht2, hb2⟩; obtain ⟨ad2, c2, rfl⟩ := ht2.form; have hp2 := kid_kept HB1.out.2 hb2; have q0 := hp2.cell 0 (i64 ki) rfl; have q1 := hp2.cell 1 (i64 sp) rfl; have q2 := hp2.cell 2 (.string nm) rfl; have q3 := hp2.cell 3 (.slice aad an ac) rfl; have q4 := hp2.cell 4 (.string tx) rfl; have H2 := Lib.hid (And.intro (rnode_made HV.out.2.2.2.1 HA.out hb2 ht2) (And.intro hp2 hb2)); clear ht2 hb2 hp2)
                | (refine step_append_lies _ rfl (.tmp 59) (.tmp 74) 36 (by rfl) w1.heap.size 39 i0 _ 6 96 Try.underlying36 hi hz0 hz1 hz2 rfl (by decide) (.slice (some ⟨og, 0, none⟩) (q + 1) oc) (q + 1) (flatN xs) (by rfl) (rout_own HOL.out H2.out.1.1 _) ⟨w3.heap.size, 0, none⟩ 1 1 (cellsN ⟨⟨ki, sp, nm, nd.attrs, tx, treeOf S n k⟩, .slice aad an ac, .slice ad2 (treeOf S n k).length c2⟩) (by rfl) rfl (rnews _ _) (cellsN_one _ _ _) (by decide) (by unfold maxLen; omega) (by omega) (by have h1 := HBE.out.size; have h2 := H2.out.1.2.2.2.size; simp at h2 ⊢; omega) _ rfl ?_; intro g5 cap5 w5 hown5 hgrow5 hat5 _; have hp5 := kid_far H2.out.2.1 H2.out.1.1 hgrow5 (rout_far HV.out.2.2.2.1); have q0 := hp5.cell 0 (i64 ki) rfl; have q1 := hp5.cell 1 (i64 sp) rfl; have q2 := hp5.cell 2 (.string nm) rfl; have q3 := hp5.cell 3 (.slice aad an ac) rfl; have q4 := hp5.cell 4 (.string tx) rfl; have H5 := Lib.hid (And.intro hown5 (And.intro hgrow5 hat5)); clear hown5 hgrow5 hat5 hp5))
              all_goals go_wp2
              all_goals go_roundw
              case rel =>
                obtain ⟨a1, a2, a3, a4⟩ := H2.out.1
                have hb4 : Below wr.heap.size wr (w3.alloc (.cells (cellsN ⟨⟨ki, sp, nm, nd.attrs, tx, treeOf S n k⟩, .slice aad an ac, .slice ad2 (treeOf S n k).length c2⟩).toArray 39)) := a4.alloc a4.size _
                have hb5 := (HBE.out.trans (hb4.mono HBE.out.size)).grown H5.out.2.1 (by have h1 := HBE.out.size; have h2 := hb4.size; omega) (fun g hg => (own_kind a1.row g hg).1)
                refine ⟨j + 1, by omega, by go_num, hb5, xs ++ [⟨⟨ki, sp, nm, nd.attrs, tx, treeOf S n k⟩, .slice aad an ac, .slice ad2 (treeOf S n k).length c2⟩], ?_, ?_⟩
                · exact a1.push HBB.out a2 a3 ((Below.refl _ _).alloc (Nat.le_refl _) (.cells (cellsN ⟨⟨ki, sp, nm, nd.attrs, tx, treeOf S n k⟩, .slice aad an ac, .slice ad2 (treeOf S n k).length c2⟩).toArray 39)) (by rw [HOL.out]; exact H5.out.1) H5.out.2.1 (lies_at H5.out.2.2)
                · have := got_push (e := itOf nd) (av := .slice aad an ac) (kv := .slice ad2 (treeOf S n k).length c2) HV.out.2.2.2.2.1 HV.out.2.2.1 HNX.out.1 (by show nd.text.size ≤ TB; rw [HNX.out.2.2.2.2]; exact htx9) (.inr (.inr ⟨lx, HLX.out.2.1, by rw [HLX.out.2.2.1]; exact hl2'.out⟩))
                  have e1 : (itOf nd).kind = ki := HNX.out.2.1
                  have e2 : (itOf nd).space = sp := HNX.out.2.2.1
                  have e3 : (itOf nd).name = nm := HNX.out.2.2.2.1
                  have e4 : (itOf nd).text = tx := HNX.out.2.2.2.2
                  rw [e1, e2, e3, e4] at this
                  exact this
              case measure => simp [intOf]; omega
        · have z2 : (ki == 2) = false := by simpa using hk2
          have hk2' := Lib.hid hk2
          clear hk2 hxs hol
          go_wp2_with fail
          go_region_held_law (fun w' => w'.cell? ⟨wr.heap.size, 0, none⟩ = some (i64 ki) ∧ w'.cell? ⟨wr.heap.size, 1, none⟩ = some (i64 sp) ∧ w'.cell? ⟨wr.heap.size, 2, none⟩ = some (.string nm) ∧ w'.cell? ⟨wr.heap.size, 3, none⟩ = some (.slice aad an ac) ∧ w'.cell? ⟨wr.heap.size, 4, none⟩ = some (.string tx)) (go_keep) (first
            | (go_at_call 26; (with_reducible refine (HIH.out k HV.out.1 HV.out.2.1 HB1.out.1 H.out.2.1).mono ?_); rintro e2 w3 ⟨v2, rfl, ht2, hb2⟩; obtain ⟨ad2, c2, rfl⟩ := ht2.form; have hp2 := kid_kept HB1.out.2 hb2; have q0 := hp2.cell 0 (i64 ki) rfl; have q1 := hp2.cell 1 (i64 sp) rfl; have q2 := hp2.cell 2 (.string nm) rfl; have q3 := hp2.cell 3 (.slice aad an ac) rfl; have q4 := hp2.cell 4 (.string tx) rfl; have H2 := Lib.hid (And.intro (rnode_made HV.out.2.2.2.1 HA.out hb2 ht2) (And.intro hp2 hb2)); clear ht2 hb2 hp2)
            | (refine step_append_lies _ rfl (.tmp 59) (.tmp 74) 36 (by rfl) w1.heap.size 39 i0 _ 6 96 Try.underlying36 hi hz0 hz1 hz2 rfl (by decide) (.slice oad ol oc) ol (flatN xs) (by rfl) (rout_own HOL.out H2.out.1.1 _) ⟨w3.heap.size, 0, none⟩ 1 1 (cellsN ⟨⟨ki, sp, nm, nd.attrs, tx, treeOf S n k⟩, .slice aad an ac, .slice ad2 (treeOf S n k).length c2⟩) (by rfl) rfl (rnews _ _) (cellsN_one _ _ _) (by decide) (by unfold maxLen; omega) (by omega) (by have h1 := HBE.out.size; have h2 := H2.out.1.2.2.2.size; simp at h2 ⊢; omega) _ rfl ?_; intro g5 cap5 w5 hown5 hgrow5 hat5 _; have hp5 := kid_far H2.out.2.1 H2.out.1.1 hgrow5 (rout_far HV.out.2.2.2.1); have q0 := hp5.cell 0 (i64 ki) rfl; have q1 := hp5.cell 1 (i64 sp) rfl; have q2 := hp5.cell 2 (.string nm) rfl; have q3 := hp5.cell 3 (.slice aad an ac) rfl; have q4 := hp5.cell 4 (.string tx) rfl; have H5 := Lib.hid (And.intro hown5 (And.intro hgrow5 hat5)); clear hown5 hgrow5 hat5 hp5))
          all_goals go_wp2
          all_goals go_roundw
          case rel =>
            obtain ⟨a1, a2, a3, a4⟩ := H2.out.1
            have hb4 : Below wr.heap.size wr (w3.alloc (.cells (cellsN ⟨⟨ki, sp, nm, nd.attrs, tx, treeOf S n k⟩, .slice aad an ac, .slice ad2 (treeOf S n k).length c2⟩).toArray 39)) := a4.alloc a4.size _
            have hb5 := (HBE.out.trans (hb4.mono HBE.out.size)).grown H5.out.2.1 (by have h1 := HBE.out.size; have h2 := hb4.size; omega) (fun g hg => (own_kind a1.row g hg).1)
            refine ⟨j + 1, by omega, by go_num, hb5, xs ++ [⟨⟨ki, sp, nm, nd.attrs, tx, treeOf S n k⟩, .slice aad an ac, .slice ad2 (treeOf S n k).length c2⟩], ?_, ?_⟩
            · exact a1.push HBB.out a2 a3 ((Below.refl _ _).alloc (Nat.le_refl _) (.cells (cellsN ⟨⟨ki, sp, nm, nd.attrs, tx, treeOf S n k⟩, .slice aad an ac, .slice ad2 (treeOf S n k).length c2⟩).toArray 39)) (by rw [HOL.out]; exact H5.out.1) H5.out.2.1 (lies_at H5.out.2.2)
            · have := got_push (e := itOf nd) (av := .slice aad an ac) (kv := .slice ad2 (treeOf S n k).length c2) HV.out.2.2.2.2.1 HV.out.2.2.1 HNX.out.1 (by show nd.text.size ≤ TB; rw [HNX.out.2.2.2.2]; exact htx9) (.inr (.inl (by show nd.kind ≠ 2; rw [HNX.out.2.1]; exact hk2'.out)))
              have e1 : (itOf nd).kind = ki := HNX.out.2.1
              have e2 : (itOf nd).space = sp := HNX.out.2.2.1
              have e3 : (itOf nd).name = nm := HNX.out.2.2.2.1
              have e4 : (itOf nd).text = tx := HNX.out.2.2.2.2
              rw [e1, e2, e3, e4] at this
              exact this
          case measure => simp [intOf]; omega
      · have hjm : j = mm := by omega
        have HBE := Lib.hid hbel
        obtain ⟨xs, hxs, hgot⟩ := HX.out
        have hts : xs.map (·.t) = treeOf S (n + 1) id := by
          rw [hgot.1, List.take_of_length_le (by rw [H.out.2.2.2]; omega)]
          show _ = (S.kids id).foldl _ _
          rw [H.out.2.2.1]
        have HF := Lib.hid (And.intro hxs hts)
        clear hxs hgot hts hbel
        go_wp2
        go_ret
        have hs1 := H1.out.2.size
        exact ⟨_, rfl, by rw [← HF.out.2]; exact HF.out.1.trs.turn (Nat.le_refl _) (fun k hk hd => ⟨rfl, by omega⟩) (fun _ _ h => h), H1.out.2.trans (HBE.out.mono hs1)⟩
end Go.Proofs.Ytdeogkjihmaniaa
