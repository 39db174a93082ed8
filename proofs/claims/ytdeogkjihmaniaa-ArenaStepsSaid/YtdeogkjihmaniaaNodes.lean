/-
  (*Arena).nodes, walked: it calls itself.
  Written by an AI agent.
-/
import Derived.Test.YtdeogkjihmaniaaTree
namespace Go.Proofs.Ytdeogkjihmaniaa
open Go.RowKit
attribute [local go_sem ↓] Go.wp_at_zero Go.wp_at_succ

/-- What nodes hands out. -/
def NodesIt (ts : List Tr) (w : World) (e : Ending) (w' : World) : Prop :=
  ∃ v, e = .returned v ∧ TrsAt (fun k => w.heap.size ≤ k) (OwnA w.heap.size w') w' v ts ∧ Below w.heap.size w w'

/-- No text is longer. -/
def TB : Nat := 1000000000
theorem TB_le : TB ≤ 1000000000 := Nat.le_refl _
/-- What has been gathered, j kids on. -/
def GotN (S : St) (n : Nat) (ks : List Int) (j : Nat) (xs : List Tn) : Prop := xs.map (·.t) = (ks.take j).foldl (treeStep S (treeOf S n)) [] ∧ xs.length ≤ j ∧ ∀ x ∈ xs, x.t.text.size ≤ j * TB

theorem kid_new {w w1 : World} {g : Nat} {cs : Array Value} (hb : Below (w.alloc (.cells cs 39)).heap.size (w.alloc (.cells cs 39)) w1) (hg : g = w.heap.size) : Blk w1 g 39 cs := by
  subst hg
  exact (hb.block w.heap.size (Blk.new w 39 cs).lt).trans (Blk.new w 39 cs)


theorem chain_below {wr w1 : World} {nb : Nat} {o : Obj} {u1 : Value} (hnb : nb = wr.heap.size) (hb1 : Below (wr.alloc o).heap.size (wr.alloc o) w1) : Below wr.heap.size wr (w1.setCell ⟨nb, 3, none⟩ u1) := by
  subst hnb
  exact (((Below.refl wr.heap.size wr).alloc (Nat.le_refl _) o).trans (hb1.mono (by simp))).setCell (by simp) u1

theorem out_last {xs : List Tn} {q : Nat} (h : xs.length = q + 1) : ∃ x, xs[q]? = some x ∧ xs.getLast? = some x := by
  have hq : q < xs.length := by omega
  refine ⟨xs[q], List.getElem?_eq_getElem hq, ?_⟩
  rw [List.getLast?_eq_getElem?, h]
  exact List.getElem?_eq_getElem hq

theorem got_push {S : St} {n j k : Nat} {ks : List Int} {xs : List Tn} {e : It} {av kv : Value} (hg : GotN S n ks j xs) (hx : ks[j]? = some (k : Int)) (hk : S.l[k]? = some (ndI e)) (ht : e.text.size ≤ TB)
    (hno : xs = [] ∨ e.kind ≠ 2 ∨ ∃ x, xs.getLast? = some x ∧ x.t.kind ≠ 2) : GotN S n ks (j + 1) (xs ++ [⟨⟨e.kind, e.space, e.name, e.attrs, e.text, treeOf S n k⟩, av, kv⟩]) := by
  obtain ⟨h1, h2, h3⟩ := hg
  refine ⟨?_, by simp; omega, fun x hx => ?_⟩
  · rw [List.take_add_one, hx, List.foldl_append, ← h1, List.map_append]
    show _ = treeStep S (treeOf S n) (xs.map (·.t)) (k : Int)
    unfold treeStep
    rw [St.get_nat, hk]
    show _ = pushT (xs.map (·.t)) ⟨e.kind, e.space, e.name, e.attrs, e.text, treeOf S n k⟩
    unfold pushT
    rw [List.getLast?_map]
    rcases hno with rfl | hno | ⟨x, hx, hno⟩
    · rfl
    · cases hz : xs.getLast? with
      | none =>
        rw [List.getLast?_eq_none_iff] at hz
        subst hz
        rfl
      | some z => dsimp only [Option.map_some]; rw [if_neg (fun h => hno h.1)]; rfl
    · rw [hx]
      dsimp only [Option.map_some]
      rw [if_neg (fun h => hno h.2)]; rfl
  · rcases List.mem_append.1 hx with hx | hx
    · exact Nat.le_trans (h3 x hx) (Nat.mul_le_mul_right _ (Nat.le_succ _))
    · obtain rfl := List.mem_singleton.1 hx
      show e.text.size ≤ _
      exact Nat.le_trans ht (by rw [Nat.succ_mul]; exact Nat.le_add_left _ _)

theorem got_text {S : St} {n j k q : Nat} {ks : List Int} {xs : List Tn} {e : It} {x : Tn} (hg : GotN S n ks j xs) (hx : ks[j]? = some (k : Int)) (hk : S.l[k]? = some (ndI e)) (ht : e.text.size ≤ TB)
    (hl : xs.length = q + 1) (hq : xs[q]? = some x) (h2 : e.kind = 2) (h3 : x.t.kind = 2) : GotN S n ks (j + 1) (xs.set q { x with t := { x.t with text := x.t.text ++ e.text } }) := by
  obtain ⟨g1, g2, g3⟩ := hg
  have hxs : xs = xs.take q ++ [x] := by
    have := List.take_append_drop q xs
    rw [List.drop_eq_getElem_cons (by omega), List.drop_eq_nil_of_le (by omega)] at this
    have he : xs[q]'(by omega) = x := by
      have := List.getElem?_eq_some_iff.1 hq
      exact this.2
    rw [he] at this
    exact this.symm
  have hset : xs.set q { x with t := { x.t with text := x.t.text ++ e.text } } = xs.take q ++ [{ x with t := { x.t with text := x.t.text ++ e.text } }] := by
    have hlt : (xs.take q).length = q := by rw [List.length_take]; omega
    conv => lhs; rw [hxs]
    rw [List.set_append_right _ _ (by omega), hlt]
    simp
  refine ⟨?_, by rw [List.length_set]; omega, fun y hy => ?_⟩
  · rw [List.take_add_one, hx, List.foldl_append, ← g1]
    show _ = treeStep S (treeOf S n) (xs.map (·.t)) (k : Int)
    unfold treeStep
    rw [St.get_nat, hk]
    show _ = pushT (xs.map (·.t)) ⟨e.kind, e.space, e.name, e.attrs, e.text, treeOf S n k⟩
    unfold pushT
    have hlast : (xs.map (·.t)).getLast? = some x.t := by
      rw [hxs]; simp
    rw [hlast]
    dsimp only
    rw [if_pos ⟨h2, h3⟩, hset]
    have hdl : (xs.map (·.t)).dropLast = (xs.take q).map (·.t) := by
      conv => lhs; rw [hxs]
      simp
    rw [hdl, List.map_append]
    rfl
  · rcases List.mem_or_eq_of_mem_set hy with hy | rfl
    · exact Nat.le_trans (g3 y hy) (Nat.mul_le_mul_right _ (Nat.le_succ _))
    · have := g3 x (List.mem_of_getElem? hq)
      show (x.t.text ++ e.text).size ≤ _
      rw [ByteArray.size_append, Nat.succ_mul]
      exact Nat.add_le_add this ht


theorem kid_two {w1 w3 : World} {nb : Nat} {u : Value} {c0 c1 c2 c3 c4 c5 : Value} (h : Blk w1 nb 39 #[c0, c1, c2, c3, c4, c5]) (hb : Below (w1.setCell ⟨nb, 3, none⟩ u).heap.size (w1.setCell ⟨nb, 3, none⟩ u) w3) : Blk w3 nb 39 #[c0, c1, c2, u, c4, c5] := by
  have h1 := h.put 3 u
  exact (hb.block nb h1.lt).trans h1

theorem own_lt {w : World} {B n c k : Nat} {t : TypeId} {v : Value} {xs : List Value} (h : w.ownsRow B t c v n xs) (hk : v.ownBlock = some k) : k < w.heap.size := (h.lt k hk).2

/-- A node made: what was gathered, its attributes, its kids. -/
theorem node_made {wr w1 w3 : World} {base nb an : Nat} {o u1 u2 : Value} {xs : List Tn} {O : Obj} {ats : List Atr} {ts : List Tr} {cs1 cs2 : Array Value} (hxs : OutAt wr base o xs) (hbase : base ≤ wr.heap.size) (hnb : nb = wr.heap.size)
    (hown1 : w1.ownsRow (wr.alloc O).heap.size 32 2 u1 an (flatA ats)) (han : ats.length = an) (hfew : ats.length ≤ 1000000) (hb1 : Below (wr.alloc O).heap.size (wr.alloc O) w1) (hp1 : Blk w1 nb 39 cs1)
    (hb2 : Below (w1.setCell ⟨nb, 3, none⟩ u1).heap.size (w1.setCell ⟨nb, 3, none⟩ u1) w3) (ht2 : TrsAt (fun k => (w1.setCell ⟨nb, 3, none⟩ u1).heap.size ≤ k) (OwnA (w1.setCell ⟨nb, 3, none⟩ u1).heap.size w3) w3 u2 ts) (hp2 : Blk w3 nb 39 cs2) :
    OutAt (w3.setCell ⟨nb, 5, none⟩ u2) base o xs ∧ OwnA base (w3.setCell ⟨nb, 5, none⟩ u2) u1 ats ∧ TrsAt (fun k => base ≤ k ∧ o.ownBlock ≠ some k) (OwnA base (w3.setCell ⟨nb, 5, none⟩ u2)) (w3.setCell ⟨nb, 5, none⟩ u2) u2 ts ∧ Below wr.heap.size wr (w3.setCell ⟨nb, 5, none⟩ u2) := by
  have c1 := chain_below (u1 := u1) hnb hb1
  have hs1 : wr.heap.size + 1 ≤ (w1.setCell ⟨nb, 3, none⟩ u1).heap.size := by have := hb1.size; simp at this ⊢; exact this
  have c2 : Below wr.heap.size wr (w3.setCell ⟨nb, 5, none⟩ u2) := (c1.trans (hb2.mono c1.size)).setCell (by simp; omega) u2
  refine ⟨hxs.below c2, ⟨?_, hfew⟩, ?_, c2⟩
  · rw [han]
    exact own_mono (own_setCell (own_below (own_setCell hown1 hp1 (by decide) 3 u1) hb2) hp2 (by decide) 5 u2) (by simp; omega)
  · refine ht2.turn (by simp) (fun k hk hd => ⟨Below.heap_setCell w3 ⟨nb, 5, none⟩ u2 k (by simp only; omega), by omega, fun e => ?_⟩) (fun u l hu => ⟨own_mono (own_setCell hu.1 hp2 (by decide) 5 u2) (by omega), hu.2⟩)
    have := own_lt hxs.row e
    omega
theorem news_node {w3 : World} (nb : Nat) (u2 : Value) (cs : List Value) : ∀ j u, cs[j]? = some u → ((w3.setCell ⟨nb, 5, none⟩ u2).alloc (.cells cs.toArray 39)).cell? ((⟨w3.heap.size, 0, none⟩ : Addr).add j) = some u := by
  have h := Blk.new (w3.setCell ⟨nb, 5, none⟩ u2) 39 cs.toArray
  simp only [World.size_setCell] at h
  have := World.news_of_block (w := ((w3.setCell ⟨nb, 5, none⟩ u2).alloc (.cells cs.toArray 39))) h
  simpa using this

theorem out_own {w : World} {base ol : Nat} {v : Value} {xs : List Tn} (hol : xs.length = ol) (h : OutAt w base v xs) (o : Obj) : (w.alloc o).ownsRow base 39 6 v ol (flatN xs) := by
  subst hol
  exact h.row.alloc o

set_option maxHeartbeats 8000000 in
set_option maxRecDepth 100000 in
theorem nodes_any {B a : Nat} {l : List It} {S : St} (m : Mod l S) (g : Good S) (ht : ∀ nd ∈ S.l, nd.text.size ≤ TB) {r : Nat → Nat} (hr : ∀ (k p : Nat), S.ps[k]? = some (p : Int) → r p < r k) (hrb : ∀ k, k < S.l.length → r k < S.l.length) :
    ∀ (n id : Nat), id < S.l.length → S.l.length ≤ r id + n → ∀ {w : World} {v : Value}, ArenaAt w B a v l → Calls Try.prog 38 #[ptr a, i64 id] w (NodesIt (treeOf S n id) w) := by
  intro n
  induction n with
  | zero => intro id hid hn; have := hrb id hid; omega
  | succ n ih =>
    intro id hid hn w v h
    obtain ⟨ep, hep⟩ := m.ex hid
    have hkk : ep.kids = S.kids id := m.kids id ep hep
    obtain ⟨ad, c, rfl, hlc, hc9, hrr⟩ := h.form
    obtain ⟨gg, rfl, hgB, hgs, hc⟩ := hrr (fun e => by rw [e] at hep; simp at hep)
    have c0 := h.blk.cell 0 (.slice (some ⟨gg, 0, none⟩) l.length c) rfl
    obtain ⟨_, _, _, _, _, _, _, d7⟩ := hc id ep hep
    have hkr := (h.its ep (List.mem_of_getElem? hep)).kids
    obtain ⟨kad, kc, hkv⟩ := own_slice hkr
    obtain ⟨mm, hmm⟩ : ∃ mm, ep.kids.length = mm := ⟨_, rfl⟩
    have hm600 : mm ≤ 600 := by rw [← hmm, hkk]; exact g.kids_len id
    have hli : id < l.length := by rw [m.len]; exact hid
    obtain ⟨ln, hln⟩ : ∃ ln, l.length = ln := ⟨_, rfl⟩
    obtain ⟨ks, hks⟩ : ∃ ks, S.kids id = ks := ⟨_, rfl⟩
    rw [hkv, hmm] at d7 hkr
    rw [hln] at c0 hlc hli h
    have has : a < w.heap.size := h.blk.lt
    have HC := Lib.hid hc
    have H := Lib.hid (And.intro h (And.intro hep (And.intro hln (And.intro (hkk.trans hks) (And.intro hmm (And.intro hkr hks))))))
    clear h hrr hc hep hkr hkv hkk hmm hln hks
    have HM := Lib.hid (And.intro m (And.intro g (And.intro ht (And.intro hr (And.intro hrb hn)))))
    have HIH := Lib.hid ih
    clear m g ht hr hrb hn ih
    go_enter Try.func38, Try.ntmps38
    go_wp2
    go_loopw [5, 7, 8, 9, 19] (fun o _ _ _ i wr => ∃ j : Nat, j ≤ mm ∧ i = i64 j ∧ Below w.heap.size w wr ∧ Hid (∃ xs, OutAt wr w.heap.size o xs ∧ GotN S n ks j xs)) (fun _ _ _ _ i _ => mm - (intOf i).toNat)
    case atStart => exact ⟨0, Nat.zero_le _, rfl, Below.refl _ _, ⟨[], OutAt.nil _ _, rfl, by simp, by simp⟩⟩
    case round =>
      obtain ⟨j, hj, rfl, hbel, HX⟩ := hrel
      by_cases hlt : j < mm
      · obtain ⟨xs, hxs, hgot⟩ := HX.out
        have hkl0 : ks.length = mm := by rw [← H.out.2.2.2.1]; exact H.out.2.2.2.2.1
        obtain ⟨x, hx⟩ : ∃ x, ks[j]? = some x := ⟨_, List.getElem?_eq_getElem (by omega)⟩
        have hxm : x ∈ S.kids id := by rw [H.out.2.2.2.2.2.2]; exact List.mem_of_getElem? hx
        obtain ⟨k, rfl, hpk, _⟩ := Good.kid_par hxm
        have hkl : k < S.l.length := by rw [← Good.ps_length]; exact (List.getElem?_eq_some_iff.1 hpk).1
        obtain ⟨e, he⟩ := HM.out.1.ex hkl
        have hkr := H.out.2.2.2.2.2.1
        obtain ⟨kg, rfl, kcell, hmc⟩ : ∃ kg, kad = some ⟨kg, 0, none⟩ ∧ w.cell? ⟨kg, j, none⟩ = some (i64 k) ∧ mm ≤ kc := by
          rcases hkr.2 with ⟨_, h0⟩ | ⟨kg, kc', cur, hv, _, _, hnc, _⟩
          · omega
          · simp only [Value.slice.injEq, true_and] at hv
            obtain ⟨rfl, rfl⟩ := hv
            refine ⟨kg, rfl, ?_, hnc⟩
            rw [hkr.cellAt j (by omega), List.getElem?_map, H.out.2.2.2.1, hx]
            rfl
        have hkgl : kg < w.heap.size := (hkr.lt kg rfl).2
        obtain ⟨f0, f1, f2, f3, f4, f5, _, _⟩ := HC.out k e he
        have hkln : k < ln := by rw [← H.out.2.2.1]; exact (List.getElem?_eq_some_iff.1 he).1
        have hatr := (H.out.1.its e (List.mem_of_getElem? he)).atrs
        obtain ⟨aad, ac, hav⟩ := hatr.form
        obtain ⟨ki, hki⟩ : ∃ ki, e.kind = ki := ⟨_, rfl⟩
        obtain ⟨sp, hsp⟩ : ∃ sp, e.space = sp := ⟨_, rfl⟩
        obtain ⟨nm, hnm⟩ : ∃ nm, e.name = nm := ⟨_, rfl⟩
        obtain ⟨tx, htx⟩ : ∃ tx, e.text = tx := ⟨_, rfl⟩
        obtain ⟨an, han⟩ : ∃ an, e.attrs.length = an := ⟨_, rfl⟩
        rw [han] at hav
        rw [hki] at f0
        rw [hsp] at f1
        rw [hnm] at f2
        rw [hav] at f3 hatr
        rw [htx] at f4
        have e0 := (hbel.cell (p := ⟨gg, k * 8, none⟩) hgs).trans f0
        have e1 := (hbel.cell (p := ⟨gg, k * 8 + 1, none⟩) hgs).trans f1
        have e2 := (hbel.cell (p := ⟨gg, k * 8 + 2, none⟩) hgs).trans f2
        have e3 := (hbel.cell (p := ⟨gg, k * 8 + 3, none⟩) hgs).trans f3
        have e4 := (hbel.cell (p := ⟨gg, k * 8 + 4, none⟩) hgs).trans f4
        have e5 := (hbel.cell (p := ⟨gg, k * 8 + 5, none⟩) hgs).trans f5
        have ec0 := (hbel.cell (p := ⟨a, 0, none⟩) has).trans c0
        have ek := (hbel.cell (p := ⟨kg, j, none⟩) hkgl).trans kcell
        have HA := Lib.hid ((hatr.below hbel).below ((Below.refl wr.heap.size wr).alloc (Nat.le_refl _) (.cells #[i64 ki, i64 sp, .string nm, .slice aad an ac, .string tx, .slice none 0 0] 39)))
        have htx9 : tx.size ≤ TB := by rw [← htx]; exact HM.out.2.2.1 _ (List.mem_of_getElem? (HM.out.1.get he))
        have hrk := HM.out.2.2.2.1 k id hpk
        obtain ⟨oad, oc, ho⟩ := own_slice hxs.row
        have hxl : xs.length ≤ 600 := by have := hgot.2.1; omega
        subst ho
        obtain ⟨ol, hol⟩ : ∃ ol, xs.length = ol := ⟨_, rfl⟩
        rw [hol] at hxl hxs ⊢
        have HV := Lib.hid (And.intro hkl (And.intro han (And.intro (show S.l.length ≤ r k + n by have := HM.out.2.2.2.2.2; omega) (And.intro hx (And.intro he (And.intro hki (And.intro hsp (And.intro hnm (And.intro htx (And.intro hxs hgot))))))))))
        have HV2 := Lib.hid hatr.few
        have HBE := Lib.hid hbel
        have i1 : (0 : Int) ≤ (k : Int) := by omega
        have i2 : (k : Int) < (ln : Int) := by omega
        have i3 : (0 : Int) ≤ (j : Int) := by omega
        have i4 : (j : Int) < (mm : Int) := by omega
        clear f0 f1 f2 f3 f4 f5 hatr hav hki hsp hnm htx han hrk hpk he hx hxm hkr kcell hgot hbel hkl0
        have HOL := Lib.hid hol
        obtain ⟨i0, hi, hz0, hz1, hz2⟩ := info_parts info39
        cases ol with
        | zero =>
          clear hxs hol
          go_wp2_with (first
            | (go_at_call 34; (with_reducible refine (cloneA_any HA.out).mono ?_); rintro e1 w1 ⟨v1, rfl, hown1, hb1⟩; rw [HV.out.2.1] at hown1; obtain ⟨ad1, c1, rfl⟩ := own_slice hown1; have hp1 : Blk w1 wr.heap.size 39 #[i64 ki, i64 sp, .string nm, .slice aad an ac, .string tx, .slice none 0 0] := kid_new hb1 rfl; have p0 := hp1.cell 0 (i64 ki) rfl; have p1 := hp1.cell 1 (i64 sp) rfl; have p2 := hp1.cell 2 (.string nm) rfl; have p3 := hp1.cell 3 (.slice aad an ac) rfl; have p4 := hp1.cell 4 (.string tx) rfl; have p5 := hp1.cell 5 (.slice none 0 0) rfl; have pf3 := hp1.fro 3; have H1 := Lib.hid (And.intro hown1 (And.intro hb1 (And.intro hp1 (chain_below (u1 := .slice ad1 an c1) rfl hb1)))); clear hown1 hb1 hp1)
            | (go_at_call 38; (with_reducible refine (HIH.out k HV.out.1 HV.out.2.2.1 (H.out.1.below (HBE.out.trans (H1.out.2.2.2.mono HBE.out.size)))).mono ?_); rintro e2 w3 ⟨v2, rfl, ht2, hb2⟩; obtain ⟨ad2, c2, rfl⟩ := ht2.form; have hp2 := kid_two H1.out.2.2.1 hb2; have q0 := hp2.cell 0 (i64 ki) rfl; have q1 := hp2.cell 1 (i64 sp) rfl; have q2 := hp2.cell 2 (.string nm) rfl; have q3 := hp2.cell 3 (.slice ad1 an c1) rfl; have q4 := hp2.cell 4 (.string tx) rfl; have q5 := hp2.cell 5 (.slice none 0 0) rfl; have qf5 := hp2.fro 5; clear p0 p1 p2 p3 p4 p5 pf3; have H2 := Lib.hid (And.intro (node_made HV.out.2.2.2.2.2.2.2.2.2.1 HBE.out.size rfl H1.out.1 HV.out.2.1 HV2.out H1.out.2.1 H1.out.2.2.1 hb2 ht2 hp2) (And.intro hp2 hb2)); clear ht2 hb2 hp2)
            | (at_builtin; refine wpList_append_own_at _ rfl (.tmp 67) (.tmp 69) 36 rfl w.heap.size 39 i0 _ 6 96 Try.underlying36 hi hz0 hz1 hz2 rfl (by decide) (.slice oad 0 oc) 0 (flatN xs) rfl (out_own HOL.out H2.out.1.1 _) ⟨w3.heap.size, 0, none⟩ 1 1 (cellsN ⟨⟨ki, sp, nm, e.attrs, tx, treeOf S n k⟩, .slice ad1 an c1, .slice ad2 (treeOf S n k).length c2⟩) rfl rfl (news_node wr.heap.size _ _) (by intro u hu; simp only [cellsN, List.mem_cons, List.not_mem_nil, or_false] at hu; rcases hu with rfl | rfl | rfl | rfl | rfl | rfl <;> rfl) (by unfold maxLen; omega) (by omega) (by have h1 := HBE.out.size; have h2 := H2.out.1.2.2.2.size; simp at h2 ⊢; omega) ?_; intro v5 w5 hown5 hgrow5 _ hat5; have H5 := Lib.hid (And.intro hown5 (And.intro hgrow5 hat5)); clear hown5 hgrow5 hat5))
          go_roundw
          case rel =>
            obtain ⟨a1, a2, a3, a4⟩ := H2.out.1
            have hb4 : Below wr.heap.size wr ((w3.setCell ⟨wr.heap.size, 5, none⟩ (.slice ad2 (treeOf S n k).length c2)).alloc (.cells (cellsN ⟨⟨ki, sp, nm, e.attrs, tx, treeOf S n k⟩, .slice ad1 an c1, .slice ad2 (treeOf S n k).length c2⟩).toArray 39)) := a4.alloc a4.size _
            have hb5 := (HBE.out.trans (hb4.mono HBE.out.size)).grown H5.out.2.1 (by have h1 := HBE.out.size; have h2 := hb4.size; omega) (fun g hg => (own_kind a1.row g hg).1)
            refine ⟨j + 1, by omega, by go_num, hb5, xs ++ [⟨⟨ki, sp, nm, e.attrs, tx, treeOf S n k⟩, .slice ad1 an c1, .slice ad2 (treeOf S n k).length c2⟩], ?_, ?_⟩
            · exact a1.push a2 a3 ((Below.refl _ _).alloc (Nat.le_refl _) (.cells (cellsN ⟨⟨ki, sp, nm, e.attrs, tx, treeOf S n k⟩, .slice ad1 an c1, .slice ad2 (treeOf S n k).length c2⟩).toArray 39)) (by rw [HOL.out]; exact H5.out.1) H5.out.2.1 H5.out.2.2
            · obtain ⟨hkl, han, _, hx, he, hki, hsp, hnm, htx, hxs, hgot⟩ := HV.out
              have := got_push (av := .slice ad1 an c1) (kv := .slice ad2 (treeOf S n k).length c2) hgot hx (HM.out.1.get he) (by rw [htx]; exact htx9) (.inl (List.length_eq_zero_iff.1 HOL.out))
              rw [hki, hsp, hnm, htx] at this
              exact this
          case measure => simp [intOf]; omega
        | succ q =>
          have hog : ∃ og, oad = some ⟨og, 0, none⟩ ∧ og < wr.heap.size ∧ q + 1 ≤ oc := by
            have hr := hxs.row
            rcases hr.2 with ⟨_, h0⟩ | ⟨og, oc', cur, h1, _, h2, h3, _⟩
            · omega
            · simp only [Value.slice.injEq] at h1
              obtain ⟨rfl, _, rfl⟩ := h1
              exact ⟨og, rfl, (Array.getElem?_eq_some_iff.1 h2).1, by omega⟩
          obtain ⟨og, rfl, hogl, hoc⟩ := hog
          have hogne : og ≠ wr.heap.size := by omega
          obtain ⟨lx, hlx, hlast⟩ := out_last hol
          obtain ⟨oc0, oc4⟩ := hxs.cells hlx
          obtain ⟨lk, hlk⟩ : ∃ lk, lx.t.kind = lk := ⟨_, rfl⟩
          obtain ⟨lt, hlt4⟩ : ∃ lt, lx.t.text = lt := ⟨_, rfl⟩
          rw [hlk] at oc0
          rw [hlt4] at oc4
          have s1 : (q : Int) + 1 - 1 = (q : Int) := by omega
          have s2 : IntKind.i64.wrap ((q : Int) + 1 - 1) = (q : Int) := by rw [s1]; exact IntWalk.i64_in _ (by omega)
          have i5 : (0 : Int) ≤ (q : Int) := by omega
          have i6 : (q : Int) < (q : Int) + 1 := by omega
          have HLX := Lib.hid (And.intro hlx (And.intro hlast (And.intro hlk hlt4)))
          clear hxs hol hlx hlast hlk hlt4
          by_cases hk2 : ki = 2
          · have z1 : (ki == 2) = true := by simpa using hk2
            have hk2' := Lib.hid hk2
            clear hk2
            by_cases hl2 : lk = 2
            · have z2 : (lk == 2) = true := by simpa using hl2
              have hl2' := Lib.hid hl2
              clear hl2
              have hsz : ¬ (9223372036854775807 : Int) < (lt.size : Int) + (tx.size : Int) := by
                have h1 := HV.out.2.2.2.2.2.2.2.2.2.2.2.2 lx (List.mem_of_getElem? HLX.out.1)
                rw [HLX.out.2.2.2] at h1
                have h2 : j * TB ≤ 600 * 1000000000 := Nat.mul_le_mul (by omega) TB_le
                have h3 := TB_le
                omega
              go_wp2_with (first
                | (go_at_call 34; (with_reducible refine (cloneA_any HA.out).mono ?_); rintro e1 w1 ⟨v1, rfl, hown1, hb1⟩; rw [HV.out.2.1] at hown1; obtain ⟨ad1, c1, rfl⟩ := own_slice hown1; have hp1 : Blk w1 wr.heap.size 39 #[i64 ki, i64 sp, .string nm, .slice aad an ac, .string tx, .slice none 0 0] := kid_new hb1 rfl; have p0 := hp1.cell 0 (i64 ki) rfl; have p1 := hp1.cell 1 (i64 sp) rfl; have p2 := hp1.cell 2 (.string nm) rfl; have p3 := hp1.cell 3 (.slice aad an ac) rfl; have p4 := hp1.cell 4 (.string tx) rfl; have p5 := hp1.cell 5 (.slice none 0 0) rfl; have pf3 := hp1.fro 3; have H1 := Lib.hid (And.intro hown1 (And.intro hb1 (And.intro hp1 (chain_below (u1 := .slice ad1 an c1) rfl hb1)))); clear hown1 hb1 hp1)
                | (go_at_call 38; (with_reducible refine (HIH.out k HV.out.1 HV.out.2.2.1 (H.out.1.below (HBE.out.trans (H1.out.2.2.2.mono HBE.out.size)))).mono ?_); rintro e2 w3 ⟨v2, rfl, ht2, hb2⟩; obtain ⟨ad2, c2, rfl⟩ := ht2.form; have hp2 := kid_two H1.out.2.2.1 hb2; have q0 := hp2.cell 0 (i64 ki) rfl; have q1 := hp2.cell 1 (i64 sp) rfl; have q2 := hp2.cell 2 (.string nm) rfl; have q3 := hp2.cell 3 (.slice ad1 an c1) rfl; have q4 := hp2.cell 4 (.string tx) rfl; have q5 := hp2.cell 5 (.slice none 0 0) rfl; have qf5 := hp2.fro 5; have o0 := ((H1.out.2.2.2.trans (hb2.mono H1.out.2.2.2.size)).cell (p := ⟨og, q * 6, none⟩) hogl).trans oc0; have o4 := ((H1.out.2.2.2.trans (hb2.mono H1.out.2.2.2.size)).cell (p := ⟨og, q * 6 + 4, none⟩) hogl).trans oc4; clear p0 p1 p2 p3 p4 p5 pf3; have H2 := Lib.hid (And.intro (node_made HV.out.2.2.2.2.2.2.2.2.2.1 HBE.out.size rfl H1.out.1 HV.out.2.1 HV2.out H1.out.2.1 H1.out.2.2.1 hb2 ht2 hp2) (And.intro hp2 hb2)); clear ht2 hb2 hp2))
              obtain ⟨w4, hw4⟩ : ∃ w4, w3.setCell ⟨wr.heap.size, 5, none⟩ (.slice ad2 (treeOf S n k).length c2) = w4 := ⟨_, rfl⟩
              have H4 : Hid (OutAt w4 w.heap.size (.slice (some ⟨og, 0, none⟩) (q + 1) oc) xs ∧ Below wr.heap.size wr w4 ∧ w4.cell? ⟨wr.heap.size, 4, none⟩ = some (.string tx)) := Lib.hid (by
                rw [← hw4]
                exact ⟨H2.out.1.1, H2.out.1.2.2.2, (H2.out.2.1.put 5 _).cell 4 _ rfl⟩)
              have o4' := (H4.out.1.cells HLX.out.1).2
              have f4' := (H4.out.1.text (s := lt) HLX.out.1).2
              rw [HLX.out.2.2.2] at o4'
              have n4' := H4.out.2.2
              rw [hw4]
              clear q0 q1 q2 q3 q4 q5 qf5 o0 o4 hw4
              go_region
              go_wp2
              go_roundw
              case rel =>
                obtain ⟨hkl, han, _, hx, he, hki, hsp, hnm, htx, hxs, hgot⟩ := HV.out
                have hd := (H4.out.1.below (Below.refl _ w4).drew).text (s := lt ++ tx) HLX.out.1
                have hogB := (own_kind H4.out.1.row og rfl).1
                refine ⟨j + 1, by omega, by go_num, ((HBE.out.trans (H4.out.2.1.mono HBE.out.size)).drew).setCell hogB _, _, hd.1, ?_⟩
                have := got_text hgot hx (HM.out.1.get he) (by rw [htx]; exact htx9) HOL.out HLX.out.1 (hki.trans hk2'.out) (HLX.out.2.2.1.trans hl2'.out)
                rw [HLX.out.2.2.2, htx] at this
                exact this
              case measure => simp [intOf]; omega
            · have z2 : (lk == 2) = false := by simpa using hl2
              have hl2' := Lib.hid hl2
              clear hl2
              go_wp2_with (first
                | (go_at_call 34; (with_reducible refine (cloneA_any HA.out).mono ?_); rintro e1 w1 ⟨v1, rfl, hown1, hb1⟩; rw [HV.out.2.1] at hown1; obtain ⟨ad1, c1, rfl⟩ := own_slice hown1; have hp1 : Blk w1 wr.heap.size 39 #[i64 ki, i64 sp, .string nm, .slice aad an ac, .string tx, .slice none 0 0] := kid_new hb1 rfl; have p0 := hp1.cell 0 (i64 ki) rfl; have p1 := hp1.cell 1 (i64 sp) rfl; have p2 := hp1.cell 2 (.string nm) rfl; have p3 := hp1.cell 3 (.slice aad an ac) rfl; have p4 := hp1.cell 4 (.string tx) rfl; have p5 := hp1.cell 5 (.slice none 0 0) rfl; have pf3 := hp1.fro 3; have H1 := Lib.hid (And.intro hown1 (And.intro hb1 (And.intro hp1 (chain_below (u1 := .slice ad1 an c1) rfl hb1)))); clear hown1 hb1 hp1)
                | (go_at_call 38; (with_reducible refine (HIH.out k HV.out.1 HV.out.2.2.1 (H.out.1.below (HBE.out.trans (H1.out.2.2.2.mono HBE.out.size)))).mono ?_); rintro e2 w3 ⟨v2, rfl, ht2, hb2⟩; obtain ⟨ad2, c2, rfl⟩ := ht2.form; have hp2 := kid_two H1.out.2.2.1 hb2; have q0 := hp2.cell 0 (i64 ki) rfl; have q1 := hp2.cell 1 (i64 sp) rfl; have q2 := hp2.cell 2 (.string nm) rfl; have q3 := hp2.cell 3 (.slice ad1 an c1) rfl; have q4 := hp2.cell 4 (.string tx) rfl; have q5 := hp2.cell 5 (.slice none 0 0) rfl; have qf5 := hp2.fro 5; have o0 := ((H1.out.2.2.2.trans (hb2.mono H1.out.2.2.2.size)).cell (p := ⟨og, q * 6, none⟩) hogl).trans oc0; have o4 := ((H1.out.2.2.2.trans (hb2.mono H1.out.2.2.2.size)).cell (p := ⟨og, q * 6 + 4, none⟩) hogl).trans oc4; clear p0 p1 p2 p3 p4 p5 pf3; have H2 := Lib.hid (And.intro (node_made HV.out.2.2.2.2.2.2.2.2.2.1 HBE.out.size rfl H1.out.1 HV.out.2.1 HV2.out H1.out.2.1 H1.out.2.2.1 hb2 ht2 hp2) (And.intro hp2 hb2)); clear ht2 hb2 hp2)
                | (at_builtin; refine wpList_append_own_at _ rfl (.tmp 67) (.tmp 69) 36 rfl w.heap.size 39 i0 _ 6 96 Try.underlying36 hi hz0 hz1 hz2 rfl (by decide) (.slice (some ⟨og, 0, none⟩) (q + 1) oc) (q + 1) (flatN xs) rfl (out_own HOL.out H2.out.1.1 _) ⟨w3.heap.size, 0, none⟩ 1 1 (cellsN ⟨⟨ki, sp, nm, e.attrs, tx, treeOf S n k⟩, .slice ad1 an c1, .slice ad2 (treeOf S n k).length c2⟩) rfl rfl (news_node wr.heap.size _ _) (by intro u hu; simp only [cellsN, List.mem_cons, List.not_mem_nil, or_false] at hu; rcases hu with rfl | rfl | rfl | rfl | rfl | rfl <;> rfl) (by unfold maxLen; omega) (by omega) (by have h1 := HBE.out.size; have h2 := H2.out.1.2.2.2.size; simp at h2 ⊢; omega) ?_; intro v5 w5 hown5 hgrow5 _ hat5; have H5 := Lib.hid (And.intro hown5 (And.intro hgrow5 hat5)); clear hown5 hgrow5 hat5))
              go_roundw
              case rel =>
                obtain ⟨a1, a2, a3, a4⟩ := H2.out.1
                have hb4 : Below wr.heap.size wr ((w3.setCell ⟨wr.heap.size, 5, none⟩ (.slice ad2 (treeOf S n k).length c2)).alloc (.cells (cellsN ⟨⟨ki, sp, nm, e.attrs, tx, treeOf S n k⟩, .slice ad1 an c1, .slice ad2 (treeOf S n k).length c2⟩).toArray 39)) := a4.alloc a4.size _
                have hb5 := (HBE.out.trans (hb4.mono HBE.out.size)).grown H5.out.2.1 (by have h1 := HBE.out.size; have h2 := hb4.size; omega) (fun g hg => (own_kind a1.row g hg).1)
                refine ⟨j + 1, by omega, by go_num, hb5, xs ++ [⟨⟨ki, sp, nm, e.attrs, tx, treeOf S n k⟩, .slice ad1 an c1, .slice ad2 (treeOf S n k).length c2⟩], ?_, ?_⟩
                · exact a1.push a2 a3 ((Below.refl _ _).alloc (Nat.le_refl _) (.cells (cellsN ⟨⟨ki, sp, nm, e.attrs, tx, treeOf S n k⟩, .slice ad1 an c1, .slice ad2 (treeOf S n k).length c2⟩).toArray 39)) (by rw [HOL.out]; exact H5.out.1) H5.out.2.1 H5.out.2.2
                · obtain ⟨hkl, han, _, hx, he, hki, hsp, hnm, htx, hxs, hgot⟩ := HV.out
                  have := got_push (av := .slice ad1 an c1) (kv := .slice ad2 (treeOf S n k).length c2) hgot hx (HM.out.1.get he) (by rw [htx]; exact htx9) (.inr (.inr ⟨lx, HLX.out.2.1, by rw [HLX.out.2.2.1]; exact hl2'.out⟩))
                  rw [hki, hsp, hnm, htx] at this
                  exact this
              case measure => simp [intOf]; omega
          · have z2 : (ki == 2) = false := by simpa using hk2
            have hk2' := Lib.hid hk2
            clear hk2
            go_wp2_with (first
              | (go_at_call 34; (with_reducible refine (cloneA_any HA.out).mono ?_); rintro e1 w1 ⟨v1, rfl, hown1, hb1⟩; rw [HV.out.2.1] at hown1; obtain ⟨ad1, c1, rfl⟩ := own_slice hown1; have hp1 : Blk w1 wr.heap.size 39 #[i64 ki, i64 sp, .string nm, .slice aad an ac, .string tx, .slice none 0 0] := kid_new hb1 rfl; have p0 := hp1.cell 0 (i64 ki) rfl; have p1 := hp1.cell 1 (i64 sp) rfl; have p2 := hp1.cell 2 (.string nm) rfl; have p3 := hp1.cell 3 (.slice aad an ac) rfl; have p4 := hp1.cell 4 (.string tx) rfl; have p5 := hp1.cell 5 (.slice none 0 0) rfl; have pf3 := hp1.fro 3; have H1 := Lib.hid (And.intro hown1 (And.intro hb1 (And.intro hp1 (chain_below (u1 := .slice ad1 an c1) rfl hb1)))); clear hown1 hb1 hp1)
              | (go_at_call 38; (with_reducible refine (HIH.out k HV.out.1 HV.out.2.2.1 (H.out.1.below (HBE.out.trans (H1.out.2.2.2.mono HBE.out.size)))).mono ?_); rintro e2 w3 ⟨v2, rfl, ht2, hb2⟩; obtain ⟨ad2, c2, rfl⟩ := ht2.form; have hp2 := kid_two H1.out.2.2.1 hb2; have q0 := hp2.cell 0 (i64 ki) rfl; have q1 := hp2.cell 1 (i64 sp) rfl; have q2 := hp2.cell 2 (.string nm) rfl; have q3 := hp2.cell 3 (.slice ad1 an c1) rfl; have q4 := hp2.cell 4 (.string tx) rfl; have q5 := hp2.cell 5 (.slice none 0 0) rfl; have qf5 := hp2.fro 5; clear p0 p1 p2 p3 p4 p5 pf3; have H2 := Lib.hid (And.intro (node_made HV.out.2.2.2.2.2.2.2.2.2.1 HBE.out.size rfl H1.out.1 HV.out.2.1 HV2.out H1.out.2.1 H1.out.2.2.1 hb2 ht2 hp2) (And.intro hp2 hb2)); clear ht2 hb2 hp2)
              | (at_builtin; refine wpList_append_own_at _ rfl (.tmp 67) (.tmp 69) 36 rfl w.heap.size 39 i0 _ 6 96 Try.underlying36 hi hz0 hz1 hz2 rfl (by decide) (.slice (some ⟨og, 0, none⟩) (q + 1) oc) (q + 1) (flatN xs) rfl (out_own HOL.out H2.out.1.1 _) ⟨w3.heap.size, 0, none⟩ 1 1 (cellsN ⟨⟨ki, sp, nm, e.attrs, tx, treeOf S n k⟩, .slice ad1 an c1, .slice ad2 (treeOf S n k).length c2⟩) rfl rfl (news_node wr.heap.size _ _) (by intro u hu; simp only [cellsN, List.mem_cons, List.not_mem_nil, or_false] at hu; rcases hu with rfl | rfl | rfl | rfl | rfl | rfl <;> rfl) (by unfold maxLen; omega) (by omega) (by have h1 := HBE.out.size; have h2 := H2.out.1.2.2.2.size; simp at h2 ⊢; omega) ?_; intro v5 w5 hown5 hgrow5 _ hat5; have H5 := Lib.hid (And.intro hown5 (And.intro hgrow5 hat5)); clear hown5 hgrow5 hat5))
            go_roundw
            case rel =>
              obtain ⟨a1, a2, a3, a4⟩ := H2.out.1
              have hb4 : Below wr.heap.size wr ((w3.setCell ⟨wr.heap.size, 5, none⟩ (.slice ad2 (treeOf S n k).length c2)).alloc (.cells (cellsN ⟨⟨ki, sp, nm, e.attrs, tx, treeOf S n k⟩, .slice ad1 an c1, .slice ad2 (treeOf S n k).length c2⟩).toArray 39)) := a4.alloc a4.size _
              have hb5 := (HBE.out.trans (hb4.mono HBE.out.size)).grown H5.out.2.1 (by have h1 := HBE.out.size; have h2 := hb4.size; omega) (fun g hg => (own_kind a1.row g hg).1)
              refine ⟨j + 1, by omega, by go_num, hb5, xs ++ [⟨⟨ki, sp, nm, e.attrs, tx, treeOf S n k⟩, .slice ad1 an c1, .slice ad2 (treeOf S n k).length c2⟩], ?_, ?_⟩
              · exact a1.push a2 a3 ((Below.refl _ _).alloc (Nat.le_refl _) (.cells (cellsN ⟨⟨ki, sp, nm, e.attrs, tx, treeOf S n k⟩, .slice ad1 an c1, .slice ad2 (treeOf S n k).length c2⟩).toArray 39)) (by rw [HOL.out]; exact H5.out.1) H5.out.2.1 H5.out.2.2
              · obtain ⟨hkl, han, _, hx, he, hki, hsp, hnm, htx, hxs, hgot⟩ := HV.out
                have := got_push (av := .slice ad1 an c1) (kv := .slice ad2 (treeOf S n k).length c2) hgot hx (HM.out.1.get he) (by rw [htx]; exact htx9) (.inr (.inl (by rw [hki]; exact hk2'.out)))
                rw [hki, hsp, hnm, htx] at this
                exact this
            case measure => simp [intOf]; omega
      · have hjm : j = mm := by omega
        have HBE := Lib.hid hbel
        obtain ⟨xs, hxs, hgot⟩ := HX.out
        have hts : xs.map (·.t) = treeOf S (n + 1) id := by
          rw [hgot.1, List.take_of_length_le (by rw [← H.out.2.2.2.1, H.out.2.2.2.2.1]; omega)]
          show _ = (S.kids id).foldl _ _
          rw [H.out.2.2.2.2.2.2]
        have HF := Lib.hid (And.intro hxs hts)
        clear hxs hgot hts hbel
        go_wp2
        go_ret
        exact ⟨_, rfl, by rw [← HF.out.2]; exact HF.out.1.trs, HBE.out⟩

/-- The text of every node is short. -/
def Short (S : St) : Prop := ∀ nd ∈ S.l, nd.text.size ≤ TB

theorem nodes_all {w : World} {B a id : Nat} {v : Value} {l : List It} {S : St} (h : ArenaAt w B a v l) (m : Mod l S) (g : Good S) (ht : Short S) (hid : id < S.l.length) : Calls Try.prog 38 #[ptr a, i64 id] w (NodesIt (treeOf S S.l.length id) w) := by
  obtain ⟨r, hr, hb⟩ := g.pg.bounded
  exact nodes_any m g ht hr (fun k hk => by have := hb k (by rw [Good.ps_length]; exact hk); rw [Good.ps_length] at this; exact this) S.l.length id hid (Nat.le_add_left _ _) h

def treeS (S : St) : List Tr := treeOf S S.l.length 0

theorem nodes_root {w : World} {B a : Nat} {v : Value} {l : List It} {S : St} (h : ArenaAt w B a v l) (m : Mod l S) (g : Good S) (ht : Short S) : Calls Try.prog 38 #[ptr a, .int .i64 0] w (NodesIt (treeS S) w) := by
  obtain ⟨nd, h0, _⟩ := g.root
  exact nodes_all (id := 0) h m g ht (List.getElem?_eq_some_iff.1 h0).1

theorem tree_any {w : World} {B a : Nat} {v : Value} {l : List It} {S : St} (h : ArenaAt w B a v l) (m : Mod l S) (g : Good S) (ht : Short S) : Calls Try.prog 16 #[ptr a] w (NodesIt (treeS S) w) := by
  have H := Lib.hid (And.intro h (And.intro m (And.intro g ht)))
  clear h m g ht
  go_enter Try.func16, Try.ntmps16
  go_wp2_with (first
    | (go_at_call 38; (with_reducible refine (nodes_root H.out.1 H.out.2.1 H.out.2.2.1 H.out.2.2.2).mono ?_); rintro e w1 ⟨v1, rfl, ht1, hb1⟩; obtain ⟨ad1, c1, rfl⟩ := ht1.form; have HO := Lib.hid (And.intro ht1 hb1); clear ht1 hb1))
  go_ret
  exact ⟨_, rfl, HO.out.1, HO.out.2⟩
end Go.Proofs.Ytdeogkjihmaniaa
