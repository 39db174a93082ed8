/-
  rectolaw11.ArenaMoves returns true for every list of steps and every number.
  Written by an AI agent.
-/
import Derived.Test.YtdeogkjihmaniaaLawOnce
import Derived.Test.YtdeogkjihmaniaaSame
namespace Go.Proofs.Ytdeogkjihmaniaa
open Go.RowKit

/-! ### A last kid, taken away and put back -/
theorem treeOf_congr {S S2 : St} (hl : S2.l = S.l) (hk : ∀ q, S2.kids q = S.kids q) : ∀ (n : Nat) (id : Int), treeOf S2 n id = treeOf S n id := by
  intro n
  induction n with
  | zero => intro id; rfl
  | succ n ih =>
    intro id
    unfold treeOf
    rw [hk]
    congr 1
    funext out k
    unfold treeStep St.get
    rw [hl, ih]
theorem und_rank {ps : List Int} {r : Nat → Nat} (hr : ∀ (k p : Nat), ps[k]? = some (p : Int) → r p < r k) {t x : Nat} (h : Und ps t x) : r t ≤ r x := by
  induction h with
  | here => exact Nat.le_refl _
  | up h1 _ ih => exact Nat.le_trans ih (Nat.le_of_lt (hr _ _ h1))
/-- Where it stands again. -/
def back (S : St) (id p : Nat) : St := (S.loosen id).put (S.loosen id).row.length id p
structure MvF (S : St) (id p : Nat) : Prop where
  det : S.det id = (0, S.loosen id)
  g1 : Good (S.loosen id)
  loose : (S.loosen id).parP id = (0, false)
  app : (S.loosen id).app p id = (0, back S id p)
  good : Good (back S id p)
  l : (back S id p).l = S.l
  kids : ∀ q, (back S id p).kids q = S.kids q
  par : (back S id p).parP id = ((p : Int), true)
theorem mvF {S : St} (g : Good S) (pe : PE S) {id p : Nat} {init : List Int} (h : S.ps[id]? = some (p : Int)) (hk : S.kids p = init ++ [(id : Int)]) : MvF S id p := by
  have hidl : id < S.ps.length := (List.getElem?_eq_some_iff.1 h).1
  have hidl' : id < S.l.length := by rw [← Good.ps_length]; exact hidl
  have hpar := parN_get h
  have his : S.is id = true := by unfold St.is; simp; omega
  have hpl := (parP_yes g h).2
  have hps : (back S id p).ps = S.ps := by
    unfold back
    rw [put_ps, loosen_ps, List.set_set]
    exact set_map_same h
  have g1 := g.loosen id
  have hl1 : (S.loosen id).ps[id]? = some (-1) := by rw [loosen_ps, List.getElem?_set_self hidl]
  have hne : id ≠ 0 := g.kid_ne0 h
  have hund : ¬ Und (S.loosen id).ps id p := fun hu => by
    rw [loosen_ps] at hu
    obtain ⟨r, hr⟩ := g.pg.rank
    have h1 := und_rank hr (und_set_self hu)
    have h2 := hr _ _ h
    omega
  have hpl1 : p < (S.loosen id).l.length := by
    show p < (St.setPar S.l id (-1)).length
    rw [setPar_length]; exact hpl
  have happ : (S.loosen id).app p id = (0, back S id p) := by
    have h1 : (S.loosen id).elem p = true := by
      have := pe id p h
      unfold St.elem St.get
      rw [if_pos (by omega), Int.toNat_natCast]
      have h3 : (kis (S.loosen id).l)[p]? = some 1 := by rw [kis_loosen]; exact this
      unfold kis at h3
      rw [List.getElem?_map] at h3
      cases hq : (S.loosen id).l[p]? with
      | none => rw [hq] at h3; cases h3
      | some nd => rw [hq] at h3; simpa using h3
    have h2 : (S.loosen id).is id = true := by
      unfold St.is
      have : (S.loosen id).l.length = S.l.length := setPar_length _ _ _
      rw [this]
      simp; omega
    have h3 : (S.loosen id).free id p = true := by
      unfold St.free
      rw [parN_get hl1]
      have hu : und (S.loosen id).ps p id = false := by
        cases hc : und (S.loosen id).ps p id with
        | false => rfl
        | true => exact absurd ((und_iff g1.pg (by rw [Good.ps_length]; exact hpl1)).1 hc) hund
      simp [hu]
      omega
    unfold St.app
    rw [h1, h2, Bool.and_true, if_pos rfl, if_pos h3, Int.toNat_natCast]
    rfl
  have hl : (back S id p).l = S.l := by
    show St.setPar (St.setPar S.l id (-1)) id p = S.l
    obtain ⟨nd, hnd⟩ : ∃ nd, S.l[id]? = some nd := ⟨_, List.getElem?_eq_getElem hidl'⟩
    have hnp : nd.par = p := by
      have : S.ps[id]? = some nd.par := by unfold St.ps; rw [List.getElem?_map, hnd]; rfl
      rw [h] at this
      exact (Option.some.inj this).symm
    rw [setPar_eq hnd, setPar_eq (nd := { nd with par := -1 }) (by rw [List.getElem?_set_self hidl']), List.set_set]
    apply List.ext_getElem?
    intro j
    rw [List.getElem?_set]
    split
    · rename_i e; subst e
      rw [hnd, ← hnp]
    · rfl
  refine ⟨?_, g1, parP_no hl1, happ, ?_, hl, fun q => ?_, ?_⟩
  · unfold St.det
    rw [if_pos his, hpar, if_neg (by omega), Int.toNat_natCast]
  · have := g1.app p id
    rw [happ] at this
    exact this
  · show kidsOf (back S id p).ps (insAt (S.row.erase id) (S.row.erase id).length id) q = kidsOf S.ps S.row q
    rw [insAt_end, kidsOf_append]
    have hno : (id : Int) ∉ S.row.erase id := List.Nodup.not_mem_erase g.nodup
    have e1 : kidsOf (back S id p).ps (S.row.erase id) q = (kidsOf S.ps S.row q).erase id := by
      have : (back S id p).ps = (S.ps.set id (-1)).set id p := by unfold back; rw [put_ps, loosen_ps]
      rw [this, kidsOf_set q hno]
      exact kids_erase g.nodup
    rw [e1, hps]
    have e2 : kidsOf S.ps [(id : Int)] q = if (p : Int) = q then [(id : Int)] else [] := by
      unfold kidsOf
      rw [List.filter_cons, hpar]
      by_cases hq : (p : Int) = q
      · simp [hq]
      · simp [hq]
    rw [e2]
    by_cases hq : (p : Int) = q
    · rw [if_pos hq, ← hq]
      have hk' : kidsOf S.ps S.row p = init ++ [(id : Int)] := hk
      have hnd := nodup_kids (ps := S.ps) (p : Int) g.nodup
      rw [hk'] at hnd ⊢
      have : (id : Int) ∉ init := fun hm => (List.nodup_append.1 hnd).2.2 _ hm _ (by simp) rfl
      rw [List.erase_append_right _ this]
      simp
    · rw [if_neg hq, List.append_nil, List.erase_of_not_mem]
      intro hm
      obtain ⟨h1, h2⟩ := List.mem_filter.1 hm
      simp only [decide_eq_true_eq] at h2
      rw [hpar] at h2
      exact hq h2
  · exact (parP_yes (S := back S id p) (by have := g1.app p id; rw [happ] at this; exact this) (k := id) (p := p) (by rw [hps]; exact h)).1
theorem tree_back {S : St} {id p : Nat} (h : MvF S id p) : treeS (back S id p) = treeS S := by
  unfold treeS
  rw [h.l]
  exact treeOf_congr h.l h.kids _ _

/-! ### What lies beside the arena -/
theorem OwnA.fr {w w' : World} {base B : Nat} {v : Value} {l : List Atr} (h : OwnA base w v l) (hf : Fr B AK w w') : OwnA base w' v l := ⟨hf.own h.1 (fun _ _ => rfl), h.2⟩
abbrev TrsO (b : Nat) (w : World) (v : Value) (ts : List Tr) : Prop := TrsAt (fun _ => True) (OwnA b w) w v ts
theorem TrsO.fr {b B : Nat} {w w' : World} {v : Value} {ts : List Tr} (h : TrsO b w v ts) (hf : Fr B AK w w') : TrsO b w' v ts :=
  h.turnT hf.size (fun k cs fr hk _ ho => ⟨hf.block k hk (.inr fun o e => by rw [ho] at e; obtain rfl := Option.some.inj e; rfl), trivial⟩) fun _ _ ha => ha.fr hf
theorem TrsO.below {b : Nat} {w w' : World} {v : Value} {ts : List Tr} (h : TrsO b w v ts) (hb : Below w.heap.size w w') : TrsO b w' v ts := TrsO.fr h (Fr.of_below hb 0 AK)

/-- The arena, a row of kids that were handed out, a tree that was handed out. -/
structure Mv (w : World) (B a : Nat) (S : St) (vk : Value) (ks : List Int) (b : Nat) (vt : Value) (ts : List Tr) : Prop where
  ar : ∃ v l, ArenaAt w B a v l ∧ Mod l S ∧ ∀ k, vk.ownBlock = some k → ¬ foot l k ∧ k < w.heap.size
  low : B ≤ w.heap.size
  ks : ∃ b2, w.ownsRow b2 3 1 vk ks.length (ks.map i64)
  ts : TrsO b w vt ts
theorem Mv.below {w w' : World} {B a b : Nat} {S : St} {vk vt : Value} {ks : List Int} {ts : List Tr} (h : Mv w B a S vk ks b vt ts) (hb : Below w.heap.size w w') : Mv w' B a S vk ks b vt ts := by
  obtain ⟨⟨v, l, h1, h2, h3⟩, h4, ⟨b2, h5⟩, h6⟩ := h
  exact ⟨⟨v, l, h1.below hb, h2, fun k hk => ⟨(h3 k hk).1, Nat.lt_of_lt_of_le (h3 k hk).2 hb.size⟩⟩, Nat.le_trans h4 hb.size, ⟨b2, own_below h5 hb⟩, TrsO.below h6 hb⟩
theorem Mv.arr {w : World} {B a b : Nat} {S : St} {vk vt : Value} {ks : List Int} {ts : List Tr} (h : Mv w B a S vk ks b vt ts) : Ar w B a S := by
  obtain ⟨⟨v, l, h1, h2, h3⟩, _⟩ := h
  exact ⟨v, l, h1, h2⟩
theorem Mv.turned {w w' : World} {B a b : Nat} {S' : St} {vk vt : Value} {ks : List Int} {ts : List Tr} {v' : Value} {l l' : List It} (h3 : ∀ k, vk.ownBlock = some k → ¬ foot l k ∧ k < w.heap.size) (h4 : B ≤ w.heap.size)
    (h5 : ∃ b2, w.ownsRow b2 3 1 vk ks.length (ks.map i64)) (h6 : TrsO b w vt ts) (q1 : ArenaAt w' B a v' l') (q2 : Went B l w l' w') (q3 : Mod l' S') : Mv w' B a S' vk ks b vt ts ∧ Below B w w' := by
  obtain ⟨b2, h5⟩ := h5
  refine ⟨⟨⟨v', l', q1, q3, fun k hk => ⟨fun hf => ?_, Nat.lt_of_lt_of_le (h3 k hk).2 q2.fr.size⟩⟩, Nat.le_trans h4 q2.fr.size, ⟨b2, q2.own h5 (fun k hk => (h3 k hk).1)⟩, TrsO.fr h6 q2.fr⟩, q2.below h4⟩
  rcases q2.foot k hf with h | h
  · exact (h3 k hk).1 h
  · have := (h3 k hk).2; omega
theorem mv_det {w : World} {B a b : Nat} {S S' : St} {id : Int} {r : Int} {vk vt : Value} {ks : List Int} {ts : List Tr} (h : Mv w B a S vk ks b vt ts) (g : Good S) (hr : S.det id = (r, S')) :
    Calls Try.prog 27 #[ptr a, i64 id] w fun e w' => e = .returned (i64 r) ∧ Mv w' B a S' vk ks b vt ts ∧ Below B w w' := by
  obtain ⟨⟨v, l, h1, h2, h3⟩, h4, h5, h6⟩ := h
  have := det_any (id := id) h1 h2 g
  rw [hr] at this
  refine this.mono ?_
  rintro e w' ⟨rfl, v', l', q1, q2, q3⟩
  exact ⟨rfl, Mv.turned h3 h4 h5 h6 q1 q2 q3⟩
theorem mv_app {w : World} {B a b : Nat} {S S' : St} {p id : Int} {r : Int} {vk vt : Value} {ks : List Int} {ts : List Tr} (h : Mv w B a S vk ks b vt ts) (g : Good S) (hr : S.app p id = (r, S')) :
    Calls Try.prog 15 #[ptr a, i64 p, i64 id] w fun e w' => e = .returned (i64 r) ∧ Mv w' B a S' vk ks b vt ts ∧ Below B w w' := by
  obtain ⟨⟨v, l, h1, h2, h3⟩, h4, h5, h6⟩ := h
  have := app_any (p := p) (id := id) h1 h2 g
  rw [hr] at this
  refine this.mono ?_
  rintro e w' ⟨rfl, v', l', q1, q2, q3⟩
  exact ⟨rfl, Mv.turned h3 h4 h5 h6 q1 q2 q3⟩
/-- The kids handed out: what lies beside the arena now. -/
theorem mv_kids {w : World} {B a b p n : Nat} {S : St} {ks : List Int} {vt : Value} {ts : List Tr} (h : Ar w B a S) (hB : B ≤ w.heap.size) (ht : TrsO b w vt ts) (hp : p < S.l.length) (hks : S.kids p = ks) (hn : ks.length = n) :
    Calls Try.prog 17 #[ptr a, i64 p] w fun e w' => ∃ ad c, e = .returned (.slice ad n c) ∧ Mv w' B a S (.slice ad n c) ks b vt ts ∧ Below w.heap.size w w' := by
  subst hn
  obtain ⟨v, l, h1, h2⟩ := h
  have := kids_any (id := p) h1
  rw [h2.kidsI hp, hks] at this
  refine this.mono ?_
  rintro e w' ⟨v', rfl, q1, q2⟩
  obtain ⟨ad, c, rfl⟩ := own_slice q1
  refine ⟨ad, c, rfl, ⟨⟨v, l, h1.below q2, h2, fun k hk => ⟨fun hf => ?_, (q1.lt k hk).2⟩⟩, Nat.le_trans hB q2.size, ⟨_, q1⟩, TrsO.below ht q2⟩, q2⟩
  have e1 := (h1.foot_lt hf).2
  have e2 := (q1.lt k hk).1
  omega
theorem Mv.last {w : World} {B a b n c k : Nat} {ad : Option Addr} {S : St} {ks : List Int} {vt : Value} {ts : List Tr} {x : Int} (h : Mv w B a S (.slice ad n c) ks b vt ts) (hn : ks.length = n) (hk : k < n) (hx : ks[k]? = some x) :
    ∃ g, ad = some ⟨g, 0, none⟩ ∧ n ≤ c ∧ g < w.heap.size ∧ w.cell? ⟨g, k, none⟩ = some (i64 x) := by
  obtain ⟨b2, h5⟩ := h.ks
  rw [hn] at h5
  exact own_int h5 hk hx
theorem Mv.ints {w : World} {B a b : Nat} {S : St} {vk vt : Value} {ks : List Int} {ts : List Tr} (h : Mv w B a S vk ks b vt ts) (hl : ks.length ≤ 1000000000) : IntsAt w vk ks := by
  obtain ⟨b2, h5⟩ := h.ks
  exact IntsAt.of_own h5 hl
theorem kids_arI {w : World} {B a k : Nat} {S : St} {ks : List Int} (h : Ar w B a S) (hk : k < S.l.length) (hks : S.kids k = ks) (hl : ks.length ≤ 1000000000) : Calls Try.prog 17 #[ptr a, i64 k] w fun e w' => ∃ v', e = .returned v' ∧ IntsAt w' v' ks ∧ Below w.heap.size w w' := by
  have := kids_ar h hk
  rw [hks] at this
  refine this.mono ?_
  rintro e w' ⟨v', rfl, q1, q2⟩
  exact ⟨v', rfl, IntsAt.of_own q1 hl, q2⟩
theorem ints_same {w : World} {va vb : Value} {xs : List Int} (ha : IntsAt w va xs) (hb : IntsAt w vb xs) : Calls Try.prog 18 #[va, vb] w fun e w' => e = .returned (.bool true) ∧ ∃ n, w.drewN n = w' := by
  refine (ints_any ha hb).mono ?_
  rintro e w' ⟨rfl, h⟩
  exact ⟨by simp, h⟩
theorem short_eq {S S2 : St} (h : Short S) (e : S2.l = S.l) : Short S2 := by unfold Short; rw [e]; exact h
theorem tree_arR {w : World} {B a : Nat} {S : St} {ts : List Tr} (h : Ar w B a S) (g : Good S) (ht : Short S) (hr : treeS S = ts) : Calls Try.prog 16 #[ptr a] w fun e w' => ∃ ad c, e = .returned (.slice ad ts.length c) ∧ TrsR w' (.slice ad ts.length c) ts ∧ Below w.heap.size w w' := by
  refine (tree_ar h g ht hr).mono ?_
  rintro e w' ⟨v, rfl, q1, q2⟩
  obtain ⟨ad, c, rfl⟩ := q1.form
  exact ⟨ad, c, rfl, TrsR.of q1 (fun _ _ h => AR.of_own h), q2⟩
theorem parP_true {S : St} (g : Good S) {id p : Int} (h : S.parP id = (p, true)) : ∃ (i q : Nat), id = i ∧ p = q ∧ S.ps[i]? = some (q : Int) ∧ q < S.l.length := by
  unfold St.parP at h
  split at h
  · cases h
  · rename_i hne
    simp only [Prod.mk.injEq, and_true] at h
    unfold parN at h hne
    split at hne
    · exact absurd rfl hne
    · rename_i h0
      rw [if_neg h0, List.getD_eq_getElem?_getD] at h
      rw [List.getD_eq_getElem?_getD] at hne
      cases hk : S.ps[id.toNat]? with
      | none => rw [hk] at hne; exact absurd rfl hne
      | some r =>
        rw [hk] at h hne
        simp only [Option.getD_some] at h hne
        rcases g.pg.rng _ _ hk with h1 | ⟨q, h1, h2⟩
        · exact absurd h1 hne
        · refine ⟨id.toNat, q, by omega, by omega, by rw [hk, h1], ?_⟩
          rw [Good.ps_length] at h2; exact h2

theorem moves_long {w : World} {v : Value} {l : List Stp} {id : Int} (h : StepsAt w v l) (hl : longB l = true) : Calls Try.prog 7 #[v, i64 id] w fun e w' => e = .returned (.bool true) ∧ Below w.heap.size w w' := by
  obtain ⟨ad, c, rfl, _⟩ := _root_.id h
  have H := Lib.hid (And.intro h hl)
  clear h hl
  go_enter Try.func7, Try.ntmps7
  go_wp2_with (first
    | (go_at_call 9; refine (new_any _).mono ?_; rintro e w1 ⟨rfl, _, hb⟩; have H1 := Lib.hid hb; clear hb)
    | (go_at_call 19; refine (long_any (H.out.1.below H1.out)).mono ?_; rintro e w2 ⟨rfl, h2⟩; rw [H.out.2]; have H2 := Lib.hid (H1.out.trans (h2.mono H1.out.size)); clear h2)
    | (go_at_call 10; refine (three_any _).mono ?_; rintro e w3 ⟨rfl, h3⟩; have H3 := Lib.hid h3; clear h3))
  go_ret
  exact ⟨rfl, H2.out.trans (H3.out.mono H2.out.size)⟩

set_option maxHeartbeats 8000000 in
set_option maxRecDepth 100000 in
theorem moves_main {w : World} {v : Value} {l : List Stp} {id : Int} (h : StepsAt w v l) (hl : longB l = false) : Calls Try.prog 7 #[v, i64 id] w fun e w' => e = .returned (.bool true) ∧ Below w.heap.size w w' := by
  obtain ⟨ad, c, rfl, _, hr⟩ := _root_.id h
  obtain ⟨m, hm⟩ : ∃ m, l.length = m := ⟨_, rfl⟩
  rw [hm] at h ⊢
  have hm61 : m ≤ 61 := by have := (longB_false hl).1; omega
  have H := Lib.hid (And.intro h hl)
  have HL := Lib.hid (And.intro hm (longB_false hl))
  have HR := Lib.hid hr
  clear h hl hm hr
  go_enter Try.func7, Try.ntmps7
  go_wp2_with (first
    | (go_at_call 9; refine (new_any _).mono ?_; rintro e w1 ⟨rfl, ⟨va, ha⟩, hb⟩; have H1 := Lib.hid (And.intro ha hb); clear ha hb)
    | (go_at_call 19; refine (long_any (H.out.1.below H1.out.2)).mono ?_; rintro e w2 ⟨rfl, h2⟩; rw [H.out.2]; have H2 := Lib.hid (And.intro (H1.out.1.below h2) (H1.out.2.trans (h2.mono H1.out.2.size))); clear h2)
    | (go_at_call 20; refine (rnew_any _).mono ?_; rintro e w3 ⟨rfl, ⟨vL, h3⟩, hb⟩; have H3 := Lib.hid (show Walked w l 0 (w.heap.size + 1) (w2.heap.size + 1) w3 from ⟨two0 (H2.out.1.below hb) h3 H2.out.2.size, inv0, H2.out.2.trans (hb.mono H2.out.2.size)⟩); clear h3 hb))
  obtain ⟨rb, hrb⟩ : ∃ rb, w2.heap.size + 1 = rb := ⟨_, rfl⟩
  rw [hrb] at H3 ⊢
  clear hrb
  go_loopw [8, 34] (fun _ i wr => ∃ k : Nat, k ≤ m ∧ i = i64 k ∧ Hid (Walked w l k (w.heap.size + 1) rb wr)) (fun _ i _ => m - (intOf i).toNat)
  case atStart => exact ⟨0, Nat.zero_le _, rfl, H3⟩
  case round =>
    obtain ⟨k, hk, rfl, HK⟩ := hrel
    by_cases hlt : k < m
    · obtain ⟨x, hx⟩ : ∃ x, l[k]? = some x := ⟨_, List.getElem?_eq_getElem (by rw [HL.out.1]; exact hlt)⟩
      obtain ⟨g, off, had, hg, hc⟩ := HR.out (fun e => by have := HL.out.1; rw [e] at this; simp at this; omega)
      obtain ⟨d0, d1, d2, d3⟩ := hc k x hx
      have hbel := HK.out.2.2
      have e0 := (hbel.cell (p := ⟨g, off + k * 4, none⟩) hg).trans d0
      have e1 := (hbel.cell (p := ⟨g, off + k * 4 + 1, none⟩) hg).trans d1
      have e2 := (hbel.cell (p := ⟨g, off + k * 4 + 2, none⟩) hg).trans d2
      have e3 := (hbel.cell (p := ⟨g, off + k * 4 + 3, none⟩) hg).trans d3
      have HW := Lib.hid (HK.out.below ((Below.refl _ wr).alloc (Nat.le_refl _) (.cells #[i64 x.what, i64 x.a, i64 x.b, .string x.s] 49)))
      have HX := Lib.hid (And.intro hx (HL.out.2.2 k x hx))
      have HAD := Lib.hid had
      have hk61 : Hid (k ≤ 61) := Lib.hid (by have := HL.out.2.1; have := HL.out.1; omega)
      clear hc hx had d0 d1 d2 d3 hbel
      rw [HAD.out]
      go_wp2_with (first
        | (go_at_call 21; (with_reducible refine (does_step HW.out hk61.out HX.out.1 HX.out.2).mono ?_); rintro e w4 ⟨rfl, h4, hf4⟩; have H4 := Lib.hid h4; clear h4 hf4))
      go_roundw
      case rel => exact ⟨k + 1, by omega, by go_num, H4⟩
      case measure => simp [intOf]; omega
    · obtain rfl : k = m := by omega
      obtain ⟨S, hS⟩ : ∃ S, stepsOf l k = S := ⟨_, rfl⟩
      have HA : Hid (Ar wr w.heap.size (w.heap.size + 1) S ∧ Below w.heap.size w wr) := by
        have := HK.out
        unfold Walked at this
        rw [hS] at this
        exact Lib.hid ⟨this.1.ar, this.2.2⟩
      have HG : Hid (Good S ∧ PE S ∧ Short S) := by
        have := HK.out.2.1
        rw [hS] at this
        exact Lib.hid ⟨this.good, this.pe, this.short hm61⟩
      obtain ⟨ts, hts⟩ : ∃ ts, treeS S = ts := ⟨_, rfl⟩
      have HTS := Lib.hid hts
      obtain ⟨p, r, hp⟩ : ∃ p r, S.parP id = (p, r) := ⟨_, _, rfl⟩
      have HP := Lib.hid hp
      clear hS HK hts hp
      cases r
      case false =>
        go_wp2_with (first
          | (go_at_call 16; (with_reducible refine (tree_ar HA.out.1 HG.out.1 HG.out.2.2 HTS.out).mono ?_); rintro e w5 ⟨v5, rfl, h5, hb5⟩; obtain ⟨ad5, c5, rfl⟩ := h5.form; have H5 := Lib.hid (And.intro (HA.out.1.below hb5) (HA.out.2.trans (hb5.mono HA.out.2.size))); clear h5 hb5)
          | (go_at_call 22; (with_reducible refine (par_ar H5.out.1 HP.out).mono ?_); rintro e w' ⟨rfl, rfl⟩)
          | (go_at_call 10; refine (three_any _).mono ?_; rintro e w6 ⟨rfl, h6⟩; have H6 := Lib.hid h6; clear h6))
        go_ret
        exact ⟨rfl, H5.out.2.trans (H6.out.mono H5.out.2.size)⟩
      case true =>
        obtain ⟨i, q, rfl, rfl, hps, hql⟩ := parP_true HG.out.1 HP.out
        obtain ⟨ks, hks⟩ : ∃ ks, S.kids q = ks := ⟨_, rfl⟩
        have hmem : (i : Int) ∈ ks := by rw [← hks]; exact HG.out.1.mem_kids hps
        have hN0 : 0 < ks.length := List.length_pos_of_mem hmem
        have hN6 : ks.length ≤ 600 := by rw [← hks]; exact HG.out.1.kids_len _
        obtain ⟨M, hM⟩ : ∃ M, ks.length = M + 1 := ⟨ks.length - 1, by omega⟩
        obtain ⟨x, hx⟩ : ∃ x, ks[M]? = some x := ⟨_, List.getElem?_eq_getElem (by omega)⟩
        rw [hM] at hN6
        obtain ⟨N, hN⟩ : ∃ N, M + 1 = N := ⟨_, rfl⟩
        rw [hN] at hM hN6
        have HK := Lib.hid (And.intro hks (And.intro hM (And.intro hx hps)))
        have HQ := Lib.hid hql
        have s1 : (N : Int) - 1 = (M : Int) := by omega
        have s2 : M < N := by omega
        have s3 : (0 : Int) ≤ (M : Int) := by omega
        have s4 : ((N : Int) == 0) = false := by simp; omega
        clear hks hmem hN0 hM hx hps hql
        by_cases hxi : x = (i : Int)
        · have s5 : ((i : Int) != (i : Int)) = false := by simp
          have s6 : ((q : Int) == (q : Int)) = true := by simp
          subst hxi
          obtain ⟨init, hinit⟩ : ∃ init, ks = init ++ [(i : Int)] := by
            refine ⟨ks.take M, ?_⟩
            have h1 := HK.out.2.2.1
            have h2 := HK.out.2.1
            have h3 := List.take_add_one (l := ks) (i := M)
            rw [h1] at h3
            rw [List.take_of_length_le (by omega)] at h3
            exact h3
          have HMV := Lib.hid (mvF HG.out.1 HG.out.2.1 HK.out.2.2.2 (by rw [HK.out.1]; exact hinit))
          have hql2 : Hid (q < (back S i q).l.length) := Lib.hid (by rw [HMV.out.l]; exact HQ.out)
          have hks2 : Hid ((back S i q).kids q = ks) := Lib.hid ((HMV.out.kids _).trans HK.out.1)
          have HT2 : Hid (treeS (back S i q) = ts) := Lib.hid ((tree_back HMV.out).trans HTS.out)
          have HS2 : Hid (Short (back S i q)) := Lib.hid (short_eq HG.out.2.2 HMV.out.l)
          have HN6 : Hid (ks.length ≤ 1000000000) := Lib.hid (by rw [HK.out.2.1]; omega)
          clear hinit
          go_wp2_with (first
            | (go_at_call 16; (with_reducible refine (tree_ar HA.out.1 HG.out.1 HG.out.2.2 HTS.out).mono ?_); rintro e w5 ⟨v5, rfl, h5, hb5⟩; obtain ⟨ad5, c5, rfl⟩ := h5.form; have H5 := Lib.hid (And.intro (show TrsO wr.heap.size w5 (.slice ad5 ts.length c5) ts from h5.turn (Nat.le_refl _) (fun _ _ _ => ⟨rfl, trivial⟩) (fun _ _ h => h)) (And.intro (HA.out.1.below hb5) (HA.out.2.trans (hb5.mono HA.out.2.size)))); clear h5 hb5)
            | (go_at_call 22; (with_reducible refine (par_ar H5.out.2.1 HP.out).mono ?_); rintro e w' ⟨rfl, rfl⟩)
            | (go_at_call 17; (with_reducible refine (mv_kids H5.out.2.1 H5.out.2.2.size H5.out.1 HQ.out HK.out.1 HK.out.2.1).mono ?_); rintro e w6 ⟨ad6, c6, rfl, h6, hb6⟩; obtain ⟨g6, rfl, hn6, hg6, d6⟩ := h6.last HK.out.2.1 s2 HK.out.2.2.1; have H6 := Lib.hid (And.intro h6 (H5.out.2.2.trans (hb6.mono H5.out.2.2.size))); clear h6 hb6)
            | (go_at_call 27; (with_reducible refine (mv_det H6.out.1 HG.out.1 HMV.out.det).mono ?_); rintro e w7 ⟨rfl, h7, hb7⟩; have H7 := Lib.hid (And.intro h7 (H6.out.2.trans hb7)); clear h7 hb7)
            | (go_at_call 22; (with_reducible refine (par_ar H7.out.1.arr HMV.out.loose).mono ?_); rintro e w' ⟨rfl, rfl⟩)
            | (go_at_call 15; (with_reducible refine (mv_app H7.out.1 HMV.out.g1 HMV.out.app).mono ?_); rintro e w8 ⟨rfl, h8, hb8⟩; have H8 := Lib.hid (And.intro h8 (H7.out.2.trans hb8)); clear h8 hb8)
            | (go_at_call 22; (with_reducible refine (par_ar H8.out.1.arr HMV.out.par).mono ?_); rintro e w' ⟨rfl, rfl⟩)
            | (go_at_call 17; (with_reducible refine (kids_arI H8.out.1.arr hql2.out hks2.out HN6.out).mono ?_); rintro e w9 ⟨v9, rfl, h9, hb9⟩; have H9 := Lib.hid (And.intro h9 (And.intro (H8.out.1.below hb9) (H8.out.2.trans (hb9.mono H8.out.2.size)))); clear h9 hb9)
            | (go_at_call 18; (with_reducible refine (ints_same H9.out.1 (H9.out.2.1.ints HN6.out)).mono ?_); rintro e w' ⟨rfl, qd, rfl⟩)
            | (go_at_call 16; (with_reducible refine (tree_arR (Ar.below H9.out.2.1.arr (below_drewN (Below.refl _ w9) qd)) HMV.out.good HS2.out HT2.out).mono ?_); rintro e w10 ⟨ad10, c10, rfl, h10, hb10⟩; have H10 := Lib.hid (And.intro h10 (And.intro ((H9.out.2.1.below (below_drewN (Below.refl _ w9) qd)).below hb10) ((below_drewN H9.out.2.2 qd).trans (hb10.mono (below_drewN H9.out.2.2 qd).size)))); clear h10 hb10)
            | (go_at_call 25; (with_reducible refine (nodes_eq H10.out.1 (TrsR.of H10.out.2.1.ts (fun _ _ h => AR.of_own h))).mono ?_); rintro e w11 ⟨rfl, hb11⟩; have H11 := Lib.hid (H10.out.2.2.trans (hb11.mono H10.out.2.2.size)); clear hb11)
            | (go_at_call 10; refine (three_any _).mono ?_; rintro e w12 ⟨rfl, h12⟩; have H12 := Lib.hid h12; clear h12))
          go_ret
          exact ⟨rfl, H11.out.trans (H12.out.mono H11.out.size)⟩
        · have s5 : (x != (i : Int)) = true := by simpa using hxi
          go_wp2_with (first
            | (go_at_call 16; (with_reducible refine (tree_ar HA.out.1 HG.out.1 HG.out.2.2 HTS.out).mono ?_); rintro e w5 ⟨v5, rfl, h5, hb5⟩; obtain ⟨ad5, c5, rfl⟩ := h5.form; have H5 := Lib.hid (And.intro (show TrsO wr.heap.size w5 (.slice ad5 ts.length c5) ts from h5.turn (Nat.le_refl _) (fun _ _ _ => ⟨rfl, trivial⟩) (fun _ _ h => h)) (And.intro (HA.out.1.below hb5) (HA.out.2.trans (hb5.mono HA.out.2.size)))); clear h5 hb5)
            | (go_at_call 22; (with_reducible refine (par_ar H5.out.2.1 HP.out).mono ?_); rintro e w' ⟨rfl, rfl⟩)
            | (go_at_call 17; (with_reducible refine (mv_kids H5.out.2.1 H5.out.2.2.size H5.out.1 HQ.out HK.out.1 HK.out.2.1).mono ?_); rintro e w6 ⟨ad6, c6, rfl, h6, hb6⟩; obtain ⟨g6, rfl, hn6, hg6, d6⟩ := h6.last HK.out.2.1 s2 HK.out.2.2.1; have H6 := Lib.hid (And.intro h6 (H5.out.2.2.trans (hb6.mono H5.out.2.2.size))); clear h6 hb6)
            | (go_at_call 10; refine (three_any _).mono ?_; rintro e w7 ⟨rfl, h7⟩; have H7 := Lib.hid h7; clear h7))
          go_ret
          exact ⟨rfl, H6.out.2.trans (H7.out.mono H6.out.2.size)⟩

theorem moves_all {w : World} {v : Value} {l : List Stp} {id : Int} (h : StepsAt w v l) : Calls Try.prog 7 #[v, i64 id] w fun e w' => e = .returned (.bool true) ∧ Below w.heap.size w w' := by
  cases hl : longB l
  · exact moves_main h hl
  · exact moves_long h hl

namespace arenaMoves
open Go.ChangeShapes Go.WideShapes Go.ChangeAt Go.RowKit Go.Joins Go.Deep
open Go.ChangeMaps (open_string shut_string)
set_option linter.unusedVariables false
set_option maxRecDepth 100000 in
theorem lifted (os : Os) (started : os.Started) (H : Type) (enc : TypeId × Value → H) :
    ReturnsInHanded {} Try.checked os 7 .any (Rows.arenaMovesSpec.pre6 enc Try.prog Try.f7 Rows.arenaMovesRow.domain false) (Rows.arenaMovesSpec.post enc Try.prog Try.f7 false true false false) := by
  refine returnsInHanded_of_change_sized (C := Try.checked) own started (by kernel_rfl) Try.func7
    (ChangeSpec.witness6 (enc := enc) (C := Try.checked) false ⟨#[], #[.slice none 0 0, .int .i64 0], []⟩ 8 (by kernel_rfl) (by kernel_rfl) (by kernel_rfl) (by kernel_rfl)) ?_
  intro W base args ds gs before hval0 hW hcnd hsz0 _
  have hval : ∀ (j : Nat) t v, Try.f7.params[j]? = some t → args[j]? = some v → Value.okWide Try.prog W .any base t v := hval0
  have hW' := hW
  obtain ⟨p, q, hA0, hV, rfl, hfz, hnd⟩ := hW
  have hA : DataW.TrodAll enc Try.prog W 0 (fun _ => true) true Try.f7.params.toList args.toList ds p := hA0
  rw [Try.params7] at hA hval
  obtain ⟨v0, vs0, d0, ds0, p0, q0, hargs, rfl, rfl, h0, r0⟩ := trodAll_cons hA
  obtain ⟨v1, vs1, d1, ds1, p1, q1, rfl, rfl, rfl, h1, r1⟩ := trodAll_cons r0
  obtain ⟨rfl, rfl, rfl⟩ := trodAll_nil r1
  obtain rfl : args = #[v0, v1] := by cases args; simp_all
  obtain ⟨rfl, rfl⟩ := trodVars_none hV
  have h0k := h0
  have hlt0 : ∀ x ∈ p0, x.block < W.heap.size := fun x hx => by simpa using hW'.lt x (by simp [hx])
  obtain ⟨l0, hl0, hw0⟩ := open_stepsT (hval 0 44 v0 rfl rfl) h0
  obtain ⟨a1, rfl, rfl, rfl, w1⟩ := open_int Try.underlying3 (hval 1 3 v1 rfl rfl) h1
  clear hA0 hval0 hsz0
  refine (moves_all hl0).mono fun e W' ⟨he, bel⟩ => ?_
  subst he
  exact ⟨_, rfl, _, _, _, [], _, [], hW', trodAll_mk1 (shut_bool Try.underlying4 _), (trodAll_cons_mk (Below.trod laid (by kernel_rfl) (of_decide_eq_true (by kernel_rfl)) h0k bel hlt0) (trodAll_cons_mk (shut_int Try.underlying3 w1) trodAll_mk0)), rfl, bel.frame _, fun h => by cases h⟩
theorem over : Rows.arenaMovesRow.holds Try.pinned (OpenSpec.ofChange Rows.arenaMovesSpec) :=
  OpenClaim.holds_of_wide 7 Try.f7 rfl rfl rfl rfl rfl rfl rfl ⟨rfl, rfl, rfl, rfl, rfl⟩ rfl rfl rfl rfl rfl (by kernel_rfl) Try.func7 (by kernel_rfl)
    (of_decide_eq_true (by kernel_rfl)) (by unfold Func.isWrapper; first | (rw [if_pos (by decide +kernel)]; kernel_rfl) | (rw [if_neg (by decide +kernel)]; exact ⟨rfl, rfl⟩))
    (fun os started H enc _ => lifted os started H enc)
end arenaMoves
/-- The row: whatever the input, true. -/
theorem arenaMoves_holds : Rows.ArenaMovesSaid := arenaMoves.over

end Go.Proofs.Ytdeogkjihmaniaa
