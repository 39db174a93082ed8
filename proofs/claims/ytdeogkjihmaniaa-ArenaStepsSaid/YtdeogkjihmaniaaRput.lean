/-
  The document's arena: within, put, loosen, walked.
  Written by an AI agent.
-/
import Derived.Test.YtdeogkjihmaniaaRef
import Derived.Laws.AppendOwnNone
namespace Go.Proofs.Ytdeogkjihmaniaa
open Go.RowKit

section
variable {w : World} {B rb : Nat} {vL vR : Value} {l : List Ro} {row : List Int} {S : St}

theorem rwithin_any {id : Nat} {t : Int} {r : Bool} (h : RefAt w B rb vL vR l row) (m : RMod l row S) (g : Good S) (hid : id < S.l.length) (hr : und S.ps id t = r) : Calls Try.prog 54 #[ptr rb, i64 id, i64 t] w fun e w' => e = .returned (.bool r) ∧ w = w' := by
  obtain ⟨e0, he0, _⟩ := m.ex' hid
  obtain ⟨gg, c, rfl, hlc, hc9, _, _, _, c0, _⟩ := h.cells he0
  obtain ⟨n, hn⟩ : ∃ n, l.length = n := ⟨_, rfl⟩
  have hl600 : n ≤ 600 := by rw [← hn, m.len]; exact g.len
  have hSn : S.l.length = n := by rw [← m.len]; exact hn
  have H := Lib.hid (And.intro h (And.intro m (And.intro g (And.intro hr hSn))))
  rw [hn] at hlc c0
  rw [hSn] at hid
  clear h m g hr hn he0 hSn
  go_enter Try.func54, Try.ntmps54
  go_wp2
  go_loop [7, 14] (fun x i => ∃ (k : Nat) (y : Int), k ≤ n ∧ i = i64 k ∧ x = i64 y ∧ Hid (upF S.ps (n - k) y t = r ∧ (y = -1 ∨ ∃ z : Nat, y = z ∧ z < n))) (fun _ i => n - (intOf i).toNat)
  case atStart => exact ⟨0, id, Nat.zero_le _, rfl, rfl, Lib.hid ⟨by have := H.out.2.2.2.1; unfold und at this; rw [Good.ps_length, H.out.2.2.2.2] at this; exact this, .inr ⟨id, rfl, hid⟩⟩⟩
  case round =>
    obtain ⟨k, y, hk, rfl, rfl, HK⟩ := hrel
    by_cases hlt : k < n
    · obtain ⟨q, hq⟩ : ∃ q, n - k = q + 1 := ⟨n - k - 1, by omega⟩
      have hup := HK.out.1
      rw [hq] at hup
      unfold upF at hup
      by_cases hyt : y = t
      · rw [if_pos hyt] at hup
        subst hup
        have z : (y == t) = true := by simpa using hyt
        clear hyt hq
        go_wp2
        go_ret
        exact ⟨rfl, rfl⟩
      · rw [if_neg hyt] at hup
        have z : (y == t) = false := by simpa using hyt
        clear hyt
        by_cases hy0 : y < 0
        · rw [if_pos hy0] at hup
          subst hup
          have z2 : decide (y < 0) = true := decide_eq_true hy0
          clear hy0 hq
          go_wp2
          go_ret
          exact ⟨rfl, rfl⟩
        · rw [if_neg hy0] at hup
          have z2 : decide (y < 0) = false := decide_eq_false hy0
          obtain ⟨x, rfl, hx⟩ : ∃ z : Nat, y = z ∧ z < n := by
            rcases HK.out.2 with h1 | h1
            · omega
            · exact h1
          obtain ⟨e, he, hSe⟩ := H.out.2.1.ex' (k := x) (by rw [H.out.2.2.2.2]; exact hx)
          obtain ⟨g', c', hv, _, _, _, _, _, _, _, _, _, _, _, _, _, d6⟩ := H.out.1.cells he
          simp only [Value.slice.injEq, Option.some.injEq, Addr.mk.injEq, and_true, true_and] at hv
          obtain ⟨rfl, _⟩ := hv
          have hpx := ps_get hSe
          have hgd : S.ps.getD ((x : Int)).toNat (-1) = e.nd.par := by rw [List.getD_eq_getElem?_getD, Int.toNat_natCast, hpx]; rfl
          rw [hgd] at hup
          obtain ⟨p, hp⟩ : ∃ p, e.nd.par = p := ⟨_, rfl⟩
          rw [hp] at d6 hup hpx
          have i1 : (0 : Int) ≤ (x : Int) := by omega
          have i2 : (x : Int) < (n : Int) := by omega
          have hq2 : n - (k + 1) = q := by omega
          have HU : Hid (upF S.ps (n - (k + 1)) p t = r ∧ (p = -1 ∨ ∃ z : Nat, p = z ∧ z < n)) := Lib.hid (by
            rw [hq2]
            refine ⟨hup, ?_⟩
            rcases H.out.2.2.1.pg.rng x p hpx with h1 | ⟨z, h1, h2⟩
            · exact .inl h1
            · rw [Good.ps_length, H.out.2.2.2.2] at h2
              exact .inr ⟨z, h1, h2⟩)
          clear hy0 hq hq2 he hSe hpx hgd hup hp
          go_wp2
          go_round
          case rel => exact ⟨k + 1, p, by omega, by go_num, rfl, HU⟩
          case measure => simp [intOf]; omega
    · have hup := HK.out.1
      rw [show n - k = 0 by omega] at hup
      unfold upF at hup
      have hb : (y == t) = r := by rw [← hup]; by_cases hyt : y = t <;> simp [hyt]
      cases r with
      | true =>
        clear hup
        go_wp2
        go_ret
        exact ⟨rfl, rfl⟩
      | false =>
        clear hup
        go_wp2
        go_ret
        exact ⟨rfl, rfl⟩
end

/-- append from a source that may be nil. -/
theorem wpList_append_src {P : Program} {w : World} {ops : Array Oper} {rest : List Oper} {o : Oper} {a : Act} {Q : Exit → Act → World → Prop} (hgd : o.guard = none) (s x : Operand) (t : TypeId)
    (ho : o.op = .call { callee := .builtin .append, args := #[s, x], argTypes := #[t, t] })
    (base : Nat) (e : TypeId) (i : TypeInfo) (z : Value) (size bytes : Nat) (ht : P.underlying t = some (.slice e)) (hi : P.info? e = some i) (hz : i.zero = some z)
    (hsize : i.size = size) (hby : i.bytes = bytes) (hzs : z.cells.size = size) (hsz : 0 < size)
    (v : Value) (n : Nat) (xs : List Value) (hs : a.eval s = v) (hown : w.ownsRow base e size v n xs)
    (ao : Option Addr) (m c : Nat) (news : List Value) (hx : a.eval x = .slice ao m c) (hl : news.length = m * size) (hnone : ao = none → m = 0 ∧ c = 0) (hnews : ∀ ad, ao = some ad → ∀ j u, news[j]? = some u → w.cell? (ad.add j) = some u) (h1 : ∀ u ∈ news, u.oneCell' = true)
    (h63 : n + m ≤ maxLen) (hbytes : (n + m) * bytes ≤ 140737488355328) (hbase : base ≤ w.heap.size)
    (h : ∀ v' w', w'.ownsRow base e size v' (n + m) (xs ++ news) → w.grownBy w' v.ownBlock → (v'.ownBlock = v.ownBlock ∨ v'.ownBlock = some w.heap.size) → wpList P ops Q rest (a.put o.dst v') w') :
    wpList P ops Q (o :: rest) a w := by
  cases ao with
  | some ad => exact wpList_append_own_at w hgd s x t ho base e i z size bytes ht hi hz hsize hby hzs hsz v n xs hs hown ad m c news hx hl (hnews ad rfl) h1 h63 hbytes hbase (fun v' w' a1 a2 _ a4 => h v' w' a1 a2 a4)
  | none =>
    obtain ⟨rfl, rfl⟩ := hnone rfl
    have hnn : news = [] := List.eq_nil_of_length_eq_zero (by simpa using hl)
    subst hnn
    refine wpList_append_own_none hgd s x t ho base e i size ht hi v n xs hs hown hx ?_
    exact h v w (by simpa using hown) (World.grownBy.refl _ _) (.inl rfl)

/-- A row cut in two: what append reads of it. -/
theorem row_head {w : World} {B n at_ : Nat} {ad : Option Addr} {c : Nat} {row : List Int} (h : w.ownsRow B 3 1 (.slice ad n c) n (row.map i64)) (_hat : at_ ≤ n) : ∀ a, ad = some a → ∀ j u, ((row.take at_).map i64)[j]? = some u → w.cell? (a.add j) = some u := by
  rintro a rfl j u hu
  have hj : j < at_ := by
    have := (List.getElem?_eq_some_iff.1 hu).1
    simp at this; omega
  rcases h.2 with ⟨h0, _⟩ | ⟨g, cap, cur, hv, _⟩
  · cases h0
  · simp only [Value.slice.injEq, Option.some.injEq, true_and] at hv
    obtain ⟨rfl, rfl⟩ := hv
    refine h.cells (g := g) rfl j u ?_
    rw [List.getElem?_map, List.getElem?_take, if_pos hj] at hu
    rw [List.getElem?_map]
    exact hu
theorem row_tail {w : World} {B n at_ g : Nat} {c : Nat} {row : List Int} (h : w.ownsRow B 3 1 (.slice (some ⟨g, 0, none⟩) n c) n (row.map i64)) : ∀ j u, ((row.drop at_).map i64)[j]? = some u → w.cell? ((⟨g, at_, none⟩ : Addr).add j) = some u := by
  intro j u hu
  exact own_at1 h j u (by rw [← List.map_drop]; exact hu)

theorem RefAt.row_turn {w w3 : World} {B rb : Nat} {vL vR v3 : Value} {l : List Ro} {row row' : List Int} (h : RefAt w B rb vL vR l row) (hb : Below w.heap.size w w3) (h3 : w3.ownsRow w.heap.size 3 1 v3 row'.length (row'.map i64)) (hB : B ≤ w.heap.size) :
    RefAt (w3.setCell ⟨rb, 1, none⟩ v3) B rb vL v3 l row' ∧ Fr B RK w (w3.setCell ⟨rb, 1, none⟩ v3) ∧ ∀ k, v3.ownBlock = some k → w.heap.size ≤ k := by
  have hblk : Blk w3 rb 53 #[vL, vR] := blk_kept h.blk hb
  have fr : Fr B RK w (w3.setCell ⟨rb, 1, none⟩ v3) := (Fr.of_below hb B RK).setCell hblk rfl h.low 1 v3
  exact ⟨⟨hblk.put 1 v3, h.low, own_setCell (own_below h.rowL hb) hblk (by decide) 1 v3, own_mono (own_setCell h3 hblk (by decide) 1 v3) hB, fun e he => (h.atrs e he).fr fr (Nat.le_refl _) (fun _ _ => rfl)⟩, fr, fun k hk => (own_kind h3 k hk).1⟩

theorem RefAt.cell_turn {w : World} {B rb k g n c j : Nat} {u vR : Value} {l : List Ro} {row : List Int} {e e' : Ro} (h : RefAt w B rb (.slice (some ⟨g, 0, none⟩) n c) vR l row) (hk : l[k]? = some e) (hj : j < 7) (hu : (cellsO e).set j u = cellsO e') (h1 : e'.av = e.av) (h2 : e'.nd.attrs = e.nd.attrs) :
    RefAt (w.setCell ⟨g, k * 7 + j, none⟩ u) B rb (.slice (some ⟨g, 0, none⟩) n c) vR (l.set k e') row ∧ Fr B RK w (w.setCell ⟨g, k * 7 + j, none⟩ u) := by
  have hln : n = l.length := by
    obtain ⟨ad, c', e⟩ := own_slice h.rowL
    simp only [Value.slice.injEq] at e
    exact e.2.1
  subst hln
  obtain ⟨hgB, cs, hg⟩ := own_kind h.rowL g rfl
  have hg' : Blk w g 57 cs := hg
  obtain ⟨hst, _⟩ := h.rowL.stored (k * 7 + j) u
  rw [flatO_set l k e e' j u hk hj hu] at hst
  have fr : Fr B RK w (w.setCell ⟨g, k * 7 + j, none⟩ u) := (Fr.refl B RK w).setCell hg' rfl hgB _ u
  refine ⟨⟨h.blk.far (p := ⟨g, k * 7 + j, none⟩) (h.blk.ne hg' (by decide)) u, h.low, by rw [List.length_set]; exact hst, own_setCell h.rowR hg' (by decide) _ u, fun f hf => ?_⟩, fr⟩
  have hat : ∀ x ∈ l, AtrsAt (w.setCell ⟨g, k * 7 + j, none⟩ u) B x.av x.nd.attrs := fun x hx => (h.atrs x hx).fr fr (Nat.le_refl _) (fun _ _ => rfl)
  rcases List.mem_or_eq_of_mem_set hf with hf | rfl
  · exact hat f hf
  · rw [h1, h2]; exact hat e (List.mem_of_getElem? hk)

/-- What a method of the document's leaves: kinds; where the row lies. -/
structure RWent (B : Nat) (w : World) (vR : Value) (w' : World) (vR' : Value) : Prop where
  fr : Fr B RK w w'
  row : ∀ k, vR'.ownBlock = some k → vR.ownBlock = some k ∨ w.heap.size ≤ k
theorem RWent.refl (B : Nat) (w : World) (vR : Value) : RWent B w vR w vR := ⟨Fr.refl _ _ _, fun _ h => .inl h⟩
theorem RWent.trans {B : Nat} {w w1 w2 : World} {v v1 v2 : Value} (h : RWent B w v w1 v1) (h' : RWent B w1 v1 w2 v2) : RWent B w v w2 v2 :=
  ⟨h.fr.trans h'.fr, fun k hk => by
    rcases h'.row k hk with h1 | h1
    · exact h.row k h1
    · exact .inr (Nat.le_trans h.fr.size h1)⟩
theorem RWent.of_below {w w' : World} (h : Below w.heap.size w w') (B : Nat) (v : Value) : RWent B w v w' v := ⟨Fr.of_below h B RK, fun _ h => .inl h⟩

/-- What a method leaves. -/
def RfIt (B rb : Nat) (vR : Value) (r : Value) (S' : St) (w : World) (e : Ending) (w' : World) : Prop :=
  e = .returned r ∧ ∃ vL' vR' l' row', RefAt w' B rb vL' vR' l' row' ∧ RMod l' row' S' ∧ RWent B w vR w' vR'
theorem RfIt.same {w : World} {B rb : Nat} {vL vR r : Value} {l : List Ro} {row : List Int} {S : St} (h : RefAt w B rb vL vR l row) (m : RMod l row S) : RfIt B rb vR r S w (.returned r) w := ⟨rfl, _, _, _, _, h, m, RWent.refl _ _ _⟩

theorem RMod.par {l : List Ro} {row row' : List Int} {S : St} {id : Nat} {p : Int} {e : Ro} (m : RMod l row S) (he : l[id]? = some e) : RMod (l.set id { e with nd := { e.nd with par := p } }) row' ⟨St.setPar S.l id p, row'⟩ := by
  refine ⟨?_, rfl⟩
  rw [List.map_set, m.nd]
  have : S.l[id]? = some e.nd := by rw [← m.nd, List.getElem?_map, he]; rfl
  rw [setPar_eq this]

/-- What put leaves. -/
theorem rput_done {w w4 : World} {B rb g n c id : Nat} {vR v3 : Value} {l : List Ro} {row row' : List Int} {S : St} {e : Ro} {p : Int} (h : RefAt w B rb (.slice (some ⟨g, 0, none⟩) n c) vR l row) (m : RMod l row S) (he : l[id]? = some e) (hb : Below w.heap.size w w4)
    (h3 : w4.ownsRow w.heap.size 3 1 v3 row'.length (row'.map i64)) (hB : B ≤ w.heap.size) :
    ∃ vL' vR' l' rw', RefAt ((w4.setCell ⟨rb, 1, none⟩ v3).setCell ⟨g, id * 7 + 6, none⟩ (i64 p)) B rb vL' vR' l' rw' ∧ RMod l' rw' ⟨St.setPar S.l id p, row'⟩ ∧ RWent B w vR ((w4.setCell ⟨rb, 1, none⟩ v3).setCell ⟨g, id * 7 + 6, none⟩ (i64 p)) vR' := by
  obtain ⟨t1, t2, t3⟩ := h.row_turn hb h3 hB
  obtain ⟨u1, u2⟩ := t1.cell_turn (j := 6) (u := i64 p) (e' := { e with nd := { e.nd with par := p } }) he (by omega) rfl rfl rfl
  exact ⟨_, v3, _, row', u1, m.par he, t2.trans u2, fun k hk => .inr (t3 k hk)⟩

theorem rput_one {w w1 : World} {v1 : Value} {n : Nat} {xs : List Value} (h : w1.ownsRow w.heap.size 3 1 v1 (0 + n) ([] ++ xs)) (hg : w.grownBy w1 (Value.slice none 0 0).ownBlock) : Below w.heap.size w w1 ∧ w1.ownsRow w.heap.size 3 1 v1 n xs :=
  ⟨(Below.refl _ _).grown hg (Nat.le_refl _) (fun k hk => by cases hk), by simpa using h⟩
theorem rput_news (w1 : World) (x : Int) : ∀ ad, some (⟨w1.heap.size, 0, none⟩ : Addr) = some ad → ∀ j u, [i64 x][j]? = some u → (w1.alloc (.cells #[i64 x] 3)).cell? (ad.add j) = some u := by
  rintro ad he j u hu
  obtain rfl := Option.some.inj he
  exact cell_one_new w1 (i64 x) 3 j u hu
theorem rput_two {w w1 w2 : World} {v v2 : Value} {n : Nat} {xs : List Value} {x : Int} {o : Obj} (hb : Below w.heap.size w w1) (h : w1.ownsRow w.heap.size 3 1 v n xs) (h2 : w2.ownsRow w.heap.size 3 1 v2 (n + 1) (xs ++ [i64 x])) (hg : (w1.alloc o).grownBy w2 v.ownBlock) : Below w.heap.size w w2 ∧ w2.ownsRow w.heap.size 3 1 v2 (n + 1) (xs ++ [i64 x]) :=
  ⟨(hb.alloc hb.size o).grown hg (by have := hb.size; simp; omega) (fun k hk => (own_kind h k hk).1), h2⟩
theorem rput_three {w w2 w3 : World} {v v3 : Value} {at_ m : Nat} {row : List Int} {id : Nat} (hb : Below w.heap.size w w2) (h : w2.ownsRow w.heap.size 3 1 v (at_ + 1) ((row.take at_).map i64 ++ [i64 id])) (h3 : w3.ownsRow w.heap.size 3 1 v3 (at_ + 1 + m) ((row.take at_).map i64 ++ [i64 id] ++ (row.drop at_).map i64)) (hg : w2.grownBy w3 v.ownBlock) : Below w.heap.size w w3 ∧ w3.ownsRow w.heap.size 3 1 v3 (at_ + 1 + m) ((insAt row at_ id).map i64) :=
  ⟨hb.grown hg hb.size (fun k hk => (own_kind h k hk).1), by unfold insAt; simpa using h3⟩

theorem rput_tail0 {w : World} {row : List Int} {rn at_ : Nat} {a0 : Option Addr} (hr : row.length = rn) (h : rn ≤ at_) : ∀ ad, a0 = some ad → ∀ j u, ((row.drop at_).map i64)[j]? = some u → w.cell? (ad.add j) = some u := by
  intro ad _ j u hu
  rw [List.drop_eq_nil_of_le (by omega)] at hu
  simp at hu

set_option maxHeartbeats 2000000 in
theorem rput_at {w : World} {B rb at_ id gg n c : Nat} {p : Int} {gr rn rc : Nat} {l : List Ro} {row : List Int} {S : St} {e : Ro} (h : RefAt w B rb (.slice (some ⟨gg, 0, none⟩) n c) (.slice (some ⟨gr, 0, none⟩) rn rc) l row) (m : RMod l row S) (he : l[id]? = some e) (hat : at_ ≤ row.length) (hl : row.length ≤ 1000000) (hrn : row.length = rn) (hcap : rc = at_) :
    Calls Try.prog 55 #[ptr rb, i64 at_, i64 id, i64 p] w (RfIt B rb (.slice (some ⟨gr, 0, none⟩) rn rc) (.tuple #[]) (S.put at_ id p) w) := by
  obtain ⟨g', c', hv, hlc, hc9, hkl, hgB, hgl, c0, fro, _, _, _, _, _, _, d6⟩ := h.cells he
  simp only [Value.slice.injEq, Option.some.injEq, Addr.mk.injEq, and_true] at hv
  obtain ⟨rfl, rfl, rfl⟩ := hv
  obtain ⟨ln, hln⟩ : ∃ ln, l.length = ln := ⟨_, rfl⟩
  have c1 := h.blk.cell 1 (.slice (some ⟨gr, 0, none⟩) rn rc) rfl
  have hrl : rb < w.heap.size := h.blk.lt
  have hB : B ≤ w.heap.size := by have := h.low; omega
  have hR := h.rowR
  obtain ⟨i0, hi, hz0, hz1, hz2⟩ := info_parts info3
  rw [hrn] at hat hl hR
  have hrc := own_cap hR
  have hnc : rn ≤ rc := by
    rcases hR.2 with ⟨h0, _⟩ | ⟨g', cap, cur, hv, _, _, hnc, _⟩
    · cases h0
    · simp only [Value.slice.injEq] at hv; omega
  have HR := Lib.hid (And.intro hrn hR)
  clear hrn
  have s1 : (at_ : Int) ≤ (rc : Int) := by omega
  have s2 : (at_ : Int) ≤ (rn : Int) := by omega
  have s3 : at_ ≤ rc := by omega
  have s4 : (0 : Int) ≤ (at_ : Int) := by omega
  have HW := Lib.hid (And.intro h (And.intro m (And.intro he hB)))
  have hne : gg ≠ rb := fun e2 => by
    obtain ⟨_, cs, h1⟩ := own_kind h.rowL gg rfl
    subst e2
    have := h.blk.symm.trans h1
    injection this with this
    injection this with _ this
    exact absurd this (by decide)
  have f6 := fro (id * 7 + 6)
  have i3 : (0 : Int) ≤ (id : Int) := by omega
  have i4 : (id : Int) < (ln : Int) := by omega
  rw [hln] at c0 hlc
  clear h m he fro hR hB hkl
  go_enter Try.func55, Try.ntmps55
  go_wp2_with (first
    | (at_builtin; refine wpList_append_src rfl (.tmp 9) (.tmp 15) 40 rfl w.heap.size 3 i0 _ 1 8 Try.underlying40 hi hz0 hz1 hz2 rfl (by decide) (.slice none 0 0) 0 [] rfl (World.ownsRow_nil _ _ _ _) _ at_ _ ((row.take at_).map i64) rfl (by have := HR.out.1; simp; omega) (fun e => by cases e) (fun ad hd => row_head (own_below HR.out.2 (Below.refl _ _)) hat ad hd) (ints_one _) (by unfold maxLen; omega) (by omega) (Nat.le_refl _) ?_; intro v1 w1 hown1 hg1 hl1; obtain ⟨b1, o1⟩ := rput_one hown1 hg1; obtain ⟨a1, k1, rfl⟩ := own_slice o1; have e0 := (b1.cell (p := ⟨rb, 0, none⟩) hrl).trans c0; have e1 := (b1.cell (p := ⟨rb, 1, none⟩) hrl).trans c1; have HA := Lib.hid (And.intro b1 o1); clear hown1 hg1 hl1 b1 o1)
    | (at_builtin; refine wpList_append_src rfl (.tmp 17) (.tmp 19) 40 rfl w.heap.size 3 i0 _ 1 8 Try.underlying40 hi hz0 hz1 hz2 rfl (by decide) (.slice a1 at_ k1) at_ ((row.take at_).map i64) rfl (HA.out.2.alloc _) (some ⟨w1.heap.size, 0, none⟩) 1 1 [i64 id] rfl rfl (fun e => by cases e) (rput_news _ _) (by intro u hu; simp at hu; subst hu; rfl) (by unfold maxLen; omega) (by omega) (by have := HA.out.1.size; simp; omega) ?_; intro v2 w2 hown2 hg2 hl2; obtain ⟨b2, o2⟩ := rput_two HA.out.1 HA.out.2 hown2 hg2; obtain ⟨a2, k2, rfl⟩ := own_slice o2; have e0 := (b2.cell (p := ⟨rb, 0, none⟩) hrl).trans c0; have e1 := (b2.cell (p := ⟨rb, 1, none⟩) hrl).trans c1; have HB2 := Lib.hid (And.intro b2 o2); clear hown2 hg2 hl2 b2 o2)
    | (at_builtin; refine wpList_append_src rfl (.tmp 21) (.tmp 27) 40 rfl w.heap.size 3 i0 _ 1 8 Try.underlying40 hi hz0 hz1 hz2 rfl (by decide) (.slice a2 (at_ + 1) k2) (at_ + 1) ((row.take at_).map i64 ++ [i64 id]) rfl HB2.out.2 _ (rn - at_) _ ((row.drop at_).map i64) rfl (by have := HR.out.1; simp; omega) (fun e => by cases e) (rput_tail0 HR.out.1 (by omega)) (ints_one _) (by unfold maxLen; omega) (by omega) (by have := HB2.out.1.size; omega) ?_; intro v3 w3 hown3 hg3 hl3; obtain ⟨b3, o3⟩ := rput_three (row := row) (id := id) HB2.out.1 HB2.out.2 hown3 hg3; obtain ⟨a3, k3, rfl⟩ := own_slice o3; have e0 := (b3.cell (p := ⟨rb, 0, none⟩) hrl).trans c0; have e1 := (b3.cell (p := ⟨rb, 1, none⟩) hrl).trans c1; have e6 := (b3.cell (p := ⟨gg, id * 7 + 6, none⟩) hgl).trans d6; have ef := (b3.frozen (p := ⟨gg, id * 7 + 6, none⟩) hgl).trans f6; have eg := (blk_kept HW.out.1.blk b3).fro 1; have HC := Lib.hid (And.intro b3 o3); clear hown3 hg3 hl3 b3 o3))
  go_end0
  obtain ⟨h, m, he, hB⟩ := HW.out
  have hlen : at_ + 1 + (rn - at_) = (insAt row at_ id).length := by have := HR.out.1; simp [insAt]; omega
  have hown := HC.out.2
  rw [hlen] at hown ⊢
  obtain ⟨vL', vR', l', rw', q1, q2, q3⟩ := rput_done (p := p) h m he HC.out.1 hown hB
  refine ⟨rfl, vL', vR', l', rw', q1, ?_, q3⟩
  have hrow := m.row
  rw [hrow] at q2
  exact q2


set_option maxHeartbeats 2000000 in
theorem rput_mid {w : World} {B rb at_ id gg n c : Nat} {p : Int} {gr rn rc : Nat} {l : List Ro} {row : List Int} {S : St} {e : Ro} (h : RefAt w B rb (.slice (some ⟨gg, 0, none⟩) n c) (.slice (some ⟨gr, 0, none⟩) rn rc) l row) (m : RMod l row S) (he : l[id]? = some e) (hat : at_ ≤ row.length) (hl : row.length ≤ 1000000) (hrn : row.length = rn) (hcap : rc ≠ at_) :
    Calls Try.prog 55 #[ptr rb, i64 at_, i64 id, i64 p] w (RfIt B rb (.slice (some ⟨gr, 0, none⟩) rn rc) (.tuple #[]) (S.put at_ id p) w) := by
  obtain ⟨g', c', hv, hlc, hc9, hkl, hgB, hgl, c0, fro, _, _, _, _, _, _, d6⟩ := h.cells he
  simp only [Value.slice.injEq, Option.some.injEq, Addr.mk.injEq, and_true] at hv
  obtain ⟨rfl, rfl, rfl⟩ := hv
  obtain ⟨ln, hln⟩ : ∃ ln, l.length = ln := ⟨_, rfl⟩
  have c1 := h.blk.cell 1 (.slice (some ⟨gr, 0, none⟩) rn rc) rfl
  have hrl : rb < w.heap.size := h.blk.lt
  have hB : B ≤ w.heap.size := by have := h.low; omega
  have hR := h.rowR
  obtain ⟨i0, hi, hz0, hz1, hz2⟩ := info_parts info3
  rw [hrn] at hat hl hR
  have hrc := own_cap hR
  have hnc : rn ≤ rc := by
    rcases hR.2 with ⟨h0, _⟩ | ⟨g', cap, cur, hv, _, _, hnc, _⟩
    · cases h0
    · simp only [Value.slice.injEq] at hv; omega
  have HR := Lib.hid (And.intro hrn hR)
  clear hrn
  have s1 : (at_ : Int) ≤ (rc : Int) := by omega
  have s2 : (at_ : Int) ≤ (rn : Int) := by omega
  have s3 : at_ ≤ rc := by omega
  have s4 : (0 : Int) ≤ (at_ : Int) := by omega
  have HW := Lib.hid (And.intro h (And.intro m (And.intro he hB)))
  have hne : gg ≠ rb := fun e2 => by
    obtain ⟨_, cs, h1⟩ := own_kind h.rowL gg rfl
    subst e2
    have := h.blk.symm.trans h1
    injection this with this
    injection this with _ this
    exact absurd this (by decide)
  have f6 := fro (id * 7 + 6)
  have i3 : (0 : Int) ≤ (id : Int) := by omega
  have i4 : (id : Int) < (ln : Int) := by omega
  rw [hln] at c0 hlc
  clear h m he fro hR hB hkl
  go_enter Try.func55, Try.ntmps55
  go_wp2_with (first
    | (at_builtin; refine wpList_append_src rfl (.tmp 9) (.tmp 15) 40 rfl w.heap.size 3 i0 _ 1 8 Try.underlying40 hi hz0 hz1 hz2 rfl (by decide) (.slice none 0 0) 0 [] rfl (World.ownsRow_nil _ _ _ _) _ at_ _ ((row.take at_).map i64) rfl (by have := HR.out.1; simp; omega) (fun e => by cases e) (fun ad hd => row_head HR.out.2 hat ad hd) (ints_one _) (by unfold maxLen; omega) (by omega) (Nat.le_refl _) ?_; intro v1 w1 hown1 hg1 hl1; obtain ⟨b1, o1⟩ := rput_one hown1 hg1; obtain ⟨a1, k1, rfl⟩ := own_slice o1; have e0 := (b1.cell (p := ⟨rb, 0, none⟩) hrl).trans c0; have e1 := (b1.cell (p := ⟨rb, 1, none⟩) hrl).trans c1; have HA := Lib.hid (And.intro b1 o1); clear hown1 hg1 hl1 b1 o1)
    | (at_builtin; refine wpList_append_src rfl (.tmp 17) (.tmp 19) 40 rfl w.heap.size 3 i0 _ 1 8 Try.underlying40 hi hz0 hz1 hz2 rfl (by decide) (.slice a1 at_ k1) at_ ((row.take at_).map i64) rfl (HA.out.2.alloc _) (some ⟨w1.heap.size, 0, none⟩) 1 1 [i64 id] rfl rfl (fun e => by cases e) (rput_news _ _) (by intro u hu; simp at hu; subst hu; rfl) (by unfold maxLen; omega) (by omega) (by have := HA.out.1.size; simp; omega) ?_; intro v2 w2 hown2 hg2 hl2; obtain ⟨b2, o2⟩ := rput_two HA.out.1 HA.out.2 hown2 hg2; obtain ⟨a2, k2, rfl⟩ := own_slice o2; have e0 := (b2.cell (p := ⟨rb, 0, none⟩) hrl).trans c0; have e1 := (b2.cell (p := ⟨rb, 1, none⟩) hrl).trans c1; have HB2 := Lib.hid (And.intro b2 o2); clear hown2 hg2 hl2 b2 o2)
    | (at_builtin; refine wpList_append_src rfl (.tmp 21) (.tmp 27) 40 rfl w.heap.size 3 i0 _ 1 8 Try.underlying40 hi hz0 hz1 hz2 rfl (by decide) (.slice a2 (at_ + 1) k2) (at_ + 1) ((row.take at_).map i64 ++ [i64 id]) rfl HB2.out.2 _ (rn - at_) _ ((row.drop at_).map i64) rfl (by have := HR.out.1; simp; omega) (fun e => by cases e) (fun ad hd => by cases hd; exact row_tail (own_below HR.out.2 HB2.out.1)) (ints_one _) (by unfold maxLen; omega) (by omega) (by have := HB2.out.1.size; omega) ?_; intro v3 w3 hown3 hg3 hl3; obtain ⟨b3, o3⟩ := rput_three (row := row) (id := id) HB2.out.1 HB2.out.2 hown3 hg3; obtain ⟨a3, k3, rfl⟩ := own_slice o3; have e0 := (b3.cell (p := ⟨rb, 0, none⟩) hrl).trans c0; have e1 := (b3.cell (p := ⟨rb, 1, none⟩) hrl).trans c1; have e6 := (b3.cell (p := ⟨gg, id * 7 + 6, none⟩) hgl).trans d6; have ef := (b3.frozen (p := ⟨gg, id * 7 + 6, none⟩) hgl).trans f6; have eg := (blk_kept HW.out.1.blk b3).fro 1; have HC := Lib.hid (And.intro b3 o3); clear hown3 hg3 hl3 b3 o3))
  go_end0
  obtain ⟨h, m, he, hB⟩ := HW.out
  have hlen : at_ + 1 + (rn - at_) = (insAt row at_ id).length := by have := HR.out.1; simp [insAt]; omega
  have hown := HC.out.2
  rw [hlen] at hown ⊢
  obtain ⟨vL', vR', l', rw', q1, q2, q3⟩ := rput_done (p := p) h m he HC.out.1 hown hB
  refine ⟨rfl, vL', vR', l', rw', q1, ?_, q3⟩
  have hrow := m.row
  rw [hrow] at q2
  exact q2


set_option maxHeartbeats 2000000 in
theorem rput_nil {w : World} {B rb id gg n c : Nat} {p : Int} {l : List Ro} {S : St} {e : Ro} (h : RefAt w B rb (.slice (some ⟨gg, 0, none⟩) n c) (.slice none 0 0) l []) (m : RMod l [] S) (he : l[id]? = some e) :
    Calls Try.prog 55 #[ptr rb, .int .i64 0, i64 id, i64 p] w (RfIt B rb (.slice none 0 0) (.tuple #[]) (S.put 0 id p) w) := by
  obtain ⟨g', c', hv, hlc, hc9, hkl, hgB, hgl, c0, fro, _, _, _, _, _, _, d6⟩ := h.cells he
  simp only [Value.slice.injEq, Option.some.injEq, Addr.mk.injEq, and_true] at hv
  obtain ⟨rfl, rfl, rfl⟩ := hv
  obtain ⟨ln, hln⟩ : ∃ ln, l.length = ln := ⟨_, rfl⟩
  have c1 := h.blk.cell 1 (.slice none 0 0) rfl
  have hrl : rb < w.heap.size := h.blk.lt
  have hB : B ≤ w.heap.size := by have := h.low; omega
  obtain ⟨i0, hi, hz0, hz1, hz2⟩ := info_parts info3
  have HW := Lib.hid (And.intro h (And.intro m (And.intro he hB)))
  have hne : gg ≠ rb := fun e2 => by
    obtain ⟨_, cs, h1⟩ := own_kind h.rowL gg rfl
    subst e2
    have := h.blk.symm.trans h1
    injection this with this
    injection this with _ this
    exact absurd this (by decide)
  have f6 := fro (id * 7 + 6)
  have i3 : (0 : Int) ≤ (id : Int) := by omega
  have i4 : (id : Int) < (ln : Int) := by omega
  rw [hln] at c0 hlc
  clear h m he fro hB hkl
  go_enter Try.func55, Try.ntmps55
  go_wp2_with (first
    | (at_builtin; refine wpList_append_own_none rfl (.tmp 9) (.tmp 15) 40 rfl w.heap.size 3 i0 1 Try.underlying40 hi (.slice none 0 0) 0 [] rfl (World.ownsRow_nil _ _ _ _) rfl ?_)
    | (at_builtin; refine wpList_append_src rfl (.tmp 17) (.tmp 19) 40 rfl w.heap.size 3 i0 _ 1 8 Try.underlying40 hi hz0 hz1 hz2 rfl (by decide) (.slice none 0 0) 0 [] rfl (World.ownsRow_nil _ _ _ _) (some ⟨w.heap.size, 0, none⟩) 1 1 [i64 id] rfl rfl (fun e => by cases e) (rput_news _ _) (by intro u hu; simp at hu; subst hu; rfl) (by unfold maxLen; omega) (by omega) (by simp) ?_; intro v2 w2 hown2 hg2 hl2; obtain ⟨b2, o2⟩ := rput_two (Below.refl _ _) (World.ownsRow_nil _ _ _ _) hown2 hg2; obtain ⟨a2, k2, rfl⟩ := own_slice o2; have e0 := (b2.cell (p := ⟨rb, 0, none⟩) hrl).trans c0; have e1 := (b2.cell (p := ⟨rb, 1, none⟩) hrl).trans c1; have e6 := (b2.cell (p := ⟨gg, id * 7 + 6, none⟩) hgl).trans d6; have ef := (b2.frozen (p := ⟨gg, id * 7 + 6, none⟩) hgl).trans f6; have eg := (blk_kept HW.out.1.blk b2).fro 1; have HB2 := Lib.hid (And.intro b2 o2); clear hown2 hg2 hl2 b2 o2)
    | (at_builtin; refine wpList_append_own_none rfl (.tmp 21) (.tmp 27) 40 rfl w.heap.size 3 i0 1 Try.underlying40 hi _ 1 [i64 id] rfl HB2.out.2 rfl ?_))
  go_end0
  obtain ⟨h, m, he, hB⟩ := HW.out
  obtain ⟨vL', vR', l', rw', q1, q2, q3⟩ := rput_done (p := p) (row' := [(id : Int)]) h m he HB2.out.1 HB2.out.2 hB
  refine ⟨rfl, vL', vR', l', rw', q1, ?_, q3⟩
  have hrow := m.row
  have : (S.put 0 id p) = ⟨St.setPar S.l id p, [(id : Int)]⟩ := by unfold St.put; rw [← hrow]; rfl
  rw [this]
  exact q2

theorem rput_any {w : World} {B rb at_ id : Nat} {p : Int} {vL vR : Value} {l : List Ro} {row : List Int} {S : St} (h : RefAt w B rb vL vR l row) (m : RMod l row S) (hid : id < S.l.length) (hat : at_ ≤ S.row.length) (hl : S.row.length ≤ 1000000) :
    Calls Try.prog 55 #[ptr rb, i64 at_, i64 id, i64 p] w (RfIt B rb vR (.tuple #[]) (S.put at_ id p) w) := by
  obtain ⟨e, he, _⟩ := m.ex' hid
  obtain ⟨gg, c, rfl, _⟩ := h.cells he
  rw [← m.row] at hat hl
  have hR := h.rowR
  rcases hR.2 with ⟨rfl, h0⟩ | ⟨gr, rc, cur, rfl, _⟩
  · have hr0 := List.length_eq_zero_iff.1 h0
    subst hr0
    obtain rfl : at_ = 0 := by simpa using hat
    exact rput_nil h m he
  · by_cases hc : rc = at_
    · exact rput_at h m he hat hl rfl hc
    · exact rput_mid h m he hat hl rfl hc
end Go.Proofs.Ytdeogkjihmaniaa
