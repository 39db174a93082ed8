/-
  The document's arena: loosen, Add, walked.
  Written by an AI agent.
-/
import Derived.Test.YtdeogkjihmaniaaRput
namespace Go.Proofs.Ytdeogkjihmaniaa
open Go.RowKit
attribute [local go_sem ↓] Go.wp_at_zero Go.wp_at_succ

theorem rloose_two {w w1 w2 : World} {v v2 : Value} {n k : Nat} {xs ys : List Value} (hb : Below w.heap.size w w1) (h : w1.ownsRow w.heap.size 3 1 v n xs) (h2 : w2.ownsRow w.heap.size 3 1 v2 (n + k) (xs ++ ys)) (hg : w1.grownBy w2 v.ownBlock) : Below w.heap.size w w2 ∧ w2.ownsRow w.heap.size 3 1 v2 (n + k) (xs ++ ys) :=
  ⟨hb.grown hg hb.size (fun g hg => (own_kind h g hg).1), h2⟩

set_option maxHeartbeats 2000000 in
theorem rloose_at {w : World} {B rb at_ id gg n c gr rn rc : Nat} {l : List Ro} {row : List Int} {S : St} {e : Ro} (h : RefAt w B rb (.slice (some ⟨gg, 0, none⟩) n c) (.slice (some ⟨gr, 0, none⟩) rn rc) l row) (m : RMod l row S) (he : l[id]? = some e) (hat : row.idxOf (id : Int) = at_) (hl : row.length ≤ 1000000) (hrn : row.length = rn) (hlt : at_ < rn) (hcap : rc = at_ + 1) :
    Calls Try.prog 57 #[ptr rb, i64 id] w (RfIt B rb (.slice (some ⟨gr, 0, none⟩) rn rc) (.tuple #[]) (S.loosen id) w) := by
  obtain ⟨g', c', hv, hlc, hc9, hkl, hgB, hgl, c0, fro, _, _, _, _, _, _, d6⟩ := h.cells he
  simp only [Value.slice.injEq, Option.some.injEq, Addr.mk.injEq, and_true] at hv
  obtain ⟨rfl, rfl, rfl⟩ := hv
  obtain ⟨ln, hln⟩ : ∃ ln, l.length = ln := ⟨_, rfl⟩
  have c1 := h.blk.cell 1 (.slice (some ⟨gr, 0, none⟩) rn rc) rfl
  have hrl : rb < w.heap.size := h.blk.lt
  have hB : B ≤ w.heap.size := by have := h.low; omega
  have hR := h.rowR
  obtain ⟨i0, hi, hz0, hz1, hz2⟩ := info_parts info3
  rw [hrn] at hR
  have hl' : rn ≤ 1000000 := by omega
  have hrc := own_cap hR
  have hnc : rn ≤ rc := by
    rcases hR.2 with ⟨h0, _⟩ | ⟨g', cap, cur, hv, _, _, hnc, _⟩
    · cases h0
    · simp only [Value.slice.injEq] at hv; omega
  have HR := Lib.hid (And.intro hrn hR)
  have s1 : (at_ : Int) ≤ (rc : Int) := by omega
  have s2 : (at_ : Int) + 1 ≤ (rn : Int) := by omega
  have s3 : at_ ≤ rc := by omega
  have s4 : (0 : Int) ≤ (at_ : Int) + 1 := by omega
  have s5 : ((at_ : Int) + 1).toNat = at_ + 1 := by omega
  have s6 : at_ + 1 ≤ rn := by omega
  have s7 : at_ + 1 ≤ rc := by omega
  have s8 : (at_ : Int) ≤ (rn : Int) := by omega
  have HW := Lib.hid (And.intro h (And.intro m (And.intro he (And.intro hB (And.intro hat hl)))))
  have hne : gg ≠ rb := fun e2 => by
    obtain ⟨_, cs, h1⟩ := own_kind h.rowL gg rfl
    subst e2
    have := h.blk.symm.trans h1
    injection this with this
    injection this with _ this
    exact absurd this (by decide)
  have f6 := fro (id * 7 + 6)
  have i3 : (0 : Int) ≤ (id : Int) := by omega
  have i4 : (id : Int) < (ln : Int) := by omega
  have hatn : at_ ≤ rn := by omega
  rw [hln] at c0 hlc
  clear h m he fro hR hB hkl hrn hl hat
  go_enter Try.func57, Try.ntmps57
  go_wp2_with (first
    | (go_at_call 56; (with_reducible refine (rat_any HW.out.1 HW.out.2.2.2.2.1 HW.out.2.2.2.2.2).mono ?_); rintro e w0 ⟨rfl, rfl⟩)
    | (at_builtin; refine wpList_append_src rfl (.tmp 9) (.tmp 15) 40 rfl w.heap.size 3 i0 _ 1 8 Try.underlying40 hi hz0 hz1 hz2 rfl (by decide) (.slice none 0 0) 0 [] rfl (World.ownsRow_nil _ _ _ _) _ at_ _ ((row.take at_).map i64) rfl (by have := HR.out.1; simp; omega) (fun e => by cases e) (fun ad hd => row_head HR.out.2 hatn ad hd) (ints_one _) (by unfold maxLen; omega) (by omega) (Nat.le_refl _) ?_; intro v2 w2 hown1 hg1 hl1; obtain ⟨b1, o1⟩ := rput_one hown1 hg1; obtain ⟨a1, k1, rfl⟩ := own_slice o1; have e0 := (b1.cell (p := ⟨rb, 0, none⟩) hrl).trans c0; have e1 := (b1.cell (p := ⟨rb, 1, none⟩) hrl).trans c1; have HA := Lib.hid (And.intro b1 o1); clear hown1 hg1 hl1 b1 o1)
    | (at_builtin; refine wpList_append_src rfl (.tmp 17) (.tmp 24) 40 rfl w.heap.size 3 i0 _ 1 8 Try.underlying40 hi hz0 hz1 hz2 rfl (by decide) (.slice a1 at_ k1) at_ ((row.take at_).map i64) rfl HA.out.2 _ (rn - (at_ + 1)) _ ((row.drop (at_ + 1)).map i64) rfl (by have := HR.out.1; simp; omega) (fun e => by cases e) (rput_tail0 HR.out.1 (by omega)) (ints_one _) (by unfold maxLen; omega) (by omega) (by have := HA.out.1.size; omega) ?_; intro v3 w3 hown3 hg3 hl3; obtain ⟨b3, o3⟩ := rloose_two HA.out.1 HA.out.2 hown3 hg3; obtain ⟨a3, k3, rfl⟩ := own_slice o3; have e0 := (b3.cell (p := ⟨rb, 0, none⟩) hrl).trans c0; have e1 := (b3.cell (p := ⟨rb, 1, none⟩) hrl).trans c1; have e6 := (b3.cell (p := ⟨gg, id * 7 + 6, none⟩) hgl).trans d6; have ef := (b3.frozen (p := ⟨gg, id * 7 + 6, none⟩) hgl).trans f6; have eg := (blk_kept HW.out.1.blk b3).fro 1; have HC := Lib.hid (And.intro b3 o3); clear hown3 hg3 hl3 b3 o3))
  go_end0
  obtain ⟨h, m, he, hB, hat, hl⟩ := HW.out
  have hrow : row.erase (id : Int) = row.take at_ ++ row.drop (at_ + 1) := by rw [← eraseIdx_idxOf, hat, List.eraseIdx_eq_take_drop_succ]
  have hlen : at_ + (rn - (at_ + 1)) = (row.erase (id : Int)).length := by rw [hrow]; have := HR.out.1; simp; omega
  have hown := HC.out.2
  rw [← List.map_append, ← hrow, hlen] at hown
  rw [hlen]
  obtain ⟨vL', vR', l', rw', q1, q2, q3⟩ := rput_done (p := -1) h m he HC.out.1 hown hB
  refine ⟨rfl, vL', vR', l', rw', q1, ?_, q3⟩
  have hrow := m.row
  rw [hrow] at q2
  exact q2

set_option maxHeartbeats 2000000 in
theorem rloose_mid {w : World} {B rb at_ id gg n c gr rn rc : Nat} {l : List Ro} {row : List Int} {S : St} {e : Ro} (h : RefAt w B rb (.slice (some ⟨gg, 0, none⟩) n c) (.slice (some ⟨gr, 0, none⟩) rn rc) l row) (m : RMod l row S) (he : l[id]? = some e) (hat : row.idxOf (id : Int) = at_) (hl : row.length ≤ 1000000) (hrn : row.length = rn) (hlt : at_ < rn) (hcap : rc ≠ at_ + 1) :
    Calls Try.prog 57 #[ptr rb, i64 id] w (RfIt B rb (.slice (some ⟨gr, 0, none⟩) rn rc) (.tuple #[]) (S.loosen id) w) := by
  obtain ⟨g', c', hv, hlc, hc9, hkl, hgB, hgl, c0, fro, _, _, _, _, _, _, d6⟩ := h.cells he
  simp only [Value.slice.injEq, Option.some.injEq, Addr.mk.injEq, and_true] at hv
  obtain ⟨rfl, rfl, rfl⟩ := hv
  obtain ⟨ln, hln⟩ : ∃ ln, l.length = ln := ⟨_, rfl⟩
  have c1 := h.blk.cell 1 (.slice (some ⟨gr, 0, none⟩) rn rc) rfl
  have hrl : rb < w.heap.size := h.blk.lt
  have hB : B ≤ w.heap.size := by have := h.low; omega
  have hR := h.rowR
  obtain ⟨i0, hi, hz0, hz1, hz2⟩ := info_parts info3
  rw [hrn] at hR
  have hl' : rn ≤ 1000000 := by omega
  have hrc := own_cap hR
  have hnc : rn ≤ rc := by
    rcases hR.2 with ⟨h0, _⟩ | ⟨g', cap, cur, hv, _, _, hnc, _⟩
    · cases h0
    · simp only [Value.slice.injEq] at hv; omega
  have HR := Lib.hid (And.intro hrn hR)
  have s1 : (at_ : Int) ≤ (rc : Int) := by omega
  have s2 : (at_ : Int) + 1 ≤ (rn : Int) := by omega
  have s3 : at_ ≤ rc := by omega
  have s4 : (0 : Int) ≤ (at_ : Int) + 1 := by omega
  have s5 : ((at_ : Int) + 1).toNat = at_ + 1 := by omega
  have s6 : at_ + 1 ≤ rn := by omega
  have s7 : at_ + 1 ≤ rc := by omega
  have s8 : (at_ : Int) ≤ (rn : Int) := by omega
  have HW := Lib.hid (And.intro h (And.intro m (And.intro he (And.intro hB (And.intro hat hl)))))
  have hne : gg ≠ rb := fun e2 => by
    obtain ⟨_, cs, h1⟩ := own_kind h.rowL gg rfl
    subst e2
    have := h.blk.symm.trans h1
    injection this with this
    injection this with _ this
    exact absurd this (by decide)
  have f6 := fro (id * 7 + 6)
  have i3 : (0 : Int) ≤ (id : Int) := by omega
  have i4 : (id : Int) < (ln : Int) := by omega
  have hatn : at_ ≤ rn := by omega
  rw [hln] at c0 hlc
  clear h m he fro hR hB hkl hrn hl hat
  go_enter Try.func57, Try.ntmps57
  go_wp2_with (first
    | (go_at_call 56; (with_reducible refine (rat_any HW.out.1 HW.out.2.2.2.2.1 HW.out.2.2.2.2.2).mono ?_); rintro e w0 ⟨rfl, rfl⟩)
    | (at_builtin; refine wpList_append_src rfl (.tmp 9) (.tmp 15) 40 rfl w.heap.size 3 i0 _ 1 8 Try.underlying40 hi hz0 hz1 hz2 rfl (by decide) (.slice none 0 0) 0 [] rfl (World.ownsRow_nil _ _ _ _) _ at_ _ ((row.take at_).map i64) rfl (by have := HR.out.1; simp; omega) (fun e => by cases e) (fun ad hd => row_head HR.out.2 hatn ad hd) (ints_one _) (by unfold maxLen; omega) (by omega) (Nat.le_refl _) ?_; intro v2 w2 hown1 hg1 hl1; obtain ⟨b1, o1⟩ := rput_one hown1 hg1; obtain ⟨a1, k1, rfl⟩ := own_slice o1; have e0 := (b1.cell (p := ⟨rb, 0, none⟩) hrl).trans c0; have e1 := (b1.cell (p := ⟨rb, 1, none⟩) hrl).trans c1; have HA := Lib.hid (And.intro b1 o1); clear hown1 hg1 hl1 b1 o1)
    | (at_builtin; refine wpList_append_src rfl (.tmp 17) (.tmp 24) 40 rfl w.heap.size 3 i0 _ 1 8 Try.underlying40 hi hz0 hz1 hz2 rfl (by decide) (.slice a1 at_ k1) at_ ((row.take at_).map i64) rfl HA.out.2 _ (rn - (at_ + 1)) _ ((row.drop (at_ + 1)).map i64) rfl (by have := HR.out.1; simp; omega) (fun e => by cases e) (fun ad hd => by cases hd; exact row_tail (own_below HR.out.2 HA.out.1)) (ints_one _) (by unfold maxLen; omega) (by omega) (by have := HA.out.1.size; omega) ?_; intro v3 w3 hown3 hg3 hl3; obtain ⟨b3, o3⟩ := rloose_two HA.out.1 HA.out.2 hown3 hg3; obtain ⟨a3, k3, rfl⟩ := own_slice o3; have e0 := (b3.cell (p := ⟨rb, 0, none⟩) hrl).trans c0; have e1 := (b3.cell (p := ⟨rb, 1, none⟩) hrl).trans c1; have e6 := (b3.cell (p := ⟨gg, id * 7 + 6, none⟩) hgl).trans d6; have ef := (b3.frozen (p := ⟨gg, id * 7 + 6, none⟩) hgl).trans f6; have eg := (blk_kept HW.out.1.blk b3).fro 1; have HC := Lib.hid (And.intro b3 o3); clear hown3 hg3 hl3 b3 o3))
  go_end0
  obtain ⟨h, m, he, hB, hat, hl⟩ := HW.out
  have hrow : row.erase (id : Int) = row.take at_ ++ row.drop (at_ + 1) := by rw [← eraseIdx_idxOf, hat, List.eraseIdx_eq_take_drop_succ]
  have hlen : at_ + (rn - (at_ + 1)) = (row.erase (id : Int)).length := by rw [hrow]; have := HR.out.1; simp; omega
  have hown := HC.out.2
  rw [← List.map_append, ← hrow, hlen] at hown
  rw [hlen]
  obtain ⟨vL', vR', l', rw', q1, q2, q3⟩ := rput_done (p := -1) h m he HC.out.1 hown hB
  refine ⟨rfl, vL', vR', l', rw', q1, ?_, q3⟩
  have hrow := m.row
  rw [hrow] at q2
  exact q2

theorem rloose_any {w : World} {B rb id : Nat} {vL vR : Value} {l : List Ro} {row : List Int} {S : St} (h : RefAt w B rb vL vR l row) (m : RMod l row S) (g : Good S) (hid : id < S.l.length) (hin : (id : Int) ∈ S.row) :
    Calls Try.prog 57 #[ptr rb, i64 id] w (RfIt B rb vR (.tuple #[]) (S.loosen id) w) := by
  obtain ⟨e, he, _⟩ := m.ex' hid
  obtain ⟨gg, c, rfl, _⟩ := h.cells he
  have hl := g.row_len
  rw [← m.row] at hin hl
  have hlt : row.idxOf (id : Int) < row.length := List.idxOf_lt_length_iff.2 hin
  have hR := h.rowR
  rcases hR.2 with ⟨rfl, h0⟩ | ⟨gr, rc, cur, rfl, _⟩
  · omega
  · by_cases hc : rc = row.idxOf (id : Int) + 1
    · exact rloose_at h m he rfl (by omega) rfl hlt hc
    · exact rloose_mid h m he rfl (by omega) rfl hlt hc

theorem cellsO_one {w : World} {B : Nat} {e : Ro} (h : AtrsAt w B e.av e.nd.attrs) : ∀ u ∈ cellsO e, u.oneCell' = true := by
  obtain ⟨ad, c, h1⟩ := h.form
  intro u hu
  simp only [cellsO, List.mem_cons, List.not_mem_nil, or_false, h1] at hu
  rcases hu with rfl | rfl | rfl | rfl | rfl | rfl | rfl <;> rfl

theorem radd_turn {w w2 w3 : World} {B rb : Nat} {vL vR v3 : Value} {l : List Ro} {row : List Int} {e : Ro} {r : Option Nat} (h : RefAt w B rb vL vR l row) (hb : Below w.heap.size w w2) (he : AtrsAt w B e.av e.nd.attrs)
    (h3 : w3.ownsRow B 57 7 v3 (l.length + 1) (flatO l ++ cellsO e)) (hg : w2.grownBy w3 r) (hr : r = vL.ownBlock) :
    RefAt (w3.setCell ⟨rb, 0, none⟩ v3) B rb v3 vR (l ++ [e]) row ∧ Fr B RK w (w3.setCell ⟨rb, 0, none⟩ v3) ∧ Blk w3 rb 53 #[vL, vR] := by
  subst hr
  have hkind : ∀ k, vL.ownBlock = some k → B ≤ k ∧ ∃ cs, w.heap[k]? = some (.cells cs 57 (0, 0)) := own_kind h.rowL
  have hblk2 : Blk w2 rb 53 #[vL, vR] := blk_kept h.blk hb
  have hg2 : ∀ k, vL.ownBlock = some k → ∃ cs, w2.heap[k]? = some (.cells cs 57 (0, 0)) := fun k hk => by
    obtain ⟨_, cs, h1⟩ := hkind k hk
    exact ⟨cs, (hb.block k (Array.getElem?_eq_some_iff.1 h1).1).trans h1⟩
  have hblk : Blk w3 rb 53 #[vL, vR] := (hg.block rb hblk2.lt (fun e => by
    obtain ⟨cs, h1⟩ := hg2 rb e.symm
    have := hblk2.symm.trans h1
    injection this with this
    injection this with _ this
    exact absurd this (by decide))).trans hblk2
  have fr3 : Fr B RK w w3 := (Fr.of_below hb B RK).trans ((Fr.refl B RK w2).grown hg (fun k hk => by
    obtain ⟨cs, h2⟩ := hg2 k hk
    exact ⟨(hkind k hk).1, _, h2, rfl⟩))
  have fr4 : Fr B RK w (w3.setCell ⟨rb, 0, none⟩ v3) := fr3.setCell hblk rfl h.low 0 v3
  refine ⟨⟨hblk.put 0 v3, h.low, ?_, fr4.own h.rowR (fun _ _ => rfl), fun f hf => ?_⟩, fr4, hblk⟩
  · rw [flatO_append, List.length_append]
    have : flatO [e] = cellsO e := by rw [flatO_cons]; simp [flatO]
    rw [this]
    exact own_setCell h3 hblk (by decide) _ _
  · rcases List.mem_append.1 hf with hf | hf
    · exact (h.atrs f hf).fr fr4 (Nat.le_refl _) (fun _ _ => rfl)
    · obtain rfl := List.mem_singleton.1 hf
      exact he.fr fr4 (Nat.le_refl _) (fun _ _ => rfl)

theorem radd_own {w : World} {B rb n : Nat} {vL vR : Value} {l : List Ro} {row : List Int} (h : RefAt w B rb vL vR l row) (hn : l.length = n) (o o' : Obj) : ((w.alloc o).alloc o').drew.ownsRow B 57 7 vL n (flatO l) := by
  subst hn
  exact own_below h.rowL (((Below.refl w.heap.size w).alloc (Nat.le_refl _) o).alloc (by simp) o').drew
theorem radd_news (w : World) (o : Obj) (cs : List Value) : ∀ j u, cs[j]? = some u → ((w.alloc o).alloc (.cells cs.toArray 57)).drew.cell? ((⟨w.heap.size + 1, 0, none⟩ : Addr).add j) = some u := by
  have h := Blk.new (w.alloc o) 57 cs.toArray
  simp only [World.size_alloc] at h
  have := World.news_of_block (w := ((w.alloc o).alloc (.cells cs.toArray 57)).drew) h
  simpa using this

def newN (kind space : Int) (nm : ByteArray) (ats : List Atr) (tx : ByteArray) : Nd := ⟨kind, space, nm, ats, tx, -1⟩

theorem radd_full {w : World} {B rb : Nat} {vL vR av : Value} {l : List Ro} {row : List Int} {S : St} {kind space : Int} {nm tx : ByteArray} {ats : List Atr} (h : RefAt w B rb vL vR l row) (m : RMod l row S) (hl : S.l.length = 600) (ha : AtrsAt w B av ats) :
    Calls Try.prog 41 #[ptr rb, .agg #[i64 kind, i64 space, .string nm, av, .string tx, .slice none 0 0]] w fun e w' => e = .returned (i64 (-1)) ∧ Below w.heap.size w w' := by
  obtain ⟨ad, c, rfl⟩ := own_slice h.rowL
  obtain ⟨aad, ac, rfl⟩ := ha.form
  have c0 := h.blk.cell 0 (.slice ad l.length c) rfl
  have has : rb < w.heap.size := h.blk.lt
  rw [m.len, hl] at c0
  clear h m ha hl
  go_enter Try.func41, Try.ntmps41
  go_wp2
  go_ret
  exact ⟨rfl, (Below.refl _ _).alloc (Nat.le_refl _) _⟩

set_option maxHeartbeats 4000000 in
theorem radd_any {w : World} {B rb n : Nat} {vL vR av : Value} {l : List Ro} {row : List Int} {S : St} {kind space : Int} {nm tx : ByteArray} {ats : List Atr} (h : RefAt w B rb vL vR l row) (m : RMod l row S) (hn : S.l.length = n) (hl : n < 600) (ha : AtrsAt w B av ats) :
    Calls Try.prog 41 #[ptr rb, .agg #[i64 kind, i64 space, .string nm, av, .string tx, .slice none 0 0]] w (RfIt B rb vR (i64 n) (S.add (newN kind space nm ats tx)) w) := by
  obtain ⟨ad, c, rfl⟩ := own_slice h.rowL
  obtain ⟨aad, ac, rfl⟩ := ha.form
  have c0 := h.blk.cell 0 (.slice ad l.length c) rfl
  have f0 := h.blk.fro 0
  have has : rb ≠ w.heap.size := fun e => by have := h.blk.lt; omega
  have has1 : rb ≠ w.heap.size + 1 := fun e => by have := h.blk.lt; omega
  have halt : rb < w.heap.size := h.blk.lt
  have hB : B ≤ ((w.heap.size) + 2) := by have := h.low; omega
  obtain ⟨q, hq⟩ : ∃ q, ats.length = q := ⟨_, rfl⟩
  have hln : l.length = n := m.len.trans hn
  rw [hln] at c0 h
  rw [hq] at ha ⊢
  obtain ⟨i0, hi, hz0, hz1, hz2⟩ := info_parts info57
  have z1 : decide ((599 : Int) < (n : Int)) = false := decide_eq_false (by omega)
  have H := Lib.hid (And.intro h (And.intro m (And.intro ha (And.intro hln hn))))
  clear h m ha hln hn hq
  go_enter Try.func41, Try.ntmps41
  go_wp2_with fail
  go_region_law ((refine step_append_lies _ rfl (.tmp 15) (.tmp 18) 51 (by rfl) B 57 i0 _ 7 104 Try.underlying51 hi hz0 hz1 hz2 rfl (by decide) (.slice ad n c) n (flatO l) (by rfl) (radd_own H.out.1 H.out.2.2.2.1 _ _) ⟨w.heap.size + 1, 0, none⟩ 1 1 (cellsO ⟨newN kind space nm ats tx, .slice aad q ac⟩) (by rfl) rfl (radd_news _ _ _) (cellsO_one H.out.2.2.1) (by decide) (by unfold maxLen; omega) (by omega) (by simp; omega) _ rfl ?_; intro g3 cap3 w3 hown3 hgrow3 _ _; obtain ⟨r1, r2, r3⟩ := radd_turn (e := ⟨newN kind space nm ats tx, .slice aad q ac⟩) H.out.1 ((((Below.refl w.heap.size w).alloc (Nat.le_refl _) _).alloc (by simp) _).drew) H.out.2.2.1 (by rw [H.out.2.2.2.1]; exact hown3) hgrow3 rfl; have q0 := r3.cell 0 _ rfl; have qf := r3.fro 0; have HI := Lib.hid (And.intro r1 r2); clear hown3 hgrow3 r1 r2 r3))
  all_goals (
    have p0 := HI.out.1.blk.cell 0 _ rfl
    clear q0 qf c0 f0
    go_wp2
    go_ret
    refine ⟨rfl, _, _, _, _, HI.out.1, ⟨?_, H.out.2.1.row⟩, HI.out.2, fun _ h => .inl h⟩
    rw [List.map_append, H.out.2.1.nd]
    rfl)
end Go.Proofs.Ytdeogkjihmaniaa
