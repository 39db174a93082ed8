/-
  slices.Insert at a list's end, (*List).put there, walked.
  Written by an AI agent.
-/
import Derived.Test.YtjopfgdgmniigaaCopy
namespace Go.Proofs.Ytjopfgdgmniigaa
open Go.RowKit Go.Maps

theorem info33 : (Try.prog.info? 33).map (fun i => (i.zero, i.size, i.bytes)) = some (some (.agg #[.bool false, .int .i64 0, .string ⟨#[]⟩, .slice none 0 0]), 4, 56) := by kernel_rfl

def InsIt (B n : Nat) (v : Value) (xs : List Value) (w : World) (e : Ending) (w' : World) : Prop :=
  ∃ v', e = .returned v' ∧ w'.ownsRow B 33 4 v' n xs ∧ w.grownBy w' v.ownBlock

set_option maxHeartbeats 1000000 in
theorem insert_end {w : World} {B n g2 : Nat} {v : Value} {xs : List Value} (hown : w.ownsRow B 33 4 v n xs) (hn : n ≤ 1000000) (hB : B ≤ w.heap.size) {mk : Bool} {id : Int} {nm : ByteArray} {a4 : Option Addr} {n4 c4 : Nat}
    (h0 : w.cell? ⟨g2, 0, none⟩ = some (.bool mk)) (h1 : w.cell? ⟨g2, 1, none⟩ = some (i64 id)) (h2 : w.cell? ⟨g2, 2, none⟩ = some (.string nm)) (h3 : w.cell? ⟨g2, 3, none⟩ = some (.slice a4 n4 c4)) :
    Calls Try.prog 53 #[v, i64 n, .slice (some ⟨g2, 0, none⟩) 1 1] w (InsIt B (n + 1) v (xs ++ [.bool mk, i64 id, .string nm, .slice a4 n4 c4]) w) := by
  obtain ⟨i0, hi, hz0, hz1, hz2⟩ := info_parts info33
  have hnews : ∀ (j : Nat) (u : Value), [Value.bool mk, i64 id, .string nm, .slice a4 n4 c4][j]? = some u → w.cell? ((⟨g2, 0, none⟩ : Addr).add j) = some u := by
    intro j u hu
    have e : ∀ j, (⟨g2, 0, none⟩ : Addr).add j = ⟨g2, j, none⟩ := fun j => by unfold Addr.add; split <;> simp_all
    rw [e]
    match j, hu with
    | 0, hu => simp at hu; subst hu; exact h0
    | 1, hu => simp at hu; subst hu; exact h1
    | 2, hu => simp at hu; subst hu; exact h2
    | 3, hu => simp at hu; subst hu; exact h3
    | j + 4, hu => simp at hu
  have HO := Lib.hid hown
  have HNW := Lib.hid hnews
  rcases hown.2 with ⟨rfl, rfl⟩ | ⟨g, cap, cur, rfl, hb, hg, hnc, hm, _, _⟩
  · clear hown hnews h0 h1 h2 h3
    go_enter Try.func53, Try.ntmps53
    go_wp2_with (first
      | (at_builtin; refine wpList_append_own _ rfl (.tmp 23) (.tmp 24) 38 rfl B 33 i0 _ 4 56 Try.underlying38 hi hz0 hz1 hz2 rfl (by decide) _ _ _ rfl HO.out ⟨g2, 0, none⟩ 1 1 [.bool mk, i64 id, .string nm, .slice a4 n4 c4] rfl rfl HNW.out (by intro u hu; simp at hu; rcases hu with rfl | rfl | rfl | rfl <;> rfl) (by unfold maxLen; omega) (by omega) hB ?_; intro v' w' hown' hgrow _; have HF := Lib.hid (And.intro hown' hgrow); clear hown' hgrow))
    go_ret
    exact ⟨_, rfl, by simpa using HF.out.1, HF.out.2⟩
  · unfold maxLen at hm
    clear hown hnews h0 h1 h2 h3 hg
    go_enter Try.func53, Try.ntmps53
    go_wp2_with (first
      | (at_builtin; refine wpList_append_own _ rfl (.tmp 23) (.tmp 24) 38 rfl B 33 i0 _ 4 56 Try.underlying38 hi hz0 hz1 hz2 rfl (by decide) _ _ _ rfl HO.out ⟨g2, 0, none⟩ 1 1 [.bool mk, i64 id, .string nm, .slice a4 n4 c4] rfl rfl HNW.out (by intro u hu; simp at hu; rcases hu with rfl | rfl | rfl | rfl <;> rfl) (by unfold maxLen; omega) (by omega) hB ?_; intro v' w' hown' hgrow _; have HF := Lib.hid (And.intro hown' hgrow); clear hown' hgrow))
    all_goals go_ret
    all_goals exact ⟨_, rfl, HF.out.1, HF.out.2⟩

abbrev K33 : Obj → Bool := kinds [33] false
theorem k33_lk : ∀ o, K33 o = true → LK o = true := by
  intro o; cases o <;> simp [kinds]
  intro h; simp [h]
theorem grown_fr {w w' : World} {B : Nat} {v : Value} {n : Nat} {xs : List Value} (hg : w.grownBy w' v.ownBlock) (hown : w.ownsRow B 33 4 v n xs) : Fr B K33 w w' :=
  (Fr.refl B K33 w).grown hg (fun g hgk => by
    obtain ⟨h1, cs, h2⟩ := own_kind hown g hgk
    exact ⟨h1, _, h2, rfl⟩)
theorem grown_below {w w' : World} {B : Nat} {v : Value} {n : Nat} {xs : List Value} (hg : w.grownBy w' v.ownBlock) (hown : w.ownsRow B 33 4 v n xs) {g : Nat} (hgl : g < w.heap.size) (hne : v.ownBlock ≠ some g) : w'.heap[g]? = w.heap[g]? :=
  hg.block g hgl (fun e => hne e.symm)

/-- What put leaves at a list's end. -/
def PutE (B lb : Nat) (ps : List (Ent × Value)) (e0 : Ent) (w : World) (e : Ending) (w' : World) : Prop :=
  e = .returned (.tuple #[]) ∧ ∃ v' va', ListAt w' B lb 63 33 v' (ps ++ [(e0, va')]) ∧ w'.ownsRow w.heap.size 60 2 va' e0.attrs.length (flatA e0.attrs) ∧ Fr B LK w w'

theorem copied_n {w : World} {B : Nat} {v : Value} {mk : Bool} {id : Int} {nm : ByteArray} {l : List Atr} {na : Nat} (h : AtrsAt w B v l) (hna : l.length = na) : Calls Try.prog 35 #[.agg #[.bool mk, i64 id, .string nm, v]] w fun e w' =>
    ∃ ua uc, e = .returned (.agg #[.bool mk, i64 id, .string nm, .slice ua na uc]) ∧ w'.ownsRow w.heap.size 60 2 (.slice ua na uc) na (flatA l) ∧ Below w.heap.size w w' := by
  subst hna
  refine (copied_any h).mono ?_
  rintro e w' ⟨v', rfl, hown, hbel⟩
  obtain ⟨ua, uc, rfl⟩ := own_slice hown
  exact ⟨ua, uc, rfl, hown, hbel⟩
theorem put_own {w w1 : World} {B lb : Nat} {v : Value} {n : Nat} {ps : List (Ent × Value)} {o o' : Obj} (h : ListAt w B lb 63 33 v ps) (hn : ps.length = n) (hb : Below (w.alloc o).drew.heap.size (w.alloc o).drew w1) : (w1.alloc o').ownsRow B 33 4 v n (flatP ps) := by
  subst hn
  have h0 := own_below h.2.2.1 (((Below.refl w.heap.size w).alloc (Nat.le_refl _) o).drew) (Nat.le_refl _)
  have h1 := own_below h0 hb (Nat.le_refl _)
  exact own_below h1 ((Below.refl _ w1).alloc (Nat.le_refl _) o') (Nat.le_refl _)
theorem put_base {w w1 : World} {B lb : Nat} {v : Value} {ps : List (Ent × Value)} {o o' : Obj} (h : ListAt w B lb 63 33 v ps) (hb : Below (w.alloc o).drew.heap.size (w.alloc o).drew w1) : B ≤ (w1.alloc o').heap.size := by
  have h1 := h.1.lt
  have h2 := h.2.1
  have h3 := hb.size
  simp at h3 ⊢
  omega

theorem put_list {w w1 : World} {lb : Nat} {cs : Array Value} {o o' : Obj} (h : Blk (w.alloc o) lb 63 cs) (hb : Below (w.alloc o).drew.heap.size (w.alloc o).drew w1) : Blk (w1.alloc o') lb 63 cs :=
  Blk.alloc ((hb.block lb h.lt).trans h) o'
theorem put_kept {w w' : World} {B n lb : Nat} {v : Value} {xs : List Value} {cs : Array Value} (hown : w.ownsRow B 33 4 v n xs) (hb : Blk w lb 63 cs) (hg : w.grownBy w' v.ownBlock) : Blk w' lb 63 cs :=
  (hg.block lb hb.lt (fun e => own_ne hown hb (by decide) e.symm)).trans hb

theorem AtrsAt.ok {w : World} {B : Nat} {v : Value} {l : List Atr} (h : AtrsAt w B v l) : l.length ≤ 4398046511104 ∧ ∀ x ∈ l, AtrOk x := by
  obtain ⟨ad, c, _, _, h1, h2, _⟩ := h
  exact ⟨h1, h2⟩
theorem put_done {w w1 w3 : World} {B lb n na : Nat} {rd ua va3 : Option Addr} {rc uc vc3 : Nat} {ps : List (Ent × Value)} {mk : Bool} {id : Int} {nm : ByteArray} {l : List Atr} {o o' : Obj}
    (hn : ps.length = n) (hna : l.length = na) (hl : n < 1000000) (h : ListAt w B lb 63 33 (.slice rd n rc) ps) (hown : w1.ownsRow (w.alloc o).drew.heap.size 60 2 (.slice ua na uc) na (flatA l)) (hbel : Below (w.alloc o).drew.heap.size (w.alloc o).drew w1)
    (hown3 : w3.ownsRow B 33 4 (.slice va3 (n + 1) vc3) (n + 1) (flatP ps ++ [.bool mk, i64 id, .string nm, .slice ua na uc])) (hgrow : (w1.alloc o').grownBy w3 (Value.slice rd n rc).ownBlock) (hok : l.length ≤ 4398046511104 ∧ ∀ x ∈ l, AtrOk x) :
    ∃ v' va', ListAt (w3.setCell ⟨lb, 0, none⟩ (.slice va3 (n + 1) vc3)) B lb 63 33 v' (ps ++ [(⟨mk, id, nm, l⟩, va')]) ∧ (w3.setCell ⟨lb, 0, none⟩ (.slice va3 (n + 1) vc3)).ownsRow w.heap.size 60 2 va' l.length (flatA l) ∧ Fr B LK w (w3.setCell ⟨lb, 0, none⟩ (.slice va3 (n + 1) vc3)) := by
  have hrow := put_own (o' := o') h hn hbel
  have F0 : Fr B K33 w w1 := (((Fr.refl B K33 w).alloc o).drew).trans (Fr.of_below hbel B K33)
  have F1 := (F0.alloc o').trans (grown_fr hgrow hrow)
  have hb3 : Blk w3 lb 63 #[.slice rd n rc] := F1.blk h.1 (.inr rfl)
  have F2 : Fr B LK w (w3.setCell ⟨lb, 0, none⟩ (.slice va3 (n + 1) vc3)) := (F1.mono (Nat.le_refl _) k33_lk).setCell hb3 rfl h.2.1 0 _
  have F3 : Fr B K33 w1 w3 := ((Fr.refl B K33 w1).alloc o').trans (grown_fr hgrow hrow)
  have hua := own_setCell (F3.own hown (fun _ _ => rfl)) hb3 (by decide) 0 (.slice va3 (n + 1) vc3)
  subst hna
  refine ⟨.slice va3 (n + 1) vc3, .slice ua l.length uc, ⟨hb3.put 0 _, h.2.1, ?_, ?_, ?_⟩, own_mono hua (by simp), F2⟩
  · have := own_setCell hown3 hb3 (by decide) 0 (.slice va3 (n + 1) vc3)
    rw [flatP_append]
    simpa [hn, flatP] using this
  · simp; omega
  · intro p hp
    rcases List.mem_append.1 hp with hp | hp
    · exact (h.2.2.2.2 p hp).fr F2 (Nat.le_refl _) (fun _ _ => rfl)
    · obtain rfl := List.mem_singleton.1 hp
      exact AtrsAt.of_own hua hok.1 hok.2

set_option maxHeartbeats 4000000 in
theorem put_end {w : World} {B lb : Nat} {v va : Value} {ps : List (Ent × Value)} {mk : Bool} {id : Int} {nm : ByteArray} {l : List Atr} (h : ListAt w B lb 63 33 v ps) (hl : ps.length < 1000000) (ha : AtrsAt w B va l) :
    Calls Try.prog 44 #[ptr lb, i64 ps.length, .agg #[.bool mk, i64 id, .string nm, va]] w (PutE B lb ps ⟨mk, id, nm, l⟩ w) := by
  have H := Lib.hid (And.intro h ha)
  obtain ⟨hb, hB, hrow⟩ := h
  obtain ⟨ad, c, rfl⟩ := ha.form
  obtain ⟨n, hn⟩ : ∃ n, ps.length = n := ⟨_, rfl⟩
  obtain ⟨na, hna⟩ : ∃ na, l.length = na := ⟨_, rfl⟩
  obtain ⟨rd, rc, hv⟩ := own_slice hrow.1
  subst hv
  have hbox := Blk.new w 33 #[.bool mk, i64 id, .string nm, .slice ad l.length c]
  have hlist := hb.alloc (.cells #[.bool mk, i64 id, .string nm, .slice ad l.length c] 33)
  have hlb := hb.lt
  have l0 := Blk.cell hlist 0 (.slice rd ps.length rc) rfl
  have lf := Blk.fro hlist 0
  have b0 := Blk.cell hbox 0 (.bool mk) rfl
  have b1 := Blk.cell hbox 1 (i64 id) rfl
  have b2 := Blk.cell hbox 2 (.string nm) rfl
  have b3 := Blk.cell hbox 3 (.slice ad l.length c) rfl
  rw [hn] at hl l0 H hlist ⊢
  rw [hna] at l0 lf b0 b1 b2 b3 hbox hlist H ⊢
  have HB := Lib.hid (And.intro hbox hlist)
  have HN := Lib.hid (And.intro hn hna)
  clear hb hrow ha hbox hlist hn hna
  go_enter Try.func44, Try.ntmps44
  go_wp2_with fail
  go_region_with (first
    | (go_at_call 35; (with_reducible refine (copied_n (mk := mk) (id := id) (nm := nm) (H.out.2.below ((Below.refl _ w).alloc (Nat.le_refl _) _).drew) HN.out.2).mono ?_); rintro e w1 ⟨ua, uc, rfl, hown, hbel⟩; have q0 := (hbel.cell (p := ⟨lb, 0, none⟩) (Nat.lt_of_lt_of_le hlb (by simp))).trans l0; have qlt : lb < w1.heap.size := Nat.lt_of_lt_of_le (Nat.lt_of_lt_of_le hlb (by simp)) hbel.size; have q1 := (((Below.refl w1.heap.size w1).alloc (Nat.le_refl _) (.cells #[.bool mk, i64 id, .string nm, .slice ua na uc] 33)).cell (p := ⟨lb, 0, none⟩) qlt).trans q0; have HO := Lib.hid (And.intro hown hbel); clear hown hbel)
    | (go_at_call 53; (with_reducible refine (insert_end (put_own H.out.1 HN.out.1 HO.out.2) (by omega) (put_base H.out.1 HO.out.2) (mk := mk) (id := id) (nm := nm) (a4 := ua) (n4 := na) (c4 := uc) ((Blk.new _ _ _).cell 0 _ rfl) ((Blk.new _ _ _).cell 1 _ rfl) ((Blk.new _ _ _).cell 2 _ rfl) ((Blk.new _ _ _).cell 3 _ rfl)).mono ?_); rintro e w3 ⟨v3, rfl, hown3, hgrow⟩; obtain ⟨va3, vc3, rfl⟩ := own_slice hown3; have hk := put_kept (put_own H.out.1 HN.out.1 HO.out.2) (put_list HB.out.2 HO.out.2) hgrow; have z0 := hk.cell 0 (.slice rd n rc) rfl; have zf := hk.fro 0; clear hk; have HG := Lib.hid (And.intro hown3 hgrow); clear hown3 hgrow))
  all_goals go_end0
  all_goals exact ⟨rfl, put_done HN.out.1 HN.out.2 hl H.out.1 HO.out.1 HO.out.2 HG.out.1 HG.out.2 (H.out.2.ok)⟩
end Go.Proofs.Ytjopfgdgmniigaa
