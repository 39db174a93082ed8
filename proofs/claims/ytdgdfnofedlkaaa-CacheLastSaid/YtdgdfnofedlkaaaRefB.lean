/-
  The document's cache (rectoref33), walked: a text dropped.
  Written by an AI agent.
-/
import Derived.Test.YtdgdfnofedlkaaaRefA
namespace Go.Proofs.Ytdgdfnofedlkaaa
open Go.RowKit Go.Maps

/-- What the document's cache's methods may turn. -/
abbrev RK : Obj → Bool := kinds [32] false
theorem info40 : (Try.prog.info? 40).map (fun i => (i.zero, i.size, i.bytes)) = some (some (.agg #[.int .i64 0, .string ⟨#[]⟩]), 2, 24) := by kernel_rfl

theorem flat_one (st : List Txt) : ∀ u ∈ flat st, u.oneCell' = true := by
  induction st with
  | nil => simp [flat]
  | cons x r ih =>
    intro u hu
    simp only [flat, List.mem_cons] at hu
    rcases hu with rfl | rfl | hu
    · rfl
    · rfl
    · exact ih u hu

/-- The cells of a part of a row lie where a cut of it points. -/
theorem row_cells {w : World} {B : Nat} {v : Value} {st A C : List Txt} {g cap : Nat} (h : w.ownsRow B 40 2 v st.length (flat st)) (hv : v = .slice (some ⟨g, 0, none⟩) st.length cap) (hst : st = A ++ C) :
    ∀ j u, (flat C)[j]? = some u → w.cell? ⟨g, A.length * 2 + j, none⟩ = some u := by
  intro j u hu
  subst hv hst
  have hc := h.cells (g := g) rfl (A.length * 2 + j) u (by rw [flat_append, List.getElem?_append_right (by rw [flat_length]; omega), flat_length]; rw [show A.length * 2 + j - A.length * 2 = j from by omega]; exact hu)
  have e : (⟨g, 0, none⟩ : Addr).add (A.length * 2 + j) = ⟨g, A.length * 2 + j, none⟩ := by unfold Addr.add; split <;> simp_all
  rw [e] at hc
  exact hc

/-- A row rebuilt by two appends, stored in the field. -/
theorem rebuilt {w w2 w3 : World} {B rb n1 n2 : Nat} {most bytes hits misses : Int} {st' : List Txt} {v v1 v2 : Value} {xs : List Value} (hb : Blk w rb 32 #[i64 most, i64 bytes, v, i64 hits, i64 misses]) (hB : B ≤ rb)
    (hbel : Below w.heap.size w w2) (h1 : w2.ownsRow w.heap.size 40 2 v1 n1 xs) (hg : w2.grownBy w3 v1.ownBlock) (h2 : w3.ownsRow w.heap.size 40 2 v2 n2 (flat st')) (hn : n2 = st'.length) (hl : st'.length ≤ 1000000) :
    Blk w3 rb 32 #[i64 most, i64 bytes, v, i64 hits, i64 misses] ∧ RefAt (w3.setCell ⟨rb, 2, none⟩ v2) B rb most bytes st' hits misses v2 ∧ Fr B RK w (w3.setCell ⟨rb, 2, none⟩ v2) := by
  subst hn
  have hbel3 : Below w.heap.size w w3 := hbel.grown hg hbel.size (fun k hk => (own_kind h1 k hk).1)
  have b3 : Blk w3 rb 32 #[i64 most, i64 bytes, v, i64 hits, i64 misses] := (hbel3.block rb hb.lt).trans hb
  have := hb.lt
  exact ⟨b3, ⟨b3.put 2 v2, own_mono (own_setCell h2 b3 (by decide) 2 v2) (by omega), hB, hl⟩, (Fr.of_below hbel3 B RK).setCell b3 rfl hB 2 v2⟩

set_option maxHeartbeats 2000000 in
theorem rdrop_yes {w : World} {B rb : Nat} {most bytes hits misses : Int} {A C : List Txt} {x : Txt} {v : Value} (h : RefAt w B rb most bytes (A ++ x :: C) hits misses v) (hno : x.1 ∉ A.map (·.1)) :
    Calls Try.prog 22 #[ptr rb, i64 x.1] w fun e w' => e = .returned (.bool true) ∧ (∃ v', RefAt w' B rb most bytes (A ++ C) hits misses v') ∧ Fr B RK w w' := by
  have H := Lib.hid h
  obtain ⟨hb, hrow, hB, hlen⟩ := h
  rcases row_form hrow with ⟨_, he⟩ | ⟨g, cap, rfl, hnc, hcm, hBg, hg, hcell⟩
  · simp at he
  have c2 := hb.cell 2 (.slice (some ⟨g, 0, none⟩) (A ++ x :: C).length cap) rfl
  have f2 := hb.fro 2
  have hrb := hb.lt
  unfold maxLen at hcm
  have HB := Lib.hid hb
  have HR := Lib.hid hrow
  have HNO := Lib.hid hno
  have ha : (A ++ x :: C).length = A.length + (C.length + 1) := by simp
  rw [ha] at c2 hnc hlen
  have HA := Lib.hid ha
  obtain ⟨id, hid⟩ : ∃ id, x.1 = id := ⟨_, rfl⟩
  have HI := Lib.hid hid
  rw [hid]
  obtain ⟨i0, hi, hz0, hz1, hz2⟩ := info_parts info40
  clear hcell hb hrow ha hno hid
  have hat : Calls Try.prog 27 #[ptr rb, i64 id] w fun e w' => e = .returned (i64 A.length) ∧ Below w.heap.size w w' := by
    have := at_yes H.out HNO.out
    rw [HI.out] at this
    exact this
  have HAT := Lib.hid hat
  have hnewsA : ∀ j u, (flat A)[j]? = some u → w.cell? ⟨g, j, none⟩ = some u := by
    intro j u hu
    have hc := HR.out.cells (g := g) rfl j u (by rw [flat_append, List.getElem?_append_left (by rw [flat_length]; have := (List.getElem?_eq_some_iff.1 hu).1; rw [flat_length] at this; omega)]; exact hu)
    have e : (⟨g, 0, none⟩ : Addr).add j = ⟨g, j, none⟩ := by unfold Addr.add; split <;> simp_all
    rw [e] at hc
    exact hc
  have hnewsC : ∀ j u, (flat C)[j]? = some u → w.cell? ⟨g, (A.length + 1) * 2 + j, none⟩ = some u := by
    have := row_cells (A := A ++ [x]) (C := C) HR.out rfl (by simp)
    simpa using this
  have HNA := Lib.hid hnewsA
  have HNC := Lib.hid hnewsC
  clear hat hnewsA hnewsC
  go_enter Try.func22, Try.ntmps22
  go_wp2_with (first
    | (go_at_call 27; (with_reducible refine HAT.out.mono ?_); rintro e w1 ⟨rfl, hbel⟩; have d2 := (hbel.cell (p := ⟨rb, 2, none⟩) hrb).trans c2)
    | (at_builtin; refine wpList_append_own _ rfl (.tmp 12) (.tmp 18) 30 rfl w.heap.size 40 i0 _ 2 24 Try.underlying30 hi hz0 hz1 hz2 rfl (by decide) _ _ _ rfl (World.ownsRow_nil _ _ _ _) ⟨g, 0, none⟩ A.length cap (flat A) rfl (flat_length A) ?c1 (flat_one A) ?c3 ?c4 ?c5 ?_))
  case c1 => 
    intro j u hu
    have e : (⟨g, 0, none⟩ : Addr).add j = ⟨g, j, none⟩ := by unfold Addr.add; split <;> simp_all
    rw [e]
    exact (hbel.cell (p := ⟨g, j, none⟩) hg).trans (HNA.out j u hu)
  case c3 => unfold maxLen; omega
  case c4 => omega
  case c5 => exact hbel.size
  intro v1 w2 hown1 hgrow1 _
  have hbel2 : Below w.heap.size w w2 := hbel.grown hgrow1 hbel.size (by intro k hk; cases hk)
  have d2' := (hbel2.cell (p := ⟨rb, 2, none⟩) hrb).trans c2
  have hl2 : ∀ j u, (flat C)[j]? = some u → w2.cell? ⟨g, (A.length + 1) * 2 + j, none⟩ = some u := fun j u hu => (hbel2.cell (p := ⟨g, (A.length + 1) * 2 + j, none⟩) hg).trans (HNC.out j u hu)
  have HL2 := Lib.hid hl2
  have HO1 := Lib.hid hown1
  have hm : A.length + (C.length + 1) - (A.length + 1) = C.length := by omega
  have HM := Lib.hid hm
  clear hl2 hgrow1 hm
  by_cases hcap : cap = A.length + 1
  · have hC : C = [] := by
      apply List.eq_nil_of_length_eq_zero
      omega
    have HC := Lib.hid hC
    clear hC
    go_wp2_with (at_builtin; refine wpList_append_own _ rfl (.tmp 20) (.tmp 27) 30 rfl w.heap.size 40 i0 _ 2 24 Try.underlying30 hi hz0 hz1 hz2 rfl (by decide) _ _ _ rfl HO1.out _ _ _ (flat C) rfl ?d0 ?d1 (flat_one C) ?d3 ?d4 ?d5 ?_)
    case d0 => rw [flat_length, HM.out]
    case d1 => rw [HC.out]; intro j u hu; simp [flat] at hu
    case d3 => rw [HM.out]; unfold maxLen; omega
    case d4 => rw [HM.out]; omega
    case d5 => exact hbel2.size
    intro v2 w3 hown2 hgrow2 _
    obtain ⟨ad2, cp2, rfl⟩ := own_slice hown2
    have gm := rebuilt (st' := A ++ C) HB.out hB hbel2 HO1.out hgrow2 (by rw [flat_append]; exact hown2) (by rw [HM.out]; simp) (by simp; omega)
    have c3 := gm.1.cell 2 (.slice (some ⟨g, 0, none⟩) (A ++ x :: C).length cap) rfl
    have f3 := gm.1.fro 2
    have HG := Lib.hid gm
    clear gm hown2 hgrow2
    go_wp2
    go_ret
    exact ⟨rfl, ⟨_, HG.out.2.1⟩, HG.out.2.2⟩
  · go_wp2_with (at_builtin; refine wpList_append_own _ rfl (.tmp 20) (.tmp 27) 30 rfl w.heap.size 40 i0 _ 2 24 Try.underlying30 hi hz0 hz1 hz2 rfl (by decide) _ _ _ rfl HO1.out _ _ _ (flat C) rfl ?e0 ?e1 (flat_one C) ?e3 ?e4 ?e5 ?_)
    case e0 => rw [flat_length, HM.out]
    case e1 =>
      intro j u hu
      have e : (⟨g, (A.length + 1) * 2, none⟩ : Addr).add j = ⟨g, (A.length + 1) * 2 + j, none⟩ := by unfold Addr.add; split <;> simp_all
      rw [e]
      exact HL2.out j u hu
    case e3 => rw [HM.out]; unfold maxLen; omega
    case e4 => rw [HM.out]; omega
    case e5 => exact hbel2.size
    intro v2 w3 hown2 hgrow2 _
    obtain ⟨ad2, cp2, rfl⟩ := own_slice hown2
    have gm := rebuilt (st' := A ++ C) HB.out hB hbel2 HO1.out hgrow2 (by rw [flat_append]; exact hown2) (by rw [HM.out]; simp) (by simp; omega)
    have c3 := gm.1.cell 2 (.slice (some ⟨g, 0, none⟩) (A ++ x :: C).length cap) rfl
    have f3 := gm.1.fro 2
    have HG := Lib.hid gm
    clear gm hown2 hgrow2
    go_wp2
    go_ret
    exact ⟨rfl, ⟨_, HG.out.2.1⟩, HG.out.2.2⟩

theorem rdrop_no {w : World} {B rb : Nat} {most bytes hits misses : Int} {st : List Txt} {v : Value} (h : RefAt w B rb most bytes st hits misses v) (id : Int) (hno : id ∉ st.map (·.1)) :
    Calls Try.prog 22 #[ptr rb, i64 id] w fun e w' => e = .returned (.bool false) ∧ Below w.heap.size w w' := by
  have H := Lib.hid h
  have HNO := Lib.hid hno
  clear h hno
  go_enter Try.func22, Try.ntmps22
  go_wp2_with (go_at_call 27; (with_reducible refine (at_no H.out id HNO.out).mono ?_); rintro e w1 ⟨rfl, hbel⟩)
  go_ret
  exact ⟨rfl, hbel⟩

theorem RefAt.below {w w' : World} {B rb : Nat} {most bytes hits misses : Int} {st : List Txt} {v : Value} (h : RefAt w B rb most bytes st hits misses v) (hb : Below w.heap.size w w') : RefAt w' B rb most bytes st hits misses v := by
  obtain ⟨h1, h2, h3, h4⟩ := h
  refine ⟨(hb.block rb h1.lt).trans h1, ⟨h2.1, ?_⟩, h3, h4⟩
  rcases h2.2 with hn | ⟨g, cap, cur, rfl, hbg, hg, rest⟩
  · exact .inl hn
  · exact .inr ⟨g, cap, cur, rfl, hbg, (hb.block g (Array.getElem?_eq_some_iff.1 hg).1).trans hg, rest⟩
theorem RefAt.fr {w w' : World} {B B' rb : Nat} {T : Obj → Bool} {most bytes hits misses : Int} {st : List Txt} {v : Value} (h : RefAt w B rb most bytes st hits misses v) (hb : Fr B' T w w') (h32 : ∀ cs fr, T (.cells cs 32 fr) = false) (h40 : ∀ cs fr, T (.cells cs 40 fr) = false) :
    RefAt w' B rb most bytes st hits misses v := ⟨hb.blk h.1 (.inr (h32 _ _)), hb.own h.2.1 h40, h.2.2⟩

def Ref (w : World) (B rb : Nat) (most bytes : Int) (st : List Txt) (hits misses : Int) : Prop := ∃ v, RefAt w B rb most bytes st hits misses v

theorem has_split {id : Int} {st : List Txt} (h : id ∈ st.map (·.1)) : ∃ A x C, st = A ++ x :: C ∧ x.1 = id ∧ id ∉ A.map (·.1) ∧ drp id st = A ++ drp id C := by
  induction st with
  | nil => simp at h
  | cons y r ih =>
    by_cases e : y.1 = id
    · refine ⟨[], y, r, rfl, e, by simp, ?_⟩
      simp [drp, e]
    · have hr : id ∈ r.map (·.1) := by
        simp only [List.map_cons, List.mem_cons] at h
        exact h.resolve_left (fun h => e h.symm)
      obtain ⟨A, x, C, rfl, hx, hA, hd⟩ := ih hr
      refine ⟨y :: A, x, C, rfl, hx, by simp [hA, Ne.symm e], ?_⟩
      have : drp id (y :: (A ++ x :: C)) = y :: drp id (A ++ x :: C) := by simp [drp, e]
      rw [this, hd]; rfl

/-- The document's Drop, over texts of different IDs. -/
theorem rdrop_any {w : World} {B rb : Nat} {most bytes hits misses : Int} {st : List Txt} (h : Ref w B rb most bytes st hits misses) (hn : (st.map (·.1)).Nodup) (id : Int) :
    Calls Try.prog 22 #[ptr rb, i64 id] w fun e w' => e = .returned (.bool (hasB id st)) ∧ Ref w' B rb most bytes (drp id st) hits misses ∧ Fr B RK w w' := by
  obtain ⟨v, h⟩ := h
  by_cases hid : id ∈ st.map (·.1)
  · obtain ⟨A, x, C, rfl, rfl, hA, _⟩ := has_split hid
    rw [hasB_iff.2 hid, drp_mid hn]
    exact rdrop_yes h hA
  · rw [hasB_false.2 hid, drp_none hid]
    exact (rdrop_no h id hid).mono fun e w' ⟨he, hb⟩ => ⟨he, ⟨v, h.below hb⟩, Fr.of_below hb _ _⟩

set_option maxHeartbeats 2000000 in
/-- 'front': a text is put ahead of all others. -/
theorem front_any {w : World} {B rb : Nat} {most bytes hits misses : Int} {st : List Txt} (h : Ref w B rb most bytes st hits misses) (x : Txt) (hlen : st.length < 1000000) :
    Calls Try.prog 26 #[ptr rb, .agg #[i64 x.1, .string x.2]] w fun e w' => e = .returned (.tuple #[]) ∧ Ref w' B rb most bytes (x :: st) hits misses ∧ Fr B RK w w' := by
  obtain ⟨v, h⟩ := h
  have H := Lib.hid h
  obtain ⟨hb, hrow, hB, _⟩ := h
  have hrb := hb.lt
  have f2 := hb.fro 2
  obtain ⟨id, s⟩ := x
  obtain ⟨i0, hi, hz0, hz1, hz2⟩ := info_parts info40
  have HB := Lib.hid hb
  rcases row_form hrow with ⟨rfl, rfl⟩ | ⟨g, cap, rfl, hnc, hcm, hBg, hg, hcell⟩
  · have c2 := hb.cell 2 (.slice none 0 0) rfl
    clear hb hrow
    go_enter Try.func26, Try.ntmps26
    go_wp2
    go_end0
    have hB' := HB.out
    have b1 := (hB'.put 2 (.slice (some ⟨w.heap.size + 1, 0, none⟩) 1 1)).alloc (.cells #[i64 id, .string s] 40)
    have n1 := Blk.new ((w.setCell ⟨rb, 2, none⟩ (.slice (some ⟨w.heap.size + 1, 0, none⟩) 1 1)).alloc (.cells #[i64 id, .string s] 40)) 40 #[i64 id, .string s]
    have hs : ((w.setCell ⟨rb, 2, none⟩ (.slice (some ⟨w.heap.size + 1, 0, none⟩) 1 1)).alloc (.cells #[i64 id, .string s] 40)).heap.size = w.heap.size + 1 := by simp
    rw [hs] at n1
    refine ⟨rfl, ⟨_, b1.alloc _, ⟨by simp [flat], .inr ⟨w.heap.size + 1, 1, #[i64 id, .string s], rfl, by omega, n1, by simp, by unfold maxLen; omega, rfl, by simp [flat]⟩⟩, hB, by simp⟩, ?_⟩
    exact (((Fr.refl B RK w).setCell hB' rfl hB 2 _).alloc _).alloc _
  · have c2 := hb.cell 2 (.slice (some ⟨g, 0, none⟩) st.length cap) rfl
    have hnews : ∀ j u, (flat st)[j]? = some u → w.cell? ⟨g, j, none⟩ = some u := by
      intro j u hu
      have hc := hrow.cells (g := g) rfl j u hu
      have e : (⟨g, 0, none⟩ : Addr).add j = ⟨g, j, none⟩ := by unfold Addr.add; split <;> simp_all
      rw [e] at hc
      exact hc
    have n1 := Blk.new (w.alloc (.cells #[i64 id, .string s] 40)) 40 #[i64 id, .string s]
    have hs : (w.alloc (.cells #[i64 id, .string s] 40)).heap.size = w.heap.size + 1 := by simp
    rw [hs] at n1
    have own1 : ((w.alloc (.cells #[i64 id, .string s] 40)).alloc (.cells #[i64 id, .string s] 40)).ownsRow w.heap.size 40 2 (.slice (some ⟨w.heap.size + 1, 0, none⟩) 1 1) 1 [i64 id, .string s] :=
      ⟨by simp, .inr ⟨w.heap.size + 1, 1, #[i64 id, .string s], rfl, by omega, n1, by simp, by unfold maxLen; omega, rfl, by simp⟩⟩
    have hbel : Below w.heap.size w ((w.alloc (.cells #[i64 id, .string s] 40)).alloc (.cells #[i64 id, .string s] 40)) := ((Below.refl _ w).alloc (Nat.le_refl _) _).alloc (by simp) _
    have HO1 := Lib.hid own1
    have HBE := Lib.hid hbel
    have HN := Lib.hid hnews
    clear hb hcell hrow hnews own1 n1 hs hbel
    go_enter Try.func26, Try.ntmps26
    go_wp2_with (at_builtin; refine wpList_append_own _ rfl (.tmp 7) (.tmp 11) 30 rfl w.heap.size 40 i0 _ 2 24 Try.underlying30 hi hz0 hz1 hz2 rfl (by decide) _ _ _ rfl HO1.out _ _ _ (flat st) rfl (flat_length st) ?d1 (flat_one st) ?d3 ?d4 ?d5 ?_)
    case d1 =>
      intro j u hu
      have e : (⟨g, 0, none⟩ : Addr).add j = ⟨g, j, none⟩ := by unfold Addr.add; split <;> simp_all
      rw [e]
      exact (HBE.out.cell (p := ⟨g, j, none⟩) hg).trans (HN.out j u hu)
    case d3 => unfold maxLen; omega
    case d4 => omega
    case d5 => exact HBE.out.size
    intro v2 w3 hown2 hgrow2 _
    obtain ⟨ad2, cp2, rfl⟩ := own_slice hown2
    have gm := rebuilt (st' := (id, s) :: st) HB.out hB HBE.out HO1.out hgrow2 (by simpa [flat] using hown2) (by simp; omega) (by simp; omega)
    have c3 := gm.1.cell 2 (.slice (some ⟨g, 0, none⟩) st.length cap) rfl
    have f3 := gm.1.fro 2
    have HG := Lib.hid gm
    clear gm hown2 hgrow2
    go_wp2
    go_end0
    exact ⟨rfl, ⟨_, HG.out.2.1⟩, HG.out.2.2⟩

end Go.Proofs.Ytdgdfnofedlkaaa
