/-
  The cache's methods, walked: a text dropped; the counts; a new cache; what a nil cache answers.
  Written by an AI agent.
-/
import Derived.Test.YtdgdfnofedlkaaaWalksA
namespace Go.Proofs.Ytdgdfnofedlkaaa
open Go.RowKit Go.Maps

/-- Memory behind 'out' and 'delete', ahead of the sum. -/
theorem gone_mem {w w1 w2 w3 : World} {B cb mb rb b : Nat} {most bytes hits misses : Int} {st : List Txt} {A C : List Nat} {tx : Nat → Int × ByteArray} {pv nx : Nat → Nat} {M M' : List (Value × Value)}
    (h : CacheAt Try.prog w B cb most bytes st hits misses mb rb (A ++ b :: C) tx pv nx M)
    (hl : Like w1 ((w.setCell ⟨pv b, 3, none⟩ (ptr (nx b))).setCell ⟨nx b, 2, none⟩ (ptr (pv b))))
    (hm : MapIs Try.prog 3 w2 mb M') (hp : M.Perm ((i64 (tx b).1, ptr b) :: M')) (ho : OnlyMap w1.drew w2 mb)
    (hl2 : Like w3 (w2.setCell ⟨cb, 4, none⟩ (i64 (tot st - (tx b).2.size)))) :
    Cache Try.prog w3 B cb most bytes (A.map tx ++ C.map tx) hits misses ∧ Fr B CK w w3 := by
  obtain ⟨o1, o2, o3, o4⟩ := h.out hl
  have R := h.ring.out
  have k1 := ho.blk (o1.drew)
  have e1 : st = A.map tx ++ tx b :: C.map tx := by rw [← h.text]; simp
  have k2 := (k1.put 4 (i64 (tot st - (tx b).2.size))).heap hl2.1
  have hper : M'.Perm ((A ++ C).map fun b => (i64 (tx b).1, ptr b)) := by
    have hq := hp.symm.trans h.perm
    rw [List.map_append, List.map_cons] at hq
    have := hq.trans List.perm_middle
    rw [← List.map_append] at this
    exact (List.perm_cons _).1 this
  refine ⟨⟨mb, rb, A ++ C, tx, _, _, M', ?_, (hm.setCell k1 4 _).heap hl2.1, hper, R, fun c hc => ?_, by simp, fun x hx => h.ids x ?_, ?_, ?_⟩, ?_⟩
  · rw [show tot (A.map tx ++ C.map tx) = tot st - (tx b).2.size from by rw [e1, tot_mid]; omega]
    exact k2
  · have hc0 := (o3 c (out_sub c hc)).drew
    exact ((ho.blk hc0).far (p := ⟨cb, 4, none⟩) ((ho.blk hc0).ne k1 (by decide)) _).heap hl2.1
  · rw [e1]
    simp only [List.mem_append, List.mem_cons] at hx ⊢
    rcases hx with hx | hx <;> simp [hx]
  · exact ⟨h.base.1, h.base.2.1, fun c hc => h.base.2.2 c (out_sub c hc)⟩
  · have hf := h.fits
    rw [e1, tot_mid] at hf
    simp only [List.length_append, List.length_cons] at hf ⊢
    exact ⟨by omega, by omega, hf.2.2⟩
  · exact ((ho.fr o4.drew h.base.2.1 (fun _ _ => rfl)).setCell k1 rfl h.base.1 4 _).like hl2

def GoneIt (B cb : Nat) (most bytes : Int) (hits misses : Int) (st : List Txt) (w : World) (e : Ending) (w' : World) : Prop :=
  e = .returned (.tuple #[]) ∧ Cache Try.prog w' B cb most bytes st hits misses ∧ Fr B CK w w'

set_option maxHeartbeats 2000000 in
theorem gone_any {w : World} {B cb mb rb b : Nat} {most bytes hits misses : Int} {st : List Txt} {A C : List Nat} {tx : Nat → Int × ByteArray} {pv nx : Nat → Nat} {M : List (Value × Value)}
    (h : CacheAt Try.prog w B cb most bytes st hits misses mb rb (A ++ b :: C) tx pv nx M) :
    Calls Try.prog 23 #[ptr cb, ptr b] w (GoneIt B cb most bytes hits misses (A.map tx ++ C.map tx) w) := by
  have hw := h.ids (tx b) (by rw [← h.text]; exact List.mem_map.2 ⟨b, by simp, rfl⟩)
  have HM := Lib.hid (h.perm.mem_iff.2 (List.mem_map.2 ⟨b, by simp, rfl⟩))
  have e1 : st = A.map tx ++ tx b :: C.map tx := by rw [← h.text]; simp
  have s0 : ((tx b).2.size : Int) ≤ tot st := by rw [e1, tot_mid]; have := tot_nonneg (A.map tx ++ C.map tx); omega
  have s1 : tot st ≤ 65536 := by have := h.fits; omega
  obtain ⟨T, hT⟩ : ∃ T, tot st = T := ⟨_, rfl⟩
  obtain ⟨s, hs⟩ : ∃ s, (tx b).2 = s := ⟨_, rfl⟩
  obtain ⟨id, hid⟩ : ∃ id, (tx b).1 = id := ⟨_, rfl⟩
  rw [hT, hs] at s0
  rw [hT] at s1
  have HW := Lib.hid hw
  have H := Lib.hid h
  have HT := Lib.hid hT
  have HS := Lib.hid hs
  have HI := Lib.hid hid
  clear h hw hT hs hid e1
  go_enter Try.func23, Try.ntmps23
  go_wp2_with (go_at_call 25; (with_reducible refine (out_any H.out.ring H.out.nodes).mono ?_); rintro e w1 ⟨rfl, hl⟩; have HL := Lib.hid hl; obtain ⟨o1, o2, o3, o4⟩ := H.out.out hl; clear hl o4; obtain ⟨w2, M', hrun, hmap, hperm, honly⟩ := (o2.drew).delete_ K3 Try.underlying51 0 (keyOf_int_mk Try.underlying3 HW.out) HM.out; have q1 := honly.blk o1.drew; have q2 := honly.blk (o3 b (by simp)).drew; rw [HI.out, HS.out] at q2; have c2 := o1.cell 2 (.map (some mb)) rfl; have b0 := (o3 b (by simp)).cell 0 (i64 id) (by rw [HI.out]; rfl); rw [HI.out] at hrun; have c4 := q1.cell 4 (i64 T) (by rw [HT.out]; rfl); have f4 := q1.fro 4; have b1 := q2.cell 1 (.string s) rfl; have HX := Lib.hid (And.intro hmap (And.intro hperm honly)); clear o1 o2 o3 hmap hperm honly q1 q2)
  go_region
  go_wp2
  go_region
  all_goals go_end0
  all_goals exact ⟨rfl, gone_mem H.out HL.out HX.out.1 HX.out.2.1 HX.out.2.2 (by rw [HT.out, HS.out]; exact ⟨rfl, rfl, rfl, rfl⟩)⟩

/-- Drop, of an ID that is there. -/
theorem drop_yes {w : World} {B cb mb rb b : Nat} {most bytes hits misses : Int} {st : List Txt} {A C : List Nat} {tx : Nat → Int × ByteArray} {pv nx : Nat → Nat} {M : List (Value × Value)}
    (h : CacheAt Try.prog w B cb most bytes st hits misses mb rb (A ++ b :: C) tx pv nx M) :
    Calls Try.prog 17 #[ptr cb, i64 (tx b).1] w fun e w' => e = .returned (.bool true) ∧ Cache Try.prog w' B cb most bytes (A.map tx ++ C.map tx) hits misses ∧ Fr B CK w w' := by
  have hw := h.ids (tx b) (by rw [← h.text]; exact List.mem_map.2 ⟨b, by simp, rfl⟩)
  have hlk := h.map.look K3 Try.underlying51 (keyOf_int_mk Try.underlying3 hw) (h.perm.mem_iff.2 (List.mem_map.2 ⟨b, by simp, rfl⟩)) true
  simp only [if_true] at hlk
  have c2 := h.blk.cell 2 (.map (some mb)) rfl
  have H := Lib.hid h
  obtain ⟨id, hid⟩ : ∃ id, (tx b).1 = id := ⟨_, rfl⟩
  rw [hid] at hlk ⊢
  clear h hw hid
  go_enter Try.func17, Try.ntmps17
  go_wp2_with (go_at_call 23; (with_reducible refine (gone_any H.out).mono ?_); rintro e w1 ⟨rfl, hg⟩; have HG := Lib.hid hg; clear hg)
  go_ret
  exact ⟨rfl, HG.out⟩

/-- Drop, of an ID that is not there. -/
theorem drop_no {w : World} {B cb mb rb : Nat} {most bytes hits misses : Int} {st : List Txt} {L : List Nat} {tx : Nat → Int × ByteArray} {pv nx : Nat → Nat} {M : List (Value × Value)}
    (h : CacheAt Try.prog w B cb most bytes st hits misses mb rb L tx pv nx M) (id : Int) (hw : (Lit.int .i64 id).wf = true) (hno : id ∉ st.map (·.1)) :
    Calls Try.prog 17 #[ptr cb, i64 id] w fun e w' => e = .returned (.bool false) ∧ w = w' := by
  have hlk := h.map.look_no K3 Try.underlying51 (zero52 w) (keyOf_int_mk Try.underlying3 hw) (by rw [h.mem_key]; exact hno) true
  simp only [if_true] at hlk
  have c2 := h.blk.cell 2 (.map (some mb)) rfl
  clear h hw hno
  go_enter Try.func17, Try.ntmps17
  go_wp2
  go_ret
  exact ⟨rfl, rfl⟩

theorem drop_any {w : World} {B cb : Nat} {most bytes hits misses : Int} {st : List Txt} (h : Cache Try.prog w B cb most bytes st hits misses) (id : Int) (hw : (Lit.int .i64 id).wf = true) :
    Calls Try.prog 17 #[ptr cb, i64 id] w fun e w' => e = .returned (.bool (hasB id st)) ∧ Cache Try.prog w' B cb most bytes (drp id st) hits misses ∧ Fr B CK w w' := by
  obtain ⟨mb, rb, L, tx, pv, nx, M, h⟩ := h
  by_cases hid : id ∈ st.map (·.1)
  · obtain ⟨A, b, C, rfl, rfl, _⟩ := h.node_of hid
    rw [hasB_iff.2 hid]
    have e1 : st = A.map tx ++ tx b :: C.map tx := by rw [← h.text]; simp
    have e2 : drp (tx b).1 st = A.map tx ++ C.map tx := by
      have hn := h.idsNodup
      rw [e1] at hn ⊢
      exact drp_mid hn
    rw [e2]
    exact drop_yes h
  · rw [hasB_false.2 hid, drp_none hid]
    exact (drop_no h id hw hid).mono fun e w' ⟨he, hw'⟩ => ⟨he, hw' ▸ ⟨mb, rb, L, tx, pv, nx, M, h⟩, hw' ▸ Fr.refl _ _ _⟩

theorem get_no {w : World} {B cb mb rb : Nat} {most bytes hits misses : Int} {st : List Txt} {L : List Nat} {tx : Nat → Int × ByteArray} {pv nx : Nat → Nat} {M : List (Value × Value)}
    (h : CacheAt Try.prog w B cb most bytes st hits misses mb rb L tx pv nx M) (id : Int) (hw : (Lit.int .i64 id).wf = true) (hno : id ∉ st.map (·.1)) (h0 : 0 ≤ misses) (h1 : misses < 9223372036854775807) :
    Calls Try.prog 19 #[ptr cb, i64 id] w fun e w' => e = .returned (.tuple #[.string ⟨#[]⟩, .bool false]) ∧ w.setCell ⟨cb, 6, none⟩ (i64 (misses + 1)) = w' := by
  have hlk := h.map.look_no K3 Try.underlying51 (zero52 w) (keyOf_int_mk Try.underlying3 hw) (by rw [h.mem_key]; exact hno) true
  simp only [if_true] at hlk
  have c2 := h.blk.cell 2 (.map (some mb)) rfl
  have c6 := h.blk.cell 6 (i64 misses) rfl
  have f6 := h.blk.fro 6
  clear h hw hno
  go_enter Try.func19, Try.ntmps19
  go_wp2
  go_ret2
  exact ⟨rfl, rfl⟩

/-- What Get answers. -/
def gotS (id : Int) (st : List Txt) : ByteArray := ((st.find? fun x => x.1 == id).map (·.2)).getD ByteArray.empty
/-- What Get leaves. -/
def gotL (id : Int) (st : List Txt) : List Txt := if hasB id st then (id, gotS id st) :: drp id st else st

theorem got_mid {A C : List Txt} {x : Txt} (hn : ((A ++ x :: C).map (·.1)).Nodup) : gotS x.1 (A ++ x :: C) = x.2 ∧ gotL x.1 (A ++ x :: C) = x :: (A ++ C) := by
  have h1 : x.1 ∉ A.map (·.1) := fun h => by
    rw [List.map_append, List.map_cons, List.nodup_append] at hn
    exact hn.2.2 _ h x.1 (by simp) rfl
  have e1 : A.find? (fun y => y.1 == x.1) = none := List.find?_eq_none.2 fun y hy e => h1 (List.mem_map.2 ⟨y, hy, by simpa using e⟩)
  have e2 : gotS x.1 (A ++ x :: C) = x.2 := by simp [gotS, List.find?_append, e1]
  refine ⟨e2, ?_⟩
  unfold gotL
  rw [e2, if_pos (hasB_iff.2 (by simp)), drp_mid hn]

theorem get_any {w : World} {B cb : Nat} {most bytes hits misses : Int} {st : List Txt} (h : Cache Try.prog w B cb most bytes st hits misses) (id : Int) (hw : (Lit.int .i64 id).wf = true)
    (h0 : 0 ≤ hits) (h1 : hits < 9223372036854775807) (h2 : 0 ≤ misses) (h3 : misses < 9223372036854775807) :
    Calls Try.prog 19 #[ptr cb, i64 id] w fun e w' => e = .returned (.tuple #[.string (gotS id st), .bool (hasB id st)]) ∧
      Cache Try.prog w' B cb most bytes (gotL id st) (if hasB id st then hits + 1 else hits) (if hasB id st then misses else misses + 1) ∧ Fr B CK w w' := by
  obtain ⟨mb, rb, L, tx, pv, nx, M, h⟩ := h
  by_cases hid : id ∈ st.map (·.1)
  · obtain ⟨A, b, C, rfl, rfl, _⟩ := h.node_of hid
    have e1 : st = A.map tx ++ tx b :: C.map tx := by rw [← h.text]; simp
    have hn := h.idsNodup
    have hb := hasB_iff.2 hid
    have hg : gotS (tx b).1 st = (tx b).2 ∧ gotL (tx b).1 st = tx b :: (A.map tx ++ C.map tx) := by
      rw [e1] at hn ⊢
      exact got_mid hn
    rw [hb, hg.1, hg.2]
    simp only [if_true]
    exact get_yes h h0 h1
  · have hb := hasB_false.2 hid
    have hs : gotS id st = ByteArray.empty := by
      have : st.find? (fun x => x.1 == id) = none := List.find?_eq_none.2 fun y hy e => hid (List.mem_map.2 ⟨y, hy, by simpa using e⟩)
      simp [gotS, this]
    have hl : gotL id st = st := by simp [gotL, hb]
    rw [hb, hs, hl]
    simp only [Bool.false_eq_true, if_false]
    exact (get_no h id hw hid h2 h3).mono fun e w' ⟨he, hw'⟩ => ⟨he, hw' ▸ ⟨mb, rb, L, tx, pv, nx, M, h.setMiss _⟩, hw' ▸ (Fr.refl B CK w).setCell h.blk rfl h.base.1 6 _⟩

theorem bytes_any {w : World} {B cb : Nat} {most bytes hits misses : Int} {st : List Txt} (h : Cache Try.prog w B cb most bytes st hits misses) :
    Calls Try.prog 11 #[ptr cb] w fun e w' => e = .returned (i64 (tot st)) ∧ w = w' := by
  obtain ⟨mb, rb, L, tx, pv, nx, M, h⟩ := h
  have c4 := h.blk.cell 4 (i64 (tot st)) rfl
  clear h
  go_enter Try.func11, Try.ntmps11
  go_wp2
  go_ret
  exact ⟨rfl, rfl⟩

theorem counts_any {w : World} {B cb : Nat} {most bytes hits misses : Int} {st : List Txt} (h : Cache Try.prog w B cb most bytes st hits misses) :
    Calls Try.prog 13 #[ptr cb] w fun e w' => e = .returned (.tuple #[i64 hits, i64 misses]) ∧ ∃ n, w.drewN n = w' := by
  obtain ⟨mb, rb, L, tx, pv, nx, M, h⟩ := h
  have c5 := h.blk.cell 5 (i64 hits) rfl
  have c6 := h.blk.cell 6 (i64 misses) rfl
  clear h
  go_enter Try.func13, Try.ntmps13
  go_wp2
  go_quiet (fail)
  go_wp2
  go_ret2
  exact ⟨rfl, _, rfl⟩

end Go.Proofs.Ytdgdfnofedlkaaa
