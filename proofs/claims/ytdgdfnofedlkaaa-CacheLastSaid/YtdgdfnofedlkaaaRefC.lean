/-
  The document's cache (rectoref33), walked: got and put.
  Written by an AI agent.
-/
import Derived.Test.YtdgdfnofedlkaaaRefB
namespace Go.Proofs.Ytdgdfnofedlkaaa
open Go.RowKit Go.Maps

theorem tot_take (st : List Txt) (k : Nat) (x : Txt) (h : st[k]? = some x) : tot (st.take (k + 1)) = tot (st.take k) + x.2.size ∧ tot (st.take (k + 1)) ≤ tot st := by
  have e : st.take (k + 1) = st.take k ++ [x] := by rw [List.take_add_one, h]; rfl
  have e2 : st = st.take (k + 1) ++ st.drop (k + 1) := (List.take_append_drop _ _).symm
  constructor
  · rw [e, tot_append, tot_cons, tot_nil]; omega
  · have := tot_append (st.take (k + 1)) (st.drop (k + 1))
    rw [← e2] at this
    have := tot_nonneg (st.drop (k + 1))
    omega

set_option maxHeartbeats 1000000 in
theorem sum_any {w : World} {B : Nat} {st : List Txt} {v : Value} (hrow : w.ownsRow B 40 2 v st.length (flat st)) (hlen : st.length ≤ 1000000) (hT : tot st ≤ 1000000000000) :
    Calls Try.prog 12 #[v] w fun e w' => e = .returned (i64 (tot st)) ∧ Below w.heap.size w w' := by
  rcases row_form hrow with ⟨rfl, rfl⟩ | ⟨g, cap, rfl, hnc, hcm, hBg, hg, hcell⟩
  · clear hrow hlen hT
    go_enter Try.func12, Try.ntmps12
    go_wp2
    refine wp_loop_rounds 1 ?_
    rw [rounds_succ]
    go_wp2
    go_ret
    exact ⟨rfl, Below.refl _ _⟩
  unfold maxLen at hcm
  obtain ⟨n, hn⟩ : ∃ n, st.length = n := ⟨_, rfl⟩
  rw [hn] at hnc hlen ⊢
  have HC := Lib.hid hcell
  have HN := Lib.hid hn
  have HTT := Lib.hid hT
  clear hcell hrow hn hT
  go_enter Try.func12, Try.ntmps12
  go_wp2
  go_loopw [3, 8] (fun t i wr => ∃ k : Nat, k ≤ n ∧ i = i64 k ∧ t = i64 (tot (st.take k)) ∧ Below w.heap.size w wr) (fun _ i _ => n - (intOf i).toNat)
  case atStart => exact ⟨0, Nat.zero_le _, rfl, rfl, Below.refl _ _⟩
  case round =>
    obtain ⟨k, hk, rfl, rfl, hbel⟩ := hrel
    by_cases hlt : k < n
    · have hkl : k < st.length := by rw [HN.out]; exact hlt
      obtain ⟨y, hy⟩ : ∃ y, st[k] = y := ⟨_, rfl⟩
      have hel : st[k]? = some y := by rw [List.getElem?_eq_getElem hkl, hy]
      obtain ⟨d0, d1⟩ := HC.out k y hel
      have e0 := (hbel.cell (p := ⟨g, k * 2, none⟩) hg).trans d0
      have e1 := (hbel.cell (p := ⟨g, k * 2 + 1, none⟩) hg).trans d1
      obtain ⟨t1, t2⟩ := tot_take st k y hel
      have hT := HTT.out
      have t3 := tot_nonneg (st.take k)
      obtain ⟨T, hTk⟩ : ∃ T, tot (st.take k) = T := ⟨_, rfl⟩
      have HT1 := Lib.hid t1
      rw [hTk] at t3 ⊢
      have t4 : T + y.2.size ≤ 1000000000000 := by omega
      have HTk := Lib.hid hTk
      clear d0 d1 hel hy hkl t1 t2 hT hTk
      go_wp2
      go_roundw
      case rel => exact ⟨k + 1, by omega, by go_num, by rw [HT1.out, HTk.out], hbel.alloc hbel.size _⟩
      case measure => simp [intOf]; omega
    · have hkn : k = n := by omega
      have ht : tot (st.take k) = tot st := by rw [List.take_of_length_le]; rw [HN.out]; omega
      have HTk := Lib.hid ht
      clear ht
      go_wp2
      go_ret
      exact ⟨by rw [HTk.out]; rfl, hbel⟩

set_option maxHeartbeats 2000000 in
theorem rget_no {w : World} {B rb : Nat} {most bytes hits misses : Int} {st : List Txt} (h : Ref w B rb most bytes st hits misses) (id : Int) (hno : id ∉ st.map (·.1)) (h0 : 0 ≤ misses) (h1 : misses < 9223372036854775807) :
    Calls Try.prog 21 #[ptr rb, i64 id] w fun e w' => e = .returned (.tuple #[.string ⟨#[]⟩, .bool false]) ∧ Ref w' B rb most bytes st hits (misses + 1) ∧ Fr B RK w w' := by
  obtain ⟨v, h⟩ := h
  have H := Lib.hid h
  have HNO := Lib.hid hno
  have hrb := h.1.lt
  have c4 := h.1.cell 4 (i64 misses) rfl
  have f4 := h.1.fro 4
  clear h hno
  go_enter Try.func21, Try.ntmps21
  go_wp2_with (go_at_call 27; (with_reducible refine (at_no H.out id HNO.out).mono ?_); rintro e w1 ⟨rfl, hbel⟩; have d4 := (hbel.cell (p := ⟨rb, 4, none⟩) hrb).trans c4; have g4 := (hbel.frozen (p := ⟨rb, 4, none⟩) hrb).trans f4)
  go_ret2
  have R := H.out.below hbel
  exact ⟨rfl, ⟨v, R.1.put 4 _, own_setCell R.2.1 R.1 (by decide) 4 _, R.2.2⟩, (Fr.of_below hbel B RK).setCell R.1 rfl R.2.2.1 4 _⟩

theorem rdrop_id {w : World} {B rb : Nat} {most bytes hits misses : Int} {A C : List Txt} {x : Txt} {v : Value} (h : RefAt w B rb most bytes (A ++ x :: C) hits misses v) {id : Int} (hid : x.1 = id) (hno : x.1 ∉ A.map (·.1)) :
    Calls Try.prog 22 #[ptr rb, i64 id] w fun e w' => e = .returned (.bool true) ∧ Ref w' B rb most bytes (A ++ C) hits misses ∧ Fr B RK w w' := by
  subst hid
  exact rdrop_yes h hno

/-- A copy is made, a hit counted. -/
theorem rget_mid {w w1 : World} {B rb : Nat} {most bytes hits misses : Int} {st : List Txt} {v : Value} (h : RefAt w B rb most bytes st hits misses v) (hbel : Below w.heap.size w w1) (id : Int) (s : ByteArray) :
    RefAt ((w1.setCell ⟨rb, 3, none⟩ (i64 (hits + 1))).alloc (.cells #[i64 id, .string s] 40)) B rb most bytes st (hits + 1) misses v ∧
    Blk ((w1.setCell ⟨rb, 3, none⟩ (i64 (hits + 1))).alloc (.cells #[i64 id, .string s] 40)) w1.heap.size 40 #[i64 id, .string s] ∧
    Fr B RK w ((w1.setCell ⟨rb, 3, none⟩ (i64 (hits + 1))).alloc (.cells #[i64 id, .string s] 40)) := by
  have R := h.below hbel
  have n1 := Blk.new (w1.setCell ⟨rb, 3, none⟩ (i64 (hits + 1))) 40 #[i64 id, .string s]
  have hs : (w1.setCell ⟨rb, 3, none⟩ (i64 (hits + 1))).heap.size = w1.heap.size := by simp
  rw [hs] at n1
  exact ⟨⟨(R.1.put 3 _).alloc _, (own_setCell R.2.1 R.1 (by decide) 3 _).alloc _, R.2.2⟩, n1, ((Fr.of_below hbel B RK).setCell R.1 rfl R.2.2.1 3 _).alloc _⟩

set_option maxHeartbeats 2000000 in
theorem rget_yes {w : World} {B rb : Nat} {most bytes hits misses : Int} {A C : List Txt} {x : Txt} (h : Ref w B rb most bytes (A ++ x :: C) hits misses) (hn : ((A ++ x :: C).map (·.1)).Nodup) (h0 : 0 ≤ hits) (h1 : hits < 9223372036854775807) :
    Calls Try.prog 21 #[ptr rb, i64 x.1] w fun e w' => e = .returned (.tuple #[.string x.2, .bool true]) ∧ Ref w' B rb most bytes (x :: (A ++ C)) (hits + 1) misses ∧ Fr B RK w w' := by
  obtain ⟨v, h⟩ := h
  have hno : x.1 ∉ A.map (·.1) := fun hm => by
    rw [List.map_append, List.map_cons, List.nodup_append] at hn
    exact hn.2.2 _ hm x.1 (by simp) rfl
  have hat := at_yes h hno
  have hrb := h.1.lt
  have hlen := h.2.2.2
  rcases row_form h.2.1 with ⟨_, he⟩ | ⟨g, cap, rfl, hnc, hcm, hBg, hg, hcell⟩
  · simp at he
  have c2 := h.1.cell 2 (.slice (some ⟨g, 0, none⟩) (A ++ x :: C).length cap) rfl
  have c3 := h.1.cell 3 (i64 hits) rfl
  have f3 := h.1.fro 3
  obtain ⟨d0, d1⟩ := hcell A.length x (by simp)
  have ha : (A ++ x :: C).length = A.length + (C.length + 1) := by simp
  rw [ha] at c2 hnc hlen
  unfold maxLen at hcm
  obtain ⟨id, hid⟩ : ∃ id, x.1 = id := ⟨_, rfl⟩
  obtain ⟨s, hs⟩ : ∃ s, x.2 = s := ⟨_, rfl⟩
  rw [hid] at hat d0
  rw [hs] at d1
  have H := Lib.hid h
  have HN := Lib.hid hn
  have HAT := Lib.hid hat
  have HI := Lib.hid hid
  have HS := Lib.hid hs
  rw [hid, hs]
  have HX := Lib.hid (show x = (id, s) by rw [← hid, ← hs])
  have HNO := Lib.hid hno
  have HAC := Lib.hid (show (A ++ C).length < 1000000 by simp; omega)
  clear h hn hno hat hcell hid hs ha
  go_enter Try.func21, Try.ntmps21
  go_wp2_with (first
    | (go_at_call 27; (with_reducible refine HAT.out.mono ?_); rintro e w1 ⟨rfl, hbel⟩; have e2 := (hbel.cell (p := ⟨rb, 2, none⟩) hrb).trans c2; have e3 := (hbel.cell (p := ⟨rb, 3, none⟩) hrb).trans c3; have g3 := (hbel.frozen (p := ⟨rb, 3, none⟩) hrb).trans f3; have hr1 : rb < w1.heap.size := Nat.lt_of_lt_of_le hrb hbel.size; have k0 := (hbel.cell (p := ⟨g, A.length * 2, none⟩) hg).trans d0; have k1 := (hbel.cell (p := ⟨g, A.length * 2 + 1, none⟩) hg).trans d1; have HM := Lib.hid (rget_mid H.out hbel id s))
    | (go_at_call 22; (with_reducible refine (rdrop_id HM.out.1 HI.out HNO.out).mono ?_); rintro e w3 ⟨rfl, hr3, hf3⟩; have HR := Lib.hid hr3; have HF := Lib.hid hf3; have hb3 := hf3.blk HM.out.2.1 (.inr rfl); have HB3 := Lib.hid hb3; have q0 := hb3.cell 0 (i64 id) rfl; have q1 := hb3.cell 1 (.string s) rfl; clear hr3 hf3 hb3)
    | (go_at_call 26; (with_reducible refine (front_any HR.out (id, s) HAC.out).mono ?_); rintro e w4 ⟨rfl, hr4, hf4⟩; have HR4 := Lib.hid hr4; have HF4 := Lib.hid hf4; have q1' := (hf4.blk HB3.out (.inr rfl)).cell 1 (.string s) rfl; clear hr4 hf4))
  go_ret2
  exact ⟨rfl, by rw [HX.out]; exact HR4.out, HM.out.2.2.trans (HF.out.trans HF4.out)⟩

theorem rget_any {w : World} {B rb : Nat} {most bytes hits misses : Int} {st : List Txt} (h : Ref w B rb most bytes st hits misses) (hn : (st.map (·.1)).Nodup) (id : Int) (h0 : 0 ≤ hits) (h1 : hits < 9223372036854775807) (h2 : 0 ≤ misses) (h3 : misses < 9223372036854775807) :
    Calls Try.prog 21 #[ptr rb, i64 id] w fun e w' => e = .returned (.tuple #[.string (gotS id st), .bool (hasB id st)]) ∧
      Ref w' B rb most bytes (gotL id st) (if hasB id st then hits + 1 else hits) (if hasB id st then misses else misses + 1) ∧ Fr B RK w w' := by
  by_cases hid : id ∈ st.map (·.1)
  · obtain ⟨A, x, C, rfl, rfl, hA, _⟩ := has_split hid
    obtain ⟨e1, e2⟩ := got_mid hn
    rw [hasB_iff.2 hid, e1, e2]
    simp only [if_true]
    exact rget_yes h hn h0 h1
  · have hb := hasB_false.2 hid
    have hs : gotS id st = ByteArray.empty := by
      have : st.find? (fun x => x.1 == id) = none := List.find?_eq_none.2 fun y hy e => hid (List.mem_map.2 ⟨y, hy, by simpa using e⟩)
      simp [gotS, this]
    have hl : gotL id st = st := by simp [gotL, hb]
    rw [hb, hs, hl]
    simp only [Bool.false_eq_true, if_false]
    exact rget_no h id hid h2 h3

end Go.Proofs.Ytdgdfnofedlkaaa
