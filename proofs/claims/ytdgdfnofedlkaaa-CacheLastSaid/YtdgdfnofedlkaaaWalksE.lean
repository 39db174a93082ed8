/-
  The cache's methods, walked: a text put.
  Written by an AI agent.
-/
import Derived.Test.YtdgdfnofedlkaaaWalksD
import Derived.Deep.LoopGhost
namespace Go.Proofs.Ytdgdfnofedlkaaa
open Go.RowKit Go.Maps

/-- Texts are dropped from the end till there is room. -/
def trim (m k : Int) : Nat → List Txt → List Txt
  | 0, st => st
  | n + 1, st => if (st.length : Int) = m ∨ k < tot st then trim m k n st.dropLast else st
/-- What Put leaves. -/
def putL (most bytes id : Int) (s : ByteArray) (st : List Txt) : List Txt :=
  if bytes < s.size then drp id st else (id, s) :: trim most (bytes - s.size) (drp id st).length (drp id st)

theorem trim_prefix (m k : Int) (n : Nat) : ∀ st, ∃ r, st = trim m k n st ++ r := by
  induction n with
  | zero => exact fun st => ⟨[], by simp [trim]⟩
  | succ n ih =>
    intro st
    unfold trim
    split
    · obtain ⟨r, hr⟩ := ih st.dropLast
      rcases st.eq_nil_or_concat with rfl | ⟨a, x, rfl⟩
      · exact ⟨r, by simpa using hr⟩
      · simp only [List.concat_eq_append, List.dropLast_concat] at hr ⊢
        exact ⟨r ++ [x], by rw [← List.append_assoc, ← hr]⟩
    · exact ⟨[], by simp⟩

theorem tot_put (id : Int) (s : ByteArray) (st : List Txt) : tot ((id, s) :: st) = tot st + s.size := by
  have := tot_cons (id, s) st
  simp only at this
  omega

/-- Memory behind a put. -/
theorem put_mem {wr w3 w4 w5 : World} {B cb mb rb : Nat} {most bytes hits misses : Int} {st : List Txt} {L : List Nat} {tx : Nat → Int × ByteArray} {pv nx : Nat → Nat} {M : List (Value × Value)}
    (h : CacheAt Try.prog wr B cb most bytes st hits misses mb rb L tx pv nx M) (id : Int) (s : ByteArray) (hw : (Lit.int .i64 id).wf = true)
    (hfull : (st.length : Int) < most) (hfit : tot st + s.size ≤ bytes)
    (hl : Like w3 (((((wr.alloc (.cells #[i64 id, .string s, .pointer none, .pointer none] 56)).setCell ⟨wr.heap.size, 2, none⟩ (ptr rb)).setCell ⟨wr.heap.size, 3, none⟩ (ptr (nx rb))).setCell ⟨rb, 3, none⟩ (ptr wr.heap.size)).setCell ⟨nx rb, 2, none⟩ (ptr wr.heap.size)))
    (hm : MapIs Try.prog 3 w4 mb (M ++ [(i64 id, ptr wr.heap.size)])) (ho : OnlyMap w3 w4 mb) (hl2 : Like w5 (w4.setCell ⟨cb, 4, none⟩ (i64 (tot st + s.size)))) :
    Cache Try.prog w5 B cb most bytes ((id, s) :: st) hits misses ∧ Fr B CK wr w5 := by
  obtain ⟨b, hb⟩ : ∃ b, wr.heap.size = b := ⟨_, rfl⟩
  have hlt : ∀ c ∈ rb :: L, c < b := fun c hc => by rw [← hb]; exact (h.nodes c hc).lt
  have hBb : B ≤ b := by have := h.blk.lt; have := h.base.1; omega
  obtain ⟨tx', htx⟩ : ∃ tx' : Nat → Int × ByteArray, tx' = fun x => if x = b then (id, s) else tx x := ⟨_, rfl⟩
  have tb : tx' b = (id, s) := by simp [htx]
  have tc : ∀ c ∈ rb :: L, tx' c = tx c := fun c hc => by have := hlt c hc; simp [htx]; omega
  have N0 : Nodes (wr.alloc (.cells #[i64 id, .string s, .pointer none, .pointer none] 56)) (rb :: L) tx' pv nx := fun c hc => by
    rw [tc c hc]
    exact (h.nodes c hc).alloc _
  have nb := Blk.new wr 56 #[i64 id, .string s, .pointer none, .pointer none]
  rw [hb] at nb hl hm
  have hbL : b ∉ rb :: L := fun hm => by have := hlt b hm; omega
  obtain ⟨f1, f2, f3, f4⟩ := front_mem (B := B) (P := Try.prog) N0 (by rw [tb]; exact nb) hbL h.ring.first hBb h.base.2.2 hl
  have k1 := f3 cb 54 _ (by decide) (h.sum.alloc _)
  have k2 := ho.blk k1
  have k3 := (k2.put 4 (i64 (tot st + s.size))).heap hl2.1
  have F : Fr B CK wr w5 := ((ho.fr ((((Fr.refl B CK wr).alloc _).trans f2)) h.base.2.1 (fun _ _ => rfl)).setCell k2 rfl h.base.1 4 _).like hl2
  refine ⟨⟨mb, rb, b :: L, tx', _, _, M ++ [(i64 id, ptr b)], ?_, (hm.setCell k2 4 _).heap hl2.1, ?_, h.ring.front hbL, fun c hc => ?_, ?_, ?_, ?_, ?_⟩, F⟩
  · rw [tot_put]
    exact k3
  · rw [List.map_cons, tb]
    have e1 : (L.map fun b => (i64 (tx' b).1, ptr b)) = L.map fun b => (i64 (tx b).1, ptr b) := List.map_congr_left fun c hc => by rw [tc c (List.mem_cons_of_mem _ hc)]
    rw [e1]
    exact (List.perm_append_singleton _ _).trans (List.Perm.cons _ h.perm)
  · have hc0 := ho.blk (f1 c hc)
    exact (hc0.far (p := ⟨cb, 4, none⟩) (hc0.ne k2 (by decide)) _).heap hl2.1
  · rw [List.map_cons, tb, ← h.text]
    congr 1
    exact List.map_congr_left fun c hc => tc c (List.mem_cons_of_mem _ hc)
  · intro x hx
    rcases List.mem_cons.1 hx with rfl | hx
    · exact hw
    · exact h.ids x hx
  · refine ⟨h.base.1, h.base.2.1, fun c hc => ?_⟩
    simp only [List.mem_cons] at hc
    rcases hc with rfl | rfl | hc
    · exact h.base.2.2 _ (by simp)
    · exact hBb
    · exact h.base.2.2 _ (by simp [hc])
  · have hf := h.fits
    rw [tot_put]
    simp only [List.length_cons]
    exact ⟨by omega, by omega, hf.2.2⟩

def PutIt (B cb : Nat) (most bytes : Int) (hits misses : Int) (st : List Txt) (ok : Bool) (w : World) (e : Ending) (w' : World) : Prop :=
  e = .returned (.bool ok) ∧ Cache Try.prog w' B cb most bytes st hits misses ∧ Fr B CK w w'

theorem put_big {w : World} {B cb : Nat} {most bytes hits misses : Int} {st : List Txt} (h : Cache Try.prog w B cb most bytes st hits misses) (id : Int) (s : ByteArray) (hw : (Lit.int .i64 id).wf = true) (hs : bytes < s.size) :
    Calls Try.prog 16 #[ptr cb, i64 id, .string s] w (PutIt B cb most bytes hits misses (drp id st) false w) := by
  have H := Lib.hid h
  clear h
  go_enter Try.func16, Try.ntmps16
  go_wp2_with (go_at_call 17; (with_reducible refine (drop_any H.out id hw).mono ?_); rintro e w1 ⟨rfl, hc, hf⟩; have HC := Lib.hid hc; have HF := Lib.hid hf; obtain ⟨mb, rb, L, tx, pv, nx, M, hc⟩ := hc; have c1 := hc.blk.cell 1 (i64 bytes) rfl; clear hc hf)
  go_ret
  exact ⟨rfl, HC.out, HF.out⟩

theorem CacheAt.heap {w w' : World} {B cb mb rb : Nat} {most bytes hits misses : Int} {st : List Txt} {L : List Nat} {tx : Nat → Int × ByteArray} {pv nx : Nat → Nat} {M : List (Value × Value)}
    (h : CacheAt Try.prog w B cb most bytes st hits misses mb rb L tx pv nx M) (e : w'.heap = w.heap) : CacheAt Try.prog w' B cb most bytes st hits misses mb rb L tx pv nx M :=
  ⟨h.blk.heap e, h.map.heap e, h.perm, h.ring, h.nodes.heap e, h.text, h.ids, h.base, h.fits⟩

theorem CacheAt.drewN {w : World} {B cb mb rb : Nat} {most bytes hits misses : Int} {st : List Txt} {L : List Nat} {tx : Nat → Int × ByteArray} {pv nx : Nat → Nat} {M : List (Value × Value)}
    (h : CacheAt Try.prog w B cb most bytes st hits misses mb rb L tx pv nx M) (n : Nat) : CacheAt Try.prog (w.drewN n) B cb most bytes st hits misses mb rb L tx pv nx M := h.heap rfl

/-- The last node, where there is one. -/
theorem CacheAt.last {w : World} {B cb mb rb : Nat} {most bytes hits misses : Int} {st : List Txt} {L : List Nat} {tx : Nat → Int × ByteArray} {pv nx : Nat → Nat} {M : List (Value × Value)}
    (h : CacheAt Try.prog w B cb most bytes st hits misses mb rb L tx pv nx M) (hne : L ≠ []) : ∃ A, L = A ++ pv rb :: [] ∧ st.dropLast = A.map tx ++ [].map tx := by
  rcases L.eq_nil_or_concat with rfl | ⟨A, b, rfl⟩
  · exact absurd rfl hne
  · have h2 := h.ring.2.1
    simp only [List.concat_eq_append] at h2 ⊢
    have e : pv rb = b := by
      rw [List.map_append, List.map_cons, List.map_nil, ← List.cons_append] at h2
      have := (List.append_inj' h2 rfl).2
      simpa using this
    rw [e]
    refine ⟨A, rfl, ?_⟩
    rw [← h.text]
    simp

/-- 'use', called on the new node. -/
theorem put_use {w : World} {B cb mb rb : Nat} {most bytes hits misses : Int} {st : List Txt} {L : List Nat} {tx : Nat → Int × ByteArray} {pv nx : Nat → Nat} {M : List (Value × Value)}
    (h : CacheAt Try.prog w B cb most bytes st hits misses mb rb L tx pv nx M) (id : Int) (s : ByteArray) (b : Nat) (hb : w.heap.size = b) :
    Calls Try.prog 24 #[ptr cb, ptr b] (w.alloc (.cells #[i64 id, .string s, .pointer none, .pointer none] 56)) fun e w3 => e = .returned (.tuple #[]) ∧
      Like w3 (((((w.alloc (.cells #[i64 id, .string s, .pointer none, .pointer none] 56)).setCell ⟨w.heap.size, 2, none⟩ (ptr rb)).setCell ⟨w.heap.size, 3, none⟩ (ptr (nx rb))).setCell ⟨rb, 3, none⟩ (ptr w.heap.size)).setCell ⟨nx rb, 2, none⟩ (ptr w.heap.size)) := by
  subst hb
  exact use_any (L := L) (tx := tx) (pv := pv) (h.blk.alloc _) rfl (fun c hc => (h.nodes c hc).alloc _) (Blk.new w 56 _) (fun hm => by have := (h.nodes _ hm).lt; omega) h.ring.first

/-- What is known behind it. -/
theorem put_mid {w w3 : World} {B cb mb rb : Nat} {most bytes hits misses : Int} {st : List Txt} {L : List Nat} {tx : Nat → Int × ByteArray} {pv nx : Nat → Nat} {M : List (Value × Value)}
    (h : CacheAt Try.prog w B cb most bytes st hits misses mb rb L tx pv nx M) (id : Int) (s : ByteArray) (b : Nat) (hb : w.heap.size = b)
    (hl : Like w3 (((((w.alloc (.cells #[i64 id, .string s, .pointer none, .pointer none] 56)).setCell ⟨w.heap.size, 2, none⟩ (ptr rb)).setCell ⟨w.heap.size, 3, none⟩ (ptr (nx rb))).setCell ⟨rb, 3, none⟩ (ptr w.heap.size)).setCell ⟨nx rb, 2, none⟩ (ptr w.heap.size)))
    (hw : (Lit.int .i64 id).wf = true) (hno : id ∉ st.map (·.1)) :
    Blk w3 cb 54 #[i64 most, i64 bytes, .map (some mb), ptr rb, i64 (tot st), i64 hits, i64 misses] ∧
    ∃ w4, (Instr.mapUpdate 51 (.map (some mb)) (i64 id) (ptr b)).run Try.prog w3 = .ok () w4 ∧ MapIs Try.prog 3 w4 mb (M ++ [(i64 id, ptr b)]) ∧ OnlyMap w3 w4 mb := by
  have hlt : ∀ c ∈ rb :: L, c < w.heap.size := fun c hc => (h.nodes c hc).lt
  have hBb : B ≤ w.heap.size := by have := h.blk.lt; have := h.base.1; omega
  obtain ⟨tx', htx⟩ : ∃ tx' : Nat → Int × ByteArray, tx' = fun x => if x = w.heap.size then (id, s) else tx x := ⟨_, rfl⟩
  have tb : tx' w.heap.size = (id, s) := by simp [htx]
  have tc : ∀ c ∈ rb :: L, tx' c = tx c := fun c hc => by have := hlt c hc; simp [htx]; omega
  have N0 : Nodes (w.alloc (.cells #[i64 id, .string s, .pointer none, .pointer none] 56)) (rb :: L) tx' pv nx := fun c hc => by
    rw [tc c hc]
    exact (h.nodes c hc).alloc _
  have nb := Blk.new w 56 #[i64 id, .string s, .pointer none, .pointer none]
  have hbL : w.heap.size ∉ rb :: L := fun hm => by have := hlt _ hm; omega
  obtain ⟨f1, f2, f3, f4⟩ := front_mem (B := B) (P := Try.prog) N0 (by rw [tb]; exact nb) hbL h.ring.first hBb h.base.2.2 hl
  exact ⟨f3 cb 54 _ (by decide) (h.sum.alloc _), (f4 _ _ (h.map.alloc _)).store_new K3 Try.underlying51 (keyOf_int_mk Try.underlying3 hw) (by rw [h.mem_key]; exact hno) (ptr b)⟩

theorem gone_last {w : World} {B cb mb rb : Nat} {most bytes hits misses : Int} {st : List Txt} {L A : List Nat} {tx : Nat → Int × ByteArray} {pv nx : Nat → Nat} {M : List (Value × Value)}
    (h : CacheAt Try.prog w B cb most bytes st hits misses mb rb L tx pv nx M) (hA : L = A ++ pv rb :: []) :
    Calls Try.prog 23 #[ptr cb, ptr (pv rb)] w (GoneIt B cb most bytes hits misses (A.map tx ++ [].map tx) w) := by
  subst hA
  exact gone_any h

set_option maxHeartbeats 2000000 in
theorem put_small {w : World} {B cb : Nat} {most bytes hits misses : Int} {st : List Txt} (h : Cache Try.prog w B cb most bytes st hits misses) (id : Int) (s : ByteArray) (hw : (Lit.int .i64 id).wf = true) (hs : ¬ bytes < s.size) :
    Calls Try.prog 16 #[ptr cb, i64 id, .string s] w (PutIt B cb most bytes hits misses ((id, s) :: trim most (bytes - s.size) (drp id st).length (drp id st)) true w) := by
  have H := Lib.hid h
  have HW := Lib.hid hw
  have hb65 : bytes ≤ 65536 := by obtain ⟨mb, rb, L, tx, pv, nx, M, h⟩ := h; exact h.fits.2.2.2.2
  have hs0 : (s.size : Int) ≤ bytes := by omega
  clear h hw hs
  go_enter Try.func16, Try.ntmps16
  go_wp2_with (go_at_call 17; (with_reducible refine (drop_any H.out id HW.out).mono ?_); rintro e w1 ⟨rfl, hc, hf⟩; have HC := Lib.hid hc; have HF := Lib.hid hf; obtain ⟨mb, rb, L, tx, pv, nx, M, hc⟩ := hc; have c1 := hc.blk.cell 1 (i64 bytes) rfl; clear hc hf)
  clear c1
  go_loopg [] (drp id st).length (fun k wr => ∃ st', Cache Try.prog wr B cb most bytes st' hits misses ∧ st'.length = k ∧
      trim most (bytes - s.size) (drp id st).length (drp id st) = trim most (bytes - s.size) k st' ∧ Fr B CK w wr)
  case atStart => exact ⟨drp id st, HC.out, rfl, rfl, HF.out⟩
  case round =>
    obtain ⟨st', hC, hlen, heq, hF⟩ := hrel
    obtain ⟨mb, rb, L, tx, pv, nx, M, h⟩ := hC
    have HE := Lib.hid heq
    have HF' := Lib.hid hF
    have HLN := Lib.hid hlen
    have hfits := h.fits
    have hML : M.length = gk := by rw [← hlen, ← h.text, h.perm.length_eq]; simp
    have hmlen : ∀ n, (Builtin.len_ #[51] 3 #[.map (some mb)]).run Try.prog (wr.drewN n) = .ok (goInt gk) (wr.drewN n) := fun n => by rw [← hML]; exact (h.map.drewN n).len Try.underlying51 3
    have c0 := h.blk.cell 0 (i64 most) rfl
    have c1 := h.blk.cell 1 (i64 bytes) rfl
    have c2 := h.blk.cell 2 (.map (some mb)) rfl
    have c3 := h.blk.cell 3 (ptr rb) rfl
    have c4 := h.blk.cell 4 (i64 (tot st')) rfl
    have hk : (gk : Int) ≤ 1000 := by omega
    have r2 := (h.nodes rb (by simp)).cell 2 (ptr (pv rb)) rfl
    have ht0 := tot_nonneg st'
    have ht1 : tot st' ≤ bytes := hfits.1
    obtain ⟨T, hT⟩ : ∃ T, tot st' = T := ⟨_, rfl⟩
    rw [hT] at c4 ht0 ht1
    have HT := Lib.hid hT
    have H' := Lib.hid h
    clear h heq hF hlen hML hT hfits
    have hnil : ((gk : Int) = most ∨ bytes - s.size < T) → L ≠ [] := fun ho e => by
      have hx := H'.out.fits
      have ht := H'.out.text
      have hg := HLN.out
      have hT := HT.out
      subst e
      simp at ht
      subst ht
      simp [tot_nil] at hg hT
      omega
    have HNIL := Lib.hid hnil
    clear hnil
    by_cases hfull : (gk : Int) = most
    · have hb : ((gk : Int) == most) = true := by simpa using hfull
      obtain ⟨A, hA, hdl⟩ := H'.out.last (HNIL.out (.inl hfull))
      have HA := Lib.hid hA
      have HDL := Lib.hid hdl
      have HFU := Lib.hid hfull
      clear hfull hA hdl
      go_wp2_with fail
      go_quiet (fail)
      go_wp2_with (go_at_call 23; (with_reducible refine (gone_last (H'.out.drewN _) HA.out).mono ?_); rintro e w2 ⟨rfl, hg⟩; have HG := Lib.hid hg; clear hg)
      go_roundg (gk - 1)
      case measure =>
        have := HFU.out
        have := H'.out.fits
        omega
      case rel =>
        have hg1 : gk = (gk - 1) + 1 := by
          have := HFU.out
          have := H'.out.fits
          omega
        refine ⟨st'.dropLast, by rw [HDL.out]; exact HG.out.1, by rw [List.length_dropLast, HLN.out], ?_, (HF'.out.drewN _).trans HG.out.2⟩
        rw [HE.out, hg1, trim, if_pos (.inl (by rw [HLN.out]; exact HFU.out))]
        rfl
    · have hb : ((gk : Int) == most) = false := by simpa using hfull
      have HFU := Lib.hid hfull
      clear hfull
      by_cases hbig : bytes - s.size < T
      · obtain ⟨A, hA, hdl⟩ := H'.out.last (HNIL.out (.inr hbig))
        have HA := Lib.hid hA
        have HDL := Lib.hid hdl
        have hbd : decide (bytes - s.size < T) = true := by simpa using hbig
        clear hA hdl
        go_wp2_with fail
        go_quiet (fail)
        go_wp2_with (go_at_call 23; (with_reducible refine (gone_last (H'.out.drewN _) HA.out).mono ?_); rintro e w2 ⟨rfl, hg⟩; have HG := Lib.hid hg; clear hg)
        go_roundg (gk - 1)
        case measure =>
          have hne := HNIL.out (.inr hbig)
          have := H'.out.text
          have hl := HLN.out
          rw [← this, List.length_map] at hl
          have : 0 < L.length := List.length_pos_iff.2 hne
          omega
        case rel =>
          have hne := HNIL.out (.inr hbig)
          have hg1 : gk = (gk - 1) + 1 := by
            have := H'.out.text
            have hl := HLN.out
            rw [← this, List.length_map] at hl
            have : 0 < L.length := List.length_pos_iff.2 hne
            omega
          refine ⟨st'.dropLast, by rw [HDL.out]; exact HG.out.1, by rw [List.length_dropLast, HLN.out], ?_, (HF'.out.drewN _).trans HG.out.2⟩
          rw [HE.out, hg1, trim, if_pos (.inr (by rw [HT.out]; exact hbig))]
          rfl
      · have hbd : decide (bytes - s.size < T) = false := by simpa using hbig
        have htrim : trim most (bytes - s.size) (drp id st).length (drp id st) = st' := by
          rw [HE.out]
          cases gk with
          | zero => rfl
          | succ n =>
            rw [trim, if_neg]
            rw [HLN.out, HT.out]
            exact fun h => h.elim HFU.out hbig
        have hno : id ∉ st'.map (·.1) := fun hm => by
          obtain ⟨r, hr⟩ := trim_prefix most (bytes - s.size) (drp id st).length (drp id st)
          rw [htrim] at hr
          exact drp_not (id := id) (st := st) (by rw [hr, List.map_append]; exact List.mem_append_left _ hm)
        have hlt : (st'.length : Int) < most := by
          have := H'.out.fits
          have h1 := HFU.out
          have h2 := HLN.out
          omega
        have HTR := Lib.hid htrim
        have HNO := Lib.hid hno
        have HLT := Lib.hid hlt
        clear htrim hno hlt
        go_wp2_with fail
        go_quiet (fail)
        go_wp2_with (go_at_call 24; (with_reducible refine (put_use (H'.out.drewN _) id s wr.heap.size rfl).mono ?_); rintro e w3 ⟨rfl, hl⟩; have HL := Lib.hid hl; obtain ⟨k1, w4, hrun, hmap, honly⟩ := put_mid (H'.out.drewN _) id s wr.heap.size rfl hl HW.out HNO.out; have k2 := honly.blk k1; have c2' := k1.cell 2 (.map (some mb)) rfl; have c4' := k2.cell 4 (i64 T) (by rw [HT.out]; rfl); have f4' := k2.fro 4; have HX := Lib.hid (And.intro hmap honly); clear hl k1 k2 hmap honly)
        go_ret
        have g := put_mem (H'.out.drewN nq) id s HW.out HLT.out (by rw [HT.out]; omega) HL.out HX.out.1 HX.out.2 (by rw [HT.out]; exact Like.refl _)
        exact ⟨rfl, by rw [HTR.out]; exact g.1, HF'.out.trans (((Fr.refl _ _ _).drewN nq).trans g.2)⟩

theorem put_any {w : World} {B cb : Nat} {most bytes hits misses : Int} {st : List Txt} (h : Cache Try.prog w B cb most bytes st hits misses) (id : Int) (s : ByteArray) (hw : (Lit.int .i64 id).wf = true) :
    Calls Try.prog 16 #[ptr cb, i64 id, .string s] w (PutIt B cb most bytes hits misses (putL most bytes id s st) (decide ((s.size : Int) ≤ bytes)) w) := by
  unfold putL
  by_cases hs : bytes < s.size
  · rw [if_pos hs, decide_eq_false (by omega)]
    exact put_big h id s hw hs
  · rw [if_neg hs, decide_eq_true (by omega)]
    exact put_small h id s hw hs

end Go.Proofs.Ytdgdfnofedlkaaa
