/-
  Attributes and entries in memory; active.counts, active.alike, walked.
  Written by an AI agent.
-/
import Derived.Test.YtjopfgdgmniigaaCount
import Derived.Test.YtjopfgdgmniigaaBase
import Derived.Outline
import Derived.RegionTactic
import Derived.BigRegion
import Derived.Deep.QuietTactic
import Derived.Deep.RegionHeld3
import Derived.Deep.RegionWith
import Derived.BigQuiet
import Derived.Lib.Hide
import Derived.Handy
import Derived.Deep.LoopGhost
import Derived.IntWalk
import Derived.Laws.Strings
namespace Go.Proofs.Ytjopfgdgmniigaa
open Go.RowKit Go.Maps

/-- The slice v reads as these attributes; its memory lies below B or is a row of attributes. -/
def AtrsAt (w : World) (B : Nat) (v : Value) (l : List Atr) : Prop :=
  ∃ ad c, v = .slice ad l.length c ∧ l.length ≤ c ∧ l.length ≤ 4398046511104 ∧ (∀ x ∈ l, AtrOk x) ∧ (l ≠ [] → ∃ g off, ad = some ⟨g, off, none⟩ ∧ g < w.heap.size ∧ (g < B ∨ ∃ cs fr, w.heap[g]? = some (.cells cs 60 fr)) ∧
    ∀ (k : Nat) (x : Atr), l[k]? = some x → w.cell? ⟨g, off + k * 2, none⟩ = some (.string x.1) ∧ w.cell? ⟨g, off + k * 2 + 1, none⟩ = some (.string x.2))

theorem AtrsAt.same {w w' : World} {B : Nat} {v : Value} {l : List Atr} (h : AtrsAt w B v l) (hs : w.heap.size ≤ w'.heap.size) (hb : ∀ g, g < w.heap.size → (g < B ∨ ∃ cs fr, w.heap[g]? = some (.cells cs 60 fr)) → w'.heap[g]? = w.heap[g]?) : AtrsAt w' B v l := by
  obtain ⟨ad, c, hv, hlc, hl, hok, hr⟩ := h
  refine ⟨ad, c, hv, hlc, hl, hok, fun hne => ?_⟩
  obtain ⟨g, off, ha, hg, hk, hc⟩ := hr hne
  have e := hb g hg hk
  refine ⟨g, off, ha, Nat.lt_of_lt_of_le hg hs, hk.imp id (fun ⟨cs, fr, h⟩ => ⟨cs, fr, e.trans h⟩), fun k x hx => ?_⟩
  obtain ⟨h1, h2⟩ := hc k x hx
  exact ⟨(World.cell?_of_block (w := w) (a := ⟨g, off + k * 2, none⟩) e).trans h1, (World.cell?_of_block (w := w) (a := ⟨g, off + k * 2 + 1, none⟩) e).trans h2⟩
theorem AtrsAt.below {w w' : World} {B : Nat} {v : Value} {l : List Atr} (h : AtrsAt w B v l) (hb : Below w.heap.size w w') : AtrsAt w' B v l :=
  h.same hb.size fun g hg _ => hb.block g hg
theorem AtrsAt.fr {w w' : World} {B B' : Nat} {T : Obj → Bool} {v : Value} {l : List Atr} (h : AtrsAt w B v l) (hf : Fr B' T w w') (hB : B ≤ B') (hT : ∀ cs fr, T (.cells cs 60 fr) = false) : AtrsAt w' B v l :=
  h.same hf.size fun g hg hk => by
    rcases hk with hk | ⟨cs, fr, hk⟩
    · exact hf.block g hg (.inl (by omega))
    · exact (hf.obj hk (.inr (hT cs fr))).trans hk.symm
theorem AtrsAt.drewN {w : World} {B : Nat} {v : Value} {l : List Atr} (h : AtrsAt w B v l) (n : Nat) : AtrsAt (w.drewN n) B v l := h

/-- What counts gives. -/
def CountsIt (l : List Atr) (w : World) (e : Ending) (w' : World) : Prop :=
  ∃ b, e = .returned (.map (some b)) ∧ CntIs w' b l ∧ w.heap.size ≤ b ∧ Below w.heap.size w w'

theorem cnt_le (x : Atr) (l : List Atr) : cnt x l ≤ l.length := List.length_filter_le _ _

set_option maxHeartbeats 2000000 in
theorem counts_any {w : World} {B : Nat} {v : Value} {l : List Atr} (h : AtrsAt w B v l) : Calls Try.prog 52 #[v] w (CountsIt l w) := by
  obtain ⟨ad, c, rfl, hlc, hl, hok, hr⟩ := h
  obtain ⟨n, hn⟩ : ∃ n, l.length = n := ⟨_, rfl⟩
  rw [hn] at hl hlc ⊢
  have HN := Lib.hid hn
  have HR := Lib.hid hr
  have HOK := Lib.hid hok
  have hmm := @run_makeMap Try.prog
  clear hn hr hok
  go_enter Try.func52, Try.ntmps52
  go_wp2
  go_loopw [9] (fun i wr => ∃ k : Nat, k ≤ n ∧ i = i64 k ∧ Hid (CntIs wr w.heap.size (l.take k)) ∧ Below w.heap.size w wr) (fun i _ => n - (intOf i).toNat)
  case atStart => exact ⟨0, Nat.zero_le _, rfl, Lib.hid (CntIs.made w), (Below.refl _ _).alloc (Nat.le_refl _) _⟩
  case round =>
    obtain ⟨k, hk, rfl, HC, hbel⟩ := hrel
    by_cases hlt : k < n
    · obtain ⟨x, hx⟩ : ∃ x, l[k]? = some x := ⟨_, List.getElem?_eq_getElem (by rw [HN.out]; exact hlt)⟩
      obtain ⟨a, b⟩ := x
      obtain ⟨g, off, had, hg, _, hc⟩ := HR.out (fun e => by have := HN.out; rw [e] at this; simp at this; omega)
      obtain ⟨d0, d1⟩ := hc k _ hx
      have e0 := (hbel.cell (p := ⟨g, off + k * 2, none⟩) hg).trans d0
      have e1 := (hbel.cell (p := ⟨g, off + k * 2 + 1, none⟩) hg).trans d1
      simp only at e0 e1
      have hok := HOK.out _ (List.mem_of_getElem? hx)
      have hcw : CntIs (wr.alloc (.cells #[.string a, .string b] 60)).drew w.heap.size (l.take k) := HC.out.same (Below.heap_alloc wr _ _ HC.out.lt)
      have L0 := hcw.look hok
      obtain ⟨st, W1, E0, L1, hW1, W2, S1, hC2, hW2⟩ := hcw.entry hok
      obtain ⟨q, hq⟩ : ∃ q, cnt (a, b) (l.take k) = q := ⟨_, rfl⟩
      have hqn : q ≤ k := by rw [← hq]; exact Nat.le_trans (cnt_le _ _) (List.length_take_le _ _)
      rw [hq] at L0 E0 L1 S1
      unfold keyV at L0 E0 L1
      simp only at L0 E0 L1
      have hwrap : IntKind.i64.wrap ((q : Int) + 1) = (q : Int) + 1 := IntWalk.i64_in _ (by omega)
      have HX := Lib.hid hx
      have HAD := Lib.hid had
      have HW := Lib.hid (And.intro hW1 (And.intro hC2 (And.intro hW2 hbel)))
      clear hc hx had d0 d1 hok hcw hq hW1 hC2 hW2 hbel hmm
      rw [HAD.out]
      go_wp2
      go_region
      go_wp2
      clear hwrap
      go_roundw
      case rel =>
        obtain ⟨⟨o1, o2, o3, o4, o5⟩, hC2, ⟨p1, p2, p3, p4, p5⟩, hbel⟩ := HW.out
        refine ⟨k + 1, by omega, by go_num, Lib.hid ?_, ?_⟩
        · rw [List.take_add_one, HX.out]; exact hC2
        · have b1 := (hbel.alloc hbel.size (.cells #[.string a, .string b] 60)).drew
          have hz := hbel.size
          exact ⟨p1.trans b1.os, p3.trans b1.tape, p2.trans b1.output, by rw [p4]; exact b1.size, fun i hi => by
            rw [p5 i (by omega)]; exact b1.block i hi⟩
      case measure => simp [intOf]; omega
    · have hkn : k = n := by omega
      have htk : l.take k = l := List.take_of_length_le (by have := HN.out; omega)
      rw [htk] at HC
      go_wp2
      go_ret
      exact ⟨_, rfl, HC.out, Nat.le_refl _, hbel⟩

/-- Are two entries alike? -/
def alikeB (n : ByteArray) (l : List Atr) (n' : ByteArray) (l' : List Atr) : Bool :=
  decide (n = n') && decide (l.length = l'.length) && l.all fun x => decide (cnt x l = 1) && decide (cnt x l' = 1)

theorem CntIs.below {w w' : World} {b : Nat} {l : List Atr} (h : CntIs w b l) (hb : Below w.heap.size w w') : CntIs w' b l := h.same (hb.block b h.lt)
theorem AtrsAt.form {w : World} {B : Nat} {v : Value} {l : List Atr} (h : AtrsAt w B v l) : ∃ ad c, v = .slice ad l.length c := by
  obtain ⟨ad, c, rfl, _⟩ := h; exact ⟨ad, c, rfl⟩

theorem alike_no {n n' : ByteArray} {l l' : List Atr} {k : Nat} {x : Atr} (hx : l[k]? = some x) (h : ¬ (cnt x l = 1 ∧ cnt x l' = 1)) : alikeB n l n' l' = false := by
  unfold alikeB
  have : (l.all fun x => decide (cnt x l = 1) && decide (cnt x l' = 1)) = false := by
    rw [List.all_eq_false]
    exact ⟨x, List.mem_of_getElem? hx, by simpa using h⟩
  rw [this]
  simp
theorem toList_inj {a b : ByteArray} (h : a.toList = b.toList) : a = b := by
  rw [ByteArray.toList_eq, ByteArray.toList_eq] at h
  exact ByteArray.ext (Array.toList_inj.1 h)
theorem atrs_up {w : World} {B : Nat} {v : Value} {l : List Atr} {o o' : Obj} (h : AtrsAt w B v l) : AtrsAt ((w.alloc o).alloc o').drew B v l :=
  h.below (((Below.refl _ w).alloc (Nat.le_refl _) o).alloc (by simp) o').drew

set_option maxHeartbeats 4000000 in
theorem alike_any {w : World} {B : Nat} {m m' : Bool} {i i' : Int} {n n' : ByteArray} {v v' : Value} {l l' : List Atr} (h : AtrsAt w B v l) (h' : AtrsAt w B v' l') :
    Calls Try.prog 42 #[.agg #[.bool m, i64 i, .string n, v], .agg #[.bool m', i64 i', .string n', v']] w fun e w' => e = .returned (.bool (alikeB n l n' l')) ∧ Below w.heap.size w w' := by
  have H := Lib.hid (And.intro h h')
  obtain ⟨ad, c, rfl, hlc, hl, hok, hr⟩ := h
  obtain ⟨ad', c', rfl, hlc', hl', hok', hr'⟩ := h'
  obtain ⟨r, hr0⟩ : ∃ r, alikeB n l n' l' = r := ⟨_, rfl⟩
  obtain ⟨N, hN⟩ : ∃ N, l.length = N := ⟨_, rfl⟩
  obtain ⟨N', hN'⟩ : ∃ N', l'.length = N' := ⟨_, rfl⟩
  rw [hr0]
  rw [hN] at hl hlc H ⊢
  rw [hN'] at hl' hlc' H ⊢
  have HR0 := Lib.hid hr0
  have HNN := Lib.hid (And.intro hN hN')
  have HOK := Lib.hid hok
  have HRR := Lib.hid hr
  clear hr0 hN hN' hok hok' hr hr'
  by_cases hnn : n = n'
  · subst hnn
    by_cases hll : N = N'
    · have n2 : ((N : Int) != (N' : Int)) = false := by simp; omega
      have HEQ := Lib.hid hll
      clear hll
      have c0 : ((w.alloc (.cells #[.bool m, i64 i, .string n, .slice ad N c] 33)).alloc (.cells #[.bool m', i64 i', .string n, .slice ad' N' c'] 33)).drew.cell? ⟨w.heap.size, 3, none⟩ = some (.slice ad N c) :=
        ((Blk.new w 33 #[.bool m, i64 i, .string n, .slice ad N c]).alloc _).cell 3 _ rfl
      have c1 : ((w.alloc (.cells #[.bool m, i64 i, .string n, .slice ad N c] 33)).alloc (.cells #[.bool m', i64 i', .string n, .slice ad' N' c'] 33)).drew.cell? ⟨w.heap.size + 1, 3, none⟩ = some (.slice ad' N' c') := by
        have := (Blk.new (w.alloc (.cells #[.bool m, i64 i, .string n, .slice ad N c] 33)) 33 #[.bool m', i64 i', .string n, .slice ad' N' c']).cell 3 _ rfl
        simp only [World.alloc, Array.size_push] at this
        exact this
      go_enter Try.func42, Try.ntmps42
      go_wp2_with fail
      go_region_held3 (fun w' => w'.cell? ⟨w.heap.size, 3, none⟩ = some (.slice ad N c) ∧ w'.cell? ⟨w.heap.size + 1, 3, none⟩ = some (.slice ad' N' c')) (go_keep) (first
        | (go_at_call 52; (with_reducible refine (counts_any (atrs_up H.out.1)).mono ?_); rintro e w1 ⟨ba, rfl, hca, hba, hb1⟩; have s0 := (hb1.cell (p := ⟨w.heap.size, 3, none⟩) (by simp; omega)).trans c0; have s1 := (hb1.cell (p := ⟨w.heap.size + 1, 3, none⟩) (by simp)).trans c1; have HA := Lib.hid (And.intro hca (And.intro hba hb1)); clear hca hba hb1)
        | (go_at_call 52; (with_reducible refine (counts_any ((atrs_up H.out.2).below HA.out.2.2)).mono ?_); rintro e w2 ⟨bb, rfl, hcb, hbb, hb2⟩; have t0 := (hb2.cell (p := ⟨w.heap.size, 3, none⟩) (by have := HA.out.2.2.size; simp at this; simp; omega)).trans s0; have t1 := (hb2.cell (p := ⟨w.heap.size + 1, 3, none⟩) (by have := HA.out.2.2.size; simp at this; simp; omega)).trans s1; have HB := Lib.hid (And.intro hcb (And.intro hbb hb2)); clear hcb hbb hb2))
      have hw2 : Below w.heap.size w w2 := by
        have b0 := ((((Below.refl w.heap.size w).alloc (Nat.le_refl _) (.cells #[.bool m, i64 i, .string n, .slice ad N c] 33)).alloc (by simp) (.cells #[.bool m', i64 i', .string n, .slice ad' N' c'] 33)).drew)
        have b1 := b0.trans (HA.out.2.2.mono b0.size)
        exact b1.trans (HB.out.2.2.mono b1.size)
      have HW2 := Lib.hid hw2
      clear hw2
      go_wp2
      go_loopw [32] (fun i wr => ∃ k : Nat, k ≤ N ∧ i = i64 k ∧ Hid (((l.take k).all fun x => decide (cnt x l = 1) && decide (cnt x l' = 1)) = true) ∧ Below w2.heap.size w2 wr) (fun i _ => N - (intOf i).toNat)
      case atStart => exact ⟨0, Nat.zero_le _, rfl, Lib.hid rfl, Below.refl _ _⟩
      case round =>
        obtain ⟨k, hk, rfl, HG, hbel⟩ := hrel
        by_cases hlt : k < N
        · obtain ⟨x, hx⟩ : ∃ x, l[k]? = some x := ⟨_, List.getElem?_eq_getElem (by rw [HNN.out.1]; exact hlt)⟩
          obtain ⟨a, b⟩ := x
          obtain ⟨g, off, had, hg, _, hc⟩ := HRR.out (fun e => by have := HNN.out.1; rw [e] at this; simp at this; omega)
          obtain ⟨d0, d1⟩ := hc k _ hx
          have z1 := HA.out.2.2.size
          have z2 := HB.out.2.2.size
          simp only [World.drew, World.alloc, Array.size_push] at z1
          have hg1 : g < w1.heap.size := by omega
          have up1 := fun (o : Nat) => (HA.out.2.2.cell (p := ⟨g, o, none⟩) (by simp; omega)).trans (((((Below.refl w.heap.size w).alloc (Nat.le_refl _) _).alloc (by simp) _).drew).cell (p := ⟨g, o, none⟩) hg)
          have e0 := (hbel.cell (p := ⟨g, off + k * 2, none⟩) (by simp only; omega)).trans ((HB.out.2.2.cell (p := ⟨g, off + k * 2, none⟩) hg1).trans ((up1 _).trans d0))
          have e1 := (hbel.cell (p := ⟨g, off + k * 2 + 1, none⟩) (by simp only; omega)).trans ((HB.out.2.2.cell (p := ⟨g, off + k * 2 + 1, none⟩) hg1).trans ((up1 _).trans d1))
          simp only at e0 e1
          have hok := HOK.out _ (List.mem_of_getElem? hx)
          have hq0 : Below wr.heap.size wr (wr.alloc (.cells #[.string a, .string b] 60)) := (Below.refl _ wr).alloc (Nat.le_refl _) _
          have L0 := (((HA.out.1.below HB.out.2.2).below hbel).below hq0).look hok
          have L1 := ((HB.out.1.below hbel).below hq0).look hok
          obtain ⟨q, hq⟩ : ∃ q, cnt (a, b) l = q := ⟨_, rfl⟩
          obtain ⟨q', hq'⟩ : ∃ q', cnt (a, b) l' = q' := ⟨_, rfl⟩
          rw [hq] at L0
          rw [hq'] at L1
          unfold keyV at L0 L1
          simp only at L0 L1
          have HX := Lib.hid (And.intro hx (And.intro hq hq'))
          have HAD := Lib.hid had
          have HBE := Lib.hid hbel
          clear hc hx had d0 d1 hok hq hq' hbel up1 z1 z2 hg1 hq0
          rw [HAD.out]
          by_cases hq1 : q = 1
          · have n3 : ((q : Int) != 1) = false := by simp; omega
            by_cases hq1' : q' = 1
            · have n4 : ((q' : Int) != 1) = false := by simp; omega
              go_wp2
              go_roundw
              case rel =>
                refine ⟨k + 1, by omega, by go_num, Lib.hid ?_, HBE.out.alloc HBE.out.size _⟩
                rw [List.take_add_one, HX.out.1, List.all_append, HG.out]
                simp [HX.out.2.1, HX.out.2.2, hq1, hq1']
              case measure => simp [intOf]; omega
            · have n4 : ((q' : Int) != 1) = true := by simp; omega
              have hrf := alike_no (n := n) (n' := n) (l' := l') HX.out.1 (by rw [HX.out.2.1, HX.out.2.2]; exact fun h => hq1' h.2)
              rw [HR0.out] at hrf
              have HRF := Lib.hid hrf
              clear hrf
              go_wp2
              go_ret
              exact ⟨by rw [HRF.out]; rfl, (HW2.out.trans (HBE.out.mono HW2.out.size)).alloc (Nat.le_trans HW2.out.size HBE.out.size) _⟩
          · have n3 : ((q : Int) != 1) = true := by simp; omega
            have hrf := alike_no (n := n) (n' := n) (l' := l') HX.out.1 (by rw [HX.out.2.1, HX.out.2.2]; exact fun h => hq1 h.1)
            rw [HR0.out] at hrf
            have HRF := Lib.hid hrf
            clear hrf
            go_wp2
            go_ret
            exact ⟨by rw [HRF.out]; rfl, (HW2.out.trans (HBE.out.mono HW2.out.size)).alloc (Nat.le_trans HW2.out.size HBE.out.size) _⟩
        · have hkN : k = N := by omega
          have htk : l.take k = l := List.take_of_length_le (by have := HNN.out.1; omega)
          have hrt : r = true := by
            rw [← HR0.out]
            unfold alikeB
            have h1 := HG.out
            rw [htk] at h1
            rw [h1, HNN.out.1, HNN.out.2, HEQ.out]
            simp
          have HRT := Lib.hid hrt
          clear htk hrt
          go_wp2
          go_ret
          exact ⟨by rw [HRT.out]; rfl, HW2.out.trans (hbel.mono HW2.out.size)⟩
    · have n2 : ((N : Int) != (N' : Int)) = true := by simp; omega
      have hrf : r = false := by
        rw [← HR0.out]
        unfold alikeB
        rw [HNN.out.1, HNN.out.2]
        simp [hll]
      have HRF := Lib.hid hrf
      clear hll hrf
      go_enter Try.func42, Try.ntmps42
      go_wp2
      go_ret
      exact ⟨by rw [HRF.out]; rfl, ((Below.refl _ w).alloc (Nat.le_refl _) _).alloc (by simp) _⟩
  · have n1 : ¬ n.toList = n'.toList := fun h => hnn (toList_inj h)
    have hrf : r = false := by
      rw [← HR0.out]
      unfold alikeB
      simp [hnn]
    have HRF := Lib.hid hrf
    clear hnn hrf
    go_enter Try.func42, Try.ntmps42
    go_wp2
    go_ret
    exact ⟨by rw [HRF.out]; rfl, ((Below.refl _ w).alloc (Nat.le_refl _) _).alloc (by simp) _⟩
end Go.Proofs.Ytjopfgdgmniigaa
