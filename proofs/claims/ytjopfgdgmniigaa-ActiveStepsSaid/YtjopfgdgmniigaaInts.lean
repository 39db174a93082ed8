/-
  rectoplain.Ints, walked: are two lists of integers equal? It only reads.
  Written by an AI agent.
-/
import Derived.Test.YtjopfgdgmniigaaProg
import Derived.Test.YtjopfgdgmniigaaBase
import Derived.Outline
import Derived.RegionTactic
import Derived.Deep.QuietTactic
import Derived.BigQuiet
import Derived.Lib.Hide
import Derived.Handy
import Derived.KernelRfl
import Derived.Deep.LoopGhost
namespace Go.Proofs.Ytjopfgdgmniigaa
open Go.RowKit

/-- The slice v reads as these integers. -/
def IntsAt (w : World) (v : Value) (xs : List Int) : Prop :=
  ∃ ad c, v = .slice ad xs.length c ∧ xs.length ≤ 1000000000 ∧ (xs ≠ [] → ∃ g off, ad = some ⟨g, off, none⟩ ∧ g < w.heap.size ∧ ∀ (k : Nat) (x : Int), xs[k]? = some x → w.cell? ⟨g, off + k, none⟩ = some (i64 x))

theorem IntsAt.of_own {w : World} {base : Nat} {e : TypeId} {v : Value} {xs : List Int} (h : w.ownsRow base e 1 v xs.length (xs.map fun x => i64 x)) (hl : xs.length ≤ 1000000000) : IntsAt w v xs := by
  rcases h.2 with ⟨rfl, hn⟩ | ⟨g, cap, cur, rfl, _, hg, _⟩
  · exact ⟨none, 0, by rw [hn], hl, fun hne => absurd (List.length_eq_zero_iff.1 hn) hne⟩
  · refine ⟨some ⟨g, 0, none⟩, cap, rfl, hl, fun _ => ⟨g, 0, rfl, (Array.getElem?_eq_some_iff.1 hg).1, fun k x hx => ?_⟩⟩
    have hc := h.cells (g := g) rfl k (i64 x) (by rw [List.getElem?_map, hx]; rfl)
    have e : (⟨g, 0, none⟩ : Addr).add k = ⟨g, 0 + k, none⟩ := by unfold Addr.add; split <;> simp_all
    rw [e] at hc
    exact hc
theorem IntsAt.below {w w' : World} {v : Value} {xs : List Int} (h : IntsAt w v xs) (hb : Below w.heap.size w w') : IntsAt w' v xs := by
  obtain ⟨ad, c, hv, hl, hr⟩ := h
  refine ⟨ad, c, hv, hl, fun hne => ?_⟩
  obtain ⟨g, off, ha, hg, hc⟩ := hr hne
  exact ⟨g, off, ha, Nat.lt_of_lt_of_le hg hb.size, fun k x hx => (hb.cell (p := ⟨g, off + k, none⟩) hg).trans (hc k x hx)⟩
theorem IntsAt.drew {w : World} {v : Value} {xs : List Int} (h : IntsAt w v xs) : IntsAt w.drew v xs := h
theorem IntsAt.drewN {w : World} {v : Value} {xs : List Int} (h : IntsAt w v xs) (n : Nat) : IntsAt (w.drewN n) v xs := h
theorem IntsAt.nil (w : World) (ad : Option Addr) (c : Nat) : IntsAt w (.slice ad 0 c) [] := ⟨ad, c, rfl, by simp, fun h => absurd rfl h⟩

set_option maxHeartbeats 2000000 in
theorem ints_any {w : World} {va vb : Value} {xs ys : List Int} (ha : IntsAt w va xs) (hb : IntsAt w vb ys) :
    Calls Try.prog 18 #[va, vb] w fun e w' => e = .returned (.bool (decide (xs = ys))) ∧ ∃ n, w.drewN n = w' := by
  obtain ⟨ad, ca, rfl, hla, hra⟩ := ha
  obtain ⟨bd, cb, rfl, hlb, hrb⟩ := hb
  obtain ⟨n, hn⟩ : ∃ n, xs.length = n := ⟨_, rfl⟩
  obtain ⟨m, hm⟩ : ∃ m, ys.length = m := ⟨_, rfl⟩
  rw [hn] at hla ⊢
  rw [hm] at hlb ⊢
  obtain ⟨r, hr⟩ : ∃ r, decide (xs = ys) = r := ⟨_, rfl⟩
  rw [hr]
  have HN := Lib.hid hn
  have HM := Lib.hid hm
  have HR := Lib.hid hr
  have HA := Lib.hid hra
  have HB := Lib.hid hrb
  clear hn hm hr hra hrb
  go_enter Try.func18, Try.ntmps18
  go_wp2
  go_loopw [8] (fun i wr => ∃ k : Nat, k ≤ n ∧ i = i64 k ∧ (∃ d, wr = w.drewN d) ∧ Hid (k ≤ m ∧ xs.take k = ys.take k)) (fun i _ => n - (intOf i).toNat)
  case atStart => exact ⟨0, Nat.zero_le _, rfl, ⟨0, rfl⟩, ⟨Nat.zero_le _, rfl⟩⟩
  case round =>
    obtain ⟨k, hk, rfl, ⟨d, rfl⟩, HK⟩ := hrel
    by_cases hlt : k < n
    · by_cases hkm : k < m
      · obtain ⟨x, hx⟩ : ∃ x, xs[k]? = some x := ⟨_, List.getElem?_eq_getElem (by rw [HN.out]; exact hlt)⟩
        obtain ⟨y, hy⟩ : ∃ y, ys[k]? = some y := ⟨_, List.getElem?_eq_getElem (by rw [HM.out]; exact hkm)⟩
        obtain ⟨ga, oa, hada, _, hca⟩ := HA.out (fun e => by have := HN.out; rw [e] at this; simp at this; omega)
        obtain ⟨gb, ob, hbdb, _, hcb⟩ := HB.out (fun e => by have := HM.out; rw [e] at this; simp at this; omega)
        have c1 := hca k x hx
        have c2 := hcb k y hy
        have HX := Lib.hid hx
        have HY := Lib.hid hy
        have HAD := Lib.hid hada
        have HBD := Lib.hid hbdb
        have hb0 : decide ((m : Int) ≤ (k : Int)) = false := by simp; omega
        have b1 : (0 : Int) ≤ (k : Int) := by omega
        have b2 : (k : Int) < (n : Int) := by omega
        have b3 : (k : Int) < (m : Int) := by omega
        clear hx hy hca hcb hada hbdb
        rw [HAD.out, HBD.out]
        by_cases hxy : x = y
        · have e1 : (x != y) = false := by simpa using hxy
          have HXY := Lib.hid hxy
          clear hxy
          go_wp2_with fail
          go_quiet (fail)
          go_wp2
          go_roundw
          case rel =>
            refine ⟨k + 1, by omega, by go_num, ⟨_, rfl⟩, by omega, ?_⟩
            rw [List.take_add_one, List.take_add_one, HX.out, HY.out, HK.out.2, HXY.out]
          case measure => simp [intOf]; omega
        · have e1 : (x != y) = true := by simpa using hxy
          have HXY := Lib.hid hxy
          clear hxy
          go_wp2_with fail
          go_quiet (fail)
          go_wp2
          go_ret
          refine ⟨?_, by first | exact ⟨_, rfl⟩ | exact ⟨_, (World.drewN_drewN ..).symm⟩⟩
          have hf : r = false := by
            rw [← HR.out]
            refine decide_eq_false fun e => ?_
            have h1 := HX.out
            rw [e, HY.out] at h1
            exact HXY.out (Option.some.inj h1).symm
          rw [hf]; rfl
      · have hb0 : decide ((m : Int) ≤ (k : Int)) = true := by simp; omega
        go_wp2_with fail
        go_quiet (fail)
        go_wp2
        go_ret
        refine ⟨?_, by first | exact ⟨_, rfl⟩ | exact ⟨_, (World.drewN_drewN ..).symm⟩⟩
        have hf : r = false := by
          rw [← HR.out]
          refine decide_eq_false fun e => ?_
          have h1 := HN.out
          rw [e, HM.out] at h1
          omega
        rw [hf]; rfl
    · have hr2 : ((n : Int) == (m : Int)) = r := by
        rw [← HR.out]
        have h1 := HK.out
        have hkn : k = n := by omega
        by_cases hnm : n = m
        · have : xs = ys := by
            have h2 := h1.2
            rw [List.take_of_length_le (by rw [HN.out]; omega), List.take_of_length_le (by rw [HM.out]; omega)] at h2
            exact h2
          rw [decide_eq_true this, hnm]
          simp
        · rw [decide_eq_false]
          · simp; omega
          · intro e
            have h3 := HN.out
            rw [e, HM.out] at h3
            exact hnm h3.symm
      have HR2 := Lib.hid hr2
      clear hr2
      go_wp2
      go_ret
      exact ⟨by rw [← HR2.out]; rfl, d, rfl⟩

end Go.Proofs.Ytjopfgdgmniigaa
