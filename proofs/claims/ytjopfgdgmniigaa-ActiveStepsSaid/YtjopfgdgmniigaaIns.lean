/-
  slices.Insert of one element ahead of another, walked.
  Written by an AI agent.
-/
import Derived.Test.YtjopfgdgmniigaaPut
import Derived.Test.YtjopfgdgmniigaaSplice
import Derived.Lib.Overlaps
import Derived.Maps.AppendAt
import Derived.StillTailTactics
namespace Go.Proofs.Ytjopfgdgmniigaa
open Go.RowKit Go.Maps

theorem size33 : (Try.prog.info? 33).map (·.size) = some 4 := by
  have := info33
  cases hh : Try.prog.info? 33 with
  | none => rw [hh] at this; cases this
  | some j => rw [hh] at this; simp at this; simp [this]

set_option maxHeartbeats 4000000 in
theorem news_at {w : World} {g2 : Nat} {x : List Value} (h : Blk w g2 33 x.toArray) : ∀ j u, x[j]? = some u → w.cell? ((⟨g2, 0, none⟩ : Addr).add j) = some u := by
  intro j u hu
  have e1 : (⟨g2, 0, none⟩ : Addr).add j = ⟨g2, j, none⟩ := by unfold Addr.add; split <;> simp_all
  rw [e1, cell_of_row w g2 j x.toArray 33 (0, 0) h]
  simpa using hu

set_option maxRecDepth 100000 in
theorem insert_room {w : World} {B n g g2 cap k : Nat} {xs x : List Value} (hown : w.ownsRow B 33 4 (.slice (some ⟨g, 0, none⟩) n cap) n xs) (hn : n ≤ 1000000) (hk : k < n) (hone : ∀ u ∈ xs, u.oneCell' = true)
    (hx : x.length = 4) (hb : Blk w g2 33 x.toArray) (hx1 : ∀ u ∈ x, u.oneCell' = true) (hne : g2 ≠ g) (hcap : n + 1 ≤ cap) :
    Calls Try.prog 53 #[.slice (some ⟨g, 0, none⟩) n cap, i64 k, .slice (some ⟨g2, 0, none⟩) 1 1] w (InsIt B (n + 1) (.slice (some ⟨g, 0, none⟩) n cap) (xs.take (k * 4) ++ (x ++ xs.drop (k * 4))) w) := by
  have hm : cap ≤ 9223372036854775807 := by
    rcases hown.2 with ⟨he, _⟩ | ⟨g', cap', cur, he, _, _, hnc, hm, _, _⟩
    · cases he
    · simp only [Value.slice.injEq] at he
      unfold maxLen at hm
      omega
  have h1 : ((k : Int) == (n : Int)) = false := by simp; omega
  have h2 : decide ((cap : Int) < (n : Int) + 1) = false := by simp; omega
  have h3 : (k : Int) ≤ (n : Int) := by omega
  have hblk : ∃ cur : Array Value, w.heap[g]? = some (.cells cur 33 (0, 0)) ∧ cur.size ≠ 0 := by
    rcases hown.2 with ⟨he, _⟩ | ⟨g', cap', cur, he, _, hg, hnc, _, hsz, _⟩
    · cases he
    · simp only [Value.slice.injEq, Option.some.injEq, Addr.mk.injEq, and_true] at he
      obtain ⟨rfl, _, rfl⟩ := he
      exact ⟨cur, hg, by omega⟩
  obtain ⟨cur, hg, hcur⟩ := hblk
  have hov : ∀ lb cb, (callFunc 54 #[.slice (some ⟨g2, 0, none⟩) 1 1, .slice (some ⟨g, (k + 1) * 4, none⟩) lb cb]).run Try.prog w = .ok (.value (.bool false)) w := fun lb cb => by
    rw [run_callFunc_extern Try.func54 (by kernel_rfl) (by kernel_rfl) (by kernel_rfl) (e := Extern.SlicesOverlaps.overlaps #[38, 38] #[4]) (by kernel_rfl),
      Lib.run_overlaps_apart w 38 4 33 Try.underlying38 4 (fun w => by have := size33; simp only [sizeOf, typeInfo]; cases hh : Try.prog.info? 33 with | none => rw [hh] at this; cases this | some j => rw [hh] at this; simp at this; simp [hh, this]) ⟨g2, 0, none⟩ ⟨g, (k + 1) * 4, none⟩ 1 1 lb cb hne 33 33 4 cur.size
        (by unfold World.shape?; rw [hb]; simp [hx]) (by unfold World.shape?; rw [hg]) hcur (by unfold World.frozen?; rw [hb]; simp) (by unfold World.frozen?; rw [hb]; simp)]
    rfl
  have h4 : ¬ cap = k + 1 := by omega
  have h5 : ¬ cap = k := by omega
  obtain ⟨ys, hys, hroom⟩ := own_room hown hcap
  have HR := Lib.hid (And.intro hys hroom)
  have HX := Lib.hid (And.intro hx (And.intro hx1 (And.intro hb hone)))
  have HO := Lib.hid hown
  clear hg hcur hys hroom hx hx1 hb hone hown
  go_enter Try.func53, Try.ntmps53
  go_wp2_with (simp only [hov])
  have s0 : k ≤ cap := by omega
  have s1 : (k : Int) ≤ (n : Int) + 1 := by omega
  have s2 : (0 : Int) ≤ (k : Int) + 1 := by omega
  have s3 : (k : Int) + 1 ≤ (n : Int) + 1 := by omega
  have s4 : ((k : Int) + 1).toNat = k + 1 := by omega
  have s5 : k + 1 ≤ n + 1 := by omega
  have s6 : k + 1 ≤ cap := by omega
  have s7 : IntKind.i64.wrap ((k : Int) + 1) = (k : Int) + 1 := IntWalk.i64_in _ (by omega)
  go_still_tail 8, (by kernel_rfl)
  change wpList _ _ _ _ _ w.drew
  refine wpList_copy_rows rfl (.tmp 73) (.tmp 76) 38 38 rfl 33 4 Try.underlying38 size33 g ((k + 1) * 4) _ _ ⟨g, k * 4, none⟩ _ _ rfl rfl B (n + 1) cap (xs ++ ys) (xs.drop (k * 4)) HR.out.2
        (by rw [List.length_drop, own_length HO.out]; simp only [Nat.min_def]; split <;> omega) (own_at HO.out) (by rw [List.length_drop, List.length_append, own_length HO.out, HR.out.1]; omega) (fun u hu => HX.out.2.2.2 u (List.mem_of_mem_drop hu)) ?_
  intro w2 hw2 hgr2
  have H2 := Lib.hid (And.intro hw2 hgr2)
  clear hw2 hgr2
  have hgr : Hid (w.grownBy w2 (some g)) := Lib.hid ⟨H2.out.2.os, H2.out.2.tape, H2.out.2.output, H2.out.2.size, H2.out.2.block⟩
  have hb2 : Blk w2 g2 33 x.toArray := (hgr.out.block g2 HX.out.2.2.1.lt (by intro e; injection e with e; exact hne e)).trans HX.out.2.2.1
  have HN := Lib.hid (news_at hb2)
  clear hb2
  go_wp2_with (first
    | (refine wpList_copy_rows rfl (.tmp 80) (.tmp 81) 38 38 rfl 33 4 Try.underlying38 size33 g (k * 4) _ _ ⟨g2, 0, none⟩ 1 1 rfl rfl B (n + 1) cap (lay (xs ++ ys) ((k + 1) * 4) (xs.drop (k * 4))) x H2.out.1
        (by rw [HX.out.1]; simp only [Nat.min_def]; split <;> omega) HN.out (by rw [own_length H2.out.1, HX.out.1]; omega) HX.out.2.1 ?_; intro w3 hw3 hgr3; have H3 := Lib.hid (And.intro hw3 hgr3); clear hw3 hgr3))
  go_ret
  have hr := H3.out.1
  rw [lay_in HX.out.1 HR.out.1 (by omega) (own_length HO.out)] at hr
  exact ⟨_, rfl, hr, hgr.out.trans H3.out.2⟩

set_option maxRecDepth 100000 in
set_option maxHeartbeats 4000000 in
theorem insert_grow {w : World} {B n g g2 cap k : Nat} {xs x : List Value} (hown : w.ownsRow B 33 4 (.slice (some ⟨g, 0, none⟩) n cap) n xs) (hn : n ≤ 1000000) (hk : k < n) (hone : ∀ u ∈ xs, u.oneCell' = true)
    (hx : x.length = 4) (hb : Blk w g2 33 x.toArray) (hx1 : ∀ u ∈ x, u.oneCell' = true) (hcap : cap < n + 1) (hB : B ≤ w.heap.size) :
    Calls Try.prog 53 #[.slice (some ⟨g, 0, none⟩) n cap, i64 k, .slice (some ⟨g2, 0, none⟩) 1 1] w (InsIt B (n + 1) (.slice (some ⟨g, 0, none⟩) n cap) (xs.take (k * 4) ++ (x ++ xs.drop (k * 4))) w) := by
  have hm : n ≤ cap := by
    rcases hown.2 with ⟨he, _⟩ | ⟨g', cap', cur, he, _, _, hnc, hm, _, _⟩
    · cases he
    · simp only [Value.slice.injEq] at he
      omega
  have hgl : g < w.heap.size := (hown.lt g rfl).2
  have h1 : ((k : Int) == (n : Int)) = false := by simp; omega
  have h2 : decide ((cap : Int) < (n : Int) + 1) = true := by simp; omega
  have h3 : (k : Int) ≤ (n : Int) := by omega
  have h4 : ¬ cap = k := by omega
  have h5 : (n : Int) + 1 - (k : Int) = ((n + 1 - k : Nat) : Int) := by omega
  have hcut := own_short hown (k := k) (by omega)
  obtain ⟨i0, hi, hz0, hz1, hz2⟩ := info_parts info33
  have HC := Lib.hid hcut
  have HX := Lib.hid (And.intro hx (And.intro hx1 (And.intro hb hone)))
  have HO := Lib.hid hown
  clear hcut hx hx1 hb hone hown
  have hkn : k + (n + 1 - k) = n + 1 := by omega
  go_enter Try.func53, Try.ntmps53
  go_wp2_with (first
    | (at_builtin; refine wpList_append_zeros rfl (.tmp 34) (.tmp 39) 38 3 rfl B 33 .i64 i0 _ 4 56 Try.underlying38 Try.underlying3 hi hz0 hz1 hz2 rfl (by decide) g k cap (n + 1 - k) (xs.take (k * 4)) rfl HC.out rfl (by omega) (by omega) (by unfold maxLen; omega) (by omega) hB ?_; intro cap2 zs w2 hzl hcp hw2 hbl2; rw [hkn] at hcp hw2; have hcm2 : cap2 ≤ 9223372036854775807 := own_cap hw2; have H2 := Lib.hid (And.intro hzl (And.intro hw2 hbl2)); have HN := Lib.hid (news_at ((hbl2.block g2 HX.out.2.2.1.lt).trans HX.out.2.2.1)); have HLS := Lib.hid (own_length hw2); clear hzl hw2 hbl2)
    | (refine wpList_copy_rows rfl (.tmp 43) (.tmp 44) 38 38 rfl 33 4 Try.underlying38 size33 w.heap.size (k * 4) _ _ ⟨g2, 0, none⟩ 1 1 rfl rfl B (n + 1) cap2 (xs.take (k * 4) ++ zs) x H2.out.2.1
        (by rw [HX.out.1]; simp only [Nat.min_def]; split <;> omega) HN.out (by rw [HLS.out, HX.out.1]; omega) HX.out.2.1 ?_; intro w3 hw3 hgr3; have H3 := Lib.hid (And.intro hw3 hgr3); clear hw3 hgr3))
  have ho3 : w3.ownsRow B 33 4 (.slice (some ⟨g, 0, none⟩) n cap) n xs := by
    have h1 := own_below HO.out H2.out.2.2 (Nat.le_refl _)
    exact h1.kept H3.out.2 (.inr (fun e => absurd (Option.some.inj e) (by simp only; omega)))
  have HO3 := Lib.hid ho3
  clear ho3
  have s1 : (k : Int) ≤ (n : Int) + 1 := by omega
  have s2 : (0 : Int) ≤ (k : Int) + 1 := by omega
  have s3 : (k : Int) + 1 ≤ (n : Int) + 1 := by omega
  have s4 : ((k : Int) + 1).toNat = k + 1 := by omega
  have s5 : k + 1 ≤ n + 1 := by omega
  have s6 : ¬ cap2 = k + 1 := by omega
  have s7 : IntKind.i64.wrap ((k : Int) + 1) = (k : Int) + 1 := IntWalk.i64_in _ (by omega)
  go_still_tail 8, (by kernel_rfl)
  change wpList _ _ _ _ _ w3.drew
  refine wpList_copy_rows rfl (.tmp 50) (.tmp 53) 38 38 rfl 33 4 Try.underlying38 size33 w.heap.size ((k + 1) * 4) _ _ ⟨g, k * 4, none⟩ _ _ rfl rfl B (n + 1) cap2 (lay (xs.take (k * 4) ++ zs) (k * 4) x) (xs.drop (k * 4)) H3.out.1
        (by rw [List.length_drop, own_length HO.out]; simp only [Nat.min_def]; split <;> omega) (own_at HO3.out) (by rw [List.length_drop, own_length H3.out.1, own_length HO.out]; omega) (fun u hu => HX.out.2.2.2 u (List.mem_of_mem_drop hu)) ?_
  intro w4 hw4 hgr4
  have H4 := Lib.hid (And.intro hw4 hgr4)
  clear hw4 hgr4
  go_wp2
  go_ret
  have hr := H4.out.1
  rw [lay_grown HX.out.1 H2.out.1 (by omega) (own_length HO.out)] at hr
  have g3 : w.grownBy w3 (some w.heap.size) := ⟨H3.out.2.os.trans H2.out.2.2.os, H3.out.2.tape.trans H2.out.2.2.tape, H3.out.2.output.trans H2.out.2.2.output, Nat.le_trans H2.out.2.2.size H3.out.2.size, fun i hi hne => (H3.out.2.block i (Nat.lt_of_lt_of_le hi H2.out.2.2.size) hne).trans (H2.out.2.2.block i hi)⟩
  have g4 : w.grownBy w4 (some w.heap.size) := ⟨H4.out.2.os.trans g3.os, H4.out.2.tape.trans g3.tape, H4.out.2.output.trans g3.output, Nat.le_trans g3.size H4.out.2.size, fun i hi hne => (H4.out.2.block i (Nat.lt_of_lt_of_le hi g3.size) hne).trans (g3.block i hi hne)⟩
  exact ⟨_, rfl, hr, ⟨g4.os, g4.tape, g4.output, g4.size, fun i hi _ => g4.block i hi (by intro e; injection e with e; omega)⟩⟩

theorem insert_mid {w : World} {B n g2 k : Nat} {v : Value} {xs x : List Value} (hown : w.ownsRow B 33 4 v n xs) (hn : n ≤ 1000000) (hk : k < n) (hone : ∀ u ∈ xs, u.oneCell' = true)
    (hx : x.length = 4) (hb : Blk w g2 33 x.toArray) (hx1 : ∀ u ∈ x, u.oneCell' = true) (hne : v.ownBlock ≠ some g2) (hB : B ≤ w.heap.size) :
    Calls Try.prog 53 #[v, i64 k, .slice (some ⟨g2, 0, none⟩) 1 1] w (InsIt B (n + 1) v (xs.take (k * 4) ++ (x ++ xs.drop (k * 4))) w) := by
  have hown' := hown
  rcases hown'.2 with ⟨rfl, h0⟩ | ⟨g, cap, cur, rfl, _, _, _, _, _, _⟩
  · omega
  · have hne' : g2 ≠ g := fun e => hne (by rw [e]; rfl)
    by_cases hc : n + 1 ≤ cap
    · exact insert_room hown hn hk hone hx hb hx1 hne' hc
    · exact insert_grow hown hn hk hone hx hb hx1 (by omega) hB

end Go.Proofs.Ytjopfgdgmniigaa
