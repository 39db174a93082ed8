/-
  The document's words on tags (rectoref07) and its entries (rectoref09): In, Again, Ends, Is, ends, walked.
  Written by an AI agent.
-/
import Derived.Test.YtdagjpiakbfjpaaRefA
namespace Go.Proofs.Ytdagjpiakbfjpaa
open Go.RowKit

theorem NamesAt.new (w : World) (ns : List ByteArray) (t : TypeId) (cs : Array Value) {n : Nat} (hn : ns.length = n) (hl : n ≤ 1000) (hcs : cs.toList = ns.map .string) : NamesAt (w.alloc (.cells cs t)) (.slice (some ⟨w.heap.size, 0, none⟩) n n) ns := by
  subst hn
  refine ⟨_, _, rfl, by omega, fun _ => ⟨w.heap.size, 0, rfl, by simp, fun k x hk => ?_⟩⟩
  refine (Blk.new w t cs).cell (0 + k) (.string x) ?_
  rw [← Array.getElem?_toList, hcs, Nat.zero_add, List.getElem?_map, hk]
  rfl
theorem NamesAt.math (w : World) : NamesAt (w.alloc (.cells #[.string ⟨#[109, 105]⟩, .string ⟨#[109, 110]⟩, .string ⟨#[109, 111]⟩, .string ⟨#[109, 115]⟩, .string ⟨#[109, 116, 101, 120, 116]⟩] 9)) (.slice (some ⟨w.heap.size, 0, none⟩) 5 5) mathN := NamesAt.new w mathN 9 _ rfl (by decide) rfl
theorem NamesAt.svg (w : World) : NamesAt (w.alloc (.cells #[.string ⟨#[100, 101, 115, 99]⟩, .string ⟨#[102, 111, 114, 101, 105, 103, 110, 111, 98, 106, 101, 99, 116]⟩, .string ⟨#[116, 105, 116, 108, 101]⟩] 9)) (.slice (some ⟨w.heap.size, 0, none⟩) 3 3) svgN := NamesAt.new w svgN 9 _ rfl (by decide) rfl
theorem NamesAt.html (w : World) : NamesAt (w.alloc (.cells #[.string ⟨#[99, 97, 112, 116, 105, 111, 110]⟩, .string ⟨#[104, 116, 109, 108]⟩, .string ⟨#[116, 97, 98, 108, 101]⟩, .string ⟨#[116, 100]⟩, .string ⟨#[116, 104]⟩] 9)) (.slice (some ⟨w.heap.size, 0, none⟩) 5 5) htmlN := NamesAt.new w htmlN 9 _ rfl (by decide) rfl

set_option maxHeartbeats 1000000 in
theorem rmem_any {w : World} {va : Value} {ns : List ByteArray} {r : Bool} (ha : NamesAt w va ns) (x : ByteArray) (hr : memN x ns = r) :
    Calls Try.prog 51 #[.string x, va] w fun e w' => e = .returned (.bool r) ∧ w' = w := by
  obtain ⟨ad, ca, rfl, hla, hra⟩ := ha
  obtain ⟨n, hn⟩ : ∃ n, ns.length = n := ⟨_, rfl⟩
  rw [hn] at hla ⊢
  have HN := Lib.hid hn
  have HA := Lib.hid hra
  have HR := Lib.hid hr
  clear hn hra hr
  go_enter Try.func51, Try.ntmps51
  go_wp2
  go_loopw [9] (fun i wr => ∃ k : Nat, k ≤ n ∧ i = i64 k ∧ Hid (x ∉ ns.take k) ∧ wr = w) (fun i _ => n - (intOf i).toNat)
  case atStart => exact ⟨0, Nat.zero_le _, rfl, Lib.hid (by simp), rfl⟩
  case round =>
    obtain ⟨k, hk, rfl, HK, rfl⟩ := hrel
    by_cases hlt : k < n
    · obtain ⟨y, hy⟩ : ∃ y, ns[k]? = some y := ⟨_, List.getElem?_eq_getElem (by rw [HN.out]; exact hlt)⟩
      obtain ⟨g, off, had, _, hc⟩ := HA.out (fun e => by rw [e] at hy; simp at hy)
      have c1 := hc k y hy
      have HY := Lib.hid hy
      have HAD := Lib.hid had
      clear hc hy had
      rw [HAD.out]
      by_cases hxy : y = x
      · subst hxy
        have hm : r = true := by rw [← HR.out]; exact memN_of (List.mem_of_getElem? HY.out)
        subst hm
        go_wp2
        go_ret
        exact ⟨rfl, rfl⟩
      · have e1 : (y.toList == x.toList) = false := by simpa using fun h => hxy (toList_inj h)
        have HXY := Lib.hid hxy
        clear hxy
        go_wp2
        go_roundw
        case rel =>
          refine ⟨k + 1, by omega, by go_num, Lib.hid ?_, by trivial⟩
          rw [List.take_add_one, HY.out]
          have h1 := HK.out
          have h2 := HXY.out
          simp [h1, Ne.symm h2]
        case measure => simp [intOf]; omega
    · have hm : r = false := by
        have h1 := HK.out
        rw [List.take_of_length_le (by rw [HN.out]; omega)] at h1
        rw [← HR.out]
        exact memN_not h1
      subst hm
      go_wp2
      go_ret
      exact ⟨rfl, rfl⟩

theorem ris_any {w : World} {va : Value} {ns : List ByteArray} {id sp : Int} {nm : ByteArray} (ha : NamesAt w va ns) : Calls Try.prog 46 #[.agg #[i64 id, i64 sp, .string nm], va] w fun e w' => e = .returned (.bool (isB ns ⟨id, sp, nm⟩)) ∧ Below w.heap.size w w' := by
  have HA := Lib.hid ha
  obtain ⟨ad, ca, rfl, _, _⟩ := ha
  obtain ⟨r, hr⟩ : ∃ r, memN nm ns = r := ⟨_, rfl⟩
  have HR := Lib.hid hr
  have hb := Blk.new w 50 #[i64 id, i64 sp, .string nm]
  have x1 := hb.cell 1 (i64 sp) rfl
  have x2 := hb.cell 2 (.string nm) rfl
  have b0 := Lib.hid ((Below.refl _ w).alloc (Nat.le_refl w.heap.size) (.cells #[i64 id, i64 sp, .string nm] 50))
  unfold isB
  simp only
  rw [hr]
  clear hr hb
  by_cases hs : sp = 0
  · have e1 : (sp == 0) = true := by simpa using hs
    have e2 : decide (sp = 0) = true := by simpa using hs
    rw [e2]
    clear hs e2
    go_enter Try.func46, Try.ntmps46
    go_wp2_with (first | (go_at_call 51; (with_reducible refine (rmem_any (HA.out.below b0.out) nm HR.out).mono ?_); rintro e w1 ⟨rfl, rfl⟩))
    go_ret
    exact ⟨rfl, b0.out⟩
  · have e1 : (sp == 0) = false := by simpa using hs
    have e2 : decide (sp = 0) = false := by simpa using hs
    rw [e2]
    clear hs e2
    go_enter Try.func46, Try.ntmps46
    go_wp2
    go_ret
    exact ⟨rfl, b0.out⟩

theorem ris_n {w : World} {va : Value} {ns : List ByteArray} {id sp : Int} {nm : ByteArray} {r : Bool} (ha : NamesAt w va ns) (hr : isB ns ⟨id, sp, nm⟩ = r) : Calls Try.prog 46 #[.agg #[i64 id, i64 sp, .string nm], va] w fun e w' => e = .returned (.bool r) ∧ Below w.heap.size w w' := by
  subst hr
  exact ris_any ha

theorem ragain_any {w : World} {sp : Int} {nm : ByteArray} {b : Bool} (hb : againB sp nm = b) : Calls Try.prog 52 #[i64 sp, .string nm] w fun e w' => (∃ r, e = .returned (i64 r) ∧ (r != 0) = b) ∧ Below w.heap.size w w' := by
  obtain ⟨m, hm⟩ : ∃ m, memN nm mathN = m := ⟨_, rfl⟩
  obtain ⟨s, hs⟩ : ∃ s, memN nm svgN = s := ⟨_, rfl⟩
  unfold againB at hb
  rw [hm, hs] at hb
  have HM := Lib.hid hm
  have HS := Lib.hid hs
  clear hm hs
  by_cases h2 : sp = 2
  · have e1 : (sp == 2) = true := by simpa using h2
    have e2 : (sp == 1) = false := by simp; omega
    have hbm : m = b := by rw [← hb, h2]; simp
    subst hbm
    clear hb h2
    cases m
    · go_enter Try.func52, Try.ntmps52
      go_wp2_with (first | (go_at_call 51; (with_reducible refine (rmem_any (NamesAt.math w) nm HM.out).mono ?_); rintro e w1 ⟨rfl, rfl⟩))
      go_ret
      exact ⟨⟨0, rfl, rfl⟩, (Below.refl _ _).alloc (Nat.le_refl _) _⟩
    · go_enter Try.func52, Try.ntmps52
      go_wp2_with (first | (go_at_call 51; (with_reducible refine (rmem_any (NamesAt.math w) nm HM.out).mono ?_); rintro e w1 ⟨rfl, rfl⟩))
      go_ret
      exact ⟨⟨1, rfl, rfl⟩, (Below.refl _ _).alloc (Nat.le_refl _) _⟩
  · have e1 : (sp == 2) = false := by simpa using h2
    by_cases h1 : sp = 1
    · have e2 : (sp == 1) = true := by simpa using h1
      have hbm : s = b := by rw [← hb, h1]; simp
      subst hbm
      clear hb h1 h2
      cases s
      · go_enter Try.func52, Try.ntmps52
        go_wp2_with (first | (go_at_call 51; (with_reducible refine (rmem_any (NamesAt.svg w) nm HS.out).mono ?_); rintro e w1 ⟨rfl, rfl⟩))
        go_ret
        exact ⟨⟨0, rfl, rfl⟩, (Below.refl _ _).alloc (Nat.le_refl _) _⟩
      · go_enter Try.func52, Try.ntmps52
        go_wp2_with (first | (go_at_call 51; (with_reducible refine (rmem_any (NamesAt.svg w) nm HS.out).mono ?_); rintro e w1 ⟨rfl, rfl⟩))
        go_ret
        exact ⟨⟨2, rfl, rfl⟩, (Below.refl _ _).alloc (Nat.le_refl _) _⟩
    · have e2 : (sp == 1) = false := by simpa using h1
      have hbm : b = false := by rw [← hb]; simp [h1, h2]
      subst hbm
      clear hb h1 h2
      go_enter Try.func52, Try.ntmps52
      go_wp2
      go_ret
      exact ⟨⟨0, rfl, rfl⟩, Below.refl _ _⟩

theorem rtag_any {w : World} {sp : Int} {nm : ByteArray} {r : Bool} (hr : tagB sp nm = r) : Calls Try.prog 47 #[i64 sp, .string nm] w fun e w' => e = .returned (.bool r) ∧ Below w.heap.size w w' := by
  unfold tagB at hr
  by_cases h0 : sp = 0
  · have e1 : (sp == 0) = true := by simpa using h0
    have HB : Hid (againB sp nm = false) := Lib.hid (by subst h0; simp [againB])
    rw [if_pos h0] at hr
    have HR := Lib.hid hr
    clear h0 hr
    go_enter Try.func47, Try.ntmps47
    go_wp2_with (first
      | (go_at_call 52; (with_reducible refine (ragain_any HB.out).mono ?_); rintro e w1 ⟨⟨q, rfl, hq⟩, hb1⟩; have H1 := Lib.hid hb1; clear hb1)
      | (go_at_call 51; (with_reducible refine (rmem_any (NamesAt.html w1) nm HR.out).mono ?_); rintro e w2 ⟨rfl, rfl⟩))
    go_ret
    exact ⟨rfl, H1.out.alloc H1.out.size _⟩
  · have e1 : (sp == 0) = false := by simpa using h0
    rw [if_neg h0] at hr
    have HR := Lib.hid hr
    clear h0 hr
    cases r
    · go_enter Try.func47, Try.ntmps47
      go_wp2_with (first
        | (go_at_call 52; (with_reducible refine (ragain_any HR.out).mono ?_); rintro e w1 ⟨⟨q, rfl, hq⟩, hb1⟩; have H1 := Lib.hid hb1; clear hb1))
      go_ret
      exact ⟨rfl, H1.out⟩
    · go_enter Try.func47, Try.ntmps47
      go_wp2_with (first
        | (go_at_call 52; (with_reducible refine (ragain_any HR.out).mono ?_); rintro e w1 ⟨⟨q, rfl, hq⟩, hb1⟩; have H1 := Lib.hid hb1; clear hb1))
      go_ret
      exact ⟨rfl, H1.out⟩

def rendB (scope : Int) (e : Ent) : Bool := if scope = 2 then isB tblN e else tagB e.space e.name || (decide (scope = 1) && isB lstN e)
theorem rendB_eq (scope : Int) (e : Ent) : rendB scope e = endB scope e := by
  unfold rendB endB
  by_cases h2 : scope = 2
  · rw [if_pos h2, if_pos h2]
  · rw [if_neg h2, if_neg h2]
    by_cases h1 : scope = 1 <;> cases hb : isB lstN e <;> simp [h1]

theorem rends_any {w : World} {scope id sp : Int} {nm : ByteArray} {r : Bool} (hr : endB scope ⟨id, sp, nm⟩ = r) : Calls Try.prog 38 #[i64 scope, .agg #[i64 id, i64 sp, .string nm]] w fun e w' => e = .returned (.bool r) ∧ Below w.heap.size w w' := by
  have hb := Blk.new w 50 #[i64 id, i64 sp, .string nm]
  have x0 := hb.cell 0 (i64 id) rfl
  have x1 := hb.cell 1 (i64 sp) rfl
  have x2 := hb.cell 2 (.string nm) rfl
  have b0 := Lib.hid ((Below.refl _ w).alloc (Nat.le_refl w.heap.size) (.cells #[i64 id, i64 sp, .string nm] 50))
  obtain ⟨w0, hw0⟩ : ∃ w0, w.alloc (.cells #[i64 id, i64 sp, .string nm] 50) = w0 := ⟨_, rfl⟩
  rw [hw0] at hb x0 x1 x2 b0
  have HBX := Lib.hid hb
  rw [← rendB_eq] at hr
  unfold rendB at hr
  obtain ⟨rl, hrl⟩ : ∃ r, isB [⟨#[111, 108]⟩, ⟨#[117, 108]⟩] ⟨id, sp, nm⟩ = r := ⟨_, rfl⟩
  obtain ⟨rt, hrt⟩ : ∃ r, tagB sp nm = r := ⟨_, rfl⟩
  have HRL := Lib.hid hrl
  have HRT := Lib.hid hrt
  by_cases h2 : scope = 2
  · have e1 : (scope == 2) = true := by simpa using h2
    rw [if_pos h2] at hr
    have HR : Hid (isB [⟨#[104, 116, 109, 108]⟩, ⟨#[116, 97, 98, 108, 101]⟩] ⟨id, sp, nm⟩ = r) := Lib.hid hr
    clear h2 hr hb hrl hrt
    go_enter Try.func38, Try.ntmps38
    go_wp2_with (first | (go_at_call 46; (with_reducible refine (ris_n (NamesAt.two w0 ⟨#[104, 116, 109, 108]⟩ ⟨#[116, 97, 98, 108, 101]⟩ 9) HR.out).mono ?_); rintro e w1 ⟨rfl, hb1⟩; have H1 := Lib.hid hb1; clear hb1))
    go_ret
    exact ⟨rfl, (b0.out.alloc b0.out.size _).trans (H1.out.mono (b0.out.alloc b0.out.size _).size)⟩
  · have e1 : (scope == 2) = false := by simpa using h2
    rw [if_neg h2] at hr
    simp only at hr
    rw [hrt, show isB lstN ⟨id, sp, nm⟩ = rl from hrl] at hr
    clear h2 hb hrl hrt
    cases rt
    · by_cases h1 : scope = 1
      · have e2 : (scope == 1) = true := by simpa using h1
        have hrr : rl = r := by rw [← hr, h1]; simp
        subst hrr
        clear hr h1
        go_enter Try.func38, Try.ntmps38
        go_wp2_with (first
          | (go_at_call 47; (with_reducible refine (rtag_any HRT.out).mono ?_); rintro e w1 ⟨rfl, hb1⟩; have y0 := (blk_kept HBX.out hb1).cell 0 (i64 id) rfl; have y1 := (blk_kept HBX.out hb1).cell 1 (i64 sp) rfl; have y2 := (blk_kept HBX.out hb1).cell 2 (.string nm) rfl; have H1 := Lib.hid (b0.out.trans (hb1.mono b0.out.size)); clear hb1)
          | (go_at_call 46; (with_reducible refine (ris_n (NamesAt.two w1 ⟨#[111, 108]⟩ ⟨#[117, 108]⟩ 9) HRL.out).mono ?_); rintro e w2 ⟨rfl, hb2⟩; have H2 := Lib.hid hb2; clear hb2))
        go_ret
        exact ⟨rfl, (H1.out.alloc H1.out.size _).trans (H2.out.mono (H1.out.alloc H1.out.size _).size)⟩
      · have e2 : (scope == 1) = false := by simpa using h1
        have hrr : r = false := by rw [← hr]; simp [h1]
        subst hrr
        clear hr h1
        go_enter Try.func38, Try.ntmps38
        go_wp2_with (first
          | (go_at_call 47; (with_reducible refine (rtag_any HRT.out).mono ?_); rintro e w1 ⟨rfl, hb1⟩; have H1 := Lib.hid (b0.out.trans (hb1.mono b0.out.size)); clear hb1))
        go_ret
        exact ⟨rfl, H1.out⟩
    · have hrr : r = true := by rw [← hr]; rfl
      subst hrr
      clear hr
      go_enter Try.func38, Try.ntmps38
      go_wp2_with (first
        | (go_at_call 47; (with_reducible refine (rtag_any HRT.out).mono ?_); rintro e w1 ⟨rfl, hb1⟩; have H1 := Lib.hid (b0.out.trans (hb1.mono b0.out.size)); clear hb1))
      go_ret
      exact ⟨rfl, H1.out⟩
end Go.Proofs.Ytdagjpiakbfjpaa
