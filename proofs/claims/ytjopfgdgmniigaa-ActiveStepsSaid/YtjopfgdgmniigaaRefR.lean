/-
  The document's list (rectoref10): Mark, Insert, Remove, Swap, Clear, Add, walked.
  Written by an AI agent.
-/
import Derived.Test.YtjopfgdgmniigaaRefQ
namespace Go.Proofs.Ytjopfgdgmniigaa
open Go.RowKit Go.Maps

theorem dbel {w w' : World} (h : Below w.heap.size w w') (B : Nat) : Fr B DK w w' := Fr.of_below h B DK

theorem dmark_any {w : World} {B rb : Nat} {es q : List Ent} {r : Int} (h : Doc w B rb es) (hl : es.length ≤ 100) (hq : markS es = q) (hr : markR es = r) :
    Calls Try.prog 30 #[ptr rb] w fun e w' => e = .returned (i64 r) ∧ Doc w' B rb q ∧ Fr B DK w w' := by
  have HH := Lib.hid h
  obtain ⟨n, hn⟩ : ∃ n, es.length = n := ⟨_, rfl⟩
  obtain ⟨ad, c, ps, hL, hps, hpn, c0, hrl, hrow, hfl, hone⟩ := h.row hn
  unfold markS at hq
  unfold markR at hr
  rw [hn] at hl hq hr
  have HN := Lib.hid hn
  clear h hL hps hpn hrow hfl hone hn
  by_cases h100 : n = 100
  · rw [if_pos h100] at hq hr
    subst hq hr h100
    go_enter Try.func30, Try.ntmps30
    go_wp2
    go_ret
    exact ⟨rfl, HH.out, Fr.refl _ _ _⟩
  · rw [if_neg h100] at hq hr
    have hz : decide ((99 : Int) < (n : Int)) = false := by simp; omega
    have HQ : Hid (es.take n ++ markE :: es.drop n = q) := Lib.hid (by
      have hn := HN.out
      rw [List.take_of_length_le (by omega), List.drop_eq_nil_of_le (by omega)]
      exact hq)
    have HL := Lib.hid (show es.length ≤ 1000 ∧ n ≤ es.length by have := HN.out; omega)
    subst hr
    clear hq h100 hl
    go_enter Try.func30, Try.ntmps30
    go_wp2_with (first | (go_at_call 48; (with_reducible refine (dput_any HH.out rfl HL.out.2 HL.out.1 (AtrsAt.nil w B) HQ.out).mono ?_); rintro e w1 ⟨rfl, h1, f1⟩; have H1 := Lib.hid (And.intro h1 f1); clear h1 f1))
    go_ret
    exact ⟨rfl, H1.out.1, H1.out.2⟩

set_option maxHeartbeats 2000000 in
theorem dins_any {w : World} {B rb na ca : Nat} {va : Option Addr} {es q : List Ent} {mk : Bool} {id p r : Int} {nm : ByteArray} {l : List Atr} (h : Doc w B rb es) (hl : es.length ≤ 100) (ha : AtrsAt w B (.slice va na ca) l) (hq : insS es p ⟨mk, id, nm, l⟩ = q) (hr : insR es p ⟨mk, id, nm, l⟩ = r) :
    Calls Try.prog 34 #[ptr rb, i64 p, .agg #[.bool mk, i64 id, .string nm, .slice va na ca]] w fun e w' => e = .returned (i64 r) ∧ Doc w' B rb q ∧ Fr B DK w w' := by
  obtain ⟨n, hn⟩ : ∃ n, es.length = n := ⟨_, rfl⟩
  obtain ⟨ad, c, ps, hL, hps, hpn, c0, hrl, hrow, hfl, hone⟩ := h.row hn
  have hbx := Blk.new w 41 #[.bool mk, i64 id, .string nm, .slice va na ca]
  have b0 := (Below.refl _ w).alloc (Nat.le_refl w.heap.size) (.cells #[.bool mk, i64 id, .string nm, .slice va na ca] 41)
  have HH := Lib.hid (And.intro h (And.intro ha (And.intro hbx b0)))
  obtain ⟨wb, hwb⟩ : ∃ wb, wrongB mk id = wb := ⟨_, rfl⟩
  have HW := Lib.hid hwb
  unfold insS insB at hq
  unfold insR insB at hr
  simp only at hq hr
  rw [hwb, hn] at hq hr
  rw [hn] at hl
  have HN := Lib.hid hn
  have x0 := hbx.cell 0 (.bool mk) rfl
  have x1 := hbx.cell 1 (i64 id) rfl
  have x2 := hbx.cell 2 (.string nm) rfl
  have x3 := hbx.cell 3 (.slice va na ca) rfl
  clear hL hps hpn hrow hfl hone hn h ha hbx b0 hwb
  cases wb
  · rw [Bool.false_or] at hq hr
    by_cases hb0 : p < 0
    · have hz : decide (p < 0) = true := decide_eq_true hb0
      rw [hz, Bool.true_or, if_pos rfl] at hq hr
      subst hq hr
      clear hb0
      go_enter Try.func34, Try.ntmps34
      go_wp2_with (first | (go_at_call 46; (with_reducible refine (dwrong_any HW.out).mono ?_); rintro e w1 ⟨rfl, hb1⟩; have H1 := Lib.hid (HH.out.2.2.2.trans (hb1.mono HH.out.2.2.2.size)); clear hb1))
      go_ret
      exact ⟨rfl, HH.out.1.below H1.out, dbel H1.out B⟩
    have hz : decide (p < 0) = false := decide_eq_false hb0
    rw [hz, Bool.false_or] at hq hr
    by_cases hb1 : (n : Int) < p
    · have hz1 : decide ((n : Int) < p) = true := decide_eq_true hb1
      rw [hz1, if_pos rfl] at hq hr
      subst hq hr
      clear hb0 hb1
      go_enter Try.func34, Try.ntmps34
      go_wp2_with (first | (go_at_call 46; (with_reducible refine (dwrong_any HW.out).mono ?_); rintro e w1 ⟨rfl, hb1⟩; have H1 := Lib.hid (HH.out.2.2.2.trans (hb1.mono HH.out.2.2.2.size)); have c1 := (H1.out.cell (p := ⟨rb, 0, none⟩) hrl).trans c0; clear hb1))
      go_ret
      exact ⟨rfl, HH.out.1.below H1.out, dbel H1.out B⟩
    obtain ⟨k, rfl⟩ : ∃ k : Nat, p = k := ⟨p.toNat, by omega⟩
    have hk : k ≤ n := by omega
    rw [show decide ((n : Int) < (k : Int)) = false by simp; omega] at hq hr
    have hz1 : decide (n < k) = false := by simp; omega
    simp only [Bool.false_eq_true, if_false, Int.toNat_natCast] at hq hr
    by_cases h100 : n = 100
    · rw [if_pos h100] at hq hr
      subst hq hr h100
      clear hb0 hb1 hz
      go_enter Try.func34, Try.ntmps34
      go_wp2_with (first | (go_at_call 46; (with_reducible refine (dwrong_any HW.out).mono ?_); rintro e w1 ⟨rfl, hb1⟩; have H1 := Lib.hid (HH.out.2.2.2.trans (hb1.mono HH.out.2.2.2.size)); have c1 := (H1.out.cell (p := ⟨rb, 0, none⟩) hrl).trans c0; clear hb1))
      go_ret
      exact ⟨rfl, HH.out.1.below H1.out, dbel H1.out B⟩
    · rw [if_neg h100] at hq hr
      have hz2 : decide ((99 : Int) < (n : Int)) = false := by simp; omega
      have HQ := Lib.hid (And.intro hq (And.intro (show k ≤ es.length by rw [HN.out]; exact hk) (show es.length ≤ 1000 by rw [HN.out]; omega)))
      subst hr
      have k0 : (0 : Int) ≤ (k : Int) := by omega
      clear hb0 hb1 hq h100 hl hz
      go_enter Try.func34, Try.ntmps34
      go_wp2_with (first
        | (go_at_call 46; (with_reducible refine (dwrong_any HW.out).mono ?_); rintro e w1 ⟨rfl, hb1⟩; have hx1 := blk_kept HH.out.2.2.1 hb1; have y0 := hx1.cell 0 (.bool mk) rfl; have y1 := hx1.cell 1 (i64 id) rfl; have y2 := hx1.cell 2 (.string nm) rfl; have y3 := hx1.cell 3 (.slice va na ca) rfl; have H1 := Lib.hid (HH.out.2.2.2.trans (hb1.mono HH.out.2.2.2.size)); have c1 := (H1.out.cell (p := ⟨rb, 0, none⟩) hrl).trans c0; clear hb1 hx1)
        | (go_at_call 48; (with_reducible refine (dput_any (HH.out.1.below H1.out) rfl HQ.out.2.1 HQ.out.2.2 (HH.out.2.1.below H1.out) HQ.out.1).mono ?_); rintro e w2 ⟨rfl, h2, f2⟩; have H2 := Lib.hid (And.intro h2 f2); clear h2 f2))
      go_ret
      exact ⟨rfl, H2.out.1, (dbel H1.out B).trans H2.out.2⟩
  · rw [Bool.true_or, Bool.true_or, if_pos rfl] at hq hr
    subst hq hr
    go_enter Try.func34, Try.ntmps34
    go_wp2_with (first | (go_at_call 46; (with_reducible refine (dwrong_any HW.out).mono ?_); rintro e w1 ⟨rfl, hb1⟩; have H1 := Lib.hid (HH.out.2.2.2.trans (hb1.mono HH.out.2.2.2.size)); clear hb1))
    go_ret
    exact ⟨rfl, HH.out.1.below H1.out, dbel H1.out B⟩

/-- An element taken out; put in another's place. -/
def remS (id : Int) (es : List Ent) : List Ent := if findE id es < 0 then es else es.take (findE id es).toNat ++ es.drop ((findE id es).toNat + 1)
def remB (id : Int) (es : List Ent) : Bool := decide (0 ≤ findE id es)
def swapS (id : Int) (e : Ent) (es : List Ent) : List Ent := if findE id es < 0 then es else if wrongB e.mark e.id then es else es.take (findE id es).toNat ++ e :: es.drop ((findE id es).toNat + 1)
def swapB (id : Int) (e : Ent) (es : List Ent) : Bool := decide (0 ≤ findE id es) && !wrongB e.mark e.id
def clearS (es : List Ent) : List Ent := es.take (partE es - 1)

theorem drem_any {w : World} {B rb : Nat} {es q : List Ent} {id : Int} {r : Bool} (h : Doc w B rb es) (hl : es.length ≤ 1000) (hq : remS id es = q) (hr : remB id es = r) :
    Calls Try.prog 32 #[ptr rb, i64 id] w fun e w' => e = .returned (.bool r) ∧ Doc w' B rb q ∧ Fr B DK w w' := by
  obtain ⟨x, hx⟩ : ∃ x, findE id es = x := ⟨_, rfl⟩
  have hb := findE_bound id es
  unfold remS at hq
  unfold remB at hr
  rw [hx] at hb hq hr
  have HX := Lib.hid (And.intro h hx)
  by_cases hx0 : x < 0
  · rw [if_pos hx0] at hq
    rw [show decide (0 ≤ x) = false by simpa using hx0] at hr
    subst hq hr
    have hz : decide (x < 0) = true := decide_eq_true hx0
    clear h hx hb hx0 hl
    go_enter Try.func32, Try.ntmps32
    go_wp2_with (first | (go_at_call 13; (with_reducible refine (dfind_any HX.out.1 HX.out.2).mono ?_); rintro e w1 ⟨rfl, hb1⟩; have H1 := Lib.hid hb1; clear hb1))
    go_ret
    exact ⟨rfl, HX.out.1.below H1.out, dbel H1.out B⟩
  · rw [if_neg hx0] at hq
    rw [show decide (0 ≤ x) = true by simpa using hx0] at hr
    subst hr
    obtain ⟨k, rfl⟩ : ∃ k : Nat, x = k := ⟨x.toNat, by omega⟩
    rw [Int.toNat_natCast] at hq
    have hz : decide ((k : Int) < 0) = false := decide_eq_false hx0
    have HQ := Lib.hid (And.intro hq (And.intro (show k < es.length by omega) hl))
    clear h hx hb hx0 hl hq
    go_enter Try.func32, Try.ntmps32
    go_wp2_with (first
      | (go_at_call 13; (with_reducible refine (dfind_any HX.out.1 HX.out.2).mono ?_); rintro e w1 ⟨rfl, hb1⟩; have H1 := Lib.hid hb1; clear hb1)
      | (go_at_call 47; (with_reducible refine (ddrop_any (HX.out.1.below H1.out) HQ.out.2.1 HQ.out.2.2 HQ.out.1).mono ?_); rintro e w2 ⟨rfl, h2, f2⟩; have H2 := Lib.hid (And.intro h2 f2); clear h2 f2))
    go_ret
    exact ⟨rfl, H2.out.1, (dbel H1.out B).trans H2.out.2⟩

set_option maxHeartbeats 2000000 in
theorem dswap_any {w : World} {B rb na ca : Nat} {va : Option Addr} {es q : List Ent} {mk : Bool} {id eid : Int} {nm : ByteArray} {l : List Atr} {r : Bool} (h : Doc w B rb es) (hl : es.length ≤ 100) (ha : AtrsAt w B (.slice va na ca) l) (hq : swapS id ⟨mk, eid, nm, l⟩ es = q) (hr : swapB id ⟨mk, eid, nm, l⟩ es = r) :
    Calls Try.prog 33 #[ptr rb, i64 id, .agg #[.bool mk, i64 eid, .string nm, .slice va na ca]] w fun e w' => e = .returned (.bool r) ∧ Doc w' B rb q ∧ Fr B DK w w' := by
  obtain ⟨x, hx⟩ : ∃ x, findE id es = x := ⟨_, rfl⟩
  have hb := findE_bound id es
  obtain ⟨wb, hwb⟩ : ∃ wb, wrongB mk eid = wb := ⟨_, rfl⟩
  have HW := Lib.hid hwb
  unfold swapS at hq
  unfold swapB at hr
  simp only at hq hr
  rw [hx, hwb] at hq hr
  rw [hx] at hb
  have hbx := Blk.new w 41 #[.bool mk, i64 eid, .string nm, .slice va na ca]
  have b0 := (Below.refl _ w).alloc (Nat.le_refl w.heap.size) (.cells #[.bool mk, i64 eid, .string nm, .slice va na ca] 41)
  have HX := Lib.hid (And.intro h (And.intro hx (And.intro ha (And.intro hbx b0))))
  by_cases hx0 : x < 0
  · rw [if_pos hx0] at hq
    rw [show decide (0 ≤ x) = false by simpa using hx0, Bool.false_and] at hr
    subst hq hr
    have hz : decide (x < 0) = true := decide_eq_true hx0
    clear h hx hb hx0 hl ha hbx b0 hwb
    go_enter Try.func33, Try.ntmps33
    go_wp2_with (first | (go_at_call 13; (with_reducible refine (dfind_any (HX.out.1.below HX.out.2.2.2.2) HX.out.2.1).mono ?_); rintro e w1 ⟨rfl, hb1⟩; have H1 := Lib.hid (HX.out.2.2.2.2.trans (hb1.mono HX.out.2.2.2.2.size)); clear hb1))
    go_ret
    exact ⟨rfl, HX.out.1.below H1.out, dbel H1.out B⟩
  · rw [if_neg hx0] at hq
    rw [show decide (0 ≤ x) = true by simpa using hx0, Bool.true_and] at hr
    subst hr
    obtain ⟨k, rfl⟩ : ∃ k : Nat, x = k := ⟨x.toNat, by omega⟩
    rw [Int.toNat_natCast] at hq
    have hz : decide ((k : Int) < 0) = false := decide_eq_false hx0
    cases wb
    · simp only [Bool.false_eq_true, if_false] at hq
      obtain ⟨q1, hq1⟩ : ∃ q1, es.take k ++ es.drop (k + 1) = q1 := ⟨_, rfl⟩
      have hk : k < es.length := by omega
      have hq1l : q1.length + 1 = es.length := by rw [← hq1, List.length_append, List.length_take, List.length_drop]; omega
      have hq2 : q1.take k ++ ⟨mk, eid, nm, l⟩ :: q1.drop k = q := by
        rw [← hq1, List.take_append_of_le_length (by rw [List.length_take]; omega), List.take_take, Nat.min_self]
        rw [List.drop_append, List.drop_eq_nil_of_le (by rw [List.length_take]; omega), List.nil_append, show k - (es.take k).length = 0 by rw [List.length_take]; omega, List.drop_zero]
        exact hq
      have HQ := Lib.hid (And.intro hq1 (And.intro hk (And.intro (show es.length ≤ 1000 by omega) (And.intro hq2 (show k ≤ q1.length ∧ q1.length ≤ 1000 by omega)))))
      clear h hx hb hx0 hl hq hwb ha hq1 hk hq1l hq2 b0
      go_enter Try.func33, Try.ntmps33
      go_wp2_with (first
        | (go_at_call 13; (with_reducible refine (dfind_any (HX.out.1.below HX.out.2.2.2.2) HX.out.2.1).mono ?_); rintro e w1 ⟨rfl, hb1⟩; have hx1 := blk_kept HX.out.2.2.2.1 hb1; have y0 := hx1.cell 0 (.bool mk) rfl; have y1 := hx1.cell 1 (i64 eid) rfl; have y2 := hx1.cell 2 (.string nm) rfl; have y3 := hx1.cell 3 (.slice va na ca) rfl; have H1 := Lib.hid (And.intro (HX.out.2.2.2.2.trans (hb1.mono HX.out.2.2.2.2.size)) hx1); clear hb1 hx1)
        | (go_at_call 46; (with_reducible refine (dwrong_any HW.out).mono ?_); rintro e w2 ⟨rfl, hb2⟩; have hx2 := blk_kept H1.out.2 hb2; have H2 := Lib.hid (And.intro (H1.out.1.trans (hb2.mono H1.out.1.size)) hx2); clear hb2 hx2)
        | (go_at_call 47; (with_reducible refine (ddrop_any (HX.out.1.below H2.out.1) HQ.out.2.1 HQ.out.2.2.1 HQ.out.1).mono ?_); rintro e w3 ⟨rfl, h3, f3⟩; have hx3 := f3.blk H2.out.2 (.inr rfl); have z0 := hx3.cell 0 (.bool mk) rfl; have z1 := hx3.cell 1 (i64 eid) rfl; have z2 := hx3.cell 2 (.string nm) rfl; have z3 := hx3.cell 3 (.slice va na ca) rfl; have H3 := Lib.hid (And.intro h3 (And.intro f3 ((HX.out.2.2.1.below H2.out.1).fr f3 (Nat.le_refl _) (fun _ _ => rfl)))); clear h3 f3 hx3)
        | (go_at_call 48; (with_reducible refine (dput_any H3.out.1 rfl HQ.out.2.2.2.2.1 HQ.out.2.2.2.2.2 H3.out.2.2 HQ.out.2.2.2.1).mono ?_); rintro e w4 ⟨rfl, h4, f4⟩; have H4 := Lib.hid (And.intro h4 f4); clear h4 f4))
      go_ret
      exact ⟨rfl, H4.out.1, ((dbel H2.out.1 B).trans H3.out.2.1).trans H4.out.2⟩
    · simp only [if_true] at hq
      subst hq
      clear h hx hb hx0 hl hwb ha b0
      have x0 := hbx.cell 0 (.bool mk) rfl
      clear hbx
      go_enter Try.func33, Try.ntmps33
      go_wp2_with (first
        | (go_at_call 13; (with_reducible refine (dfind_any (HX.out.1.below HX.out.2.2.2.2) HX.out.2.1).mono ?_); rintro e w1 ⟨rfl, hb1⟩; have hx1 := blk_kept HX.out.2.2.2.1 hb1; have y0 := hx1.cell 0 (.bool mk) rfl; have y1 := hx1.cell 1 (i64 eid) rfl; have y2 := hx1.cell 2 (.string nm) rfl; have y3 := hx1.cell 3 (.slice va na ca) rfl; have H1 := Lib.hid (And.intro (HX.out.2.2.2.2.trans (hb1.mono HX.out.2.2.2.2.size)) hx1); clear hb1 hx1)
        | (go_at_call 46; (with_reducible refine (dwrong_any HW.out).mono ?_); rintro e w2 ⟨rfl, hb2⟩; have H2 := Lib.hid (H1.out.1.trans (hb2.mono H1.out.1.size)); clear hb2))
      go_ret
      exact ⟨rfl, HX.out.1.below H2.out, dbel H2.out B⟩

set_option maxHeartbeats 1000000 in
theorem dclear_any {w : World} {B rb : Nat} {es q : List Ent} (h : Doc w B rb es) (hl : es.length ≤ 1000) (hq : clearS es = q) :
    Calls Try.prog 31 #[ptr rb] w fun e w' => e = .returned (.tuple #[]) ∧ Doc w' B rb q ∧ Fr B DK w w' := by
  obtain ⟨n, hn⟩ : ∃ n, es.length = n := ⟨_, rfl⟩
  obtain ⟨ad, c, ps, hL, hps, hpn, c0, hrl, hrow, hfl, hone⟩ := h.row hn
  obtain ⟨P, hP⟩ : ∃ P, partE es = P := ⟨_, rfl⟩
  have hPn : P ≤ n := by rw [← hP, ← hn]; exact partE_le es
  unfold clearS at hq
  rw [hP] at hq
  obtain ⟨k, hk⟩ : ∃ k, P - 1 = k := ⟨_, rfl⟩
  rw [hk] at hq
  rw [hn] at hl
  have hwk : P ≠ 0 → IntKind.i64.wrap ((P : Int) - 1) = (k : Int) := fun h0 => by rw [IntWalk.i64_in _ (by omega)]; omega
  have hwk0 := hk
  obtain ⟨⟨hsl, hsrc⟩, hcut⟩ := own_cut2 (P := Try.prog) (t := 28) (l := (k : Int)) (k := k) Try.underlying28 size41 hrow rfl (by omega)
  obtain ⟨i0, hi, hy0, hy1, hy2⟩ := info_parts info41
  clear hcut
  have H := Lib.hid (And.intro h (And.intro hP (And.intro hsrc (And.intro (show k ≤ n by omega) (And.intro hl (And.intro hfl (And.intro hone (And.intro hps hpn))))))))
  have HF := Lib.hid hL
  have HQ := Lib.hid hq
  have fin : ∀ (w1 : World) (v1 : Value), Below w.heap.size w w1 → w1.ownsRow w.heap.size 41 4 v1 k ((flatP ps).take (k * 4)) → Doc (w1.setCell ⟨rb, 0, none⟩ v1) B rb q ∧ Fr B DK w (w1.setCell ⟨rb, 0, none⟩ v1) := by
    intro w1 v1 b1 o1
    rw [flatP_take] at o1
    have hlen : (ps.take k).length = k := by rw [List.length_take, hpn]; omega
    have hr := drebuilt (ps' := ps.take k) hL.1 hL.2.1 b1 (by rw [hlen]; exact o1) (by rw [hlen]; omega) (fun p hp => hL.2.2.2.2 p (List.mem_of_mem_take hp))
    rw [List.map_take, hps, hq] at hr
    exact hr
  have HFIN := Lib.hid fin
  clear h hL hrow hsrc hn hl hq hps hpn hfl hone hP fin
  clear hwk0
  by_cases hP0 : P = 0
  · subst hP0
    clear hwk
    have hk0 : k = 0 := by omega
    subst hk0
    clear hk
    have hsl' : ∀ w', (Instr.slice 28 (.slice ad n c) none (some (.int .i64 0)) none).run Try.prog w' = .ok (.slice ad 0 c) w' := hsl
    clear hsl
    go_enter Try.func31, Try.ntmps31
    go_wp2_with (first
      | (go_at_call 39; (with_reducible refine (dpart_any H.out.1 H.out.2.1).mono ?_); rintro e w0 ⟨rfl, hb0⟩; have d0 := (hb0.cell (p := ⟨rb, 0, none⟩) hrl).trans c0; have H0 := Lib.hid hb0; clear hb0)
      | (at_builtin; refine wpList_append_src rfl (.tmp 10) (.tmp 16) 28 rfl w.heap.size 41 i0 _ 4 56 Try.underlying28 hi hy0 hy1 hy2 rfl (by decide) (.slice none 0 0) 0 [] rfl (World.ownsRow_nil _ _ _ _) ad 0 c ((flatP ps).take (0 * 4)) rfl (by simp) (H.out.2.2.1.below H0.out) (fun u hu => H.out.2.2.2.2.2.2.1 u (List.mem_of_mem_take hu)) (by unfold maxLen; omega) (by omega) H0.out.size ?_; intro v1 w1 hown1 hg1 _; obtain ⟨b1, o1⟩ := r_zero H0.out hown1 hg1; obtain ⟨a1, k1, rfl⟩ := own_slice o1; have c1 := (b1.cell (p := ⟨rb, 0, none⟩) hrl).trans c0; have f1 := (blk_kept HF.out.1 b1).fro 0; have H1 := Lib.hid (And.intro b1 o1); clear hown1 hg1 b1 o1))
    go_end0
    exact ⟨rfl, HFIN.out _ _ H1.out.1 H1.out.2⟩
  · have hz : decide (0 < P) = true := by simp; omega
    have hw := hwk hP0
    clear hk hP0 hPn hwk
    go_enter Try.func31, Try.ntmps31
    go_wp2_with (first
      | (go_at_call 39; (with_reducible refine (dpart_any H.out.1 H.out.2.1).mono ?_); rintro e w0 ⟨rfl, hb0⟩; have d0 := (hb0.cell (p := ⟨rb, 0, none⟩) hrl).trans c0; have H0 := Lib.hid hb0; clear hb0)
      | (at_builtin; refine wpList_append_src rfl (.tmp 10) (.tmp 16) 28 rfl w.heap.size 41 i0 _ 4 56 Try.underlying28 hi hy0 hy1 hy2 rfl (by decide) (.slice none 0 0) 0 [] rfl (World.ownsRow_nil _ _ _ _) ad k c ((flatP ps).take (k * 4)) rfl (by have := H.out.2.2.2.1; have := H.out.2.2.2.2.2.1; rw [List.length_take]; omega) (H.out.2.2.1.below H0.out) (fun u hu => H.out.2.2.2.2.2.2.1 u (List.mem_of_mem_take hu)) (by have := H.out.2.2.2.1; have := H.out.2.2.2.2.1; unfold maxLen; omega) (by have := H.out.2.2.2.1; have := H.out.2.2.2.2.1; omega) H0.out.size ?_; intro v1 w1 hown1 hg1 _; obtain ⟨b1, o1⟩ := r_zero H0.out hown1 hg1; obtain ⟨a1, k1, rfl⟩ := own_slice o1; have c1 := (b1.cell (p := ⟨rb, 0, none⟩) hrl).trans c0; have f1 := (blk_kept HF.out.1 b1).fro 0; have H1 := Lib.hid (And.intro b1 o1); clear hown1 hg1 b1 o1))
    go_end0
    exact ⟨rfl, HFIN.out _ _ H1.out.1 H1.out.2⟩
end Go.Proofs.Ytjopfgdgmniigaa
