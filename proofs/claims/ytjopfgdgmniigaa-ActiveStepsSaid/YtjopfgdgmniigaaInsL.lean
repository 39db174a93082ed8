/-
  (*List).Insert, walked.
  Written by an AI agent.
-/
import Derived.Test.YtjopfgdgmniigaaPutMid
import Derived.Test.YtjopfgdgmniigaaNil
namespace Go.Proofs.Ytjopfgdgmniigaa
open Go.RowKit Go.Maps

def insB (es : List Ent) (p : Int) (e : Ent) : Bool := wrongB e.mark e.id || decide (p < 0) || decide ((es.length : Int) < p)
def insS (es : List Ent) (p : Int) (e : Ent) : List Ent := if insB es p e then es else if es.length = 100 then es else es.take p.toNat ++ e :: es.drop p.toNat
def insR (es : List Ent) (p : Int) (e : Ent) : Int := if insB es p e then 1 else if es.length = 100 then 5 else 0

theorem insS_length {es : List Ent} (p : Int) (e : Ent) (h : es.length ≤ 100) : (insS es p e).length ≤ 100 := by
  unfold insS insB
  split
  · exact h
  · rename_i hb
    split
    · exact h
    · simp only [Bool.or_eq_true, decide_eq_true_eq, not_or] at hb
      simp; omega

set_option maxHeartbeats 4000000 in
theorem ins_any {w : World} {B lb : Nat} {es : List Ent} {va : Value} {mk : Bool} {id p : Int} {nm : ByteArray} {l : List Atr} (h : ListIs w B lb 63 33 es) (hl : es.length ≤ 100) (ha : AtrsAt w B va l) :
    Calls Try.prog 23 #[ptr lb, i64 p, .agg #[.bool mk, i64 id, .string nm, va]] w (AddIt B lb (insS es p ⟨mk, id, nm, l⟩) (insR es p ⟨mk, id, nm, l⟩) w) := by
  obtain ⟨v, ps, hlist, rfl⟩ := h
  obtain ⟨rd, rc, hv⟩ := own_slice hlist.2.2.1
  subst hv
  obtain ⟨ad, na, c, hva⟩ := ha.fit
  subst hva
  obtain ⟨n, hn⟩ : ∃ n, ps.length = n := ⟨_, rfl⟩
  have hn100 : n ≤ 100 := by rw [← hn]; simpa using hl
  obtain ⟨S, hS⟩ : ∃ S, insS (ps.map (·.1)) p ⟨mk, id, nm, l⟩ = S := ⟨_, rfl⟩
  obtain ⟨R, hR⟩ : ∃ R, insR (ps.map (·.1)) p ⟨mk, id, nm, l⟩ = R := ⟨_, rfl⟩
  rw [hS, hR]
  have b0 : Below w.heap.size w (w.alloc (.cells #[.bool mk, i64 id, .string nm, .slice ad na c] 33)) := (Below.refl _ w).alloc (Nat.le_refl _) _
  have hb1 := hlist.1.alloc (.cells #[.bool mk, i64 id, .string nm, .slice ad na c] 33)
  have c0 := hb1.cell 0 _ rfl
  have hbx := Blk.new w 33 #[.bool mk, i64 id, .string nm, .slice ad na c]
  have x0 := hbx.cell 0 (.bool mk) rfl
  have x1 := hbx.cell 1 (i64 id) rfl
  have x2 := hbx.cell 2 (.string nm) rfl
  have x3 := hbx.cell 3 (.slice ad na c) rfl
  have HL := Lib.hid (And.intro hlist (And.intro ha b0))
  have HX := Lib.hid (And.intro hb1 hbx)
  have HN := Lib.hid (And.intro hn (And.intro hS hR))
  rw [hn] at c0
  clear hlist ha b0 hb1 hbx hn hS hR hl
  have HB : insB (ps.map (·.1)) p ⟨mk, id, nm, l⟩ = (wrongB mk id || decide (p < 0) || decide ((n : Int) < p)) := by unfold insB; simp [HN.out.1]
  have HBB := Lib.hid HB
  clear HB
  cases hw : wrongB mk id
  · by_cases hp0 : p < 0
    · have z1 : decide (p < 0) = true := by simpa using hp0
      have hb : insB (ps.map (·.1)) p ⟨mk, id, nm, l⟩ = true := by rw [HBB.out, hw, z1]; rfl
      have hs := HN.out.2.1
      have hr := HN.out.2.2
      unfold insS at hs
      unfold insR at hr
      rw [if_pos hb] at hs hr
      have HSR := Lib.hid (And.intro hs hr)
      have HW := Lib.hid hw
      clear hb hs hr hw
      go_enter Try.func23, Try.ntmps23
      go_wp2_with (first | (go_at_call 41; (with_reducible refine wrong_any.mono ?_); rintro e w1 ⟨rfl, hb⟩; rw [HW.out]; have H1 := Lib.hid hb; clear hb))
      go_ret
      have b1 := HL.out.2.2.trans (H1.out.mono HL.out.2.2.size)
      exact ⟨by rw [← HSR.out.2]; rfl, ⟨_, ps, HL.out.1.below b1, HSR.out.1⟩, Fr.of_below b1 B LK⟩
    · have z1 : decide (p < 0) = false := by simpa using hp0
      by_cases hpn : (n : Int) < p
      · have z2 : decide ((n : Int) < p) = true := by simpa using hpn
        have hb : insB (ps.map (·.1)) p ⟨mk, id, nm, l⟩ = true := by rw [HBB.out, hw, z1, z2]; rfl
        have hs := HN.out.2.1
        have hr := HN.out.2.2
        unfold insS at hs
        unfold insR at hr
        rw [if_pos hb] at hs hr
        have HSR := Lib.hid (And.intro hs hr)
        have HW := Lib.hid hw
        clear hb hs hr hw
        go_enter Try.func23, Try.ntmps23
        go_wp2_with (first | (go_at_call 41; (with_reducible refine wrong_any.mono ?_); rintro e w1 ⟨rfl, hb⟩; rw [HW.out]; have H1 := Lib.hid hb; clear hb))
        go_ret
        have b1 := HL.out.2.2.trans (H1.out.mono HL.out.2.2.size)
        exact ⟨by rw [← HSR.out.2]; rfl, ⟨_, ps, HL.out.1.below b1, HSR.out.1⟩, Fr.of_below b1 B LK⟩
      · have z2 : decide ((n : Int) < p) = false := by simpa using hpn
        have hb : ¬ insB (ps.map (·.1)) p ⟨mk, id, nm, l⟩ = true := by rw [HBB.out, hw, z1, z2]; simp
        have hs := HN.out.2.1
        have hr := HN.out.2.2
        unfold insS at hs
        unfold insR at hr
        rw [if_neg hb] at hs hr
        rw [List.length_map, HN.out.1] at hs hr
        have HW := Lib.hid hw
        by_cases h100 : n = 100
        · rw [if_pos h100] at hs hr
          have z3 : ((n : Int) == 100) = true := by simp; omega
          have HSR := Lib.hid (And.intro hs hr)
          clear hb hs hr hw
          go_enter Try.func23, Try.ntmps23
          go_wp2_with (first | (go_at_call 41; (with_reducible refine wrong_any.mono ?_); rintro e w1 ⟨rfl, hb⟩; rw [HW.out]; have H1 := Lib.hid hb; clear hb))
          go_ret
          have b1 := HL.out.2.2.trans (H1.out.mono HL.out.2.2.size)
          exact ⟨by rw [← HSR.out.2]; rfl, ⟨_, ps, HL.out.1.below b1, HSR.out.1⟩, Fr.of_below b1 B LK⟩
        · rw [if_neg h100] at hs hr
          have z3 : ((n : Int) == 100) = false := by simp; omega
          obtain ⟨k, rfl⟩ : ∃ k : Nat, p = (k : Int) := ⟨p.toNat, by omega⟩
          have hkn : k ≤ n := by omega
          have HSR := Lib.hid (And.intro hs hr)
          clear hb hs hr hw
          go_enter Try.func23, Try.ntmps23
          go_wp2_with (first
            | (go_at_call 41; (with_reducible refine wrong_any.mono ?_); rintro e w1 ⟨rfl, hb⟩; rw [HW.out]; have y0 := (blk_kept HX.out.2 hb).cell 0 (.bool mk) rfl; have y1 := (blk_kept HX.out.2 hb).cell 1 (i64 id) rfl; have y2 := (blk_kept HX.out.2 hb).cell 2 (.string nm) rfl; have y3 := (blk_kept HX.out.2 hb).cell 3 (.slice ad na c) rfl; have H1 := Lib.hid (HL.out.2.2.trans (hb.mono HL.out.2.2.size)); clear hb)
            | (go_at_call 44; (with_reducible refine (put_any (HL.out.1.below H1.out) (by rw [HN.out.1]; omega) (by rw [HN.out.1]; exact hkn) (HL.out.2.1.below H1.out)).mono ?_); rintro e w3 ⟨rfl, v3, va3, hl3, _, hf3⟩; have H3 := Lib.hid (And.intro hl3 hf3); clear hl3 hf3))
          go_ret
          refine ⟨by rw [← HSR.out.2]; rfl, ⟨_, _, H3.out.1, ?_⟩, (Fr.of_below H1.out B LK).trans H3.out.2⟩
          rw [← HSR.out.1]
          simp [List.map_take, List.map_drop]
  · have hb : insB (ps.map (·.1)) p ⟨mk, id, nm, l⟩ = true := by rw [HBB.out, hw]; rfl
    have hs := HN.out.2.1
    have hr := HN.out.2.2
    unfold insS at hs
    unfold insR at hr
    rw [if_pos hb] at hs hr
    have HSR := Lib.hid (And.intro hs hr)
    have HW := Lib.hid hw
    clear hb hs hr hw
    go_enter Try.func23, Try.ntmps23
    go_wp2_with (first | (go_at_call 41; (with_reducible refine wrong_any.mono ?_); rintro e w1 ⟨rfl, hb⟩; rw [HW.out]; have H1 := Lib.hid hb; clear hb))
    go_ret
    have b1 := HL.out.2.2.trans (H1.out.mono HL.out.2.2.size)
    exact ⟨by rw [← HSR.out.2]; rfl, ⟨_, ps, HL.out.1.below b1, HSR.out.1⟩, Fr.of_below b1 B LK⟩

end Go.Proofs.Ytjopfgdgmniigaa
