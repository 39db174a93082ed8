/-
  stack.New, (*Stack).Insert, Push, walked.
  Written by an AI agent.
-/
import Derived.Test.YtdagjpiakbfjpaaIns
namespace Go.Proofs.Ytdagjpiakbfjpaa
open Go.RowKit

theorem cellsE_one (e : Ent) : ∀ u ∈ cellsE e, u.oneCell' = true := by
  intro u hu
  simp [cellsE] at hu
  rcases hu with rfl | rfl | rfl <;> rfl
theorem own_not {w : World} {B n : Nat} {v : Value} {xs : List Value} (h0 : w.ownsRow B 27 3 v n xs) : v.ownBlock ≠ some w.heap.size := fun e => by
  have := (h0.lt _ e).2
  omega
theorem insert_any {w : World} {B n k : Nat} {v : Value} {es : List Ent} (e0 : Ent) (h0 : w.ownsRow B 27 3 v n (flatE es)) (hn : es.length = n) (hl : n ≤ 1000000) (hk : k ≤ n) (hB : B ≤ w.heap.size) :
    Calls Try.prog 29 #[v, i64 k, .slice (some ⟨w.heap.size, 0, none⟩) 1 1] (w.alloc (.cells #[i64 e0.id, i64 e0.space, .string e0.name] 27))
      (InsIt B (n + 1) v (flatE (es.take k ++ e0 :: es.drop k)) (w.alloc (.cells #[i64 e0.id, i64 e0.space, .string e0.name] 27))) := by
  have hown := own_below h0 ((Below.refl w.heap.size w).alloc (Nat.le_refl _) (.cells #[i64 e0.id, i64 e0.space, .string e0.name] 27))
  have hb := Blk.new w 27 #[i64 e0.id, i64 e0.space, .string e0.name]
  have hB' : B ≤ (w.alloc (.cells #[i64 e0.id, i64 e0.space, .string e0.name] 27)).heap.size := by simp; omega
  have hfl : flatE (es.take k ++ e0 :: es.drop k) = (flatE es).take (k * 3) ++ (cellsE e0 ++ (flatE es).drop (k * 3)) := by
    rw [flatE_append, flatE_take, flatE_drop]
    rfl
  rw [hfl]
  by_cases hlt : k < n
  · exact insert_mid (x := cellsE e0) hown hl hlt (flatE_one es) rfl hb (cellsE_one e0) (own_not h0) hB'
  · have he : k = n := by omega
    subst he
    rw [List.take_of_length_le (by rw [flatE_length, hn]; exact Nat.le_refl _), List.drop_eq_nil_of_le (by rw [flatE_length, hn]; exact Nat.le_refl _), List.append_nil]
    exact insert_end hown hl hB' rfl (cellsE_one e0) (news_at hb)

theorem ins_row {w : World} {B lb n : Nat} {v : Value} {es : List Ent} {o : Obj} (h : StkAt w B lb v es) (hn : es.length = n) : (w.alloc o).drew.ownsRow B 27 3 v n (flatE es) := by
  subst hn
  exact own_below h.2.2.1 (((Below.refl w.heap.size w).alloc (Nat.le_refl _) o).drew)
theorem insert_at {w : World} {B lb n k : Nat} {v : Value} {es : List Ent} {o : Obj} (e0 : Ent) (h : StkAt w B lb v es) (hn : es.length = n) (hl : n ≤ 1000000) (hk : k ≤ n) :
    Calls Try.prog 29 #[v, i64 k, .slice (some ⟨w.heap.size + 1, 0, none⟩) 1 1] ((w.alloc o).alloc (.cells #[i64 e0.id, i64 e0.space, .string e0.name] 27)).drew
      (InsIt B (n + 1) v (flatE (es.take k ++ e0 :: es.drop k)) ((w.alloc o).alloc (.cells #[i64 e0.id, i64 e0.space, .string e0.name] 27)).drew) := by
  have hB : B ≤ (w.alloc o).drew.heap.size := by have := h.2.1; have := h.1.lt; simp; omega
  have := insert_any e0 (ins_row (o := o) h hn) hn hl hk hB
  have hs : (w.alloc o).drew.heap.size = w.heap.size + 1 := by simp
  rw [hs] at this
  exact this

abbrev LK : Obj → Bool := kinds [59, 27] false
abbrev K27 : Obj → Bool := kinds [27] false
theorem k27_lk : ∀ o, K27 o = true → LK o = true := by
  intro o; cases o <;> simp [kinds]
  intro h; simp [h]
theorem grown_fr {w w' : World} {B : Nat} {v : Value} {n : Nat} {xs : List Value} (hg : w.grownBy w' v.ownBlock) (hown : w.ownsRow B 27 3 v n xs) : Fr B K27 w w' :=
  (Fr.refl B K27 w).grown hg (fun g hgk => by
    obtain ⟨h1, cs, h2⟩ := own_kind hown g hgk
    exact ⟨h1, _, h2, rfl⟩)
theorem below_of_fr {B : Nat} {T : Obj → Bool} {a w : World} (h : Fr B T a w) (hB : B ≤ a.heap.size) : Below B a w := ⟨h.os, h.tape, h.output, h.size, fun k hk => h.block k (Nat.lt_of_lt_of_le hk hB) (.inl hk)⟩

/-- What a call that may turn the stack leaves. -/
def StkIt (B lb : Nat) (es : List Ent) (r : Value) (w : World) (e : Ending) (w' : World) : Prop :=
  e = .returned r ∧ Stk w' B lb es ∧ Fr B LK w w'

def insBad (es : List Ent) (p : Int) : Bool := decide (p < 0) || decide ((es.length : Int) < p)
def insS (es : List Ent) (p : Int) (e : Ent) : List Ent := if insBad es p then es else if es.length = 200 then es else es.take p.toNat ++ e :: es.drop p.toNat
def insR (es : List Ent) (p : Int) : Int := if insBad es p then 1 else if es.length = 200 then 5 else 0

theorem insS_length {es : List Ent} (p : Int) (e : Ent) (h : es.length ≤ 200) : (insS es p e).length ≤ 200 := by
  unfold insS insBad
  split
  · exact h
  · rename_i hb
    split
    · exact h
    · simp only [Bool.or_eq_true, decide_eq_true_eq, not_or] at hb
      simp; omega

theorem new_any (w : World) : Calls Try.prog 8 #[] w fun e w' => e = .returned (ptr w.heap.size) ∧ Stk w' w.heap.size w.heap.size [] ∧ Below w.heap.size w w' := by
  go_enter Try.func8, Try.ntmps8
  go_wp2
  go_ret
  exact ⟨rfl, ⟨.slice none 0 0, Blk.new w 59 _, Nat.le_refl _, World.ownsRow_nil _ _ _ _, by simp⟩, (Below.refl _ w).alloc (Nat.le_refl _) _⟩

theorem ins_done {w w3 : World} {B lb n k : Nat} {v va : Value} {es : List Ent} {e0 : Ent} {o o' : Obj} (h : StkAt w B lb v es) (hn : es.length = n) (hl : n ≤ 999999) (hk : k ≤ n)
    (hown3 : w3.ownsRow B 27 3 va (n + 1) (flatE (es.take k ++ e0 :: es.drop k))) (hgrow : ((w.alloc o).alloc o').drew.grownBy w3 v.ownBlock) :
    Stk (w3.setCell ⟨lb, 0, none⟩ va) B lb (es.take k ++ e0 :: es.drop k) ∧ Fr B LK w (w3.setCell ⟨lb, 0, none⟩ va) ∧ Blk w3 lb 59 #[v] := by
  have hrow : ((w.alloc o).alloc o').drew.ownsRow B 27 3 v es.length (flatE es) := own_below h.2.2.1 (((Below.refl w.heap.size w).alloc (Nat.le_refl _) o).alloc (by simp) o').drew
  have F1 : Fr B K27 w w3 := ((((Fr.refl B K27 w).alloc o).alloc o').drew).trans (grown_fr hgrow hrow)
  have hb3 : Blk w3 lb 59 #[v] := F1.blk h.1 (.inr rfl)
  have F2 : Fr B LK w (w3.setCell ⟨lb, 0, none⟩ va) := (F1.mono (Nat.le_refl _) k27_lk).setCell hb3 rfl h.2.1 0 _
  have hlen : (es.take k ++ e0 :: es.drop k).length = n + 1 := by simp; omega
  refine ⟨⟨va, hb3.put 0 va, h.2.1, ?_, by omega⟩, F2, hb3⟩
  rw [hlen]
  exact own_setCell hown3 hb3 (by decide) 0 va

set_option maxHeartbeats 4000000 in
theorem ins_stk {w : World} {B lb : Nat} {es : List Ent} {p id sp : Int} {nm : ByteArray} (h : Stk w B lb es) (hl : es.length ≤ 200) :
    Calls Try.prog 12 #[ptr lb, i64 p, .agg #[i64 id, i64 sp, .string nm]] w (StkIt B lb (insS es p ⟨id, sp, nm⟩) (i64 (insR es p)) w) := by
  obtain ⟨v, hst⟩ := h
  obtain ⟨rd, rc, hv⟩ := own_slice hst.2.2.1
  obtain ⟨n, hn⟩ : ∃ n, es.length = n := ⟨_, rfl⟩
  rw [hn] at hl
  have hv' : v = .slice rd n rc := by rw [hv, hn]
  subst hv'
  obtain ⟨S, hS⟩ : ∃ S, insS es p ⟨id, sp, nm⟩ = S := ⟨_, rfl⟩
  obtain ⟨R, hR⟩ : ∃ R, insR es p = R := ⟨_, rfl⟩
  rw [hS, hR]
  have b0 : Below w.heap.size w (w.alloc (.cells #[i64 id, i64 sp, .string nm] 27)) := (Below.refl _ w).alloc (Nat.le_refl _) _
  have hlist := hst.1.alloc (.cells #[i64 id, i64 sp, .string nm] 27)
  have l0 := hlist.cell 0 (.slice rd n rc) rfl
  have lf := hlist.fro 0
  have l1 := (hlist.alloc (.cells #[i64 id, i64 sp, .string nm] 27)).cell 0 (.slice rd n rc) rfl
  have hbox := Blk.new w 27 #[i64 id, i64 sp, .string nm]
  have x0 := hbox.cell 0 (i64 id) rfl
  have x1 := hbox.cell 1 (i64 sp) rfl
  have x2 := hbox.cell 2 (.string nm) rfl
  have HS := Lib.hid (And.intro hst (And.intro hn b0))
  have HN := Lib.hid (And.intro hS hR)
  have hBw : B ≤ w.heap.size := by have := hst.2.1; have := hst.1.lt; omega
  clear hst hn hS hR b0 hlist hbox hv
  have HBB : Hid (insBad es p = (decide (p < 0) || decide ((n : Int) < p))) := Lib.hid (by unfold insBad; rw [HS.out.2.1])
  by_cases hp0 : p < 0
  · have z1 : decide (p < 0) = true := by simpa using hp0
    have hb : insBad es p = true := by rw [HBB.out, z1]; rfl
    have hs := HN.out.1
    have hr := HN.out.2
    unfold insS at hs
    unfold insR at hr
    rw [if_pos hb] at hs hr
    have HSR := Lib.hid (And.intro hs hr)
    clear hb hs hr
    go_enter Try.func12, Try.ntmps12
    go_wp2
    go_ret
    exact ⟨by rw [← HSR.out.2]; rfl, by rw [← HSR.out.1]; exact ⟨_, HS.out.1.below HS.out.2.2⟩, Fr.of_below HS.out.2.2 B LK⟩
  · have z1 : decide (p < 0) = false := by simpa using hp0
    by_cases hpn : (n : Int) < p
    · have z2 : decide ((n : Int) < p) = true := by simpa using hpn
      have hb : insBad es p = true := by rw [HBB.out, z1, z2]; rfl
      have hs := HN.out.1
      have hr := HN.out.2
      unfold insS at hs
      unfold insR at hr
      rw [if_pos hb] at hs hr
      have HSR := Lib.hid (And.intro hs hr)
      clear hb hs hr
      go_enter Try.func12, Try.ntmps12
      go_wp2
      go_ret
      exact ⟨by rw [← HSR.out.2]; rfl, by rw [← HSR.out.1]; exact ⟨_, HS.out.1.below HS.out.2.2⟩, Fr.of_below HS.out.2.2 B LK⟩
    · have z2 : decide ((n : Int) < p) = false := by simpa using hpn
      have hb : ¬ insBad es p = true := by rw [HBB.out, z1, z2]; simp
      have hs := HN.out.1
      have hr := HN.out.2
      unfold insS at hs
      unfold insR at hr
      rw [if_neg hb] at hs hr
      rw [HS.out.2.1] at hs hr
      by_cases h200 : n = 200
      · rw [if_pos h200] at hs hr
        have z3 : ((n : Int) == 200) = true := by simp; omega
        have HSR := Lib.hid (And.intro hs hr)
        clear hb hs hr
        go_enter Try.func12, Try.ntmps12
        go_wp2
        go_ret
        exact ⟨by rw [← HSR.out.2]; rfl, by rw [← HSR.out.1]; exact ⟨_, HS.out.1.below HS.out.2.2⟩, Fr.of_below HS.out.2.2 B LK⟩
      · rw [if_neg h200] at hs hr
        have z3 : ((n : Int) == 200) = false := by simp; omega
        obtain ⟨k, rfl⟩ : ∃ k : Nat, p = (k : Int) := ⟨p.toNat, by omega⟩
        have hkn : k ≤ n := by omega
        have HSR := Lib.hid (And.intro hs hr)
        clear hb hs hr
        go_enter Try.func12, Try.ntmps12
        go_wp2_with fail
        go_region_with (first
          | (go_at_call 29; (with_reducible refine (insert_at ⟨id, sp, nm⟩ HS.out.1 HS.out.2.1 (by omega) hkn).mono ?_); rintro e w3 ⟨v3, rfl, hown3, hgrow⟩; obtain ⟨va3, vc3, rfl⟩ := own_slice hown3; have hk := (ins_done HS.out.1 HS.out.2.1 (by omega) hkn hown3 hgrow).2.2; have q0 := hk.cell 0 (.slice rd n rc) rfl; have qf := hk.fro 0; clear hk; have HG := Lib.hid (And.intro hown3 hgrow); clear hown3 hgrow))
        all_goals go_wp2
        all_goals go_ret
        all_goals (
          have D := ins_done HS.out.1 HS.out.2.1 (by omega) hkn HG.out.1 HG.out.2
          exact ⟨by rw [← HSR.out.2]; rfl, by rw [← HSR.out.1]; exact D.1, D.2.1⟩)

/-- Push is Insert at the end. -/
def pushS (es : List Ent) (e : Ent) : List Ent := if es.length = 200 then es else es ++ [e]
def pushR (es : List Ent) : Int := if es.length = 200 then 5 else 0
theorem pushS_length {es : List Ent} (e : Ent) (h : es.length ≤ 200) : (pushS es e).length ≤ 200 := by
  unfold pushS
  split
  · exact h
  · simp; omega
theorem insS_end (es : List Ent) (e : Ent) : insS es es.length e = pushS es e := by
  unfold insS pushS insBad
  have h : ¬ ((es.length : Int) < 0) := by omega
  simp [h]
theorem insR_end (es : List Ent) : insR es es.length = pushR es := by
  unfold insR pushR insBad
  have h : ¬ ((es.length : Int) < 0) := by omega
  simp [h]
theorem ins_push {w : World} {B lb n : Nat} {es : List Ent} {id sp : Int} {nm : ByteArray} {m : Int} (h : Stk w B lb es) (hl : es.length ≤ 200) (hn : es.length = n) (hm : m = (n : Int)) :
    Calls Try.prog 12 #[ptr lb, .int .i64 m, .agg #[i64 id, i64 sp, .string nm]] w (StkIt B lb (pushS es ⟨id, sp, nm⟩) (i64 (pushR es)) w) := by
  subst hn hm
  rw [← insS_end, ← insR_end]
  exact ins_stk h hl

set_option maxHeartbeats 4000000 in
theorem push_stk {w : World} {B lb : Nat} {es : List Ent} {id sp : Int} {nm : ByteArray} (h : Stk w B lb es) (hl : es.length ≤ 200) :
    Calls Try.prog 10 #[ptr lb, .agg #[i64 id, i64 sp, .string nm]] w (StkIt B lb (pushS es ⟨id, sp, nm⟩) (i64 (pushR es)) w) := by
  have H := Lib.hid h
  obtain ⟨v, hst⟩ := h
  obtain ⟨rd, rc, hv⟩ := own_slice hst.2.2.1
  obtain ⟨n, hn⟩ : ∃ n, es.length = n := ⟨_, rfl⟩
  have hv' : v = .slice rd n rc := by rw [hv, hn]
  subst hv'
  have b0 : Below w.heap.size w (w.alloc (.cells #[i64 id, i64 sp, .string nm] 27)) := (Below.refl _ w).alloc (Nat.le_refl _) _
  have hlist := hst.1.alloc (.cells #[i64 id, i64 sp, .string nm] 27)
  have hbox := Blk.new w 27 #[i64 id, i64 sp, .string nm]
  have l0 : ∀ d, (World.mk (w.alloc (.cells #[i64 id, i64 sp, .string nm] 27)).heap (w.alloc (.cells #[i64 id, i64 sp, .string nm] 27)).tape d (w.alloc (.cells #[i64 id, i64 sp, .string nm] 27)).os (w.alloc (.cells #[i64 id, i64 sp, .string nm] 27)).output).cell? ⟨lb, 0, none⟩ = some (.slice rd n rc) := fun _ => hlist.cell 0 _ rfl
  have x0 : ∀ d, (World.mk (w.alloc (.cells #[i64 id, i64 sp, .string nm] 27)).heap (w.alloc (.cells #[i64 id, i64 sp, .string nm] 27)).tape d (w.alloc (.cells #[i64 id, i64 sp, .string nm] 27)).os (w.alloc (.cells #[i64 id, i64 sp, .string nm] 27)).output).cell? ⟨w.heap.size, 0, none⟩ = some (i64 id) := fun _ => hbox.cell 0 _ rfl
  have x1 : ∀ d, (World.mk (w.alloc (.cells #[i64 id, i64 sp, .string nm] 27)).heap (w.alloc (.cells #[i64 id, i64 sp, .string nm] 27)).tape d (w.alloc (.cells #[i64 id, i64 sp, .string nm] 27)).os (w.alloc (.cells #[i64 id, i64 sp, .string nm] 27)).output).cell? ⟨w.heap.size, 1, none⟩ = some (i64 sp) := fun _ => hbox.cell 1 _ rfl
  have x2 : ∀ d, (World.mk (w.alloc (.cells #[i64 id, i64 sp, .string nm] 27)).heap (w.alloc (.cells #[i64 id, i64 sp, .string nm] 27)).tape d (w.alloc (.cells #[i64 id, i64 sp, .string nm] 27)).os (w.alloc (.cells #[i64 id, i64 sp, .string nm] 27)).output).cell? ⟨w.heap.size, 2, none⟩ = some (.string nm) := fun _ => hbox.cell 2 _ rfl
  have HB := Lib.hid (And.intro b0 (And.intro hn hl))
  obtain ⟨w0, hw0⟩ : ∃ w0, w.alloc (.cells #[i64 id, i64 sp, .string nm] 27) = w0 := ⟨_, rfl⟩
  rw [hw0] at l0 x0 x1 x2 HB
  clear hst hn hlist hbox b0 hl hv
  go_enter Try.func10, Try.ntmps10
  go_wp2_with fail
  go_still_tail 7, (by kernel_rfl)
  change wpList _ _ _ _ _ w0.drew
  clear l0 x0 x1 x2
  go_wp2_with (first
    | (go_at_call 12; (with_reducible refine (ins_push (H.out.below HB.out.1.drew) HB.out.2.2 HB.out.2.1 rfl).mono ?_); rintro e w3 ⟨rfl, hs3, hf3⟩; have H3 := Lib.hid (And.intro hs3 hf3); clear hs3 hf3))
  go_ret
  exact ⟨rfl, H3.out.1, (Fr.of_below HB.out.1.drew B LK).trans H3.out.2⟩

end Go.Proofs.Ytdagjpiakbfjpaa
