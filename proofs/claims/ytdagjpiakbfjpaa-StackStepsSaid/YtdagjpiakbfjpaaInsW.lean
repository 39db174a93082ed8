/-
  slices.Insert, walked; where the new row lies.
  Written by an AI agent.
-/
import Derived.Test.YtdagjpiakbfjpaaPush
import Derived.Maps.AppendAt
namespace Go.Proofs.Ytdagjpiakbfjpaa
open Go.RowKit

/-- As InsIt; the row lies where it lay, or in a new block. -/
def InsW (B n : Nat) (v : Value) (xs : List Value) (w : World) (e : Ending) (w' : World) : Prop :=
  ∃ v', e = .returned v' ∧ w'.ownsRow B 27 3 v' n xs ∧ w.grownBy w' v.ownBlock ∧ ∀ k, v'.ownBlock = some k → v.ownBlock = some k ∨ w.heap.size ≤ k
theorem locW {w : World} {v v' : Value} (h : v'.ownBlock = v.ownBlock ∨ v'.ownBlock = some w.heap.size) : ∀ k, v'.ownBlock = some k → v.ownBlock = some k ∨ w.heap.size ≤ k := by
  intro k hk
  rcases h with h | h
  · exact .inl (h.symm.trans hk)
  · rw [h] at hk
    exact .inr (Nat.le_of_eq (Option.some.inj hk))

set_option maxHeartbeats 1000000 in
theorem insert_endW {w : World} {B n g2 : Nat} {v : Value} {xs x : List Value} (hown : w.ownsRow B 27 3 v n xs) (hn : n ≤ 1000000) (hB : B ≤ w.heap.size) (hx : x.length = 3) (hx1 : ∀ u ∈ x, u.oneCell' = true)
    (hnews : ∀ (j : Nat) (u : Value), x[j]? = some u → w.cell? ((⟨g2, 0, none⟩ : Addr).add j) = some u) :
    Calls Try.prog 29 #[v, i64 n, .slice (some ⟨g2, 0, none⟩) 1 1] w (InsW B (n + 1) v (xs ++ x) w) := by
  obtain ⟨i0, hi, hz0, hz1, hz2⟩ := info_parts info27
  have HO := Lib.hid hown
  have HNW := Lib.hid hnews
  have HX := Lib.hid (And.intro hx hx1)
  rcases hown.2 with ⟨rfl, rfl⟩ | ⟨g, cap, cur, rfl, hb, hg, hnc, hm, _, _⟩
  · clear hown hnews hx hx1
    go_enter Try.func29, Try.ntmps29
    go_wp2_with (first
      | (at_builtin; refine wpList_append_own_at _ rfl (.tmp 23) (.tmp 24) 22 rfl B 27 i0 _ 3 32 Try.underlying22 hi hz0 hz1 hz2 rfl (by decide) _ _ _ rfl HO.out ⟨g2, 0, none⟩ 1 1 x rfl (by rw [HX.out.1]) HNW.out HX.out.2 (by unfold maxLen; omega) (by omega) hB ?_; intro v' w' hown' hgrow _ hat; have HF := Lib.hid (And.intro hown' (And.intro hgrow hat)); clear hown' hgrow hat))
    go_ret
    exact ⟨_, rfl, by simpa using HF.out.1, HF.out.2.1, locW HF.out.2.2⟩
  · unfold maxLen at hm
    clear hown hnews hg hx hx1
    go_enter Try.func29, Try.ntmps29
    go_wp2_with (first
      | (at_builtin; refine wpList_append_own_at _ rfl (.tmp 23) (.tmp 24) 22 rfl B 27 i0 _ 3 32 Try.underlying22 hi hz0 hz1 hz2 rfl (by decide) _ _ _ rfl HO.out ⟨g2, 0, none⟩ 1 1 x rfl (by rw [HX.out.1]) HNW.out HX.out.2 (by unfold maxLen; omega) (by omega) hB ?_; intro v' w' hown' hgrow _ hat; have HF := Lib.hid (And.intro hown' (And.intro hgrow hat)); clear hown' hgrow hat))
    all_goals go_ret
    all_goals exact ⟨_, rfl, HF.out.1, HF.out.2.1, locW HF.out.2.2⟩


theorem insert_atW {w : World} {B lb n : Nat} {v : Value} {es : List Ent} {o : Obj} (e0 : Ent) (h : StkAt w B lb v es) (hn : es.length = n) (hl : n ≤ 1000000) :
    Calls Try.prog 29 #[v, i64 n, .slice (some ⟨w.heap.size + 1, 0, none⟩) 1 1] ((w.alloc o).alloc (.cells #[i64 e0.id, i64 e0.space, .string e0.name] 27)).drew
      (InsW B (n + 1) v (flatE (es ++ [e0])) ((w.alloc o).alloc (.cells #[i64 e0.id, i64 e0.space, .string e0.name] 27)).drew) := by
  have hB : B ≤ ((w.alloc o).alloc (.cells #[i64 e0.id, i64 e0.space, .string e0.name] 27)).drew.heap.size := by have := h.2.1; have := h.1.lt; simp; omega
  have hb := (Blk.new (w.alloc o) 27 #[i64 e0.id, i64 e0.space, .string e0.name]).drew
  simp only [World.size_alloc] at hb
  have ho : ((w.alloc o).alloc (.cells #[i64 e0.id, i64 e0.space, .string e0.name] 27)).drew.ownsRow B 27 3 v n (flatE es) := by
    have := h.2.2.1
    rw [hn] at this
    exact own_below this (((Below.refl w.heap.size w).alloc (Nat.le_refl _) o).alloc (by simp) _).drew
  rw [flatE_append]
  exact insert_endW ho hl hB (x := cellsE e0) rfl (cellsE_one e0) (news_at hb)

/-- What a push leaves alone: all but the stack's own two blocks. -/
def Keep (lb : Nat) (v : Value) (w w' : World) : Prop := w'.os = w.os ∧ w'.tape = w.tape ∧ w'.output = w.output ∧ w.heap.size ≤ w'.heap.size ∧ ∀ k, k < w.heap.size → k ≠ lb → v.ownBlock ≠ some k → w'.heap[k]? = w.heap[k]?

theorem ins_doneW {w w3 : World} {B lb n : Nat} {v va : Value} {es : List Ent} {e0 : Ent} {o o' : Obj} (h : StkAt w B lb v es) (hn : es.length = n) (hl : n ≤ 999999)
    (hown3 : w3.ownsRow B 27 3 va (n + 1) (flatE (es ++ [e0]))) (hgrow : ((w.alloc o).alloc o').drew.grownBy w3 v.ownBlock) (hloc : ∀ k, va.ownBlock = some k → v.ownBlock = some k ∨ ((w.alloc o).alloc o').drew.heap.size ≤ k) :
    StkAt (w3.setCell ⟨lb, 0, none⟩ va) B lb va (es ++ [e0]) ∧ Keep lb v w (w3.setCell ⟨lb, 0, none⟩ va) ∧ Blk w3 lb 59 #[v] ∧ ∀ k, va.ownBlock = some k → v.ownBlock = some k ∨ w.heap.size ≤ k := by
  have hb1 : Below w.heap.size w ((w.alloc o).alloc o').drew := (((Below.refl w.heap.size w).alloc (Nat.le_refl _) o).alloc (by simp) o').drew
  have hrow : ((w.alloc o).alloc o').drew.ownsRow B 27 3 v es.length (flatE es) := own_below h.2.2.1 hb1
  have hlb1 : Blk ((w.alloc o).alloc o').drew lb 59 #[v] := blk_kept h.1 hb1
  have hne : v.ownBlock ≠ some lb := fun e => own_ne hrow hlb1 (by decide) e
  have hb3 : Blk w3 lb 59 #[v] := (hgrow.block lb hlb1.lt (fun e => hne e.symm)).trans hlb1
  have hlen : (es ++ [e0]).length = n + 1 := by simp; omega
  have hs : ((w.alloc o).alloc o').drew.heap.size = w.heap.size + 1 + 1 := by simp
  refine ⟨⟨hb3.put 0 va, h.2.1, ?_, by omega⟩, ⟨hgrow.os.trans hb1.os, hgrow.tape.trans hb1.tape, hgrow.output.trans hb1.output, ?_, fun k hk hkl hkv => ?_⟩, hb3, fun k hk => (hloc k hk).imp id (fun h => by omega)⟩
  · rw [hlen]
    exact own_setCell hown3 hb3 (by decide) 0 va
  · have := hgrow.size
    rw [World.size_setCell]
    omega
  · exact ((Below.heap_setCell w3 ⟨lb, 0, none⟩ va k hkl).trans (hgrow.block k (by omega) (fun e => hkv e.symm))).trans (hb1.block k hk)

def PushW (B lb : Nat) (v : Value) (es : List Ent) (w : World) (e : Ending) (w' : World) : Prop :=
  e = .returned (i64 0) ∧ ∃ v', StkAt w' B lb v' es ∧ Keep lb v w w' ∧ ∀ k, v'.ownBlock = some k → v.ownBlock = some k ∨ w.heap.size ≤ k

set_option maxHeartbeats 4000000 in
theorem ins_w {w : World} {B lb n : Nat} {v : Value} {es : List Ent} {id sp m : Int} {nm : ByteArray} (h : StkAt w B lb v es) (hn : es.length = n) (hl : n < 200) (hm : m = (n : Int)) :
    Calls Try.prog 12 #[ptr lb, .int .i64 m, .agg #[i64 id, i64 sp, .string nm]] w (PushW B lb v (es ++ [⟨id, sp, nm⟩]) w) := by
  subst hm
  obtain ⟨rd, rc, hv⟩ := own_slice h.2.2.1
  have hv' : v = .slice rd n rc := by rw [hv, hn]
  subst hv'
  have hlist := h.1.alloc (.cells #[i64 id, i64 sp, .string nm] 27)
  have l0 := hlist.cell 0 (.slice rd n rc) rfl
  have lf := hlist.fro 0
  have l1 := (hlist.alloc (.cells #[i64 id, i64 sp, .string nm] 27)).cell 0 (.slice rd n rc) rfl
  have hbox := Blk.new w 27 #[i64 id, i64 sp, .string nm]
  have x0 := hbox.cell 0 (i64 id) rfl
  have x1 := hbox.cell 1 (i64 sp) rfl
  have x2 := hbox.cell 2 (.string nm) rfl
  have HS := Lib.hid (And.intro h hn)
  have z1 : decide ((n : Int) < 0) = false := by simp
  have z2 : decide ((n : Int) < (n : Int)) = false := by simp
  have z3 : ((n : Int) == 200) = false := by simp; omega
  clear h hn hlist hbox hv
  go_enter Try.func12, Try.ntmps12
  go_wp2_with fail
  go_region_with (first
    | (go_at_call 29; (with_reducible refine (insert_atW ⟨id, sp, nm⟩ HS.out.1 HS.out.2 (by omega)).mono ?_); rintro e w3 ⟨v3, rfl, hown3, hgrow, hloc⟩; obtain ⟨va3, vc3, rfl⟩ := own_slice hown3; have hk := (ins_doneW HS.out.1 HS.out.2 (by omega) hown3 hgrow hloc).2.2.1; have q0 := hk.cell 0 (.slice rd n rc) rfl; have qf := hk.fro 0; clear hk; have HG := Lib.hid (And.intro hown3 (And.intro hgrow hloc)); clear hown3 hgrow hloc))
  all_goals go_wp2
  all_goals go_ret
  all_goals (
    have D := ins_doneW HS.out.1 HS.out.2 (by omega) HG.out.1 HG.out.2.1 HG.out.2.2
    exact ⟨rfl, _, D.1, D.2.1, D.2.2.2⟩)

theorem StkAt.keepB {w w0 : World} {B lb : Nat} {v : Value} {es : List Ent} {id sp : Int} {nm : ByteArray} {m : Int} {n : Nat} (h : StkAt w B lb v es) (hb : Below w.heap.size w w0) (hn : es.length = n) (hl : n < 200) (hm : m = (n : Int)) :
    Calls Try.prog 12 #[ptr lb, .int .i64 m, .agg #[i64 id, i64 sp, .string nm]] w0 (PushW B lb v (es ++ [⟨id, sp, nm⟩]) w) := by
  refine (ins_w (h.below hb) hn hl hm).mono ?_
  rintro e w' ⟨rfl, v', h1, ⟨k1, k2, k3, k4, k5⟩, h3⟩
  exact ⟨rfl, v', h1, ⟨k1.trans hb.os, k2.trans hb.tape, k3.trans hb.output, Nat.le_trans hb.size k4, fun k hk hkl hkv => (k5 k (Nat.lt_of_lt_of_le hk hb.size) hkl hkv).trans (hb.block k hk)⟩, fun k hk => (h3 k hk).imp (fun h => h) (fun h => Nat.le_trans hb.size h)⟩

set_option maxHeartbeats 4000000 in
theorem push_w {w : World} {B lb n : Nat} {v : Value} {es : List Ent} {id sp : Int} {nm : ByteArray} (h : StkAt w B lb v es) (hn : es.length = n) (hl : n < 200) :
    Calls Try.prog 10 #[ptr lb, .agg #[i64 id, i64 sp, .string nm]] w (PushW B lb v (es ++ [⟨id, sp, nm⟩]) w) := by
  obtain ⟨rd, rc, hv⟩ := own_slice h.2.2.1
  have hv' : v = .slice rd n rc := by rw [hv, hn]
  subst hv'
  have b0 : Below w.heap.size w (w.alloc (.cells #[i64 id, i64 sp, .string nm] 27)) := (Below.refl _ w).alloc (Nat.le_refl _) _
  have hlist := h.1.alloc (.cells #[i64 id, i64 sp, .string nm] 27)
  have hbox := Blk.new w 27 #[i64 id, i64 sp, .string nm]
  obtain ⟨w0, hw0⟩ : ∃ w0, w.alloc (.cells #[i64 id, i64 sp, .string nm] 27) = w0 := ⟨_, rfl⟩
  rw [hw0] at b0 hlist hbox
  have l0 : ∀ d, (World.mk w0.heap w0.tape d w0.os w0.output).cell? ⟨lb, 0, none⟩ = some (.slice rd n rc) := fun _ => hlist.cell 0 _ rfl
  have x0 : ∀ d, (World.mk w0.heap w0.tape d w0.os w0.output).cell? ⟨w.heap.size, 0, none⟩ = some (i64 id) := fun _ => hbox.cell 0 _ rfl
  have x1 : ∀ d, (World.mk w0.heap w0.tape d w0.os w0.output).cell? ⟨w.heap.size, 1, none⟩ = some (i64 sp) := fun _ => hbox.cell 1 _ rfl
  have x2 : ∀ d, (World.mk w0.heap w0.tape d w0.os w0.output).cell? ⟨w.heap.size, 2, none⟩ = some (.string nm) := fun _ => hbox.cell 2 _ rfl
  have HB := Lib.hid (And.intro b0 (And.intro hn h))
  clear hn hlist hbox b0 h hv
  go_enter Try.func10, Try.ntmps10
  go_wp2_with fail
  go_still_tail 7, (by kernel_rfl)
  change wpList _ _ _ _ _ w0.drew
  clear l0 x0 x1 x2
  go_wp2_with (first
    | (go_at_call 12; (with_reducible refine (StkAt.keepB HB.out.2.2 HB.out.1.drew HB.out.2.1 hl rfl).mono ?_); rintro e w3 ⟨rfl, hs3⟩; have H3 := Lib.hid hs3; clear hs3))
  go_ret
  exact ⟨rfl, H3.out⟩

/-- Two stacks that lie apart. -/
abbrev Two (w : World) (B ls lt : Nat) (vs vt : Value) (es et : List Ent) : Prop := StkAt w B ls vs es ∧ StkAt w B lt vt et ∧ ls ≠ lt ∧ ∀ k, vs.ownBlock = some k → vt.ownBlock ≠ some k
theorem Two.swap {w : World} {B ls lt : Nat} {vs vt : Value} {es et : List Ent} (h : Two w B ls lt vs vt es et) : Two w B lt ls vt vs et es := ⟨h.2.1, h.1, h.2.2.1.symm, fun k hk e => h.2.2.2 k e hk⟩
theorem Two.below {w w' : World} {B ls lt : Nat} {vs vt : Value} {es et : List Ent} (h : Two w B ls lt vs vt es et) (hb : Below w.heap.size w w') : Two w' B ls lt vs vt es et := ⟨h.1.below hb, h.2.1.below hb, h.2.2⟩
theorem own_far {w : World} {B lb : Nat} {v v2 : Value} {es : List Ent} (h : StkAt w B lb v es) {g : Nat} (hb : Blk w g 59 #[v2]) : v.ownBlock ≠ some g := fun e => own_ne h.2.2.1 hb (by decide) e
theorem Two.push {w w' : World} {B ls lt : Nat} {vs vt vs' : Value} {es et es' : List Ent} (h : Two w B ls lt vs vt es et) (h1 : StkAt w' B ls vs' es') (hk : Keep ls vs w w') (hloc : ∀ k, vs'.ownBlock = some k → vs.ownBlock = some k ∨ w.heap.size ≤ k) : Two w' B ls lt vs' vt es' et := by
  obtain ⟨hs, ht, hne, hsep⟩ := h
  have hblk : Blk w' lt 59 #[vt] := (hk.2.2.2.2 lt ht.1.lt hne.symm (own_far hs ht.1)).trans ht.1
  have hrow : w'.ownsRow B 27 3 vt et.length (flatE et) := by
    refine ⟨ht.2.2.1.1, ?_⟩
    rcases ht.2.2.1.2 with hn | ⟨g, cap, cur, rfl, hb, hg, rest⟩
    · exact .inl hn
    · refine .inr ⟨g, cap, cur, rfl, hb, ?_, rest⟩
      have hgl := (Array.getElem?_eq_some_iff.1 hg).1
      rw [hk.2.2.2.2 g hgl (fun e => own_far ht hs.1 (by rw [← e]; rfl)) (fun e => hsep g e rfl)]
      exact hg
  refine ⟨h1, ⟨hblk, ht.2.1, hrow, ht.2.2.2⟩, hne, fun k hk' e => ?_⟩
  rcases hloc k hk' with h2 | h2
  · exact hsep k h2 e
  · have := (ht.2.2.1.lt k e).2
    omega
theorem Keep.below {w w' : World} {B lb : Nat} {v : Value} {es : List Ent} {A : Nat} (h : Keep lb v w w') (hs : StkAt w B lb v es) (hA : A ≤ B) (hAl : A ≤ w.heap.size) : Below A w w' :=
  ⟨h.1, h.2.1, h.2.2.1, h.2.2.2.1, fun k hk => h.2.2.2.2 k (by omega) (by have := hs.2.1; omega) (fun e => by have := (hs.2.2.1.lt k e).1; omega)⟩

end Go.Proofs.Ytdagjpiakbfjpaa
