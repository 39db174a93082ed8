/-
  (*List).Last, walked.
  Written by an AI agent.
-/
import Derived.Test.YtjopfgdgmniigaaBack
namespace Go.Proofs.Ytjopfgdgmniigaa
open Go.RowKit Go.Maps Go.Shelf
attribute [local go_sem] Oper.semAt_some

def lastF (nm : ByteArray) (es : List Ent) : Option Ent := ((es.drop (partE es)).reverse).find? (fun e => decide (e.name = nm))

/-- The j-th of the entries, with its attributes' slice. -/
def entAt (D : List (Ent × Value)) (j : Nat) : Ent × Value := D[j]?.getD (⟨false, 0, ⟨#[]⟩, []⟩, .slice none 0 0)
def sliceA : Value → Option Addr
  | .slice a _ _ => a
  | _ => none
def sliceN : Value → Nat
  | .slice _ n _ => n
  | _ => 0
def sliceC : Value → Nat
  | .slice _ _ c => c
  | _ => 0
def partsOf (D : List (Ent × Value)) : Parts :=
  ⟨fun j => (entAt D j).1.mark, fun j => (entAt D j).1.id, fun j => (entAt D j).1.name, fun j => sliceA (entAt D j).2, fun j => sliceN (entAt D j).2, fun j => sliceC (entAt D j).2⟩

theorem slice_val {w : World} {B : Nat} {v : Value} {l : List Atr} (h : AtrsAt w B v l) : .slice (sliceA v) (sliceN v) (sliceC v) = v := by
  obtain ⟨ad, n, c, rfl⟩ := h.fit
  rfl
theorem entAt_some {D : List (Ent × Value)} {j : Nat} {x : Ent × Value} (h : D[j]? = some x) : entAt D j = x := by simp [entAt, h]
theorem entAt_atrs {w : World} {B : Nat} {D : List (Ent × Value)} (h : ∀ p ∈ D, AtrsAt w B p.2 p.1.attrs) (j : Nat) : AtrsAt w B (entAt D j).2 (entAt D j).1.attrs := by
  cases hj : D[j]? with
  | none => unfold entAt; rw [hj]; exact AtrsAt.nil w B
  | some x => rw [entAt_some hj]; exact h x (List.mem_of_getElem? hj)
theorem parts_val {w : World} {B : Nat} {D : List (Ent × Value)} (h : ∀ p ∈ D, AtrsAt w B p.2 p.1.attrs) (j : Nat) : .slice ((partsOf D).va j) ((partsOf D).vn j) ((partsOf D).vc j) = (entAt D j).2 := slice_val (entAt_atrs h j)

theorem part_row {w : World} {B g n cap p : Nat} {ps : List (Ent × Value)} (h : RowE w B 33 (.slice (some ⟨g, 0, none⟩) n cap) ps) (hn : ps.length = n) (hp : p ≤ n) : PartsAt w.heap.size w (.slice (some ⟨g, p * 4, none⟩) (n - p) (cap - p)) (n - p) (partsOf (ps.drop p)) := by
  refine ⟨⟨_, _, rfl⟩, by have := h.2.1; omega, fun h0 => ⟨g, p * 4, _, rfl, (h.1.lt g (by rfl)).2, fun j hj => ?_⟩⟩
  obtain ⟨g', cap', he, _, _, hr⟩ := h.form
  have hne : ps ≠ [] := fun e => by rw [e] at hn; simp at hn; omega
  obtain ⟨g2, hg2, _, _, hc⟩ := hr hne
  simp only [Value.slice.injEq] at he
  rw [← he.1] at hg2
  simp only [Option.some.injEq, Addr.mk.injEq, and_true] at hg2
  subst hg2
  obtain ⟨x, hx⟩ : ∃ x, ps[p + j]? = some x := ⟨_, List.getElem?_eq_getElem (by omega)⟩
  obtain ⟨d0, d1, d2, d3⟩ := hc _ _ hx
  have hD : (ps.drop p)[j]? = some x := by rw [List.getElem?_drop]; exact hx
  have hv := parts_val (D := ps.drop p) (fun q hq => h.2.2 q (List.mem_of_mem_drop hq)) j
  rw [entAt_some hD] at hv
  rw [hv]
  have e1 : p * 4 + j * 4 = (p + j) * 4 := by omega
  simp only [partsOf, entAt_some hD, e1]
  exact ⟨d0, d1, d2, d3⟩
theorem part_none {w : World} {a : Option Addr} {cap : Nat} {D : List (Ent × Value)} : PartsAt w.heap.size w (.slice a 0 cap) 0 (partsOf D) := ⟨⟨_, _, rfl⟩, by omega, fun h => absurd rfl h⟩

theorem blk_own {β : Type} (g : Nat) (t : TypeId) (f : β → Array Value) : Own (fun s W => Blk W g t (f s)) := fun s X Y row hs hg hr => by
  refine (hg.block g hs.lt (fun e => ?_)).trans hs
  obtain ⟨o, ho, hc⟩ := hr g e.symm
  have := hs.symm.trans ho
  cases this
  cases hc
theorem own_own {X Y : World} {B : Nat} {te : TypeId} {c n : Nat} {v : Value} {xs : List Value} {row : Option Nat} (h : X.ownsRow B te c v n xs) (hg : X.grownBy Y row) (hr : ∀ r, row = some r → ∃ o : Obj, X.heap[r]? = some o ∧ o.isCells = false) : Y.ownsRow B te c v n xs := by
  refine h.kept hg ?_
  cases hv : v.ownBlock with
  | none => exact .inl rfl
  | some k =>
    refine .inr (fun e => ?_)
    obtain ⟨o, ho, hc⟩ := hr k e.symm
    obtain ⟨_, cs, hk⟩ := own_kind h k hv
    have := hk.symm.trans ho
    cases this
    cases hc

theorem last_p {w w0 : World} {B lb p : Nat} {v : Value} {ps : List (Ent × Value)} (h : ListAt w B lb 63 33 v ps) (hp : partE (ps.map (·.1)) = p) (hb : Below w.heap.size w w0) : Calls Try.prog 38 #[ptr lb] w0 fun e w' => e = .returned (i64 p) ∧ w' = w0 := by
  subst hp
  exact last_any ⟨v, ps, h.below hb, rfl⟩

theorem back_wide {w : World} (a : Option Addr) (len cap : Nat) : Calls Try.prog 37 #[.slice a len cap] w fun e w' => e = .returned (.func (.func 50) #[] #[.pointer (some ⟨w.heap.size, 0, none⟩)]) ∧ w' = w.alloc (.cells #[.slice a len cap] 38) :=
  callsIn_wide.1 (back_in Fence.wide 1 trivial rfl a len cap w)

theorem below_from {B : Nat} {W W' : World} (h : Below W.heap.size W W') : KeepsFrom B W W' := ⟨h.size, fun k o _ hk _ => (h.block k (Array.getElem?_eq_some_iff.1 hk).1).trans hk⟩

def zeroE : Array Value := #[.bool false, i64 0, .string ⟨#[]⟩, .slice none 0 0]

/-- What Last gives: the last one of the name among the parts, copied; or none. -/
def LastP (P : Parts) (A : Nat → List Atr) (len : Nat) (nm : ByteArray) (w : World) (e : Ending) (w' : World) : Prop :=
  ((∃ (k x : Nat) (ua : Option Addr) (uc : Nat), k < len ∧ x = len - 1 - k ∧ (∀ j, j < k → P.nm (len - 1 - j) ≠ nm) ∧ P.nm x = nm ∧ e = .returned (.tuple #[.agg #[.bool (P.mark x), i64 (P.id x), .string (P.nm x), .slice ua (A x).length uc], .bool true]) ∧ w'.ownsRow w.heap.size 60 2 (.slice ua (A x).length uc) (A x).length (flatA (A x))) ∨
    ((∀ j, j < len → P.nm (len - 1 - j) ≠ nm) ∧ e = .returned (.tuple #[.agg #[.bool false, i64 0, .string ⟨#[]⟩, .slice none 0 0], .bool false]))) ∧ Below w.heap.size w w'

theorem downto_mem {n k q : Nat} : q ∈ downto n k ↔ ∃ j, j < k ∧ n - 1 - j = q := by simp [downto]

/-- The five stores into the two results. -/
def five (X : World) (b4 b5 : Nat) (a b c d e : Value) : World :=
  ((((X.setCell ⟨b4, 0, none⟩ a).setCell ⟨b4, 1, none⟩ b).setCell ⟨b4, 2, none⟩ c).setCell ⟨b4, 3, none⟩ d).setCell ⟨b5, 0, none⟩ e
theorem five_blk {X : World} {b4 b5 : Nat} {p q r s t : Value} (h4 : Blk X b4 33 #[p, q, r, s]) (h5 : Blk X b5 4 #[t]) (a b c d e : Value) :
    Blk (five X b4 b5 a b c d e) b4 33 #[a, b, c, d] ∧ Blk (five X b4 b5 a b c d e) b5 4 #[e] := by
  have hne : b4 ≠ b5 := h4.ne h5 (by decide)
  refine ⟨((((h4.put 0 a).put 1 b).put 2 c).put 3 d).far (p := ⟨b5, 0, none⟩) hne e, ?_⟩
  exact ((((h5.far (p := ⟨b4, 0, none⟩) hne.symm a).far (p := ⟨b4, 1, none⟩) hne.symm b).far (p := ⟨b4, 2, none⟩) hne.symm c).far (p := ⟨b4, 3, none⟩) hne.symm d).put 0 e
theorem five_keeps (X : World) (b4 b5 : Nat) (a b c d e : Value) : KeepsOthers X (five X b4 b5 a b c d e) :=
  ((((KeepsOthers.setCell _ _ _).trans (KeepsOthers.setCell _ _ _)).trans (KeepsOthers.setCell _ _ _)).trans (KeepsOthers.setCell _ _ _)).trans (KeepsOthers.setCell _ _ _)
theorem five_below {w X : World} {b4 b5 : Nat} (h : Below w.heap.size w X) (h4 : w.heap.size ≤ b4) (h5 : w.heap.size ≤ b5) (a b c d e : Value) : Below w.heap.size w (five X b4 b5 a b c d e) :=
  ((((h.setCell (p := ⟨b4, 0, none⟩) h4 a).setCell (p := ⟨b4, 1, none⟩) h4 b).setCell (p := ⟨b4, 2, none⟩) h4 c).setCell (p := ⟨b4, 3, none⟩) h4 d).setCell (p := ⟨b5, 0, none⟩) h5 e
theorem five_own {X : World} {b4 b5 B n : Nat} {v p q r s t : Value} {xs : List Value} (h : X.ownsRow B 60 2 v n xs) (h4 : Blk X b4 33 #[p, q, r, s]) (h5 : Blk X b5 4 #[t]) (a b c d e : Value) : (five X b4 b5 a b c d e).ownsRow B 60 2 v n xs := by
  have hne : b4 ≠ b5 := h4.ne h5 (by decide)
  have o1 := own_setCell h h4 (by decide) 0 a
  have o2 := own_setCell o1 (h4.put 0 a) (by decide) 1 b
  have o3 := own_setCell o2 ((h4.put 0 a).put 1 b) (by decide) 2 c
  have o4 := own_setCell o3 (((h4.put 0 a).put 1 b).put 2 c) (by decide) 3 d
  exact own_setCell o4 ((((h5.far (p := ⟨b4, 0, none⟩) hne.symm a).far (p := ⟨b4, 1, none⟩) hne.symm b).far (p := ⟨b4, 2, none⟩) hne.symm c).far (p := ⟨b4, 3, none⟩) hne.symm d) (by decide) 0 e

theorem last_end {w W : World} {D b4 b5 : Nat} {tmps : Array Value} {R : Ending → World → Prop} {cs : Array Value} {b : Bool} (h4 : tmps.getD 4 undef = ptr b4) (h5 : tmps.getD 5 undef = ptr b5) (g4 : Blk W b4 33 cs) (g5 : Blk W b5 4 #[.bool b]) (hs : cs.size = 4)
    (hK : W.heap[D]? = some (.deferred (some []))) (hB : Below w.heap.size w W) (hD : w.heap.size ≤ D) (hR : ∀ W', W.grownBy W' (some D) → Below w.heap.size w W' → R (.returned (.tuple #[.agg cs, .bool b])) W') :
    bodyPostM Fence.wide 6 Try.prog Try.f16 R .ret { tmps := tmps, defers := [{ target := .collected D, args := #[] }] } W := by
  refine ⟨by simp, .inl ⟨_, _, rfl, run_takeDeferred hK, ?_⟩⟩
  have hr : ∀ r, some D = some r → ∃ o : Obj, W.heap[r]? = some o ∧ o.isCells = false := fun r e => by cases e; exact ⟨_, hK, rfl⟩
  have q4 := blk_own b4 33 (fun (_ : Unit) => cs) () W _ _ g4 (grownBy_putObj' W D (.deferred none)) hr
  have q5 := blk_own b5 4 (fun (_ : Unit) => #[.bool b]) () W _ _ g5 (grownBy_putObj' W D (.deferred none)) hr
  exact ⟨_, results_last h4 h5 q4 q5 hs, hR _ (grownBy_putObj' W D (.deferred none)) (hB.trans (belowK_b (w := w) (Nat.le_refl _) W D _ _ hD hK rfl rfl))⟩

set_option maxRecDepth 100000 in
set_option maxHeartbeats 8000000 in
theorem last_go {w : World} {B lb g n cap p : Nat} {ps : List (Ent × Value)} {P : Parts} {A : Nat → List Atr} (h : ListAt w B lb 63 33 (.slice (some ⟨g, 0, none⟩) n cap) ps) (hp : partE (ps.map (·.1)) = p) (hpn : p ≤ n) (hnc : n ≤ cap) (hne : ¬ cap = p) (nm : ByteArray)
    (hP : PartsAt w.heap.size w (.slice (some ⟨g, p * 4, none⟩) (n - p) (cap - p)) (n - p) P) (hA : ∀ j, AtrsAt w w.heap.size (.slice (P.va j) (P.vn j) (P.vc j)) (A j)) :
    Calls Try.prog 16 #[ptr lb, .string nm] w (LastP P A (n - p) nm w) := by
  have c0 := h.1.cell 0 (.slice (some ⟨g, 0, none⟩) n cap) rfl
  have hlb := h.1.lt
  have b0 : Below w.heap.size w (((w.alloc (.cells #[.string nm] 9)).alloc (.cells #[.bool false, i64 0, .string ⟨#[]⟩, .slice none 0 0] 33)).alloc (.cells #[.bool false] 4)) := (((Below.refl _ w).alloc (Nat.le_refl _) _).alloc (by simp) _).alloc (by simp; omega) _
  have B3 := ((Blk.new w 9 #[.string nm]).alloc (.cells #[.bool false, i64 0, .string ⟨#[]⟩, .slice none 0 0] 33)).alloc (.cells #[.bool false] 4)
  have B4 := (Blk.new (w.alloc (.cells #[.string nm] 9)) 33 #[.bool false, i64 0, .string ⟨#[]⟩, .slice none 0 0]).alloc (.cells #[.bool false] 4)
  have B5 := Blk.new ((w.alloc (.cells #[.string nm] 9)).alloc (.cells #[.bool false, i64 0, .string ⟨#[]⟩, .slice none 0 0] 33)) 4 #[.bool false]
  simp only [World.size_alloc] at B4 B5
  obtain ⟨w0, hw0⟩ : ∃ w0, ((w.alloc (.cells #[.string nm] 9)).alloc (.cells #[.bool false, i64 0, .string ⟨#[]⟩, .slice none 0 0] 33)).alloc (.cells #[.bool false] 4) = w0 := ⟨_, rfl⟩
  have hsz : w0.heap.size = w.heap.size + 3 := by rw [← hw0]; simp
  rw [hw0] at b0 B3 B4 B5
  have c1 := (b0.cell (p := ⟨lb, 0, none⟩) hlb).trans c0
  have s0 : (0 : Int) ≤ (p : Int) := by omega
  have s1 : (p : Int) ≤ (n : Int) := by omega
  have HL := Lib.hid (And.intro h (And.intro hp (And.intro hP hA)))
  have HB := Lib.hid (And.intro b0 (And.intro B3 (And.intro B4 B5)))
  clear h hp b0 B3 B4 B5 c0 hP hA
  refine callsIn_wide.1 (callsIn_of_wp_marks (n := 6) Try.func16 rfl trivial ?_ rfl)
  rw [wpIn_wide]
  simp only [Try.ntmps16, List.size_toArray, List.length_cons, List.length_nil, Nat.reduceAdd, Nat.reduceSub, Array.replicate_succ, Array.replicate_zero, List.push_toArray, List.append_toArray, List.nil_append, List.cons_append]
  go_wp2_with fail
  go_region_held3 (fun w' => w'.cell? ⟨lb, 0, none⟩ = some (.slice (some ⟨g, 0, none⟩) n cap)) (go_keep) (first
    | (go_at_call 38; (with_reducible refine (last_p HL.out.1 HL.out.2.1 (HB.out.1.drew)).mono ?_); rintro e w1 ⟨rfl, rfl⟩)
    | (go_at_call 37; (with_reducible refine (back_wide _ _ _).mono ?_); rintro e w2 ⟨rfl, rfl⟩))
  have hBS := Blk.new w0 38 #[.slice (some ⟨g, p * 4, none⟩) (n - p) (cap - p)]
  obtain ⟨W0, hW0⟩ : ∃ W0, (w0.alloc (.cells #[.slice (some ⟨g, p * 4, none⟩) (n - p) (cap - p)] 38)).drew = W0 := ⟨_, rfl⟩
  have hsW : W0.heap.size = w.heap.size + 4 := by rw [← hW0]; simp [hsz]
  have hbW0 : Below w0.heap.size w0 W0 := by rw [← hW0]; exact ((Below.refl _ w0).alloc (Nat.le_refl _) _).drew
  have hBS0 : Blk W0 (w.heap.size + 3) 38 #[.slice (some ⟨g, p * 4, none⟩) (n - p) (cap - p)] := by
    rw [← hW0, ← hsz]; exact hBS
  rw [hW0]
  have hB0 : Below w.heap.size w W0 := HB.out.1.trans (hbW0.mono HB.out.1.size)
  have B3 := blk_kept HB.out.2.1 hbW0
  have B4 := blk_kept HB.out.2.2.1 hbW0
  have B5 := blk_kept HB.out.2.2.2 hbW0
  clear hw0 hW0 hBS hbW0 c1
  go_wp2
  rw [← wpIn_wide (n := 6)]
  obtain ⟨len, hlen⟩ : ∃ len, n - p = len := ⟨_, rfl⟩
  have hP0 := HL.out.2.2.1.below hB0
  rw [hlen] at hP0 hBS0 ⊢
  refine wpIn_rangeFunc_ownH rfl (by omega) (gf := 50) (lb := #[.pointer (some ⟨w.heap.size + 3, 0, none⟩)]) rfl trivial (enters_of Try.func50 (by kernel_rfl) rfl)
    (back_stops Fence.wide (6 - 1) trivial rfl (by omega) (w.heap.size + 3) w.heap.size _ len P W0 (by omega) hBS0 hP0) (fun h k => KpB.t h k) (KpB.b (by omega)) (Below.refl _ _) (fun _ => rfl)
    (fun pre W => ((∀ q ∈ pre, P.nm q ≠ nm) ∧ Blk W (w.heap.size + 1) 33 zeroE ∧ Blk W (w.heap.size + 1 + 1) 4 #[.bool false] ∧ Blk W w.heap.size 9 #[.string nm] ∧ w.heap.size + 3 < W.heap.size) ∧ Below w.heap.size w W)
    (fun c pre W => (c = .ret ∧ ∃ ini x ua uc, pre = ini ++ [x] ∧ (∀ q ∈ ini, P.nm q ≠ nm) ∧ P.nm x = nm ∧ Blk W (w.heap.size + 1) 33 #[.bool (P.mark x), i64 (P.id x), .string (P.nm x), .slice ua (A x).length uc] ∧ Blk W (w.heap.size + 1 + 1) 4 #[.bool true] ∧ W.ownsRow w.heap.size 60 2 (.slice ua (A x).length uc) (A x).length (flatA (A x))) ∧ Below w.heap.size w W)
    (OwnFrom.and (Own.from (fun s X Y row hs hg hr => ⟨hs.1, blk_own _ _ (fun (_ : Unit) => _) () X Y row hs.2.1 hg hr, blk_own _ _ (fun (_ : Unit) => _) () X Y row hs.2.2.1 hg hr, blk_own _ _ (fun (_ : Unit) => _) () X Y row hs.2.2.2.1 hg hr, Nat.lt_of_lt_of_le hs.2.2.2.2 hg.size⟩) _) (ownFrom_below (Nat.le_refl _) (by omega)))
    (fun c => OwnFrom.and (Own.from (fun s X Y row hs hg hr => by
      obtain ⟨hc, ini, x, ua, uc, e1, e2, e3, e4, e5, e6⟩ := hs
      exact ⟨hc, ini, x, ua, uc, e1, e2, e3, blk_own _ _ (fun (_ : Unit) => _) () X Y row e4 hg hr, blk_own _ _ (fun (_ : Unit) => _) () X Y row e5 hg hr, own_own e6 hg hr⟩) _) (ownFrom_below (Nat.le_refl _) (by omega)))
    ⟨⟨by simp, B4, B5, B3, by omega⟩, hB0⟩
    (fun x a' W => ∃ Bx, w.heap.size + 3 < Bx ∧ Blk W Bx 33 #[.bool (P.mark x), i64 (P.id x), .string (P.nm x), .slice (P.va x) (P.vn x) (P.vc x)] ∧ a' = { tmps := #[ptr lb, .string nm, undef, .pointer (some ⟨w.heap.size, 0, none⟩), .pointer (some ⟨w.heap.size + 1, 0, none⟩), .pointer (some ⟨w.heap.size + 1 + 1, 0, none⟩), undef, .pointer (some ⟨Bx, 0, none⟩), ptr lb, .bool false, undef, ptr lb, .pointer (some ⟨lb, 0, none⟩), .pointer (some ⟨lb, 0, none⟩), .slice (some ⟨g, 0, none⟩) n cap, ptr lb, i64 p, .slice (some ⟨g, p * 4, none⟩) len (cap - p), .func (.func 50) #[] #[.pointer (some ⟨w.heap.size + 3, 0, none⟩)], .int .i64 (x : Int), .agg #[.bool (P.mark x), i64 (P.id x), .string (P.nm x), .slice (P.va x) (P.vn x) (P.vc x)], undef, undef, undef, undef, undef, undef, undef], defers := [] })
    (fun x a' _ X Y row hs hg hr => by obtain ⟨Bx, h1, h2, h3⟩ := hs; exact ⟨Bx, h1, blk_own _ _ (fun (_ : Unit) => _) () X Y row h2 hg (fun r e => (hr r e).2), h3⟩)
    ?assign ?body ?done ?stop
  case assign =>
    rintro l pre x W K ⟨⟨hpre, b4, b5, b3, hsz1⟩, hB1⟩ hK
    gi_wp2
    exact hK _ _ ((KeepsOthers.alloc _ _).from _) ⟨(Below.refl _ W).alloc hB1.size _, fun t cs hb => hb.alloc _⟩ ⟨⟨hpre, b4.alloc _, b5.alloc _, b3.alloc _, Nat.lt_of_lt_of_le hsz1 (by simp)⟩, hB1.alloc hB1.size _⟩ ⟨W.heap.size, hsz1, Blk.new W 33 _, rfl⟩
  case body =>
    rintro l pre x a' W hl ⟨r, hr⟩ ⟨⟨hpre, b4, b5, b3, hsz1⟩, hB1⟩ ⟨Bx, hBx, bX, rfl⟩ hlt
    have x0 := bX.cell 0 (.bool (P.mark x)) rfl
    have x1 := bX.cell 1 (i64 (P.id x)) rfl
    have x2 := bX.cell 2 (.string (P.nm x)) rfl
    have x3 := bX.cell 3 (.slice (P.va x) (P.vn x) (P.vc x)) rfl
    have y3 := b3.cell 0 (.string nm) rfl
    have h1' : 1 ≤ 6 - 1 - 1 := by omega
    by_cases hname : P.nm x = nm
    · have hq : (P.nm x).toList = nm.toList := by rw [hname]
      have HAX : Hid (AtrsAt W w.heap.size (.slice (P.va x) (P.vn x) (P.vc x)) (A x)) := Lib.hid ((HL.out.2.2.2 x).below hB1)
      gi_wp2_with (first
        | (refine ⟨trivial, ?_⟩; gi_at_call 35; refine (CallsIn.inRound l (callsIn_wide.2 (copied_n HAX.out rfl))).mono ?_; rintro e w1 ⟨ua, uc, rfl, hown, hbel⟩; have g4 := blk_kept b4 hbel; have g5 := blk_kept b5 hbel; have c40 := g4.cell 0 (.bool false) rfl; have c41 := g4.cell 1 (i64 0) rfl; have c42 := g4.cell 2 (.string ⟨#[]⟩) rfl; have c43 := g4.cell 3 (.slice none 0 0) rfl; have f40 := g4.fro 0; have f41 := g4.fro 1; have f42 := g4.fro 2; have f43 := g4.fro 3; have c50 := g5.cell 0 (.bool false) rfl; have f50 := g5.fro 0; have H1 := Lib.hid (And.intro g4 (And.intro g5 (And.intro hown hbel))); clear g4 g5 hown hbel))
      have HH := five_blk H1.out.1 H1.out.2.1 (.bool (P.mark x)) (.int .i64 (P.id x)) (.string nm) (.slice ua (A x).length uc) (.bool true)
      refine ⟨(below_from H1.out.2.2.2).trans ((five_keeps w1 _ _ _ _ _ _ _).from _), ⟨rfl, pre, x, ua, uc, rfl, hpre, hname, ?_, HH.2, ?_⟩, ?_⟩
      · rw [hname]; exact HH.1
      · exact five_own (own_mono H1.out.2.2.1 hB1.size) H1.out.1 H1.out.2.1 _ _ _ _ _
      · exact five_below (hB1.trans (H1.out.2.2.2.mono hB1.size)) (by omega) (by omega) _ _ _ _ _
    · have hq : ¬ (P.nm x).toList = nm.toList := fun h => hname (toList_inj h)
      have hq2 : ((P.nm x).toList == nm.toList) = false := by simpa using hq
      gi_wp2
      exact ⟨KeepsFrom.refl _ _, ⟨Below.refl _ _, fun _ _ h => h⟩, ⟨fun q hq => (List.mem_append.1 hq).elim (hpre q) (fun e => by rw [List.mem_singleton.1 e]; exact hname), b4, b5, b3, hsz1⟩, hB1⟩
  case done =>
    rintro D ys W hD rfl ⟨⟨hpre, b4, b5, b3, hsz1⟩, hB1⟩ hK
    have f40 := b4.fro 0
    have f41 := b4.fro 1
    have f42 := b4.fro 2
    have f43 := b4.fro 3
    have c40 := b4.cell 0 (.bool false) rfl
    have c41 := b4.cell 1 (i64 0) rfl
    have c42 := b4.cell 2 (.string ⟨#[]⟩) rfl
    have c43 := b4.cell 3 (.slice none 0 0) rfl
    have c50 := b5.cell 0 (.bool false) rfl
    have f50 := b5.fro 0
    gi_wp2
    go_wp2
    have HH := five_blk b4 b5 (.bool false) (.int .i64 0) (.string ⟨#[]⟩) (.slice none 0 0) (.bool false)
    refine last_end (b4 := w.heap.size + 1) (b5 := w.heap.size + 1 + 1) rfl rfl HH.1 HH.2 rfl ((five_keeps W _ _ _ _ _ _ _).same D _ hK rfl) (five_below hB1 (by omega) (by omega) _ _ _ _ _) (by omega) (fun W' _ hB' => ?_)
    rw [hlen]
    exact ⟨.inr ⟨fun j hj => hpre _ (downto_mem.2 ⟨j, hj, rfl⟩), rfl⟩, hB'⟩
  case stop =>
    rintro D c pre W hD ⟨k, hk, rfl⟩ ⟨⟨rfl, ini, x, ua, uc, e1, e2, e3, e4, e5, e6⟩, hB1⟩ hK
    gi_wp2
    refine last_end (b4 := w.heap.size + 1) (b5 := w.heap.size + 1 + 1) rfl rfl e4 e5 rfl hK hB1 (by omega) (fun W' hg' hB' => ?_)
    obtain ⟨k', rfl⟩ : ∃ k', k = k' + 1 := by
      cases k with
      | zero => simp [downto] at e1
      | succ k' => exact ⟨k', rfl⟩
    rw [downto_succ] at e1
    obtain ⟨rfl, e7⟩ := List.append_inj' e1 rfl
    have e8 : len - 1 - k' = x := by simpa using e7
    exact ⟨.inl ⟨k', x, ua, uc, by omega, e8.symm, fun j hj => e2 _ (downto_mem.2 ⟨j, hj, rfl⟩), e3, rfl, own_own e6 hg' (fun r e => by cases e; exact ⟨_, hK, rfl⟩)⟩, hB'⟩

set_option maxRecDepth 100000 in
set_option maxHeartbeats 8000000 in
theorem last_some {w : World} {B lb g p : Nat} {ps : List (Ent × Value)} {P : Parts} {A : Nat → List Atr} (h : ListAt w B lb 63 33 (.slice (some ⟨g, 0, none⟩) p p) ps) (hp : partE (ps.map (·.1)) = p) (nm : ByteArray)
    (hP : PartsAt w.heap.size w (.slice (some ⟨g, 0, none⟩) 0 0) 0 P) (hA : ∀ j, AtrsAt w w.heap.size (.slice (P.va j) (P.vn j) (P.vc j)) (A j)) :
    Calls Try.prog 16 #[ptr lb, .string nm] w (LastP P A 0 nm w) := by
  have c0 := h.1.cell 0 (.slice (some ⟨g, 0, none⟩) p p) rfl
  have hlb := h.1.lt
  have b0 : Below w.heap.size w (((w.alloc (.cells #[.string nm] 9)).alloc (.cells #[.bool false, i64 0, .string ⟨#[]⟩, .slice none 0 0] 33)).alloc (.cells #[.bool false] 4)) := (((Below.refl _ w).alloc (Nat.le_refl _) _).alloc (by simp) _).alloc (by simp; omega) _
  have B3 := ((Blk.new w 9 #[.string nm]).alloc (.cells #[.bool false, i64 0, .string ⟨#[]⟩, .slice none 0 0] 33)).alloc (.cells #[.bool false] 4)
  have B4 := (Blk.new (w.alloc (.cells #[.string nm] 9)) 33 #[.bool false, i64 0, .string ⟨#[]⟩, .slice none 0 0]).alloc (.cells #[.bool false] 4)
  have B5 := Blk.new ((w.alloc (.cells #[.string nm] 9)).alloc (.cells #[.bool false, i64 0, .string ⟨#[]⟩, .slice none 0 0] 33)) 4 #[.bool false]
  simp only [World.size_alloc] at B4 B5
  obtain ⟨w0, hw0⟩ : ∃ w0, ((w.alloc (.cells #[.string nm] 9)).alloc (.cells #[.bool false, i64 0, .string ⟨#[]⟩, .slice none 0 0] 33)).alloc (.cells #[.bool false] 4) = w0 := ⟨_, rfl⟩
  have hsz : w0.heap.size = w.heap.size + 3 := by rw [← hw0]; simp
  rw [hw0] at b0 B3 B4 B5
  have c1 := (b0.cell (p := ⟨lb, 0, none⟩) hlb).trans c0
  have s0 : (0 : Int) ≤ (p : Int) := by omega
  have HL := Lib.hid (And.intro h (And.intro hp (And.intro hP hA)))
  have HB := Lib.hid (And.intro b0 (And.intro B3 (And.intro B4 B5)))
  clear h hp b0 B3 B4 B5 c0 hP hA
  refine callsIn_wide.1 (callsIn_of_wp_marks (n := 6) Try.func16 rfl trivial ?_ rfl)
  rw [wpIn_wide]
  simp only [Try.ntmps16, List.size_toArray, List.length_cons, List.length_nil, Nat.reduceAdd, Nat.reduceSub, Array.replicate_succ, Array.replicate_zero, List.push_toArray, List.append_toArray, List.nil_append, List.cons_append]
  go_wp2_with fail
  go_region_held3 (fun w' => w'.cell? ⟨lb, 0, none⟩ = some (.slice (some ⟨g, 0, none⟩) p p)) (go_keep) (first
    | (go_at_call 38; (with_reducible refine (last_p HL.out.1 HL.out.2.1 (HB.out.1.drew)).mono ?_); rintro e w1 ⟨rfl, rfl⟩)
    | (go_at_call 37; (with_reducible refine (back_wide _ _ _).mono ?_); rintro e w2 ⟨rfl, rfl⟩))
  have hBS := Blk.new w0 38 #[.slice (some ⟨g, 0, none⟩) 0 0]
  obtain ⟨W0, hW0⟩ : ∃ W0, (w0.alloc (.cells #[.slice (some ⟨g, 0, none⟩) 0 0] 38)).drew = W0 := ⟨_, rfl⟩
  have hsW : W0.heap.size = w.heap.size + 4 := by rw [← hW0]; simp [hsz]
  have hbW0 : Below w0.heap.size w0 W0 := by rw [← hW0]; exact ((Below.refl _ w0).alloc (Nat.le_refl _) _).drew
  have hBS0 : Blk W0 (w.heap.size + 3) 38 #[.slice (some ⟨g, 0, none⟩) 0 0] := by
    rw [← hW0, ← hsz]; exact hBS
  rw [hW0]
  have hB0 : Below w.heap.size w W0 := HB.out.1.trans (hbW0.mono HB.out.1.size)
  have B3 := blk_kept HB.out.2.1 hbW0
  have B4 := blk_kept HB.out.2.2.1 hbW0
  have B5 := blk_kept HB.out.2.2.2 hbW0
  clear hw0 hW0 hBS hbW0 c1
  go_wp2
  rw [← wpIn_wide (n := 6)]
  have hP0 := HL.out.2.2.1.below hB0
  refine wpIn_rangeFunc_ownH rfl (by omega) (gf := 50) (lb := #[.pointer (some ⟨w.heap.size + 3, 0, none⟩)]) rfl trivial (enters_of Try.func50 (by kernel_rfl) rfl)
    (back_stops Fence.wide (6 - 1) trivial rfl (by omega) (w.heap.size + 3) w.heap.size _ 0 P W0 (by omega) hBS0 hP0) (fun h k => KpB.t h k) (KpB.b (by omega)) (Below.refl _ _) (fun _ => rfl)
    (fun pre W => ((∀ q ∈ pre, P.nm q ≠ nm) ∧ Blk W (w.heap.size + 1) 33 zeroE ∧ Blk W (w.heap.size + 1 + 1) 4 #[.bool false] ∧ Blk W w.heap.size 9 #[.string nm] ∧ w.heap.size + 3 < W.heap.size) ∧ Below w.heap.size w W)
    (fun c pre W => (c = .ret ∧ ∃ ini x ua uc, pre = ini ++ [x] ∧ (∀ q ∈ ini, P.nm q ≠ nm) ∧ P.nm x = nm ∧ Blk W (w.heap.size + 1) 33 #[.bool (P.mark x), i64 (P.id x), .string (P.nm x), .slice ua (A x).length uc] ∧ Blk W (w.heap.size + 1 + 1) 4 #[.bool true] ∧ W.ownsRow w.heap.size 60 2 (.slice ua (A x).length uc) (A x).length (flatA (A x))) ∧ Below w.heap.size w W)
    (OwnFrom.and (Own.from (fun s X Y row hs hg hr => ⟨hs.1, blk_own _ _ (fun (_ : Unit) => _) () X Y row hs.2.1 hg hr, blk_own _ _ (fun (_ : Unit) => _) () X Y row hs.2.2.1 hg hr, blk_own _ _ (fun (_ : Unit) => _) () X Y row hs.2.2.2.1 hg hr, Nat.lt_of_lt_of_le hs.2.2.2.2 hg.size⟩) _) (ownFrom_below (Nat.le_refl _) (by omega)))
    (fun c => OwnFrom.and (Own.from (fun s X Y row hs hg hr => by
      obtain ⟨hc, ini, x, ua, uc, e1, e2, e3, e4, e5, e6⟩ := hs
      exact ⟨hc, ini, x, ua, uc, e1, e2, e3, blk_own _ _ (fun (_ : Unit) => _) () X Y row e4 hg hr, blk_own _ _ (fun (_ : Unit) => _) () X Y row e5 hg hr, own_own e6 hg hr⟩) _) (ownFrom_below (Nat.le_refl _) (by omega)))
    ⟨⟨by simp, B4, B5, B3, by omega⟩, hB0⟩
    (fun x a' W => ∃ Bx, w.heap.size + 3 < Bx ∧ Blk W Bx 33 #[.bool (P.mark x), i64 (P.id x), .string (P.nm x), .slice (P.va x) (P.vn x) (P.vc x)] ∧ a' = { tmps := #[ptr lb, .string nm, undef, .pointer (some ⟨w.heap.size, 0, none⟩), .pointer (some ⟨w.heap.size + 1, 0, none⟩), .pointer (some ⟨w.heap.size + 1 + 1, 0, none⟩), undef, .pointer (some ⟨Bx, 0, none⟩), ptr lb, .bool false, undef, ptr lb, .pointer (some ⟨lb, 0, none⟩), .pointer (some ⟨lb, 0, none⟩), .slice (some ⟨g, 0, none⟩) p p, ptr lb, i64 p, .slice (some ⟨g, 0, none⟩) 0 0, .func (.func 50) #[] #[.pointer (some ⟨w.heap.size + 3, 0, none⟩)], .int .i64 (x : Int), .agg #[.bool (P.mark x), i64 (P.id x), .string (P.nm x), .slice (P.va x) (P.vn x) (P.vc x)], undef, undef, undef, undef, undef, undef, undef], defers := [] })
    (fun x a' _ X Y row hs hg hr => by obtain ⟨Bx, h1, h2, h3⟩ := hs; exact ⟨Bx, h1, blk_own _ _ (fun (_ : Unit) => _) () X Y row h2 hg (fun r e => (hr r e).2), h3⟩)
    ?assign ?body ?done ?stop
  case assign =>
    rintro l pre x W K ⟨⟨hpre, b4, b5, b3, hsz1⟩, hB1⟩ hK
    gi_wp2
    exact hK _ _ ((KeepsOthers.alloc _ _).from _) ⟨(Below.refl _ W).alloc hB1.size _, fun t cs hb => hb.alloc _⟩ ⟨⟨hpre, b4.alloc _, b5.alloc _, b3.alloc _, Nat.lt_of_lt_of_le hsz1 (by simp)⟩, hB1.alloc hB1.size _⟩ ⟨W.heap.size, hsz1, Blk.new W 33 _, rfl⟩
  case body =>
    rintro l pre x a' W hl ⟨r, hr⟩ ⟨⟨hpre, b4, b5, b3, hsz1⟩, hB1⟩ ⟨Bx, hBx, bX, rfl⟩ hlt
    exact absurd hlt (Nat.not_lt_zero _)
  case done =>
    rintro D ys W hD rfl ⟨⟨hpre, b4, b5, b3, hsz1⟩, hB1⟩ hK
    have f40 := b4.fro 0
    have f41 := b4.fro 1
    have f42 := b4.fro 2
    have f43 := b4.fro 3
    have c40 := b4.cell 0 (.bool false) rfl
    have c41 := b4.cell 1 (i64 0) rfl
    have c42 := b4.cell 2 (.string ⟨#[]⟩) rfl
    have c43 := b4.cell 3 (.slice none 0 0) rfl
    have c50 := b5.cell 0 (.bool false) rfl
    have f50 := b5.fro 0
    gi_wp2
    go_wp2
    have HH := five_blk b4 b5 (.bool false) (.int .i64 0) (.string ⟨#[]⟩) (.slice none 0 0) (.bool false)
    refine last_end (b4 := w.heap.size + 1) (b5 := w.heap.size + 1 + 1) rfl rfl HH.1 HH.2 rfl ((five_keeps W _ _ _ _ _ _ _).same D _ hK rfl) (five_below hB1 (by omega) (by omega) _ _ _ _ _) (by omega) (fun W' _ hB' => ?_)
    exact ⟨.inr ⟨fun j hj => hpre _ (downto_mem.2 ⟨j, hj, rfl⟩), rfl⟩, hB'⟩
  case stop =>
    rintro D c pre W hD ⟨k, hk, rfl⟩ ⟨⟨rfl, ini, x, ua, uc, e1, e2, e3, e4, e5, e6⟩, hB1⟩ hK
    gi_wp2
    refine last_end (b4 := w.heap.size + 1) (b5 := w.heap.size + 1 + 1) rfl rfl e4 e5 rfl hK hB1 (by omega) (fun W' hg' hB' => ?_)
    obtain ⟨k', rfl⟩ : ∃ k', k = k' + 1 := by
      cases k with
      | zero => simp [downto] at e1
      | succ k' => exact ⟨k', rfl⟩
    rw [downto_succ] at e1
    obtain ⟨rfl, e7⟩ := List.append_inj' e1 rfl
    have e8 : 0 - 1 - k' = x := by simpa using e7
    exact ⟨.inl ⟨k', x, ua, uc, by omega, e8.symm, fun j hj => e2 _ (downto_mem.2 ⟨j, hj, rfl⟩), e3, rfl, own_own e6 hg' (fun r e => by cases e; exact ⟨_, hK, rfl⟩)⟩, hB'⟩

set_option maxRecDepth 100000 in
set_option maxHeartbeats 8000000 in
theorem last_none {w : World} {B lb p : Nat} {ps : List (Ent × Value)} {P : Parts} {A : Nat → List Atr} (h : ListAt w B lb 63 33 (.slice none p p) ps) (hp : partE (ps.map (·.1)) = p) (nm : ByteArray)
    (hP : PartsAt w.heap.size w (.slice none 0 0) 0 P) (hA : ∀ j, AtrsAt w w.heap.size (.slice (P.va j) (P.vn j) (P.vc j)) (A j)) :
    Calls Try.prog 16 #[ptr lb, .string nm] w (LastP P A 0 nm w) := by
  have c0 := h.1.cell 0 (.slice none p p) rfl
  have hlb := h.1.lt
  have b0 : Below w.heap.size w (((w.alloc (.cells #[.string nm] 9)).alloc (.cells #[.bool false, i64 0, .string ⟨#[]⟩, .slice none 0 0] 33)).alloc (.cells #[.bool false] 4)) := (((Below.refl _ w).alloc (Nat.le_refl _) _).alloc (by simp) _).alloc (by simp; omega) _
  have B3 := ((Blk.new w 9 #[.string nm]).alloc (.cells #[.bool false, i64 0, .string ⟨#[]⟩, .slice none 0 0] 33)).alloc (.cells #[.bool false] 4)
  have B4 := (Blk.new (w.alloc (.cells #[.string nm] 9)) 33 #[.bool false, i64 0, .string ⟨#[]⟩, .slice none 0 0]).alloc (.cells #[.bool false] 4)
  have B5 := Blk.new ((w.alloc (.cells #[.string nm] 9)).alloc (.cells #[.bool false, i64 0, .string ⟨#[]⟩, .slice none 0 0] 33)) 4 #[.bool false]
  simp only [World.size_alloc] at B4 B5
  obtain ⟨w0, hw0⟩ : ∃ w0, ((w.alloc (.cells #[.string nm] 9)).alloc (.cells #[.bool false, i64 0, .string ⟨#[]⟩, .slice none 0 0] 33)).alloc (.cells #[.bool false] 4) = w0 := ⟨_, rfl⟩
  have hsz : w0.heap.size = w.heap.size + 3 := by rw [← hw0]; simp
  rw [hw0] at b0 B3 B4 B5
  have c1 := (b0.cell (p := ⟨lb, 0, none⟩) hlb).trans c0
  have s0 : (0 : Int) ≤ (p : Int) := by omega
  have HL := Lib.hid (And.intro h (And.intro hp (And.intro hP hA)))
  have HB := Lib.hid (And.intro b0 (And.intro B3 (And.intro B4 B5)))
  clear h hp b0 B3 B4 B5 c0 hP hA
  refine callsIn_wide.1 (callsIn_of_wp_marks (n := 6) Try.func16 rfl trivial ?_ rfl)
  rw [wpIn_wide]
  simp only [Try.ntmps16, List.size_toArray, List.length_cons, List.length_nil, Nat.reduceAdd, Nat.reduceSub, Array.replicate_succ, Array.replicate_zero, List.push_toArray, List.append_toArray, List.nil_append, List.cons_append]
  go_wp2_with fail
  go_region_held3 (fun w' => w'.cell? ⟨lb, 0, none⟩ = some (.slice none p p)) (go_keep) (first
    | (go_at_call 38; (with_reducible refine (last_p HL.out.1 HL.out.2.1 (HB.out.1.drew)).mono ?_); rintro e w1 ⟨rfl, rfl⟩)
    | (go_at_call 37; (with_reducible refine (back_wide _ _ _).mono ?_); rintro e w2 ⟨rfl, rfl⟩))
  have hBS := Blk.new w0 38 #[.slice none 0 0]
  obtain ⟨W0, hW0⟩ : ∃ W0, (w0.alloc (.cells #[.slice none 0 0] 38)).drew = W0 := ⟨_, rfl⟩
  have hsW : W0.heap.size = w.heap.size + 4 := by rw [← hW0]; simp [hsz]
  have hbW0 : Below w0.heap.size w0 W0 := by rw [← hW0]; exact ((Below.refl _ w0).alloc (Nat.le_refl _) _).drew
  have hBS0 : Blk W0 (w.heap.size + 3) 38 #[.slice none 0 0] := by
    rw [← hW0, ← hsz]; exact hBS
  rw [hW0]
  have hB0 : Below w.heap.size w W0 := HB.out.1.trans (hbW0.mono HB.out.1.size)
  have B3 := blk_kept HB.out.2.1 hbW0
  have B4 := blk_kept HB.out.2.2.1 hbW0
  have B5 := blk_kept HB.out.2.2.2 hbW0
  clear hw0 hW0 hBS hbW0 c1
  go_wp2
  rw [← wpIn_wide (n := 6)]
  have hP0 := HL.out.2.2.1.below hB0
  refine wpIn_rangeFunc_ownH rfl (by omega) (gf := 50) (lb := #[.pointer (some ⟨w.heap.size + 3, 0, none⟩)]) rfl trivial (enters_of Try.func50 (by kernel_rfl) rfl)
    (back_stops Fence.wide (6 - 1) trivial rfl (by omega) (w.heap.size + 3) w.heap.size _ 0 P W0 (by omega) hBS0 hP0) (fun h k => KpB.t h k) (KpB.b (by omega)) (Below.refl _ _) (fun _ => rfl)
    (fun pre W => ((∀ q ∈ pre, P.nm q ≠ nm) ∧ Blk W (w.heap.size + 1) 33 zeroE ∧ Blk W (w.heap.size + 1 + 1) 4 #[.bool false] ∧ Blk W w.heap.size 9 #[.string nm] ∧ w.heap.size + 3 < W.heap.size) ∧ Below w.heap.size w W)
    (fun c pre W => (c = .ret ∧ ∃ ini x ua uc, pre = ini ++ [x] ∧ (∀ q ∈ ini, P.nm q ≠ nm) ∧ P.nm x = nm ∧ Blk W (w.heap.size + 1) 33 #[.bool (P.mark x), i64 (P.id x), .string (P.nm x), .slice ua (A x).length uc] ∧ Blk W (w.heap.size + 1 + 1) 4 #[.bool true] ∧ W.ownsRow w.heap.size 60 2 (.slice ua (A x).length uc) (A x).length (flatA (A x))) ∧ Below w.heap.size w W)
    (OwnFrom.and (Own.from (fun s X Y row hs hg hr => ⟨hs.1, blk_own _ _ (fun (_ : Unit) => _) () X Y row hs.2.1 hg hr, blk_own _ _ (fun (_ : Unit) => _) () X Y row hs.2.2.1 hg hr, blk_own _ _ (fun (_ : Unit) => _) () X Y row hs.2.2.2.1 hg hr, Nat.lt_of_lt_of_le hs.2.2.2.2 hg.size⟩) _) (ownFrom_below (Nat.le_refl _) (by omega)))
    (fun c => OwnFrom.and (Own.from (fun s X Y row hs hg hr => by
      obtain ⟨hc, ini, x, ua, uc, e1, e2, e3, e4, e5, e6⟩ := hs
      exact ⟨hc, ini, x, ua, uc, e1, e2, e3, blk_own _ _ (fun (_ : Unit) => _) () X Y row e4 hg hr, blk_own _ _ (fun (_ : Unit) => _) () X Y row e5 hg hr, own_own e6 hg hr⟩) _) (ownFrom_below (Nat.le_refl _) (by omega)))
    ⟨⟨by simp, B4, B5, B3, by omega⟩, hB0⟩
    (fun x a' W => ∃ Bx, w.heap.size + 3 < Bx ∧ Blk W Bx 33 #[.bool (P.mark x), i64 (P.id x), .string (P.nm x), .slice (P.va x) (P.vn x) (P.vc x)] ∧ a' = { tmps := #[ptr lb, .string nm, undef, .pointer (some ⟨w.heap.size, 0, none⟩), .pointer (some ⟨w.heap.size + 1, 0, none⟩), .pointer (some ⟨w.heap.size + 1 + 1, 0, none⟩), undef, .pointer (some ⟨Bx, 0, none⟩), ptr lb, .bool false, undef, ptr lb, .pointer (some ⟨lb, 0, none⟩), .pointer (some ⟨lb, 0, none⟩), .slice none p p, ptr lb, i64 p, .slice none 0 0, .func (.func 50) #[] #[.pointer (some ⟨w.heap.size + 3, 0, none⟩)], .int .i64 (x : Int), .agg #[.bool (P.mark x), i64 (P.id x), .string (P.nm x), .slice (P.va x) (P.vn x) (P.vc x)], undef, undef, undef, undef, undef, undef, undef], defers := [] })
    (fun x a' _ X Y row hs hg hr => by obtain ⟨Bx, h1, h2, h3⟩ := hs; exact ⟨Bx, h1, blk_own _ _ (fun (_ : Unit) => _) () X Y row h2 hg (fun r e => (hr r e).2), h3⟩)
    ?assign ?body ?done ?stop
  case assign =>
    rintro l pre x W K ⟨⟨hpre, b4, b5, b3, hsz1⟩, hB1⟩ hK
    gi_wp2
    exact hK _ _ ((KeepsOthers.alloc _ _).from _) ⟨(Below.refl _ W).alloc hB1.size _, fun t cs hb => hb.alloc _⟩ ⟨⟨hpre, b4.alloc _, b5.alloc _, b3.alloc _, Nat.lt_of_lt_of_le hsz1 (by simp)⟩, hB1.alloc hB1.size _⟩ ⟨W.heap.size, hsz1, Blk.new W 33 _, rfl⟩
  case body =>
    rintro l pre x a' W hl ⟨r, hr⟩ ⟨⟨hpre, b4, b5, b3, hsz1⟩, hB1⟩ ⟨Bx, hBx, bX, rfl⟩ hlt
    exact absurd hlt (Nat.not_lt_zero _)
  case done =>
    rintro D ys W hD rfl ⟨⟨hpre, b4, b5, b3, hsz1⟩, hB1⟩ hK
    have f40 := b4.fro 0
    have f41 := b4.fro 1
    have f42 := b4.fro 2
    have f43 := b4.fro 3
    have c40 := b4.cell 0 (.bool false) rfl
    have c41 := b4.cell 1 (i64 0) rfl
    have c42 := b4.cell 2 (.string ⟨#[]⟩) rfl
    have c43 := b4.cell 3 (.slice none 0 0) rfl
    have c50 := b5.cell 0 (.bool false) rfl
    have f50 := b5.fro 0
    gi_wp2
    go_wp2
    have HH := five_blk b4 b5 (.bool false) (.int .i64 0) (.string ⟨#[]⟩) (.slice none 0 0) (.bool false)
    refine last_end (b4 := w.heap.size + 1) (b5 := w.heap.size + 1 + 1) rfl rfl HH.1 HH.2 rfl ((five_keeps W _ _ _ _ _ _ _).same D _ hK rfl) (five_below hB1 (by omega) (by omega) _ _ _ _ _) (by omega) (fun W' _ hB' => ?_)
    exact ⟨.inr ⟨fun j hj => hpre _ (downto_mem.2 ⟨j, hj, rfl⟩), rfl⟩, hB'⟩
  case stop =>
    rintro D c pre W hD ⟨k, hk, rfl⟩ ⟨⟨rfl, ini, x, ua, uc, e1, e2, e3, e4, e5, e6⟩, hB1⟩ hK
    gi_wp2
    refine last_end (b4 := w.heap.size + 1) (b5 := w.heap.size + 1 + 1) rfl rfl e4 e5 rfl hK hB1 (by omega) (fun W' hg' hB' => ?_)
    obtain ⟨k', rfl⟩ : ∃ k', k = k' + 1 := by
      cases k with
      | zero => simp [downto] at e1
      | succ k' => exact ⟨k', rfl⟩
    rw [downto_succ] at e1
    obtain ⟨rfl, e7⟩ := List.append_inj' e1 rfl
    have e8 : 0 - 1 - k' = x := by simpa using e7
    exact ⟨.inl ⟨k', x, ua, uc, by omega, e8.symm, fun j hj => e2 _ (downto_mem.2 ⟨j, hj, rfl⟩), e3, rfl, own_own e6 hg' (fun r e => by cases e; exact ⟨_, hK, rfl⟩)⟩, hB'⟩


/-- What Last answers: a copy of the last one of the name in the last part; or nothing. -/
def LastIt (nm : ByteArray) (es : List Ent) (w : World) (e : Ending) (w' : World) : Prop :=
  ((∃ (e0 : Ent) (ua : Option Addr) (uc : Nat), lastF nm es = some e0 ∧ e = .returned (.tuple #[.agg #[.bool e0.mark, i64 e0.id, .string e0.name, .slice ua e0.attrs.length uc], .bool true]) ∧ w'.ownsRow w.heap.size 60 2 (.slice ua e0.attrs.length uc) e0.attrs.length (flatA e0.attrs)) ∨
    (lastF nm es = none ∧ e = .returned (.tuple #[.agg #[.bool false, i64 0, .string ⟨#[]⟩, .slice none 0 0], .bool false]))) ∧ Below w.heap.size w w'

theorem last_of {nm : ByteArray} {ps : List (Ent × Value)} {p n : Nat} {w w' : World} {e : Ending} (hn : ps.length = n) (hp : partE (ps.map (·.1)) = p)
    (h : LastP (partsOf (ps.drop p)) (fun j => (entAt (ps.drop p) j).1.attrs) (n - p) nm w e w') : LastIt nm (ps.map (·.1)) w e w' := by
  refine ⟨?_, h.2⟩
  have hlen : (ps.drop p).length = n - p := by rw [List.length_drop, hn]
  have hD : (ps.map (·.1)).drop p = (ps.drop p).map (·.1) := by rw [List.map_drop]
  have hget : ∀ k, k < n - p → ((ps.drop p).map (·.1)).reverse[k]? = some (entAt (ps.drop p) (n - p - 1 - k)).1 := by
    intro k hk
    rw [List.getElem?_reverse (by simpa using by omega), List.getElem?_map, List.length_map, hlen]
    obtain ⟨x, hx⟩ : ∃ x, (ps.drop p)[n - p - 1 - k]? = some x := ⟨_, List.getElem?_eq_getElem (by omega)⟩
    rw [entAt_some hx, hx]
    rfl
  rcases h.1 with ⟨k, x, ua, uc, hk, hx, hno, hyes, he, hown⟩ | ⟨hno, he⟩
  · refine .inl ⟨(entAt (ps.drop p) x).1, ua, uc, ?_, he, hown⟩
    unfold lastF
    rw [hp, hD, List.find?_eq_some_iff_getElem]
    have hkl : k < ((ps.drop p).map (·.1)).reverse.length := by simpa using by omega
    refine ⟨by simpa [partsOf] using hyes, k, hkl, ?_, fun j hj => ?_⟩
    · have := hget k hk
      rw [List.getElem?_eq_getElem hkl] at this
      rw [hx]
      exact Option.some.inj this
    · have hjl : j < ((ps.drop p).map (·.1)).reverse.length := by omega
      have := hget j (by omega)
      rw [List.getElem?_eq_getElem hjl] at this
      rw [Option.some.inj this]
      have := hno j hj
      simpa [partsOf] using this
  · refine .inr ⟨?_, he⟩
    unfold lastF
    rw [hp, hD, List.find?_eq_none]
    intro y hy
    obtain ⟨k, hk⟩ := List.mem_iff_getElem?.1 hy
    have hkl : k < n - p := by
      have := (List.getElem?_eq_some_iff.1 hk).1
      have h2 : ((ps.drop p).map (·.1)).reverse.length = n - p := by rw [List.length_reverse, List.length_map, hlen]
      omega
    rw [hget k hkl] at hk
    have := hno k hkl
    rw [← Option.some.inj hk]
    simpa [partsOf] using this

theorem last_ent {w : World} {B lb : Nat} {es : List Ent} (h : ListIs w B lb 63 33 es) (nm : ByteArray) : Calls Try.prog 16 #[ptr lb, .string nm] w (LastIt nm es w) := by
  obtain ⟨v, ps, hlist, rfl⟩ := h
  obtain ⟨p, hp⟩ : ∃ p, partE (ps.map (·.1)) = p := ⟨_, rfl⟩
  obtain ⟨n, hn⟩ : ∃ n, ps.length = n := ⟨_, rfl⟩
  have hpn : p ≤ n := by
    have := partE_le (ps.map (·.1))
    rw [List.length_map] at this
    omega
  have hA : ∀ j, AtrsAt w w.heap.size (.slice ((partsOf (ps.drop p)).va j) ((partsOf (ps.drop p)).vn j) ((partsOf (ps.drop p)).vc j)) (entAt (ps.drop p) j).1.attrs := fun j => by
    have hr : ∀ q ∈ ps.drop p, AtrsAt w B q.2 q.1.attrs := fun q hq => hlist.2.2.2.2 q (List.mem_of_mem_drop hq)
    rw [parts_val hr j]
    have h1 := entAt_atrs hr j
    obtain ⟨ad, c, hv, h1, h2, h3, h4⟩ := h1
    exact ⟨ad, c, hv, h1, h2, h3, fun hne => by
      obtain ⟨g, off, q1, q2, q3, q4⟩ := h4 hne
      exact ⟨g, off, q1, q2, .inl q2, q4⟩⟩
  have hlist' := hlist
  rcases hlist.2.2.1.2 with ⟨rfl, h0⟩ | ⟨g, cap, cur, rfl, _, _, hnc, _, _, _⟩
  · have hp0 : p = 0 := by omega
    subst hp0
    refine (last_none hlist' hp nm part_none hA).mono fun e w' h => ?_
    refine last_of hn hp ?_
    rw [show n - 0 = 0 by omega]
    exact h
  · rw [hn] at hlist' hnc
    by_cases hc : cap = p
    · have e1 : n = p := by omega
      subst e1 hc
      refine (last_some hlist' hp nm part_none hA).mono fun e w' h => ?_
      refine last_of hn hp ?_
      rw [Nat.sub_self]
      exact h
    · exact (last_go hlist' hp hpn hnc hc nm (part_row hlist'.2.2 hn hpn) hA).mono fun e w' h => last_of hn hp h

end Go.Proofs.Ytjopfgdgmniigaa
