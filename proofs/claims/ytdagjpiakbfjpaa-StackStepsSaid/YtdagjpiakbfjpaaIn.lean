/-
  (*Stack).In, To, walked.
  Written by an AI agent.
-/
import Derived.Test.YtdagjpiakbfjpaaIter
namespace Go.Proofs.Ytdagjpiakbfjpaa
open Go.RowKit Go.Shelf
attribute [local go_sem] Oper.semAt_some

def inR (scope : Int) (ns : List ByteArray) : List Ent → Bool
  | [] => false
  | e :: r => if isB ns e then true else if endB scope e then false else inR scope ns r
def inB (scope : Int) (ns : List ByteArray) (es : List Ent) : Bool := inR scope ns es.reverse

def entAt (es : List Ent) (j : Nat) : Ent := es[j]?.getD zeroEnt
def partsOf (es : List Ent) : Parts := ⟨fun j => (entAt es j).id, fun j => (entAt es j).space, fun j => (entAt es j).name⟩
theorem entAt_some {es : List Ent} {j : Nat} {x : Ent} (h : es[j]? = some x) : entAt es j = x := by simp [entAt, h]

theorem row_parts {w : World} {B n : Nat} {ad : Option Addr} {c : Nat} {es : List Ent} (h : w.ownsRow B 27 3 (.slice ad n c) n (flatE es)) (hn : es.length = n) (hl : n ≤ 1000000) : PartsAt w.heap.size w (.slice ad n c) n (partsOf es) := by
  refine ⟨⟨_, _, rfl⟩, hl, fun h0 => ?_⟩
  rcases h.2 with ⟨_, hz⟩ | ⟨g, cap, cur, he, _, hg, _⟩
  · exact absurd hz h0
  · refine ⟨g, 0, cap, he, (Array.getElem?_eq_some_iff.1 hg).1, fun j hj => ?_⟩
    obtain ⟨x, hx⟩ : ∃ x, es[j]? = some x := ⟨_, List.getElem?_eq_getElem (by omega)⟩
    obtain ⟨f0, f1, f2⟩ := flatE_get es j x hx
    have hc := h.cells (g := g) (by simp only [Value.slice.injEq] at he; rw [he.1]; rfl)
    have ea : ∀ j, (⟨g, 0, none⟩ : Addr).add j = ⟨g, 0 + j, none⟩ := fun j => by unfold Addr.add; split <;> simp_all
    have h0 := hc _ _ f0
    have h1 := hc _ _ f1
    have h2 := hc _ _ f2
    rw [ea] at h0 h1 h2
    simp only [partsOf, entAt_some hx]
    exact ⟨h0, h1, h2⟩

theorem blk_own {β : Type} (g : Nat) (t : TypeId) (f : β → Array Value) : Own (fun s W => Blk W g t (f s)) := fun s X Y row hs hg hr => by
  refine (hg.block g hs.lt (fun e => ?_)).trans hs
  obtain ⟨o, ho, hc⟩ := hr g e.symm
  have := hs.symm.trans ho
  cases this
  cases hc
theorem back_wide {w : World} (a : Option Addr) (len cap : Nat) : Calls Try.prog 26 #[.slice a len cap] w fun e w' => e = .returned (.func (.func 40) #[] #[.pointer (some ⟨w.heap.size, 0, none⟩)]) ∧ w' = w.alloc (.cells #[.slice a len cap] 22) :=
  callsIn_wide.1 (back_in Fence.wide 1 trivial rfl a len cap w)
theorem below_from {B : Nat} {W W' : World} (h : Below W.heap.size W W') : KeepsFrom B W W' := ⟨h.size, fun k o _ hk _ => (h.block k (Array.getElem?_eq_some_iff.1 hk).1).trans hk⟩
theorem downto_mem {n k q : Nat} : q ∈ downto n k ↔ ∃ j, j < k ∧ n - 1 - j = q := by simp [downto]

theorem results_one {fn : Func} {p : Tmp} {ty : TypeId} (h : fn.results = #[.cell p ty]) (tmps : Array Value) (P : Program) (w : World) :
    (results fn tmps).run P w = ((asAddr (tmps.getD p undef)).run P w).andThen fun a w₁ => (loadVar ty a).run P w₁ := by
  simp only [results, h]
  simp [Sem.run_bind, Result.andThen]
theorem results_in {w : World} {tmps : Array Value} {g : Nat} {b : Bool} (hp : tmps.getD 6 undef = ptr g) (h : Blk w g 4 #[.bool b]) : (results Try.f11 tmps).run Try.prog w = .ok (.bool b) w := by
  have hc := h.cell 0 (.bool b) rfl
  have hl2 : (loadVar 4 ⟨g, 0, none⟩).run Try.prog w = .ok (.bool b) w := by
    have ha : (isAgg 4).run Try.prog w = .ok false w := by kernel_rfl
    simp [loadVar, Sem.run_bind, ha, Result.andThen, hc]
  rw [results_one (p := 6) (ty := 4) rfl, hp]
  simp [asAddr, Result.andThen, hl2]

theorem in_end {w W : World} {D b6 : Nat} {tmps : Array Value} {R : Ending → World → Prop} {b : Bool} (h6 : tmps.getD 6 undef = ptr b6) (g6 : Blk W b6 4 #[.bool b])
    (hK : W.heap[D]? = some (.deferred (some []))) (hB : Below w.heap.size w W) (hD : w.heap.size ≤ D) (hR : ∀ W', Below w.heap.size w W' → R (.returned (.bool b)) W') :
    bodyPostM Fence.wide 6 Try.prog Try.f11 R .ret { tmps := tmps, defers := [{ target := .collected D, args := #[] }] } W := by
  refine ⟨by simp, .inl ⟨_, _, rfl, run_takeDeferred hK, ?_⟩⟩
  have hr : ∀ r, some D = some r → ∃ o : Obj, W.heap[r]? = some o ∧ o.isCells = false := fun r e => by cases e; exact ⟨_, hK, rfl⟩
  have q6 := blk_own b6 4 (fun (_ : Unit) => #[.bool b]) () W _ _ g6 (grownBy_putObj' W D (.deferred none)) hr
  exact ⟨_, results_in h6 q6, hR _ (hB.trans (belowK_b (w := w) (Nat.le_refl _) W D _ _ hD hK rfl rfl))⟩

theorem ends_n {w : World} {scope id sp : Int} {nm : ByteArray} {r : Bool} (hr : endB scope ⟨id, sp, nm⟩ = r) : Calls Try.prog 28 #[i64 scope, .agg #[i64 id, i64 sp, .string nm]] w fun e w' => e = .returned (.bool r) ∧ Below w.heap.size w w' := by
  subst hr
  exact ends_any

def entP (p : Parts) (q : Nat) : Ent := ⟨p.id q, p.sp q, p.nm q⟩
/-- What In has found. -/
def InP (scope : Int) (ns : List ByteArray) (p : Parts) (len : Nat) (w : World) (e : Ending) (w' : World) : Prop :=
  ((∃ k x r, k < len ∧ x = len - 1 - k ∧ (∀ j, j < k → isB ns (entP p (len - 1 - j)) = false ∧ endB scope (entP p (len - 1 - j)) = false) ∧ ((isB ns (entP p x) = true ∧ r = true) ∨ (isB ns (entP p x) = false ∧ endB scope (entP p x) = true ∧ r = false)) ∧ e = .returned (.bool r)) ∨
    ((∀ j, j < len → isB ns (entP p (len - 1 - j)) = false ∧ endB scope (entP p (len - 1 - j)) = false) ∧ e = .returned (.bool false))) ∧ Below w.heap.size w w'

set_option maxRecDepth 100000 in
set_option maxHeartbeats 8000000 in
theorem in_go {w : World} {pv : Option Addr} {len : Nat} {es : List Ent} {scope : Int} {va : Value} {ns : List ByteArray} (h : ∀ w0, Below w.heap.size w w0 → Calls Try.prog 13 #[.pointer pv] w0 (AllIt es len w0)) (ha : NamesAt w va ns) (hlen : es.length = len) (hl : len ≤ 1000000) :
    Calls Try.prog 11 #[.pointer pv, i64 scope, va] w (InP scope ns (partsOf es) len w) := by
  have HA := Lib.hid (And.intro ha (And.intro h hlen))
  obtain ⟨nad, nc, rfl, _, _⟩ := ha
  obtain ⟨nn, hnn⟩ : ∃ nn, ns.length = nn := ⟨_, rfl⟩
  rw [hnn] at HA ⊢
  obtain ⟨P, hP⟩ : ∃ P, partsOf es = P := ⟨_, rfl⟩
  rw [hP]
  have HP := Lib.hid hP
  clear h hnn hP
  have b0 : Below w.heap.size w (((w.alloc (.cells #[i64 scope] 3)).alloc (.cells #[.slice nad nn nc] 53)).alloc (.cells #[.bool false] 4)) := (((Below.refl _ w).alloc (Nat.le_refl _) _).alloc (by simp) _).alloc (by simp; omega) _
  have B4 := ((Blk.new w 3 #[i64 scope]).alloc (.cells #[.slice nad nn nc] 53)).alloc (.cells #[.bool false] 4)
  have B5 := (Blk.new (w.alloc (.cells #[i64 scope] 3)) 53 #[.slice nad nn nc]).alloc (.cells #[.bool false] 4)
  have B6 := Blk.new ((w.alloc (.cells #[i64 scope] 3)).alloc (.cells #[.slice nad nn nc] 53)) 4 #[.bool false]
  simp only [World.size_alloc] at B5 B6
  obtain ⟨w0, hw0⟩ : ∃ w0, ((w.alloc (.cells #[i64 scope] 3)).alloc (.cells #[.slice nad nn nc] 53)).alloc (.cells #[.bool false] 4) = w0 := ⟨_, rfl⟩
  have hsz : w0.heap.size = w.heap.size + 3 := by rw [← hw0]; simp
  rw [hw0] at b0 B4 B5 B6
  have HB := Lib.hid (And.intro b0 (And.intro B4 (And.intro B5 B6)))
  clear b0 B4 B5 B6
  refine callsIn_wide.1 (callsIn_of_wp_marks (n := 6) Try.func11 rfl trivial ?_ rfl)
  rw [wpIn_wide]
  simp only [Try.ntmps11, List.size_toArray, List.length_cons, List.length_nil, Nat.reduceAdd, Nat.reduceSub, Array.replicate_succ, Array.replicate_zero, List.push_toArray, List.append_toArray, List.nil_append, List.cons_append]
  go_wp2_with (first
    | (go_at_call 13; (with_reducible refine (HA.out.2.1 _ HB.out.1).mono ?_); rintro e w1 ⟨ad, c, rfl, hown, hb1⟩; have H1 := Lib.hid (And.intro hown hb1); clear hown hb1)
    | (go_at_call 26; (with_reducible refine (back_wide _ _ _).mono ?_); rintro e w2 ⟨rfl, rfl⟩))
  have hBS := Blk.new w1 22 #[.slice ad len c]
  obtain ⟨W0, hW0⟩ : ∃ W0, w1.alloc (.cells #[.slice ad len c] 22) = W0 := ⟨_, rfl⟩
  have hsW : W0.heap.size = w1.heap.size + 1 := by rw [← hW0]; simp
  have hw1s : w.heap.size + 3 ≤ w1.heap.size := by have := H1.out.2.size; omega
  have hbW1 : Below w1.heap.size w1 W0 := by rw [← hW0]; exact (Below.refl _ w1).alloc (Nat.le_refl _) _
  have hBS0 : Blk W0 w1.heap.size 22 #[.slice ad len c] := by rw [← hW0]; exact hBS
  rw [hW0]
  have hb01 : Below w.heap.size w w1 := HB.out.1.trans (H1.out.2.mono HB.out.1.size)
  have hB0 : Below w.heap.size w W0 := hb01.trans (hbW1.mono hb01.size)
  have B4 := blk_kept (blk_kept HB.out.2.1 H1.out.2) hbW1
  have B5 := blk_kept (blk_kept HB.out.2.2.1 H1.out.2) hbW1
  have B6 := blk_kept (blk_kept HB.out.2.2.2 H1.out.2) hbW1
  have hP0 : PartsAt w1.heap.size W0 (.slice ad len c) len P := by
    have := (row_parts H1.out.1 HA.out.2.2 hl).below hbW1
    rw [HP.out] at this
    exact this
  clear hw0 hW0 hBS hbW1 hb01
  rw [← wpIn_wide (n := 6)]
  refine wpIn_rangeFunc_ownH rfl (by omega) (gf := 40) (lb := #[.pointer (some ⟨w1.heap.size, 0, none⟩)]) rfl trivial (enters_of Try.func40 (by kernel_rfl) rfl)
    (back_stops Fence.wide (6 - 1) trivial rfl (by omega) w1.heap.size w1.heap.size _ len P W0 (by omega) hBS0 hP0) (fun h k => KpB.t h k) (KpB.b (by omega)) (Below.refl _ _) (fun _ => rfl)
    (fun pre W => ((∀ q ∈ pre, isB ns (entP P q) = false ∧ endB scope (entP P q) = false) ∧ Blk W (w.heap.size + 1 + 1) 4 #[.bool false] ∧ Blk W w.heap.size 3 #[i64 scope] ∧ Blk W (w.heap.size + 1) 53 #[.slice nad nn nc] ∧ w1.heap.size < W.heap.size) ∧ Below w.heap.size w W)
    (fun c pre W => (c = .ret ∧ ∃ ini x r, pre = ini ++ [x] ∧ (∀ q ∈ ini, isB ns (entP P q) = false ∧ endB scope (entP P q) = false) ∧ ((isB ns (entP P x) = true ∧ r = true) ∨ (isB ns (entP P x) = false ∧ endB scope (entP P x) = true ∧ r = false)) ∧ Blk W (w.heap.size + 1 + 1) 4 #[.bool r]) ∧ Below w.heap.size w W)
    (OwnFrom.and (Own.from (fun s X Y row hs hg hr => ⟨hs.1, blk_own _ _ (fun (_ : Unit) => _) () X Y row hs.2.1 hg hr, blk_own _ _ (fun (_ : Unit) => _) () X Y row hs.2.2.1 hg hr, blk_own _ _ (fun (_ : Unit) => _) () X Y row hs.2.2.2.1 hg hr, Nat.lt_of_lt_of_le hs.2.2.2.2 hg.size⟩) _) (ownFrom_below (Nat.le_refl _) (by omega)))
    (fun c => OwnFrom.and (Own.from (fun s X Y row hs hg hr => by
      obtain ⟨hc, ini, x, r, e1, e2, e3, e4⟩ := hs
      exact ⟨hc, ini, x, r, e1, e2, e3, blk_own _ _ (fun (_ : Unit) => _) () X Y row e4 hg hr⟩) _) (ownFrom_below (Nat.le_refl _) (by omega)))
    ⟨⟨by simp, B6, B4, B5, by omega⟩, hB0⟩
    (fun x a' W => ∃ Bx, w1.heap.size < Bx ∧ Blk W Bx 27 #[i64 (P.id x), i64 (P.sp x), .string (P.nm x)] ∧ a' = { tmps := #[Value.pointer pv, i64 scope, .slice nad nn nc, undef, .pointer (some ⟨w.heap.size, 0, none⟩), .pointer (some ⟨w.heap.size + 1, 0, none⟩), .pointer (some ⟨w.heap.size + 1 + 1, 0, none⟩), undef, .pointer (some ⟨Bx, 0, none⟩), Value.pointer pv, .slice ad len c, .func (.func 40) #[] #[.pointer (some ⟨w1.heap.size, 0, none⟩)], .int .i64 (x : Int), .agg #[i64 (P.id x), i64 (P.sp x), .string (P.nm x)], undef, undef, undef, undef, undef, undef, undef, undef], defers := [] })
    (fun x a' _ X Y row hs hg hr => by obtain ⟨Bx, h1, h2, h3⟩ := hs; exact ⟨Bx, h1, blk_own _ _ (fun (_ : Unit) => _) () X Y row h2 hg (fun r e => (hr r e).2), h3⟩)
    ?assign ?body ?done ?stop
  case assign =>
    rintro l pre x W K ⟨⟨hpre, b6, b4, b5, hsz1⟩, hB1⟩ hK
    gi_wp2
    exact hK _ _ ((KeepsOthers.alloc _ _).from _) ⟨(Below.refl _ W).alloc (by omega) _, fun t cs hb => hb.alloc _⟩ ⟨⟨hpre, b6.alloc _, b4.alloc _, b5.alloc _, Nat.lt_of_lt_of_le hsz1 (by simp)⟩, hB1.alloc hB1.size _⟩ ⟨W.heap.size, hsz1, Blk.new W 27 _, rfl⟩
  case body =>
    rintro l pre x a' W hl ⟨r, hr⟩ ⟨⟨hpre, b6, b4, b5, hsz1⟩, hB1⟩ ⟨Bx, hBx, bX, rfl⟩ hlt
    have x0 := bX.cell 0 (i64 (P.id x)) rfl
    have x1 := bX.cell 1 (i64 (P.sp x)) rfl
    have x2 := bX.cell 2 (.string (P.nm x)) rfl
    have y5 := b5.cell 0 (.slice nad nn nc) rfl
    have h1' : 1 ≤ 6 - 1 - 1 := by omega
    have HNA : Hid (NamesAt W (.slice nad nn nc) ns) := Lib.hid (HA.out.1.below hB1)
    obtain ⟨ri, hri⟩ : ∃ ri, isB ns (entP P x) = ri := ⟨_, rfl⟩
    obtain ⟨re, hre⟩ : ∃ re, endB scope (entP P x) = re := ⟨_, rfl⟩
    have HRI := Lib.hid (And.intro hri hre)
    have HBX := Lib.hid (And.intro bX (And.intro b6 (And.intro b4 b5)))
    clear hri hre bX b6 b4 b5 hr
    cases ri
    · have y4 : True := trivial
      cases re
      · gi_wp2_with (first
          | (refine ⟨trivial, ?_⟩; gi_at_call 27; refine (CallsIn.inRound l (callsIn_wide.2 (is_n HNA.out HRI.out.1))).mono ?_; rintro e w3 ⟨rfl, hb3⟩; have k0 := (blk_kept HBX.out.1 hb3).cell 0 (i64 (P.id x)) rfl; have k1 := (blk_kept HBX.out.1 hb3).cell 1 (i64 (P.sp x)) rfl; have k2 := (blk_kept HBX.out.1 hb3).cell 2 (.string (P.nm x)) rfl; have k4 := (blk_kept HBX.out.2.2.1 hb3).cell 0 (i64 scope) rfl; have H3 := Lib.hid hb3; clear hb3)
          | (refine ⟨trivial, ?_⟩; gi_at_call 28; refine (CallsIn.inRound l (callsIn_wide.2 (ends_n HRI.out.2))).mono ?_; rintro e w4 ⟨rfl, hb4⟩; have H4 := Lib.hid (H3.out.trans (hb4.mono H3.out.size)); clear hb4))
        have hpx : ∀ q ∈ pre ++ [x], isB ns (entP P q) = false ∧ endB scope (entP P q) = false := fun q hq => (List.mem_append.1 hq).elim (hpre q) (fun e => by rw [List.mem_singleton.1 e]; exact HRI.out)
        exact ⟨below_from H4.out, ⟨H4.out.mono (by omega), fun t cs hb => blk_kept hb H4.out⟩, ⟨hpx, blk_kept HBX.out.2.1 H4.out, blk_kept HBX.out.2.2.1 H4.out, blk_kept HBX.out.2.2.2 H4.out, Nat.lt_of_lt_of_le hsz1 H4.out.size⟩, hB1.trans (H4.out.mono hB1.size)⟩
      · gi_wp2_with (first
          | (refine ⟨trivial, ?_⟩; gi_at_call 27; refine (CallsIn.inRound l (callsIn_wide.2 (is_n HNA.out HRI.out.1))).mono ?_; rintro e w3 ⟨rfl, hb3⟩; have k0 := (blk_kept HBX.out.1 hb3).cell 0 (i64 (P.id x)) rfl; have k1 := (blk_kept HBX.out.1 hb3).cell 1 (i64 (P.sp x)) rfl; have k2 := (blk_kept HBX.out.1 hb3).cell 2 (.string (P.nm x)) rfl; have k4 := (blk_kept HBX.out.2.2.1 hb3).cell 0 (i64 scope) rfl; have H3 := Lib.hid hb3; clear hb3)
          | (refine ⟨trivial, ?_⟩; gi_at_call 28; refine (CallsIn.inRound l (callsIn_wide.2 (ends_n HRI.out.2))).mono ?_; rintro e w4 ⟨rfl, hb4⟩; have hb5 := H3.out.trans (hb4.mono H3.out.size); have q6 := (blk_kept HBX.out.2.1 hb5).cell 0 (.bool false) rfl; have qf := (blk_kept HBX.out.2.1 hb5).fro 0; have H4 := Lib.hid hb5; clear hb4 hb5))
        have hs := (blk_kept HBX.out.2.1 H4.out).put 0 (.bool false)
        exact ⟨(below_from H4.out).trans ((KeepsOthers.setCell _ _ _).from _), ⟨rfl, pre, x, false, rfl, hpre, .inr ⟨HRI.out.1, HRI.out.2, rfl⟩, hs⟩, (hB1.trans (H4.out.mono hB1.size)).setCell (p := ⟨w.heap.size + 1 + 1, 0, none⟩) (by simp only; omega) _⟩
    · gi_wp2_with (first
        | (refine ⟨trivial, ?_⟩; gi_at_call 27; refine (CallsIn.inRound l (callsIn_wide.2 (is_n HNA.out HRI.out.1))).mono ?_; rintro e w3 ⟨rfl, hb3⟩; have q6 := (blk_kept HBX.out.2.1 hb3).cell 0 (.bool false) rfl; have qf := (blk_kept HBX.out.2.1 hb3).fro 0; have H3 := Lib.hid hb3; clear hb3))
      have hs := (blk_kept HBX.out.2.1 H3.out).put 0 (.bool true)
      exact ⟨(below_from H3.out).trans ((KeepsOthers.setCell _ _ _).from _), ⟨rfl, pre, x, true, rfl, hpre, .inl ⟨HRI.out.1, rfl⟩, hs⟩, (hB1.trans (H3.out.mono hB1.size)).setCell (p := ⟨w.heap.size + 1 + 1, 0, none⟩) (by simp only; omega) _⟩
  case done =>
    rintro D ys W hD rfl ⟨⟨hpre, b6, b4, b5, hsz1⟩, hB1⟩ hK
    have f6 := b6.fro 0
    have c6 := b6.cell 0 (.bool false) rfl
    gi_wp2
    go_wp2
    refine in_end (b6 := w.heap.size + 1 + 1) rfl (b6.put 0 (.bool false)) ((KeepsOthers.setCell _ _ _).same D _ hK rfl) (hB1.setCell (p := ⟨w.heap.size + 1 + 1, 0, none⟩) (by simp only; omega) _) (by omega) (fun W' hB' => ?_)
    exact ⟨.inr ⟨fun j hj => hpre _ (downto_mem.2 ⟨j, hj, rfl⟩), rfl⟩, hB'⟩
  case stop =>
    rintro D c pre W hD ⟨k, hk, rfl⟩ ⟨⟨rfl, ini, x, r, e1, e2, e3, e4⟩, hB1⟩ hK
    gi_wp2
    refine in_end (b6 := w.heap.size + 1 + 1) rfl e4 hK hB1 (by omega) (fun W' hB' => ?_)
    obtain ⟨k', rfl⟩ : ∃ k', k = k' + 1 := by
      cases k with
      | zero => simp [downto] at e1
      | succ k' => exact ⟨k', rfl⟩
    rw [downto_succ] at e1
    obtain ⟨rfl, e7⟩ := List.append_inj' e1 rfl
    have e8 : len - 1 - k' = x := by simpa using e7
    exact ⟨.inl ⟨k', x, r, by omega, e8.symm, fun j hj => e2 _ (downto_mem.2 ⟨j, hj, rfl⟩), e3, rfl⟩, hB'⟩

theorem inR_skip (scope : Int) (ns : List ByteArray) : ∀ (l : List Ent) (k : Nat), (∀ j e, j < k → l[j]? = some e → isB ns e = false ∧ endB scope e = false) → inR scope ns l = inR scope ns (l.drop k)
  | l, 0, _ => by simp
  | [], k + 1, _ => by simp
  | e :: l, k + 1, h => by
    obtain ⟨h1, h2⟩ := h 0 e (by omega) rfl
    rw [inR, h1, h2, List.drop_succ_cons]
    simp only [Bool.false_eq_true, if_false]
    exact inR_skip scope ns l k (fun j e hj he => h (j + 1) e (by omega) (by simpa using he))

theorem rev_at {es : List Ent} {n k : Nat} (hn : es.length = n) (hk : k < n) : es.reverse[k]? = some (entAt es (n - 1 - k)) := by
  rw [List.getElem?_reverse (by omega), hn]
  obtain ⟨x, hx⟩ : ∃ x, es[n - 1 - k]? = some x := ⟨_, List.getElem?_eq_getElem (by omega)⟩
  rw [hx, entAt_some hx]

theorem in_of {scope : Int} {ns : List ByteArray} {es : List Ent} {n : Nat} {w w' : World} {e : Ending} (hn : es.length = n) (h : InP scope ns (partsOf es) n w e w') : e = .returned (.bool (inB scope ns es)) ∧ Below w.heap.size w w' := by
  have hE : ∀ q, entP (partsOf es) q = entAt es q := fun q => rfl
  refine ⟨?_, h.2⟩
  rcases h.1 with ⟨k, x, r, hk, hx, hno, hyes, he⟩ | ⟨hno, he⟩
  · have hs : inB scope ns es = inR scope ns (es.reverse.drop k) := inR_skip scope ns _ k (fun j e hj hje => by
      rw [rev_at hn (by omega)] at hje
      obtain rfl := Option.some.inj hje
      exact hno j hj)
    have hd : es.reverse.drop k = entAt es x :: es.reverse.drop (k + 1) := by
      have hk' : k < es.reverse.length := by simp; omega
      rw [List.drop_eq_getElem_cons hk']
      have := rev_at (k := k) hn hk
      rw [List.getElem?_eq_getElem hk', ← hx] at this
      rw [Option.some.inj this]
    rw [he, hs, hd]
    rcases hyes with ⟨h1, rfl⟩ | ⟨h1, h2, rfl⟩
    · rw [hE] at h1
      rw [inR, h1]
      rfl
    · rw [hE] at h1 h2
      rw [inR, h1, h2]
      rfl
  · have hs : inB scope ns es = inR scope ns (es.reverse.drop n) := inR_skip scope ns _ n (fun j e hj hje => by
      rw [rev_at hn (by omega)] at hje
      obtain rfl := Option.some.inj hje
      exact hno j hj)
    rw [he, hs, List.drop_eq_nil_of_le (by simp; omega)]
    rfl

theorem in_stk {w : World} {B lb : Nat} {es : List Ent} {scope : Int} {va : Value} {ns : List ByteArray} (h : Stk w B lb es) (ha : NamesAt w va ns) :
    Calls Try.prog 11 #[ptr lb, i64 scope, va] w fun e w' => e = .returned (.bool (inB scope ns es)) ∧ Below w.heap.size w w' := by
  have hl : es.length ≤ 1000000 := by obtain ⟨v, hst⟩ := h; exact hst.2.2.2
  exact (in_go (fun w0 hb => all_stk (h.below hb) rfl) ha rfl hl).mono fun e w' h => in_of rfl h

end Go.Proofs.Ytdagjpiakbfjpaa
