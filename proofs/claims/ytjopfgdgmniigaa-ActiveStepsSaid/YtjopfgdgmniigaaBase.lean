/-
  Words on memory: a block that is known whole; what a call may turn (by block number and by the block's kind); rows of the call's own.
  Written by an AI agent. No program is named here.
-/
import Derived.Below
import Derived.Laws.OwnMore
import Derived.Deep.Draws
import Derived.Laws.Rows
import Derived.ChangeAlike
import Derived.WalkKit
import Derived.ProofKit
import Derived.Carry
namespace Go.Proofs.Ytjopfgdgmniigaa
open Go.RowKit

/-- A pointer to the head of block b. -/
abbrev ptr (b : Nat) : Value := .pointer (some ⟨b, 0, none⟩)
abbrev i64 (n : Int) : Value := .int .i64 n

/-- Block g is just these cells, of this element type; none of them is frozen. -/
def Blk (w : World) (g : Nat) (t : TypeId) (cs : Array Value) : Prop := w.heap[g]? = some (.cells cs t (0, 0))

section
variable {w w' : World} {g : Nat} {t : TypeId} {cs : Array Value}
theorem Blk.lt (h : Blk w g t cs) : g < w.heap.size := (Array.getElem?_eq_some_iff.1 h).1
theorem Blk.cell (h : Blk w g t cs) (i : Nat) (v : Value) (hv : cs[i]? = some v) : w.cell? ⟨g, i, none⟩ = some v := by rw [cell_of_row w g i cs t (0, 0) h, hv]
theorem Blk.fro (h : Blk w g t cs) (i : Nat) : w.frozen? ⟨g, i, none⟩ = false := by
  unfold Blk at h
  simp [World.frozen?, h]
theorem Blk.new (w : World) (t : TypeId) (cs : Array Value) : Blk (w.alloc (.cells cs t)) w.heap.size t cs := Go.heap_alloc_new w _
theorem Blk.drew (h : Blk w g t cs) : Blk w.drew g t cs := h
theorem Blk.drewN (h : Blk w g t cs) (n : Nat) : Blk (w.drewN n) g t cs := h
theorem Blk.alloc (h : Blk w g t cs) (o : Obj) : Blk (w.alloc o) g t cs := (Below.heap_alloc w o g h.lt).trans h
theorem Blk.put (h : Blk w g t cs) (i : Nat) (u : Value) : Blk (w.setCell ⟨g, i, none⟩ u) g t (cs.setIfInBounds i u) := by
  unfold Blk at h ⊢
  simp [World.setCell, Array.getElem?_modify, h]
theorem Blk.far (h : Blk w g t cs) {p : Addr} (hp : g ≠ p.block) (u : Value) : Blk (w.setCell p u) g t cs := (Below.heap_setCell w p u g hp).trans h
theorem Blk.heap (h : Blk w g t cs) (e : w'.heap = w.heap) : Blk w' g t cs := by unfold Blk; rw [e]; exact h
theorem Blk.inj {t' : TypeId} {cs' : Array Value} (h : Blk w g t cs) (h' : Blk w g t' cs') : t = t' ∧ cs = cs' := by
  have := h.symm.trans h'
  injection this with this
  injection this with h1 h2
  exact ⟨h2, h1⟩
theorem Blk.ne {g' : Nat} {t' : TypeId} {cs' : Array Value} (h : Blk w g t cs) (h' : Blk w g' t' cs') (ht : t ≠ t') : g ≠ g' := by
  rintro rfl
  exact ht (h.inj h').1
end

/-- The same memory and streams; the count of draws may differ. -/
def Like (w' w : World) : Prop := w'.heap = w.heap ∧ w'.os = w.os ∧ w'.output = w.output ∧ w'.tape = w.tape
theorem Like.refl (w : World) : Like w w := ⟨rfl, rfl, rfl, rfl⟩

/-- WHAT A CALL MAY TURN: blocks from B on whose kind T lets; new blocks. All else lies as it lay. -/
structure Fr (B : Nat) (T : Obj → Bool) (w w' : World) : Prop where
  os : w'.os = w.os
  output : w'.output = w.output
  tape : w'.tape = w.tape
  size : w.heap.size ≤ w'.heap.size
  block : ∀ k, k < w.heap.size → (k < B ∨ ∀ o, w.heap[k]? = some o → T o = false) → w'.heap[k]? = w.heap[k]?

/-- The kinds: rows of these element types; maps or not. -/
def kinds (ts : List TypeId) (maps : Bool) : Obj → Bool
  | .cells _ e _ => ts.contains e
  | .map _ _ => maps
  | _ => false
def anyKind : Obj → Bool := fun _ => true
def noKind : Obj → Bool := fun _ => false

section
variable {B : Nat} {T : Obj → Bool} {a w w' : World}
theorem Fr.refl (B : Nat) (T : Obj → Bool) (w : World) : Fr B T w w := ⟨rfl, rfl, rfl, Nat.le_refl _, fun _ _ _ => rfl⟩
theorem Fr.trans {b c : World} (h : Fr B T a b) (k : Fr B T b c) : Fr B T a c :=
  ⟨k.os.trans h.os, k.output.trans h.output, k.tape.trans h.tape, Nat.le_trans h.size k.size, fun i hi hk => by
    have h1 := h.block i hi hk
    exact (k.block i (Nat.lt_of_lt_of_le hi h.size) (hk.imp id fun f o ho => f o (by rw [← h1]; exact ho))).trans h1⟩
theorem Fr.mono {B' : Nat} {T' : Obj → Bool} (h : Fr B T a w) (hB : B' ≤ B) (hT : ∀ o, T o = true → T' o = true) : Fr B' T' a w :=
  ⟨h.os, h.output, h.tape, h.size, fun i hi hk => h.block i hi (by
    rcases hk with hk | hk
    · exact .inl (by omega)
    · exact .inr fun o ho => by
        have := hk o ho
        cases hT0 : T o
        · rfl
        · rw [hT o hT0] at this; cases this)⟩
theorem Fr.like (h : Fr B T a w) (e : Like w' w) : Fr B T a w' := ⟨e.2.1.trans h.os, e.2.2.1.trans h.output, e.2.2.2.trans h.tape, by rw [e.1]; exact h.size, fun i hi hk => by rw [e.1]; exact h.block i hi hk⟩
theorem Fr.drew (h : Fr B T a w) : Fr B T a w.drew := ⟨h.os, h.output, h.tape, h.size, h.block⟩
theorem Fr.drewN (h : Fr B T a w) (n : Nat) : Fr B T a (w.drewN n) := ⟨h.os, h.output, h.tape, h.size, h.block⟩
theorem Fr.alloc (h : Fr B T a w) (o : Obj) : Fr B T a (w.alloc o) :=
  ⟨h.os, h.output, h.tape, Nat.le_trans h.size (by simp), fun i hi hk => (Below.heap_alloc w o i (Nat.lt_of_lt_of_le hi h.size)).trans (h.block i hi hk)⟩
/-- A block of a kind that T lets, from B on, is replaced. -/
theorem Fr.at_ (h : Fr B T a w) {g : Nat} {o : Obj} (hg : w.heap[g]? = some o) (hT : T o = true) (hB : B ≤ g) (hw : w'.os = w.os ∧ w'.output = w.output ∧ w'.tape = w.tape ∧ w.heap.size ≤ w'.heap.size ∧ ∀ k, k < w.heap.size → k ≠ g → w'.heap[k]? = w.heap[k]?) : Fr B T a w' :=
  ⟨hw.1.trans h.os, hw.2.1.trans h.output, hw.2.2.1.trans h.tape, Nat.le_trans h.size hw.2.2.2.1, fun i hi hk => by
    have h1 := h.block i hi hk
    refine (hw.2.2.2.2 i (Nat.lt_of_lt_of_le hi h.size) ?_).trans h1
    rintro rfl
    rcases hk with hk | hk
    · omega
    · have := hk o (by rw [← h1]; exact hg)
      rw [hT] at this; cases this⟩
theorem Fr.setCell (h : Fr B T a w) {g : Nat} {t : TypeId} {cs : Array Value} (hg : Blk w g t cs) (hT : T (.cells cs t (0, 0)) = true) (hB : B ≤ g) (i : Nat) (u : Value) : Fr B T a (w.setCell ⟨g, i, none⟩ u) :=
  h.at_ hg hT hB ⟨rfl, rfl, rfl, by simp [World.setCell], fun k _ hk => Below.heap_setCell w _ u k hk⟩
theorem Fr.grown (h : Fr B T a w) {row : Option Nat} (hg : w.grownBy w' row) (hr : ∀ g, row = some g → B ≤ g ∧ ∃ o, w.heap[g]? = some o ∧ T o = true) : Fr B T a w' := by
  cases row with
  | none => exact ⟨hg.os.trans h.os, hg.output.trans h.output, hg.tape.trans h.tape, Nat.le_trans h.size hg.size, fun i hi hk => (hg.block i (Nat.lt_of_lt_of_le hi h.size) (by simp)).trans (h.block i hi hk)⟩
  | some g =>
    obtain ⟨hB, o, ho, hT⟩ := hr g rfl
    exact h.at_ ho hT hB ⟨hg.os, hg.output, hg.tape, hg.size, fun k hk hne => hg.block k hk (by simpa using hne)⟩
theorem Fr.of_below {w0 : World} (h : Below w0.heap.size w0 w) (B : Nat) (T : Obj → Bool) : Fr B T w0 w := ⟨h.os, h.output, h.tape, h.size, fun k hk _ => h.block k hk⟩
theorem Fr.blk (h : Fr B T w w') {g : Nat} {t : TypeId} {cs : Array Value} (hg : Blk w g t cs) (hk : g < B ∨ T (.cells cs t (0, 0)) = false) : Blk w' g t cs :=
  (h.block g hg.lt (hk.imp id fun hT o ho => by
    have := hg.symm.trans ho
    injection this with this
    rw [← this]; exact hT)).trans hg
theorem Fr.obj (h : Fr B T w w') {g : Nat} {o : Obj} (hg : w.heap[g]? = some o) (hk : g < B ∨ T o = false) : w'.heap[g]? = some o :=
  (h.block g (Array.getElem?_eq_some_iff.1 hg).1 (hk.imp id fun hT o' ho => by
    have := hg.symm.trans ho
    injection this with this
    rw [← this]; exact hT)).trans hg
theorem Fr.cell_low (h : Fr B T w w') {p : Addr} (hs : p.block < w.heap.size) (hp : p.block < B) : w'.cell? p = w.cell? p := World.cell?_of_block (w := w) (h.block p.block hs (.inl hp))
/-- A row of the call's own stays, where its kind is none that may be turned. -/
theorem Fr.own (h : Fr B T w w') {base : Nat} {e : TypeId} {size : Nat} {v : Value} {n : Nat} {xs : List Value} (hv : w.ownsRow base e size v n xs) (hT : ∀ cs fr, T (.cells cs e fr) = false) : w'.ownsRow base e size v n xs := by
  refine ⟨hv.1, ?_⟩
  rcases hv.2 with hn | ⟨g, cap, cur, rfl, hb, hg, rest⟩
  · exact .inl hn
  · exact .inr ⟨g, cap, cur, rfl, hb, h.obj hg (.inr (hT _ _)), rest⟩
theorem Fr.frame {W W' : World} (h : Fr W.heap.size anyKind W W') (may : MemPlace → Prop) : W.keptBut W' may := by
  refine ⟨h.os, h.output, fun i hi => ?_⟩
  rw [h.block i hi (.inl hi)]
  split <;> simp_all
theorem Fr.below (h : Fr a.heap.size T a w) : Below a.heap.size a w := ⟨h.os, h.tape, h.output, h.size, fun k hk => h.block k hk (.inl hk)⟩
theorem Fr.below_of (h : Fr B T a w) (hB : a.heap.size ≤ B) : Below a.heap.size a w := ⟨h.os, h.tape, h.output, h.size, fun k hk => h.block k hk (.inl (by omega))⟩
/-- What lay when the call began lies as it lay. -/
theorem Fr.low (h : Fr B T a w) (hB : a.heap.size ≤ B) : Fr a.heap.size anyKind a w := ⟨h.os, h.output, h.tape, h.size, fun k hk _ => h.block k hk (.inl (by omega))⟩
end

theorem below_drewN {B : Nat} {a w : World} (h : Below B a w) (n : Nat) : Below B a (w.drewN n) := ⟨h.os, h.tape, h.output, h.size, h.block⟩

/-- A row of the call's own, over a change that grew elsewhere: its own block's kind. -/
theorem own_kind {w : World} {base : Nat} {e : TypeId} {size : Nat} {v : Value} {n : Nat} {xs : List Value} (h : w.ownsRow base e size v n xs) :
    ∀ g, v.ownBlock = some g → base ≤ g ∧ ∃ cs, w.heap[g]? = some (.cells cs e (0, 0)) := by
  intro g hg
  rcases h.2 with ⟨rfl, _⟩ | ⟨g', cap, cur, rfl, hb, hgg, _⟩
  · simp [Value.ownBlock] at hg
  · simp [Value.ownBlock] at hg
    subst hg
    exact ⟨hb, cur, hgg⟩
theorem own_mono {w : World} {base base' : Nat} {e : TypeId} {size : Nat} {v : Value} {n : Nat} {xs : List Value} (h : w.ownsRow base e size v n xs) (hb : base' ≤ base) : w.ownsRow base' e size v n xs := by
  refine ⟨h.1, ?_⟩
  rcases h.2 with hn | ⟨g', cap, cur, rfl, hbg, rest⟩
  · exact .inl hn
  · exact .inr ⟨g', cap, cur, rfl, by omega, rest⟩
theorem own_slice {w : World} {base : Nat} {e : TypeId} {size : Nat} {v : Value} {n : Nat} {xs : List Value} (h : w.ownsRow base e size v n xs) : ∃ ad c, v = .slice ad n c := by
  rcases h.2 with ⟨rfl, rfl⟩ | ⟨g', cap, cur, rfl, _⟩
  · exact ⟨_, _, rfl⟩
  · exact ⟨_, _, rfl⟩
theorem own_ne {w : World} {base : Nat} {e : TypeId} {size : Nat} {v : Value} {n : Nat} {xs : List Value} (h : w.ownsRow base e size v n xs) {g : Nat} {t : TypeId} {cs : Array Value} (hg : Blk w g t cs) (ht : t ≠ e) :
    v.ownBlock ≠ some g := by
  intro hv
  obtain ⟨_, cs', h'⟩ := own_kind h g hv
  exact ht (hg.inj h').1
theorem own_setCell {w : World} {base : Nat} {e : TypeId} {size : Nat} {v : Value} {n : Nat} {xs : List Value} (h : w.ownsRow base e size v n xs) {g : Nat} {t : TypeId} {cs : Array Value} (hg : Blk w g t cs) (ht : t ≠ e) (i : Nat) (u : Value) :
    (w.setCell ⟨g, i, none⟩ u).ownsRow base e size v n xs := by
  refine ⟨h.1, ?_⟩
  rcases h.2 with hn | ⟨g', cap, cur, rfl, hb, hgg, rest⟩
  · exact .inl hn
  · refine .inr ⟨g', cap, cur, rfl, hb, ?_, rest⟩
    rw [Below.heap_setCell _ _ _ _ (show g' ≠ g from fun e' => ht (by subst e'; exact (hg.inj hgg).1))]
    exact hgg
theorem own_heap {w w' : World} {base : Nat} {e : TypeId} {size : Nat} {v : Value} {n : Nat} {xs : List Value} (h : w.ownsRow base e size v n xs) (hh : w'.heap = w.heap) : w'.ownsRow base e size v n xs := by
  refine ⟨h.1, ?_⟩
  rcases h.2 with hn | ⟨g', cap, cur, rfl, hb, hgg, rest⟩
  · exact .inl hn
  · exact .inr ⟨g', cap, cur, rfl, hb, by rw [hh]; exact hgg, rest⟩

end Go.Proofs.Ytjopfgdgmniigaa
