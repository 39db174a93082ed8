/-
  An arena's nodes in memory.
  Written by an AI agent.
-/
import Derived.Test.YtdeogkjihmaniaaProg
import Derived.Test.YtdeogkjihmaniaaSplice
import Derived.Lib.Hide
import Derived.OwnWalk
import Derived.Outline
import Derived.RegionTactic
import Derived.Deep.QuietTactic
import Derived.BigQuiet
import Derived.BigGuard
import Derived.BigCall
import Derived.Handy
import Derived.KernelRfl
import Derived.Deep.LoopGhost
import Derived.Deep.RegionHeld3
import Derived.Deep.RegionWith
import Derived.StillTailTactics
namespace Go.Proofs.Ytdeogkjihmaniaa
open Go.RowKit

theorem laid : laidOutB Try.prog = true := by kernel_rfl

abbrev Atr := ByteArray × ByteArray

/-- The slice v reads as these attributes; its memory lies below B or is a row of attributes. -/
def AtrsAt (w : World) (B : Nat) (v : Value) (l : List Atr) : Prop :=
  ∃ ad c, v = .slice ad l.length c ∧ l.length ≤ c ∧ l.length ≤ 1000000 ∧ (l ≠ [] → ∃ g off, ad = some ⟨g, off, none⟩ ∧ g < w.heap.size ∧ (g < B ∨ ∃ cs fr, w.heap[g]? = some (.cells cs 32 fr)) ∧
    ∀ (k : Nat) (x : Atr), l[k]? = some x → w.cell? ⟨g, off + k * 2, none⟩ = some (.string x.1) ∧ w.cell? ⟨g, off + k * 2 + 1, none⟩ = some (.string x.2))

theorem AtrsAt.same {w w' : World} {B : Nat} {v : Value} {l : List Atr} (h : AtrsAt w B v l) (hs : w.heap.size ≤ w'.heap.size) (hb : ∀ g, v.ownBlock = some g → g < w.heap.size → (g < B ∨ ∃ cs fr, w.heap[g]? = some (.cells cs 32 fr)) → w'.heap[g]? = w.heap[g]?) : AtrsAt w' B v l := by
  obtain ⟨ad, c, rfl, hlc, hl, hr⟩ := h
  refine ⟨ad, c, rfl, hlc, hl, fun hne => ?_⟩
  obtain ⟨g, off, rfl, hg, hk, hc⟩ := hr hne
  have e := hb g rfl hg hk
  refine ⟨g, off, rfl, Nat.lt_of_lt_of_le hg hs, hk.imp id (fun ⟨cs, fr, h⟩ => ⟨cs, fr, e.trans h⟩), fun k x hx => ?_⟩
  obtain ⟨h1, h2⟩ := hc k x hx
  exact ⟨(World.cell?_of_block (w := w) (a := ⟨g, off + k * 2, none⟩) e).trans h1, (World.cell?_of_block (w := w) (a := ⟨g, off + k * 2 + 1, none⟩) e).trans h2⟩
theorem AtrsAt.below {w w' : World} {B : Nat} {v : Value} {l : List Atr} (h : AtrsAt w B v l) (hb : Below w.heap.size w w') : AtrsAt w' B v l :=
  h.same hb.size fun g _ hg _ => hb.block g hg
theorem AtrsAt.fr {w w' : World} {B B' : Nat} {T : Obj → Bool} {v : Value} {l : List Atr} (h : AtrsAt w B v l) (hf : Fr B' T w w') (hB : B ≤ B') (hT : ∀ cs fr, T (.cells cs 32 fr) = false) : AtrsAt w' B v l :=
  h.same hf.size fun g _ hg hk => by
    rcases hk with hk | ⟨cs, fr, hk⟩
    · exact hf.block g hg (.inl (by omega))
    · exact (hf.obj hk (.inr (hT cs fr))).trans hk.symm
theorem AtrsAt.nil (w : World) (B : Nat) : AtrsAt w B (.slice none 0 0) [] := ⟨none, 0, rfl, by simp, by simp, fun h => absurd rfl h⟩
theorem AtrsAt.form {w : World} {B : Nat} {v : Value} {l : List Atr} (h : AtrsAt w B v l) : ∃ ad c, v = .slice ad l.length c := by
  obtain ⟨ad, c, rfl, _⟩ := h; exact ⟨ad, c, rfl⟩

/-- A node: what the document says of it, and where its attributes and its kids lie. -/
structure It where
  kind : Int
  space : Int
  name : ByteArray
  attrs : List Atr
  text : ByteArray
  par : Int
  kids : List Int
  av : Value
  kv : Value

def cellsI (e : It) : List Value := [i64 e.kind, i64 e.space, .string e.name, e.av, .string e.text, .slice none 0 0, i64 e.par, e.kv]
def flatI : List It → List Value
  | [] => []
  | e :: r => i64 e.kind :: i64 e.space :: .string e.name :: e.av :: .string e.text :: .slice none 0 0 :: i64 e.par :: e.kv :: flatI r
theorem flatI_cons (e : It) (r : List It) : flatI (e :: r) = cellsI e ++ flatI r := rfl
theorem flatI_length (l : List It) : (flatI l).length = l.length * 8 := by
  induction l with
  | nil => rfl
  | cons e r ih => simp [flatI, ih]; omega
theorem flatI_append (a b : List It) : flatI (a ++ b) = flatI a ++ flatI b := by
  induction a with
  | nil => rfl
  | cons e r ih => simp [flatI, ih]
theorem flatI_get (l : List It) : ∀ (k : Nat) (e : It), l[k]? = some e → ∀ j, j < 8 → (flatI l)[k * 8 + j]? = (cellsI e)[j]? := by
  induction l with
  | nil => intro k e h; simp at h
  | cons q r ih =>
    intro k e h j hj
    rw [flatI_cons]
    cases k with
    | zero =>
      simp at h
      subst h
      rw [List.getElem?_append_left (by simp [cellsI]; omega), Nat.zero_mul, Nat.zero_add]
    | succ k =>
      rw [List.getElem?_append_right (by simp [cellsI]; omega)]
      rw [show (k + 1) * 8 + j - (cellsI q).length = k * 8 + j from by simp [cellsI]; omega]
      exact ih k e (by simpa using h) j hj
theorem flatI_set (l : List It) : ∀ (k : Nat) (e e' : It) (j : Nat) (u : Value), l[k]? = some e → j < 8 → (cellsI e).set j u = cellsI e' → (flatI l).set (k * 8 + j) u = flatI (l.set k e') := by
  induction l with
  | nil => intro k e e' j u h; simp at h
  | cons q r ih =>
    intro k e e' j u h hj hu
    cases k with
    | zero =>
      simp at h
      subst h
      rw [List.set_cons_zero, flatI_cons, flatI_cons, ← hu, Nat.zero_mul, Nat.zero_add]
      rw [List.set_append_left _ _ (by simp [cellsI]; omega)]
    | succ k =>
      rw [List.set_cons_succ, flatI_cons, flatI_cons, ← ih k e e' j u (by simpa using h) hj hu]
      rw [List.set_append_right _ _ (by simp [cellsI]; omega)]
      rw [show (k + 1) * 8 + j - (cellsI q).length = k * 8 + j from by simp [cellsI]; omega]

theorem info64 : (Try.prog.info? 64).map (fun i => (i.zero, i.size, i.bytes)) = some (some (.agg #[.int .i64 0, .int .i64 0, .string ⟨#[]⟩, .slice none 0 0, .string ⟨#[]⟩, .slice none 0 0, .int .i64 0, .slice none 0 0]), 8, 128) := by kernel_rfl
theorem info3 : (Try.prog.info? 3).map (fun i => (i.zero, i.size, i.bytes)) = some (some (.int .i64 0), 1, 8) := by kernel_rfl
theorem info32 : (Try.prog.info? 32).map (fun i => (i.zero, i.size, i.bytes)) = some (some (.agg #[.string ⟨#[]⟩, .string ⟨#[]⟩]), 2, 32) := by kernel_rfl
theorem size64 : (Try.prog.info? 64).map (·.size) = some 8 := by kernel_rfl
theorem size3 : (Try.prog.info? 3).map (·.size) = some 1 := by kernel_rfl

/-- A node's attributes and kids. -/
structure ItAt (w : World) (B : Nat) (e : It) : Prop where
  atrs : AtrsAt w B e.av e.attrs
  kids : w.ownsRow B 3 1 e.kv e.kids.length (e.kids.map i64)
  few : e.kids.length ≤ 1000000

theorem own_below {w w' : World} {base : Nat} {e : TypeId} {size : Nat} {v : Value} {n : Nat} {xs : List Value} (h : w.ownsRow base e size v n xs) (hb : Below w.heap.size w w') : w'.ownsRow base e size v n xs := by
  refine ⟨h.1, h.2.imp id fun ⟨g, cap, cur, hv, hg, hh, r⟩ => ⟨g, cap, cur, hv, hg, (hb.block g (Array.getElem?_eq_some_iff.1 hh).1).trans hh, r⟩⟩
theorem blk_kept {w w' : World} {g : Nat} {t : TypeId} {cs : Array Value} (h : Blk w g t cs) (hb : Below w.heap.size w w') : Blk w' g t cs := (hb.block g h.lt).trans h

theorem ItAt.below {w w' : World} {B : Nat} {e : It} (h : ItAt w B e) (hb : Below w.heap.size w w') : ItAt w' B e := ⟨h.atrs.below hb, own_below h.kids hb, h.few⟩

/-- The kids' rows lie apart. -/
def Apart (l : List It) : Prop := ∀ (i j : Nat) (e f : It), l[i]? = some e → l[j]? = some f → i ≠ j → ∀ k, e.kv.ownBlock = some k → f.kv.ownBlock ≠ some k

/-- The arena at block a has just these nodes. -/
structure ArenaAt (w : World) (B a : Nat) (v : Value) (l : List It) : Prop where
  blk : Blk w a 67 #[v]
  low : B ≤ a
  row : w.ownsRow B 64 8 v l.length (flatI l)
  few : l.length ≤ 600
  its : ∀ e ∈ l, ItAt w B e
  apart : Apart l

theorem ArenaAt.below {w w' : World} {B a : Nat} {v : Value} {l : List It} (h : ArenaAt w B a v l) (hb : Below w.heap.size w w') : ArenaAt w' B a v l :=
  ⟨blk_kept h.blk hb, h.low, own_below h.row hb, h.few, fun e he => (h.its e he).below hb, h.apart⟩

/-- What the arena's methods may turn. -/
abbrev AK : Obj → Bool := kinds [67, 64, 3] false

/-- Where the nodes lie. -/
theorem ArenaAt.form {w : World} {B a : Nat} {v : Value} {l : List It} (h : ArenaAt w B a v l) :
    ∃ ad c, v = .slice ad l.length c ∧ l.length ≤ c ∧ c ≤ 9223372036854775807 ∧ (l ≠ [] → ∃ g, ad = some ⟨g, 0, none⟩ ∧ B ≤ g ∧ g < w.heap.size ∧ ∀ (k : Nat) (e : It), l[k]? = some e →
      w.cell? ⟨g, k * 8, none⟩ = some (i64 e.kind) ∧ w.cell? ⟨g, k * 8 + 1, none⟩ = some (i64 e.space) ∧ w.cell? ⟨g, k * 8 + 2, none⟩ = some (.string e.name) ∧ w.cell? ⟨g, k * 8 + 3, none⟩ = some e.av ∧
      w.cell? ⟨g, k * 8 + 4, none⟩ = some (.string e.text) ∧ w.cell? ⟨g, k * 8 + 5, none⟩ = some (.slice none 0 0) ∧ w.cell? ⟨g, k * 8 + 6, none⟩ = some (i64 e.par) ∧ w.cell? ⟨g, k * 8 + 7, none⟩ = some e.kv) := by
  rcases h.row.2 with ⟨rfl, h0⟩ | ⟨g, cap, cur, rfl, hb, hg, hnc, hm, _, _⟩
  · exact ⟨none, 0, by rw [h0], by omega, by omega, fun hne => absurd (List.length_eq_zero_iff.1 h0) hne⟩
  · unfold maxLen at hm
    refine ⟨_, cap, rfl, hnc, hm, fun _ => ⟨g, rfl, hb, (Array.getElem?_eq_some_iff.1 hg).1, fun k e hk => ?_⟩⟩
    have hc := h.row.cells (g := g) rfl
    have ea : ∀ j, (⟨g, 0, none⟩ : Addr).add j = ⟨g, j, none⟩ := fun j => by unfold Addr.add; split <;> simp_all
    have hj : ∀ j u, j < 8 → (cellsI e)[j]? = some u → w.cell? ⟨g, k * 8 + j, none⟩ = some u := fun j u hj hu => by
      have := hc (k * 8 + j) u ((flatI_get l k e hk j hj).trans hu)
      rw [ea] at this
      exact this
    exact ⟨hj 0 _ (by omega) rfl, hj 1 _ (by omega) rfl, hj 2 _ (by omega) rfl, hj 3 _ (by omega) rfl, hj 4 _ (by omega) rfl, hj 5 _ (by omega) rfl, hj 6 _ (by omega) rfl, hj 7 _ (by omega) rfl⟩

theorem ItAt.kform {w : World} {B : Nat} {e : It} (h : ItAt w B e) : ∃ ad c, e.kv = .slice ad e.kids.length c := own_slice h.kids

def rootI : It := ⟨1, 0, ⟨#[]⟩, [], ⟨#[]⟩, -1, [], .slice none 0 0, .slice none 0 0⟩

end Go.Proofs.Ytdeogkjihmaniaa
