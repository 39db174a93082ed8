/-
  slices.Backward at entries: its iterator's contract.
  Written by an AI agent.
-/
import Derived.RangeFuncNested
import Derived.RangeFuncBound
import Derived.RangeFuncCalls
import Derived.RangeFuncLeaves
import Derived.Shelf.Abstract
import Derived.Shelf.RegionOpen
import Derived.WalkKit
import Derived.OwnWalkIn
import Derived.TacticsInMore
import Derived.LoopNIn
import Derived.LoopIn
import Derived.Test.YtjopfgdgmniigaaMark
import Derived.Test.YtjopfgdgmniigaaNil
namespace Go.Proofs.Ytjopfgdgmniigaa
open Go.RowKit Go.Maps Go.Shelf
attribute [local go_sem] Oper.semAt_some

/-- An element's parts, by its place. -/
structure Parts where
  mark : Nat → Bool
  id : Nat → Int
  nm : Nat → ByteArray
  va : Nat → Option Addr
  vn : Nat → Nat
  vc : Nat → Nat

/-- What has come when k rounds are over: the places from the last one on. -/
def downto (n k : Nat) : List Nat := (List.range k).map fun j => n - 1 - j
theorem downto_succ (n k : Nat) : downto n (k + 1) = downto n k ++ [n - 1 - k] := by simp [downto, List.range_succ]
theorem downto_length (n k : Nat) : (downto n k).length = k := by simp [downto]

/-- What a round must keep: what lay below n₀, and the box Bs. -/
def KpB (n₀ Bs : Nat) (W W' : World) : Prop := Below n₀ W W' ∧ (∀ t cs, Blk W Bs t cs → Blk W' Bs t cs)
theorem KpB.t {n₀ Bs : Nat} {A B C : World} (h : KpB n₀ Bs A B) (k : KpB n₀ Bs B C) : KpB n₀ Bs A C := ⟨h.1.trans k.1, fun t cs hb => k.2 t cs (h.2 t cs hb)⟩
theorem KpB.b {n₀ Bs : Nat} {w : World} (hn : n₀ ≤ w.heap.size) : ∀ (W : World) (l : Nat) (o o' : Obj), w.heap.size ≤ l → W.heap[l]? = some o → o.isCells = false → o.isWalk = false → KpB n₀ Bs W (W.putObj l o') :=
  fun W l o o' hl ho hc hw => ⟨belowK_b hn W l o o' hl ho hc hw, fun t cs hb => by
    by_cases e : Bs = l
    · subst e
      have := ho.symm.trans hb
      cases this
      cases hc
    · exact (World.putObj_heap_other e).trans hb⟩

set_option maxRecDepth 100000 in
set_option maxHeartbeats 2000000 in
theorem back1_in (F : Fence) (n : Nat) (h50 : F.fn 50) (hro : F.round = none) (hn : 1 ≤ n) (l Bs n₀ b off len cap : Nat) (p : Parts) (hreach : len ≤ 1000000) (hb : b < n₀) (J Jx : List Nat → World → Prop)
    (hY : ∀ (pre : List Nat) (x : Nat) (W : World), J pre W → pre.length < len → YieldAt F (n - 1) Try.prog l #[.int .i64 (x : Int), .agg #[.bool (p.mark x), i64 (p.id x), .string (p.nm x), .slice (p.va x) (p.vn x) (p.vc x)]] W fun e W' =>
      (e = .returned (.bool true) ∧ J (pre ++ [x]) W' ∧ KpB n₀ Bs W W') ∨ (e = .returned (.bool false) ∧ Jx (pre ++ [x]) W'))
    (W : World) (hBs : Blk W Bs 38 #[.slice (some ⟨b, off, none⟩) len cap]) (hc : ∀ j, j < len → W.cell? ⟨b, off + j * 4, none⟩ = some (.bool (p.mark j)) ∧ W.cell? ⟨b, off + j * 4 + 1, none⟩ = some (i64 (p.id j)) ∧ W.cell? ⟨b, off + j * 4 + 2, none⟩ = some (.string (p.nm j)) ∧ W.cell? ⟨b, off + j * 4 + 3, none⟩ = some (.slice (p.va j) (p.vn j) (p.vc j))) (h0 : J [] W) :
    CallsIn F n Try.prog 50 #[.func (.yield l) #[] #[], .pointer (some ⟨Bs, 0, none⟩)] W fun e W' => (∃ v, e = .returned v) ∧
      ((∃ ys, ys = downto len len ∧ J ys W') ∨ (∃ pre, (∃ k, k ≤ len ∧ pre = downto len k) ∧ Jx pre W')) := by
  have c0 := hBs.cell 0 (.slice (some ⟨b, off, none⟩) len cap) rfl
  refine callsIn_of_wp Try.func50 rfl h50 ?_ hro
  simp only [Try.ntmps50, List.size_toArray, List.length_cons, List.length_nil, Nat.reduceAdd, Nat.reduceSub, Array.replicate_succ, Array.replicate_zero, List.push_toArray, List.append_toArray, List.nil_append, List.cons_append]
  have hwr : IntKind.i64.wrap ((len : Int) - 1) = (len : Int) - 1 := IntWalk.i64_in _ (by omega)
  gi_wp2
  gi_loopw [3] (fun i wr => ∃ k : Nat, k ≤ len ∧ i = .int .i64 ((len : Int) - 1 - (k : Int)) ∧ J (downto len k) wr ∧ KpB n₀ Bs W wr)
    (fun i _ => (intOf i + 1).toNat)
  case atStart => exact ⟨0, Nat.zero_le _, by simp, h0, Below.refl _ _, fun _ _ h => h⟩
  case round =>
    obtain ⟨k, hk, rfl, hJs, hnx⟩ := hrel
    by_cases hlt : k < len
    · have e1 : (len : Int) - 1 - (k : Int) = ((len - 1 - k : Nat) : Int) := by omega
      obtain ⟨q, hq⟩ : ∃ q, len - 1 - k = q := ⟨_, rfl⟩
      rw [hq] at e1
      rw [e1]
      have hql : q < len := by omega
      obtain ⟨d0, d1, d2, d3⟩ := hc q hql
      have a0 := (hnx.1.cell (p := ⟨b, _, none⟩) hb).trans d0
      have a1 := (hnx.1.cell (p := ⟨b, _, none⟩) hb).trans d1
      have a2 := (hnx.1.cell (p := ⟨b, _, none⟩) hb).trans d2
      have a3 := (hnx.1.cell (p := ⟨b, _, none⟩) hb).trans d3
      have a4 := (hnx.2 _ _ hBs).cell 0 (.slice (some ⟨b, off, none⟩) len cap) rfl
      obtain ⟨fn, tmps, assign, body, hy, hR⟩ := hY _ q wr hJs (by rw [downto_length]; exact hlt)
      have hz : decide ((0 : Int) ≤ (q : Int)) = true := by simp
      have hwq : IntKind.i64.wrap ((q : Int) - 1) = (q : Int) - 1 := IntWalk.i64_in _ (by omega)
      have HC := Lib.hid (And.intro hc hY)
      clear hc hY d0 d1 d2 d3
      gi_wp2
      refine hR.mono ?_
      rintro e W3 (⟨rfl, hJ3, hk3⟩ | ⟨rfl, hJx3⟩)
      · gi_wp2
        go_roundw
        case rel => exact ⟨k + 1, by omega, by congr 1; omega, by rw [downto_succ, hq]; exact hJ3, hnx.t hk3⟩
        case measure => simp [intOf]
      · gi_wp2
        refine bodyPost_ret (results_none rfl _ _ _) rfl ?_
        exact ⟨⟨_, rfl⟩, .inr ⟨_, ⟨k + 1, by omega, by rw [downto_succ, hq]⟩, hJx3⟩⟩
    · obtain rfl : k = len := by omega
      have hz : decide ((0 : Int) ≤ (k : Int) - 1 - (k : Int)) = false := by simp; omega
      gi_wp2
      go_end0
      exact ⟨⟨_, rfl⟩, .inl ⟨_, rfl, hJs⟩⟩

/-- The value holds these parts, in a block below n₀; or it has no element. -/
def PartsAt (n₀ : Nat) (W : World) (sv : Value) (len : Nat) (p : Parts) : Prop :=
  (∃ a cap, sv = .slice a len cap) ∧ len ≤ 1000000 ∧ (len ≠ 0 → ∃ b off cap, sv = .slice (some ⟨b, off, none⟩) len cap ∧ b < n₀ ∧ ∀ j, j < len → W.cell? ⟨b, off + j * 4, none⟩ = some (.bool (p.mark j)) ∧ W.cell? ⟨b, off + j * 4 + 1, none⟩ = some (i64 (p.id j)) ∧ W.cell? ⟨b, off + j * 4 + 2, none⟩ = some (.string (p.nm j)) ∧ W.cell? ⟨b, off + j * 4 + 3, none⟩ = some (.slice (p.va j) (p.vn j) (p.vc j)))

theorem PartsAt.below {n₀ : Nat} {A B : World} {sv : Value} {len : Nat} {p : Parts} (h : PartsAt n₀ A sv len p) (hb : Below n₀ A B) : PartsAt n₀ B sv len p :=
  ⟨h.1, h.2.1, fun h0 => by
    obtain ⟨b, off, cap, e, hbn, hc⟩ := h.2.2 h0
    refine ⟨b, off, cap, e, hbn, fun j hj => ?_⟩
    obtain ⟨d0, d1, d2, d3⟩ := hc j hj
    exact ⟨(hb.cell (p := ⟨b, _, none⟩) hbn).trans d0, (hb.cell (p := ⟨b, _, none⟩) hbn).trans d1, (hb.cell (p := ⟨b, _, none⟩) hbn).trans d2, (hb.cell (p := ⟨b, _, none⟩) hbn).trans d3⟩⟩

set_option maxRecDepth 100000 in
set_option maxHeartbeats 1000000 in
theorem back1_nil_in (F : Fence) (n : Nat) (h50 : F.fn 50) (hro : F.round = none) (l Bs : Nat) (a : Option Addr) (cap : Nat) (J : List Nat → World → Prop) (W : World) (hBs : Blk W Bs 38 #[.slice a 0 cap]) (h0 : J [] W) :
    CallsIn F n Try.prog 50 #[.func (.yield l) #[] #[], .pointer (some ⟨Bs, 0, none⟩)] W fun e W' => (∃ v, e = .returned v) ∧ J [] W' := by
  have c0 := hBs.cell 0 (.slice a 0 cap) rfl
  refine callsIn_of_wp Try.func50 rfl h50 ?_ hro
  simp only [Try.ntmps50, List.size_toArray, List.length_cons, List.length_nil, Nat.reduceAdd, Nat.reduceSub, Array.replicate_succ, Array.replicate_zero, List.push_toArray, List.append_toArray, List.nil_append, List.cons_append]
  gi_wp2
  gi_loopw [3] (fun i wr => i = .int .i64 (-1) ∧ J [] wr) (fun _ _ => 0)
  case atStart => exact ⟨by go_num, h0⟩
  case round =>
    obtain ⟨rfl, hJs⟩ := hrel
    gi_wp2
    go_end0
    exact ⟨⟨_, rfl⟩, hJs⟩

set_option maxHeartbeats 1000000 in
theorem back_in (F : Fence) (n : Nat) (h37 : F.fn 37) (hro : F.round = none) (a : Option Addr) (len cap : Nat) (w : World) :
    CallsIn F n Try.prog 37 #[.slice a len cap] w fun e w' => e = .returned (.func (.func 50) #[] #[.pointer (some ⟨w.heap.size, 0, none⟩)]) ∧ w' = w.alloc (.cells #[.slice a len cap] 38) := by
  refine callsIn_of_wp Try.func37 rfl h37 ?_ hro
  simp only [Try.ntmps37, List.size_toArray, List.length_cons, List.length_nil, Nat.reduceAdd, Nat.reduceSub, Array.replicate_succ, Array.replicate_zero, List.push_toArray, List.append_toArray, List.nil_append, List.cons_append]
  gi_wp2
  go_ret
  exact ⟨rfl, rfl⟩

/-- Backward's value: the places from the last one on; all, or the first k of them. -/
theorem back_stops (F : Fence) (n : Nat) (h50 : F.fn 50) (hro : F.round = none) (hn : 1 ≤ n) (Bs n₀ : Nat) (sv : Value) (len : Nat) (p : Parts) (w : World) (hn₀ : n₀ ≤ w.heap.size) (hBs : Blk w Bs 38 #[sv]) (hI : PartsAt n₀ w sv len p) :
    SeqStopsK F n Try.prog 50 #[.pointer (some ⟨Bs, 0, none⟩)] (fun x : Nat => #[.int .i64 (x : Int), .agg #[.bool (p.mark x), i64 (p.id x), .string (p.nm x), .slice (p.va x) (p.vn x) (p.vc x)]]) (KpB n₀ Bs) (fun ys => ys = downto len len)
      (fun pre => ∃ k, k ≤ len ∧ pre = downto len k) len w := fun l J Jx W hW _ _ hY h0 => by
  have hb' : Blk W Bs 38 #[sv] := blk_kept hBs hW
  obtain ⟨⟨a, cap, hsv⟩, hreach, hel⟩ := hI.below (hW.mono hn₀)
  by_cases hz : len = 0
  · subst hz
    subst hsv
    exact (back1_nil_in F n h50 hro l Bs a cap J W hb' h0).mono fun e W' ⟨he, hj⟩ => ⟨he, .inl ⟨_, rfl, hj⟩⟩
  · obtain ⟨b, off, cap', hsv', hb, hcs⟩ := hel hz
    subst hsv'
    exact back1_in F n h50 hro hn l Bs n₀ b off len cap' p hreach hb J Jx hY W hb' hcs h0

end Go.Proofs.Ytjopfgdgmniigaa
