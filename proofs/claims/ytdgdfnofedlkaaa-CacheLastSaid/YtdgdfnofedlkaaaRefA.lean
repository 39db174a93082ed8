/-
  The document's cache (rectoref33), walked: its list, looked through.
  Written by an AI agent.
-/
import Derived.Test.YtdgdfnofedlkaaaWalksE
import Derived.StillTailTactics
import Derived.Deep.RegionHeld3
import Derived.Laws.AppendOwnNone
namespace Go.Proofs.Ytdgdfnofedlkaaa
open Go.RowKit Go.Maps

/-- The cells of texts in a row. -/
def flat : List Txt → List Value
  | [] => []
  | x :: r => i64 x.1 :: .string x.2 :: flat r

theorem flat_length (st : List Txt) : (flat st).length = st.length * 2 := by
  induction st with
  | nil => rfl
  | cons x r ih => simp [flat, ih]; omega
theorem flat_append (a b : List Txt) : flat (a ++ b) = flat a ++ flat b := by
  induction a with
  | nil => rfl
  | cons x r ih => simp [flat, ih]
theorem flat_get (st : List Txt) : ∀ (k : Nat) (h : k < st.length), (flat st)[k * 2]? = some (i64 st[k].1) ∧ (flat st)[k * 2 + 1]? = some (.string st[k].2) := by
  induction st with
  | nil => intro k h; simp at h
  | cons x r ih =>
    intro k h
    cases k with
    | zero => simp [flat]
    | succ k =>
      have := ih k (by simpa using h)
      rw [show (k + 1) * 2 = k * 2 + 1 + 1 from by omega]
      simpa [flat] using this

/-- THE DOCUMENT's CACHE at block rb. -/
def RefAt (w : World) (B rb : Nat) (most bytes : Int) (st : List Txt) (hits misses : Int) (v : Value) : Prop :=
  Blk w rb 32 #[i64 most, i64 bytes, v, i64 hits, i64 misses] ∧ w.ownsRow B 40 2 v st.length (flat st) ∧ B ≤ rb ∧ st.length ≤ 1000000

theorem row_form {w : World} {B : Nat} {v : Value} {st : List Txt} (h : w.ownsRow B 40 2 v st.length (flat st)) :
    (v = .slice none 0 0 ∧ st = []) ∨ ∃ g cap, v = .slice (some ⟨g, 0, none⟩) st.length cap ∧ st.length ≤ cap ∧ cap ≤ maxLen ∧ B ≤ g ∧ g < w.heap.size ∧
      ∀ (k : Nat) (x : Txt), st[k]? = some x → w.cell? ⟨g, k * 2, none⟩ = some (i64 x.1) ∧ w.cell? ⟨g, k * 2 + 1, none⟩ = some (.string x.2) := by
  rcases h.2 with ⟨rfl, hn⟩ | ⟨g, cap, cur, rfl, hb, hg, hn, hm, _, _⟩
  · exact .inl ⟨rfl, List.length_eq_zero_iff.1 hn⟩
  · refine .inr ⟨g, cap, rfl, hn, hm, hb, (Array.getElem?_eq_some_iff.1 hg).1, fun k x hx => ?_⟩
    have hc := h.cells (g := g) rfl
    obtain ⟨hk, rfl⟩ := List.getElem?_eq_some_iff.1 hx
    obtain ⟨f1, f2⟩ := flat_get st k hk
    have e : ∀ j, (⟨g, 0, none⟩ : Addr).add j = ⟨g, j, none⟩ := fun j => by unfold Addr.add; split <;> simp_all
    have h1 := hc _ _ f1
    have h2 := hc _ _ f2
    rw [e] at h1 h2
    exact ⟨h1, h2⟩

set_option maxHeartbeats 1000000 in
theorem at_yes {w : World} {B rb : Nat} {most bytes hits misses : Int} {A C : List Txt} {x : Txt} {v : Value} (h : RefAt w B rb most bytes (A ++ x :: C) hits misses v) (hno : x.1 ∉ A.map (·.1)) :
    Calls Try.prog 27 #[ptr rb, i64 x.1] w fun e w' => e = .returned (i64 A.length) ∧ Below w.heap.size w w' := by
  obtain ⟨hb, hrow, _, hlen⟩ := h
  rcases row_form hrow with ⟨_, he⟩ | ⟨g, cap, rfl, hnc, hcm, hBg, hg, hcell⟩
  · simp at he
  have c2 := hb.cell 2 (.slice (some ⟨g, 0, none⟩) (A ++ x :: C).length cap) rfl
  unfold maxLen at hcm
  obtain ⟨n, hn⟩ : ∃ n, (A ++ x :: C).length = n := ⟨_, rfl⟩
  rw [hn] at c2 hnc hlen
  have hAn : A.length < n := by rw [← hn]; simp
  have HC := Lib.hid hcell
  have HN := Lib.hid hn
  have HNO := Lib.hid hno
  clear hcell hb hrow hn hno
  go_enter Try.func27, Try.ntmps27
  go_wp2
  go_loopw [12] (fun i wr => ∃ k : Nat, k ≤ A.length ∧ i = i64 k ∧ Below w.heap.size w wr) (fun i _ => A.length - (intOf i).toNat)
  case atStart => exact ⟨0, Nat.zero_le _, rfl, Below.refl _ _⟩
  case round =>
    obtain ⟨k, hk, rfl, hbel⟩ := hrel
    by_cases hlt : k < A.length
    · obtain ⟨y, hy⟩ : ∃ y, A[k] = y := ⟨_, rfl⟩
      have hel : (A ++ x :: C)[k]? = some y := by rw [List.getElem?_append_left hlt, List.getElem?_eq_getElem hlt, hy]
      obtain ⟨d0, d1⟩ := HC.out k y hel
      have e0 := (hbel.cell (p := ⟨g, k * 2, none⟩) hg).trans d0
      have e1 := (hbel.cell (p := ⟨g, k * 2 + 1, none⟩) hg).trans d1
      have hne : (y.1 == x.1) = false := by
        have : y.1 ≠ x.1 := fun e => HNO.out (List.mem_map.2 ⟨A[k], List.getElem_mem hlt, by rw [hy]; exact e⟩)
        simpa using this
      clear d0 d1 hel hy
      go_wp2
      go_roundw
      case rel => exact ⟨k + 1, by omega, by go_num, hbel.alloc hbel.size _⟩
      case measure => simp [intOf]; omega
    · obtain rfl : k = A.length := by omega
      have hel : (A ++ x :: C)[A.length]? = some x := by simp
      obtain ⟨d0, d1⟩ := HC.out A.length x hel
      have e0 := (hbel.cell (p := ⟨g, A.length * 2, none⟩) hg).trans d0
      have e1 := (hbel.cell (p := ⟨g, A.length * 2 + 1, none⟩) hg).trans d1
      have hne : (x.1 == x.1) = true := by simp
      clear d0 d1 hel
      go_wp2
      go_ret
      exact ⟨rfl, hbel.alloc hbel.size _⟩

set_option maxHeartbeats 1000000 in
theorem at_no {w : World} {B rb : Nat} {most bytes hits misses : Int} {st : List Txt} {v : Value} (h : RefAt w B rb most bytes st hits misses v) (id : Int) (hno : id ∉ st.map (·.1)) :
    Calls Try.prog 27 #[ptr rb, i64 id] w fun e w' => e = .returned (i64 (-1)) ∧ Below w.heap.size w w' := by
  obtain ⟨hb, hrow, _, hlen⟩ := h
  rcases row_form hrow with ⟨rfl, rfl⟩ | ⟨g, cap, rfl, hnc, hcm, hBg, hg, hcell⟩
  · have c2 := hb.cell 2 (.slice none 0 0) rfl
    clear hb hrow hno hlen
    go_enter Try.func27, Try.ntmps27
    go_wp2
    refine wp_loop_rounds 1 ?_
    rw [rounds_succ]
    go_wp2
    go_ret
    exact ⟨rfl, Below.refl _ _⟩
  have c2 := hb.cell 2 (.slice (some ⟨g, 0, none⟩) st.length cap) rfl
  unfold maxLen at hcm
  obtain ⟨n, hn⟩ : ∃ n, st.length = n := ⟨_, rfl⟩
  rw [hn] at c2 hnc hlen
  have HC := Lib.hid hcell
  have HN := Lib.hid hn
  have HNO := Lib.hid hno
  clear hcell hb hrow hn hno
  go_enter Try.func27, Try.ntmps27
  go_wp2
  go_loopw [12] (fun i wr => ∃ k : Nat, k ≤ n ∧ i = i64 k ∧ Below w.heap.size w wr) (fun i _ => n - (intOf i).toNat)
  case atStart => exact ⟨0, Nat.zero_le _, rfl, Below.refl _ _⟩
  case round =>
    obtain ⟨k, hk, rfl, hbel⟩ := hrel
    by_cases hlt : k < n
    · have hkl : k < st.length := by rw [HN.out]; exact hlt
      obtain ⟨y, hy⟩ : ∃ y, st[k] = y := ⟨_, rfl⟩
      have hel : st[k]? = some y := by rw [List.getElem?_eq_getElem hkl, hy]
      obtain ⟨d0, d1⟩ := HC.out k y hel
      have e0 := (hbel.cell (p := ⟨g, k * 2, none⟩) hg).trans d0
      have e1 := (hbel.cell (p := ⟨g, k * 2 + 1, none⟩) hg).trans d1
      have hne : (y.1 == id) = false := by
        have : y.1 ≠ id := fun e => HNO.out (List.mem_map.2 ⟨st[k], List.getElem_mem hkl, by rw [hy]; exact e⟩)
        simpa using this
      clear d0 d1 hel hy hkl
      go_wp2
      go_roundw
      case rel => exact ⟨k + 1, by omega, by go_num, hbel.alloc hbel.size _⟩
      case measure => simp [intOf]; omega
    · go_wp2
      go_ret
      exact ⟨rfl, hbel⟩

end Go.Proofs.Ytdgdfnofedlkaaa
