/-
  The document's arena (rectoref11) in memory; what only looks, walked.
  Written by an AI agent.
-/
import Derived.Test.YtdeogkjihmaniaaGive
import Derived.Test.YtdeogkjihmaniaaInts
namespace Go.Proofs.Ytdeogkjihmaniaa
open Go.RowKit

/-- A node, and where its attributes lie. -/
structure Ro where
  nd : Nd
  av : Value

def cellsO (e : Ro) : List Value := [i64 e.nd.kind, i64 e.nd.space, .string e.nd.name, e.av, .string e.nd.text, .slice none 0 0, i64 e.nd.par]
def flatO : List Ro → List Value
  | [] => []
  | e :: r => i64 e.nd.kind :: i64 e.nd.space :: .string e.nd.name :: e.av :: .string e.nd.text :: .slice none 0 0 :: i64 e.nd.par :: flatO r
theorem flatO_cons (e : Ro) (r : List Ro) : flatO (e :: r) = cellsO e ++ flatO r := rfl
theorem flatO_length (l : List Ro) : (flatO l).length = l.length * 7 := by
  induction l with
  | nil => rfl
  | cons e r ih => simp [flatO, ih]; omega
theorem flatO_append (a b : List Ro) : flatO (a ++ b) = flatO a ++ flatO b := by
  induction a with
  | nil => rfl
  | cons e r ih => simp [flatO, ih]
theorem flatO_get (l : List Ro) : ∀ (k : Nat) (e : Ro), l[k]? = some e → ∀ j, j < 7 → (flatO l)[k * 7 + j]? = (cellsO e)[j]? := by
  induction l with
  | nil => intro k e h; simp at h
  | cons q r ih =>
    intro k e h j hj
    rw [flatO_cons]
    cases k with
    | zero =>
      simp at h
      subst h
      rw [List.getElem?_append_left (by simp [cellsO]; omega), Nat.zero_mul, Nat.zero_add]
    | succ k =>
      rw [List.getElem?_append_right (by simp [cellsO]; omega)]
      rw [show (k + 1) * 7 + j - (cellsO q).length = k * 7 + j from by simp [cellsO]; omega]
      exact ih k e (by simpa using h) j hj
theorem flatO_set (l : List Ro) : ∀ (k : Nat) (e e' : Ro) (j : Nat) (u : Value), l[k]? = some e → j < 7 → (cellsO e).set j u = cellsO e' → (flatO l).set (k * 7 + j) u = flatO (l.set k e') := by
  induction l with
  | nil => intro k e e' j u h; simp at h
  | cons q r ih =>
    intro k e e' j u h hj hu
    cases k with
    | zero =>
      simp at h
      subst h
      rw [List.set_cons_zero, flatO_cons, flatO_cons, ← hu, Nat.zero_mul, Nat.zero_add]
      rw [List.set_append_left _ _ (by simp [cellsO]; omega)]
    | succ k =>
      rw [List.set_cons_succ, flatO_cons, flatO_cons, ← ih k e e' j u (by simpa using h) hj hu]
      rw [List.set_append_right _ _ (by simp [cellsO]; omega)]
      rw [show (k + 1) * 7 + j - (cellsO q).length = k * 7 + j from by simp [cellsO]; omega]


theorem info57 : (Try.prog.info? 57).map (fun i => (i.zero, i.size, i.bytes)) = some (some (.agg #[.int .i64 0, .int .i64 0, .string ⟨#[]⟩, .slice none 0 0, .string ⟨#[]⟩, .slice none 0 0, .int .i64 0]), 7, 104) := by kernel_rfl

/-- The document's arena at block rb. -/
structure RefAt (w : World) (B rb : Nat) (vL vR : Value) (l : List Ro) (row : List Int) : Prop where
  blk : Blk w rb 53 #[vL, vR]
  low : B ≤ rb
  rowL : w.ownsRow B 57 7 vL l.length (flatO l)
  rowR : w.ownsRow B 3 1 vR row.length (row.map i64)
  atrs : ∀ e ∈ l, AtrsAt w B e.av e.nd.attrs

/-- What the document's methods may turn. -/
abbrev RK : Obj → Bool := kinds [53, 57] false

theorem RefAt.below {w w' : World} {B rb : Nat} {vL vR : Value} {l : List Ro} {row : List Int} (h : RefAt w B rb vL vR l row) (hb : Below w.heap.size w w') : RefAt w' B rb vL vR l row :=
  ⟨blk_kept h.blk hb, h.low, own_below h.rowL hb, own_below h.rowR hb, fun e he => (h.atrs e he).below hb⟩

/-- What the cells of a node read. -/
theorem RefAt.cells {w : World} {B rb : Nat} {vL vR : Value} {l : List Ro} {row : List Int} (h : RefAt w B rb vL vR l row) {k : Nat} {e : Ro} (hk : l[k]? = some e) :
    ∃ g c, vL = .slice (some ⟨g, 0, none⟩) l.length c ∧ l.length ≤ c ∧ c ≤ 9223372036854775807 ∧ k < l.length ∧ B ≤ g ∧ g < w.heap.size ∧ w.cell? ⟨rb, 0, none⟩ = some (.slice (some ⟨g, 0, none⟩) l.length c) ∧ (∀ j, w.frozen? ⟨g, j, none⟩ = false) ∧
      w.cell? ⟨g, k * 7, none⟩ = some (i64 e.nd.kind) ∧ w.cell? ⟨g, k * 7 + 1, none⟩ = some (i64 e.nd.space) ∧ w.cell? ⟨g, k * 7 + 2, none⟩ = some (.string e.nd.name) ∧ w.cell? ⟨g, k * 7 + 3, none⟩ = some e.av ∧
      w.cell? ⟨g, k * 7 + 4, none⟩ = some (.string e.nd.text) ∧ w.cell? ⟨g, k * 7 + 5, none⟩ = some (.slice none 0 0) ∧ w.cell? ⟨g, k * 7 + 6, none⟩ = some (i64 e.nd.par) := by
  have hkl := (List.getElem?_eq_some_iff.1 hk).1
  rcases h.rowL.2 with ⟨_, h0⟩ | ⟨g, cap, cur, rfl, hb, hg, hnc, hm, _, _⟩
  · omega
  · unfold maxLen at hm
    have hc := h.rowL.cells (g := g) rfl
    have ea : ∀ j, (⟨g, 0, none⟩ : Addr).add j = ⟨g, j, none⟩ := fun j => by unfold Addr.add; split <;> simp_all
    have hj : ∀ j u, j < 7 → (cellsO e)[j]? = some u → w.cell? ⟨g, k * 7 + j, none⟩ = some u := fun j u hj hu => by
      have := hc (k * 7 + j) u ((flatO_get l k e hk j hj).trans hu)
      rw [ea] at this
      exact this
    exact ⟨g, cap, rfl, hnc, hm, hkl, hb, (Array.getElem?_eq_some_iff.1 hg).1, h.blk.cell 0 _ rfl, own_fro h.rowL, hj 0 _ (by omega) rfl, hj 1 _ (by omega) rfl, hj 2 _ (by omega) rfl, hj 3 _ (by omega) rfl, hj 4 _ (by omega) rfl, hj 5 _ (by omega) rfl, hj 6 _ (by omega) rfl⟩
/-- What the cells of the row read. -/
theorem RefAt.rcell {w : World} {B rb : Nat} {vL vR : Value} {l : List Ro} {row : List Int} (h : RefAt w B rb vL vR l row) {k : Nat} {x : Int} (hk : row[k]? = some x) :
    ∃ g c, vR = .slice (some ⟨g, 0, none⟩) row.length c ∧ row.length ≤ c ∧ g < w.heap.size ∧ w.cell? ⟨g, k, none⟩ = some (i64 x) := by
  have hkl := (List.getElem?_eq_some_iff.1 hk).1
  have hr := h.rowR
  rcases h.rowR.2 with ⟨_, h0⟩ | ⟨g, cap, cur, rfl, hb, hg, hnc, hm, _, _⟩
  · omega
  · refine ⟨g, cap, rfl, hnc, (Array.getElem?_eq_some_iff.1 hg).1, ?_⟩
    rw [hr.cellAt k (by omega), List.getElem?_map, hk]
    rfl

/-- The state that the memory has. -/
structure RMod (l : List Ro) (row : List Int) (S : St) : Prop where
  nd : l.map (·.nd) = S.l
  row : row = S.row
theorem RMod.len {l : List Ro} {row : List Int} {S : St} (m : RMod l row S) : l.length = S.l.length := by rw [← m.nd]; simp
theorem RMod.ex {l : List Ro} {row : List Int} {S : St} (m : RMod l row S) {k : Nat} {nd : Nd} (h : S.l[k]? = some nd) : ∃ e, l[k]? = some e ∧ e.nd = nd := by
  rw [← m.nd, List.getElem?_map] at h
  cases hk : l[k]? with
  | none => rw [hk] at h; cases h
  | some e => rw [hk] at h; exact ⟨e, rfl, by simpa using h⟩
theorem RMod.ex' {l : List Ro} {row : List Int} {S : St} (m : RMod l row S) {k : Nat} (h : k < S.l.length) : ∃ e, l[k]? = some e ∧ S.l[k]? = some e.nd := by
  obtain ⟨e, h1, h2⟩ := m.ex (List.getElem?_eq_getElem h)
  exact ⟨e, h1, by rw [h2]; exact List.getElem?_eq_getElem h⟩
theorem ps_get {S : St} {k : Nat} {nd : Nd} (h : S.l[k]? = some nd) : S.ps[k]? = some nd.par := by unfold St.ps; rw [List.getElem?_map, h]; rfl

section
variable {w : World} {B rb : Nat} {vL vR : Value} {l : List Ro} {row : List Int} {S : St}

theorem ris_any {id : Int} {r : Bool} (h : RefAt w B rb vL vR l row) (m : RMod l row S) (hr : S.is id = r) : Calls Try.prog 23 #[ptr rb, i64 id] w fun e w' => e = .returned (.bool r) ∧ w = w' := by
  subst hr
  obtain ⟨ad, c, rfl⟩ := own_slice h.rowL
  have c0 := h.blk.cell 0 (.slice ad l.length c) rfl
  unfold St.is
  rw [← m.len]
  obtain ⟨n, hn⟩ : ∃ n, l.length = n := ⟨_, rfl⟩
  rw [hn] at c0 ⊢
  clear h m hn
  by_cases h1 : 0 ≤ id
  · have z1 : decide (0 ≤ id) = true := decide_eq_true h1
    rw [z1]
    by_cases h2 : id < (n : Int)
    · have z2 : decide (id < (n : Int)) = true := decide_eq_true h2
      rw [z2]
      clear h2 h1
      go_enter Try.func23, Try.ntmps23
      go_wp2
      go_ret
      exact ⟨rfl, rfl⟩
    · have z2 : decide (id < (n : Int)) = false := decide_eq_false h2
      rw [z2]
      clear h2 h1
      go_enter Try.func23, Try.ntmps23
      go_wp2
      go_ret
      exact ⟨rfl, rfl⟩
  · have z1 : decide (0 ≤ id) = false := decide_eq_false h1
    rw [z1]
    clear h1
    go_enter Try.func23, Try.ntmps23
    go_wp2
    go_ret
    exact ⟨rfl, rfl⟩

theorem relem_any {id : Int} {r : Bool} (h : RefAt w B rb vL vR l row) (m : RMod l row S) (hr : S.elem id = r) : Calls Try.prog 53 #[ptr rb, i64 id] w fun e w' => e = .returned (.bool r) ∧ w = w' := by
  subst hr
  cases hi : S.is id with
  | false =>
    have he : S.elem id = false := by
      cases hx : S.elem id with
      | false => rfl
      | true => rw [St.elem_is hx] at hi; cases hi
    rw [he]
    have H := Lib.hid (And.intro h (And.intro m hi))
    clear h m hi he
    go_enter Try.func53, Try.ntmps53
    go_wp2_with (first
      | (go_at_call 23; (with_reducible refine (ris_any H.out.1 H.out.2.1 H.out.2.2).mono ?_); rintro e w1 ⟨rfl, rfl⟩))
    go_ret
    exact ⟨rfl, rfl⟩
  | true =>
    obtain ⟨k, rfl, hk⟩ := St.is_nat hi
    obtain ⟨e, hek, hSk⟩ := m.ex' hk
    have he : S.elem (k : Int) = decide (e.nd.kind = 1) := by unfold St.elem; rw [St.get_nat, hSk]
    rw [he]
    obtain ⟨g, c, rfl, hlc, hc9, hkl, _, _, c0, _, d0, _⟩ := h.cells hek
    obtain ⟨n, hn⟩ : ∃ n, l.length = n := ⟨_, rfl⟩
    obtain ⟨ki, hki⟩ : ∃ ki, e.nd.kind = ki := ⟨_, rfl⟩
    have H := Lib.hid (And.intro h (And.intro m hi))
    rw [hn] at c0 hkl hlc
    rw [hki] at d0 ⊢
    clear h m hi he hek hSk hn hki hk
    by_cases hk1 : ki = 1
    · have z : (ki == 1) = true := by simpa using hk1
      rw [decide_eq_true hk1]
      clear hk1
      go_enter Try.func53, Try.ntmps53
      go_wp2_with (first
        | (go_at_call 23; (with_reducible refine (ris_any H.out.1 H.out.2.1 H.out.2.2).mono ?_); rintro e w1 ⟨rfl, rfl⟩))
      go_ret
      exact ⟨rfl, rfl⟩
    · have z : (ki == 1) = false := by simpa using hk1
      rw [decide_eq_false hk1]
      clear hk1
      go_enter Try.func53, Try.ntmps53
      go_wp2_with (first
        | (go_at_call 23; (with_reducible refine (ris_any H.out.1 H.out.2.1 H.out.2.2).mono ?_); rintro e w1 ⟨rfl, rfl⟩))
      go_ret
      exact ⟨rfl, rfl⟩

/-- Where a number stands in the row, or the row's length. -/
theorem rat_any {x : Int} {r : Nat} (h : RefAt w B rb vL vR l row) (hr : row.idxOf x = r) (hl : row.length ≤ 1000000) : Calls Try.prog 56 #[ptr rb, i64 x] w fun e w' => e = .returned (i64 r) ∧ w = w' := by
  have H := Lib.hid (And.intro h hr)
  obtain ⟨ad, c, hv⟩ := own_slice h.rowR
  have c1 := h.blk.cell 1 vR rfl
  obtain ⟨n, hn⟩ : ∃ n, row.length = n := ⟨_, rfl⟩
  rw [hn] at hv hl
  rw [hv] at c1
  have HV := Lib.hid (And.intro hv hn)
  clear h hr hv hn
  go_enter Try.func56, Try.ntmps56
  go_wp2
  go_loop [5, 6, 12] (fun _ _ i => ∃ k : Nat, k ≤ n ∧ i = i64 k ∧ Hid (x ∉ row.take k)) (fun _ _ i => n - (intOf i).toNat)
  case atStart => exact ⟨0, Nat.zero_le _, rfl, Lib.hid (by simp)⟩
  case round =>
    obtain ⟨k, hk, rfl, HK⟩ := hrel
    by_cases hlt : k < n
    · obtain ⟨y, hy⟩ : ∃ y, row[k]? = some y := ⟨_, List.getElem?_eq_getElem (by rw [HV.out.2]; exact hlt)⟩
      obtain ⟨g, c', he, hnc, _, hc⟩ := H.out.1.rcell hy
      rw [HV.out.1, HV.out.2] at he
      simp only [Value.slice.injEq, true_and] at he
      obtain ⟨rfl, rfl⟩ := he
      rw [HV.out.2] at hnc
      have i1 : (0 : Int) ≤ (k : Int) := by omega
      have HY := Lib.hid hy
      clear hy
      by_cases hxy : y = x
      · have z : (y == x) = true := by simpa using hxy
        have hrk : r = k := by
          rw [← H.out.2]
          exact idxOf_at (by rw [← hxy]; exact HY.out) HK.out
        subst hrk
        clear hxy
        go_wp2
        go_ret
        exact ⟨rfl, rfl⟩
      · have z : (y == x) = false := by simpa using hxy
        have hk1 : x ∉ row.take (k + 1) := by
          rw [List.take_add_one, HY.out]
          simp only [List.mem_append]
          rintro (h | h)
          · exact HK.out h
          · simp at h; exact hxy h.symm
        have HK1 := Lib.hid hk1
        clear hxy hk1
        go_wp2
        go_round
        case rel => exact ⟨k + 1, by omega, by go_num, HK1⟩
        case measure => simp [intOf]; omega
    · have hrk : r = n := by
        have h1 := HK.out
        have h2 := HV.out.2
        rw [List.take_of_length_le (by omega)] at h1
        rw [← H.out.2, List.idxOf_eq_length h1, h2]
      subst hrk
      go_wp2
      go_ret
      exact ⟨rfl, rfl⟩
end
end Go.Proofs.Ytdeogkjihmaniaa
