/-
  Entries and lists of them in memory.
  Written by an AI agent.
-/
import Derived.Test.YtjopfgdgmniigaaEnt
namespace Go.Proofs.Ytjopfgdgmniigaa
open Go.RowKit Go.Maps

/-- An entry: mark, ID, name, attributes. -/
structure Ent where
  mark : Bool
  id : Int
  name : ByteArray
  attrs : List Atr

/-- The cells of entries, each with the slice of its attributes. -/
def flatP : List (Ent × Value) → List Value
  | [] => []
  | p :: r => .bool p.1.mark :: i64 p.1.id :: .string p.1.name :: p.2 :: flatP r

theorem flatP_length (ps : List (Ent × Value)) : (flatP ps).length = ps.length * 4 := by
  induction ps with
  | nil => rfl
  | cons p r ih => simp [flatP, ih]; omega
theorem flatP_append (a b : List (Ent × Value)) : flatP (a ++ b) = flatP a ++ flatP b := by
  induction a with
  | nil => rfl
  | cons p r ih => simp [flatP, ih]
theorem flatP_get (ps : List (Ent × Value)) : ∀ (k : Nat) (p : Ent × Value), ps[k]? = some p →
    (flatP ps)[k * 4]? = some (.bool p.1.mark) ∧ (flatP ps)[k * 4 + 1]? = some (i64 p.1.id) ∧ (flatP ps)[k * 4 + 2]? = some (.string p.1.name) ∧ (flatP ps)[k * 4 + 3]? = some p.2 := by
  induction ps with
  | nil => intro k p h; simp at h
  | cons q r ih =>
    intro k p h
    cases k with
    | zero => simp at h; subst h; simp [flatP]
    | succ k =>
      have := ih k p (by simpa using h)
      rw [show (k + 1) * 4 = k * 4 + 1 + 1 + 1 + 1 from by omega]
      simpa [flatP] using this

/-- The row of entries that v points to. -/
def RowE (w : World) (B : Nat) (te : TypeId) (v : Value) (ps : List (Ent × Value)) : Prop :=
  w.ownsRow B te 4 v ps.length (flatP ps) ∧ ps.length ≤ 1000000 ∧ ∀ p ∈ ps, AtrsAt w B p.2 p.1.attrs

/-- A list of entries at block lb. -/
def ListAt (w : World) (B lb : Nat) (tl te : TypeId) (v : Value) (ps : List (Ent × Value)) : Prop :=
  Blk w lb tl #[v] ∧ B ≤ lb ∧ RowE w B te v ps
def ListIs (w : World) (B lb : Nat) (tl te : TypeId) (es : List Ent) : Prop := ∃ v ps, ListAt w B lb tl te v ps ∧ ps.map (·.1) = es

theorem own_below {w w' : World} {base B : Nat} {e : TypeId} {size : Nat} {v : Value} {n : Nat} {xs : List Value} (h : w.ownsRow base e size v n xs) (hb : Below w.heap.size w w') (_hB : B ≤ base) : w'.ownsRow base e size v n xs := by
  refine ⟨h.1, h.2.imp id fun ⟨g, cap, cur, hv, hg, hh, r⟩ => ⟨g, cap, cur, hv, hg, (hb.block g (Array.getElem?_eq_some_iff.1 hh).1).trans hh, r⟩⟩

section
variable {w w' : World} {B lb : Nat} {tl te : TypeId} {v : Value} {ps : List (Ent × Value)}
theorem RowE.below (h : RowE w B te v ps) (hb : Below w.heap.size w w') : RowE w' B te v ps :=
  ⟨own_below h.1 hb (Nat.le_refl _), h.2.1, fun p hp => (h.2.2 p hp).below hb⟩
theorem RowE.fr {B' : Nat} {T : Obj → Bool} (h : RowE w B te v ps) (hf : Fr B' T w w') (hB : B ≤ B') (h60 : ∀ cs fr, T (.cells cs 60 fr) = false) (hte : ∀ cs fr, T (.cells cs te fr) = false) : RowE w' B te v ps :=
  ⟨hf.own h.1 hte, h.2.1, fun p hp => (h.2.2 p hp).fr hf hB h60⟩
theorem ListAt.below (h : ListAt w B lb tl te v ps) (hb : Below w.heap.size w w') : ListAt w' B lb tl te v ps :=
  ⟨(hb.block lb h.1.lt).trans h.1, h.2.1, h.2.2.below hb⟩
theorem ListAt.fr {B' : Nat} {T : Obj → Bool} (h : ListAt w B lb tl te v ps) (hf : Fr B' T w w') (hB : B ≤ B') (h60 : ∀ cs fr, T (.cells cs 60 fr) = false) (hte : ∀ cs fr, T (.cells cs te fr) = false) (htl : ∀ cs fr, T (.cells cs tl fr) = false) : ListAt w' B lb tl te v ps :=
  ⟨hf.blk h.1 (.inr (htl _ _)), h.2.1, h.2.2.fr hf hB h60 hte⟩
theorem ListIs.below {es : List Ent} (h : ListIs w B lb tl te es) (hb : Below w.heap.size w w') : ListIs w' B lb tl te es := by
  obtain ⟨v, ps, h, e⟩ := h
  exact ⟨v, ps, h.below hb, e⟩
theorem ListIs.drewN {es : List Ent} (h : ListIs w B lb tl te es) (n : Nat) : ListIs (w.drewN n) B lb tl te es := h.below (below_drewN (Below.refl _ w) n)
theorem ListIs.drew {es : List Ent} (h : ListIs w B lb tl te es) : ListIs w.drew B lb tl te es := h.below ((Below.refl _ w).drew)

/-- A row, opened. -/
theorem RowE.form (h : RowE w B te v ps) :
    ∃ ad cap, v = .slice ad ps.length cap ∧ ps.length ≤ cap ∧ cap ≤ 9223372036854775807 ∧ (ps ≠ [] → ∃ g, ad = some ⟨g, 0, none⟩ ∧ B ≤ g ∧ g < w.heap.size ∧
      ∀ (k : Nat) (p : Ent × Value), ps[k]? = some p → w.cell? ⟨g, k * 4, none⟩ = some (.bool p.1.mark) ∧ w.cell? ⟨g, k * 4 + 1, none⟩ = some (i64 p.1.id) ∧ w.cell? ⟨g, k * 4 + 2, none⟩ = some (.string p.1.name) ∧ w.cell? ⟨g, k * 4 + 3, none⟩ = some p.2) := by
  rcases h.1.2 with ⟨rfl, hn⟩ | ⟨g, cap, cur, rfl, hb, hg, hn, hm, _, _⟩
  · exact ⟨none, 0, by rw [hn], by omega, by omega, fun hne => absurd (List.length_eq_zero_iff.1 hn) hne⟩
  · refine ⟨_, cap, rfl, hn, hm, fun _ => ⟨g, rfl, hb, (Array.getElem?_eq_some_iff.1 hg).1, fun k p hp => ?_⟩⟩
    have hc := h.1.cells (g := g) rfl
    obtain ⟨f0, f1, f2, f3⟩ := flatP_get ps k p hp
    have e : ∀ j, (⟨g, 0, none⟩ : Addr).add j = ⟨g, j, none⟩ := fun j => by unfold Addr.add; split <;> simp_all
    have h0 := hc _ _ f0
    have h1 := hc _ _ f1
    have h2 := hc _ _ f2
    have h3 := hc _ _ f3
    rw [e] at h0 h1 h2 h3
    exact ⟨h0, h1, h2, h3⟩
end

/-- What the program's lists' methods may turn; what the document's may. -/
abbrev LK : Obj → Bool := kinds [63, 33] false
abbrev DK : Obj → Bool := kinds [30] false

/-- Behind the last mark, told from the end. -/
def partR : List Ent → Nat
  | [] => 0
  | e :: r => if e.mark then r.length + 1 else partR r
def partE (es : List Ent) : Nat := partR es.reverse
def findR (id : Int) : List Ent → Int
  | [] => -1
  | e :: r => if !e.mark && e.id == id then r.length else findR id r
def findE (id : Int) (es : List Ent) : Int := findR id es.reverse
def cutR (opn : List Int) : List Ent → Nat
  | [] => 0
  | e :: r => if e.mark || opn.contains e.id then r.length + 1 else cutR opn r
def cutE (opn : List Int) (es : List Ent) : Nat := cutR opn es.reverse

theorem partR_cons (e : Ent) (r : List Ent) : partR (e :: r) = if e.mark then r.length + 1 else partR r := rfl
theorem findR_cons (id : Int) (e : Ent) (r : List Ent) : findR id (e :: r) = if !e.mark && e.id == id then (r.length : Int) else findR id r := rfl
theorem cutR_cons (opn : List Int) (e : Ent) (r : List Ent) : cutR opn (e :: r) = if e.mark || opn.contains e.id then r.length + 1 else cutR opn r := rfl
theorem partR_le : ∀ es, partR es ≤ es.length
  | [] => Nat.le_refl _
  | e :: r => by
    unfold partR
    have := partR_le r
    split <;> simp <;> omega
theorem partE_le (es : List Ent) : partE es ≤ es.length := by
  have := partR_le es.reverse
  rw [List.length_reverse] at this
  exact this

theorem rev_get {α : Type} {l : List α} {i : Nat} (h : i < l.length) : ∃ x, l[l.length - 1 - i]? = some x ∧ l.reverse.drop i = x :: l.reverse.drop (i + 1) := by
  have hr : i < l.reverse.length := by simpa using h
  refine ⟨l.reverse[i], ?_, List.drop_eq_getElem_cons hr⟩
  rw [List.getElem_reverse]
  exact List.getElem?_eq_getElem _

set_option maxHeartbeats 1000000 in
theorem last_any {w : World} {B lb : Nat} {es : List Ent} (h : ListIs w B lb 63 33 es) : Calls Try.prog 38 #[ptr lb] w fun e w' => e = .returned (i64 (partE es)) ∧ w' = w := by
  obtain ⟨v, ps, ⟨hb, _, hrow⟩, rfl⟩ := h
  obtain ⟨ad, cap, rfl, hnc, hcm, hr⟩ := hrow.form
  obtain ⟨n, hn⟩ : ∃ n, ps.length = n := ⟨_, rfl⟩
  have c0 := hb.cell 0 _ rfl
  have hl := hrow.2.1
  rw [hn] at hnc hl c0
  have HN := Lib.hid hn
  have HR := Lib.hid hr
  clear hb hrow hn hr
  go_enter Try.func38, Try.ntmps38
  go_wp2
  go_loopw [13] (fun i wr => ∃ k : Nat, k ≤ n ∧ i = i64 k ∧ Hid (partE (ps.map (·.1)) = partR ((ps.map (·.1)).reverse.drop k)) ∧ wr = w) (fun i _ => n - (intOf i).toNat)
  case atStart => exact ⟨0, Nat.zero_le _, rfl, Lib.hid rfl, rfl⟩
  case round =>
    obtain ⟨k, hk, rfl, HP, rfl⟩ := hrel
    by_cases hlt : k < n
    · obtain ⟨x, hx, hd⟩ := rev_get (l := ps.map (·.1)) (i := k) (by simp; rw [HN.out]; exact hlt)
      obtain ⟨g, had, _, _, hc⟩ := HR.out (fun e => by have := HN.out; rw [e] at this; simp at this; omega)
      obtain ⟨j, hj⟩ : ∃ j, n - 1 - k = j := ⟨_, rfl⟩
      rw [List.length_map, HN.out, hj, List.getElem?_map] at hx
      obtain ⟨p, hp, rfl⟩ := Option.map_eq_some_iff.1 hx
      obtain ⟨d0, _⟩ := hc j p hp
      have hji : (n : Int) - 1 - (k : Int) = (j : Int) := by omega
      have hjn : j < n := by omega
      obtain ⟨mk, hmk⟩ : ∃ mk, p.1.mark = mk := ⟨_, rfl⟩
      rw [hmk] at d0
      have HD := Lib.hid (And.intro hd hmk)
      have HAD := Lib.hid had
      clear hc hx hp had hd hmk
      rw [HAD.out] at c0 ⊢
      cases mk
      · go_wp2
        go_roundw
        case rel =>
          refine ⟨k + 1, by omega, by go_num, Lib.hid ?_, by trivial⟩
          rw [HP.out, HD.out.1, partR_cons, HD.out.2]; rfl
        case measure => simp [intOf]; omega
      · have hpe : ((n : Int) - (k : Int)) = ((partE (ps.map (·.1)) : Nat) : Int) := by
          rw [HP.out, HD.out.1, partR_cons, HD.out.2]
          have := HN.out
          simp
          omega
        have HPE := Lib.hid hpe
        clear hpe
        go_wp2
        go_ret
        exact ⟨by rw [HPE.out]; rfl, rfl⟩
    · have hkn : k = n := by omega
      have hp0 : partE (ps.map (·.1)) = 0 := by
        rw [HP.out, List.drop_eq_nil_of_le (by simp; have := HN.out; omega)]
        rfl
      have HP0 := Lib.hid hp0
      clear hp0
      go_wp2
      go_ret
      exact ⟨by rw [HP0.out]; rfl, rfl⟩

set_option maxHeartbeats 1000000 in
theorem find_any {w : World} {B lb : Nat} {es : List Ent} (h : ListIs w B lb 63 33 es) (id : Int) : Calls Try.prog 12 #[ptr lb, i64 id] w fun e w' => e = .returned (i64 (findE id es)) ∧ Below w.heap.size w w' := by
  obtain ⟨v, ps, ⟨hb, _, hrow⟩, rfl⟩ := h
  obtain ⟨ad, cap, rfl, hnc, hcm, hr⟩ := hrow.form
  obtain ⟨n, hn⟩ : ∃ n, ps.length = n := ⟨_, rfl⟩
  have c0 := hb.cell 0 _ rfl
  have hlb := hb.lt
  have hl := hrow.2.1
  rw [hn] at hnc hl c0
  have HAT := Lib.hid hrow.2.2
  have HN := Lib.hid hn
  have HR := Lib.hid hr
  clear hb hrow hn hr
  go_enter Try.func12, Try.ntmps12
  go_wp2
  go_loopw [16] (fun i wr => ∃ k : Nat, k ≤ n ∧ i = i64 k ∧ Hid (findE id (ps.map (·.1)) = findR id ((ps.map (·.1)).reverse.drop k)) ∧ Below w.heap.size w wr) (fun i _ => n - (intOf i).toNat)
  case atStart => exact ⟨0, Nat.zero_le _, rfl, Lib.hid rfl, Below.refl _ _⟩
  case round =>
    obtain ⟨k, hk, rfl, HP, hbel⟩ := hrel
    have c0' := (hbel.cell (p := ⟨lb, 0, none⟩) hlb).trans c0
    by_cases hlt : k < n
    · obtain ⟨x, hx, hd⟩ := rev_get (l := ps.map (·.1)) (i := k) (by simp; rw [HN.out]; exact hlt)
      obtain ⟨g, had, _, hg, hc⟩ := HR.out (fun e => by have := HN.out; rw [e] at this; simp at this; omega)
      obtain ⟨j, hj⟩ : ∃ j, n - 1 - k = j := ⟨_, rfl⟩
      rw [List.length_map, HN.out, hj, List.getElem?_map] at hx
      obtain ⟨p, hp, rfl⟩ := Option.map_eq_some_iff.1 hx
      obtain ⟨d0, d1, d2, d3⟩ := hc j p hp
      have e0 := (hbel.cell (p := ⟨g, j * 4, none⟩) hg).trans d0
      have e1 := (hbel.cell (p := ⟨g, j * 4 + 1, none⟩) hg).trans d1
      have e2 := (hbel.cell (p := ⟨g, j * 4 + 2, none⟩) hg).trans d2
      have e3 := (hbel.cell (p := ⟨g, j * 4 + 3, none⟩) hg).trans d3
      have hji : (n : Int) - 1 - (k : Int) = (j : Int) := by omega
      have hjn : j < n := by omega
      obtain ⟨pa, pc, hpv⟩ := (HAT.out p (List.mem_of_getElem? hp)).form
      obtain ⟨⟨mk, pid, pnm, pat⟩, pv⟩ := p
      simp only at hpv
      subst hpv
      simp only at e0 e1 e2 e3
      have HD := Lib.hid hd
      have HAD := Lib.hid had
      have HBE := Lib.hid hbel
      clear hc hx hp had hd d0 d1 d2 d3 hbel c0
      rw [HAD.out] at c0' ⊢
      cases mk
      · by_cases hid : pid = id
        · have n1 : (pid == id) = true := by simpa using hid
          have hpe : ((n : Int) - 1 - (k : Int)) = findE id (ps.map (·.1)) := by
            rw [HP.out, HD.out, findR_cons]
            simp only [Bool.not_false, Bool.true_and, n1, if_true]
            have := HN.out
            simp
            omega
          have HPE := Lib.hid hpe
          clear hpe hid
          go_wp2
          go_ret
          exact ⟨by rw [← HPE.out, hji]; rfl, HBE.out.alloc HBE.out.size _⟩
        · have n1 : (pid == id) = false := by simpa using hid
          clear hid
          go_wp2
          go_roundw
          case rel =>
            refine ⟨k + 1, by omega, by go_num, Lib.hid ?_, HBE.out.alloc HBE.out.size _⟩
            rw [HP.out, HD.out]
            rw [findR_cons]
            simp [n1]
          case measure => simp [intOf]; omega
      · go_wp2
        go_roundw
        case rel =>
          refine ⟨k + 1, by omega, by go_num, Lib.hid ?_, HBE.out.alloc HBE.out.size _⟩
          rw [HP.out, HD.out, findR_cons]
          simp
        case measure => simp [intOf]; omega
    · have hkn : k = n := by omega
      have hp0 : findE id (ps.map (·.1)) = -1 := by
        rw [HP.out, List.drop_eq_nil_of_le (by simp; have := HN.out; omega)]
        rfl
      have HP0 := Lib.hid hp0
      clear hp0
      go_wp2
      go_ret
      exact ⟨by rw [HP0.out]; rfl, hbel⟩
end Go.Proofs.Ytjopfgdgmniigaa
