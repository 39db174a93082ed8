/-
  Many steps: what they leave of the nodes (texts short, parents elements); the slice of steps read as a list; rectolaw11.long,
  rectoref11.New, walked.
  Written by an AI agent; 'open_slice_fields' is the guides' own block (extra-structs.md), copied as it says.
-/
import Derived.Test.YtdeogkjihmaniaaDoes
import Derived.Test.YtdeogkjihmaniaaLawNil
import Derived.Deep.Slices
import Derived.Deep.Fields
namespace Go.Proofs.Ytdeogkjihmaniaa
open Go.RowKit

/-! ### What steps leave -/
def TxtB (S : St) (T : Nat) : Prop := ∀ nd ∈ S.l, nd.text.size ≤ T
def kis (l : List Nd) : List Int := l.map (·.kind)
theorem set_map_same {l : List Int} {k : Nat} {x : Int} (h : l[k]? = some x) : l.set k x = l := by
  apply List.ext_getElem?
  intro j
  rw [List.getElem?_set]
  split
  · rename_i e; subst e
    rw [if_pos (List.getElem?_eq_some_iff.1 h).1, h]
  · rfl
/-- Parents are elements. -/
def PE (S : St) : Prop := ∀ (k p : Nat), S.ps[k]? = some (p : Int) → (kis S.l)[p]? = some 1

theorem TxtB.mono {S : St} {T T' : Nat} (h : TxtB S T) (hT : T ≤ T') : TxtB S T' := fun nd hn => Nat.le_trans (h nd hn) hT
theorem mem_setPar {l : List Nd} {id : Nat} {p : Int} {nd : Nd} (h : nd ∈ St.setPar l id p) : ∃ nd0 ∈ l, nd.text = nd0.text := by
  unfold St.setPar at h
  cases hk : l[id]? with
  | none => rw [hk] at h; exact ⟨nd, h, rfl⟩
  | some e =>
    rw [hk] at h
    rcases List.mem_or_eq_of_mem_set h with h | rfl
    · exact ⟨nd, h, rfl⟩
    · exact ⟨e, List.mem_of_getElem? hk, rfl⟩
theorem TxtB.par {S : St} {T : Nat} (h : TxtB S T) (id : Nat) (p : Int) (row : List Int) : TxtB ⟨St.setPar S.l id p, row⟩ T := fun nd hn => by
  obtain ⟨nd0, h0, e⟩ := mem_setPar hn
  rw [e]; exact h nd0 h0
theorem TxtB.put {S : St} {T : Nat} (h : TxtB S T) (n id : Nat) (p : Int) : TxtB (S.put n id p) T := h.par id p _
theorem TxtB.loosen {S : St} {T : Nat} (h : TxtB S T) (id : Nat) : TxtB (S.loosen id) T := h.par id (-1) _
theorem TxtB.add {S : St} {T : Nat} (h : TxtB S T) {nd : Nd} (hn : nd.text.size ≤ T) : TxtB (S.add nd) T := fun x hx => by
  rcases List.mem_append.1 (show x ∈ S.l ++ [nd] from hx) with h1 | h1
  · exact h x h1
  · rw [List.mem_singleton.1 h1]; exact hn
theorem TxtB.text {S : St} {T m : Nat} (h : TxtB S T) (id : Nat) {s : ByteArray} (hs : s.size ≤ m) : TxtB (S.text id s) (T + m) := fun nd hn => by
  have hn' : nd ∈ St.setText S.l id s := hn
  unfold St.setText at hn'
  cases hk : S.l[id]? with
  | none => rw [hk] at hn'; exact Nat.le_trans (h nd hn') (Nat.le_add_right _ _)
  | some e =>
    rw [hk] at hn'
    rcases List.mem_or_eq_of_mem_set hn' with h1 | rfl
    · exact Nat.le_trans (h nd h1) (Nat.le_add_right _ _)
    · have := h e (List.mem_of_getElem? hk)
      simp only [ByteArray.size_append]; omega
theorem TxtB.fresh {S : St} {T m : Nat} (h : TxtB S T) (p n : Nat) {s : ByteArray} (hs : s.size ≤ m) : TxtB (S.fresh p n s).2 (T + m) := by
  unfold St.fresh
  split
  · exact h.mono (Nat.le_add_right _ _)
  · exact ((h.mono (Nat.le_add_right T m)).add (by simp only; omega)).put _ _ _
theorem TxtB.write {S : St} {T m : Nat} (h : TxtB S T) (p at_ n : Nat) {s : ByteArray} (hs : s.size ≤ m) : TxtB (S.write p at_ n s).2 (T + m) := by
  unfold St.write
  split
  · split
    · split
      · exact h.text _ hs
      · exact h.fresh _ _ hs
    · exact h.fresh _ _ hs
  · exact h.fresh _ _ hs
theorem TxtB.gives {T : Nat} (ks : List Int) (q : Nat) : ∀ {S : St}, TxtB S T → TxtB (S.gives ks q) T := by
  induction ks with
  | nil => exact fun h => h
  | cons k r ih => exact fun h => ih ((h.loosen k.toNat).put _ _ _)

theorem TxtB.step {S : St} {T : Nat} (h : TxtB S T) {x : Stp} (hs : x.s.size ≤ 50) : TxtB (S.step x) (T + 50) := by
  have h' := h.mono (Nat.le_add_right T 50)
  unfold St.step
  split
  · split
    · exact h'
    · exact h'.add (Nat.zero_le _)
  split
  · split
    · exact h'
    · exact h'.add (by simp [newN]; omega)
  split
  · unfold St.app
    split
    · split
      · exact h'.put _ _ _
      · exact h'
    · exact h'
  split
  · unfold St.bef
    split
    · split
      · exact h'.put _ _ _
      · exact h'
    · exact h'
  split
  · unfold St.det
    split
    · split
      · exact h'
      · exact h'.loosen _
    · exact h'
  split
  · unfold St.give
    split
    · split
      · exact h'
      · exact TxtB.gives _ _ h'
    · exact h'
  split
  · unfold St.words
    split
    · exact h.write _ _ _ hs
    · exact h'
  split
  · unfold St.wordsB
    split
    · split
      · exact h'
      · exact h.write _ _ _ hs
    · exact h'
  exact h'

theorem kis_setPar (l : List Nd) (id : Nat) (p : Int) : kis (St.setPar l id p) = kis l := by
  unfold St.setPar
  cases hk : l[id]? with
  | none => rfl
  | some e =>
    unfold kis
    dsimp only
    rw [List.map_set]
    exact set_map_same (by rw [List.getElem?_map, hk]; rfl)
theorem kis_setText (l : List Nd) (id : Nat) (s : ByteArray) : kis (St.setText l id s) = kis l := by
  unfold St.setText
  cases hk : l[id]? with
  | none => rfl
  | some e =>
    unfold kis
    dsimp only
    rw [List.map_set]
    exact set_map_same (by rw [List.getElem?_map, hk]; rfl)
theorem PE.put {S : St} (h : PE S) {n id p : Nat} (hp : (kis S.l)[p]? = some 1) : PE (S.put n id p) := fun k q hk => by
  rw [put_ps, List.getElem?_set] at hk
  show (kis (St.setPar S.l id p))[q]? = some 1
  rw [kis_setPar]
  split at hk
  · split at hk
    · simp only [Option.some.injEq] at hk
      obtain rfl : p = q := by omega
      exact hp
    · cases hk
  · exact h k q hk
theorem PE.loosen {S : St} (h : PE S) (id : Nat) : PE (S.loosen id) := fun k q hk => by
  rw [loosen_ps, List.getElem?_set] at hk
  show (kis (St.setPar S.l id (-1)))[q]? = some 1
  rw [kis_setPar]
  split at hk
  · split at hk
    · simp only [Option.some.injEq] at hk; omega
    · cases hk
  · exact h k q hk
theorem kis_put (S : St) (n id : Nat) (p : Int) : kis (S.put n id p).l = kis S.l := kis_setPar _ _ _
theorem kis_loosen (S : St) (id : Nat) : kis (S.loosen id).l = kis S.l := kis_setPar _ _ _
theorem PE.add {S : St} (h : PE S) {nd : Nd} (hp : nd.par = -1) : PE (S.add nd) := fun k q hk => by
  have hk' : ((S.l ++ [nd]).map (·.par))[k]? = some (q : Int) := hk
  rw [List.map_append] at hk'
  show ((S.l ++ [nd]).map (·.kind))[q]? = some 1
  rcases Nat.lt_or_ge k S.l.length with hl | hl
  · rw [List.getElem?_append_left (by simpa using hl)] at hk'
    have := h k q hk'
    unfold kis at this
    rw [List.map_append, List.getElem?_append_left (List.getElem?_eq_some_iff.1 this).1]
    exact this
  · rw [List.getElem?_append_right (by simpa using hl)] at hk'
    have := List.mem_of_getElem? hk'
    rw [List.map_cons, List.map_nil, List.mem_singleton, hp] at this
    omega
theorem PE.text {S : St} (h : PE S) (id : Nat) (s : ByteArray) : PE (S.text id s) := fun k q hk => by
  rw [text_ps] at hk
  show (kis (St.setText S.l id s))[q]? = some 1
  rw [kis_setText]
  exact h k q hk
theorem PE.fresh {S : St} (h : PE S) {p : Nat} (n : Nat) (s : ByteArray) (hp : (kis S.l)[p]? = some 1) : PE (S.fresh p n s).2 := by
  unfold St.fresh
  split
  · exact h
  · refine (h.add rfl).put ?_
    unfold kis at hp
    show (List.map Nd.kind (S.l ++ [(_ : Nd)]))[p]? = some 1
    rw [List.map_append, List.getElem?_append_left (List.getElem?_eq_some_iff.1 hp).1]
    exact hp
theorem PE.write {S : St} (h : PE S) {p : Nat} (at_ n : Nat) (s : ByteArray) (hp : (kis S.l)[p]? = some 1) : PE (S.write p at_ n s).2 := by
  unfold St.write
  split
  · split
    · split
      · exact h.text _ _
      · exact h.fresh _ _ hp
    · exact h.fresh _ _ hp
  · exact h.fresh _ _ hp
theorem PE.gives (ks : List Int) (q : Nat) : ∀ {S : St}, PE S → (kis S.l)[q]? = some 1 → PE (S.gives ks q) := by
  induction ks with
  | nil => exact fun h _ => h
  | cons k r ih => exact fun h hp => ih ((h.loosen k.toNat).put (by rw [kis_loosen]; exact hp)) (by rw [show kis (St.move _ q k).l = _ from kis_put _ _ _ _, kis_loosen]; exact hp)
theorem elem_kis {S : St} {p : Int} (h : S.elem p = true) : 0 ≤ p ∧ (kis S.l)[p.toNat]? = some 1 := by
  unfold St.elem St.get at h
  split at h
  · rename_i nd hnd
    split at hnd
    · rename_i hp
      refine ⟨hp, ?_⟩
      unfold kis
      rw [List.getElem?_map, hnd]
      simpa using h
    · cases hnd
  · cases h
theorem par_kis {S : St} (h : PE S) (g : Good S) {q : Int} (hq : parN S.ps q ≠ -1) : 0 ≤ parN S.ps q ∧ (kis S.l)[(parN S.ps q).toNat]? = some 1 := by
  unfold parN at hq ⊢
  split at hq
  · exact absurd rfl hq
  · rename_i h0
    rw [if_neg h0]
    rw [List.getD_eq_getElem?_getD] at hq ⊢
    cases hk : S.ps[q.toNat]? with
    | none => rw [hk] at hq; exact absurd rfl hq
    | some r =>
      rw [hk] at hq
      simp only [Option.getD_some] at hq ⊢
      rcases g.pg.rng _ _ hk with h1 | ⟨p, rfl, _⟩
      · exact absurd h1 hq
      · exact ⟨by omega, h _ _ hk⟩

theorem PE.step {S : St} (h : PE S) (g : Good S) (x : Stp) : PE (S.step x) := by
  unfold St.step
  split
  · split
    · exact h
    · exact h.add rfl
  split
  · split
    · exact h
    · exact h.add rfl
  split
  · unfold St.app
    split
    · rename_i he
      split
      · obtain ⟨h0, h1⟩ := elem_kis ((Bool.and_eq_true _ _).mp he).1
        have := h.put (n := S.row.length) (id := x.b.toNat) h1
        rw [Int.toNat_of_nonneg h0] at this
        exact this
      · exact h
    · exact h
  split
  · unfold St.bef
    split
    · split
      · rename_i hb
        obtain ⟨h0, h1⟩ := par_kis h g (q := x.a) (by simpa using ((Bool.and_eq_true _ _).mp hb).1)
        have := h.put (n := S.row.idxOf x.a) (id := x.b.toNat) h1
        rw [Int.toNat_of_nonneg h0] at this
        exact this
      · exact h
    · exact h
  split
  · unfold St.det
    split
    · split
      · exact h
      · exact h.loosen _
    · exact h
  split
  · unfold St.give
    split
    · rename_i he
      split
      · exact h
      · exact PE.gives _ _ h (elem_kis ((Bool.and_eq_true _ _).mp he).2).2
    · exact h
  split
  · unfold St.words
    split
    · rename_i he
      exact h.write _ _ _ (elem_kis ((Bool.and_eq_true _ _).mp he).1).2
    · exact h
  split
  · unfold St.wordsB
    split
    · split
      · exact h
      · rename_i hb
        exact h.write _ _ _ (par_kis h g hb).2
    · exact h
  exact h

/-- Ahead of the k-th step. -/
def stepsOf (l : List Stp) (k : Nat) : St := (l.take k).foldl St.step S0
theorem stepsOf_succ {l : List Stp} {k : Nat} {x : Stp} (h : l[k]? = some x) : stepsOf l (k + 1) = (stepsOf l k).step x := by
  unfold stepsOf
  rw [List.take_add_one, h]
  simp
/-- What holds of the state, k steps on. -/
structure Inv (S : St) (k : Nat) : Prop where
  good : Good S
  txt : TxtB S (50 * k)
  pe : PE S
theorem inv0 : Inv S0 0 := ⟨good0, fun nd h => by
  rw [List.mem_singleton.1 (show nd ∈ [_] from h)]; exact Nat.zero_le _, fun k p hk => by
  cases k with
  | zero => simp [S0, St.ps] at hk
  | succ k => simp [S0, St.ps] at hk⟩
theorem Inv.step {S : St} {k : Nat} (h : Inv S k) {x : Stp} (hs : x.s.size ≤ 50) : Inv (S.step x) (k + 1) :=
  ⟨h.good.step x, by have := h.txt.step hs; rw [show 50 * (k + 1) = 50 * k + 50 from by omega]; exact this, h.pe.step h.good x⟩
theorem Inv.short {S : St} {k : Nat} (h : Inv S k) (hk : k ≤ 61) : Short S := fun nd hn => by
  have := h.txt nd hn
  unfold TB; omega

/-! ### The slice of steps -/
/-- The slice v reads as these steps. -/
def StepsAt (w : World) (v : Value) (l : List Stp) : Prop :=
  ∃ ad c, v = .slice ad l.length c ∧ l.length ≤ 9223372036854775807 ∧ (l ≠ [] → ∃ g off, ad = some ⟨g, off, none⟩ ∧ g < w.heap.size ∧ ∀ (k : Nat) (x : Stp), l[k]? = some x →
    w.cell? ⟨g, off + k * 4, none⟩ = some (i64 x.what) ∧ w.cell? ⟨g, off + k * 4 + 1, none⟩ = some (i64 x.a) ∧ w.cell? ⟨g, off + k * 4 + 2, none⟩ = some (i64 x.b) ∧ w.cell? ⟨g, off + k * 4 + 3, none⟩ = some (.string x.s))

theorem StepsAt.below {w w' : World} {v : Value} {l : List Stp} (h : StepsAt w v l) (hb : Below w.heap.size w w') : StepsAt w' v l := by
  obtain ⟨ad, c, hv, hl, hr⟩ := h
  refine ⟨ad, c, hv, hl, fun hne => ?_⟩
  obtain ⟨g, off, ha, hg, hc⟩ := hr hne
  refine ⟨g, off, ha, Nat.lt_of_lt_of_le hg hb.size, fun k x hx => ?_⟩
  obtain ⟨h1, h2, h3, h4⟩ := hc k x hx
  exact ⟨(hb.cell (p := ⟨g, off + k * 4, none⟩) hg).trans h1, (hb.cell (p := ⟨g, off + k * 4 + 1, none⟩) hg).trans h2, (hb.cell (p := ⟨g, off + k * 4 + 2, none⟩) hg).trans h3, (hb.cell (p := ⟨g, off + k * 4 + 3, none⟩) hg).trans h4⟩

def longB (l : List Stp) : Bool := decide (61 < l.length) || l.any fun x => decide (50 < x.s.size)
theorem longB_false {l : List Stp} (h : longB l = false) : l.length ≤ 61 ∧ ∀ (k : Nat) (x : Stp), l[k]? = some x → x.s.size ≤ 50 := by
  unfold longB at h
  rw [Bool.or_eq_false_iff] at h
  refine ⟨by have := of_decide_eq_false h.1; omega, fun k x hx => ?_⟩
  have := List.any_eq_false.1 h.2 x (List.mem_of_getElem? hx)
  simp at this
  exact this

set_option maxHeartbeats 2000000 in
theorem long_any {w : World} {v : Value} {l : List Stp} (h : StepsAt w v l) :
    Calls Try.prog 19 #[v] w fun e w' => e = .returned (.bool (longB l)) ∧ Below w.heap.size w w' := by
  obtain ⟨ad, c, rfl, hl, hr⟩ := h
  obtain ⟨n, hn⟩ : ∃ n, l.length = n := ⟨_, rfl⟩
  obtain ⟨r, hlr⟩ : ∃ r, longB l = r := ⟨_, rfl⟩
  rw [hn] at hl ⊢
  rw [hlr]
  have HN := Lib.hid hn
  have HL := Lib.hid hlr
  have HR := Lib.hid hr
  clear hn hlr hr
  go_enter Try.func19, Try.ntmps19
  go_wp2
  go_loopw [7] (fun i wr => ∃ k : Nat, k ≤ n ∧ i = i64 k ∧ Below w.heap.size w wr ∧ Hid (k ≤ 61 ∧ ∀ j x, j < k → l[j]? = some x → x.s.size ≤ 50)) (fun i _ => n - (intOf i).toNat)
  case atStart => exact ⟨0, Nat.zero_le _, rfl, Below.refl _ _, ⟨by omega, fun j x hj => by omega⟩⟩
  case round =>
    obtain ⟨k, hk, rfl, hbel, HK⟩ := hrel
    by_cases hlt : k < n
    · obtain ⟨x, hx⟩ : ∃ x, l[k]? = some x := ⟨_, List.getElem?_eq_getElem (by rw [HN.out]; exact hlt)⟩
      obtain ⟨g, off, had, hg, hc⟩ := HR.out (fun e => by have := HN.out; rw [e] at this; simp at this; omega)
      obtain ⟨d0, d1, d2, d3⟩ := hc k x hx
      have e0 := (hbel.cell (p := ⟨g, off + k * 4, none⟩) hg).trans d0
      have e1 := (hbel.cell (p := ⟨g, off + k * 4 + 1, none⟩) hg).trans d1
      have e2 := (hbel.cell (p := ⟨g, off + k * 4 + 2, none⟩) hg).trans d2
      have e3 := (hbel.cell (p := ⟨g, off + k * 4 + 3, none⟩) hg).trans d3
      have HX := Lib.hid hx
      have HAD := Lib.hid had
      clear hc hx had d0 d1 d2 d3
      rw [HAD.out]
      by_cases h100 : (60 : Int) < (k : Int)
      · have ht : r = true := by
          rw [← HL.out, longB]
          have := HN.out
          rw [decide_eq_true (by omega)]; rfl
        have HT := Lib.hid ht
        clear ht
        go_wp2
        go_ret
        exact ⟨by rw [HT.out]; rfl, hbel.alloc hbel.size _⟩
      · by_cases hs : (50 : Int) < (x.s.size : Int)
        · have ht : r = true := by
            rw [← HL.out, longB]
            have h1 : l.any (fun x => decide (50 < x.s.size)) = true := List.any_eq_true.2 ⟨x, List.mem_of_getElem? HX.out, by simp; omega⟩
            rw [h1]; simp
          have HT := Lib.hid ht
          clear ht
          go_wp2
          go_ret
          exact ⟨by rw [HT.out]; rfl, hbel.alloc hbel.size _⟩
        · go_wp2
          go_roundw
          case rel =>
            refine ⟨k + 1, by omega, by go_num, hbel.alloc hbel.size _, by omega, fun j y hj hy => ?_⟩
            by_cases e : j = k
            · subst e
              rw [HX.out] at hy
              obtain rfl := Option.some.inj hy
              omega
            · exact HK.out.2 j y (by omega) hy
          case measure => simp [intOf]; omega
    · have ht : r = false := by
        rw [← HL.out, longB]
        have h1 := HK.out
        have h2 := HN.out
        rw [decide_eq_false (by omega)]
        simp only [Bool.false_or]
        rw [List.any_eq_false]
        intro x hx
        obtain ⟨j, hj, rfl⟩ := List.getElem_of_mem hx
        have := h1.2 j _ (by omega) (List.getElem?_eq_getElem hj)
        simp; omega
      have HT := Lib.hid ht
      clear ht
      go_wp2
      go_ret
      exact ⟨by rw [HT.out]; rfl, hbel⟩

/-! ### The document's arena, new -/
def root0 : Ro := ⟨⟨1, 0, ⟨#[]⟩, [], ⟨#[]⟩, -1⟩, .slice none 0 0⟩
theorem rnew_any (w : World) : Calls Try.prog 20 #[] w fun e w' => e = .returned (ptr (w.heap.size + 1)) ∧ (∃ v, RefAt w' w.heap.size (w.heap.size + 1) v (.slice none 0 0) [root0] []) ∧ Below w.heap.size w w' := by
  go_enter Try.func20, Try.ntmps20
  go_wp2
  go_ret
  refine ⟨by simp [ptr], ⟨.slice (some ⟨w.heap.size, 0, none⟩) 1 1, ?_⟩, ((Below.refl _ w).alloc (Nat.le_refl _) _).alloc (by simp) _⟩
  have hb := Blk.new (w.alloc (.cells (cellsO root0).toArray 57)) 53 #[.slice (some ⟨w.heap.size, 0, none⟩) 1 1, .slice none 0 0]
  simp only [World.size_alloc] at hb
  refine ⟨hb, by simp, ?_, World.ownsRow_nil _ _ _ _, ?_⟩
  · exact (World.ownsRow_lit w (cellsO root0).toArray 1 (Nat.le_refl _) (by unfold maxLen; omega) rfl).alloc _
  · intro e he
    simp at he
    subst he
    exact AtrsAt.nil _ _

/-! ### The argument, opened -/
open Go.ChangeShapes Go.WideShapes Go.Deep
section
variable {H : Type} {enc : TypeId × Value → H} {P : Program} {w : World} {base : Nat} {spare : Nat → Bool} {held : Bool}
theorem open_slice_fields {t e : TypeId} {fs : Array Field} {fuel : Nat} {cs : List Value} {x : DataW H × List MemPlace} (ht : P.underlying t = some (.slice e)) (he : P.underlying e = some (.struct fs))
    (hone : oneCellFields P fs = true) (hC : P.cellsOf e = fs.size) (h : DataW.trod enc P w base spare held fuel t cs = some x) :
    (cs = [.slice none 0 0] ∧ x = (.nil, [])) ∨
    ∃ (a : Addr) (len cap m : Nat) (D : Nat → DataW H) (Pl : Nat → List MemPlace), cs = [.slice (some a) len cap] ∧ base ≤ a.block ∧ len ≤ cap ∧ cap ≤ maxLen ∧ m = (if spare a.block then cap else len) ∧
      x = (.slice ((List.range len).map D) ((List.range (m - len)).map fun j => D (len + j)), MemPlace.row a (m * fs.size) ++ (List.range m).flatMap Pl) ∧
      ∀ i, i < m → ∃ (ys : List (DataW H × List MemPlace)) (n : Nat), D i = .agg (ys.map (·.1)) ∧ Pl i = ys.flatMap (·.2) ∧ ys.length = fs.size ∧
        ∀ (j : Nat) (f : Field), fs[j]? = some f → ∃ (v : Value) (y : DataW H × List MemPlace), w.cell? (a.add (i * fs.size + j)) = some v ∧ ys[j]? = some y ∧ DataW.trod enc P w base spare held n f.type [v] = some y := by
  rcases open_slice ht h with h0 | ⟨a, len, cap, m, n, D, Pl, hcs, hb, hl, hm, hmm, hx, hi⟩
  · exact .inl h0
  · refine .inr ⟨a, len, cap, m, D, Pl, hcs, hb, hl, hm, hmm, by rw [hC] at hx; exact hx, fun i him => ?_⟩
    obtain ⟨cs', hc, ht'⟩ := hi i him
    rw [hC] at hc
    obtain ⟨ys, n', hn', hy, hlen, hyl, hf⟩ := DataW.trod_struct he ht'
    obtain ⟨_, hcl, hat⟩ := World.cells?_some hc
    simp only [Prod.mk.injEq] at hy
    refine ⟨ys, n', hy.1, hy.2, hyl, fun j f hj => ?_⟩
    obtain ⟨ho, hk⟩ := hone_of hone j f hj
    have hjl : j < fs.size := (Array.getElem?_eq_some_iff.1 hj).1
    have hcell := hat j hjl
    have hv : cs'[j]? = some (cs'[j]'(by omega)) := List.getElem?_eq_getElem (by omega)
    have h1 := hf j f hj
    rw [ho, hk] at h1
    have hone' : (cs'.drop j).take 1 = [cs'[j]'(by omega)] := by
      rw [List.drop_eq_getElem_cons (by omega)]
      rfl
    rw [hone'] at h1
    have hys : ys[j]? = some (ys[j]'(by omega)) := List.getElem?_eq_getElem (by omega)
    refine ⟨_, _, ?_, hys, h1.trans hys⟩
    rw [← Go.Deep.add_add, hcell, hv]
end

theorem cell_some {w : World} {a : Addr} {v : Value} (h : w.cell? a = some v) : a.spot = none ∧ a.block < w.heap.size := by
  unfold World.cell? at h
  cases hb : w.heap[a.block]? with
  | none => simp [hb] at h
  | some o =>
    refine ⟨?_, (Array.getElem?_eq_some_iff.1 hb).1⟩
    rw [hb] at h
    cases o with
    | cells c e fr =>
      cases hs : a.spot with
      | none => rfl
      | some y => simp [hs] at h
    | _ => simp at h

/-- The argument, opened: a list of steps, whose numbers are numbers. -/
theorem open_steps {H : Type} {enc : TypeId × Value → H} {W : World} {spare : Nat → Bool} {held : Bool} {v : Value} {d : DataW H} {ps : List MemPlace}
    {r : Reach} {b0 : Nat} (hv : Value.okWide Try.prog W r b0 44 v) (h : DataW.Trod enc Try.prog W 0 spare held 44 v d ps) :
    ∃ l : List Stp, StepsAt W v l := by
  obtain ⟨av, lv, cv, rfl⟩ := okWide_slice Try.underlying44 hv
  have hc1 : ∀ c, (Value.slice av lv cv).cells.toList = [c] → Value.slice av lv cv = c := fun c h => List.singleton_inj.1 h
  obtain ⟨fuel, hf⟩ := h
  rcases open_slice_fields Try.underlying44 Try.underlying49 (by kernel_rfl) (by kernel_rfl) hf with ⟨hcs, _⟩ | ⟨a, len, cap, m, D, Pl, hcs, _, hl, hm, hmm, _, hi⟩
  · rw [hc1 _ hcs]
    exact ⟨[], ⟨none, 0, rfl, by simp, fun h => absurd rfl h⟩⟩
  · rw [hc1 _ hcs]
    have hlm : len ≤ m := by rw [hmm]; split <;> omega
    have hex : ∀ i, i < len → ∃ x : Stp, W.cell? (a.add (i * 4)) = some (i64 x.what) ∧ W.cell? (a.add (i * 4 + 1)) = some (i64 x.a) ∧ W.cell? (a.add (i * 4 + 2)) = some (i64 x.b) ∧ W.cell? (a.add (i * 4 + 3)) = some (.string x.s) := by
      intro i hi'
      obtain ⟨ys, n, _, _, _, hfld⟩ := hi i (by omega)
      obtain ⟨v0, y0, c0, _, t0⟩ := hfld 0 _ rfl
      obtain ⟨v1, y1, c1, _, t1⟩ := hfld 1 _ rfl
      obtain ⟨v2, y2, c2, _, t2⟩ := hfld 2 _ rfl
      obtain ⟨v3, y3, c3, _, t3⟩ := hfld 3 _ rfl
      obtain ⟨n0, e0, _, _⟩ := DataW.trod_int Try.underlying3 t0
      obtain ⟨n1, e1, _, _⟩ := DataW.trod_int Try.underlying3 t1
      obtain ⟨n2, e2, _, _⟩ := DataW.trod_int Try.underlying3 t2
      obtain ⟨s3, e3, _, _⟩ := DataW.trod_string Try.underlying9 t3
      obtain rfl := List.singleton_inj.1 e0
      obtain rfl := List.singleton_inj.1 e1
      obtain rfl := List.singleton_inj.1 e2
      obtain rfl := List.singleton_inj.1 e3
      exact ⟨⟨n0, n1, n2, s3⟩, c0, c1, c2, c3⟩
    let f : Nat → Stp := fun i => if h : i < len then (hex i h).choose else ⟨0, 0, 0, ⟨#[]⟩⟩
    have hf' : ∀ i, i < len → W.cell? (a.add (i * 4)) = some (i64 (f i).what) ∧ W.cell? (a.add (i * 4 + 1)) = some (i64 (f i).a) ∧ W.cell? (a.add (i * 4 + 2)) = some (i64 (f i).b) ∧ W.cell? (a.add (i * 4 + 3)) = some (.string (f i).s) := by
      intro i h
      have : f i = (hex i h).choose := by simp only [f]; rw [dif_pos h]
      rw [this]
      exact (hex i h).choose_spec
    refine ⟨(List.range len).map f, ⟨some a, cap, by simp, ?_, ?_⟩⟩
    · simp; exact Nat.le_trans hl hm
    · intro hne
      have hl0 : 0 < len := by
        rcases Nat.eq_zero_or_pos len with h | h
        · rw [h] at hne; simp at hne
        · exact h
      have h0 := cell_some (hf' 0 hl0).1
      simp only [Nat.zero_mul, Addr.add, if_true] at h0
      obtain ⟨g, off, sp⟩ := a
      obtain ⟨rfl, hg⟩ := h0
      refine ⟨g, off, rfl, hg, fun k x hx => ?_⟩
      rw [List.getElem?_map] at hx
      have hk : k < len := by
        rcases Nat.lt_or_ge k len with h | h
        · exact h
        · rw [List.getElem?_eq_none (by simpa using h)] at hx; simp at hx
      rw [List.getElem?_range hk] at hx
      simp only [Option.map_some, Option.some.injEq] at hx
      subst hx
      have ha : ∀ q, (⟨g, off, none⟩ : Addr).add q = ⟨g, off + q, none⟩ := fun q => by unfold Addr.add; split <;> simp_all
      have := hf' k hk
      simp only [ha] at this
      exact this
end Go.Proofs.Ytdeogkjihmaniaa
