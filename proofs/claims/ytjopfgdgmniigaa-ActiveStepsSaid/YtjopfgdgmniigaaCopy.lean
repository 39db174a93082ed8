/-
  slices.Clone at attributes, Entry.copied, walked.
  Written by an AI agent.
-/
import Derived.Test.YtjopfgdgmniigaaRow
import Derived.Laws.AppendOwn
import Derived.Laws.Rows
namespace Go.Proofs.Ytjopfgdgmniigaa
open Go.RowKit Go.Maps

def flatA : List Atr → List Value
  | [] => []
  | x :: r => .string x.1 :: .string x.2 :: flatA r
theorem flatA_length (l : List Atr) : (flatA l).length = l.length * 2 := by
  induction l with
  | nil => rfl
  | cons x r ih => simp [flatA, ih]; omega
theorem flatA_get (l : List Atr) : ∀ (k : Nat) (h : k < l.length), (flatA l)[k * 2]? = some (.string l[k].1) ∧ (flatA l)[k * 2 + 1]? = some (.string l[k].2) := by
  induction l with
  | nil => intro k h; simp at h
  | cons x r ih =>
    intro k h
    cases k with
    | zero => simp [flatA]
    | succ k =>
      have := ih k (by simpa using h)
      rw [show (k + 1) * 2 = k * 2 + 1 + 1 from by omega]
      simpa [flatA] using this
theorem flatA_one (l : List Atr) : ∀ u ∈ flatA l, u.oneCell' = true := by
  induction l with
  | nil => simp [flatA]
  | cons x r ih =>
    intro u hu
    simp only [flatA, List.mem_cons] at hu
    rcases hu with rfl | rfl | hu
    · rfl
    · rfl
    · exact ih u hu
theorem flatA_split (l : List Atr) (j : Nat) (u : Value) (h : (flatA l)[j]? = some u) : ∃ k x, l[k]? = some x ∧ ((j = k * 2 ∧ u = .string x.1) ∨ (j = k * 2 + 1 ∧ u = .string x.2)) := by
  have hj : j < l.length * 2 := by
    have := (List.getElem?_eq_some_iff.1 h).1
    rwa [flatA_length] at this
  have hk : j / 2 < l.length := by omega
  obtain ⟨f1, f2⟩ := flatA_get l (j / 2) hk
  refine ⟨j / 2, l[j / 2], List.getElem?_eq_getElem hk, ?_⟩
  rcases Nat.mod_two_eq_zero_or_one j with hm | hm
  · left
    have e : j = j / 2 * 2 := by omega
    rw [← e, h] at f1
    exact ⟨e, Option.some.inj f1⟩
  · right
    have e : j = j / 2 * 2 + 1 := by omega
    rw [← e, h] at f2
    exact ⟨e, Option.some.inj f2⟩

theorem info60 : (Try.prog.info? 60).map (fun i => (i.zero, i.size, i.bytes)) = some (some (.agg #[.string ⟨#[]⟩, .string ⟨#[]⟩]), 2, 32) := by kernel_rfl
theorem own_empty (w : World) (e : TypeId) (size : Nat) : (w.alloc (.cells #[] e)).ownsRow w.heap.size e size (.slice (some ⟨w.heap.size, 0, none⟩) 0 0) 0 [] :=
  ⟨by simp, .inr ⟨w.heap.size, 0, #[], rfl, Nat.le_refl _, Go.heap_alloc_new w _, Nat.le_refl _, by simp [maxLen], by simp, by simp⟩⟩

/-- A row of the call's own reads as these attributes. -/
theorem AtrsAt.of_own {w : World} {B base : Nat} {v : Value} {l : List Atr} (h : w.ownsRow base 60 2 v l.length (flatA l)) (hl : l.length ≤ 4398046511104) (hok : ∀ x ∈ l, AtrOk x) : AtrsAt w B v l := by
  rcases h.2 with ⟨rfl, hn⟩ | ⟨g, cap, cur, rfl, hb, hg, hn, hm, _, _⟩
  · exact ⟨none, 0, by rw [hn], by omega, hl, hok, fun hne => absurd (List.length_eq_zero_iff.1 hn) hne⟩
  · refine ⟨_, cap, rfl, hn, hl, hok, fun _ => ⟨g, 0, rfl, (Array.getElem?_eq_some_iff.1 hg).1, .inr ⟨_, _, hg⟩, fun k x hx => ?_⟩⟩
    obtain ⟨hk, rfl⟩ := List.getElem?_eq_some_iff.1 hx
    obtain ⟨f1, f2⟩ := flatA_get l k hk
    have hc := h.cells (g := g) rfl
    have e : ∀ j, (⟨g, 0, none⟩ : Addr).add j = ⟨g, 0 + j, none⟩ := fun j => by unfold Addr.add; split <;> simp_all
    have h1 := hc _ _ f1
    have h2 := hc _ _ f2
    rw [e] at h1 h2
    exact ⟨h1, h2⟩

theorem eqlS (w : World) (a : Addr) (n c : Nat) : (binOp .eql 31 (.slice (some a) n c) (.slice none 0 0)).run Try.prog w = .ok (.bool false) w := by
  kernel_rfl
theorem eqlN (w : World) (n c : Nat) : (binOp .eql 31 (.slice none n c) (.slice none 0 0)).run Try.prog w = .ok (.bool true) w := by
  kernel_rfl

def CloneIt (l : List Atr) (w : World) (e : Ending) (w' : World) : Prop :=
  ∃ v', e = .returned v' ∧ w'.ownsRow w.heap.size 60 2 v' l.length (flatA l) ∧ Below w.heap.size w w'

set_option maxHeartbeats 1000000 in
theorem clone_any {w : World} {B : Nat} {v : Value} {l : List Atr} (h : AtrsAt w B v l) : Calls Try.prog 49 #[v] w (CloneIt l w) := by
  obtain ⟨ad, c, rfl, hlc, hl, hok, hr⟩ := h
  obtain ⟨i0, hi, hz0, hz1, hz2⟩ := info_parts info60
  cases ad with
  | none =>
    have hl0 : l = [] := Classical.byContradiction fun hne => by
      obtain ⟨g, off, he, _⟩ := hr hne
      cases he
    subst hl0
    clear hr hok
    have e1 := eqlN w 0 c
    simp only [List.length_nil]
    go_enter Try.func49, Try.ntmps49
    go_wp2
    go_ret
    exact ⟨_, rfl, World.ownsRow_nil _ _ _ _, Below.refl _ _⟩
  | some a =>
    obtain ⟨n, hn⟩ : ∃ n, l.length = n := ⟨_, rfl⟩
    have hnews : ∀ (j : Nat) (u : Value), (flatA l)[j]? = some u → w.cell? (a.add j) = some u := by
      intro j u hu
      obtain ⟨k, x, hx, hj⟩ := flatA_split l j u hu
      obtain ⟨g, off, he, _, _, hc⟩ := hr (fun e => by rw [e] at hx; simp at hx)
      obtain ⟨d0, d1⟩ := hc k x hx
      obtain rfl := Option.some.inj he
      have e : ∀ j, (⟨g, off, none⟩ : Addr).add j = ⟨g, off + j, none⟩ := fun j => by unfold Addr.add; split <;> simp_all
      rw [e]
      rcases hj with ⟨rfl, rfl⟩ | ⟨rfl, rfl⟩
      · exact d0
      · exact d1
    have ha : ∀ (j : Nat) (u : Value), (flatA l)[j]? = some u → (w.alloc (.cells #[] 60)).cell? (a.add j) = some u := by
      intro j u hu
      have hc := hnews j u hu
      have hlt : (a.add j).block < w.heap.size := by
        have : w.cell? (a.add j) ≠ none := by rw [hc]; simp
        unfold World.cell? at this
        cases hb : w.heap[(a.add j).block]? with
        | none => simp [hb] at this
        | some o => exact (Array.getElem?_eq_some_iff.1 hb).1
      exact (((Below.refl w.heap.size w).alloc (Nat.le_refl _) _).cell (p := a.add j) hlt).trans hc
    have HN := Lib.hid hn
    have HA := Lib.hid ha
    rw [hn] at hl hlc ⊢
    clear hr hok hnews ha hn
    have e1 := eqlS w a n c
    go_enter Try.func49, Try.ntmps49
    go_wp2_with (first
      | (at_builtin; refine wpList_append_own _ rfl (.tmp 5) (.tmp 6) 31 rfl w.heap.size 60 i0 _ 2 32 Try.underlying31 hi hz0 hz1 hz2 rfl (by decide) _ _ _ rfl (own_empty w 60 2) _ _ _ (flatA l) rfl ?c0 ?c1 (flatA_one l) ?c3 ?c4 ?c5 ?_))
    case c0 => rw [flatA_length, HN.out]
    case c1 => exact HA.out
    case c3 => unfold maxLen; omega
    case c4 => omega
    case c5 => simp
    intro v' w' hown hgrow _
    have hb : Below w.heap.size w w' := ((Below.refl _ w).alloc (Nat.le_refl _) _).grown hgrow (by simp) (fun k hk => by cases hk; exact Nat.le_refl _)
    have HO := Lib.hid (And.intro hown hb)
    clear hown hgrow hb
    go_wp2
    go_ret
    exact ⟨_, rfl, by rw [HN.out]; simpa using HO.out.1, HO.out.2⟩

def CopiedIt (mk : Bool) (id : Int) (nm : ByteArray) (l : List Atr) (w : World) (e : Ending) (w' : World) : Prop :=
  ∃ v', e = .returned (.agg #[.bool mk, i64 id, .string nm, v']) ∧ w'.ownsRow w.heap.size 60 2 v' l.length (flatA l) ∧ Below w.heap.size w w'

set_option maxHeartbeats 1000000 in
theorem copied_any {w : World} {B : Nat} {v : Value} {mk : Bool} {id : Int} {nm : ByteArray} {l : List Atr} (h : AtrsAt w B v l) : Calls Try.prog 35 #[.agg #[.bool mk, i64 id, .string nm, v]] w (CopiedIt mk id nm l w) := by
  have H := Lib.hid h
  obtain ⟨ad, c, rfl⟩ := h.form
  clear h
  have hbox := (Blk.new w 33 #[.bool mk, i64 id, .string nm, .slice ad l.length c]).alloc (.cells #[.bool false, i64 0, .string ⟨#[]⟩, .slice none 0 0] 33)
  have hres := Blk.new (w.alloc (.cells #[.bool mk, i64 id, .string nm, .slice ad l.length c] 33)) 33 #[.bool false, i64 0, .string ⟨#[]⟩, .slice none 0 0]
  simp only [World.size_alloc] at hres
  have HBX := Lib.hid (And.intro hbox hres)
  clear hbox hres
  go_enter Try.func35, Try.ntmps35
  go_wp2_with (first
    | (go_at_call 49; (with_reducible refine (clone_any (H.out.below (((Below.refl _ w).alloc (Nat.le_refl _) _).alloc (by simp) _))).mono ?_); rintro e w1 ⟨v', rfl, hown, hbel⟩; obtain ⟨va, vc, rfl⟩ := own_slice hown; have hp := (hbel.block w.heap.size HBX.out.1.lt).trans HBX.out.1; have hq := (hbel.block (w.heap.size + 1) HBX.out.2.lt).trans HBX.out.2; have c0 := Blk.cell hp 0 (.bool mk) rfl; have c1 := Blk.cell hp 1 (i64 id) rfl; have c2 := Blk.cell hp 2 (.string nm) rfl; have c3 := Blk.cell hp 3 (.slice ad l.length c) rfl; have f3 := Blk.fro hp 3; have r0 := Blk.cell hq 0 (.bool false) rfl; have r1 := Blk.cell hq 1 (i64 0) rfl; have r2 := Blk.cell hq 2 (.string ⟨#[]⟩) rfl; have r3 := Blk.cell hq 3 (.slice none 0 0) rfl; have g0 := Blk.fro hq 0; have g1 := Blk.fro hq 1; have g2 := Blk.fro hq 2; have g3 := Blk.fro hq 3; have HO := Lib.hid (And.intro hown (And.intro hbel (And.intro hp hq))); clear hown hbel hp hq))
  obtain ⟨hown, hbel, hp, hq⟩ := HO.out
  have hp : Blk w1 w.heap.size 33 _ := hp
  have hq : Blk w1 (w.heap.size + 1) 33 _ := hq
  have k0 := hq.far (p := ⟨w.heap.size, 3, none⟩) (by simp) (.slice va l.length vc)
  have k1 := (((k0.put 0 (.bool mk)).put 1 (.int .i64 id)).put 2 (.string nm)).put 3 (.slice va l.length vc)
  have o1 := own_setCell hown hp (by decide) 3 (.slice va l.length vc)
  have o2 := own_setCell o1 k0 (by decide) 0 (.bool mk)
  have o3 := own_setCell o2 (k0.put 0 (.bool mk)) (by decide) 1 (.int .i64 id)
  have o4 := own_setCell o3 ((k0.put 0 (.bool mk)).put 1 (.int .i64 id)) (by decide) 2 (.string nm)
  have o5 := own_setCell o4 (((k0.put 0 (.bool mk)).put 1 (.int .i64 id)).put 2 (.string nm)) (by decide) 3 (.slice va l.length vc)
  have b0 := ((Below.refl w.heap.size w).alloc (Nat.le_refl _) (.cells #[.bool mk, i64 id, .string nm, .slice ad l.length c] 33)).alloc (by simp) (.cells #[.bool false, i64 0, .string ⟨#[]⟩, .slice none 0 0] 33)
  have b1 := b0.trans (hbel.mono b0.size)
  have b2 := ((((b1.setCell (p := ⟨w.heap.size, 3, none⟩) (Nat.le_refl _) (.slice va l.length vc)).setCell (p := ⟨w.heap.size + 1, 0, none⟩) (by simp) (.bool mk)).setCell (p := ⟨w.heap.size + 1, 1, none⟩) (by simp) (.int .i64 id)).setCell (p := ⟨w.heap.size + 1, 2, none⟩) (by simp) (.string nm)).setCell (p := ⟨w.heap.size + 1, 3, none⟩) (by simp) (.slice va l.length vc)
  (try simp only [Exit.inBlock, Exit.then])
  refine bodyPost_ret (results_cell_row rfl _ _ (w.heap.size + 1) 33 _ (0, 0) _ rfl k1 Try.underlying33 rfl (by kernel_rfl)) rfl ⟨_, rfl, own_mono o5 (by simp; omega), b2⟩

end Go.Proofs.Ytjopfgdgmniigaa
