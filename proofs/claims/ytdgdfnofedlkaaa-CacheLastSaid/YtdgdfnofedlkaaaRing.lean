/-
  A cache in memory: a ring of nodes in the order of use, a map from IDs to nodes, the counts. What taking a node out, putting one to the front do to the ring.
  Written by an AI agent. No program is named here but by its types' numbers.
-/
import Derived.Test.YtdgdfnofedlkaaaMaps
import Derived.Test.YtdgdfnofedlkaaaModel
namespace Go.Proofs.Ytdgdfnofedlkaaa
open Go.RowKit Go.Maps

def upd (f : Nat → Nat) (a v : Nat) : Nat → Nat := fun x => if x = a then v else f x

theorem upd_same (f : Nat → Nat) (a v : Nat) : upd f a v a = v := by simp [upd]
theorem upd_ne (f : Nat → Nat) {a x : Nat} (v : Nat) (h : x ≠ a) : upd f a v x = f x := by simp [upd, h]
theorem map_upd (f : Nat → Nat) (a v : Nat) (l : List Nat) (h : a ∉ l) : l.map (upd f a v) = l.map f :=
  List.map_congr_left fun _ hx => upd_ne f v (fun e => h (e ▸ hx))

/-- The ring: 'next' of each is the one behind it, 'prev' the one ahead. -/
def RingIs (pv nx : Nat → Nat) (r : Nat) (L : List Nat) : Prop := (r :: L).map nx = L ++ [r] ∧ (L ++ [r]).map pv = r :: L ∧ (r :: L).Nodup

theorem snoc_of (r : Nat) (A : List Nat) : ∃ A' p, r :: A = A' ++ [p] := ⟨(r :: A).dropLast, (r :: A).getLast (by simp), (List.dropLast_concat_getLast (by simp)).symm⟩

/-- What stands about a node of the ring. -/
theorem RingIs.around {pv nx : Nat → Nat} {r b : Nat} {A C : List Nat} (h : RingIs pv nx r (A ++ b :: C)) :
    ∃ A' C', r :: A = A' ++ [pv b] ∧ C ++ [r] = nx b :: C' ∧ A'.map nx = A ∧ nx (pv b) = b ∧ C.map nx = C' ∧ A.map pv = A' ∧ pv (nx b) = b ∧ C'.map pv = C := by
  obtain ⟨h1, h2, h3⟩ := h
  obtain ⟨A', p, hA⟩ := snoc_of r A
  obtain ⟨n, C', hC⟩ : ∃ n C', C ++ [r] = n :: C' := by cases C with | nil => exact ⟨r, [], rfl⟩ | cons n C => exact ⟨n, C ++ [r], rfl⟩
  have hl : A'.length = A.length := by have := congrArg List.length hA; simp at this; omega
  have hl2 : C'.length = C.length := by have := congrArg List.length hC; simp at this; omega
  have e1 : (A' ++ [p] ++ b :: C).map nx = A ++ [b] ++ n :: C' := by
    rw [← hA, ← hC]
    simpa using h1
  have e2 : (A ++ [b] ++ n :: C').map pv = A' ++ [p] ++ b :: C := by
    rw [← hA, ← hC]
    simpa using h2
  simp only [List.map_append, List.map_cons, List.map_nil] at e1 e2
  have f1 := List.append_inj e1 (by simp [hl])
  have f2 := List.append_inj e2 (by simp [hl])
  have g1 := List.append_inj f1.1 (by simp [hl])
  have g2 := List.append_inj f2.1 (by simp [hl])
  simp only [List.cons.injEq, and_true] at g1 g2 f1 f2
  obtain ⟨⟨_, rfl, k1⟩, ⟨_, rfl, k2⟩⟩ : (True ∧ n = nx b ∧ C.map nx = C') ∧ (True ∧ p = pv b ∧ True) := ⟨⟨trivial, f1.2.1.symm, f1.2.2⟩, trivial, g2.2.symm, trivial⟩
  exact ⟨A', C', hA, hC, g1.1, g1.2, f1.2.2, g2.1, f2.2.1, f2.2.2⟩

/-- A NODE IS TAKEN OUT. -/
theorem RingIs.out {pv nx : Nat → Nat} {r b : Nat} {A C : List Nat} (h : RingIs pv nx r (A ++ b :: C)) : RingIs (upd pv (nx b) (pv b)) (upd nx (pv b) (nx b)) r (A ++ C) := by
  obtain ⟨A', C', hA, hC, a1, a2, a3, b1, b2, b3⟩ := h.around
  obtain ⟨_, _, h3⟩ := h
  have hn1 : (A' ++ [pv b] ++ b :: C).Nodup := by rw [← hA]; simpa using h3
  have hn2 : (A ++ [b] ++ nx b :: C').Nodup := by
    rw [← hC]
    have hp : (A ++ [b] ++ (C ++ [r])).Perm (r :: (A ++ b :: C)) := by
      have := (List.perm_append_comm (l₁ := A ++ [b] ++ C) (l₂ := [r]))
      simpa using this
    exact hp.nodup_iff.2 h3
  have p1 : pv b ∉ A' := fun hm => by
    rw [List.append_assoc, List.nodup_append] at hn1
    exact hn1.2.2 _ hm (pv b) (by simp) rfl
  have p2 : pv b ∉ C := fun hm => by
    rw [List.nodup_append] at hn1
    exact hn1.2.2 (pv b) (by simp) _ (List.mem_cons_of_mem _ hm) rfl
  have n1 : nx b ∉ A := fun hm => by
    rw [List.append_assoc, List.nodup_append] at hn2
    exact hn2.2.2 _ hm (nx b) (by simp) rfl
  have n2 : nx b ∉ C' := fun hm => by
    rw [List.nodup_append] at hn2
    exact (List.nodup_cons.1 hn2.2.1).1 hm
  refine ⟨?_, ?_, ?_⟩
  · rw [show r :: (A ++ C) = A' ++ [pv b] ++ C from by rw [← List.cons_append, hA]]
    rw [List.map_append, List.map_append, map_upd _ _ _ _ p1, map_upd _ _ _ _ p2, a1, a3, List.append_assoc A C [r], hC]
    simp [upd_same]
  · rw [List.append_assoc, hC, List.map_append, List.map_cons, map_upd _ _ _ _ n1, map_upd _ _ _ _ n2, b1, b3, upd_same]
    rw [show r :: (A ++ C) = (r :: A) ++ C from rfl, hA]
    simp
  · exact (List.Sublist.cons_cons r (List.Sublist.append_left (List.sublist_cons_self b C) A)).nodup h3

/-- A NODE IS PUT TO THE FRONT. -/
theorem RingIs.front {pv nx : Nat → Nat} {r b : Nat} {L : List Nat} (h : RingIs pv nx r L) (hb : b ∉ r :: L) :
    RingIs (upd (upd pv b r) (nx r) b) (upd (upd nx b (nx r)) r b) r (b :: L) := by
  obtain ⟨h1, h2, h3⟩ := h
  have hbr : b ≠ r := fun e => hb (by simp [e])
  have hbL : b ∉ L := fun e => hb (List.mem_cons_of_mem _ e)
  have hrL : r ∉ L := (List.nodup_cons.1 h3).1
  obtain ⟨C', hC⟩ : ∃ C', L ++ [r] = nx r :: C' := by
    rw [← h1]; exact ⟨L.map nx, rfl⟩
  have hn : (nx r :: C').Nodup := by
    rw [← hC]
    have hp : (L ++ [r]).Perm (r :: L) := List.perm_append_comm (l₁ := L) (l₂ := [r])
    exact hp.nodup_iff.2 h3
  have hbn : b ∉ nx r :: C' := by
    rw [← hC]
    simp [hbL, hbr]
  have e1 : L.map nx = C' := by
    have := h1
    rw [hC] at this
    simpa using this
  have e2 : C'.map pv = L := by
    have := h2
    rw [hC] at this
    simp only [List.map_cons, List.cons.injEq] at this
    exact this.2
  refine ⟨?_, ?_, ?_⟩
  · rw [List.map_cons, List.map_cons, upd_same, upd_ne _ _ hbr, upd_same, map_upd _ _ _ _ hrL, map_upd _ _ _ _ hbL, e1]
    simp [hC]
  · rw [List.cons_append, List.map_cons, hC, List.map_cons, upd_same, upd_ne _ _ (fun e => hbn (by simp [e])), upd_same, map_upd _ _ _ _ (List.nodup_cons.1 hn).1,
      map_upd _ _ _ _ (fun e => hbn (List.mem_cons_of_mem _ e)), e2]
  · have := h3
    simp only [List.nodup_cons, List.mem_cons, not_or] at this ⊢
    exact ⟨⟨fun e => hbr e.symm, this.1⟩, hbL, this.2⟩

/-- The nodes S in memory. -/
def Nodes (w : World) (S : List Nat) (tx : Nat → Int × ByteArray) (pv nx : Nat → Nat) : Prop :=
  ∀ c ∈ S, Blk w c 56 #[i64 (tx c).1, .string (tx c).2, ptr (pv c), ptr (nx c)]

section
variable {w w' : World} {S : List Nat} {tx : Nat → Int × ByteArray} {pv nx : Nat → Nat}
theorem Nodes.heap (h : Nodes w S tx pv nx) (e : w'.heap = w.heap) : Nodes w' S tx pv nx := fun c hc => (h c hc).heap e
theorem Nodes.next (h : Nodes w S tx pv nx) (p n : Nat) : Nodes (w.setCell ⟨p, 3, none⟩ (ptr n)) S tx pv (upd nx p n) := fun c hc => by
  by_cases e : c = p
  · subst e
    have := (h c hc).put 3 (ptr n)
    rw [upd_same]
    exact this
  · rw [upd_ne _ _ e]
    exact (h c hc).far e _
theorem Nodes.prev (h : Nodes w S tx pv nx) (p n : Nat) : Nodes (w.setCell ⟨p, 2, none⟩ (ptr n)) S tx (upd pv p n) nx := fun c hc => by
  by_cases e : c = p
  · subst e
    have := (h c hc).put 2 (ptr n)
    rw [upd_same]
    exact this
  · rw [upd_ne _ _ e]
    exact (h c hc).far e _
theorem Nodes.sub {S' : List Nat} (h : Nodes w S tx pv nx) (hs : ∀ c ∈ S', c ∈ S) : Nodes w S' tx pv nx := fun c hc => h c (hs c hc)
end

/-- THE CACHE at block cb, all its blocks from B on: at most 'most' texts of 'bytes' bytes; 'st': the texts by their IDs, the one that was used last first. -/
structure CacheAt (P : Program) (w : World) (B cb : Nat) (most bytes : Int) (st : List (Int × ByteArray)) (hits misses : Int) (mb rb : Nat) (L : List Nat) (tx : Nat → Int × ByteArray) (pv nx : Nat → Nat) (M : List (Value × Value)) : Prop where
  blk : Blk w cb 54 #[i64 most, i64 bytes, .map (some mb), ptr rb, i64 (tot st), i64 hits, i64 misses]
  map : MapIs P 3 w mb M
  perm : M.Perm (L.map fun b => (i64 (tx b).1, ptr b))
  ring : RingIs pv nx rb L
  nodes : Nodes w (rb :: L) tx pv nx
  text : L.map tx = st
  ids : ∀ x ∈ st, (Lit.int .i64 x.1).wf = true
  base : B ≤ cb ∧ B ≤ mb ∧ ∀ c ∈ rb :: L, B ≤ c
  fits : tot st ≤ bytes ∧ (st.length : Int) ≤ most ∧ 1 ≤ most ∧ most ≤ 1000 ∧ bytes ≤ 65536

section
variable {P : Program} {w w' : World} {B cb mb rb : Nat} {most bytes hits misses : Int} {st : List (Int × ByteArray)} {L : List Nat} {tx : Nat → Int × ByteArray} {pv nx : Nat → Nat} {M : List (Value × Value)}

theorem CacheAt.sum (h : CacheAt P w B cb most bytes st hits misses mb rb L tx pv nx M) : Blk w cb 54 #[i64 most, i64 bytes, .map (some mb), ptr rb, i64 (tot st), i64 hits, i64 misses] := h.blk

theorem perm_keys {M : List (Value × Value)} {L : List Nat} {tx : Nat → Int × ByteArray} (hp : M.Perm (L.map fun b => (i64 (tx b).1, ptr b))) : (M.map (·.1)).Perm (L.map fun b => i64 (tx b).1) := by
  have := hp.map (·.1)
  rw [List.map_map] at this
  exact this

theorem CacheAt.idsNodup (h : CacheAt P w B cb most bytes st hits misses mb rb L tx pv nx M) : (st.map (·.1)).Nodup := by
  obtain ⟨_, _, _, _, _, hn⟩ := h.map
  have h1 := (perm_keys h.perm).nodup_iff.1 hn
  rw [← h.text, List.map_map]
  refine List.Pairwise.of_map (fun n : Int => i64 n) (fun a b hne e => hne (by rw [e])) (?_ : ((L.map ((fun x : Int × ByteArray => x.1) ∘ tx)).map fun n : Int => i64 n).Nodup)
  rw [List.map_map]
  exact h1

theorem CacheAt.mem_key (h : CacheAt P w B cb most bytes st hits misses mb rb L tx pv nx M) (id : Int) : i64 id ∈ M.map (·.1) ↔ id ∈ st.map (·.1) := by
  rw [(perm_keys h.perm).mem_iff, ← h.text]
  simp only [List.mem_map]
  constructor
  · rintro ⟨b, hb, e⟩
    injection e with _ e
    exact ⟨tx b, ⟨b, hb, rfl⟩, e⟩
  · rintro ⟨x, ⟨b, hb, rfl⟩, rfl⟩
    exact ⟨b, hb, rfl⟩

/-- The node of an ID that is there. -/
theorem CacheAt.node_of (h : CacheAt P w B cb most bytes st hits misses mb rb L tx pv nx M) {id : Int} (hid : id ∈ st.map (·.1)) :
    ∃ A b C, L = A ++ b :: C ∧ (tx b).1 = id ∧ (i64 id, ptr b) ∈ M := by
  rw [← h.text] at hid
  simp only [List.mem_map] at hid
  obtain ⟨x, ⟨b, hb, rfl⟩, rfl⟩ := hid
  obtain ⟨A, C, rfl⟩ := List.append_of_mem hb
  exact ⟨A, b, C, rfl, rfl, h.perm.mem_iff.2 (List.mem_map.2 ⟨b, hb, rfl⟩)⟩

/-- The neighbours of a node are of the ring. -/
theorem RingIs.near {r b : Nat} {A C : List Nat} (h : RingIs pv nx r (A ++ b :: C)) : pv b ∈ r :: (A ++ b :: C) ∧ nx b ∈ r :: (A ++ b :: C) := by
  obtain ⟨A', C', hA, hC, _⟩ := h.around
  constructor
  · have : pv b ∈ r :: A := by rw [hA]; simp
    rcases List.mem_cons.1 this with e | e
    · simp [e]
    · exact List.mem_cons_of_mem _ (List.mem_append_left _ e)
  · have : nx b ∈ C ++ [r] := by rw [hC]; simp
    rcases List.mem_append.1 this with e | e
    · exact List.mem_cons_of_mem _ (List.mem_append_right _ (List.mem_cons_of_mem _ e))
    · rw [List.mem_singleton.1 e]; simp

/-- MEMORY BEHIND 'out' AT b: all as it was but the ring, which b has left; b's own node is known still. -/
theorem CacheAt.out {A C : List Nat} {b : Nat} (h : CacheAt P w B cb most bytes st hits misses mb rb (A ++ b :: C) tx pv nx M)
    (e : Like w' ((w.setCell ⟨pv b, 3, none⟩ (ptr (nx b))).setCell ⟨nx b, 2, none⟩ (ptr (pv b)))) :
    Blk w' cb 54 #[i64 most, i64 bytes, .map (some mb), ptr rb, i64 (tot st), i64 hits, i64 misses] ∧ MapIs P 3 w' mb M ∧
    Nodes w' (rb :: (A ++ b :: C)) tx (upd pv (nx b) (pv b)) (upd nx (pv b) (nx b)) ∧ Fr B (kinds [54, 56] true) w w' := by
  obtain ⟨hp, hn⟩ := h.ring.near
  have N1 := h.nodes.next (pv b) (nx b)
  have N2 := N1.prev (nx b) (pv b)
  have P0 := h.nodes _ hp
  have P1 := N1 _ hn
  have hcp : cb ≠ pv b := h.blk.ne P0 (by decide)
  have hcn : cb ≠ nx b := h.blk.ne (h.nodes _ hn) (by decide)
  refine ⟨((h.sum.far hcp _).far hcn _).heap e.1, ((h.map.setCell P0 3 _).setCell P1 2 _).heap e.1, N2.heap e.1, ?_⟩
  exact (((Fr.refl B _ w).setCell P0 rfl (h.base.2.2 _ hp) 3 _).setCell P1 rfl (h.base.2.2 _ hn) 2 _).like e


theorem RingIs.first {r : Nat} (h : RingIs pv nx r L) : nx r ∈ r :: L := by
  have h1 := h.1
  rw [List.map_cons] at h1
  have : nx r ∈ L ++ [r] := by rw [← h1]; simp
  rcases List.mem_append.1 this with e | e
  · exact List.mem_cons_of_mem _ e
  · rw [List.mem_singleton.1 e]; simp

/-- MEMORY BEHIND 'use' AT b, a node that is not of the ring. -/
theorem front_mem {b : Nat} {v2 v3 : Value} (hN : Nodes w (rb :: L) tx pv nx) (hb : Blk w b 56 #[i64 (tx b).1, .string (tx b).2, v2, v3]) (hbL : b ∉ rb :: L) (hn : nx rb ∈ rb :: L) (hB : B ≤ b) (hL : ∀ c ∈ rb :: L, B ≤ c)
    (e : Like w' ((((w.setCell ⟨b, 2, none⟩ (ptr rb)).setCell ⟨b, 3, none⟩ (ptr (nx rb))).setCell ⟨rb, 3, none⟩ (ptr b)).setCell ⟨nx rb, 2, none⟩ (ptr b))) :
    Nodes w' (rb :: b :: L) tx (upd (upd pv b rb) (nx rb) b) (upd (upd nx b (nx rb)) rb b) ∧ Fr B (kinds [54, 56] true) w w' ∧
      (∀ g t cs, t ≠ 56 → Blk w g t cs → Blk w' g t cs) ∧ (∀ mb M, MapIs P 3 w mb M → MapIs P 3 w' mb M) := by
  have b1 := hb.put 2 (ptr rb)
  have b2 := b1.put 3 (ptr (nx rb))
  have N1 : Nodes ((w.setCell ⟨b, 2, none⟩ (ptr rb)).setCell ⟨b, 3, none⟩ (ptr (nx rb))) (rb :: b :: L) tx (upd pv b rb) (upd nx b (nx rb)) := fun c hc => by
    by_cases ec : c = b
    · subst ec
      rw [upd_same, upd_same]
      exact b2
    · have hc' : c ∈ rb :: L := by
        rcases List.mem_cons.1 hc with h | h
        · simp [h]
        · rcases List.mem_cons.1 h with h | h
          · exact absurd h ec
          · exact List.mem_cons_of_mem _ h
      rw [upd_ne _ _ ec, upd_ne _ _ ec]
      exact ((hN c hc').far (p := ⟨b, 2, none⟩) ec _).far (p := ⟨b, 3, none⟩) ec _
  have N2 := N1.next rb b
  have N3 := N2.prev (nx rb) b
  have r1 := N1 rb (by simp)
  have hn' : nx rb ∈ rb :: b :: L := by
    rcases List.mem_cons.1 hn with h | h
    · simp [h]
    · exact List.mem_cons_of_mem _ (List.mem_cons_of_mem _ h)
  have n1 := N2 _ hn'
  refine ⟨N3.heap e.1, ?_, fun g t cs ht hg => ?_, fun mb M hm => ?_⟩
  · exact (((((Fr.refl B _ w).setCell hb rfl hB 2 _).setCell b1 rfl hB 3 _).setCell r1 rfl (hL _ (by simp)) 3 _).setCell n1 rfl (hL _ hn) 2 _).like e
  · have h1 : g ≠ b := hg.ne hb ht
    have h2 : g ≠ rb := hg.ne (hN rb (by simp)) ht
    have h3 : g ≠ nx rb := hg.ne (hN _ hn) ht
    exact ((((hg.far (p := ⟨b, 2, none⟩) h1 _).far (p := ⟨b, 3, none⟩) h1 _).far (p := ⟨rb, 3, none⟩) h2 _).far (p := ⟨nx rb, 2, none⟩) h3 _).heap e.1
  · exact ((((hm.setCell hb 2 _).setCell b1 3 _).setCell r1 3 _).setCell n1 2 _).heap e.1
end

/-- The cache, whatever lies where. -/
def Cache (P : Program) (w : World) (B cb : Nat) (most bytes : Int) (st : List (Int × ByteArray)) (hits misses : Int) : Prop :=
  ∃ mb rb L tx pv nx M, CacheAt P w B cb most bytes st hits misses mb rb L tx pv nx M

/-- What a cache's methods may turn. -/
abbrev CK : Obj → Bool := kinds [54, 56] true

end Go.Proofs.Ytdgdfnofedlkaaa
