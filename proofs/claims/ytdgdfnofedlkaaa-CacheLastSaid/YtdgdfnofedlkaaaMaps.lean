/-
  A map in memory as a list of keys and values: look-up, store, delete, len.
  Written by an AI agent. No program is named here.
-/
import Derived.Test.YtdgdfnofedlkaaaBase
import Derived.Maps.Keyed
import Derived.MapKept
namespace Go.Proofs.Ytdgdfnofedlkaaa
open Go.RowKit Go.Maps

/-- Block b is a map that holds just these keys and values (in some order of its own: the list's), each key once. -/
def MapIs (P : Program) (k : TypeId) (w : World) (b : Nat) (M : List (Value × Value)) : Prop :=
  ∃ es clock, w.heap[b]? = some (.map es clock) ∧ es.toList.map (fun e => (e.key, e.val)) = M ∧ (∀ p ∈ M, ∃ l, keyOf P k p.1 = some l) ∧ (M.map (·.1)).Nodup

section
variable {P : Program} {k e t : TypeId} {w w' : World} {b : Nat} {M : List (Value × Value)}
theorem MapIs.obj (h : MapIs P k w b M) : ∃ es clock, w.heap[b]? = some (.map es clock) := by obtain ⟨es, c, h, _⟩ := h; exact ⟨es, c, h⟩
theorem MapIs.lt (h : MapIs P k w b M) : b < w.heap.size := by obtain ⟨es, c, h⟩ := h.obj; exact (Array.getElem?_eq_some_iff.1 h).1
theorem MapIs.made (w : World) (P : Program) (k : TypeId) : MapIs P k (w.alloc (.map #[] 0)) w.heap.size [] := ⟨#[], 0, Go.heap_alloc_new w _, by simp, by simp, by simp⟩
theorem MapIs.same (h : MapIs P k w b M) (hb : w'.heap[b]? = w.heap[b]?) : MapIs P k w' b M := by
  obtain ⟨es, c, h, r⟩ := h
  exact ⟨es, c, hb.trans h, r⟩
theorem MapIs.drew (h : MapIs P k w b M) : MapIs P k w.drew b M := h
theorem MapIs.drewN (h : MapIs P k w b M) (n : Nat) : MapIs P k (w.drewN n) b M := h
theorem MapIs.heap (h : MapIs P k w b M) (e : w'.heap = w.heap) : MapIs P k w' b M := h.same (by rw [e])
theorem MapIs.alloc (h : MapIs P k w b M) (o : Obj) : MapIs P k (w.alloc o) b M := h.same (Below.heap_alloc w o b h.lt)
theorem MapIs.ne {g : Nat} {t : TypeId} {cs : Array Value} (h : MapIs P k w b M) (hg : Blk w g t cs) : b ≠ g := by
  rintro rfl
  obtain ⟨es, c, h⟩ := h.obj
  have := h.symm.trans hg
  injection this with this
  cases this
theorem MapIs.setCell {g : Nat} {t : TypeId} {cs : Array Value} (h : MapIs P k w b M) (hg : Blk w g t cs) (i : Nat) (u : Value) : MapIs P k (w.setCell ⟨g, i, none⟩ u) b M :=
  h.same (Below.heap_setCell w _ u b (h.ne hg))
theorem MapIs.fr {B : Nat} {T : Obj → Bool} (h : MapIs P k w b M) (f : Fr B T w w') (hT : b < B ∨ ∀ es c, T (.map es c) = false) : MapIs P k w' b M := by
  obtain ⟨es, c, h⟩ := h
  exact ⟨es, c, f.obj h.1 (hT.imp id fun x => x es c), h.2⟩

/-- A look-up of a key that is not there. -/
theorem MapIs.look_no (h : MapIs P k w b M) (K : Keyed P k) (ht : P.underlying t = some (.map k e)) {z : Value} (hz : (zeroValue e).run P w = .ok z w) {x : Value} {l : Lit} (hx : keyOf P k x = some l) (hno : x ∉ M.map (·.1)) (c : Bool) :
    (Instr.lookup t (.map (some b)) x c).run P w = .ok (if c then .tuple #[z, .bool false] else z) w := by
  obtain ⟨es, cl, hb, rfl, hk, _⟩ := h
  have hk' : ∀ e ∈ es.toList, ∃ l, keyOf P k e.key = some l := fun e he => hk (e.key, e.val) (List.mem_map.2 ⟨e, he, rfl⟩)
  rcases K.find w hx es.toList hk' with ⟨h1, _⟩ | ⟨j, e0, _, h2, h3⟩
  · simp [Instr.lookup, run_underlying ht, MapKept.run_getObj_map hb, K.check w _ hx, h1, hz, Result.andThen]
  · exact absurd (List.mem_map.2 ⟨(e0.key, e0.val), List.mem_map.2 ⟨e0, List.mem_of_getElem? h2, rfl⟩, h3⟩) hno

/-- .. of one that is. -/
theorem MapIs.look (h : MapIs P k w b M) (K : Keyed P k) (ht : P.underlying t = some (.map k e)) {x v : Value} {l : Lit} (hx : keyOf P k x = some l) (hm : (x, v) ∈ M) (c : Bool) :
    (Instr.lookup t (.map (some b)) x c).run P w = .ok (if c then .tuple #[v, .bool true] else v) w := by
  obtain ⟨es, cl, hb, rfl, hk, hn⟩ := h
  have hk' : ∀ e ∈ es.toList, ∃ l, keyOf P k e.key = some l := fun e he => hk (e.key, e.val) (List.mem_map.2 ⟨e, he, rfl⟩)
  obtain ⟨e1, he1, hxv⟩ := List.mem_map.1 hm
  simp only [Prod.mk.injEq] at hxv
  obtain ⟨rfl, rfl⟩ := hxv
  rcases K.find w hx es.toList hk' with ⟨_, h2⟩ | ⟨j, e0, h1, h2, h3⟩
  · exact absurd rfl (h2 e1 he1)
  · have he0 : e0 = e1 := by
      have h0 := List.mem_of_getElem? h2
      rw [List.map_map] at hn
      exact nodup_key (f := fun e : MapEntry => e.key) hn h0 he1 h3
    subst he0
    simp [Instr.lookup, run_underlying ht, MapKept.run_getObj_map hb, K.check w _ hx, h1, Result.andThen]
where
  nodup_key {α β : Type} {f : α → β} {l : List α} (hn : (l.map f).Nodup) {a b : α} (ha : a ∈ l) (hb : b ∈ l) (h : f a = f b) : a = b := by
    induction l with
    | nil => cases ha
    | cons x r ih =>
      simp only [List.map_cons, List.nodup_cons, List.mem_map, not_exists, not_and] at hn
      rcases List.mem_cons.1 ha with ha | ha <;> rcases List.mem_cons.1 hb with hb | hb
      · rw [ha, hb]
      · exact absurd (by rw [← h, ha]) (hn.1 b hb)
      · exact absurd (by rw [h, hb]) (hn.1 a ha)
      · exact ih hn.2 ha hb

/-- The world in which block b holds o. -/
theorem putObj_facts {w : World} {b : Nat} {o' : Obj} (hb : b < w.heap.size) : ({ w with heap := w.heap.setIfInBounds b o' } : World).heap[b]? = some o' ∧ ∀ k, k ≠ b → ({ w with heap := w.heap.setIfInBounds b o' } : World).heap[k]? = w.heap[k]? := by
  constructor
  · simp [hb]
  · intro k hk
    simp [Ne.symm hk]

/-- ONLY BLOCK b HAS TURNED, and it was a map. -/
structure OnlyMap (w w' : World) (b : Nat) : Prop where
  os : w'.os = w.os
  output : w'.output = w.output
  tape : w'.tape = w.tape
  size : w'.heap.size = w.heap.size
  block : ∀ k, k ≠ b → w'.heap[k]? = w.heap[k]?
  was : ∃ es c, w.heap[b]? = some (.map es c)

theorem OnlyMap.blk {g : Nat} {t : TypeId} {cs : Array Value} (h : OnlyMap w w' b) (hg : Blk w g t cs) : Blk w' g t cs := by
  refine (h.block g ?_).trans hg
  rintro rfl
  obtain ⟨es, c, hb⟩ := h.was
  have := hb.symm.trans hg
  injection this with this
  cases this
theorem OnlyMap.fr {a : World} {B : Nat} {T : Obj → Bool} (h : OnlyMap w w' b) (f : Fr B T a w) (hB : B ≤ b) (hT : ∀ es c, T (.map es c) = true) : Fr B T a w' := by
  obtain ⟨es, c, hb⟩ := h.was
  exact f.at_ hb (hT es c) hB ⟨h.os, h.output, h.tape, Nat.le_of_eq h.size.symm, fun k _ hk => h.block k hk⟩

/-- 'm[x] = v', x new. -/
theorem MapIs.store_new (h : MapIs P k w b M) (K : Keyed P k) (ht : P.underlying t = some (.map k e)) {x : Value} {l : Lit} (hx : keyOf P k x = some l) (hno : x ∉ M.map (·.1)) (v : Value) :
    ∃ w', (Instr.mapUpdate t (.map (some b)) x v).run P w = .ok () w' ∧ MapIs P k w' b (M ++ [(x, v)]) ∧ OnlyMap w w' b := by
  obtain ⟨es, cl, hb, rfl, hk, hn⟩ := h
  have hlt := (Array.getElem?_eq_some_iff.1 hb).1
  have hk' : ∀ e ∈ es.toList, ∃ l, keyOf P k e.key = some l := fun e he => hk (e.key, e.val) (List.mem_map.2 ⟨e, he, rfl⟩)
  rcases K.find w hx es.toList hk' with ⟨h1, _⟩ | ⟨j, e0, _, h2, h3⟩
  · obtain ⟨f1, f2⟩ := putObj_facts (w := w) (o' := .map (es.push ⟨x, v, cl⟩) (cl + 1)) hlt
    refine ⟨{ w with heap := w.heap.setIfInBounds b (.map (es.push ⟨x, v, cl⟩) (cl + 1)) }, ?_, ⟨es.push ⟨x, v, cl⟩, cl + 1, f1, by simp, ?_, ?_⟩, ⟨rfl, rfl, rfl, by simp, f2, ⟨es, cl, hb⟩⟩⟩
    · simp [Instr.mapUpdate, run_underlying ht, MapKept.run_getObj_map hb, K.check w false hx, h1, MapKept.run_setObj_map _ hb, Result.andThen]
    · intro p hp
      rcases List.mem_append.1 hp with hp | hp
      · exact hk p hp
      · obtain rfl := List.mem_singleton.1 hp
        exact ⟨l, hx⟩
    · rw [List.map_append, List.nodup_append]
      exact ⟨hn, by simp, fun a ha c hc => by
        rintro rfl
        simp only [List.map_cons, List.map_nil, List.mem_singleton] at hc
        exact hno (hc ▸ ha)⟩
  · exact absurd (List.mem_map.2 ⟨(e0.key, e0.val), List.mem_map.2 ⟨e0, List.mem_of_getElem? h2, rfl⟩, h3⟩) hno

/-- 'm[x] = v', x there. -/
theorem MapIs.store_old (h : MapIs P k w b M) (K : Keyed P k) (ht : P.underlying t = some (.map k e)) {x : Value} {l : Lit} (hx : keyOf P k x = some l) (hyes : x ∈ M.map (·.1)) (v : Value) :
    ∃ w' A u C, (Instr.mapUpdate t (.map (some b)) x v).run P w = .ok () w' ∧ M = A ++ (x, u) :: C ∧ MapIs P k w' b (A ++ (x, v) :: C) ∧ OnlyMap w w' b := by
  obtain ⟨es, cl, hb, rfl, hk, hn⟩ := h
  have hlt := (Array.getElem?_eq_some_iff.1 hb).1
  have hk' : ∀ e ∈ es.toList, ∃ l, keyOf P k e.key = some l := fun e he => hk (e.key, e.val) (List.mem_map.2 ⟨e, he, rfl⟩)
  rcases K.find w hx es.toList hk' with ⟨_, h2⟩ | ⟨j, e0, h1, h2, h3⟩
  · obtain ⟨p, hp, rfl⟩ := List.mem_map.1 hyes
    obtain ⟨e1, he1, rfl⟩ := List.mem_map.1 hp
    exact absurd rfl (h2 e1 he1)
  · have hj : j < es.toList.length := (List.getElem?_eq_some_iff.1 h2).1
    have hjs : j < es.size := by simpa using hj
    have hsplit : es.toList = es.toList.take j ++ e0 :: es.toList.drop (j + 1) := by
      have hd := List.drop_eq_getElem_cons hj
      have hg : es.toList[j] = e0 := (List.getElem?_eq_some_iff.1 h2).2
      rw [hg] at hd
      rw [← hd, List.take_append_drop]
    have hmod : (es.modify j fun e => { e with key := x, val := v }).toList = es.toList.take j ++ { e0 with key := x, val := v } :: es.toList.drop (j + 1) := by
      rw [Array.toList_modify, List.modify_eq_take_cons_drop hj]
      have hg : es.toList[j] = e0 := (List.getElem?_eq_some_iff.1 h2).2
      rw [hg]
    obtain ⟨f1, f2⟩ := putObj_facts (w := w) (o' := .map (es.modify j fun e => { e with key := x, val := v }) cl) hlt
    refine ⟨{ w with heap := w.heap.setIfInBounds b (.map (es.modify j fun e => { e with key := x, val := v }) cl) }, (es.toList.take j).map (fun e => (e.key, e.val)), e0.val, (es.toList.drop (j + 1)).map (fun e => (e.key, e.val)), ?_, ?_, ?_, ⟨rfl, rfl, rfl, by simp, f2, ⟨es, cl, hb⟩⟩⟩
    · have hst := K.stays w hx
      have hje : (es[j]?).map (·.key) = some x := by
        rw [← Array.getElem?_toList, h2]; simp [h3]
      simp [Instr.mapUpdate, run_underlying ht, MapKept.run_getObj_map hb, K.check w false hx, h1, hje, hst, MapKept.run_setObj_map _ hb, Result.andThen]
    · conv => lhs; rw [hsplit]
      simp [h3]
    · have hM : es.toList.map (fun e => (e.key, e.val)) = (es.toList.take j).map (fun e => (e.key, e.val)) ++ (x, e0.val) :: (es.toList.drop (j + 1)).map (fun e => (e.key, e.val)) := by
        conv => lhs; rw [hsplit]
        simp [h3]
      refine ⟨_, _, f1, by rw [hmod]; simp, ?_, ?_⟩
      · intro p hp
        rcases List.mem_append.1 hp with hp | hp
        · exact hk p (by rw [hM]; exact List.mem_append_left _ hp)
        · rcases List.mem_cons.1 hp with rfl | hp
          · exact ⟨l, hx⟩
          · exact hk p (by rw [hM]; exact List.mem_append_right _ (List.mem_cons_of_mem _ hp))
      · rw [hM] at hn
        simpa using hn

/-- 'delete(m, x)', x there. -/
theorem MapIs.delete_ (h : MapIs P k w b M) (K : Keyed P k) (ht : P.underlying t = some (.map k e)) (ty : TypeId) {x v : Value} {l : Lit} (hx : keyOf P k x = some l) (hm : (x, v) ∈ M) :
    ∃ w' M', (Builtin.delete_ #[t, k] ty #[.map (some b), x]).run P w = .ok (.tuple #[]) w' ∧ MapIs P k w' b M' ∧ M.Perm ((x, v) :: M') ∧ OnlyMap w w' b := by
  obtain ⟨es, cl, hb, rfl, hk, hn⟩ := h
  have hlt := (Array.getElem?_eq_some_iff.1 hb).1
  have hk' : ∀ e ∈ es.toList, ∃ l, keyOf P k e.key = some l := fun e he => hk (e.key, e.val) (List.mem_map.2 ⟨e, he, rfl⟩)
  obtain ⟨e1, he1, hxv⟩ := List.mem_map.1 hm
  simp only [Prod.mk.injEq] at hxv
  obtain ⟨rfl, rfl⟩ := hxv
  rcases K.find w hx es.toList hk' with ⟨_, h2⟩ | ⟨j, e0, h1, h2, h3⟩
  · exact absurd rfl (h2 e1 he1)
  · have he0 : e0 = e1 := by
      have h0 := List.mem_of_getElem? h2
      have hn' := hn
      rw [List.map_map] at hn'
      exact MapIs.look.nodup_key (f := fun e : MapEntry => e.key) hn' h0 he1 h3
    subst he0
    have hj : j < es.toList.length := (List.getElem?_eq_some_iff.1 h2).1
    have hjs : j < es.size := by simpa using hj
    have hsub : (es.eraseIdxIfInBounds j).toList = es.toList.eraseIdx j := by
      unfold Array.eraseIdxIfInBounds
      rw [dif_pos hjs]
      simp
    have hper : es.toList.Perm (e0 :: es.toList.eraseIdx j) := by
      have hd := List.drop_eq_getElem_cons hj
      have hg : es.toList[j] = e0 := (List.getElem?_eq_some_iff.1 h2).2
      rw [hg] at hd
      rw [List.eraseIdx_eq_take_drop_succ]
      conv => lhs; rw [← List.take_append_drop j es.toList, hd]
      exact List.perm_middle
    have hper' : (es.toList.map fun e => (e.key, e.val)).Perm ((e0.key, e0.val) :: (es.toList.eraseIdx j).map fun e => (e.key, e.val)) := hper.map _
    obtain ⟨f1, f2⟩ := putObj_facts (w := w) (o' := .map (es.eraseIdxIfInBounds j) cl) hlt
    refine ⟨{ w with heap := w.heap.setIfInBounds b (.map (es.eraseIdxIfInBounds j) cl) }, (es.toList.eraseIdx j).map fun e => (e.key, e.val), ?_, ⟨_, _, f1, by rw [hsub], fun p hp => hk p (hper'.mem_iff.2 (List.mem_cons_of_mem _ hp)), ?_⟩, hper', ⟨rfl, rfl, rfl, by simp, f2, ⟨es, cl, hb⟩⟩⟩
    · simp [Builtin.delete_, run_underlying ht, MapKept.run_getObj_map hb, K.check w _ hx, h1, MapKept.run_setObj_map _ hb, Result.andThen]
    · have := (hper'.map (·.1)).nodup_iff.1 hn
      exact (List.nodup_cons.1 this).2

/-- 'len(m)'. -/
theorem MapIs.len (h : MapIs P k w b M) (ht : P.underlying t = some (.map k e)) (ty : TypeId) : (Builtin.len_ #[t] ty #[.map (some b)]).run P w = .ok (goInt M.length) w := by
  obtain ⟨es, cl, hb, rfl, _, _⟩ := h
  simp [Builtin.len_, run_underlying ht, MapKept.run_getObj_map hb]
end

end Go.Proofs.Ytdgdfnofedlkaaa
