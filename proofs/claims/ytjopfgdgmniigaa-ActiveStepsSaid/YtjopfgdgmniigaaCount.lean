/-
  A map that counts attributes: look-up and 'm[a]++'.
  Written by an AI agent.
-/
import Derived.Test.YtjopfgdgmniigaaBase
import Derived.Test.YtjopfgdgmniigaaProg
import Derived.Maps.Keyed
import Derived.DeepKeys4
import Derived.WideKeyEntry
import Derived.MapKept
import Derived.KernelRfl
namespace Go.Proofs.Ytjopfgdgmniigaa
open Go.RowKit Go.Maps

theorem laid : laidOutB Try.prog = true := by kernel_rfl

/-- An attribute: a name, a value. -/
abbrev Atr := ByteArray × ByteArray
def keyV (x : Atr) : Value := .agg #[.string x.1, .string x.2]
theorem K60 : Keyed Try.prog 60 := Keyed.of_law (deep_law_laid laid (m := 2) (by omega) (of_decide_eq_true (by kernel_rfl)) (by kernel_rfl) (by kernel_rfl))

theorem keyV_inj {x y : Atr} (h : keyV x = keyV y) : x = y := by
  unfold keyV at h
  simp at h
  exact Prod.ext h.1 h.2

/-- How often an attribute stands in a list. -/
def cnt (x : Atr) (l : List Atr) : Nat := (l.filter fun y => decide (y = x)).length

def AtrOk (x : Atr) : Prop := x.1.size ≤ maxLen ∧ x.2.size ≤ maxLen

theorem cells60 : Try.prog.cellsOf 60 = 2 := by kernel_rfl
theorem cells9 : Try.prog.cellsOf 9 = 1 := by kernel_rfl
theorem types105 : Try.prog.types.size = 105 := by kernel_rfl

theorem kt60 : Try.prog.keyType 60 = true := by kernel_rfl

theorem lits60 (d : Nat) {a b : ByteArray} (h1 : a.size ≤ maxLen) (h2 : b.size ≤ maxLen) : Try.prog.keyLits (d + 2) 60 [.string a, .string b] = some [.string a.data.toList, .string b.data.toList] := by
  have e (s : ByteArray) (h : s.size ≤ maxLen) : Try.prog.keyLits (d + 1) 9 [.string s] = some [.string s.data.toList] := by
    unfold Program.keyLits
    rw [Try.underlying9]
    simp only
    rw [if_pos h]
  unfold Program.keyLits
  rw [Try.underlying60]
  simp only [cells60]
  rw [if_pos ⟨rfl, by kernel_rfl⟩]
  simp [cells9, e a h1, e b h2]

theorem keyV_lit {x : Atr} (h : AtrOk x) : ∃ l, keyOf Try.prog 60 (keyV x) = some l := by
  obtain ⟨a, b⟩ := x
  obtain ⟨h1, h2⟩ := h
  simp only at h1 h2
  have hf : (keyV (a, b)).formed Try.prog 60 = true := by
    unfold Value.formed keyV
    simp only
    rw [Try.underlying60]
    simp only
    rw [cells60]; rfl
  unfold keyOf
  rw [Try.underlying60]
  simp only
  rw [kt60, hf, types105]
  simp only [Bool.and_self, if_true]
  have := lits60 104 h1 h2
  exact ⟨_, by rw [show (105 + 1 : Nat) = 104 + 2 from rfl]; unfold keyV Value.cells; simp only; rw [this]; rfl⟩

/-- Block b is a map in which each attribute of l has how often it stands there. -/
def CntIs (w : World) (b : Nat) (l : List Atr) : Prop :=
  ∃ es clock, w.heap[b]? = some (.map es clock) ∧ (∀ e ∈ es.toList, e.born < clock) ∧ (es.toList.map (·.born)).Nodup ∧ (es.toList.map (·.key)).Nodup ∧
    (∀ e ∈ es.toList, ∃ x, AtrOk x ∧ e.key = keyV x ∧ e.val = .int .i64 (cnt x l)) ∧ (∀ x ∈ l, ∃ e ∈ es.toList, e.key = keyV x)

theorem CntIs.lt {w : World} {b : Nat} {l : List Atr} (h : CntIs w b l) : b < w.heap.size := by
  obtain ⟨es, c, h, _⟩ := h
  exact (Array.getElem?_eq_some_iff.1 h).1
theorem CntIs.same {w w' : World} {b : Nat} {l : List Atr} (h : CntIs w b l) (hb : w'.heap[b]? = w.heap[b]?) : CntIs w' b l := by
  obtain ⟨es, c, h, r⟩ := h
  exact ⟨es, c, hb.trans h, r⟩
theorem CntIs.made (w : World) : CntIs (w.alloc (.map #[] 0)) w.heap.size [] := ⟨#[], 0, Go.heap_alloc_new w _, by simp, by simp, by simp, by simp, by simp⟩
theorem cnt_none {x : Atr} {l : List Atr} (h : x ∉ l) : cnt x l = 0 := by
  unfold cnt
  rw [List.length_eq_zero_iff, List.filter_eq_nil_iff]
  intro y hy
  simp
  rintro rfl
  exact h hy
theorem zero3 (w : World) : (zeroValue 3).run Try.prog w = .ok (.int .i64 0) w := by kernel_rfl

/-- 'm[x]'. -/
theorem CntIs.look {w : World} {b : Nat} {l : List Atr} (h : CntIs w b l) {x : Atr} (hx : AtrOk x) : (Instr.lookup 83 (.map (some b)) (keyV x) false).run Try.prog w = .ok (.int .i64 (cnt x l)) w := by
  obtain ⟨es, cl, hb, _, _, hn, hk, hall⟩ := h
  obtain ⟨lt, hlit⟩ := keyV_lit hx
  have hk' : ∀ e ∈ es.toList, ∃ l, keyOf Try.prog 60 e.key = some l := fun e he => by
    obtain ⟨y, hy, hey, _⟩ := hk e he
    rw [hey]; exact keyV_lit hy
  rcases K60.find w hlit es.toList hk' with ⟨h1, h2⟩ | ⟨j, e0, h1, h2, h3⟩
  · have hno : x ∉ l := fun hm => by
      obtain ⟨e, he, hek⟩ := hall x hm
      exact h2 e he hek
    rw [cnt_none hno]
    simp [Instr.lookup, run_underlying Try.underlying83, MapKept.run_getObj_map hb, K60.check w _ hlit, h1, Result.andThen]
  · obtain ⟨y, _, hey, hv⟩ := hk e0 (List.mem_of_getElem? h2)
    obtain rfl := keyV_inj (hey.symm.trans h3)
    simp [Instr.lookup, run_underlying Try.underlying83, MapKept.run_getObj_map hb, K60.check w _ hlit, h1, hv, Result.andThen]

theorem cnt_snoc (x y : Atr) (l : List Atr) : cnt x (l ++ [y]) = cnt x l + if y = x then 1 else 0 := by
  unfold cnt
  rw [List.filter_append, List.length_append]
  by_cases h : y = x <;> simp [h]

/-- The store into an entry that is there. -/
theorem cnt_store {w : World} {b : Nat} {l : List Atr} {es : Array MapEntry} {cl : Nat} (hb : w.heap[b]? = some (.map es cl)) (hlt : ∀ e ∈ es.toList, e.born < cl) (hn : (es.toList.map (·.born)).Nodup) (hkn : (es.toList.map (·.key)).Nodup)
    (hk : ∀ e ∈ es.toList, ∃ x, AtrOk x ∧ e.key = keyV x ∧ e.val = .int .i64 (cnt x l)) (hall : ∀ x ∈ l, ∃ e ∈ es.toList, e.key = keyV x) {x : Atr} {j : Nat} {e0 : MapEntry} (hj : es.toList[j]? = some e0) (he : e0.key = keyV x) :
    ∃ w2, (Instr.entryStore 83 (.map (some b)) (.int .i64 e0.born) (.int .i64 ((cnt x l : Nat) + 1 : Int))).run Try.prog w = .ok () w2 ∧ CntIs w2 b (l ++ [x]) ∧
        (w2.os = w.os ∧ w2.output = w.output ∧ w2.tape = w.tape ∧ w2.heap.size = w.heap.size ∧ ∀ k, k ≠ b → w2.heap[k]? = w.heap[k]?) := by
  have hbl := (Array.getElem?_eq_some_iff.1 hb).1
  have hidx : es.findIdx? (fun e => ((e.born : Nat) : Int) == ((e0.born : Nat) : Int)) = some j := by
    rw [WideElems.findIdx_arr]
    exact WideElems.findIdx_born hn hj
  have hjl : j < es.toList.length := (List.getElem?_eq_some_iff.1 hj).1
  have hj0 : es.toList[j] = e0 := (List.getElem?_eq_some_iff.1 hj).2
  obtain ⟨A, C, hsp, hmod⟩ : ∃ A C, es.toList = A ++ e0 :: C ∧ ∀ v, (es.modify j fun e => { e with val := v }).toList = A ++ { e0 with val := v } :: C := by
    refine ⟨es.toList.take j, es.toList.drop (j + 1), ?_, fun v => ?_⟩
    · have hd := List.drop_eq_getElem_cons hjl
      rw [hj0] at hd
      rw [← hd, List.take_append_drop]
    · rw [Array.toList_modify, List.modify_eq_take_cons_drop hjl, hj0]
  refine ⟨{ w with heap := w.heap.setIfInBounds b (.map (es.modify j fun e => { e with val := .int .i64 ((cnt x l : Nat) + 1 : Int) }) cl) }, ?_, ⟨es.modify j fun e => { e with val := .int .i64 ((cnt x l : Nat) + 1 : Int) }, cl, by simp [hbl], ?_⟩, ⟨rfl, rfl, rfl, by simp, fun k hk => by simp [Ne.symm hk]⟩⟩
  · simp [Instr.entryStore, MapKept.run_getObj_map hb, asInt, asIntOf, hidx, MapKept.run_setObj_map _ hb, Result.andThen]
  · rw [hmod]
    rw [hsp] at hlt hn hkn hk hall
    have hne : ∀ e ∈ A ++ C, e.key ≠ keyV x := fun e hm heq => by
      have hp : (A ++ e0 :: C).Perm (e0 :: (A ++ C)) := List.perm_middle
      have h2 := (hp.map (·.key)).nodup_iff.1 hkn
      simp only [List.map_cons, List.nodup_cons] at h2
      exact h2.1 (by rw [he, ← heq]; exact List.mem_map_of_mem hm)
    refine ⟨?_, by simpa using hn, by simpa using hkn, ?_, ?_⟩
    · intro e hm
      rcases List.mem_append.1 hm with hm | hm
      · exact hlt e (List.mem_append_left _ hm)
      · rcases List.mem_cons.1 hm with rfl | hm
        · exact hlt e0 (by simp)
        · exact hlt e (by simp [hm])
    · intro e hm
      have hcase : e = { e0 with val := .int .i64 ((cnt x l : Nat) + 1 : Int) } ∨ e ∈ A ++ C := by
        rcases List.mem_append.1 hm with hm | hm
        · exact .inr (List.mem_append_left _ hm)
        · rcases List.mem_cons.1 hm with rfl | hm
          · exact .inl rfl
          · exact .inr (List.mem_append_right _ hm)
      rcases hcase with rfl | hm
      · obtain ⟨y, hy, hey, _⟩ := hk e0 (by simp)
        obtain rfl := keyV_inj (hey.symm.trans he)
        refine ⟨y, hy, hey, ?_⟩
        rw [cnt_snoc, if_pos rfl]
        simp
      · obtain ⟨y, hy, hey, hv⟩ := hk e (by rcases List.mem_append.1 hm with h | h <;> simp [h])
        refine ⟨y, hy, hey, ?_⟩
        rw [cnt_snoc, if_neg (fun h => hne e hm (by rw [hey, h]))]
        simpa using hv
    · intro y hy
      have hold : (∃ e ∈ A ++ e0 :: C, e.key = keyV y) := by
        rcases List.mem_append.1 hy with hy | hy
        · exact hall y hy
        · obtain rfl := List.mem_singleton.1 hy
          exact ⟨e0, by simp, he⟩
      obtain ⟨e, hm, hek⟩ := hold
      rcases List.mem_append.1 hm with hm | hm
      · exact ⟨e, by simp [hm], hek⟩
      · rcases List.mem_cons.1 hm with rfl | hm
        · exact ⟨_, List.mem_append_right _ (List.mem_cons_self ..), hek⟩
        · exact ⟨e, by simp [hm], hek⟩

/-- 'm[x]' that is to be written, and the store behind it: both as equations on runs. -/
theorem CntIs.entry {w : World} {b : Nat} {l : List Atr} (h : CntIs w b l) {x : Atr} (hx : AtrOk x) :
    ∃ st w1, (Instr.mapEntry 83 (.map (some b)) (keyV x)).run Try.prog w = .ok (.tuple #[.int .i64 (cnt x l), .int .i64 st]) w1 ∧
      (Instr.lookup 83 (.map (some b)) (keyV x) false).run Try.prog w1 = .ok (.int .i64 (cnt x l)) w1 ∧
      (w1.os = w.os ∧ w1.output = w.output ∧ w1.tape = w.tape ∧ w1.heap.size = w.heap.size ∧ ∀ k, k ≠ b → w1.heap[k]? = w.heap[k]?) ∧
      ∃ w2, (Instr.entryStore 83 (.map (some b)) (.int .i64 st) (.int .i64 ((cnt x l : Nat) + 1 : Int))).run Try.prog w1 = .ok () w2 ∧ CntIs w2 b (l ++ [x]) ∧
        (w2.os = w.os ∧ w2.output = w.output ∧ w2.tape = w.tape ∧ w2.heap.size = w.heap.size ∧ ∀ k, k ≠ b → w2.heap[k]? = w.heap[k]?) := by
  obtain ⟨es, cl, hb, hlt, hn, hkn, hk, hall⟩ := h
  have hbl := (Array.getElem?_eq_some_iff.1 hb).1
  obtain ⟨lt, hlit⟩ := keyV_lit hx
  have hk' : ∀ e ∈ es.toList, ∃ l, keyOf Try.prog 60 e.key = some l := fun e he => by
    obtain ⟨y, hy, hey, _⟩ := hk e he
    rw [hey]; exact keyV_lit hy
  rcases K60.find w hlit es.toList hk' with ⟨h1, h2⟩ | ⟨j, e0, h1, h2, h3⟩
  · have hno : x ∉ l := fun hm => by
      obtain ⟨e, he, hek⟩ := hall x hm
      exact h2 e he hek
    have hc := cnt_none hno
    have f1 : ({ w with heap := w.heap.setIfInBounds b (.map (es.push ⟨keyV x, .int .i64 0, cl⟩) (cl + 1)) } : World).heap[b]? = some (.map (es.push ⟨keyV x, .int .i64 0, cl⟩) (cl + 1)) := by simp [hbl]
    have g1 : ∀ e ∈ (es.push ⟨keyV x, .int .i64 0, cl⟩).toList, e.born < cl + 1 := by
      intro e he
      simp only [Array.toList_push, List.mem_append, List.mem_singleton] at he
      rcases he with he | rfl
      · have := hlt e he; omega
      · simp
    have g2 : ((es.push ⟨keyV x, .int .i64 0, cl⟩).toList.map (·.born)).Nodup := by
      simp only [Array.toList_push, List.map_append, List.map_cons, List.map_nil]
      refine List.nodup_append.2 ⟨hn, by simp, fun a ha c hc e1 => ?_⟩
      simp only [List.mem_singleton] at hc
      obtain ⟨y, hy, rfl⟩ := List.mem_map.1 ha
      have := hlt y hy
      omega
    have g3 : ((es.push ⟨keyV x, .int .i64 0, cl⟩).toList.map (·.key)).Nodup := by
      simp only [Array.toList_push, List.map_append, List.map_cons, List.map_nil]
      refine List.nodup_append.2 ⟨hkn, by simp, fun a ha c hc e1 => ?_⟩
      simp only [List.mem_singleton] at hc
      obtain ⟨y, hy, rfl⟩ := List.mem_map.1 ha
      exact h2 y hy (e1.trans hc)
    have g4 : ∀ e ∈ (es.push ⟨keyV x, .int .i64 0, cl⟩).toList, ∃ y, AtrOk y ∧ e.key = keyV y ∧ e.val = .int .i64 (cnt y l) := by
      intro e he
      simp only [Array.toList_push, List.mem_append, List.mem_singleton] at he
      rcases he with he | rfl
      · exact hk e he
      · exact ⟨x, hx, rfl, by rw [hc]; rfl⟩
    have g5 : ∀ y ∈ l, ∃ e ∈ (es.push ⟨keyV x, .int .i64 0, cl⟩).toList, e.key = keyV y := by
      intro y hy
      obtain ⟨e, he, hek⟩ := hall y hy
      exact ⟨e, by simp [he], hek⟩
    refine ⟨cl, { w with heap := w.heap.setIfInBounds b (.map (es.push ⟨keyV x, .int .i64 0, cl⟩) (cl + 1)) }, ?_, CntIs.look ⟨_, _, f1, g1, g2, g3, g4, g5⟩ hx, ⟨rfl, rfl, rfl, by simp, fun k hk => by simp [Ne.symm hk]⟩, ?_⟩
    · rw [hc]
      simp [Instr.mapEntry, run_underlying Try.underlying83, MapKept.run_getObj_map hb, K60.check w false hlit, h1, MapKept.run_setObj_map _ hb, Result.andThen, goInt]
    · obtain ⟨w2, q1, q2, q3, q4, q5, q6, q7⟩ := cnt_store (x := x) (j := es.size) (e0 := ⟨keyV x, .int .i64 0, cl⟩) f1 g1 g2 g3 g4 g5 (by simp) rfl
      exact ⟨w2, q1, q2, q3, q4, q5, by rw [q6]; simp, fun k hk => by rw [q7 k hk]; simp [Ne.symm hk]⟩
  · have hj : es[j]? = some e0 := by simpa using h2
    have hsame : es.modify j (fun e => { e with key := keyV x }) = es := by
      apply Array.ext'
      have hjl : j < es.toList.length := (List.getElem?_eq_some_iff.1 h2).1
      have hj0 : es.toList[j] = e0 := (List.getElem?_eq_some_iff.1 h2).2
      rw [Array.toList_modify, List.modify_eq_take_cons_drop hjl, hj0]
      have : ({ e0 with key := keyV x } : MapEntry) = e0 := by rw [← h3]
      rw [this, ← hj0, ← List.drop_eq_getElem_cons hjl, List.take_append_drop]
    obtain ⟨y, hy, hey, hv⟩ := hk e0 (List.mem_of_getElem? h2)
    obtain rfl := keyV_inj (hey.symm.trans h3)
    have hw : ({ w with heap := w.heap.setIfInBounds b (.map es cl) } : World) = w := by
      have : w.heap.setIfInBounds b (.map es cl) = w.heap := by
        apply Array.ext_getElem?
        intro i
        by_cases hi : i = b
        · rw [hi, hb]; simp [hbl]
        · simp [Ne.symm hi]
      rw [this]
    refine ⟨e0.born, w, ?_, CntIs.look ⟨es, cl, hb, hlt, hn, hkn, hk, hall⟩ hx, ⟨rfl, rfl, rfl, rfl, fun _ _ => rfl⟩, cnt_store hb hlt hn hkn hk hall h2 h3⟩
    simp [Instr.mapEntry, run_underlying Try.underlying83, MapKept.run_getObj_map hb, K60.check w false hlit, h1, hj, h3, K60.stays w hlit, hsame, MapKept.run_setObj_map _ hb, Result.andThen, goInt, hv, hw]

end Go.Proofs.Ytjopfgdgmniigaa
