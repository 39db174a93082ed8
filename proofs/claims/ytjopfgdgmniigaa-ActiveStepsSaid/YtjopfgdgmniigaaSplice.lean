/-
  Laws of rows whose elements have any number of cells: copy into a row of the call's own, append of made zeros.
  Written by an AI agent. No program is named here.
-/
import Derived.Test.YtjopfgdgmniigaaBase
import Derived.Laws.CopyRow
import Derived.Laws.AppendOwn
import Derived.OwnWalk
import Derived.Tactics
namespace Go.Proofs.Ytjopfgdgmniigaa
open Go.RowKit

/-- The cells cs laid over L from place off on. -/
def lay (L : List Value) (off : Nat) (cs : List Value) : List Value := L.take off ++ (cs ++ L.drop (off + cs.length))
theorem lay_length (L : List Value) (off : Nat) (cs : List Value) (h : off + cs.length ≤ L.length) : (lay L off cs).length = L.length := by simp [lay]; omega

section
variable {P : Program} {w : World}
theorem run_copy_rows (dT sT ty elem : TypeId) (c g o dLen dCap : Nat) (a : Addr) (sLen sCap : Nat) (cur : Array Value) (t : TypeId) (cs : List Value)
    (hu : P.underlying dT = some (.slice elem)) (hs : (P.info? elem).map (·.size) = some c)
    (hg : w.heap[g]? = some (.cells cur t (0, 0))) (hn : cs.length = Nat.min sLen dLen * c)
    (hsrc : ∀ j v, cs[j]? = some v → w.cell? (a.add j) = some v) (hfit : o + cs.length ≤ cur.size) (h1 : ∀ v ∈ cs, v.oneCell' = true) :
    (Builtin.copy_ #[dT, sT] ty #[.slice (some ⟨g, o, none⟩) dLen dCap, .slice (some a) sLen sCap]).run P w =
      .ok (goInt (Nat.min sLen dLen)) (w.setRow g (lay cur.toList o cs).toArray) := by
  have hst := run_storeCells_at P g o t cs 0 cur w hg (by simpa using hfit) h1
  cases hq : P.info? elem with
  | none => simp [hq] at hs
  | some i =>
    have hi : i.size = c := by simpa [hq] using hs
    have hl := run_firstCells_some (P := P) w c (Nat.min sLen dLen) a sLen sCap cs hn hsrc
    simp only [Nat.add_zero] at hst
    unfold lay
    rw [← List.append_assoc]
    simp [Builtin.copy_, run_underlying hu, Builtin.lenOf, sizeOf, typeInfo, hq, hi, hl, hst]

/-- A row, over cells laid into it. -/
theorem own_lay {B g n cap c : Nat} {e : TypeId} {xs cs : List Value} {off : Nat} (h : w.ownsRow B e c (.slice (some ⟨g, 0, none⟩) n cap) n xs) (hfit : off + cs.length ≤ xs.length) :
    ∃ cur : Array Value, w.heap[g]? = some (.cells cur e (0, 0)) ∧ off + cs.length ≤ cur.size ∧
      (w.setRow g (lay cur.toList off cs).toArray).ownsRow B e c (.slice (some ⟨g, 0, none⟩) n cap) n (lay xs off cs) ∧ w.grownBy (w.setRow g (lay cur.toList off cs).toArray) (some g) := by
  obtain ⟨hlen, hr⟩ := h
  rcases hr with ⟨he, _⟩ | ⟨g', cap', cur, he, hb, hg, hnc, hm, hsz, hx⟩
  · cases he
  · simp only [Value.slice.injEq, Option.some.injEq, Addr.mk.injEq, and_true] at he
    obtain ⟨rfl, _, rfl⟩ := he
    have hle : n * c ≤ cur.size := by rw [hsz]; exact Nat.mul_le_mul_right _ hnc
    have hfc : off + cs.length ≤ cur.size := by omega
    refine ⟨cur, hg, hfc, ⟨by rw [lay_length _ _ _ hfit]; exact hlen, .inr ⟨g, cap, _, rfl, hb, setRow_heap w g cur _ e _ hg, hnc, hm, ?_, ?_⟩⟩, ⟨rfl, rfl, rfl, by simp [World.setRow], fun k _ hk => setRow_other w g k _ (fun e => hk (by rw [e]))⟩⟩
    · have := lay_length cur.toList off cs (by simpa using hfc)
      simp only [List.size_toArray, this, Array.length_toList, hsz]
    · rw [hlen] at hfit
      rw [← hx]
      apply List.ext_getElem?
      intro j
      unfold lay
      simp only [List.getElem?_take, List.getElem?_append, List.getElem?_drop, List.length_take, Array.length_toList]
      rw [Nat.min_eq_left (by omega : off ≤ cur.size), Nat.min_eq_left hle, Nat.min_eq_left (by omega : off ≤ n * c)]
      by_cases h1 : j < off
      · have h2 : j < n * c := by omega
        simp [h1, h2]
      · by_cases h2 : j - off < cs.length
        · have h3 : j < n * c := by omega
          simp [h1, h2, h3]
        · by_cases h3 : j < n * c
          · have h4 : off + cs.length + (j - off - cs.length) < n * c := by omega
            simp [h1, h2, h3, h4]
          · have h4 : ¬ off + cs.length + (j - off - cs.length) < n * c := by omega
            simp [h1, h2, h3, h4]

theorem wpList_copy_rows {w : World} {ops : Array Oper} {rest : List Oper} {o : Oper} {a : Act} {Q : Exit → Act → World → Prop} (hgd : o.guard = none) (d s : Operand) (dT sT : TypeId)
    (ho : o.op = .call { callee := .builtin .copy, args := #[d, s], argTypes := #[dT, sT] }) (elem : TypeId) (c : Nat) (hu : P.underlying dT = some (.slice elem)) (hsz : (P.info? elem).map (·.size) = some c)
    (g off dLen dCap : Nat) (ad : Addr) (sLen sCap : Nat) (hd : a.eval d = .slice (some ⟨g, off, none⟩) dLen dCap) (hs : a.eval s = .slice (some ad) sLen sCap)
    (B n cap : Nat) (xs cs : List Value) (hown : w.ownsRow B elem c (.slice (some ⟨g, 0, none⟩) n cap) n xs) (hn : cs.length = Nat.min sLen dLen * c)
    (hsrc : ∀ j v, cs[j]? = some v → w.cell? (ad.add j) = some v) (hfit : off + cs.length ≤ xs.length) (h1 : ∀ v ∈ cs, v.oneCell' = true)
    (h : ∀ w', w'.ownsRow B elem c (.slice (some ⟨g, 0, none⟩) n cap) n (lay xs off cs) → w.grownBy w' (some g) → wpList P ops Q rest (a.put o.dst (goInt (Nat.min sLen dLen))) w') :
    wpList P ops Q (o :: rest) a w := by
  obtain ⟨cur, hg, hfc, h2, h3⟩ := own_lay (cs := cs) (off := off) hown hfit
  refine wpList_plain hgd fun K hK => ?_
  have hrun := run_copy_rows (P := P) (w := w) dT sT o.type elem c g off dLen dCap ad sLen sCap cur elem cs hu hsz hg hn hsrc hfc h1
  unfold Oper.wp
  simp [execOp, ho, resolve, invoke, builtin, hd, hs, hrun, Result.andThen]
  exact hK _ _ (h _ h2 h3)

/-- append(s, make(S, m)...), where the room is too small: a new row. -/
theorem run_append_zeros (t tx ty e : TypeId) (q : IntKind) (i : TypeInfo) (z : Value) (ht : P.underlying t = some (.slice e)) (htx : P.underlying tx = some (.int q)) (hi : P.info? e = some i) (hz : i.zero = some z)
    (b : Addr) (sLen sCap m : Nat) (olds : List Value) (hlo : olds.length = sLen * i.size) (holds : ∀ j v, olds[j]? = some v → w.cell? (b.add j) = some v)
    (hm : 0 < m) (hsz : 0 < i.size) (hg : sCap < sLen + m) (h63 : ((sLen + m : Nat) : Int) ≤ 9223372036854775807) (hfit : Builtin.nextslicecap (sLen + m) sCap * i.bytes ≤ 281474976710656) (hmb : m * i.bytes ≤ 281474976710656) :
    (Builtin.append_ #[t, tx] ty #[.slice (some b) sLen sCap, .int .i64 (m : Int)]).run P w =
      .ok (.slice (some ⟨w.heap.size, 0, none⟩) (sLen + m) (grownCap w (sLen + m) sCap e))
        (w.drew.alloc (.cells (olds.toArray ++ Builtin.zeroCells z.cells m ++ Builtin.zeroCells z.cells (grownCap w (sLen + m) sCap e - (sLen + m))) e)) := by
  have hn : ¬ (sLen + m ≤ sCap) := by omega
  have h63' : ¬ (9223372036854775807 < ((sLen : Int) + (m : Int))) := by omega
  have h48' : ¬ (281474976710656 < Builtin.nextslicecap (sLen + m) sCap * i.bytes) := by omega
  have hmb' : ¬ (281474976710656 < (m : Int) * (i.bytes : Int)) := by
    have : ((m * i.bytes : Nat) : Int) ≤ 281474976710656 := Int.ofNat_le.2 hmb
    rw [Int.natCast_mul] at this; omega
  have hw : IntKind.i64.wrap (m : Int) = (m : Int) := IntWalk.i64_in _ (by omega)
  have hneg : ¬ ((m : Int) < 0) := by omega
  have hfo := run_firstCells_some (P := P) w.drew i.size sLen b sLen sCap olds hlo (by simpa using holds)
  simp [Builtin.append_, run_underlying ht, run_underlying htx, sizeOf, typeInfo, zeroValue, hi, hz, Builtin.lenOf, asInt, asIntOf, hw, hneg, hmb', hn, h63', h48', Question.forced, hfo, newRow, grownCap]
  intro h
  rcases Nat.mul_eq_zero.1 h with h | h <;> omega

theorem wpList_append_zeros {w : World} {ops : Array Oper} {rest : List Oper} {o : Oper} {a : Act} {Q : Exit → Act → World → Prop} (hgd : o.guard = none) (s x : Operand) (t tx : TypeId)
    (ho : o.op = .call { callee := .builtin .append, args := #[s, x], argTypes := #[t, tx] })
    (B : Nat) (e : TypeId) (q : IntKind) (i : TypeInfo) (z : Value) (size bytes : Nat) (ht : P.underlying t = some (.slice e)) (htx : P.underlying tx = some (.int q)) (hi : P.info? e = some i) (hz : i.zero = some z)
    (hsize : i.size = size) (hby : i.bytes = bytes) (hzs : z.cells.size = size) (hsz : 0 < size)
    (g n cap m : Nat) (xs : List Value) (hs : a.eval s = .slice (some ⟨g, 0, none⟩) n cap) (hown : w.ownsRow B e size (.slice (some ⟨g, 0, none⟩) n cap) n xs) (hx : a.eval x = .int .i64 (m : Int))
    (hm : 0 < m) (hg : cap < n + m) (h63 : n + m ≤ maxLen) (hbytes : (n + m) * bytes ≤ 140737488355328) (hbase : B ≤ w.heap.size)
    (h : ∀ cap' zs w', zs.length = m * size → n + m ≤ cap' → w'.ownsRow B e size (.slice (some ⟨w.heap.size, 0, none⟩) (n + m) cap') (n + m) (xs ++ zs) → Below w.heap.size w w' → wpList P ops Q rest (a.put o.dst (.slice (some ⟨w.heap.size, 0, none⟩) (n + m) cap')) w') :
    wpList P ops Q (o :: rest) a w := by
  subst hsize hby
  have hsmall : n + m ≤ 9223372036854775807 := by simp only [maxLen] at h63; omega
  have hmb : m * i.bytes ≤ 281474976710656 := by
    have : m * i.bytes ≤ (n + m) * i.bytes := Nat.mul_le_mul_right _ (by omega)
    omega
  have hr := run_append_zeros (P := P) (w := w) t tx o.type e q i z ht htx hi hz ⟨g, 0, none⟩ n cap m xs hown.1 (hown.cells (g := g) rfl) hm hsz hg (by omega) (growslice_fits hg hbytes) hmb
  have hge := grownCap_ge w (n + m) cap e
  have hcm : grownCap w (n + m) cap e ≤ maxLen := grownCap_le_maxLen w (n + m) cap e h63
  have hlz : (Builtin.zeroCells z.cells m).toList.length = m * i.size := by rw [Array.length_toList, size_zeroCells, hzs]
  refine wpList_plain hgd fun K hK => ?_
  unfold Oper.wp execOp
  simp only [ho, resolve, invoke, builtin, Sem.run_bind, Sem.run_pure, Result.andThen_ok, List.map_toArray, List.map_cons, List.map_nil, hs, hx, hr]
  refine hK _ _ (h _ (Builtin.zeroCells z.cells m).toList _ hlz hge ⟨by rw [List.length_append, hown.1, hlz, Nat.add_mul], .inr ⟨w.heap.size, _, _, rfl, hbase, heap_alloc_new w.drew _, hge, hcm, ?_, ?_⟩⟩ ⟨rfl, rfl, rfl, by simp, fun k hk => Below.heap_alloc w.drew _ k hk⟩)
  · simp only [Array.size_append, List.size_toArray, size_zeroCells, hzs, hown.1, ← Nat.add_mul]
    congr 1
    omega
  · simp only [Array.toList_append]
    have : (xs ++ (Builtin.zeroCells z.cells m).toList).length = (n + m) * i.size := by rw [List.length_append, hown.1, hlz, Nat.add_mul]
    rw [← this]
    exact List.take_left

/-- A row, cut to its first elements; a row, one element of its room longer. -/
theorem own_short {B g n cap k c : Nat} {e : TypeId} {xs : List Value} (h : w.ownsRow B e c (.slice (some ⟨g, 0, none⟩) n cap) n xs) (hk : k ≤ n) : w.ownsRow B e c (.slice (some ⟨g, 0, none⟩) k cap) k (xs.take (k * c)) := by
  have hkn : k * c ≤ n * c := Nat.mul_le_mul_right _ hk
  rcases h.2 with ⟨he, _⟩ | ⟨g', cap', cur, he, hb, hg, hnc, hm, hsz, hx⟩
  · cases he
  · simp only [Value.slice.injEq, Option.some.injEq, Addr.mk.injEq, and_true] at he
    obtain ⟨rfl, _, rfl⟩ := he
    refine ⟨by rw [List.length_take, h.1, Nat.min_eq_left hkn], .inr ⟨g, cap, cur, rfl, hb, hg, by omega, hm, hsz, ?_⟩⟩
    rw [← hx, List.take_take, Nat.min_eq_left hkn]
theorem own_room {B g n cap c : Nat} {e : TypeId} {xs : List Value} (h : w.ownsRow B e c (.slice (some ⟨g, 0, none⟩) n cap) n xs) (hk : n + 1 ≤ cap) : ∃ ys, ys.length = c ∧ w.ownsRow B e c (.slice (some ⟨g, 0, none⟩) (n + 1) cap) (n + 1) (xs ++ ys) := by
  have hkn : (n + 1) * c ≤ cap * c := Nat.mul_le_mul_right _ hk
  rcases h.2 with ⟨he, _⟩ | ⟨g', cap', cur, he, hb, hg, hnc, hm, hsz, hx⟩
  · cases he
  · simp only [Value.slice.injEq, Option.some.injEq, Addr.mk.injEq, and_true] at he
    obtain ⟨rfl, _, rfl⟩ := he
    have h1 : (n + 1) * c = n * c + c := by rw [Nat.add_mul]; omega
    refine ⟨(cur.toList.drop (n * c)).take c, by rw [List.length_take, List.length_drop, Array.length_toList]; omega, ?_, .inr ⟨g, cap, cur, rfl, hb, hg, by omega, hm, hsz, ?_⟩⟩
    · have h2 := h.1
      have h3 : cur.toList.length = cap * c := by simpa using hsz
      simp only [List.length_append, List.length_take, List.length_drop, h3]; omega
    · rw [← hx, h1, List.take_add]
theorem own_cap {B g n cap c : Nat} {e : TypeId} {xs : List Value} (h : w.ownsRow B e c (.slice (some ⟨g, 0, none⟩) n cap) n xs) : cap ≤ 9223372036854775807 := by
  rcases h.2 with ⟨he, _⟩ | ⟨g', cap', cur, he, _, _, _, hm, _, _⟩
  · cases he
  · simp only [Value.slice.injEq] at he
    unfold maxLen at hm
    omega
theorem own_length {B n c : Nat} {e : TypeId} {v : Value} {xs : List Value} (h : w.ownsRow B e c v n xs) : xs.length = n * c := h.1
/-- What lies at an element's place. -/
theorem own_at {B g n cap c k : Nat} {e : TypeId} {xs : List Value} (h : w.ownsRow B e c (.slice (some ⟨g, 0, none⟩) n cap) n xs) : ∀ j u, (xs.drop (k * c))[j]? = some u → w.cell? ((⟨g, k * c, none⟩ : Addr).add j) = some u := by
  intro j u hu
  rw [List.getElem?_drop] at hu
  have hc := h.cells (g := g) rfl _ u hu
  have e1 : ∀ o j, (⟨g, o, none⟩ : Addr).add j = ⟨g, o + j, none⟩ := fun o j => by unfold Addr.add; split <;> simp_all
  rw [e1] at hc ⊢
  simpa using hc

/-- Two pieces laid in: an element put in its place. -/
theorem lay_in {xs ys x : List Value} {k c n : Nat} (hx : x.length = c) (hy : ys.length = c) (hk : k ≤ n) (hl : xs.length = n * c) :
    lay (lay (xs ++ ys) ((k + 1) * c) (xs.drop (k * c))) (k * c) x = xs.take (k * c) ++ (x ++ xs.drop (k * c)) := by
  have h1 : (k + 1) * c = k * c + c := by rw [Nat.add_mul]; omega
  have h2 : k * c ≤ xs.length := by rw [hl]; exact Nat.mul_le_mul_right _ hk
  unfold lay
  rw [h1]
  have e1 : (xs ++ ys).take (k * c + c) = xs.take (k * c) ++ ((xs ++ ys).drop (k * c)).take c := by
    rw [List.take_add, List.take_append_of_le_length h2]
  have e2 : ((xs ++ ys).drop (k * c + c + (xs.drop (k * c)).length)) = [] := by
    apply List.drop_eq_nil_of_le
    simp; omega
  have e3 : (((xs ++ ys).drop (k * c)).take c).length = c := by
    simp; omega
  have e4 : (xs.take (k * c)).length = k * c := by simp; omega
  rw [e2, e1, List.append_nil, List.append_assoc, hx]
  rw [List.take_append_of_le_length (by omega), List.take_of_length_le (l := xs.take (k * c)) (by omega)]
  congr 2
  rw [List.drop_append, List.drop_eq_nil_of_le (by omega), List.nil_append, e4, List.drop_append, List.drop_eq_nil_of_le (by omega), List.nil_append, e3]
  simp
theorem lay_grown {xs zs x : List Value} {k c n : Nat} (hx : x.length = c) (hz : zs.length = (n + 1 - k) * c) (hk : k ≤ n) (hl : xs.length = n * c) :
    lay (lay (xs.take (k * c) ++ zs) (k * c) x) ((k + 1) * c) (xs.drop (k * c)) = xs.take (k * c) ++ (x ++ xs.drop (k * c)) := by
  have h1 : (k + 1) * c = k * c + c := by rw [Nat.add_mul]; omega
  have h2 : k * c ≤ xs.length := by rw [hl]; exact Nat.mul_le_mul_right _ hk
  have h3 : zs.length = (n - k) * c + c := by rw [hz, show n + 1 - k = (n - k) + 1 from by omega, Nat.add_mul]; omega
  have h5 : n * c = (n - k) * c + k * c := by rw [← Nat.add_mul]; congr 1; omega
  have e4 : (xs.take (k * c)).length = k * c := by simp; omega
  unfold lay
  rw [h1, hx]
  rw [List.take_append_of_le_length (l₁ := xs.take (k * c)) (by omega), List.take_of_length_le (l := xs.take (k * c)) (by omega)]
  rw [List.drop_append, List.drop_eq_nil_of_le (as := xs.take (k * c)) (by omega), List.nil_append, e4]
  rw [List.take_append, List.take_of_length_le (l := xs.take (k * c)) (by omega), e4, List.take_append_of_le_length (l₁ := x) (by omega), List.take_of_length_le (l := x) (by omega)]
  rw [List.append_assoc]
  congr 2
  have e6 : (xs.take (k * c) ++ (x ++ zs.drop (k * c + c - k * c))).drop (k * c + c + (xs.drop (k * c)).length) = [] := by
    apply List.drop_eq_nil_of_le
    simp; omega
  rw [e6, List.append_nil]

end
end Go.Proofs.Ytjopfgdgmniigaa
