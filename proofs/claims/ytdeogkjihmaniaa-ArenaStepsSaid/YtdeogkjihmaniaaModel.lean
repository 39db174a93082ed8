/-
  Nodes with parents, and the row of those that are kids: the document's arena, as plain lists; what a step does to it.
  Written by an AI agent.
-/
import Derived.Test.YtdeogkjihmaniaaElem
namespace Go.Proofs.Ytdeogkjihmaniaa

structure Nd where
  kind : Int
  space : Int
  name : ByteArray
  attrs : List Atr
  text : ByteArray
  par : Int

structure St where
  l : List Nd
  row : List Int

/-- A node's parent, or -1. -/
def parN (ps : List Int) (x : Int) : Int := if x < 0 then -1 else ps.getD x.toNat (-1)
theorem parN_nat (ps : List Int) (k : Nat) : parN ps (k : Int) = (ps[k]?).getD (-1) := by
  unfold parN
  rw [if_neg (by omega), Int.toNat_natCast, List.getD_eq_getElem?_getD]
theorem parN_get {ps : List Int} {k : Nat} {q : Int} (h : ps[k]? = some q) : parN ps (k : Int) = q := by rw [parN_nat, h]; rfl
theorem parN_set {ps : List Int} {id : Nat} {p : Int} (x : Int) (h : x ≠ id) : parN (ps.set id p) x = parN ps x := by
  unfold parN
  split
  · rfl
  · rw [List.getD_eq_getElem?_getD, List.getD_eq_getElem?_getD, List.getElem?_set_ne (by omega)]
theorem parN_set_self {ps : List Int} {id : Nat} {p : Int} (h : id < ps.length) : parN (ps.set id p) id = p := parN_get (by rw [List.getElem?_set_self h])

def kidsOf (ps row : List Int) (p : Int) : List Int := row.filter fun x => decide (parN ps x = p)
def insAt (l : List Int) (n : Nat) (x : Int) : List Int := l.take n ++ x :: l.drop n
theorem insAt_end (l : List Int) (x : Int) : insAt l l.length x = l ++ [x] := by simp [insAt]

theorem kidsOf_congr {ps ps' row : List Int} {p : Int} (h : ∀ x ∈ row, parN ps' x = parN ps x) : kidsOf ps' row p = kidsOf ps row p :=
  List.filter_congr fun x hx => by rw [h x hx]
theorem kidsOf_append (ps a b : List Int) (p : Int) : kidsOf ps (a ++ b) p = kidsOf ps a p ++ kidsOf ps b p := by unfold kidsOf; rw [List.filter_append]
theorem kidsOf_set {ps row : List Int} {id : Nat} {p : Int} (q : Int) (h : (id : Int) ∉ row) : kidsOf (ps.set id p) row q = kidsOf ps row q :=
  kidsOf_congr fun x hx => parN_set x (fun e => h (by rw [← e]; exact hx))

theorem insAt_mem {l : List Int} {n : Nat} {x y : Int} : y ∈ insAt l n x ↔ y = x ∨ y ∈ l := by
  unfold insAt
  rw [List.mem_append, List.mem_cons]
  have : y ∈ l ↔ y ∈ l.take n ∨ y ∈ l.drop n := by
    conv => lhs; rw [← List.take_append_drop n l]
    exact List.mem_append
  rw [this]
  constructor
  · rintro (h | h | h) <;> simp [h]
  · rintro (h | h | h) <;> simp [h]
theorem insAt_nodup {l : List Int} {n : Nat} {x : Int} (h : l.Nodup) (hx : x ∉ l) : (insAt l n x).Nodup := by
  have hl : (l.take n ++ l.drop n).Nodup := by rw [List.take_append_drop]; exact h
  have hm : ∀ y, y ∈ l.take n → y ≠ x := fun y hy e => hx (by rw [← e]; exact List.mem_of_mem_take hy)
  have hd : x ∉ l.drop n := fun hy => hx (List.mem_of_mem_drop hy)
  unfold insAt
  rw [List.nodup_append] at hl ⊢
  refine ⟨hl.1, List.nodup_cons.2 ⟨hd, hl.2.1⟩, fun a ha b hb => ?_⟩
  rcases List.mem_cons.1 hb with rfl | hb
  · exact hm a ha
  · exact hl.2.2 a ha b hb

theorem kids_ins_other {ps row : List Int} {id n : Nat} {p q : Int} (hid : id < ps.length) (hno : (id : Int) ∉ row) (hq : q ≠ p) : kidsOf (ps.set id p) (insAt row n id) q = kidsOf ps row q := by
  have h1 : (id : Int) ∉ row.take n := fun h => hno (List.mem_of_mem_take h)
  have h2 : (id : Int) ∉ row.drop n := fun h => hno (List.mem_of_mem_drop h)
  unfold insAt
  rw [kidsOf_append, kidsOf_set q h1]
  have : kidsOf (ps.set id p) ((id : Int) :: row.drop n) q = kidsOf ps (row.drop n) q := by
    unfold kidsOf
    rw [List.filter_cons_of_neg (by rw [parN_set_self hid]; simp; exact fun e => hq e.symm)]
    exact kidsOf_set q h2
  rw [this, ← kidsOf_append, List.take_append_drop]
theorem kids_ins {ps row : List Int} {id n : Nat} {p : Int} (hid : id < ps.length) (hno : (id : Int) ∉ row) : kidsOf (ps.set id p) (insAt row n id) p = insAt (kidsOf ps row p) (kidsOf ps (row.take n) p).length id := by
  have h1 : (id : Int) ∉ row.take n := fun h => hno (List.mem_of_mem_take h)
  have h2 : (id : Int) ∉ row.drop n := fun h => hno (List.mem_of_mem_drop h)
  have e1 : kidsOf ps row p = kidsOf ps (row.take n) p ++ kidsOf ps (row.drop n) p := by rw [← kidsOf_append, List.take_append_drop]
  unfold insAt
  rw [kidsOf_append, kidsOf_set p h1, e1, List.take_left' rfl, List.drop_left' rfl]
  congr 1
  unfold kidsOf
  rw [List.filter_cons_of_pos (by rw [parN_set_self hid]; simp)]
  congr 1
  exact kidsOf_set p h2
theorem idxOf_filter {l : List Int} {P : Int → Bool} {x : Int} (hx : P x = true) : (l.filter P).idxOf x = ((l.take (l.idxOf x)).filter P).length := by
  induction l with
  | nil => rfl
  | cons y r ih =>
    by_cases h : y = x
    · subst h
      rw [List.filter_cons_of_pos hx, List.idxOf_cons_self, List.idxOf_cons_self]
      rfl
    · have hne : (y == x) = false := by simpa using h
      rw [List.idxOf_cons, hne]
      simp only [cond_false, List.take_succ_cons]
      cases hy : P y with
      | true =>
        rw [List.filter_cons_of_pos hy, List.filter_cons_of_pos hy, List.idxOf_cons, hne, List.length_cons, ← ih]
        rfl
      | false =>
        rw [List.filter_cons_of_neg (by simp [hy]), List.filter_cons_of_neg (by simp [hy]), ih]

theorem kids_ins_end {ps row : List Int} {id : Nat} {p : Int} (hid : id < ps.length) (hno : (id : Int) ∉ row) : kidsOf (ps.set id p) (insAt row row.length id) p = insAt (kidsOf ps row p) (kidsOf ps row p).length id := by
  rw [kids_ins hid hno, List.take_length]
theorem kids_ins_before {ps row : List Int} {id : Nat} {p next : Int} (hid : id < ps.length) (hno : (id : Int) ∉ row) (hn : parN ps next = p) :
    kidsOf (ps.set id p) (insAt row (row.idxOf next) id) p = insAt (kidsOf ps row p) ((kidsOf ps row p).idxOf next) id := by
  rw [kids_ins hid hno]
  congr 1
  unfold kidsOf
  rw [idxOf_filter (P := fun x => decide (parN ps x = p)) (by simpa using hn)]

theorem eraseIdx_idxOf (l : List Int) (x : Int) : l.eraseIdx (l.idxOf x) = l.erase x := by
  induction l with
  | nil => rfl
  | cons y r ih =>
    rw [List.idxOf_cons, List.erase_cons]
    by_cases h : y = x
    · subst h; simp
    · have hne : (y == x) = false := by simpa using h
      rw [hne]
      simp [ih]
theorem nodup_kids {ps row : List Int} (p : Int) (h : row.Nodup) : (kidsOf ps row p).Nodup := List.Nodup.sublist List.filter_sublist h
theorem kids_erase {ps row : List Int} {id : Nat} {q : Int} (h : row.Nodup) : kidsOf (ps.set id (-1)) (row.erase id) q = (kidsOf ps row q).erase id := by
  rw [List.Nodup.erase_eq_filter h, List.Nodup.erase_eq_filter (nodup_kids q h)]
  have e1 : kidsOf (ps.set id (-1)) (row.filter (fun x => x != (id : Int))) q = kidsOf ps (row.filter (fun x => x != (id : Int))) q := kidsOf_congr fun x hx => parN_set x (by simpa using (List.mem_filter.1 hx).2)
  rw [e1]
  unfold kidsOf
  rw [List.filter_filter, List.filter_filter]
  exact List.filter_congr fun x _ => Bool.and_comm _ _
theorem kids_erase_other {ps row : List Int} {id : Nat} {p q : Int} (h : row.Nodup) (hp : parN ps id = p) (hq : q ≠ p) : kidsOf (ps.set id (-1)) (row.erase id) q = kidsOf ps row q := by
  rw [kids_erase h]
  refine List.erase_of_not_mem fun hm => ?_
  have := (List.mem_filter.1 hm).2
  rw [hp] at this
  simp at this
  exact hq this.symm

/-! ### The state -/
namespace St
def ps (S : St) : List Int := S.l.map (·.par)
def kids (S : St) (p : Int) : List Int := kidsOf S.ps S.row p
def setPar (l : List Nd) (id : Nat) (p : Int) : List Nd := match l[id]? with | some nd => l.set id { nd with par := p } | none => l
def put (S : St) (n id : Nat) (p : Int) : St := ⟨setPar S.l id p, insAt S.row n id⟩
def loosen (S : St) (id : Nat) : St := ⟨setPar S.l id (-1), S.row.erase id⟩
def add (S : St) (nd : Nd) : St := ⟨S.l ++ [nd], S.row⟩
end St
theorem setPar_eq {l : List Nd} {id : Nat} {p : Int} {nd : Nd} (h : l[id]? = some nd) : St.setPar l id p = l.set id { nd with par := p } := by unfold St.setPar; rw [h]
theorem setPar_length (l : List Nd) (id : Nat) (p : Int) : (St.setPar l id p).length = l.length := by unfold St.setPar; split <;> simp
theorem setPar_ps (l : List Nd) (id : Nat) (p : Int) : (St.setPar l id p).map (·.par) = (l.map (·.par)).set id p := by
  unfold St.setPar
  cases h : l[id]? with
  | some nd => dsimp only; rw [List.map_set]
  | none =>
    have : l.length ≤ id := List.getElem?_eq_none_iff.1 h
    dsimp only
    rw [List.set_eq_of_length_le (by simpa using this)]

/-- What holds of a state. -/
structure Good (S : St) : Prop where
  pg : PGood S.ps
  len : S.l.length ≤ 600
  nodup : S.row.Nodup
  rows : ∀ x ∈ S.row, ∃ k p : Nat, x = k ∧ S.ps[k]? = some (p : Int)
  all : ∀ k p : Nat, S.ps[k]? = some (p : Int) → (k : Int) ∈ S.row
  root : ∃ nd, S.l[0]? = some nd ∧ nd.kind = 1 ∧ nd.par = -1

theorem Good.loose {S : St} (h : Good S) {id : Nat} (hp : S.ps[id]? = some (-1)) : (id : Int) ∉ S.row := fun hm => by
  obtain ⟨k, p, e, h1⟩ := h.rows _ hm
  obtain rfl := Int.ofNat.inj e
  rw [hp] at h1
  injection h1
  omega
theorem Good.ps_length (S : St) : S.ps.length = S.l.length := by simp [St.ps]
theorem put_ps (S : St) (n id : Nat) (p : Int) : (S.put n id p).ps = S.ps.set id p := setPar_ps _ _ _
theorem loosen_ps (S : St) (id : Nat) : (S.loosen id).ps = S.ps.set id (-1) := setPar_ps _ _ _

theorem root_setPar {l : List Nd} {id : Nat} {p : Int} (h : ∃ nd, l[0]? = some nd ∧ nd.kind = 1 ∧ nd.par = -1) (hp : id = 0 → p = -1) : ∃ nd, (St.setPar l id p)[0]? = some nd ∧ nd.kind = 1 ∧ nd.par = -1 := by
  obtain ⟨nd, h1, h2, h3⟩ := h
  unfold St.setPar
  cases hi : l[id]? with
  | none => exact ⟨nd, h1, h2, h3⟩
  | some x =>
    dsimp only
    by_cases h0 : id = 0
    · subst h0
      rw [h1] at hi
      obtain rfl := Option.some.inj hi
      rw [List.getElem?_set_self (List.getElem?_eq_some_iff.1 h1).1]
      exact ⟨_, rfl, h2, hp rfl⟩
    · rw [List.getElem?_set_ne h0]
      exact ⟨nd, h1, h2, h3⟩

theorem Good.put {S : St} (h : Good S) {n id p : Nat} (hid : S.ps[id]? = some (-1)) (h0 : id ≠ 0) (hp : p < S.l.length) (hu : ¬ Und S.ps id p) : Good (S.put n id p) := by
  have hlen : id < S.ps.length := (List.getElem?_eq_some_iff.1 hid).1
  have hno := h.loose hid
  refine ⟨by rw [put_ps]; exact h.pg.put hlen (by rw [Good.ps_length]; exact hp) hu, by show (St.setPar S.l id p).length ≤ 600; rw [setPar_length]; exact h.len, insAt_nodup h.nodup hno, fun x hx => ?_, fun k q hk => ?_, root_setPar h.root (fun e => absurd e h0)⟩
  · rw [put_ps]
    rcases insAt_mem.1 hx with rfl | hx
    · exact ⟨id, p, rfl, by rw [List.getElem?_set_self hlen]⟩
    · obtain ⟨k, q, rfl, hk⟩ := h.rows x hx
      refine ⟨k, q, rfl, ?_⟩
      rw [List.getElem?_set_ne (fun e => hno (by rw [e]; exact hx))]
      exact hk
  · rw [put_ps, List.getElem?_set] at hk
    refine insAt_mem.2 ?_
    split at hk
    · rename_i e; left; rw [e]
    · exact .inr (h.all k q hk)

theorem Good.loosen {S : St} (h : Good S) (id : Nat) : Good (S.loosen id) := by
  refine ⟨by rw [loosen_ps]; exact h.pg.loosen id, by show (St.setPar S.l id (-1)).length ≤ 600; rw [setPar_length]; exact h.len, h.nodup.erase _, fun x hx => ?_, fun k q hk => ?_, root_setPar h.root (fun _ => rfl)⟩
  · rw [loosen_ps]
    have hx' := (List.Nodup.mem_erase_iff h.nodup).1 hx
    obtain ⟨k, q, rfl, hk⟩ := h.rows x hx'.2
    refine ⟨k, q, rfl, ?_⟩
    rw [List.getElem?_set_ne (fun e => hx'.1 (by rw [e]))]
    exact hk
  · rw [loosen_ps, List.getElem?_set] at hk
    split at hk
    · split at hk
      · injection hk with hk; omega
      · cases hk
    · rename_i hne
      exact (List.Nodup.mem_erase_iff h.nodup).2 ⟨fun e => hne (Int.ofNat.inj e).symm, h.all k q hk⟩

theorem Good.add {S : St} (h : Good S) (nd : Nd) (hl : S.l.length < 600) (hp : nd.par = -1) : Good (S.add nd) := by
  have e : (S.add nd).ps = S.ps ++ [-1] := by simp [St.add, St.ps, hp]
  refine ⟨by rw [e]; exact h.pg.add, by simp [St.add]; omega, h.nodup, fun x hx => ?_, fun k q hk => ?_, ?_⟩
  · obtain ⟨k, q, rfl, hk⟩ := h.rows x hx
    refine ⟨k, q, rfl, ?_⟩
    rw [e, List.getElem?_append_left (List.getElem?_eq_some_iff.1 hk).1]
    exact hk
  · rw [e, List.getElem?_append] at hk
    split at hk
    · exact h.all k q hk
    · have : k - S.ps.length = 0 := by
        cases hz : k - S.ps.length with
        | zero => rfl
        | succ m => rw [hz] at hk; simp at hk
      rw [this] at hk
      simp at hk
  · obtain ⟨x, h1, h2, h3⟩ := h.root
    refine ⟨x, ?_, h2, h3⟩
    show (S.l ++ [nd])[0]? = some x
    rw [List.getElem?_append_left (List.getElem?_eq_some_iff.1 h1).1]
    exact h1

/-! ### The memory's nodes and the state -/
def ndI (e : It) : Nd := ⟨e.kind, e.space, e.name, e.attrs, e.text, e.par⟩
structure Mod (l : List It) (S : St) : Prop where
  nd : l.map ndI = S.l
  kids : ∀ (k : Nat) (e : It), l[k]? = some e → e.kids = S.kids k

theorem Mod.len {l : List It} {S : St} (m : Mod l S) : l.length = S.l.length := by rw [← m.nd]; simp
theorem Mod.ps {l : List It} {S : St} (m : Mod l S) : parsI l = S.ps := by unfold St.ps; rw [← m.nd, List.map_map]; rfl
theorem Mod.get {l : List It} {S : St} (m : Mod l S) {k : Nat} {e : It} (h : l[k]? = some e) : S.l[k]? = some (ndI e) := by rw [← m.nd, List.getElem?_map, h]; rfl
theorem Mod.ex {l : List It} {S : St} (m : Mod l S) {k : Nat} (h : k < S.l.length) : ∃ e, l[k]? = some e := ⟨_, List.getElem?_eq_getElem (by rw [m.len]; exact h)⟩
theorem Mod.par {l : List It} {S : St} (m : Mod l S) {k : Nat} {e : It} (h : l[k]? = some e) : S.ps[k]? = some e.par := by rw [← m.ps]; exact par_get h

theorem Mod.put {l : List It} {S : St} (m : Mod l S) (g : Good S) {p at_ n id : Nat} {v3 : Value} {ep : It} (hp : l[p]? = some ep) (hid : S.ps[id]? = some (-1)) (hat : kidsOf (S.ps.set id p) (insAt S.row n id) p = insAt ep.kids at_ id) :
    Mod (putL l p at_ id v3) (S.put n id p) := by
  have hlen : id < S.ps.length := (List.getElem?_eq_some_iff.1 hid).1
  have hno := g.loose hid
  have hil : id < l.length := by rw [m.len, ← Good.ps_length]; exact hlen
  have hpl := (List.getElem?_eq_some_iff.1 hp).1
  obtain ⟨l4, hl4⟩ : ∃ l4, l.set p { ep with kids := ep.kids.take at_ ++ (id : Int) :: ep.kids.drop at_, kv := v3 } = l4 := ⟨_, rfl⟩
  have hn4 : l4.map ndI = l.map ndI := by
    rw [← hl4, List.map_set]
    have : (l.map ndI)[p]? = some (ndI ep) := by rw [List.getElem?_map, hp]; rfl
    have h2 := (List.getElem?_eq_some_iff.1 this)
    rw [show ndI { ep with kids := ep.kids.take at_ ++ (id : Int) :: ep.kids.drop at_, kv := v3 } = (l.map ndI)[p]'h2.1 from h2.2.symm]
    exact List.set_getElem_self h2.1
  obtain ⟨ek, hek⟩ : ∃ ek, l4[id]? = some ek := ⟨_, List.getElem?_eq_getElem (by rw [← hl4, List.length_set]; exact hil)⟩
  have hq : putL l p at_ id v3 = l4.set id { ek with par := (p : Int) } := by rw [putL_eq hp (by rw [hl4]; exact hek), hl4]
  have hnk : (l.map ndI)[id]? = some (ndI ek) := by rw [← hn4, List.getElem?_map, hek]; rfl
  rw [hq]
  refine ⟨?_, fun k e hk => ?_⟩
  · rw [List.map_set, hn4, m.nd]
    show _ = St.setPar S.l id p
    rw [setPar_eq (nd := ndI ek) (by rw [← m.nd]; exact hnk)]
    rfl
  · show e.kids = kidsOf (S.put n id p).ps (insAt S.row n id) k
    rw [put_ps]
    have hek4 : ∀ f, l4[k]? = some f → f.kids = kidsOf (S.ps.set id p) (insAt S.row n id) k := by
      intro f hf
      rw [← hl4, List.getElem?_set] at hf
      by_cases hpk : p = k
      · rw [if_pos hpk, if_pos (by omega)] at hf
        obtain rfl := Option.some.inj hf
        subst hpk
        exact hat.symm
      · rw [if_neg hpk] at hf
        rw [m.kids k f hf, kids_ins_other hlen hno (by omega)]
        rfl
    rw [List.getElem?_set] at hk
    by_cases hik : id = k
    · rw [if_pos hik, if_pos (by rw [← hl4, List.length_set]; exact hil)] at hk
      obtain rfl := Option.some.inj hk
      subst hik
      exact hek4 ek hek
    · rw [if_neg hik] at hk
      exact hek4 e hk

theorem Mod.loosen {l : List It} {S : St} (m : Mod l S) (g : Good S) {p id : Nat} {v3 : Value} {ep : It} (hp : l[p]? = some ep) (hid : S.ps[id]? = some (p : Int)) :
    Mod (looseL l p id v3) (S.loosen id) := by
  have hlen : id < S.ps.length := (List.getElem?_eq_some_iff.1 hid).1
  have hil : id < l.length := by rw [m.len, ← Good.ps_length]; exact hlen
  have hpl := (List.getElem?_eq_some_iff.1 hp).1
  obtain ⟨l4, hl4⟩ : ∃ l4, l.set p { ep with kids := ep.kids.eraseIdx (ep.kids.idxOf (id : Int)), kv := v3 } = l4 := ⟨_, rfl⟩
  have hn4 : l4.map ndI = l.map ndI := by
    rw [← hl4, List.map_set]
    have : (l.map ndI)[p]? = some (ndI ep) := by rw [List.getElem?_map, hp]; rfl
    have h2 := (List.getElem?_eq_some_iff.1 this)
    rw [show ndI { ep with kids := ep.kids.eraseIdx (ep.kids.idxOf (id : Int)), kv := v3 } = (l.map ndI)[p]'h2.1 from h2.2.symm]
    exact List.set_getElem_self h2.1
  obtain ⟨ek, hek⟩ : ∃ ek, l4[id]? = some ek := ⟨_, List.getElem?_eq_getElem (by rw [← hl4, List.length_set]; exact hil)⟩
  have hq : looseL l p id v3 = l4.set id { ek with par := -1 } := by rw [looseL_eq hp (by rw [hl4]; exact hek), hl4]
  have hnk : (l.map ndI)[id]? = some (ndI ek) := by rw [← hn4, List.getElem?_map, hek]; rfl
  rw [hq]
  refine ⟨?_, fun k e hk => ?_⟩
  · rw [List.map_set, hn4, m.nd]
    show _ = St.setPar S.l id (-1)
    rw [setPar_eq (nd := ndI ek) (by rw [← m.nd]; exact hnk)]
    rfl
  · show e.kids = kidsOf (S.loosen id).ps (S.row.erase id) k
    rw [loosen_ps]
    have hek4 : ∀ f, l4[k]? = some f → f.kids = kidsOf (S.ps.set id (-1)) (S.row.erase id) k := by
      intro f hf
      rw [← hl4, List.getElem?_set] at hf
      by_cases hpk : p = k
      · rw [if_pos hpk, if_pos (by omega)] at hf
        obtain rfl := Option.some.inj hf
        subst hpk
        rw [kids_erase g.nodup]
        show ep.kids.eraseIdx (ep.kids.idxOf (id : Int)) = _
        rw [eraseIdx_idxOf, m.kids p ep hp]
        rfl
      · rw [if_neg hpk] at hf
        rw [m.kids k f hf, kids_erase_other g.nodup (parN_get hid) (by omega)]
        rfl
    rw [List.getElem?_set] at hk
    by_cases hik : id = k
    · rw [if_pos hik, if_pos (by rw [← hl4, List.length_set]; exact hil)] at hk
      obtain rfl := Option.some.inj hk
      subst hik
      exact hek4 ek hek
    · rw [if_neg hik] at hk
      exact hek4 e hk

theorem Mod.add {l : List It} {S : St} (m : Mod l S) (g : Good S) {e : It} (hp : e.par = -1) (hk : e.kids = []) : Mod (l ++ [e]) (S.add (ndI e)) := by
  have e1 : (S.add (ndI e)).ps = S.ps ++ [-1] := by simp [St.add, St.ps, ndI, hp]
  have hsame : ∀ q, kidsOf (S.ps ++ [-1]) S.row q = kidsOf S.ps S.row q := fun q => kidsOf_congr fun x hx => by
    obtain ⟨k, p, rfl, h⟩ := g.rows x hx
    rw [parN_get h]
    exact parN_get (by rw [List.getElem?_append_left (List.getElem?_eq_some_iff.1 h).1]; exact h)
  refine ⟨by simp [St.add, m.nd], fun k f hf => ?_⟩
  show f.kids = kidsOf (S.add (ndI e)).ps S.row k
  rw [e1, hsame]
  rw [List.getElem?_append] at hf
  split at hf
  · exact m.kids k f hf
  · have hk0 : k = l.length := by
      cases hz : k - l.length with
      | zero => omega
      | succ j => rw [hz] at hf; simp at hf
    have hfe : f = e := by
      have := List.mem_of_getElem? hf
      simpa using this
    rw [hfe, hk]
    symm
    unfold kidsOf
    rw [List.filter_eq_nil_iff]
    intro x hx
    obtain ⟨j, q, rfl, h⟩ := g.rows x hx
    rw [parN_get h]
    simp only [decide_eq_true_eq]
    intro e2
    rcases g.pg.rng j q h with h3 | ⟨r, h3, h4⟩
    · omega
    · rw [Good.ps_length, ← m.len] at h4
      omega

theorem Good.kid_par {S : St} {p : Nat} {x : Int} (hx : x ∈ S.kids p) : ∃ k : Nat, x = k ∧ S.ps[k]? = some (p : Int) ∧ x ∈ S.row := by
  obtain ⟨h1, h2⟩ := List.mem_filter.1 hx
  simp only [decide_eq_true_eq] at h2
  unfold parN at h2
  split at h2
  · omega
  · refine ⟨x.toNat, by omega, ?_, h1⟩
    rw [List.getD_eq_getElem?_getD] at h2
    cases hq : S.ps[x.toNat]? with
    | none => rw [hq] at h2; simp at h2
    | some q => rw [hq] at h2; simp at h2; rw [h2]
theorem Good.mem_kids {S : St} (g : Good S) {k p : Nat} (h : S.ps[k]? = some (p : Int)) : (k : Int) ∈ S.kids p :=
  List.mem_filter.2 ⟨g.all k p h, by simp [parN_get h]⟩
theorem Good.row_len {S : St} (g : Good S) : S.row.length ≤ 600 := by
  have h1 : S.row ⊆ (List.range S.l.length).map Int.ofNat := fun x hx => by
    obtain ⟨k, p, rfl, h⟩ := g.rows x hx
    refine List.mem_map.2 ⟨k, List.mem_range.2 ?_, rfl⟩
    rw [← Good.ps_length]
    exact (List.getElem?_eq_some_iff.1 h).1
  have := List.Nodup.length_le_of_subset g.nodup h1
  simp at this
  have := g.len
  omega
theorem Good.kids_len {S : St} (g : Good S) (p : Int) : (S.kids p).length ≤ 600 := Nat.le_trans (List.length_filter_le _ _) g.row_len

end Go.Proofs.Ytdeogkjihmaniaa
