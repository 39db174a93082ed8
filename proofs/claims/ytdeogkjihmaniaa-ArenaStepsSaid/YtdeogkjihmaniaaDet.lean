/-
  (*Arena).Detach, walked.
  Written by an AI agent.
-/
import Derived.Test.YtdeogkjihmaniaaDel
namespace Go.Proofs.Ytdeogkjihmaniaa
open Go.RowKit
attribute [local go_sem ↓] Go.wp_at_zero Go.wp_at_succ

theorem ArenaAt.drew {w : World} {B a : Nat} {v : Value} {l : List It} (h : ArenaAt w B a v l) : ArenaAt w.drew B a v l := h.below (Below.refl _ _).drew
theorem Went.of_drew {w w' : World} {B : Nat} {l l' : List It} (h : Went B l w.drew l' w') : Went B l w l' w' := (Went.of_below (Below.refl _ w).drew B l).trans h

/-- A node taken from p's kids. -/
def looseL (l : List It) (p k : Nat) (v3 : Value) : List It :=
  match l[p]? with
  | some ep => match (l.set p { ep with kids := ep.kids.eraseIdx (ep.kids.idxOf (k : Int)), kv := v3 })[k]? with
    | some ek => (l.set p { ep with kids := ep.kids.eraseIdx (ep.kids.idxOf (k : Int)), kv := v3 }).set k { ek with par := -1 }
    | none => l
  | none => l

theorem looseL_eq {l : List It} {p k : Nat} {v3 : Value} {ep ek : It} (hp : l[p]? = some ep) (hk : (l.set p { ep with kids := ep.kids.eraseIdx (ep.kids.idxOf (k : Int)), kv := v3 })[k]? = some ek) :
    looseL l p k v3 = (l.set p { ep with kids := ep.kids.eraseIdx (ep.kids.idxOf (k : Int)), kv := v3 }).set k { ek with par := -1 } := by
  unfold looseL
  rw [hp]
  dsimp only
  rw [hk]

def DetIt (B : Nat) (a : Nat) (l : List It) (p k : Nat) (w : World) (e : Ending) (w' : World) : Prop :=
  e = .returned (i64 0) ∧ ∃ v v3, ArenaAt w' B a v (looseL l p k v3) ∧ Went B l w (looseL l p k v3) w'

theorem det_bad {w : World} {B a : Nat} {id : Int} {v : Value} {l : List It} (h : ArenaAt w B a v l) (hb : isB l id = false) : Calls Try.prog 27 #[ptr a, i64 id] w fun e w' => e = .returned (i64 1) ∧ w = w' := by
  have H := Lib.hid (And.intro h hb)
  clear h hb
  go_enter Try.func27, Try.ntmps27
  go_wp2_with (first
    | (go_at_call 35; (with_reducible refine (is_any H.out.1 H.out.2).mono ?_); rintro e w1 ⟨rfl, rfl⟩))
  go_ret
  exact ⟨rfl, rfl⟩

theorem det_loose {w : World} {B a id : Nat} {v : Value} {l : List It} {e : It} (h : ArenaAt w B a v l) (he : l[id]? = some e) (hp : e.par = -1) : Calls Try.prog 27 #[ptr a, i64 id] w fun e w' => e = .returned (i64 7) ∧ w = w' := by
  have hb : isB l id = true := by rw [isB_get, getI_nat, he]; rfl
  have H := Lib.hid (And.intro h hb)
  obtain ⟨ad, c, rfl, hlc, hc9, hrr⟩ := h.form
  obtain ⟨g, rfl, hgB, hgs, hc⟩ := hrr (fun e => by rw [e] at he; simp at he)
  have c0 := h.blk.cell 0 (.slice (some ⟨g, 0, none⟩) l.length c) rfl
  obtain ⟨_, _, _, _, _, _, d6, _⟩ := hc id e he
  have hid := (List.getElem?_eq_some_iff.1 he).1
  obtain ⟨n, hn⟩ : ∃ n, l.length = n := ⟨_, rfl⟩
  rw [hn] at hlc c0 hid
  rw [hp] at d6
  clear hrr hc h hn he hp hb
  go_enter Try.func27, Try.ntmps27
  go_wp2_with (first
    | (go_at_call 35; (with_reducible refine (is_any H.out.1 H.out.2).mono ?_); rintro e w1 ⟨rfl, rfl⟩))
  go_ret
  exact ⟨rfl, rfl⟩

/-- Behind Delete. -/
theorem del_turn {w w3 : World} {B a p g n c g3 m kc at_ : Nat} {l : List It} {ep : It} (h : ArenaAt w B a (.slice (some ⟨g, 0, none⟩) n c) l) (hp : l[p]? = some ep) (hk : ep.kv = .slice (some ⟨g3, 0, none⟩) (m + 1) kc) (hm : ep.kids.length = m + 1) (hat : at_ ≤ m)
    (h3 : w3.ownsRow B 3 1 (.slice (some ⟨g3, 0, none⟩) m kc) m ((ep.kids.eraseIdx at_).map i64)) (hg : w.grownBy w3 (some g3)) :
    ArenaAt (w3.setCell ⟨g, p * 8 + 7, none⟩ (.slice (some ⟨g3, 0, none⟩) m kc)) B a (.slice (some ⟨g, 0, none⟩) n c) (l.set p { ep with kids := ep.kids.eraseIdx at_, kv := .slice (some ⟨g3, 0, none⟩) m kc }) ∧
      Went B l w (l.set p { ep with kids := ep.kids.eraseIdx at_, kv := .slice (some ⟨g3, 0, none⟩) m kc }) (w3.setCell ⟨g, p * 8 + 7, none⟩ (.slice (some ⟨g3, 0, none⟩) m kc)) ∧
      w3.cell? ⟨a, 0, none⟩ = some (.slice (some ⟨g, 0, none⟩) n c) ∧ w3.cell? ⟨g, p * 8 + 7, none⟩ = some (.slice (some ⟨g3, 0, none⟩) (m + 1) kc) ∧ w3.frozen? ⟨g, p * 8 + 7, none⟩ = false := by
  have hlen : (ep.kids.eraseIdx at_).length = m := by rw [List.length_eraseIdx]; split <;> omega
  have hfew := (h.its ep (List.mem_of_getElem? hp)).few
  obtain ⟨r1, r2, r3, r4⟩ := h.kids_turn (w3 := w3) (v3 := .slice (some ⟨g3, 0, none⟩) m kc) (ks := ep.kids.eraseIdx at_) hp (by rw [hk]; exact hg) (by rw [hlen]; exact h3) (fun k hkk => by
    rw [hk]
    exact .inl hkk) (by omega)
  refine ⟨r1, r2, r3.cell 0 _ rfl, ?_, own_fro r4 _⟩
  have hln : n = l.length := by
    obtain ⟨ad, c', e⟩ := own_slice h.row
    simp only [Value.slice.injEq] at e
    exact e.2.1
  have h4 := (flatI_get l p ep hp 7 (by omega))
  have hc := r4.cells (g := g) rfl (p * 8 + 7) _ (h4.trans rfl)
  have ea : (⟨g, 0, none⟩ : Addr).add (p * 8 + 7) = ⟨g, p * 8 + 7, none⟩ := by unfold Addr.add; split <;> simp_all
  rw [ea, hk] at hc
  exact hc

theorem split_at {l : List Int} {at_ m : Nat} (hm : l.length = m + 1) (hat : at_ ≤ m) : ∃ A x C, l = A ++ x :: C ∧ A.length = at_ ∧ C.length = m - at_ ∧ l.eraseIdx at_ = A ++ C := by
  have hal : at_ < l.length := by omega
  refine ⟨l.take at_, l[at_], l.drop (at_ + 1), ?_, by rw [List.length_take]; omega, by rw [List.length_drop]; omega, ?_⟩
  · rw [← List.drop_eq_getElem_cons hal, List.take_append_drop]
  · exact List.eraseIdx_eq_take_drop_succ l at_

theorem del_kids {w : World} {B a p g3 m kc at_ : Nat} {v : Value} {l : List It} {ep : It} (h : ArenaAt w B a v l) (hp : l[p]? = some ep) (hk : ep.kv = .slice (some ⟨g3, 0, none⟩) (m + 1) kc) (hm : ep.kids.length = m + 1) (hat : at_ ≤ m) :
    Calls Try.prog 50 #[.slice (some ⟨g3, 0, none⟩) (m + 1) kc, i64 at_, .int .i64 ((at_ : Int) + 1)] w (DelIt B g3 m kc ((ep.kids.eraseIdx at_).map i64) w) := by
  have hi := h.its ep (List.mem_of_getElem? hp)
  have h0 := hi.kids
  have hfew := hi.few
  rw [hk, hm] at h0
  obtain ⟨A, x, C, e1, hA, hC, e2⟩ := split_at hm hat
  rw [e1] at h0
  rw [e2]
  obtain ⟨k, hkk⟩ : ∃ k, m - at_ = k := ⟨_, rfl⟩
  have hmk : m = at_ + k := by omega
  subst hmk
  have e3 : at_ + k + 1 = at_ + 1 + k := by omega
  rw [e3] at h0 ⊢
  exact delete_one h0 hA (by omega) (by omega)

theorem idxZ_mem {x : Int} {l : List Int} (h : x ∈ l) : idxZ x l = (l.idxOf x : Nat) := if_pos h

set_option maxHeartbeats 4000000 in
theorem det_ok {w : World} {B a id p : Nat} {v : Value} {l : List It} {e ep : It} (h : ArenaAt w B a v l) (he : l[id]? = some e) (hep : e.par = p) (hp : l[p]? = some ep) (hin : (id : Int) ∈ ep.kids) :
    Calls Try.prog 27 #[ptr a, i64 id] w (DetIt B a l p id w) := by
  have hb : isB l id = true := by rw [isB_get, getI_nat, he]; rfl
  obtain ⟨ad, c, rfl, hlc, hc9, hrr⟩ := h.form
  obtain ⟨g, rfl, hgB, hgs, hc⟩ := hrr (fun e => by rw [e] at he; simp at he)
  have c0 := h.blk.cell 0 (.slice (some ⟨g, 0, none⟩) l.length c) rfl
  obtain ⟨_, _, _, _, _, _, d6, _⟩ := hc id e he
  obtain ⟨_, _, _, _, _, _, _, d7⟩ := hc p ep hp
  have hid := (List.getElem?_eq_some_iff.1 he).1
  have hpl := (List.getElem?_eq_some_iff.1 hp).1
  have hlt : ep.kids.idxOf (id : Int) < ep.kids.length := List.idxOf_lt_length_iff.2 hin
  obtain ⟨at_, hat⟩ : ∃ at_, ep.kids.idxOf (id : Int) = at_ := ⟨_, rfl⟩
  obtain ⟨m, hm⟩ : ∃ m, ep.kids.length = m + 1 := ⟨ep.kids.length - 1, by omega⟩
  obtain ⟨g3, kc, hkv⟩ : ∃ g3 kc, ep.kv = .slice (some ⟨g3, 0, none⟩) (m + 1) kc := by
    have hk := (h.its ep (List.mem_of_getElem? hp)).kids
    rcases hk.2 with ⟨_, h0⟩ | ⟨g3, kc, cur, h1, _⟩
    · omega
    · exact ⟨g3, kc, by rw [h1, hm]⟩
  have hfew := (h.its ep (List.mem_of_getElem? hp)).few
  obtain ⟨n, hn⟩ : ∃ n, l.length = n := ⟨_, rfl⟩
  rw [hat, hm] at hlt
  rw [hm] at hfew
  rw [hep] at d6
  rw [hkv] at d7
  rw [hn] at hlc c0 hid hpl h
  have hat' : at_ ≤ m := by omega
  have has : a < w.heap.size := h.blk.lt
  have H := Lib.hid (And.intro h (And.intro hp (And.intro hkv (And.intro hm (And.intro he (And.intro hep (And.intro hn (And.intro hb (And.intro hat hin)))))))))
  have z1 : ((p : Int) == -1) = false := by simp
  have i1 : (0 : Int) ≤ (p : Int) := by omega
  have i2 : (p : Int) < (n : Int) := by omega
  have i3 : (0 : Int) ≤ (id : Int) := by omega
  have i4 : (id : Int) < (n : Int) := by omega
  have s7 : IntKind.i64.wrap ((at_ : Int) + 1) = (at_ : Int) + 1 := IntWalk.i64_in _ (by omega)
  clear hrr hc h hn he hep hp hkv hm hb hat hin
  go_enter Try.func27, Try.ntmps27
  go_wp2_with (first
    | (go_at_call 35; (with_reducible refine (is_any H.out.1 H.out.2.2.2.2.2.2.2.1).mono ?_); rintro e w1 ⟨rfl, rfl⟩)
    | (go_at_call 49; (with_reducible refine (place_any H.out.1 H.out.2.2.2.2.1 H.out.2.2.2.2.2.1 H.out.2.1).mono ?_); rintro e w1 ⟨rfl, rfl⟩; rw [idxZ_mem H.out.2.2.2.2.2.2.2.2.2, H.out.2.2.2.2.2.2.2.2.1]))
  go_region_with (first
    | (go_at_call 50; (with_reducible refine (del_kids H.out.1.drew H.out.2.1 H.out.2.2.1 H.out.2.2.2.1 hat').mono ?_); rintro e w3 ⟨rfl, hown3, hgrow⟩; obtain ⟨r1, r2, q0, q7, qf⟩ := del_turn H.out.1.drew H.out.2.1 H.out.2.2.1 H.out.2.2.2.1 hat' hown3 hgrow; have HI := Lib.hid (And.intro r1 r2); clear hown3 hgrow r1 r2))
  all_goals (
    clear i1 i2 c0 d6 d7 q0 q7 qf z1 s7
    obtain ⟨w4, hw4⟩ : ∃ w4, w3.setCell ⟨g, p * 8 + 7, none⟩ (.slice (some ⟨g3, 0, none⟩) m kc) = w4 := ⟨_, rfl⟩
    obtain ⟨l4, hl4⟩ : ∃ l4, l.set p { ep with kids := ep.kids.eraseIdx at_, kv := .slice (some ⟨g3, 0, none⟩) m kc } = l4 := ⟨_, rfl⟩
    rw [hw4] at HI ⊢
    rw [hl4] at HI
    obtain ⟨ek, hek⟩ : ∃ ek, l4[id]? = some ek := ⟨_, List.getElem?_eq_getElem (by rw [← hl4, List.length_set, H.out.2.2.2.2.2.2.1]; exact hid)⟩
    obtain ⟨q0, qf, q6⟩ : w4.cell? ⟨a, 0, none⟩ = some (.slice (some ⟨g, 0, none⟩) n c) ∧ w4.frozen? ⟨g, id * 8 + 6, none⟩ = false ∧ w4.cell? ⟨g, id * 8 + 6, none⟩ = some (i64 ek.par) := by
      obtain ⟨_, _, _, q0, qf, _, _, _, _, _, _, q6, _⟩ := HI.out.1.cells hek
      exact ⟨q0, qf _, q6⟩
    have HE := Lib.hid (And.intro hek hl4)
    clear hek hl4 hw4
    go_wp2
    go_ret
    obtain ⟨t1, t2⟩ := HI.out.1.cell_turn (j := 6) (u := i64 (-1)) (e' := { ek with par := -1 }) HE.out.1 (by omega) rfl rfl rfl rfl rfl
    have hq : looseL l p id (.slice (some ⟨g3, 0, none⟩) m kc) = l4.set id { ek with par := -1 } := by
      have h1 : ep.kids.idxOf (id : Int) = at_ := H.out.2.2.2.2.2.2.2.2.1
      rw [looseL_eq H.out.2.1 (by rw [h1, HE.out.2]; exact HE.out.1), h1, HE.out.2]
    refine ⟨rfl, .slice (some ⟨g, 0, none⟩) n c, .slice (some ⟨g3, 0, none⟩) m kc, ?_, ?_⟩
    · rw [hq]; exact t1
    · rw [hq]; exact HI.out.2.of_drew.trans t2)
end Go.Proofs.Ytdeogkjihmaniaa
