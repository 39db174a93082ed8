/-
  (*Arena).put, walked.
  Written by an AI agent.
-/
import Derived.Test.YtdeogkjihmaniaaTurn
import Derived.Deep.DrawnRows
namespace Go.Proofs.Ytdeogkjihmaniaa
open Go.RowKit
attribute [local go_sem ↓] Go.wp_at_zero Go.wp_at_succ

/-- A node put at place at of p's kids. -/
def putL (l : List It) (p at_ k : Nat) (v3 : Value) : List It :=
  match l[p]? with
  | some ep => match (l.set p { ep with kids := ep.kids.take at_ ++ (k : Int) :: ep.kids.drop at_, kv := v3 })[k]? with
    | some ek => (l.set p { ep with kids := ep.kids.take at_ ++ (k : Int) :: ep.kids.drop at_, kv := v3 }).set k { ek with par := p }
    | none => l
  | none => l

def PutIt (B a : Nat) (l : List It) (p at_ k : Nat) (w : World) (e : Ending) (w' : World) : Prop :=
  e = .returned (.tuple #[]) ∧ ∃ v v3, ArenaAt w' B a v (putL l p at_ k v3) ∧ Went B l w (putL l p at_ k v3) w'

theorem ins_kids {w : World} {B a p at_ m : Nat} {v : Value} {l : List It} {ep : It} {kad : Option Addr} {kc : Nat} {x : Int} (h : ArenaAt w B a v l) (hp : l[p]? = some ep) (hk : ep.kv = .slice kad m kc) (hm : ep.kids.length = m) (hat : at_ ≤ m) :
    Calls Try.prog 52 #[.slice kad m kc, i64 at_, .slice (some ⟨w.heap.size, 0, none⟩) 1 1] (w.alloc (.cells #[i64 x] 3)).drew
      (InsIt B (m + 1) (.slice kad m kc) ((ep.kids.take at_ ++ x :: ep.kids.drop at_).map i64) (w.alloc (.cells #[i64 x] 3)).drew) := by
  have hi := h.its ep (List.mem_of_getElem? hp)
  have h0 := hi.kids
  rw [hk, hm] at h0
  have h1 : (w.alloc (.cells #[i64 x] 3)).drew.ownsRow B 3 1 (.slice kad m kc) m (ep.kids.map i64) := own_below h0 ((Below.refl w.heap.size w).alloc (Nat.le_refl _) _).drew
  exact insert_any h1 (by rw [← hm]; exact hi.few) hat (by have := h.low; have := h.blk.lt; simp; omega) (Blk.drew (Blk.new w 3 #[i64 x])) (own_not h0)

theorem grown_drew {w w3 : World} {o : Obj} {row : Option Nat} (h : (w.alloc o).drew.grownBy w3 row) : w.grownBy w3 row :=
  ⟨h.os, h.tape, h.output, Nat.le_trans (by simp) h.size, fun k hk hne => (h.block k (by simp; omega) hne).trans (Below.heap_alloc w o k hk)⟩

theorem own_fro {w : World} {B n m cap c g : Nat} {t : TypeId} {xs : List Value} (h : w.ownsRow B t c (.slice (some ⟨g, 0, none⟩) m cap) n xs) (j : Nat) : w.frozen? ⟨g, j, none⟩ = false := by
  obtain ⟨ad, c', e⟩ := own_slice h
  simp only [Value.slice.injEq] at e
  obtain ⟨_, rfl, _⟩ := e
  exact h.frozenAt j

/-- Behind Insert. -/
theorem ins_turn {w w3 : World} {B a p at_ m g n c : Nat} {v3 : Value} {l : List It} {ep : It} {kad : Option Addr} {kc : Nat} {x : Int} (h : ArenaAt w B a (.slice (some ⟨g, 0, none⟩) n c) l) (hp : l[p]? = some ep) (hk : ep.kv = .slice kad m kc) (hm : ep.kids.length = m) (hat : at_ ≤ m) (hf : m < 1000000)
    (h3 : w3.ownsRow B 3 1 v3 (m + 1) ((ep.kids.take at_ ++ x :: ep.kids.drop at_).map i64)) (hg : (w.alloc (.cells #[i64 x] 3)).drew.grownBy w3 (Value.slice kad m kc).ownBlock) (hl : ∀ k, v3.ownBlock = some k → (Value.slice kad m kc).ownBlock = some k ∨ (w.alloc (.cells #[i64 x] 3)).drew.heap.size ≤ k) :
    ArenaAt (w3.setCell ⟨g, p * 8 + 7, none⟩ v3) B a (.slice (some ⟨g, 0, none⟩) n c) (l.set p { ep with kids := ep.kids.take at_ ++ x :: ep.kids.drop at_, kv := v3 }) ∧
      Went B l w (l.set p { ep with kids := ep.kids.take at_ ++ x :: ep.kids.drop at_, kv := v3 }) (w3.setCell ⟨g, p * 8 + 7, none⟩ v3) ∧
      w3.cell? ⟨a, 0, none⟩ = some (.slice (some ⟨g, 0, none⟩) n c) ∧ w3.cell? ⟨g, p * 8 + 7, none⟩ = some (.slice kad m kc) ∧ w3.frozen? ⟨g, p * 8 + 7, none⟩ = false := by
  have hlen : (ep.kids.take at_ ++ x :: ep.kids.drop at_).length = m + 1 := by simp; omega
  obtain ⟨r1, r2, r3, r4⟩ := h.kids_turn (w3 := w3) (v3 := v3) (ks := ep.kids.take at_ ++ x :: ep.kids.drop at_) hp (by rw [hk]; exact grown_drew hg) (by rw [hlen]; exact h3) (fun k hkk => by
    rw [hk]
    refine (hl k hkk).imp id fun h => ?_
    simp at h
    omega) (by omega)
  refine ⟨r1, r2, r3.cell 0 _ rfl, ?_, own_fro r4 _⟩
  have hln : n = l.length := by
    obtain ⟨ad, c', e⟩ := own_slice h.row
    simp only [Value.slice.injEq] at e
    exact e.2.1
  have h4 := (flatI_get l p ep hp 7 (by omega))
  have hc := r4.cells (g := g) rfl (p * 8 + 7) _ (h4.trans rfl)
  have ea : (⟨g, 0, none⟩ : Addr).add (p * 8 + 7) = ⟨g, p * 8 + 7, none⟩ := by unfold Addr.add; split <;> simp_all
  rw [ea, hk] at hc
  exact hc
/-- Where a node's cells lie. -/
theorem ArenaAt.cells {w : World} {B a g n c k : Nat} {l : List It} {e : It} (h : ArenaAt w B a (.slice (some ⟨g, 0, none⟩) n c) l) (hk : l[k]? = some e) :
    n = l.length ∧ n ≤ c ∧ k < n ∧ w.cell? ⟨a, 0, none⟩ = some (.slice (some ⟨g, 0, none⟩) n c) ∧ (∀ j, w.frozen? ⟨g, j, none⟩ = false) ∧
      w.cell? ⟨g, k * 8, none⟩ = some (i64 e.kind) ∧ w.cell? ⟨g, k * 8 + 1, none⟩ = some (i64 e.space) ∧ w.cell? ⟨g, k * 8 + 2, none⟩ = some (.string e.name) ∧ w.cell? ⟨g, k * 8 + 3, none⟩ = some e.av ∧
      w.cell? ⟨g, k * 8 + 4, none⟩ = some (.string e.text) ∧ w.cell? ⟨g, k * 8 + 5, none⟩ = some (.slice none 0 0) ∧ w.cell? ⟨g, k * 8 + 6, none⟩ = some (i64 e.par) ∧ w.cell? ⟨g, k * 8 + 7, none⟩ = some e.kv := by
  obtain ⟨ad, c', he, hlc, hc9, hr⟩ := h.form
  simp only [Value.slice.injEq] at he
  obtain ⟨rfl, rfl, rfl⟩ := he
  obtain ⟨g', hg', _, _, hc⟩ := hr (fun e => by rw [e] at hk; simp at hk)
  obtain rfl : g = g' := by simpa using hg'
  exact ⟨rfl, hlc, (List.getElem?_eq_some_iff.1 hk).1, h.blk.cell 0 _ rfl, own_fro h.row, hc k e hk⟩

theorem putL_eq {l : List It} {p at_ k : Nat} {v3 : Value} {ep ek : It} (hp : l[p]? = some ep) (hk : (l.set p { ep with kids := ep.kids.take at_ ++ (k : Int) :: ep.kids.drop at_, kv := v3 })[k]? = some ek) :
    putL l p at_ k v3 = (l.set p { ep with kids := ep.kids.take at_ ++ (k : Int) :: ep.kids.drop at_, kv := v3 }).set k { ek with par := p } := by
  unfold putL
  rw [hp]
  dsimp only
  rw [hk]

set_option maxHeartbeats 4000000 in
theorem put_any {w : World} {B a p at_ k : Nat} {v : Value} {l : List It} {ep : It} (h : ArenaAt w B a v l) (hp : l[p]? = some ep) (hk : k < l.length) (hat : at_ ≤ ep.kids.length) (hf : ep.kids.length < 1000000) :
    Calls Try.prog 37 #[ptr a, i64 p, i64 at_, i64 k] w (PutIt B a l p at_ k w) := by
  obtain ⟨ad, c, rfl, hlc, hc9, hr⟩ := h.form
  obtain ⟨g, rfl, hgB, hgs, hc⟩ := hr (fun e => by rw [e] at hp; simp at hp)
  obtain ⟨_, _, _, _, _, _, _, d7⟩ := hc p ep hp
  obtain ⟨kad, kc, hkv⟩ := (h.its ep (List.mem_of_getElem? hp)).kform
  have hpl := (List.getElem?_eq_some_iff.1 hp).1
  have c0 := h.blk.cell 0 (.slice (some ⟨g, 0, none⟩) l.length c) rfl
  obtain ⟨n, hn⟩ : ∃ n, l.length = n := ⟨_, rfl⟩
  obtain ⟨m, hm⟩ : ∃ m, ep.kids.length = m := ⟨_, rfl⟩
  rw [hm] at hkv hat hf
  rw [hkv] at d7
  rw [hn] at hk hpl hlc c0 h
  have has : a < w.heap.size := h.blk.lt
  have n1 := World.new_ne w ⟨a, 0, none⟩ c0
  have n2 := World.new_ne w ⟨g, p * 8 + 7, none⟩ d7
  have H := Lib.hid (And.intro h (And.intro hp (And.intro hkv (And.intro hm hn))))
  clear h hr hc hp hkv hm hn
  have i1 : (0 : Int) ≤ (p : Int) := by omega
  have i2 : (p : Int) < (n : Int) := by omega
  have i3 : (0 : Int) ≤ (k : Int) := by omega
  have i4 : (k : Int) < (n : Int) := by omega
  go_enter Try.func37, Try.ntmps37
  go_wp2_with fail
  go_region_with (first | (go_at_call 52; (with_reducible refine (ins_kids H.out.1 H.out.2.1 H.out.2.2.1 H.out.2.2.2.1 hat).mono ?_); rintro e w3 ⟨v3, rfl, hown3, hgrow, hat3⟩; obtain ⟨va3, vc3, rfl⟩ := own_slice hown3; obtain ⟨r1, r2, q0, q7, qf⟩ := ins_turn H.out.1 H.out.2.1 H.out.2.2.1 H.out.2.2.2.1 hat hf hown3 hgrow hat3; have HI := Lib.hid (And.intro r1 r2); clear hown3 hgrow hat3 r1 r2))
  all_goals (
    clear i1 i2 n1 n2 c0 d7 q0 q7 qf
    obtain ⟨w4, hw4⟩ : ∃ w4, w3.setCell ⟨g, p * 8 + 7, none⟩ (.slice va3 (m + 1) vc3) = w4 := ⟨_, rfl⟩
    obtain ⟨l4, hl4⟩ : ∃ l4, l.set p { ep with kids := ep.kids.take at_ ++ (k : Int) :: ep.kids.drop at_, kv := .slice va3 (m + 1) vc3 } = l4 := ⟨_, rfl⟩
    rw [hw4] at HI ⊢
    rw [hl4] at HI
    obtain ⟨ek, hek⟩ : ∃ ek, l4[k]? = some ek := ⟨_, List.getElem?_eq_getElem (by rw [← hl4, List.length_set, H.out.2.2.2.2]; exact hk)⟩
    obtain ⟨q0, qf, q6⟩ : w4.cell? ⟨a, 0, none⟩ = some (.slice (some ⟨g, 0, none⟩) n c) ∧ w4.frozen? ⟨g, k * 8 + 6, none⟩ = false ∧ w4.cell? ⟨g, k * 8 + 6, none⟩ = some (i64 ek.par) := by
      obtain ⟨_, _, _, q0, qf, _, _, _, _, _, _, q6, _⟩ := HI.out.1.cells hek
      exact ⟨q0, qf _, q6⟩
    have HE := Lib.hid (And.intro hek hl4)
    clear hek hl4 hw4
    go_wp2
    go_end0
    obtain ⟨t1, t2⟩ := HI.out.1.cell_turn (j := 6) (u := i64 p) (e' := { ek with par := (p : Int) }) HE.out.1 (by omega) rfl rfl rfl rfl rfl
    refine ⟨rfl, .slice (some ⟨g, 0, none⟩) n c, .slice va3 (m + 1) vc3, ?_, ?_⟩
    · rw [putL_eq H.out.2.1 (by rw [HE.out.2]; exact HE.out.1), HE.out.2]; exact t1
    · rw [putL_eq H.out.2.1 (by rw [HE.out.2]; exact HE.out.1), HE.out.2]; exact HI.out.2.trans t2)
end Go.Proofs.Ytdeogkjihmaniaa
