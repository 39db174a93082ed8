/-
  (*Arena).add, walked.
  Written by an AI agent.
-/
import Derived.Test.YtdeogkjihmaniaaDet
import Derived.Deep.AppendLies
import Derived.Deep.RegionLaw
namespace Go.Proofs.Ytdeogkjihmaniaa
open Go.RowKit
attribute [local go_sem ↓] Go.wp_at_zero Go.wp_at_succ

theorem cellsI_one {w : World} {B : Nat} {e : It} (h : ItAt w B e) : ∀ u ∈ cellsI e, u.oneCell' = true := by
  obtain ⟨ad, c, h1⟩ := h.atrs.form
  obtain ⟨ad2, c2, h2⟩ := h.kform
  intro u hu
  simp only [cellsI, List.mem_cons, List.not_mem_nil, or_false, h1, h2] at hu
  rcases hu with rfl | rfl | rfl | rfl | rfl | rfl | rfl | rfl <;> rfl

/-- Behind append: the node stands at the arena's end. -/
theorem add_turn {w w2 w3 : World} {B a : Nat} {v v3 : Value} {l : List It} {e : It} {r : Option Nat} (h : ArenaAt w B a v l) (hl : l.length < 600) (hb : Below w.heap.size w w2) (he : ItAt w B e) (hkv : e.kv = .slice none 0 0)
    (h3 : w3.ownsRow B 64 8 v3 (l.length + 1) (flatI l ++ cellsI e)) (hg : w2.grownBy w3 r) (hr : r = v.ownBlock) :
    ArenaAt (w3.setCell ⟨a, 0, none⟩ v3) B a v3 (l ++ [e]) ∧ Went B l w (l ++ [e]) (w3.setCell ⟨a, 0, none⟩ v3) ∧ Blk w3 a 67 #[v] := by
  subst hr
  have hkind : ∀ k, v.ownBlock = some k → B ≤ k ∧ ∃ cs, w.heap[k]? = some (.cells cs 64 (0, 0)) := own_kind h.row
  have hblk2 : Blk w2 a 67 #[v] := blk_kept h.blk hb
  have hg2 : ∀ k, v.ownBlock = some k → ∃ cs, w2.heap[k]? = some (.cells cs 64 (0, 0)) := fun k hk => by
    obtain ⟨_, cs, h1⟩ := hkind k hk
    exact ⟨cs, (hb.block k (Array.getElem?_eq_some_iff.1 h1).1).trans h1⟩
  have hblk : Blk w3 a 67 #[v] := (hg.block a hblk2.lt (fun e => by
    obtain ⟨cs, h1⟩ := hg2 a e.symm
    have := hblk2.symm.trans h1
    injection this with this
    injection this with _ this
    exact absurd this (by decide))).trans hblk2
  have fr3 : Fr B AK w w3 := (Fr.of_below hb B AK).trans ((Fr.refl B AK w2).grown hg (fun k hk => by
    obtain ⟨cs, h2⟩ := hg2 k hk
    exact ⟨(hkind k hk).1, _, h2, rfl⟩))
  have fr4 : Fr B AK w (w3.setCell ⟨a, 0, none⟩ v3) := fr3.setCell hblk rfl h.low 0 v3
  have hkids : ∀ {n : Nat} {u : Value} {xs : List Value}, w.ownsRow B 3 1 u n xs → (w3.setCell ⟨a, 0, none⟩ v3).ownsRow B 3 1 u n xs := by
    intro n u xs hu
    exact own_setCell (own_grown (own_below hu hb) hg (fun k hk => by
      obtain ⟨cs, h2⟩ := hg2 k hk
      exact ⟨cs, 64, h2, by decide⟩)) hblk (by decide) _ _
  have hits : ∀ f, ItAt w B f → ItAt (w3.setCell ⟨a, 0, none⟩ v3) B f := fun f hf => ⟨hf.atrs.fr fr4 (Nat.le_refl _) (fun _ _ => rfl), hkids hf.kids, hf.few⟩
  refine ⟨⟨hblk.put 0 v3, h.low, ?_, by simp; omega, fun f hf => ?_, ?_⟩, ⟨fr4, fun k hk hnf cs fr ho => ?_, fun k hk => ?_⟩, hblk⟩
  · rw [flatI_append, List.length_append]
    have : flatI [e] = cellsI e := by rw [flatI_cons]; simp [flatI]
    rw [this]
    exact own_setCell h3 hblk (by decide) _ _
  · rcases List.mem_append.1 hf with hf | hf
    · exact hits f (h.its f hf)
    · obtain rfl := List.mem_singleton.1 hf
      exact hits f he
  · intro i j f f' hi hj hne k hk
    rw [List.getElem?_append] at hi hj
    split at hi
    · split at hj
      · exact h.apart i j f f' hi hj hne k hk
      · have : f' = e := by
          have := List.mem_of_getElem? hj
          simpa using this
        rw [this, hkv]
        simp [Value.ownBlock]
    · have : f = e := by
        have := List.mem_of_getElem? hi
        simpa using this
      rw [this, hkv] at hk
      simp [Value.ownBlock] at hk
  · have h1 : w2.heap[k]? = w.heap[k]? := hb.block k hk
    have hka : k ≠ a := by
      rintro rfl
      have := h.blk.symm.trans ho
      injection this with this
      injection this with _ this
      exact absurd this (by decide)
    refine (Below.heap_setCell w3 ⟨a, 0, none⟩ v3 k hka).trans ((hg.block k (Nat.lt_of_lt_of_le hk hb.size) (fun e => ?_)).trans h1)
    obtain ⟨cs', h2⟩ := hg2 k e.symm
    rw [h1, ho] at h2
    injection h2 with h2
    injection h2 with _ h2
    exact absurd h2 (by decide)
  · obtain ⟨f, hf, hk⟩ := hk
    rcases List.mem_append.1 hf with hf | hf
    · exact .inl ⟨f, hf, hk⟩
    · obtain rfl := List.mem_singleton.1 hf
      rw [hkv] at hk
      simp [Value.ownBlock] at hk

theorem add_own {w : World} {B a n : Nat} {v : Value} {l : List It} (h : ArenaAt w B a v l) (hn : l.length = n) (o o' : Obj) : ((w.alloc o).alloc o').drew.ownsRow B 64 8 v n (flatI l) := by
  subst hn
  exact own_below h.row (((Below.refl w.heap.size w).alloc (Nat.le_refl _) o).alloc (by simp) o').drew
theorem add_news (w : World) (o : Obj) (cs : List Value) : ∀ j u, cs[j]? = some u → ((w.alloc o).alloc (.cells cs.toArray 64)).drew.cell? ((⟨w.heap.size + 1, 0, none⟩ : Addr).add j) = some u := by
  have h := Blk.new (w.alloc o) 64 cs.toArray
  simp only [World.size_alloc] at h
  have := World.news_of_block (w := ((w.alloc o).alloc (.cells cs.toArray 64)).drew) h
  simpa using this
theorem add_base {w : World} {B a : Nat} {v : Value} {l : List It} (h : ArenaAt w B a v l) (o o' : Obj) : B ≤ ((w.alloc o).alloc o').drew.heap.size := by
  have := h.low
  have := h.blk.lt
  simp
  omega

/-- What add leaves. -/
def AddIt (B a : Nat) (l : List It) (e0 : It) (n : Nat) (w : World) (e : Ending) (w' : World) : Prop :=
  e = .returned (.tuple #[i64 n, i64 0]) ∧ ∃ v', ArenaAt w' B a v' (l ++ [e0]) ∧ Went B l w (l ++ [e0]) w'

def newI (kind space : Int) (nm : ByteArray) (ats : List Atr) (tx : ByteArray) (av : Value) : It := ⟨kind, space, nm, ats, tx, -1, [], av, .slice none 0 0⟩

theorem add_full {w : World} {B a : Nat} {v av : Value} {l : List It} {kind space : Int} {nm tx : ByteArray} {ats : List Atr} (h : ArenaAt w B a v l) (hl : l.length = 600) (ha : AtrsAt w B av ats) :
    Calls Try.prog 31 #[ptr a, .agg #[i64 kind, i64 space, .string nm, av, .string tx, .slice none 0 0]] w fun e w' => e = .returned (.tuple #[i64 0, i64 5]) ∧ Below w.heap.size w w' := by
  obtain ⟨ad, c, rfl, hlc, hc9, hrr⟩ := h.form
  obtain ⟨aad, ac, rfl⟩ := ha.form
  have c0 := h.blk.cell 0 (.slice ad l.length c) rfl
  have has : a < w.heap.size := h.blk.lt
  rw [hl] at c0
  clear hrr h ha hl hlc
  go_enter Try.func31, Try.ntmps31
  go_wp2
  go_ret2
  exact ⟨rfl, (Below.refl _ _).alloc (Nat.le_refl _) _⟩

set_option maxHeartbeats 4000000 in
theorem add_any {w : World} {B a n : Nat} {v av : Value} {l : List It} {kind space : Int} {nm tx : ByteArray} {ats : List Atr} (h : ArenaAt w B a v l) (hn : l.length = n) (hl : n < 600) (ha : AtrsAt w B av ats) :
    Calls Try.prog 31 #[ptr a, .agg #[i64 kind, i64 space, .string nm, av, .string tx, .slice none 0 0]] w (AddIt B a l (newI kind space nm ats tx av) n w) := by
  obtain ⟨ad, c, rfl, hlc, hc9, hrr⟩ := h.form
  obtain ⟨aad, ac, rfl⟩ := ha.form
  have c0 := h.blk.cell 0 (.slice ad l.length c) rfl
  have f0 := h.blk.fro 0
  have has : a ≠ w.heap.size := fun e => by have := h.blk.lt; omega
  have has1 : a ≠ w.heap.size + 1 := fun e => by have := h.blk.lt; omega
  have halt : a < w.heap.size := h.blk.lt
  obtain ⟨m, hm⟩ : ∃ m, ats.length = m := ⟨_, rfl⟩
  have hit : ItAt w B (newI kind space nm ats tx (.slice aad ats.length ac)) := ⟨ha, World.ownsRow_nil _ _ _ _, by simp [newI]⟩
  rw [hn] at c0 hlc h
  rw [hm] at hit ⊢
  obtain ⟨i0, hi, hz0, hz1, hz2⟩ := info_parts info64
  have z1 : ((n : Int) == 600) = false := by simp; omega
  have H := Lib.hid (And.intro h (And.intro hit hn))
  clear hrr h ha hit hn hm
  go_enter Try.func31, Try.ntmps31
  go_wp2_with fail
  go_region_law ((refine step_append_lies _ rfl (.tmp 20) (.tmp 23) 65 (by rfl) B 64 i0 _ 8 128 Try.underlying65 hi hz0 hz1 hz2 rfl (by decide) (.slice ad n c) n (flatI l) (by rfl) (add_own H.out.1 H.out.2.2 _ _) ⟨w.heap.size + 1, 0, none⟩ 1 1 (cellsI (newI kind space nm ats tx (.slice aad m ac))) (by rfl) rfl (add_news _ _ _) (cellsI_one H.out.2.1) (by decide) (by unfold maxLen; omega) (by omega) (add_base H.out.1 _ _) _ rfl ?_; intro g3 cap3 w3 hown3 hgrow3 _ _; obtain ⟨r1, r2, r3⟩ := add_turn H.out.1 (by rw [H.out.2.2]; exact hl) ((((Below.refl w.heap.size w).alloc (Nat.le_refl _) _).alloc (by simp) _).drew) H.out.2.1 rfl (by rw [H.out.2.2]; exact hown3) hgrow3 rfl; have q0 := r3.cell 0 _ rfl; have qf := r3.fro 0; have HI := Lib.hid (And.intro r1 r2); clear hown3 hgrow3 r1 r2 r3))
  all_goals (
    have p0 := HI.out.1.blk.cell 0 _ rfl
    clear q0 qf c0 f0
    go_wp2
    go_ret2
    exact ⟨rfl, _, HI.out.1, HI.out.2⟩)
end Go.Proofs.Ytdeogkjihmaniaa
