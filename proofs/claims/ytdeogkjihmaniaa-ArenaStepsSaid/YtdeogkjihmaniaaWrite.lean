/-
  Words and WordsBefore of an arena, walked.
  Written by an AI agent.
-/
import Derived.Test.YtdeogkjihmaniaaOps
import Derived.Laws.Concat
import Derived.WalkSpells
namespace Go.Proofs.Ytdeogkjihmaniaa
open Go.RowKit

namespace St
def setText (l : List Nd) (id : Nat) (s : ByteArray) : List Nd := match l[id]? with | some nd => l.set id { nd with text := nd.text ++ s } | none => l
def text (S : St) (id : Nat) (s : ByteArray) : St := ⟨setText S.l id s, S.row⟩
def fresh (S : St) (p n : Nat) (s : ByteArray) : Int × St := if S.l.length = 600 then (5, S) else (0, (S.add ⟨2, 0, ⟨#[]⟩, [], s, -1⟩).put n S.l.length p)
def prev (S : St) (p at_ : Nat) : Option Int := if at_ = 0 then none else (S.kids p)[at_ - 1]?
def write (S : St) (p at_ n : Nat) (s : ByteArray) : Int × St := match S.prev p at_ with
  | some k => match S.get k with
    | some nd => if nd.kind = 2 then (0, S.text k.toNat s) else S.fresh p n s
    | none => S.fresh p n s
  | none => S.fresh p n s
def words (S : St) (p : Int) (s : ByteArray) : Int × St := if S.elem p && !decide (s = ⟨#[]⟩) then S.write p.toNat (S.kids p).length S.row.length s else (1, S)
def wordsB (S : St) (next : Int) (s : ByteArray) : Int × St := if S.is next && !decide (s = ⟨#[]⟩) then if parN S.ps next = -1 then (7, S) else S.write (parN S.ps next).toNat ((S.kids (parN S.ps next)).idxOf next) (S.row.idxOf next) s else (1, S)
end St
theorem setText_eq {l : List Nd} {id : Nat} {s : ByteArray} {nd : Nd} (h : l[id]? = some nd) : St.setText l id s = l.set id { nd with text := nd.text ++ s } := by unfold St.setText; rw [h]
theorem setText_length (l : List Nd) (id : Nat) (s : ByteArray) : (St.setText l id s).length = l.length := by unfold St.setText; split <;> simp
theorem text_ps (S : St) (id : Nat) (s : ByteArray) : (S.text id s).ps = S.ps := by
  unfold St.ps St.text St.setText
  cases h : S.l[id]? with
  | none => rfl
  | some nd =>
    dsimp only
    rw [List.map_set]
    have h2 : (S.l.map (·.par))[id]? = some nd.par := by rw [List.getElem?_map, h]; rfl
    have h3 := List.getElem?_eq_some_iff.1 h2
    show (S.l.map (·.par)).set id nd.par = _
    rw [show nd.par = (S.l.map (·.par))[id]'h3.1 from h3.2.symm]
    exact List.set_getElem_self h3.1
theorem Good.text {S : St} (g : Good S) (id : Nat) (s : ByteArray) : Good (S.text id s) := by
  refine ⟨by rw [text_ps]; exact g.pg, by show (St.setText S.l id s).length ≤ 600; rw [setText_length]; exact g.len, g.nodup, fun x hx => by rw [text_ps]; exact g.rows x hx, fun k p hk => by rw [text_ps] at hk; exact g.all k p hk, ?_⟩
  obtain ⟨nd, h1, h2, h3⟩ := g.root
  show ∃ nd, (St.setText S.l id s)[0]? = some nd ∧ nd.kind = 1 ∧ nd.par = -1
  unfold St.setText
  cases h : S.l[id]? with
  | none => exact ⟨nd, h1, h2, h3⟩
  | some x =>
    dsimp only
    by_cases h0 : id = 0
    · subst h0
      rw [h1] at h
      obtain rfl := Option.some.inj h
      rw [List.getElem?_set_self (List.getElem?_eq_some_iff.1 h1).1]
      exact ⟨_, rfl, h2, h3⟩
    · rw [List.getElem?_set_ne h0]
      exact ⟨nd, h1, h2, h3⟩

theorem Mod.text {l : List It} {S : St} (m : Mod l S) {id : Nat} {e : It} {s : ByteArray} (he : l[id]? = some e) : Mod (l.set id { e with text := e.text ++ s }) (S.text id s) := by
  refine ⟨?_, fun k f hf => ?_⟩
  · rw [List.map_set, m.nd]
    show _ = St.setText S.l id s
    rw [setText_eq (m.get he)]
    rfl
  · show f.kids = kidsOf (S.text id s).ps S.row k
    rw [text_ps, List.getElem?_set] at *
    by_cases hk : id = k
    · rw [if_pos hk, if_pos (List.getElem?_eq_some_iff.1 he).1] at hf
      obtain rfl := Option.some.inj hf
      subst hk
      exact m.kids id e he
    · rw [if_neg hk] at hf
      exact m.kids k f hf

theorem kids_add {S : St} (g : Good S) (row : List Int) (hr : ∀ x ∈ row, x ∈ S.row) (q : Int) : kidsOf (S.ps ++ [-1]) row q = kidsOf S.ps row q := kidsOf_congr fun x hx => by
  obtain ⟨k, p, rfl, h⟩ := g.rows x (hr x hx)
  rw [parN_get h]
  exact parN_get (by rw [List.getElem?_append_left (List.getElem?_eq_some_iff.1 h).1]; exact h)
theorem add_ps (S : St) (nd : Nd) (h : nd.par = -1) : (S.add nd).ps = S.ps ++ [-1] := by simp [St.add, St.ps, h]

theorem Good.fresh {S : St} (g : Good S) {p n : Nat} (hp : p < S.l.length) (s : ByteArray) : Good (S.fresh p n s).2 := by
  unfold St.fresh
  split
  · exact g
  · rename_i hl
    have hlen := g.len
    have ga := g.add ⟨2, 0, ⟨#[]⟩, [], s, -1⟩ (by omega) rfl
    obtain ⟨nd, h1, _⟩ := g.root
    have h0 := (List.getElem?_eq_some_iff.1 h1).1
    refine ga.put ?_ (by omega) (by simp [St.add]; omega) ?_
    · rw [add_ps _ _ rfl, ← Good.ps_length]; simp
    · intro hu
      rw [add_ps _ _ rfl] at hu
      have : ∀ x, Und (S.ps ++ [-1]) S.l.length x → x < S.l.length → False := by
        intro x hx
        induction hx with
        | here => intro h; omega
        | up h1 _ ih =>
          intro hlt
          rw [List.getElem?_append_left (by rw [Good.ps_length]; exact hlt)] at h1
          rcases g.pg.rng _ _ h1 with h2 | ⟨q, h2, h3⟩
          · omega
          · rw [Good.ps_length] at h3
            exact ih (by omega)
      exact this p hu hp

theorem write_text {w : World} {B a p j k : Nat} {v : Value} {l : List It} {ep ek : It} {s : ByteArray} (h : ArenaAt w B a v l) (hp : l[p]? = some ep) (hk : ep.kids[j]? = some (k : Int)) (hek : l[k]? = some ek) (h2 : ek.kind = 2) (hs : ek.text.size + s.size ≤ 9223372036854775807) :
    Calls Try.prog 33 #[ptr a, i64 p, .int .i64 ((j : Int) + 1), .string s] w fun e w' => e = .returned (i64 0) ∧ ∃ v', ArenaAt w' B a v' (l.set k { ek with text := ek.text ++ s }) ∧ Went B l w (l.set k { ek with text := ek.text ++ s }) w' := by
  obtain ⟨ad, c, rfl, hlc, hc9, hrr⟩ := h.form
  obtain ⟨gg, rfl, hgB, hgs, hc⟩ := hrr (fun e => by rw [e] at hp; simp at hp)
  have c0 := h.blk.cell 0 (.slice (some ⟨gg, 0, none⟩) l.length c) rfl
  obtain ⟨_, _, _, _, _, _, _, d7⟩ := hc p ep hp
  obtain ⟨d0, _, _, _, d4, _⟩ := hc k ek hek
  have fk := own_fro h.row (k * 8 + 4)
  have hj := (List.getElem?_eq_some_iff.1 hk).1
  have hkr := (h.its ep (List.mem_of_getElem? hp)).kids
  obtain ⟨kg, kc, hkv, hkc, kcell⟩ : ∃ kg kc, ep.kv = .slice (some ⟨kg, 0, none⟩) ep.kids.length kc ∧ ep.kids.length ≤ kc ∧ w.cell? ⟨kg, j, none⟩ = some (i64 k) := by
    rcases hkr.2 with ⟨_, h0⟩ | ⟨kg, kc, cur, hv, _, _, hnc, _⟩
    · omega
    · refine ⟨kg, kc, hv, hnc, ?_⟩
      rw [hv] at hkr
      rw [hkr.cellAt j (by omega), List.getElem?_map, hk]
      rfl
  have hfew := (h.its ep (List.mem_of_getElem? hp)).few
  have hpl := (List.getElem?_eq_some_iff.1 hp).1
  have hkl := (List.getElem?_eq_some_iff.1 hek).1
  obtain ⟨n, hn⟩ : ∃ n, l.length = n := ⟨_, rfl⟩
  obtain ⟨mm, hmm⟩ : ∃ mm, ep.kids.length = mm := ⟨_, rfl⟩
  obtain ⟨tx, htx⟩ : ∃ tx, ek.text = tx := ⟨_, rfl⟩
  rw [hkv, hmm] at d7
  rw [hmm] at hkc hj hfew
  rw [h2] at d0
  rw [htx] at d4 hs
  rw [hn] at c0 hlc hpl hkl h
  have H := Lib.hid (And.intro h (And.intro hp (And.intro hek htx)))
  have i1 : (0 : Int) ≤ (p : Int) := by omega
  have i2 : (p : Int) < (n : Int) := by omega
  have i3 : (0 : Int) ≤ (k : Int) := by omega
  have i4 : (k : Int) < (n : Int) := by omega
  have i5 : (0 : Int) ≤ (j : Int) := by omega
  have i6 : (j : Int) < (mm : Int) := by omega
  have s1 : IntKind.i64.wrap ((j : Int) + 1 - 1) = (j : Int) := by rw [show (j : Int) + 1 - 1 = j from by omega]; exact IntWalk.i64_in _ (by omega)
  have s2 : (j : Int) + 1 - 1 = (j : Int) := by omega
  have z0 : decide ((0 : Int) < (j : Int) + 1) = true := decide_eq_true (by omega)
  have hsz : ¬ (9223372036854775807 : Int) < (tx.size : Int) + (s.size : Int) := by omega
  clear h hp hk hek h2 hrr hc hkr hkv hn hmm htx
  go_enter Try.func33, Try.ntmps33
  go_wp2_with fail
  go_quiet (fail)
  go_wp2
  go_ret
  obtain ⟨h, hp, hek, htx⟩ := H.out
  have hb := below_drewN (Below.refl w.heap.size w) nq
  obtain ⟨t1, t2⟩ := (h.below hb).cell_turn (j := 4) (u := .string (tx ++ s)) (e' := { ek with text := ek.text ++ s }) hek (by omega) (by rw [← htx]; rfl) rfl rfl rfl rfl
  exact ⟨rfl, _, t1, (Went.of_below hb B l).trans t2⟩

/-- The node ahead of a place is no text. -/
def NoText (l : List It) (ep : It) (at_ : Nat) : Prop := at_ = 0 ∨ ∃ (j k : Nat) (ek : It), at_ = j + 1 ∧ ep.kids[j]? = some (k : Int) ∧ l[k]? = some ek ∧ ek.kind ≠ 2

theorem write_full {w : World} {B a p at_ : Nat} {v : Value} {l : List It} {ep : It} {s : ByteArray} (h : ArenaAt w B a v l) (hp : l[p]? = some ep) (ht : NoText l ep at_) (hl : l.length = 600) :
    Calls Try.prog 33 #[ptr a, i64 p, i64 at_, .string s] w fun e w' => e = .returned (i64 5) ∧ Below w.heap.size w w' := by
  obtain ⟨ad, c, rfl, hlc, hc9, hrr⟩ := h.form
  obtain ⟨gg, rfl, hgB, hgs, hc⟩ := hrr (fun e => by rw [e] at hp; simp at hp)
  have c0 := h.blk.cell 0 (.slice (some ⟨gg, 0, none⟩) l.length c) rfl
  obtain ⟨_, _, _, _, _, _, _, d7⟩ := hc p ep hp
  have hkr := (h.its ep (List.mem_of_getElem? hp)).kids
  have hpl := (List.getElem?_eq_some_iff.1 hp).1
  have hfew := (h.its ep (List.mem_of_getElem? hp)).few
  obtain ⟨n, hn⟩ : ∃ n, l.length = n := ⟨_, rfl⟩
  obtain ⟨mm, hmm⟩ : ∃ mm, ep.kids.length = mm := ⟨_, rfl⟩
  rcases ht with rfl | ⟨j, k, ek, rfl, hk, hek, h2⟩
  · obtain ⟨kad, kc, hkv⟩ := own_slice hkr
    rw [hkv, hmm] at d7
    have H := Lib.hid (And.intro h hl)
    rw [hn] at c0 hlc hpl
    clear h hp hrr hc hkr hkv hn hmm hl
    go_enter Try.func33, Try.ntmps33
    go_wp2_with (first
      | (go_at_call 31; (with_reducible refine (add_full H.out.1 H.out.2 (AtrsAt.nil _ _)).mono ?_); rintro e w2 ⟨rfl, hbel2⟩; have HP := Lib.hid hbel2; clear hbel2))
    go_ret
    exact ⟨rfl, HP.out⟩
  · obtain ⟨d0, _, _, _, d4, _⟩ := hc k ek hek
    have hj := (List.getElem?_eq_some_iff.1 hk).1
    obtain ⟨kg, kc, hkv, hkc, kcell⟩ : ∃ kg kc, ep.kv = .slice (some ⟨kg, 0, none⟩) ep.kids.length kc ∧ ep.kids.length ≤ kc ∧ w.cell? ⟨kg, j, none⟩ = some (i64 k) := by
      rcases hkr.2 with ⟨_, h0⟩ | ⟨kg, kc, cur, hv, _, _, hnc, _⟩
      · omega
      · refine ⟨kg, kc, hv, hnc, ?_⟩
        rw [hv] at hkr
        rw [hkr.cellAt j (by omega), List.getElem?_map, hk]
        rfl
    have hkl := (List.getElem?_eq_some_iff.1 hek).1
    obtain ⟨ki, hki⟩ : ∃ ki, ek.kind = ki := ⟨_, rfl⟩
    rw [hki] at d0 h2
    rw [hkv, hmm] at d7
    rw [hmm] at hkc hj hfew
    have H := Lib.hid (And.intro h hl)
    rw [hn] at c0 hlc hpl hkl
    have i1 : (0 : Int) ≤ (p : Int) := by omega
    have i2 : (p : Int) < (n : Int) := by omega
    have i3 : (0 : Int) ≤ (k : Int) := by omega
    have i4 : (k : Int) < (n : Int) := by omega
    have i5 : (0 : Int) ≤ (j : Int) := by omega
    have i6 : (j : Int) < (mm : Int) := by omega
    have s1 : IntKind.i64.wrap ((j : Int) + 1 - 1) = (j : Int) := by rw [show (j : Int) + 1 - 1 = j from by omega]; exact IntWalk.i64_in _ (by omega)
    have s2 : (j : Int) + 1 - 1 = (j : Int) := by omega
    have z0 : decide ((0 : Int) < (j : Int) + 1) = true := decide_eq_true (by omega)
    have z1 : (ki == 2) = false := by simpa using h2
    clear h hp hrr hc hkr hkv hn hmm hl hk hek h2 hki
    rw [show (((j + 1 : Nat) : Int)) = (j : Int) + 1 from by omega]
    go_enter Try.func33, Try.ntmps33
    go_wp2_with fail
    go_quiet (fail)
    go_wp2_with (first
      | (go_at_call 31; (with_reducible refine (add_full (H.out.1.below (below_drewN (Below.refl _ w) nq)) H.out.2 (AtrsAt.nil _ _)).mono ?_); rintro e w2 ⟨rfl, hbel2⟩; have HP := Lib.hid hbel2; clear hbel2))
    go_ret
    exact ⟨rfl, (below_drewN (Below.refl _ w) nq).trans HP.out⟩

/-- What a new text leaves. -/
def NewIt (B a : Nat) (l : List It) (p at_ n : Nat) (s : ByteArray) (w : World) (e : Ending) (w' : World) : Prop :=
  e = .returned (i64 0) ∧ ∃ v' v3, ArenaAt w' B a v' (putL (l ++ [newI 2 0 ⟨#[]⟩ [] s (.slice none 0 0)]) p at_ n v3) ∧ Went B l w (putL (l ++ [newI 2 0 ⟨#[]⟩ [] s (.slice none 0 0)]) p at_ n v3) w'

theorem put_new {w : World} {B a p at_ n : Nat} {v : Value} {l : List It} {ep e0 : It} (h : ArenaAt w B a v (l ++ [e0])) (hp : l[p]? = some ep) (hn : l.length = n) (hat : at_ ≤ ep.kids.length) (hf : ep.kids.length < 1000000) :
    Calls Try.prog 37 #[ptr a, i64 p, i64 at_, i64 n] w (PutIt B a (l ++ [e0]) p at_ n w) :=
  put_any h (by rw [List.getElem?_append_left (List.getElem?_eq_some_iff.1 hp).1]; exact hp) (by simp; omega) hat hf

theorem put_new0 {w : World} {B a p n : Nat} {v : Value} {l : List It} {ep e0 : It} (h : ArenaAt w B a v (l ++ [e0])) (hp : l[p]? = some ep) (hn : l.length = n) (hf : ep.kids.length < 1000000) :
    Calls Try.prog 37 #[ptr a, i64 p, .int .i64 0, i64 n] w (PutIt B a (l ++ [e0]) p 0 n w) := put_new (at_ := 0) h hp hn (Nat.zero_le _) hf

theorem write_new {w : World} {B a p at_ n : Nat} {v : Value} {l : List It} {ep : It} {s : ByteArray} (h : ArenaAt w B a v l) (hp : l[p]? = some ep) (ht : NoText l ep at_) (hn : l.length = n) (hl : n < 600) (hat : at_ ≤ ep.kids.length) (hf : ep.kids.length < 1000000) :
    Calls Try.prog 33 #[ptr a, i64 p, i64 at_, .string s] w (NewIt B a l p at_ n s w) := by
  obtain ⟨ad, c, rfl, hlc, hc9, hrr⟩ := h.form
  obtain ⟨gg, rfl, hgB, hgs, hc⟩ := hrr (fun e => by rw [e] at hp; simp at hp)
  have c0 := h.blk.cell 0 (.slice (some ⟨gg, 0, none⟩) l.length c) rfl
  obtain ⟨_, _, _, _, _, _, _, d7⟩ := hc p ep hp
  have hkr := (h.its ep (List.mem_of_getElem? hp)).kids
  have hpl := (List.getElem?_eq_some_iff.1 hp).1
  have hfew := (h.its ep (List.mem_of_getElem? hp)).few
  obtain ⟨mm, hmm⟩ : ∃ mm, ep.kids.length = mm := ⟨_, rfl⟩
  have H := Lib.hid (And.intro h (And.intro hp (And.intro hn (And.intro hat hf))))
  rcases ht with rfl | ⟨j, k, ek, rfl, hk, hek, h2⟩
  · obtain ⟨kad, kc, hkv⟩ := own_slice hkr
    rw [hkv, hmm] at d7
    rw [hn] at c0 hlc hpl
    clear h hp hrr hc hkr hkv hn hmm hat hf
    go_enter Try.func33, Try.ntmps33
    go_wp2_with (first
      | (go_at_call 31; (with_reducible refine (add_any H.out.1 H.out.2.2.1 hl (AtrsAt.nil _ _)).mono ?_); rintro e w2 ⟨rfl, v2, h2, hw2⟩; have HP := Lib.hid (And.intro h2 hw2); clear h2 hw2)
      | (go_at_call 37; (with_reducible refine (put_new0 HP.out.1 H.out.2.1 H.out.2.2.1 H.out.2.2.2.2).mono ?_); rintro e w3 ⟨rfl, v3, u3, h3, hw3⟩; have HQ := Lib.hid (And.intro h3 hw3); clear h3 hw3))
    go_ret
    exact ⟨rfl, v3, u3, HQ.out.1, HP.out.2.trans HQ.out.2⟩
  · obtain ⟨d0, _, _, _, d4, _⟩ := hc k ek hek
    have hj := (List.getElem?_eq_some_iff.1 hk).1
    obtain ⟨kg, kc, hkv, hkc, kcell⟩ : ∃ kg kc, ep.kv = .slice (some ⟨kg, 0, none⟩) ep.kids.length kc ∧ ep.kids.length ≤ kc ∧ w.cell? ⟨kg, j, none⟩ = some (i64 k) := by
      rcases hkr.2 with ⟨_, h0⟩ | ⟨kg, kc, cur, hv, _, _, hnc, _⟩
      · omega
      · refine ⟨kg, kc, hv, hnc, ?_⟩
        rw [hv] at hkr
        rw [hkr.cellAt j (by omega), List.getElem?_map, hk]
        rfl
    have hkl := (List.getElem?_eq_some_iff.1 hek).1
    obtain ⟨ki, hki⟩ : ∃ ki, ek.kind = ki := ⟨_, rfl⟩
    rw [hki] at d0 h2
    rw [hkv, hmm] at d7
    rw [hmm] at hkc hj hfew
    rw [hn] at c0 hlc hpl hkl
    have i1 : (0 : Int) ≤ (p : Int) := by omega
    have i2 : (p : Int) < (n : Int) := by omega
    have i3 : (0 : Int) ≤ (k : Int) := by omega
    have i4 : (k : Int) < (n : Int) := by omega
    have i5 : (0 : Int) ≤ (j : Int) := by omega
    have i6 : (j : Int) < (mm : Int) := by omega
    have s1 : IntKind.i64.wrap ((j : Int) + 1 - 1) = (j : Int) := by rw [show (j : Int) + 1 - 1 = j from by omega]; exact IntWalk.i64_in _ (by omega)
    have s2 : (j : Int) + 1 - 1 = (j : Int) := by omega
    have z0 : decide ((0 : Int) < (j : Int) + 1) = true := decide_eq_true (by omega)
    have z1 : (ki == 2) = false := by simpa using h2
    have hj1 : (((j + 1 : Nat) : Int)) = (j : Int) + 1 := by omega
    have hput : ∀ (w2 : World) (v2 : Value) (e0 : It), ArenaAt w2 B a v2 (l ++ [e0]) → Calls Try.prog 37 #[ptr a, i64 p, .int .i64 ((j : Int) + 1), i64 n] w2 (PutIt B a (l ++ [e0]) p (j + 1) n w2) := fun w2 v2 e0 h2 => by
      have := put_new (at_ := j + 1) h2 H.out.2.1 H.out.2.2.1 H.out.2.2.2.1 H.out.2.2.2.2
      rw [hj1] at this
      exact this
    have HPUT := Lib.hid hput
    rw [hj1]
    clear h hp hrr hc hkr hkv hn hmm hk hek h2 hki hat hf hj1 hput
    go_enter Try.func33, Try.ntmps33
    go_wp2_with fail
    go_quiet (fail)
    go_wp2_with (first
      | (go_at_call 31; (with_reducible refine (add_any (H.out.1.below (below_drewN (Below.refl _ w) nq)) H.out.2.2.1 hl (AtrsAt.nil _ _)).mono ?_); rintro e w2 ⟨rfl, v2, h2, hw2⟩; have HP := Lib.hid (And.intro h2 hw2); clear h2 hw2)
      | (go_at_call 37; (with_reducible refine (HPUT.out _ _ _ HP.out.1).mono ?_); rintro e w3 ⟨rfl, v3, u3, h3, hw3⟩; have HQ := Lib.hid (And.intro h3 hw3); clear h3 hw3))
    go_ret
    exact ⟨rfl, v3, u3, HQ.out.1, ((Went.of_below (below_drewN (Below.refl _ w) nq) B l).trans HP.out.2).trans HQ.out.2⟩

theorem St.get_nat {S : St} {k : Nat} : S.get (k : Int) = S.l[k]? := by unfold St.get; rw [if_pos (by omega)]; rfl

theorem ArIt.of_new {w w' : World} {B a p at_ n : Nat} {l : List It} {S : St} {ep : It} {s : ByteArray} {e : Ending} (m : Mod l S) (g : Good S) (hp : l[p]? = some ep) (hl : S.l.length ≠ 600) (hat : (kidsOf S.ps (S.row.take n) p).length = at_)
    (hq : NewIt B a l p at_ S.l.length s w e w') : ArIt B a l (S.fresh p n s) w e w' := by
  obtain ⟨rfl, v', v3, h1, h2⟩ := hq
  have hlen := g.len
  unfold St.fresh
  rw [if_neg hl]
  refine ⟨rfl, v', _, h1, h2, ?_⟩
  have ga := g.add ⟨2, 0, ⟨#[]⟩, [], s, -1⟩ (by omega) rfl
  have ma := m.add g (e := newI 2 0 ⟨#[]⟩ [] s (.slice none 0 0)) rfl rfl
  have hid : (S.add ⟨2, 0, ⟨#[]⟩, [], s, -1⟩).ps[S.l.length]? = some (-1) := by rw [add_ps _ _ rfl, ← Good.ps_length]; simp
  refine Mod.put ma ga (by rw [List.getElem?_append_left (List.getElem?_eq_some_iff.1 hp).1]; exact hp) hid ?_
  have hlt := (List.getElem?_eq_some_iff.1 hid).1
  have hki := kids_ins (row := S.row) (n := n) (p := p) hlt (ga.loose hid)
  refine hki.trans ?_
  rw [add_ps _ _ rfl, kids_add g S.row (fun _ h => h), kids_add g _ (fun _ h => List.mem_of_mem_take h), hat, m.kids p ep hp]
  rfl

theorem kids_take_le (ps row : List Int) (n : Nat) (p : Int) : (kidsOf ps (row.take n) p).length ≤ (kidsOf ps row p).length := by
  have : kidsOf ps row p = kidsOf ps (row.take n) p ++ kidsOf ps (row.drop n) p := by rw [← kidsOf_append, List.take_append_drop]
  rw [this]
  simp

theorem write_fresh {w : World} {B a p at_ n : Nat} {v : Value} {l : List It} {S : St} {ep : It} {s : ByteArray} (h : ArenaAt w B a v l) (m : Mod l S) (g : Good S) (hp : l[p]? = some ep) (hat : (kidsOf S.ps (S.row.take n) p).length = at_) (ht : NoText l ep at_) :
    Calls Try.prog 33 #[ptr a, i64 p, i64 at_, .string s] w (ArIt B a l (S.fresh p n s) w) := by
  by_cases hl : S.l.length = 600
  · refine (write_full h hp ht (by rw [m.len]; exact hl)).mono ?_
    rintro e w' ⟨rfl, hb⟩
    unfold St.fresh
    rw [if_pos hl]
    exact ⟨rfl, v, l, h.below hb, Went.of_below hb B l, m⟩
  · have hlen := g.len
    have hk : ep.kids = S.kids p := m.kids p ep hp
    refine (write_new (n := S.l.length) h hp ht m.len (by omega) (by rw [hk, ← hat]; exact kids_take_le _ _ _ _) (by rw [hk]; have := g.kids_len p; omega)).mono ?_
    intro e w' hq
    exact ArIt.of_new m g hp hl hat hq

theorem write_any {w : World} {B a p at_ n : Nat} {v : Value} {l : List It} {S : St} {s : ByteArray} (h : ArenaAt w B a v l) (m : Mod l S) (g : Good S) (hp : p < S.l.length) (hat : (kidsOf S.ps (S.row.take n) p).length = at_)
    (ht : ∀ nd ∈ S.l, nd.text.size + s.size ≤ 9223372036854775807) : Calls Try.prog 33 #[ptr a, i64 p, i64 at_, .string s] w (ArIt B a l (S.write p at_ n s) w) := by
  obtain ⟨ep, hep⟩ := m.ex hp
  have hk : ep.kids = S.kids p := m.kids p ep hep
  unfold St.write
  cases hq : S.prev p at_ with
  | none =>
    dsimp only
    refine write_fresh h m g hep hat ?_
    unfold St.prev at hq
    split at hq
    · rename_i h0; exact .inl h0
    · have hle := kids_take_le S.ps S.row n p
      rw [hat] at hle
      have := List.getElem?_eq_none_iff.1 hq
      unfold St.kids at this
      left; omega
  | some x =>
    unfold St.prev at hq
    split at hq
    · cases hq
    rename_i h0
    obtain ⟨k, rfl, hpk, _⟩ := Good.kid_par (List.mem_of_getElem? hq)
    have hkl : k < S.l.length := by rw [← Good.ps_length]; exact (List.getElem?_eq_some_iff.1 hpk).1
    obtain ⟨ek, hek⟩ := m.ex hkl
    obtain ⟨j, rfl⟩ : ∃ j, at_ = j + 1 := ⟨at_ - 1, by omega⟩
    rw [← hk] at hq
    simp only [Nat.add_sub_cancel] at hq
    dsimp only
    rw [St.get_nat, m.get hek]
    dsimp only
    by_cases h2 : ek.kind = 2
    · rw [if_pos (show (ndI ek).kind = 2 from h2)]
      have hs := ht _ (List.mem_of_getElem? (m.get hek))
      have := write_text h hep hq hek h2 hs
      rw [show ((j : Int) + 1) = ((j + 1 : Nat) : Int) from by omega] at this
      refine this.mono ?_
      rintro e w' ⟨rfl, v', h3, h4⟩
      exact ⟨rfl, v', _, h3, h4, m.text hek⟩
    · rw [if_neg (show ¬ (ndI ek).kind = 2 from h2)]
      exact write_fresh h m g hep hat (.inr ⟨j, k, ek, rfl, hq, hek, h2⟩)

theorem Good.write {S : St} (g : Good S) {p at_ n : Nat} (hp : p < S.l.length) (s : ByteArray) : Good (S.write p at_ n s).2 := by
  unfold St.write
  split
  · split
    · split
      · exact g.text _ _
      · exact g.fresh hp s
    · exact g.fresh hp s
  · exact g.fresh hp s

theorem loop_ne (s : ByteArray) (i : Nat) (r : List UInt8) (h : r ≠ []) : ByteArray.toList.loop s i r ≠ [] := by
  rw [ByteArray.toList.loop.eq_1]
  split
  · exact loop_ne s (i+1) _ (by simp)
  · simpa using h
theorem empty_of {s : ByteArray} (h : s.toList = []) : s = ⟨#[]⟩ := by
  unfold ByteArray.toList at h
  rw [ByteArray.toList.loop.eq_1] at h
  split at h
  · exact absurd h (loop_ne s 1 _ (by simp))
  · rename_i h0
    cases s with
    | mk d =>
      have : d.size = 0 := by simpa [ByteArray.size] using h0
      rw [Array.size_eq_zero_iff.1 this]

theorem words_bad {w : World} {B a : Nat} {p : Int} {v : Value} {l : List It} {S : St} {s : ByteArray} (h : ArenaAt w B a v l) (m : Mod l S) (hb : (S.elem p && !decide (s = ⟨#[]⟩)) = false) : Calls Try.prog 12 #[ptr a, i64 p, .string s] w (ArIt B a l (1, S) w) := by
  have he := m.elem p
  cases h1 : S.elem p with
  | false =>
    rw [h1] at he
    have H := Lib.hid (And.intro h (And.intro m he))
    clear h m he h1 hb
    go_enter Try.func12, Try.ntmps12
    go_wp2_with (first
      | (go_at_call 32; (with_reducible refine (element_any H.out.1 H.out.2.2).mono ?_); rintro e w1 ⟨rfl, rfl⟩))
    go_ret
    exact ArIt.same H.out.1 H.out.2.1
  | true =>
    rw [h1] at he hb
    simp at hb
    subst hb
    have H := Lib.hid (And.intro h (And.intro m he))
    clear h m he h1
    go_enter Try.func12, Try.ntmps12
    go_wp2_with (first
      | (go_at_call 32; (with_reducible refine (element_any H.out.1 H.out.2.2).mono ?_); rintro e w1 ⟨rfl, rfl⟩))
    go_ret
    exact ArIt.same H.out.1 H.out.2.1

theorem words_good {w : World} {B a : Nat} {p : Nat} {v : Value} {l : List It} {S : St} {s : ByteArray} (h : ArenaAt w B a v l) (m : Mod l S) (g : Good S) (he : S.elem p = true) (hs : s ≠ ⟨#[]⟩) (ht : ∀ nd ∈ S.l, nd.text.size + s.size ≤ 9223372036854775807) :
    Calls Try.prog 12 #[ptr a, i64 p, .string s] w (ArIt B a l (S.write p (S.kids p).length S.row.length s) w) := by
  obtain ⟨p', nd, hpp, hpl, _, _⟩ := St.elem_nat he
  obtain rfl : p = p' := Int.ofNat.inj hpp
  obtain ⟨ep, hep⟩ := m.ex hpl
  have he' := (m.elem p).trans he
  obtain ⟨ad, c, rfl, hlc, hc9, hrr⟩ := h.form
  obtain ⟨gg, rfl, hgB, hgs, hc⟩ := hrr (fun e => by rw [e] at hep; simp at hep)
  have c0 := h.blk.cell 0 (.slice (some ⟨gg, 0, none⟩) l.length c) rfl
  obtain ⟨_, _, _, _, _, _, _, d7⟩ := hc p ep hep
  obtain ⟨kad, kc, hkv⟩ := (h.its ep (List.mem_of_getElem? hep)).kform
  obtain ⟨mm, hmm⟩ : ∃ mm, ep.kids.length = mm := ⟨_, rfl⟩
  have hmk : (S.kids p).length = mm := by rw [← m.kids p ep hep]; exact hmm
  have hlp : p < l.length := by rw [m.len]; exact hpl
  have z1 : s.toList.isEmpty = false := by
    cases hz : s.toList.isEmpty with
    | false => rfl
    | true => exact absurd (empty_of (List.isEmpty_iff.1 hz)) hs
  have hat : (kidsOf S.ps (S.row.take S.row.length) p).length = mm := by rw [List.take_length]; exact hmk
  have H := Lib.hid (And.intro h (And.intro m (And.intro g (And.intro he' (And.intro hpl (And.intro hat ht))))))
  have HK := Lib.hid hmk
  obtain ⟨n, hn⟩ : ∃ n, l.length = n := ⟨_, rfl⟩
  rw [hkv, hmm] at d7
  rw [hn] at c0 hlc hlp
  rw [hmk]
  clear h m g he hpl hep he' hrr hc hkv hmm hmk hn hpp hat ht hs
  go_enter Try.func12, Try.ntmps12
  go_wp2_with (first
    | (go_at_call 32; (with_reducible refine (element_any H.out.1 H.out.2.2.2.1).mono ?_); rintro e w1 ⟨rfl, rfl⟩)
    | (go_at_call 33; (with_reducible refine (write_any H.out.1 H.out.2.1 H.out.2.2.1 H.out.2.2.2.2.1 H.out.2.2.2.2.2.1 H.out.2.2.2.2.2.2).mono ?_); rintro e w1 ⟨rfl, hq⟩; have HQ := Lib.hid hq; clear hq))
  go_ret
  exact ⟨rfl, HQ.out⟩

theorem words_any {w : World} {B a : Nat} {p : Int} {v : Value} {l : List It} {S : St} {s : ByteArray} (h : ArenaAt w B a v l) (m : Mod l S) (g : Good S) (ht : ∀ nd ∈ S.l, nd.text.size + s.size ≤ 9223372036854775807) :
    Calls Try.prog 12 #[ptr a, i64 p, .string s] w (ArIt B a l (S.words p s) w) := by
  unfold St.words
  by_cases hb : (S.elem p && !decide (s = ⟨#[]⟩)) = true
  · rw [if_pos hb]
    simp only [Bool.and_eq_true, Bool.not_eq_true', decide_eq_false_iff_not] at hb
    obtain ⟨p', _, rfl, _⟩ := St.elem_nat hb.1
    exact words_good h m g hb.1 hb.2 ht
  · rw [if_neg hb]
    exact words_bad h m (by simpa using hb)
theorem Good.words {S : St} (g : Good S) (p : Int) (s : ByteArray) : Good (S.words p s).2 := by
  unfold St.words
  split
  · rename_i hb
    simp only [Bool.and_eq_true] at hb
    obtain ⟨p', _, rfl, hp, _⟩ := St.elem_nat hb.1
    exact g.write hp s
  · exact g

end Go.Proofs.Ytdeogkjihmaniaa
