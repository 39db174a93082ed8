/-
  rectolaw11.long, made, does, walked: a step done by the program's arena and by the document's.
  Written by an AI agent.
-/
import Derived.Test.YtdeogkjihmaniaaRwords
import Derived.Deep.RegionWith
namespace Go.Proofs.Ytdeogkjihmaniaa
open Go.RowKit

/-- A step: what, two numbers, a text. -/
structure Stp where
  what : Int
  a : Int
  b : Int
  s : ByteArray

/-- Both arenas: the program's has S1, the document's S2. -/
def Two (w : World) (B a rb : Nat) (S1 S2 : St) : Prop :=
  ∃ v l vL vR lr row, ArenaAt w B a v l ∧ Mod l S1 ∧ RefAt w B rb vL vR lr row ∧ RMod lr row S2 ∧ ∀ k, vR.ownBlock = some k → ¬ foot l k

abbrev BK : Obj → Bool := kinds [67, 64, 3, 53, 57] false
theorem ak_bk : ∀ o, AK o = true → BK o = true := by
  intro o; cases o <;> simp [kinds]
  rintro (h | h | h) <;> simp [h]
theorem rk_bk : ∀ o, RK o = true → BK o = true := by
  intro o; cases o <;> simp [kinds]
  rintro (h | h) <;> simp [h]

theorem Two.below {w w' : World} {B a rb : Nat} {S1 S2 : St} (h : Two w B a rb S1 S2) (hb : Below w.heap.size w w') : Two w' B a rb S1 S2 := by
  obtain ⟨v, l, vL, vR, lr, row, h1, h2, h3, h4, h5⟩ := h
  exact ⟨v, l, vL, vR, lr, row, h1.below hb, h2, h3.below hb, h4, h5⟩
theorem Two.drew {w : World} {B a rb : Nat} {S1 S2 : St} (h : Two w B a rb S1 S2) : Two w.drew B a rb S1 S2 := h.below (Below.refl _ _).drew

theorem RefAt.went {w w' : World} {B rb : Nat} {vL vR : Value} {lr : List Ro} {row : List Int} {l l' : List It} (h : RefAt w B rb vL vR lr row) (hw : Went B l w l' w') (hd : ∀ k, vR.ownBlock = some k → ¬ foot l k) : RefAt w' B rb vL vR lr row :=
  ⟨hw.fr.blk h.blk (.inr rfl), h.low, hw.fr.own h.rowL (fun _ _ => rfl), hw.own h.rowR hd, fun e he => (h.atrs e he).fr hw.fr (Nat.le_refl _) (fun _ _ => rfl)⟩
theorem ArenaAt.rfr {w w' : World} {B a : Nat} {v : Value} {l : List It} (h : ArenaAt w B a v l) (hf : Fr B RK w w') : ArenaAt w' B a v l :=
  ⟨hf.blk h.blk (.inr rfl), h.low, hf.own h.row (fun _ _ => rfl), h.few, fun e he => ⟨(h.its e he).atrs.fr hf (Nat.le_refl _) (fun _ _ => rfl), hf.own (h.its e he).kids (fun _ _ => rfl), (h.its e he).few⟩, h.apart⟩

/-- The program's arena turned. -/
theorem two_prog {w w' : World} {B a rb : Nat} {S2 S' : St} {l : List It} {v' vL vR : Value} {l' : List It} {lr : List Ro} {row : List Int} (h3 : RefAt w B rb vL vR lr row) (h4 : RMod lr row S2) (h5 : ∀ k, vR.ownBlock = some k → ¬ foot l k) (q1 : ArenaAt w' B a v' l') (q2 : Went B l w l' w') (q3 : Mod l' S') : Two w' B a rb S' S2 ∧ Fr B BK w w' :=
  ⟨⟨v', l', vL, vR, lr, row, q1, q3, h3.went q2 h5, h4, fun k hk hf => by
    rcases q2.foot k hf with h | h
    · exact h5 k hk h
    · have := (h3.rowR.lt k hk).2; omega⟩, q2.fr.mono (Nat.le_refl _) ak_bk⟩
/-- The document's arena turned. -/
theorem two_ref {w w' : World} {B a rb : Nat} {S1 S' : St} {l : List It} {v vR vL' vR' : Value} {lr' : List Ro} {row' : List Int} (h1 : ArenaAt w B a v l) (h2 : Mod l S1) (h5 : ∀ k, vR.ownBlock = some k → ¬ foot l k) (q1 : RefAt w' B rb vL' vR' lr' row') (q2 : RMod lr' row' S') (q3 : RWent B w vR w' vR') : Two w' B a rb S1 S' ∧ Fr B BK w w' :=
  ⟨⟨v, l, vL', vR', lr', row', h1.rfr q3.fr, h2, q1, q2, fun k hk hf => by
    rcases q3.row k hk with h | h
    · exact h5 k h hf
    · have := (h1.foot_lt hf).2; omega⟩, q3.fr.mono (Nat.le_refl _) rk_bk⟩

/-- What a step leaves on one side. -/
abbrev SideIt (B a rb : Nat) (r : Int) (S1 S2 : St) (w : World) (e : Ending) (w' : World) : Prop := e = .returned (i64 r) ∧ Two w' B a rb S1 S2 ∧ Fr B BK w w'

theorem side_prog {w : World} {B a rb : Nat} {S1 S2 : St} {r : Int × St} {F : FuncId} {args : Array Value} (h : Two w B a rb S1 S2) (hc : ∀ v l, ArenaAt w B a v l → Mod l S1 → Calls Try.prog F args w (ArIt B a l r w)) : Calls Try.prog F args w (SideIt B a rb r.1 r.2 S2 w) := by
  obtain ⟨v, l, vL, vR, lr, row, h1, h2, h3, h4, h5⟩ := h
  refine (hc v l h1 h2).mono ?_
  rintro e w' ⟨rfl, v', l', q1, q2, q3⟩
  exact ⟨rfl, two_prog h3 h4 h5 q1 q2 q3⟩
theorem side_ref {w : World} {B a rb : Nat} {S1 S2 : St} {r : Int × St} {F : FuncId} {args : Array Value} (h : Two w B a rb S1 S2) (hc : ∀ vL vR lr row, RefAt w B rb vL vR lr row → RMod lr row S2 → Calls Try.prog F args w (RcIt B rb vR r w)) : Calls Try.prog F args w (SideIt B a rb r.1 S1 r.2 w) := by
  obtain ⟨v, l, vL, vR, lr, row, h1, h2, h3, h4, h5⟩ := h
  refine (hc vL vR lr row h3 h4).mono ?_
  rintro e w' ⟨rfl, vL', vR', l', row', q1, q2, q3⟩
  exact ⟨rfl, two_ref h1 h2 h5 q1 q2 q3⟩

section
variable {w : World} {B a rb : Nat} {S S2 S' : St}
theorem p_app {p id r : Int} (h : Two w B a rb S S2) (g : Good S) (hr : S.app p id = (r, S')) : Calls Try.prog 15 #[ptr a, i64 p, i64 id] w (SideIt B a rb r S' S2 w) := by
  have := side_prog (r := S.app p id) h (fun v l h1 h2 => app_any h1 h2 g)
  rw [hr] at this; exact this
theorem p_bef {p id r : Int} (h : Two w B a rb S S2) (g : Good S) (hr : S.bef p id = (r, S')) : Calls Try.prog 28 #[ptr a, i64 p, i64 id] w (SideIt B a rb r S' S2 w) := by
  have := side_prog (r := S.bef p id) h (fun v l h1 h2 => bef_any h1 h2 g)
  rw [hr] at this; exact this
theorem p_det {id r : Int} (h : Two w B a rb S S2) (g : Good S) (hr : S.det id = (r, S')) : Calls Try.prog 27 #[ptr a, i64 id] w (SideIt B a rb r S' S2 w) := by
  have := side_prog (r := S.det id) h (fun v l h1 h2 => det_any h1 h2 g)
  rw [hr] at this; exact this
theorem p_give {p id r : Int} (h : Two w B a rb S S2) (g : Good S) (hr : S.give p id = (r, S')) : Calls Try.prog 29 #[ptr a, i64 p, i64 id] w (SideIt B a rb r S' S2 w) := by
  have := side_prog (r := S.give p id) h (fun v l h1 h2 => give_any h1 h2 g)
  rw [hr] at this; exact this
theorem p_words {p r : Int} {s : ByteArray} (h : Two w B a rb S S2) (g : Good S) (ht : ∀ nd ∈ S.l, nd.text.size + s.size ≤ 9223372036854775807) (hr : S.words p s = (r, S')) : Calls Try.prog 12 #[ptr a, i64 p, .string s] w (SideIt B a rb r S' S2 w) := by
  have := side_prog (r := S.words p s) h (fun v l h1 h2 => words_any h1 h2 g ht)
  rw [hr] at this; exact this
theorem p_wordsB {p r : Int} {s : ByteArray} (h : Two w B a rb S S2) (g : Good S) (ht : ∀ nd ∈ S.l, nd.text.size + s.size ≤ 9223372036854775807) (hr : S.wordsB p s = (r, S')) : Calls Try.prog 30 #[ptr a, i64 p, .string s] w (SideIt B a rb r S' S2 w) := by
  have := side_prog (r := S.wordsB p s) h (fun v l h1 h2 => wordsB_any h1 h2 g ht)
  rw [hr] at this; exact this
theorem r_app {p id r : Int} (h : Two w B a rb S2 S) (g : Good S) (hr : S.app p id = (r, S')) : Calls Try.prog 42 #[ptr rb, i64 p, i64 id] w (SideIt B a rb r S2 S' w) := by
  have := side_ref (r := S.app p id) h (fun _ _ _ _ h1 h2 => rapp_any h1 h2 g)
  rw [hr] at this; exact this
theorem r_bef {p id r : Int} (h : Two w B a rb S2 S) (g : Good S) (hr : S.bef p id = (r, S')) : Calls Try.prog 43 #[ptr rb, i64 p, i64 id] w (SideIt B a rb r S2 S' w) := by
  have := side_ref (r := S.bef p id) h (fun _ _ _ _ h1 h2 => rbef_any h1 h2 g)
  rw [hr] at this; exact this
theorem r_det {id r : Int} (h : Two w B a rb S2 S) (g : Good S) (hr : S.det id = (r, S')) : Calls Try.prog 44 #[ptr rb, i64 id] w (SideIt B a rb r S2 S' w) := by
  have := side_ref (r := S.det id) h (fun _ _ _ _ h1 h2 => rdet_any h1 h2 g)
  rw [hr] at this; exact this
theorem r_give {p id r : Int} (h : Two w B a rb S2 S) (g : Good S) (hr : S.give p id = (r, S')) : Calls Try.prog 45 #[ptr rb, i64 p, i64 id] w (SideIt B a rb r S2 S' w) := by
  have := side_ref (r := S.give p id) h (fun _ _ _ _ h1 h2 => rgive_any h1 h2 g)
  rw [hr] at this; exact this
theorem r_words {p r : Int} {s : ByteArray} (h : Two w B a rb S2 S) (g : Good S) (ht : ∀ nd ∈ S.l, nd.text.size + s.size ≤ 9223372036854775807) (hr : S.words p s = (r, S')) : Calls Try.prog 46 #[ptr rb, i64 p, .string s] w (SideIt B a rb r S2 S' w) := by
  have := side_ref (r := S.words p s) h (fun _ _ _ _ h1 h2 => rwords_any h1 h2 g ht)
  rw [hr] at this; exact this
theorem r_wordsB {p r : Int} {s : ByteArray} (h : Two w B a rb S2 S) (g : Good S) (ht : ∀ nd ∈ S.l, nd.text.size + s.size ≤ 9223372036854775807) (hr : S.wordsB p s = (r, S')) : Calls Try.prog 47 #[ptr rb, i64 p, .string s] w (SideIt B a rb r S2 S' w) := by
  have := side_ref (r := S.wordsB p s) h (fun _ _ _ _ h1 h2 => rwordsB_any h1 h2 g ht)
  rw [hr] at this; exact this
end

/-! ### Element, Comment on both sides -/
section
variable {w : World} {B a rb : Nat} {S S2 : St}
theorem p_elem {n : Nat} {space : Int} {nm : ByteArray} {va : Value} {ats : List Atr} (h : Two w B a rb S S2) (g : Good S) (ha : AtrsAt w B va ats) (hn : S.l.length = n) (hl : n < 600) : Calls Try.prog 14 #[ptr a, i64 space, .string nm, va] w fun e w' => e = .returned (.tuple #[i64 n, i64 0]) ∧ Two w' B a rb (S.add (newN 1 space nm ats ⟨#[]⟩)) S2 ∧ Fr B BK w w' := by
  obtain ⟨v, l, vL, vR, lr, row, h1, h2, h3, h4, h5⟩ := h
  refine (elem_any (n := n) h1 (h2.len.trans hn) hl ha).mono ?_
  rintro e w' ⟨rfl, v', av, q1, q2, _⟩
  exact ⟨rfl, two_prog h3 h4 h5 q1 q2 (h2.add g rfl rfl)⟩
theorem p_elemF {space : Int} {nm : ByteArray} {va : Value} {ats : List Atr} (h : Two w B a rb S S2) (ha : AtrsAt w B va ats) (hl : S.l.length = 600) : Calls Try.prog 14 #[ptr a, i64 space, .string nm, va] w fun e w' => e = .returned (.tuple #[i64 0, i64 5]) ∧ Two w' B a rb S S2 ∧ Fr B BK w w' := by
  have H := h
  obtain ⟨v, l, vL, vR, lr, row, h1, h2, h3, h4, h5⟩ := h
  refine (elem_full h1 (h2.len.trans hl) ha).mono ?_
  rintro e w' ⟨rfl, hb⟩
  exact ⟨rfl, H.below hb, Fr.of_below hb B BK⟩
theorem p_comm {n : Nat} {tx : ByteArray} (h : Two w B a rb S S2) (g : Good S) (hn : S.l.length = n) (hl : n < 600) : Calls Try.prog 11 #[ptr a, .string tx] w fun e w' => e = .returned (.tuple #[i64 n, i64 0]) ∧ Two w' B a rb (S.add (newN 3 0 ⟨#[]⟩ [] tx)) S2 ∧ Fr B BK w w' := by
  obtain ⟨v, l, vL, vR, lr, row, h1, h2, h3, h4, h5⟩ := h
  refine (comment_any (n := n) h1 (h2.len.trans hn) hl).mono ?_
  rintro e w' ⟨rfl, v', q1, q2⟩
  exact ⟨rfl, two_prog h3 h4 h5 q1 q2 (h2.add g rfl rfl)⟩
theorem p_commF {tx : ByteArray} (h : Two w B a rb S S2) (hl : S.l.length = 600) : Calls Try.prog 11 #[ptr a, .string tx] w fun e w' => e = .returned (.tuple #[i64 0, i64 5]) ∧ Two w' B a rb S S2 ∧ Fr B BK w w' := by
  have H := h
  obtain ⟨v, l, vL, vR, lr, row, h1, h2, h3, h4, h5⟩ := h
  refine (comment_full h1 (h2.len.trans hl)).mono ?_
  rintro e w' ⟨rfl, hb⟩
  exact ⟨rfl, H.below hb, Fr.of_below hb B BK⟩
theorem r_add {n : Nat} {kind space : Int} {nm tx : ByteArray} {av : Value} {ats : List Atr} (h : Two w B a rb S2 S) (ha : AtrsAt w B av ats) (hn : S.l.length = n) (hl : n < 600) : Calls Try.prog 41 #[ptr rb, .agg #[i64 kind, i64 space, .string nm, av, .string tx, .slice none 0 0]] w fun e w' => e = .returned (i64 n) ∧ Two w' B a rb S2 (S.add (newN kind space nm ats tx)) ∧ Fr B BK w w' := by
  obtain ⟨v, l, vL, vR, lr, row, h1, h2, h3, h4, h5⟩ := h
  refine (radd_any h3 h4 hn hl ha).mono ?_
  rintro e w' ⟨rfl, vL', vR', l', row', q1, q2, q3⟩
  exact ⟨rfl, two_ref h1 h2 h5 q1 q2 q3⟩
theorem r_addF {kind space : Int} {nm tx : ByteArray} {av : Value} {ats : List Atr} (h : Two w B a rb S2 S) (ha : AtrsAt w B av ats) (hl : S.l.length = 600) : Calls Try.prog 41 #[ptr rb, .agg #[i64 kind, i64 space, .string nm, av, .string tx, .slice none 0 0]] w fun e w' => e = .returned (i64 (-1)) ∧ Two w' B a rb S2 S ∧ Fr B BK w w' := by
  have H := h
  obtain ⟨v, l, vL, vR, lr, row, h1, h2, h3, h4, h5⟩ := h
  refine (radd_full h3 h4 hl ha).mono ?_
  rintro e w' ⟨rfl, hb⟩
  exact ⟨rfl, H.below hb, Fr.of_below hb B BK⟩
end

theorem made_ok (n : Nat) (w : World) : Calls Try.prog 40 #[i64 n, i64 0, i64 n] w fun e w' => e = .returned (.bool true) ∧ w = w' := by
  have z1 : decide ((0 : Int) ≤ (n : Int)) = true := decide_eq_true (by omega)
  have z2 : decide ((n : Int) < 0) = false := decide_eq_false (by omega)
  have z3 : ((n : Int) == (n : Int)) = true := by simp
  go_enter Try.func40, Try.ntmps40
  go_wp2
  all_goals go_ret
  all_goals exact ⟨rfl, rfl⟩
theorem made_full (w : World) : Calls Try.prog 40 #[i64 0, i64 5, i64 (-1)] w fun e w' => e = .returned (.bool true) ∧ w = w' := by
  go_enter Try.func40, Try.ntmps40
  go_wp2
  all_goals go_ret
  all_goals exact ⟨rfl, rfl⟩

/-- What a step does to a state. -/
def St.step (S : St) (x : Stp) : St :=
  if x.what = 0 ∨ x.what = 1 then if S.l.length = 600 then S else S.add (newN 1 x.a x.s [(⟨#[120]⟩, x.s)] ⟨#[]⟩)
  else if x.what = 2 then if S.l.length = 600 then S else S.add (newN 3 0 ⟨#[]⟩ [] x.s)
  else if x.what = 3 ∨ x.what = 4 then (S.app x.a x.b).2
  else if x.what = 5 then (S.bef x.a x.b).2
  else if x.what = 6 then (S.det x.a).2
  else if x.what = 7 then (S.give x.a x.b).2
  else if x.what = 8 then (S.words x.a x.s).2
  else if x.what = 9 then (S.wordsB x.a x.s).2
  else S

def DoneIt (B a rb : Nat) (S : St) (w : World) (e : Ending) (w' : World) : Prop := e = .returned (.bool true) ∧ Two w' B a rb S S ∧ Fr B BK w w'

theorem Two.boxed {w : World} {B a rb : Nat} {S1 S2 : St} (h : Two w B a rb S1 S2) (o : Obj) : Two (w.alloc o) B a rb S1 S2 := h.below ((Below.refl _ w).alloc (Nat.le_refl _) o)

set_option maxHeartbeats 4000000 in
theorem does_app {w : World} {B a rb : Nat} {S : St} {x : Stp} (h : Two w B a rb S S) (g : Good S) (hx : x.what = 3 ∨ x.what = 4) :
    Calls Try.prog 21 #[ptr a, ptr rb, .agg #[i64 x.what, i64 x.a, i64 x.b, .string x.s]] w (DoneIt B a rb (S.app x.a x.b).2 w) := by
  obtain ⟨what, p, q, s⟩ := x
  simp only at hx ⊢
  obtain ⟨r, hr⟩ : ∃ r, S.app p q = r := ⟨_, rfl⟩
  obtain ⟨rc, S'⟩ := r
  rw [hr]
  have HR := Lib.hid (And.intro hr g)
  have H0 := Lib.hid (And.intro (h.boxed (.cells #[i64 what, i64 p, i64 q, .string s] 49)).drew (Blk.drew (Blk.new w 49 #[i64 what, i64 p, i64 q, .string s])))
  clear h g hr
  rcases hx with rfl | rfl
  all_goals go_enter Try.func21, Try.ntmps21
  all_goals go_wp2_with fail
  all_goals go_region_held3 (fun w' => w'.cell? ⟨w.heap.size, 1, none⟩ = some (i64 p) ∧ w'.cell? ⟨w.heap.size, 2, none⟩ = some (i64 q)) (go_keep) (first | (go_at_call 15; (with_reducible refine (p_app H0.out.1 HR.out.2 HR.out.1).mono ?_); rintro e wa ⟨rfl, hca, hfa⟩; have hpa := hfa.blk H0.out.2 (.inr rfl); have s1 := hpa.cell 1 (i64 p) rfl; have s2 := hpa.cell 2 (i64 q) rfl; have HA := Lib.hid (And.intro hca (And.intro hfa hpa)); clear hca hfa hpa) | (go_at_call 42; (with_reducible refine (r_app HA.out.1 HR.out.2 HR.out.1).mono ?_); rintro e wb ⟨rfl, hcb, hfb⟩; have hpb := hfb.blk HA.out.2.2 (.inr rfl); have t1 := hpb.cell 1 (i64 p) rfl; have t2 := hpb.cell 2 (i64 q) rfl; have HB := Lib.hid (And.intro hcb hfb); clear hcb hfb hpb))
  all_goals go_wp2
  all_goals go_ret
  all_goals exact ⟨rfl, HB.out.1, (((Fr.refl B BK w).alloc _).drew).trans (HA.out.2.1.trans HB.out.2)⟩

set_option maxHeartbeats 4000000 in
theorem does_bef {w : World} {B a rb : Nat} {S : St} {x : Stp} (h : Two w B a rb S S) (g : Good S) (hx : x.what = 5) :
    Calls Try.prog 21 #[ptr a, ptr rb, .agg #[i64 x.what, i64 x.a, i64 x.b, .string x.s]] w (DoneIt B a rb (S.bef x.a x.b).2 w) := by
  obtain ⟨what, p, q, s⟩ := x
  simp only at hx ⊢
  obtain ⟨r, hr⟩ : ∃ r, S.bef p q = r := ⟨_, rfl⟩
  obtain ⟨rc, S'⟩ := r
  rw [hr]
  have HR := Lib.hid (And.intro hr g)
  have H0 := Lib.hid (And.intro (h.boxed (.cells #[i64 what, i64 p, i64 q, .string s] 49)).drew (Blk.drew (Blk.new w 49 #[i64 what, i64 p, i64 q, .string s])))
  clear h g hr
  subst hx
  go_enter Try.func21, Try.ntmps21
  go_wp2_with fail
  go_region_held3 (fun w' => w'.cell? ⟨w.heap.size, 1, none⟩ = some (i64 p) ∧ w'.cell? ⟨w.heap.size, 2, none⟩ = some (i64 q)) (go_keep) (first | (go_at_call 28; (with_reducible refine (p_bef H0.out.1 HR.out.2 HR.out.1).mono ?_); rintro e wa ⟨rfl, hca, hfa⟩; have hpa := hfa.blk H0.out.2 (.inr rfl); have s1 := hpa.cell 1 (i64 p) rfl; have s2 := hpa.cell 2 (i64 q) rfl; have HA := Lib.hid (And.intro hca (And.intro hfa hpa)); clear hca hfa hpa) | (go_at_call 43; (with_reducible refine (r_bef HA.out.1 HR.out.2 HR.out.1).mono ?_); rintro e wb ⟨rfl, hcb, hfb⟩; have hpb := hfb.blk HA.out.2.2 (.inr rfl); have t1 := hpb.cell 1 (i64 p) rfl; have t2 := hpb.cell 2 (i64 q) rfl; have HB := Lib.hid (And.intro hcb hfb); clear hcb hfb hpb))
  go_wp2
  go_ret
  exact ⟨rfl, HB.out.1, (((Fr.refl B BK w).alloc _).drew).trans (HA.out.2.1.trans HB.out.2)⟩

set_option maxHeartbeats 4000000 in
theorem does_det {w : World} {B a rb : Nat} {S : St} {x : Stp} (h : Two w B a rb S S) (g : Good S) (hx : x.what = 6) :
    Calls Try.prog 21 #[ptr a, ptr rb, .agg #[i64 x.what, i64 x.a, i64 x.b, .string x.s]] w (DoneIt B a rb (S.det x.a).2 w) := by
  obtain ⟨what, p, q, s⟩ := x
  simp only at hx ⊢
  obtain ⟨r, hr⟩ : ∃ r, S.det p = r := ⟨_, rfl⟩
  obtain ⟨rc, S'⟩ := r
  rw [hr]
  have HR := Lib.hid (And.intro hr g)
  have H0 := Lib.hid (And.intro (h.boxed (.cells #[i64 what, i64 p, i64 q, .string s] 49)).drew (Blk.drew (Blk.new w 49 #[i64 what, i64 p, i64 q, .string s])))
  clear h g hr
  subst hx
  go_enter Try.func21, Try.ntmps21
  go_wp2_with fail
  go_region_held3 (fun w' => w'.cell? ⟨w.heap.size, 1, none⟩ = some (i64 p)) (go_keep) (first | (go_at_call 27; (with_reducible refine (p_det H0.out.1 HR.out.2 HR.out.1).mono ?_); rintro e wa ⟨rfl, hca, hfa⟩; have hpa := hfa.blk H0.out.2 (.inr rfl); have s1 := hpa.cell 1 (i64 p) rfl; have HA := Lib.hid (And.intro hca (And.intro hfa hpa)); clear hca hfa hpa) | (go_at_call 44; (with_reducible refine (r_det HA.out.1 HR.out.2 HR.out.1).mono ?_); rintro e wb ⟨rfl, hcb, hfb⟩; have hpb := hfb.blk HA.out.2.2 (.inr rfl); have t1 := hpb.cell 1 (i64 p) rfl; have HB := Lib.hid (And.intro hcb hfb); clear hcb hfb hpb))
  go_wp2
  go_ret
  exact ⟨rfl, HB.out.1, (((Fr.refl B BK w).alloc _).drew).trans (HA.out.2.1.trans HB.out.2)⟩

set_option maxHeartbeats 4000000 in
theorem does_give {w : World} {B a rb : Nat} {S : St} {x : Stp} (h : Two w B a rb S S) (g : Good S) (hx : x.what = 7) :
    Calls Try.prog 21 #[ptr a, ptr rb, .agg #[i64 x.what, i64 x.a, i64 x.b, .string x.s]] w (DoneIt B a rb (S.give x.a x.b).2 w) := by
  obtain ⟨what, p, q, s⟩ := x
  simp only at hx ⊢
  obtain ⟨r, hr⟩ : ∃ r, S.give p q = r := ⟨_, rfl⟩
  obtain ⟨rc, S'⟩ := r
  rw [hr]
  have HR := Lib.hid (And.intro hr g)
  have H0 := Lib.hid (And.intro (h.boxed (.cells #[i64 what, i64 p, i64 q, .string s] 49)).drew (Blk.drew (Blk.new w 49 #[i64 what, i64 p, i64 q, .string s])))
  clear h g hr
  subst hx
  go_enter Try.func21, Try.ntmps21
  go_wp2_with fail
  go_region_held3 (fun w' => w'.cell? ⟨w.heap.size, 1, none⟩ = some (i64 p) ∧ w'.cell? ⟨w.heap.size, 2, none⟩ = some (i64 q)) (go_keep) (first | (go_at_call 29; (with_reducible refine (p_give H0.out.1 HR.out.2 HR.out.1).mono ?_); rintro e wa ⟨rfl, hca, hfa⟩; have hpa := hfa.blk H0.out.2 (.inr rfl); have s1 := hpa.cell 1 (i64 p) rfl; have s2 := hpa.cell 2 (i64 q) rfl; have HA := Lib.hid (And.intro hca (And.intro hfa hpa)); clear hca hfa hpa) | (go_at_call 45; (with_reducible refine (r_give HA.out.1 HR.out.2 HR.out.1).mono ?_); rintro e wb ⟨rfl, hcb, hfb⟩; have hpb := hfb.blk HA.out.2.2 (.inr rfl); have t1 := hpb.cell 1 (i64 p) rfl; have t2 := hpb.cell 2 (i64 q) rfl; have HB := Lib.hid (And.intro hcb hfb); clear hcb hfb hpb))
  go_wp2
  go_ret
  exact ⟨rfl, HB.out.1, (((Fr.refl B BK w).alloc _).drew).trans (HA.out.2.1.trans HB.out.2)⟩

set_option maxHeartbeats 4000000 in
theorem does_words {w : World} {B a rb : Nat} {S : St} {x : Stp} (h : Two w B a rb S S) (g : Good S) (ht : ∀ nd ∈ S.l, nd.text.size + x.s.size ≤ 9223372036854775807) (hx : x.what = 8) :
    Calls Try.prog 21 #[ptr a, ptr rb, .agg #[i64 x.what, i64 x.a, i64 x.b, .string x.s]] w (DoneIt B a rb (S.words x.a x.s).2 w) := by
  obtain ⟨what, p, q, s⟩ := x
  simp only at hx ht ⊢
  obtain ⟨r, hr⟩ : ∃ r, S.words p s = r := ⟨_, rfl⟩
  obtain ⟨rc, S'⟩ := r
  rw [hr]
  have HR := Lib.hid (And.intro hr g)
  have HT := Lib.hid ht
  have H0 := Lib.hid (And.intro (h.boxed (.cells #[i64 what, i64 p, i64 q, .string s] 49)).drew (Blk.drew (Blk.new w 49 #[i64 what, i64 p, i64 q, .string s])))
  clear h g hr ht
  subst hx
  go_enter Try.func21, Try.ntmps21
  go_wp2_with fail
  go_region_held3 (fun w' => w'.cell? ⟨w.heap.size, 1, none⟩ = some (i64 p) ∧ w'.cell? ⟨w.heap.size, 3, none⟩ = some (.string s)) (go_keep) (first | (go_at_call 12; (with_reducible refine (p_words H0.out.1 HR.out.2 HT.out HR.out.1).mono ?_); rintro e wa ⟨rfl, hca, hfa⟩; have hpa := hfa.blk H0.out.2 (.inr rfl); have s1 := hpa.cell 1 (i64 p) rfl; have s3 := hpa.cell 3 (.string s) rfl; have HA := Lib.hid (And.intro hca (And.intro hfa hpa)); clear hca hfa hpa) | (go_at_call 46; (with_reducible refine (r_words HA.out.1 HR.out.2 HT.out HR.out.1).mono ?_); rintro e wb ⟨rfl, hcb, hfb⟩; have hpb := hfb.blk HA.out.2.2 (.inr rfl); have t1 := hpb.cell 1 (i64 p) rfl; have t3 := hpb.cell 3 (.string s) rfl; have HB := Lib.hid (And.intro hcb hfb); clear hcb hfb hpb))
  go_wp2
  go_ret
  exact ⟨rfl, HB.out.1, (((Fr.refl B BK w).alloc _).drew).trans (HA.out.2.1.trans HB.out.2)⟩

set_option maxHeartbeats 4000000 in
theorem does_wordsB {w : World} {B a rb : Nat} {S : St} {x : Stp} (h : Two w B a rb S S) (g : Good S) (ht : ∀ nd ∈ S.l, nd.text.size + x.s.size ≤ 9223372036854775807) (hx : x.what = 9) :
    Calls Try.prog 21 #[ptr a, ptr rb, .agg #[i64 x.what, i64 x.a, i64 x.b, .string x.s]] w (DoneIt B a rb (S.wordsB x.a x.s).2 w) := by
  obtain ⟨what, p, q, s⟩ := x
  simp only at hx ht ⊢
  obtain ⟨r, hr⟩ : ∃ r, S.wordsB p s = r := ⟨_, rfl⟩
  obtain ⟨rc, S'⟩ := r
  rw [hr]
  have HR := Lib.hid (And.intro hr g)
  have HT := Lib.hid ht
  have H0 := Lib.hid (And.intro (h.boxed (.cells #[i64 what, i64 p, i64 q, .string s] 49)).drew (Blk.drew (Blk.new w 49 #[i64 what, i64 p, i64 q, .string s])))
  clear h g hr ht
  subst hx
  go_enter Try.func21, Try.ntmps21
  go_wp2_with fail
  go_region_held3 (fun w' => w'.cell? ⟨w.heap.size, 1, none⟩ = some (i64 p) ∧ w'.cell? ⟨w.heap.size, 3, none⟩ = some (.string s)) (go_keep) (first | (go_at_call 30; (with_reducible refine (p_wordsB H0.out.1 HR.out.2 HT.out HR.out.1).mono ?_); rintro e wa ⟨rfl, hca, hfa⟩; have hpa := hfa.blk H0.out.2 (.inr rfl); have s1 := hpa.cell 1 (i64 p) rfl; have s3 := hpa.cell 3 (.string s) rfl; have HA := Lib.hid (And.intro hca (And.intro hfa hpa)); clear hca hfa hpa) | (go_at_call 47; (with_reducible refine (r_wordsB HA.out.1 HR.out.2 HT.out HR.out.1).mono ?_); rintro e wb ⟨rfl, hcb, hfb⟩; have hpb := hfb.blk HA.out.2.2 (.inr rfl); have t1 := hpb.cell 1 (i64 p) rfl; have t3 := hpb.cell 3 (.string s) rfl; have HB := Lib.hid (And.intro hcb hfb); clear hcb hfb hpb))
  go_wp2
  go_ret
  exact ⟨rfl, HB.out.1, (((Fr.refl B BK w).alloc _).drew).trans (HA.out.2.1.trans HB.out.2)⟩

theorem atr_new (w : World) (B : Nat) (s : ByteArray) : AtrsAt (w.alloc (.cells #[.string ⟨#[120]⟩, .string s] 32)) B (.slice (some ⟨w.heap.size, 0, none⟩) 1 1) [(⟨#[120]⟩, s)] :=
  AtrsAt.of_own (base := w.heap.size) (World.ownsRow_lit w #[.string ⟨#[120]⟩, .string s] 1 (Nat.le_refl _) (by unfold maxLen; omega) rfl) (by simp)
theorem atr_new1 (w : World) (o : Obj) (B : Nat) (s : ByteArray) : AtrsAt ((w.alloc o).alloc (.cells #[.string ⟨#[120]⟩, .string s] 32)) B (.slice (some ⟨w.heap.size + 1, 0, none⟩) 1 1) [(⟨#[120]⟩, s)] := by
  have := atr_new (w.alloc o) B s
  simp only [World.size_alloc] at this
  exact this

set_option maxHeartbeats 4000000 in
theorem does_elem {w : World} {B a rb : Nat} {S : St} {x : Stp} (h : Two w B a rb S S) (g : Good S) (hl : S.l.length ≠ 600) (hx : x.what = 0 ∨ x.what = 1) :
    Calls Try.prog 21 #[ptr a, ptr rb, .agg #[i64 x.what, i64 x.a, i64 x.b, .string x.s]] w (DoneIt B a rb (S.add (newN 1 x.a x.s [(⟨#[120]⟩, x.s)] ⟨#[]⟩)) w) := by
  obtain ⟨what, p, q, s⟩ := x
  simp only at hx ⊢
  obtain ⟨ln, hlnn⟩ : ∃ ln, S.l.length = ln := ⟨_, rfl⟩
  have hln : ln < 600 := by have := g.len; omega
  have HL := Lib.hid hlnn
  have HG := Lib.hid g
  have hbx := (Blk.new w 49 #[i64 what, i64 p, i64 q, .string s]).alloc (.cells #[.string ⟨#[120]⟩, .string s] 32)
  have H1 := Lib.hid (And.intro ((h.boxed (.cells #[i64 what, i64 p, i64 q, .string s] 49)).boxed (.cells #[.string ⟨#[120]⟩, .string s] 32)) hbx)
  clear h g hl hlnn hbx
  rcases hx with rfl | rfl
  all_goals go_enter Try.func21, Try.ntmps21
  all_goals go_wp2_with (first
    | (go_at_call 14; (with_reducible refine (p_elem H1.out.1 HG.out (atr_new1 _ _ _ _) HL.out hln).mono ?_); rintro e wa ⟨rfl, hca, hfa⟩; have hpa := hfa.blk H1.out.2 (.inr rfl); have s1 := hpa.cell 1 (i64 p) rfl; have s3 := hpa.cell 3 (.string s) rfl; have HA := Lib.hid (And.intro hca hfa); clear hca hfa hpa)
    | (go_at_call 41; (with_reducible refine (r_add (HA.out.1.boxed _) (atr_new _ _ _) HL.out hln).mono ?_); rintro e wb ⟨rfl, hcb, hfb⟩; have HB := Lib.hid (And.intro hcb hfb); clear hcb hfb)
    | (go_at_call 40; (with_reducible refine (made_ok _ _).mono ?_); rintro e wc ⟨rfl, rfl⟩))
  all_goals go_ret
  all_goals exact ⟨rfl, HB.out.1, (((Fr.refl B BK w).alloc _).alloc _).trans (HA.out.2.trans (((Fr.refl B BK wa).alloc _).trans HB.out.2))⟩

set_option maxHeartbeats 4000000 in
theorem does_elemF {w : World} {B a rb : Nat} {S : St} {x : Stp} (h : Two w B a rb S S) (_g : Good S) (hl : S.l.length = 600) (hx : x.what = 0 ∨ x.what = 1) :
    Calls Try.prog 21 #[ptr a, ptr rb, .agg #[i64 x.what, i64 x.a, i64 x.b, .string x.s]] w (DoneIt B a rb S w) := by
  obtain ⟨what, p, q, s⟩ := x
  simp only at hx ⊢
  have HL := Lib.hid hl
  have hbx := (Blk.new w 49 #[i64 what, i64 p, i64 q, .string s]).alloc (.cells #[.string ⟨#[120]⟩, .string s] 32)
  have H1 := Lib.hid (And.intro ((h.boxed (.cells #[i64 what, i64 p, i64 q, .string s] 49)).boxed (.cells #[.string ⟨#[120]⟩, .string s] 32)) hbx)
  clear h hl hbx
  rcases hx with rfl | rfl
  all_goals go_enter Try.func21, Try.ntmps21
  all_goals go_wp2_with (first
    | (go_at_call 14; (with_reducible refine (p_elemF H1.out.1 (atr_new1 _ _ _ _) HL.out).mono ?_); rintro e wa ⟨rfl, hca, hfa⟩; have hpa := hfa.blk H1.out.2 (.inr rfl); have s1 := hpa.cell 1 (i64 p) rfl; have s3 := hpa.cell 3 (.string s) rfl; have HA := Lib.hid (And.intro hca hfa); clear hca hfa hpa)
    | (go_at_call 41; (with_reducible refine (r_addF (HA.out.1.boxed _) (atr_new _ _ _) HL.out).mono ?_); rintro e wb ⟨rfl, hcb, hfb⟩; have HB := Lib.hid (And.intro hcb hfb); clear hcb hfb)
    | (go_at_call 40; (with_reducible refine (made_full _).mono ?_); rintro e wc ⟨rfl, rfl⟩))
  all_goals go_ret
  all_goals exact ⟨rfl, HB.out.1, (((Fr.refl B BK w).alloc _).alloc _).trans (HA.out.2.trans (((Fr.refl B BK wa).alloc _).trans HB.out.2))⟩

set_option maxHeartbeats 4000000 in
theorem does_comm {w : World} {B a rb : Nat} {S : St} {x : Stp} (h : Two w B a rb S S) (g : Good S) (hl : S.l.length ≠ 600) (hx : x.what = 2) :
    Calls Try.prog 21 #[ptr a, ptr rb, .agg #[i64 x.what, i64 x.a, i64 x.b, .string x.s]] w (DoneIt B a rb (S.add (newN 3 0 ⟨#[]⟩ [] x.s)) w) := by
  obtain ⟨what, p, q, s⟩ := x
  simp only at hx ⊢
  obtain ⟨ln, hlnn⟩ : ∃ ln, S.l.length = ln := ⟨_, rfl⟩
  have hln : ln < 600 := by have := g.len; omega
  have HL := Lib.hid hlnn
  have HG := Lib.hid g
  have hbx := Blk.new w 49 #[i64 what, i64 p, i64 q, .string s]
  have H1 := Lib.hid (And.intro (h.boxed (.cells #[i64 what, i64 p, i64 q, .string s] 49)) hbx)
  clear h g hl hlnn hbx
  subst hx
  go_enter Try.func21, Try.ntmps21
  go_wp2_with (first
    | (go_at_call 11; (with_reducible refine (p_comm H1.out.1 HG.out HL.out hln).mono ?_); rintro e wa ⟨rfl, hca, hfa⟩; have hpa := hfa.blk H1.out.2 (.inr rfl); have s3 := hpa.cell 3 (.string s) rfl; have HA := Lib.hid (And.intro hca hfa); clear hca hfa hpa)
    | (go_at_call 41; (with_reducible refine (r_add HA.out.1 (AtrsAt.nil _ _) HL.out hln).mono ?_); rintro e wb ⟨rfl, hcb, hfb⟩; have HB := Lib.hid (And.intro hcb hfb); clear hcb hfb)
    | (go_at_call 40; (with_reducible refine (made_ok _ _).mono ?_); rintro e wc ⟨rfl, rfl⟩))
  go_ret
  exact ⟨rfl, HB.out.1, ((Fr.refl B BK w).alloc _).trans (HA.out.2.trans HB.out.2)⟩

set_option maxHeartbeats 4000000 in
theorem does_commF {w : World} {B a rb : Nat} {S : St} {x : Stp} (h : Two w B a rb S S) (_g : Good S) (hl : S.l.length = 600) (hx : x.what = 2) :
    Calls Try.prog 21 #[ptr a, ptr rb, .agg #[i64 x.what, i64 x.a, i64 x.b, .string x.s]] w (DoneIt B a rb S w) := by
  obtain ⟨what, p, q, s⟩ := x
  simp only at hx ⊢
  have HL := Lib.hid hl
  have hbx := Blk.new w 49 #[i64 what, i64 p, i64 q, .string s]
  have H1 := Lib.hid (And.intro (h.boxed (.cells #[i64 what, i64 p, i64 q, .string s] 49)) hbx)
  clear h hl hbx
  subst hx
  go_enter Try.func21, Try.ntmps21
  go_wp2_with (first
    | (go_at_call 11; (with_reducible refine (p_commF H1.out.1 HL.out).mono ?_); rintro e wa ⟨rfl, hca, hfa⟩; have hpa := hfa.blk H1.out.2 (.inr rfl); have s3 := hpa.cell 3 (.string s) rfl; have HA := Lib.hid (And.intro hca hfa); clear hca hfa hpa)
    | (go_at_call 41; (with_reducible refine (r_addF HA.out.1 (AtrsAt.nil _ _) HL.out).mono ?_); rintro e wb ⟨rfl, hcb, hfb⟩; have HB := Lib.hid (And.intro hcb hfb); clear hcb hfb)
    | (go_at_call 40; (with_reducible refine (made_full _).mono ?_); rintro e wc ⟨rfl, rfl⟩))
  go_ret
  exact ⟨rfl, HB.out.1, ((Fr.refl B BK w).alloc _).trans (HA.out.2.trans HB.out.2)⟩

theorem does_other {w : World} {B a rb : Nat} {S : St} {x : Stp} (h : Two w B a rb S S) (hx : x.what < 0 ∨ 9 < x.what) :
    Calls Try.prog 21 #[ptr a, ptr rb, .agg #[i64 x.what, i64 x.a, i64 x.b, .string x.s]] w (DoneIt B a rb S w) := by
  obtain ⟨what, p, q, s⟩ := x
  simp only at hx ⊢
  have H0 := Lib.hid (h.boxed (.cells #[i64 what, i64 p, i64 q, .string s] 49))
  have e0 : (what == 0) = false := by simp; omega
  have e1 : (what == 1) = false := by simp; omega
  have e2 : (what == 2) = false := by simp; omega
  have e3 : (what == 3) = false := by simp; omega
  have e4 : (what == 4) = false := by simp; omega
  have e5 : (what == 5) = false := by simp; omega
  have e6 : (what == 6) = false := by simp; omega
  have e7 : (what == 7) = false := by simp; omega
  have e8 : (what == 8) = false := by simp; omega
  have e9 : (what == 9) = false := by simp; omega
  clear h hx
  go_enter Try.func21, Try.ntmps21
  go_wp2
  go_ret
  exact ⟨rfl, H0.out, (Fr.refl B BK w).alloc _⟩

theorem does_any {w : World} {B a rb : Nat} {S : St} (x : Stp) (h : Two w B a rb S S) (g : Good S) (ht : ∀ nd ∈ S.l, nd.text.size + x.s.size ≤ 9223372036854775807) :
    Calls Try.prog 21 #[ptr a, ptr rb, .agg #[i64 x.what, i64 x.a, i64 x.b, .string x.s]] w (DoneIt B a rb (S.step x) w) := by
  unfold St.step
  by_cases h1 : x.what = 0 ∨ x.what = 1
  · rw [if_pos h1]
    by_cases hl : S.l.length = 600
    · rw [if_pos hl]; exact does_elemF h g hl h1
    · rw [if_neg hl]; exact does_elem h g hl h1
  rw [if_neg h1]
  by_cases h2 : x.what = 2
  · rw [if_pos h2]
    by_cases hl : S.l.length = 600
    · rw [if_pos hl]; exact does_commF h g hl h2
    · rw [if_neg hl]; exact does_comm h g hl h2
  rw [if_neg h2]
  by_cases h3 : x.what = 3 ∨ x.what = 4
  · rw [if_pos h3]; exact does_app h g h3
  rw [if_neg h3]
  by_cases h5 : x.what = 5
  · rw [if_pos h5]; exact does_bef h g h5
  rw [if_neg h5]
  by_cases h6 : x.what = 6
  · rw [if_pos h6]; exact does_det h g h6
  rw [if_neg h6]
  by_cases h7 : x.what = 7
  · rw [if_pos h7]; exact does_give h g h7
  rw [if_neg h7]
  by_cases h8 : x.what = 8
  · rw [if_pos h8]; exact does_words h g ht h8
  rw [if_neg h8]
  by_cases h9 : x.what = 9
  · rw [if_pos h9]; exact does_wordsB h g ht h9
  rw [if_neg h9]
  exact does_other h (by omega)

theorem Good.step {S : St} (g : Good S) (x : Stp) : Good (S.step x) := by
  unfold St.step
  have hlen := g.len
  split
  · split
    · exact g
    · exact g.add _ (by omega) rfl
  split
  · split
    · exact g
    · exact g.add _ (by omega) rfl
  split
  · exact g.app _ _
  split
  · exact g.bef _ _
  split
  · exact g.det _
  split
  · exact g.give _ _
  split
  · exact g.words _ _
  split
  · exact g.wordsB _ _
  exact g

end Go.Proofs.Ytdeogkjihmaniaa
