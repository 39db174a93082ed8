/-
  The cache's methods, walked: what each answers and what it leaves in memory.
  Written by an AI agent.
-/
import Derived.Test.YtdgdfnofedlkaaaProg
import Derived.Test.YtdgdfnofedlkaaaRing
import Derived.Outline
import Derived.BigRegion
import Derived.RegionTactic
import Derived.Deep.QuietTactic
import Derived.BigQuiet
import Derived.Lib.Hide
import Derived.Handy
import Derived.KernelRfl
namespace Go.Proofs.Ytdgdfnofedlkaaa
open Go.RowKit Go.Maps

set_option maxHeartbeats 1000000 in
theorem out_raw (b p n : Nat) (vp vn : Value) (w : World) (h2 : w.cell? ⟨b, 2, none⟩ = some (ptr p)) (h3 : w.cell? ⟨b, 3, none⟩ = some (ptr n))
    (hp : w.cell? ⟨p, 3, none⟩ = some vp) (hn : w.cell? ⟨n, 2, none⟩ = some vn) (fp : w.frozen? ⟨p, 3, none⟩ = false) (fn : w.frozen? ⟨n, 2, none⟩ = false) :
    Calls Try.prog 25 #[ptr b] w fun e w' => e = .returned (.tuple #[]) ∧ Like w' ((w.setCell ⟨p, 3, none⟩ (ptr n)).setCell ⟨n, 2, none⟩ (ptr p)) := by
  go_enter Try.func25, Try.ntmps25
  go_wp2
  go_region
  all_goals (go_end0; exact ⟨rfl, rfl, rfl, rfl, rfl⟩)

set_option maxHeartbeats 2000000 in
theorem use_raw (cb b r n : Nat) (v2 v3 vn : Value) (w : World) (hc : w.cell? ⟨cb, 3, none⟩ = some (ptr r)) (hr : w.cell? ⟨r, 3, none⟩ = some (ptr n))
    (h2 : w.cell? ⟨b, 2, none⟩ = some v2) (h3 : w.cell? ⟨b, 3, none⟩ = some v3) (f2 : w.frozen? ⟨b, 2, none⟩ = false) (f3 : w.frozen? ⟨b, 3, none⟩ = false)
    (hn : w.cell? ⟨n, 2, none⟩ = some vn) (fr : w.frozen? ⟨r, 3, none⟩ = false) (fn : w.frozen? ⟨n, 2, none⟩ = false) (e1 : b ≠ r) (e2 : b ≠ n) :
    Calls Try.prog 24 #[ptr cb, ptr b] w fun e w' => e = .returned (.tuple #[]) ∧ Like w' ((((w.setCell ⟨b, 2, none⟩ (ptr r)).setCell ⟨b, 3, none⟩ (ptr n)).setCell ⟨r, 3, none⟩ (ptr b)).setCell ⟨n, 2, none⟩ (ptr b)) := by
  have e1' : r ≠ b := fun e => e1 e.symm
  have e2' : n ≠ b := fun e => e2 e.symm
  go_enter Try.func24, Try.ntmps24
  go_wp2
  go_region
  all_goals go_wp2
  all_goals go_region
  all_goals (go_end0; exact ⟨rfl, rfl, rfl, rfl, rfl⟩)

theorem K3 : Keyed Try.prog 3 := int_keyed Try.underlying3
theorem zero52 (w : World) : (zeroValue 52).run Try.prog w = .ok (.pointer none) w := by kernel_rfl

section
variable {w : World} {B cb mb rb : Nat} {most bytes hits misses : Int} {st : List Txt} {L : List Nat} {tx : Nat → Int × ByteArray} {pv nx : Nat → Nat} {M : List (Value × Value)}

theorem out_any {A C : List Nat} {b : Nat} (hR : RingIs pv nx rb (A ++ b :: C)) (hN : Nodes w (rb :: (A ++ b :: C)) tx pv nx) :
    Calls Try.prog 25 #[ptr b] w fun e w' => e = .returned (.tuple #[]) ∧ Like w' ((w.setCell ⟨pv b, 3, none⟩ (ptr (nx b))).setCell ⟨nx b, 2, none⟩ (ptr (pv b))) := by
  obtain ⟨hp, hn⟩ := hR.near
  have hb := hN b (by simp)
  have h1 := hN _ hp
  have h2 := hN _ hn
  exact out_raw b (pv b) (nx b) _ _ w (hb.cell 2 _ rfl) (hb.cell 3 _ rfl) (h1.cell 3 _ rfl) (h2.cell 2 _ rfl) (h1.fro 3) (h2.fro 2)

theorem use_any {b : Nat} {v2 v3 : Value} {cs : Array Value} (hc : Blk w cb 54 cs) (hcs : cs[3]? = some (ptr rb)) (hN : Nodes w (rb :: L) tx pv nx) {i s : Value} (hb : Blk w b 56 #[i, s, v2, v3]) (hbL : b ∉ rb :: L) (hn : nx rb ∈ rb :: L) :
    Calls Try.prog 24 #[ptr cb, ptr b] w fun e w' => e = .returned (.tuple #[]) ∧ Like w' ((((w.setCell ⟨b, 2, none⟩ (ptr rb)).setCell ⟨b, 3, none⟩ (ptr (nx rb))).setCell ⟨rb, 3, none⟩ (ptr b)).setCell ⟨nx rb, 2, none⟩ (ptr b)) := by
  have h1 := hN rb (by simp)
  have h2 := hN _ hn
  exact use_raw cb b rb (nx rb) v2 v3 _ w (hc.cell 3 _ hcs) (h1.cell 3 _ rfl) (hb.cell 2 _ rfl) (hb.cell 3 _ rfl) (hb.fro 2) (hb.fro 3) (h2.cell 2 _ rfl) (h1.fro 3) (h2.fro 2)
    (fun e => hbL (by simp [e])) (fun e => hbL (by rw [e]; exact hn))

theorem CacheAt.setCount (h : CacheAt Try.prog w B cb most bytes st hits misses mb rb L tx pv nx M) (hits' : Int) :
    CacheAt Try.prog (w.setCell ⟨cb, 5, none⟩ (i64 hits')) B cb most bytes st hits' misses mb rb L tx pv nx M :=
  ⟨h.blk.put 5 _, h.map.setCell h.blk 5 _, h.perm, h.ring, fun c hc => (h.nodes c hc).far (p := ⟨cb, 5, none⟩) ((h.nodes c hc).ne h.blk (by decide)) _, h.text, h.ids, h.base, h.fits⟩
theorem CacheAt.setMiss (h : CacheAt Try.prog w B cb most bytes st hits misses mb rb L tx pv nx M) (misses' : Int) :
    CacheAt Try.prog (w.setCell ⟨cb, 6, none⟩ (i64 misses')) B cb most bytes st hits misses' mb rb L tx pv nx M :=
  ⟨h.blk.put 6 _, h.map.setCell h.blk 6 _, h.perm, h.ring, fun c hc => (h.nodes c hc).far (p := ⟨cb, 6, none⟩) ((h.nodes c hc).ne h.blk (by decide)) _, h.text, h.ids, h.base, h.fits⟩
end

/-- What Get answers and leaves: the text of the ID is now the first. -/
def GotIt (B cb : Nat) (most bytes : Int) (hits misses : Int) (A C : List Txt) (x : Txt) (w : World) (e : Ending) (w' : World) : Prop :=
  e = .returned (.tuple #[.string x.2, .bool true]) ∧ Cache Try.prog w' B cb most bytes (x :: (A ++ C)) (hits + 1) misses ∧ Fr B CK w w'

theorem out_b {rb b : Nat} {A C : List Nat} (hn : (rb :: (A ++ b :: C)).Nodup) : b ∉ rb :: (A ++ C) := fun hm => by
  have hp : (rb :: (A ++ b :: C)).Perm (b :: (rb :: (A ++ C))) := by
    have := (List.perm_middle (a := b) (l₁ := rb :: A) (l₂ := C))
    simpa using this
  exact (List.nodup_cons.1 (hp.nodup_iff.1 hn)).1 hm
theorem out_sub {rb b : Nat} {A C : List Nat} : ∀ c ∈ rb :: (A ++ C), c ∈ rb :: (A ++ b :: C) := fun c hc => by
  simp only [List.mem_cons, List.mem_append] at hc ⊢
  rcases hc with h | h | h <;> simp [h]

/-- 'use', called behind 'out'. -/
theorem get_use {w w2 : World} {B cb mb rb b : Nat} {most bytes hits misses : Int} {st : List Txt} {A C : List Nat} {tx : Nat → Int × ByteArray} {pv nx : Nat → Nat} {M : List (Value × Value)}
    (h : CacheAt Try.prog w B cb most bytes st hits misses mb rb (A ++ b :: C) tx pv nx M)
    (hl : Like w2 ((w.setCell ⟨pv b, 3, none⟩ (ptr (nx b))).setCell ⟨nx b, 2, none⟩ (ptr (pv b)))) :
    Calls Try.prog 24 #[ptr cb, ptr b] w2 fun e w3 => e = .returned (.tuple #[]) ∧ Like w3 ((((w2.setCell ⟨b, 2, none⟩ (ptr rb)).setCell ⟨b, 3, none⟩ (ptr ((upd nx (pv b) (nx b)) rb))).setCell ⟨rb, 3, none⟩ (ptr b)).setCell ⟨(upd nx (pv b) (nx b)) rb, 2, none⟩ (ptr b)) := by
  obtain ⟨o1, o2, o3, o4⟩ := h.out hl
  exact use_any o1 rfl (o3.sub out_sub) (o3 b (by simp)) (out_b h.ring.2.2) h.ring.out.first

theorem get_mem {w w2 w3 : World} {B cb mb rb b : Nat} {most bytes hits misses : Int} {st : List Txt} {A C : List Nat} {tx : Nat → Int × ByteArray} {pv nx : Nat → Nat} {M : List (Value × Value)}
    (h : CacheAt Try.prog w B cb most bytes st hits misses mb rb (A ++ b :: C) tx pv nx M)
    (hl : Like w2 ((w.setCell ⟨pv b, 3, none⟩ (ptr (nx b))).setCell ⟨nx b, 2, none⟩ (ptr (pv b)))) 
    (hl2 : Like w3 ((((w2.setCell ⟨b, 2, none⟩ (ptr rb)).setCell ⟨b, 3, none⟩ (ptr ((upd nx (pv b) (nx b)) rb))).setCell ⟨rb, 3, none⟩ (ptr b)).setCell ⟨(upd nx (pv b) (nx b)) rb, 2, none⟩ (ptr b))) :
    Cache Try.prog w3 B cb most bytes (tx b :: (A.map tx ++ C.map tx)) hits misses ∧ Fr B CK w w3 ∧ w3.cell? ⟨b, 1, none⟩ = some (.string (tx b).2) := by
  obtain ⟨o1, o2, o3, o4⟩ := h.out hl
  have R := h.ring.out
  have hnd := h.ring.2.2
  have hbAC := out_b hnd
  have hsub : ∀ c ∈ rb :: (A ++ C), c ∈ rb :: (A ++ b :: C) := out_sub
  obtain ⟨f1, f2, f3, f4⟩ := front_mem (B := B) (P := Try.prog) (o3.sub hsub) (o3 b (by simp)) hbAC R.first (h.base.2.2 b (by simp)) (fun c hc => h.base.2.2 c (hsub c hc)) hl2
  have hp : (tx b :: (A.map tx ++ C.map tx)).Perm st := by
    rw [← h.text, List.map_append, List.map_cons]
    exact List.perm_middle.symm
  refine ⟨⟨mb, rb, b :: (A ++ C), tx, _, _, M, ?_, f4 _ _ o2, ?_, R.front hbAC, f1, by simp, ?_, ?_, ?_⟩, o4.trans f2, (f1 b (by simp)).cell 1 _ rfl⟩
  · have := f3 _ _ _ (by decide) o1
    rw [← tot_perm hp] at this
    exact this
  · refine h.perm.trans ?_
    rw [List.map_append, List.map_cons, List.map_cons, List.map_append]
    exact List.perm_middle
  · intro x hx
    exact h.ids x (hp.mem_iff.1 hx)
  · refine ⟨h.base.1, h.base.2.1, fun c hc => h.base.2.2 c ?_⟩
    simp only [List.mem_cons, List.mem_append] at hc ⊢
    rcases hc with h | h | h | h <;> simp [h]
  · have hf := h.fits
    rw [← tot_perm hp, ← hp.length_eq] at hf
    exact hf

set_option maxHeartbeats 2000000 in
theorem get_yes {w : World} {B cb mb rb b : Nat} {most bytes hits misses : Int} {st : List Txt} {A C : List Nat} {tx : Nat → Int × ByteArray} {pv nx : Nat → Nat} {M : List (Value × Value)}
    (h : CacheAt Try.prog w B cb most bytes st hits misses mb rb (A ++ b :: C) tx pv nx M) (h0 : 0 ≤ hits) (h1 : hits < 9223372036854775807) :
    Calls Try.prog 19 #[ptr cb, i64 (tx b).1] w (GotIt B cb most bytes hits misses (A.map tx) (C.map tx) (tx b) w) := by
  have hw := h.ids (tx b) (by rw [← h.text]; exact List.mem_map.2 ⟨b, by simp, rfl⟩)
  have hlk := h.map.look K3 Try.underlying51 (keyOf_int_mk Try.underlying3 hw) (h.perm.mem_iff.2 (List.mem_map.2 ⟨b, by simp, rfl⟩)) true
  simp only [if_true] at hlk
  have c2 := h.blk.cell 2 (.map (some mb)) rfl
  have c5 := h.blk.cell 5 (i64 hits) rfl
  have f5 := h.blk.fro 5
  have HG := Lib.hid (h.setCount (hits + 1))
  have HF := Lib.hid ((Fr.refl B CK w).setCell h.blk rfl h.base.1 5 (i64 (hits + 1)))
  obtain ⟨id, hid⟩ : ∃ id, (tx b).1 = id := ⟨_, rfl⟩
  rw [hid] at hlk ⊢
  clear h hw hid
  go_enter Try.func19, Try.ntmps19
  go_wp2_with (first
    | (go_at_call 25; (with_reducible refine (out_any HG.out.ring HG.out.nodes).mono ?_); rintro e w2 ⟨rfl, hl⟩; have HL := Lib.hid hl; clear hl)
    | (go_at_call 24; (with_reducible refine (get_use HG.out HL.out).mono ?_); rintro e w3 ⟨rfl, hl3⟩; have g3 := get_mem HG.out HL.out hl3; have HM := Lib.hid g3; have c1 := g3.2.2; clear hl3 g3))
  go_ret2
  exact ⟨rfl, HM.out.1, HF.out.trans HM.out.2.1⟩

end Go.Proofs.Ytdgdfnofedlkaaa
