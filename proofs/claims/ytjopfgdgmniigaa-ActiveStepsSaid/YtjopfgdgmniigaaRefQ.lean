/-
  The document's list (rectoref10): drop, put, Mark, Insert, Remove, Swap, Clear, walked.
  Written by an AI agent.
-/
import Derived.Test.YtjopfgdgmniigaaRefP
namespace Go.Proofs.Ytjopfgdgmniigaa
open Go.RowKit Go.Maps

/-- A row of the call's own, stored in the field. -/
theorem drebuilt {w w3 : World} {B rb : Nat} {v v2 : Value} {ps' : List (Ent × Value)} (hb : Blk w rb 30 #[v]) (hB : B ≤ rb) (hbel : Below w.heap.size w w3) (h2 : w3.ownsRow w.heap.size 41 4 v2 ps'.length (flatP ps')) (hl : ps'.length ≤ 1000000) (hat : ∀ p ∈ ps', AtrsAt w B p.2 p.1.attrs) :
    Doc (w3.setCell ⟨rb, 0, none⟩ v2) B rb (ps'.map (·.1)) ∧ Fr B DK w (w3.setCell ⟨rb, 0, none⟩ v2) := by
  have b3 : Blk w3 rb 30 #[v] := blk_kept hb hbel
  have := hb.lt
  have fr : Fr B DK w (w3.setCell ⟨rb, 0, none⟩ v2) := (Fr.of_below hbel B DK).setCell b3 rfl hB 0 v2
  exact ⟨⟨v2, ps', ⟨b3.put 0 v2, hB, own_mono (own_setCell h2 b3 (by decide) 0 v2) (by omega), hl, fun p hp => (hat p hp).fr fr (Nat.le_refl _) (fun _ _ => rfl)⟩, rfl⟩, fr⟩

theorem one_src {w1 : World} (mk : Bool) (id : Int) (nm : ByteArray) (v : Value) : Src (w1.alloc (.cells #[.bool mk, i64 id, .string nm, v] 41)) (some ⟨w1.heap.size, 0, none⟩) 1 1 [.bool mk, i64 id, .string nm, v] :=
  ⟨(fun hd => by cases hd), fun ad hd j u hu => by
    obtain rfl := Option.some.inj hd
    rw [addr_add, Nat.zero_add]
    refine (Blk.new w1 41 #[.bool mk, i64 id, .string nm, v]).cell j u ?_
    rw [← hu]
    match j with
    | 0 => rfl
    | 1 => rfl
    | 2 => rfl
    | 3 => rfl
    | n + 4 => simp⟩
theorem r_zero {w w0 w1 : World} {v1 : Value} {n : Nat} {xs : List Value} (hb : Below w.heap.size w w0) (h : w1.ownsRow w.heap.size 41 4 v1 (0 + n) ([] ++ xs)) (hg : w0.grownBy w1 (Value.slice none 0 0).ownBlock) : Below w.heap.size w w1 ∧ w1.ownsRow w.heap.size 41 4 v1 n xs :=
  ⟨hb.grown hg hb.size (fun k hk => by cases hk), by simpa using h⟩
theorem r_two {w w1 w2 : World} {v v2 : Value} {n m : Nat} {xs ys : List Value} (hb : Below w.heap.size w w1) (h : w1.ownsRow w.heap.size 41 4 v n xs) (h2 : w2.ownsRow w.heap.size 41 4 v2 m ys) (hg : w1.grownBy w2 v.ownBlock) : Below w.heap.size w w2 ∧ w2.ownsRow w.heap.size 41 4 v2 m ys :=
  ⟨hb.grown hg hb.size (fun k hk => (own_kind h k hk).1), h2⟩
theorem own_alloc {w : World} {B n : Nat} {v : Value} {xs : List Value} {e : TypeId} {size : Nat} (h : w.ownsRow B e size v n xs) (o : Obj) : (w.alloc o).ownsRow B e size v n xs := own_below h ((Below.refl _ w).alloc (Nat.le_refl _) o) (Nat.le_refl _)
/-- Where the list's row lies, to be cut. -/
theorem Doc.row {w : World} {B rb n : Nat} {es : List Ent} (h : Doc w B rb es) (hn : es.length = n) : ∃ ad c ps, ListAt w B rb 30 41 (.slice ad n c) ps ∧ ps.map (·.1) = es ∧ ps.length = n ∧ w.cell? ⟨rb, 0, none⟩ = some (.slice ad n c) ∧ rb < w.heap.size ∧ w.ownsRow B 41 4 (.slice ad n c) n (flatP ps) ∧ (flatP ps).length = n * 4 ∧ (∀ u ∈ flatP ps, u.oneCell' = true) := by
  obtain ⟨ad, c, ps, h1, h2, h3, h4, _⟩ := h.at_ hn
  have hp : ps.length = n := by rw [← hn, ← h2, List.length_map]
  refine ⟨ad, c, ps, h1, h2, hp, h3, h4, ?_, by rw [flatP_length, hp], row_one h1.2.2⟩
  rw [← hp]
  have := h1.2.2.1
  rw [← hp] at this
  exact this

set_option maxHeartbeats 1000000 in
theorem ddrop_any {w : World} {B rb k : Nat} {es q : List Ent} (h : Doc w B rb es) (hk : k < es.length) (hl : es.length ≤ 1000) (hq : es.take k ++ es.drop (k + 1) = q) :
    Calls Try.prog 47 #[ptr rb, i64 k] w fun e w' => e = .returned (.tuple #[]) ∧ Doc w' B rb q ∧ Fr B DK w w' := by
  obtain ⟨n, hn⟩ : ∃ n, es.length = n := ⟨_, rfl⟩
  obtain ⟨ad, c, ps, hL, hps, hpn, c0, hrl, hrow, hfl, hone⟩ := h.row hn
  rw [hn] at hk hl
  obtain ⟨⟨hsl, hsrc⟩, _⟩ := own_cut2 (P := Try.prog) (t := 28) (l := (k : Int)) (k := k) Try.underlying28 size41 hrow rfl (by omega)
  obtain ⟨_, ao, cc, hsl2, hsrc2, _⟩ := own_cut2 (P := Try.prog) (t := 28) (l := (k : Int) + 1) (k := k + 1) Try.underlying28 size41 hrow (by omega) (by omega)
  obtain ⟨i0, hi, hy0, hy1, hy2⟩ := info_parts info41
  obtain ⟨m, hm⟩ : ∃ m, n - (k + 1) = m := ⟨_, rfl⟩
  rw [hm] at hsl2 hsrc2
  have hw : IntKind.i64.wrap ((k : Int) + 1) = (k : Int) + 1 := IntWalk.i64_in _ (by omega)
  have H := Lib.hid (And.intro hsrc (And.intro hsrc2 (And.intro (show k + 1 + m = n by omega) (And.intro hl (And.intro hfl (And.intro hone (And.intro hps hpn)))))))
  have HF := Lib.hid hL
  have HQ := Lib.hid hq
  clear h hL hrow hsrc hsrc2 hm hn hl hk hq hps hpn hfl hone
  go_enter Try.func47, Try.ntmps47
  go_wp2_with (first
    | (at_builtin; refine wpList_append_src rfl (.tmp 5) (.tmp 11) 28 rfl w.heap.size 41 i0 _ 4 56 Try.underlying28 hi hy0 hy1 hy2 rfl (by decide) (.slice none 0 0) 0 [] rfl (World.ownsRow_nil _ _ _ _) ad k c ((flatP ps).take (k * 4)) rfl (by have := H.out.2.2.1; have := H.out.2.2.2.2.1; rw [List.length_take]; omega) H.out.1 (fun u hu => H.out.2.2.2.2.2.1 u (List.mem_of_mem_take hu)) (by have := H.out.2.2.1; have := H.out.2.2.2.1; unfold maxLen; omega) (by have := H.out.2.2.1; have := H.out.2.2.2.1; omega) (Nat.le_refl _) ?_; intro v1 w1 hown1 hg1 _; obtain ⟨b1, o1⟩ := r_zero (Below.refl _ _) hown1 hg1; obtain ⟨a1, k1, rfl⟩ := own_slice o1; have c1 := (b1.cell (p := ⟨rb, 0, none⟩) hrl).trans c0; have H1 := Lib.hid (And.intro b1 o1); clear hown1 hg1 b1 o1)
    | (at_builtin; refine wpList_append_src rfl (.tmp 13) (.tmp 20) 28 rfl w.heap.size 41 i0 _ 4 56 Try.underlying28 hi hy0 hy1 hy2 rfl (by decide) _ k _ rfl H1.out.2 ao m cc ((flatP ps).drop ((k + 1) * 4)) rfl (by have := H.out.2.2.1; have := H.out.2.2.2.2.1; rw [List.length_drop]; omega) (H.out.2.1.below H1.out.1) (fun u hu => H.out.2.2.2.2.2.1 u (List.mem_of_mem_drop hu)) (by have := H.out.2.2.1; have := H.out.2.2.2.1; unfold maxLen; omega) (by have := H.out.2.2.1; have := H.out.2.2.2.1; omega) H1.out.1.size ?_; intro v3 w3 hown3 hg3 _; obtain ⟨b3, o3⟩ := r_two H1.out.1 H1.out.2 hown3 hg3; obtain ⟨a3, k3, rfl⟩ := own_slice o3; have c1 := (b3.cell (p := ⟨rb, 0, none⟩) hrl).trans c0; have f1 := (blk_kept HF.out.1 b3).fro 0; have H3 := Lib.hid (And.intro b3 o3); clear hown3 hg3 b3 o3))
  go_end0
  have ho := H3.out.2
  rw [flatP_take, flatP_drop, ← flatP_append] at ho
  have hpn := H.out.2.2.2.2.2.2.2
  have hkm := H.out.2.2.1
  have hlen : (ps.take k ++ ps.drop (k + 1)).length = k + m := by
    rw [List.length_append, List.length_take, List.length_drop]; omega
  have hr := drebuilt (ps' := ps.take k ++ ps.drop (k + 1)) HF.out.1 HF.out.2.1 H3.out.1 (by rw [hlen]; exact ho) (by rw [hlen]; have := H.out.2.2.2.1; omega) (fun p hp => HF.out.2.2.2.2 p (by
    rcases List.mem_append.1 hp with hp | hp
    · exact List.mem_of_mem_take hp
    · exact List.mem_of_mem_drop hp))
  have hmap : (ps.take k ++ ps.drop (k + 1)).map (·.1) = q := by
    rw [List.map_append, List.map_take, List.map_drop, H.out.2.2.2.2.2.2.1]
    exact HQ.out
  rw [hmap] at hr
  exact ⟨rfl, hr⟩

set_option maxHeartbeats 2000000 in
theorem dput_any {w : World} {B rb k na ca : Nat} {va : Option Addr} {es q : List Ent} {mk : Bool} {id p : Int} {nm : ByteArray} {l : List Atr} (h : Doc w B rb es) (hp : p = (k : Int)) (hk : k ≤ es.length) (hl : es.length ≤ 1000) (ha : AtrsAt w B (.slice va na ca) l) (hq : es.take k ++ ⟨mk, id, nm, l⟩ :: es.drop k = q) :
    Calls Try.prog 48 #[ptr rb, i64 p, .agg #[.bool mk, i64 id, .string nm, .slice va na ca]] w fun e w' => e = .returned (.tuple #[]) ∧ Doc w' B rb q ∧ Fr B DK w w' := by
  subst hp
  obtain ⟨n, hn⟩ : ∃ n, es.length = n := ⟨_, rfl⟩
  obtain ⟨ad, c, ps, hL, hps, hpn, c0, hrl, hrow, hfl, hone⟩ := h.row hn
  rw [hn] at hk hl
  obtain ⟨⟨hsl, hsrc⟩, ao, cc, hsl2, hsrc2, _⟩ := own_cut2 (P := Try.prog) (t := 28) (l := (k : Int)) (k := k) Try.underlying28 size41 hrow rfl hk
  obtain ⟨i0, hi, hy0, hy1, hy2⟩ := info_parts info41
  obtain ⟨m, hm⟩ : ∃ m, n - k = m := ⟨_, rfl⟩
  rw [hm] at hsl2 hsrc2
  have H := Lib.hid (And.intro hsrc (And.intro hsrc2 (And.intro (show k + m = n by omega) (And.intro hl (And.intro hfl (And.intro hone (And.intro hps hpn)))))))
  have HF := Lib.hid hL
  have HQ := Lib.hid (And.intro hq ha)
  have k0 : (0 : Int) ≤ (k : Int) := by omega
  clear h hL hrow hsrc hsrc2 hm hn hl hk hq hps hpn hfl hone ha
  go_enter Try.func48, Try.ntmps48
  go_wp2_with (first
    | (at_builtin; refine wpList_append_src rfl (.tmp 7) (.tmp 13) 28 rfl w.heap.size 41 i0 _ 4 56 Try.underlying28 hi hy0 hy1 hy2 rfl (by decide) (.slice none 0 0) 0 [] rfl (World.ownsRow_nil _ _ _ _) ad k c ((flatP ps).take (k * 4)) rfl (by have := H.out.2.2.1; have := H.out.2.2.2.2.1; rw [List.length_take]; omega) (H.out.1.below ((Below.refl _ _).alloc (Nat.le_refl _) _)) (fun u hu => H.out.2.2.2.2.2.1 u (List.mem_of_mem_take hu)) (by have := H.out.2.2.1; have := H.out.2.2.2.1; unfold maxLen; omega) (by have := H.out.2.2.1; have := H.out.2.2.2.1; omega) (by simp) ?_; intro v1 w1 hown1 hg1 _; obtain ⟨b1, o1⟩ := r_zero ((Below.refl _ _).alloc (Nat.le_refl _) _) hown1 hg1; obtain ⟨a1, k1, rfl⟩ := own_slice o1; have c1 := (b1.cell (p := ⟨rb, 0, none⟩) hrl).trans c0; have d1 : Blk w1 w.heap.size 41 #[.bool mk, i64 id, .string nm, .slice va na ca] := (hg1.block w.heap.size (by simp) (by simp [Value.ownBlock])).trans (Blk.new w 41 #[.bool mk, i64 id, .string nm, .slice va na ca]); have e0 := d1.cell 0 (.bool mk) rfl; have e1 := d1.cell 1 (i64 id) rfl; have e2 := d1.cell 2 (.string nm) rfl; have e3 := d1.cell 3 (.slice va na ca) rfl; have H1 := Lib.hid (And.intro b1 o1); clear hown1 hg1 d1 b1 o1)
    | (at_builtin; refine wpList_append_src rfl (.tmp 15) (.tmp 17) 28 rfl w.heap.size 41 i0 _ 4 56 Try.underlying28 hi hy0 hy1 hy2 rfl (by decide) _ k _ rfl (own_alloc H1.out.2 _) _ 1 1 [.bool mk, i64 id, .string nm, .slice va na ca] rfl rfl (one_src mk id nm (.slice va na ca)) (by intro u hu; simp at hu; rcases hu with rfl | rfl | rfl | rfl <;> rfl) (by have := H.out.2.2.1; have := H.out.2.2.2.1; unfold maxLen; omega) (by have := H.out.2.2.1; have := H.out.2.2.2.1; omega) (by have := H1.out.1.size; simp; omega) ?_; intro v2 w2 hown2 hg2 _; obtain ⟨b2, o2⟩ := r_two (H1.out.1.alloc H1.out.1.size _) (own_alloc H1.out.2 _) hown2 hg2; obtain ⟨a2, k2, rfl⟩ := own_slice o2; have c1 := (b2.cell (p := ⟨rb, 0, none⟩) hrl).trans c0; have H2 := Lib.hid (And.intro b2 o2); clear hown2 hg2 b2 o2)
    | (at_builtin; refine wpList_append_src rfl (.tmp 19) (.tmp 25) 28 rfl w.heap.size 41 i0 _ 4 56 Try.underlying28 hi hy0 hy1 hy2 rfl (by decide) _ (k + 1) _ rfl H2.out.2 ao m cc ((flatP ps).drop (k * 4)) rfl (by have := H.out.2.2.1; have := H.out.2.2.2.2.1; rw [List.length_drop]; omega) (H.out.2.1.below H2.out.1) (fun u hu => H.out.2.2.2.2.2.1 u (List.mem_of_mem_drop hu)) (by have := H.out.2.2.1; have := H.out.2.2.2.1; unfold maxLen; omega) (by have := H.out.2.2.1; have := H.out.2.2.2.1; omega) H2.out.1.size ?_; intro v3 w3 hown3 hg3 _; obtain ⟨b3, o3⟩ := r_two H2.out.1 H2.out.2 hown3 hg3; obtain ⟨a3, k3, rfl⟩ := own_slice o3; have c1 := (b3.cell (p := ⟨rb, 0, none⟩) hrl).trans c0; have f1 := (blk_kept HF.out.1 b3).fro 0; have H3 := Lib.hid (And.intro b3 o3); clear hown3 hg3 b3 o3))
  go_end0
  have ho := H3.out.2
  rw [flatP_take, flatP_drop, List.append_assoc] at ho
  have hpn := H.out.2.2.2.2.2.2.2
  have hkm := H.out.2.2.1
  obtain ⟨e0, he0⟩ : ∃ e0, ((⟨mk, id, nm, l⟩ : Ent), Value.slice va na ca) = e0 := ⟨_, rfl⟩
  have hlen : (ps.take k ++ e0 :: ps.drop k).length = k + 1 + m := by
    rw [List.length_append, List.length_take, List.length_cons, List.length_drop]; omega
  have hfl : flatP (ps.take k ++ e0 :: ps.drop k) = flatP (ps.take k) ++ ([.bool mk, i64 id, .string nm, .slice va na ca] ++ flatP (ps.drop k)) := by
    rw [flatP_append, ← he0]
    rfl
  have hr := drebuilt (ps' := ps.take k ++ e0 :: ps.drop k) HF.out.1 HF.out.2.1 H3.out.1 (by rw [hlen, hfl]; exact ho) (by rw [hlen]; have := H.out.2.2.2.1; omega) (fun p hp => by
    rcases List.mem_append.1 hp with hp | hp
    · exact HF.out.2.2.2.2 p (List.mem_of_mem_take hp)
    · rcases List.mem_cons.1 hp with rfl | hp
      · rw [← he0]; exact HQ.out.2
      · exact HF.out.2.2.2.2 p (List.mem_of_mem_drop hp))
  have hmap : (ps.take k ++ e0 :: ps.drop k).map (·.1) = q := by
    rw [List.map_append, List.map_cons, List.map_take, List.map_drop, H.out.2.2.2.2.2.2.1, ← he0]
    exact HQ.out.1
  rw [hmap] at hr
  exact ⟨rfl, hr⟩
end Go.Proofs.Ytjopfgdgmniigaa
