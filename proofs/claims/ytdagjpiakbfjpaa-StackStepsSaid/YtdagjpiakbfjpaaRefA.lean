/-
  The document's stack (rectoref09) in memory; cut, Pop, Insert, walked.
  Written by an AI agent.
-/
import Derived.Test.YtdagjpiakbfjpaaTo
import Derived.Test.YtdagjpiakbfjpaaSrc
namespace Go.Proofs.Ytdagjpiakbfjpaa
open Go.RowKit

/-- What the document's methods may turn. -/
abbrev RK : Obj → Bool := kinds [44] false
theorem info50 : (Try.prog.info? 50).map (fun i => (i.zero, i.size, i.bytes)) = some (some (.agg #[.int .i64 0, .int .i64 0, .string ⟨#[]⟩]), 3, 32) := by kernel_rfl

/-- The document's stack: its row is its own. -/
def RAt (w : World) (B rb : Nat) (v : Value) (es : List Ent) : Prop := Blk w rb 44 #[v] ∧ B ≤ rb ∧ w.ownsRow B 50 3 v es.length (flatE es) ∧ es.length ≤ 1000000
def Rf (w : World) (B rb : Nat) (es : List Ent) : Prop := ∃ v, RAt w B rb v es
theorem RAt.below {w w' : World} {B rb : Nat} {v : Value} {es : List Ent} (h : RAt w B rb v es) (hb : Below w.heap.size w w') : RAt w' B rb v es := ⟨blk_kept h.1 hb, h.2.1, own_below h.2.2.1 hb, h.2.2.2⟩
theorem Rf.below {w w' : World} {B rb : Nat} {es : List Ent} (h : Rf w B rb es) (hb : Below w.heap.size w w') : Rf w' B rb es := by
  obtain ⟨v, h⟩ := h
  exact ⟨v, h.below hb⟩
theorem RAt.fr {w w' : World} {B B' rb : Nat} {T : Obj → Bool} {v : Value} {es : List Ent} (h : RAt w B rb v es) (hb : Fr B' T w w') (h1 : ∀ cs fr, T (.cells cs 44 fr) = false) (h2 : ∀ cs fr, T (.cells cs 50 fr) = false) : RAt w' B rb v es :=
  ⟨hb.blk h.1 (.inr (h1 _ _)), h.2.1, hb.own h.2.2.1 h2, h.2.2.2⟩
theorem Rf.fr {w w' : World} {B B' rb : Nat} {es : List Ent} (h : Rf w B rb es) (hb : Fr B' LK w w') : Rf w' B rb es := by
  obtain ⟨v, h⟩ := h
  exact ⟨v, h.fr hb (fun _ _ => rfl) (fun _ _ => rfl)⟩
theorem StkAt.rfr {w w' : World} {B B' lb : Nat} {v : Value} {es : List Ent} (h : StkAt w B lb v es) (hb : Fr B' RK w w') : StkAt w' B lb v es :=
  ⟨hb.blk h.1 (.inr rfl), h.2.1, hb.own h.2.2.1 (fun _ _ => rfl), h.2.2.2⟩
theorem Stk.rfr {w w' : World} {B B' lb : Nat} {es : List Ent} (h : Stk w B lb es) (hb : Fr B' RK w w') : Stk w' B lb es := by
  obtain ⟨v, h⟩ := h
  exact ⟨v, h.rfr hb⟩
theorem RAt.nil {w : World} {B rb : Nat} (h : Blk w rb 44 #[.slice none 0 0]) (hB : B ≤ rb) : Rf w B rb [] := ⟨_, h, hB, World.ownsRow_nil _ _ _ _, by simp⟩

theorem size50 (w : World) : (sizeOf (Try.prog.elem 42)).run Try.prog w = .ok 3 w := by
  obtain ⟨i, hi, _, hz, _⟩ := info_parts info50
  show (sizeOf 50).run Try.prog w = .ok 3 w
  simp [sizeOf, typeInfo, hi, hz]

/-- A row of the call's own, stored in the field. -/
theorem rebuilt {w w3 : World} {B rb : Nat} {v v2 : Value} {es' : List Ent} (hb : Blk w rb 44 #[v]) (hB : B ≤ rb) (hbel : Below w.heap.size w w3) (h2 : w3.ownsRow w.heap.size 50 3 v2 es'.length (flatE es')) (hl : es'.length ≤ 1000000) :
    Rf (w3.setCell ⟨rb, 0, none⟩ v2) B rb es' ∧ Fr B RK w (w3.setCell ⟨rb, 0, none⟩ v2) := by
  have b3 : Blk w3 rb 44 #[v] := blk_kept hb hbel
  have := hb.lt
  exact ⟨⟨v2, b3.put 0 v2, hB, own_mono (own_setCell h2 b3 (by decide) 0 v2) (by omega), hl⟩, (Fr.of_below hbel B RK).setCell b3 rfl hB 0 v2⟩

theorem one_src {w1 : World} (x : Ent) : Src (w1.alloc (.cells #[i64 x.id, i64 x.space, .string x.name] 50)) (some ⟨w1.heap.size, 0, none⟩) 1 1 (cellsE x) :=
  ⟨(fun hd => by cases hd), fun ad hd j u hu => by
    obtain rfl := Option.some.inj hd
    rw [addr_add, Nat.zero_add]
    refine (Blk.new w1 50 #[i64 x.id, i64 x.space, .string x.name]).cell j u ?_
    rw [← hu]
    match j with
    | 0 => rfl
    | 1 => rfl
    | 2 => rfl
    | n + 3 => simp [cellsE]⟩
theorem r_one {w w1 : World} {v1 : Value} {n : Nat} {xs : List Value} (h : w1.ownsRow w.heap.size 50 3 v1 (0 + n) ([] ++ xs)) (hg : w.grownBy w1 (Value.slice none 0 0).ownBlock) : Below w.heap.size w w1 ∧ w1.ownsRow w.heap.size 50 3 v1 n xs :=
  ⟨(Below.refl _ _).grown hg (Nat.le_refl _) (fun k hk => by cases hk), by simpa using h⟩
theorem r_zero {w w0 w1 : World} {v1 : Value} {n : Nat} {xs : List Value} (hb : Below w.heap.size w w0) (h : w1.ownsRow w.heap.size 50 3 v1 (0 + n) ([] ++ xs)) (hg : w0.grownBy w1 (Value.slice none 0 0).ownBlock) : Below w.heap.size w w1 ∧ w1.ownsRow w.heap.size 50 3 v1 n xs :=
  ⟨hb.grown hg hb.size (fun k hk => by cases hk), by simpa using h⟩
theorem r_two {w w1 w2 : World} {v v2 : Value} {n m : Nat} {xs ys : List Value} (hb : Below w.heap.size w w1) (h : w1.ownsRow w.heap.size 50 3 v n xs) (h2 : w2.ownsRow w.heap.size 50 3 v2 m ys) (hg : w1.grownBy w2 v.ownBlock) : Below w.heap.size w w2 ∧ w2.ownsRow w.heap.size 50 3 v2 m ys :=
  ⟨hb.grown hg hb.size (fun k hk => (own_kind h k hk).1), h2⟩

set_option maxHeartbeats 1000000 in
theorem rcut_any {w : World} {B rb k : Nat} {p : Int} {es : List Ent} (h : Rf w B rb es) (hp : p = (k : Int)) (hk : k ≤ es.length) :
    Calls Try.prog 45 #[ptr rb, i64 p] w fun e w' => e = .returned (.tuple #[]) ∧ Rf w' B rb (es.take k) ∧ Fr B RK w w' := by
  obtain ⟨v, h⟩ := h
  obtain ⟨ad, c, rfl⟩ := own_slice h.2.2.1
  obtain ⟨n, hn⟩ : ∃ n, es.length = n := ⟨_, rfl⟩
  have c0 := h.1.cell 0 (.slice ad es.length c) rfl
  have hrl := h.1.lt
  have hrow := h.2.2.1
  have hl := h.2.2.2
  rw [hn] at c0 hk hl hrow
  obtain ⟨⟨hsl, hsrc⟩, _⟩ := own_cut (P := Try.prog) (t := 42) Try.underlying42 size50 hrow hp hk
  obtain ⟨i0, hi, hz0, hz1, hz2⟩ := info_parts info50
  have H := Lib.hid (And.intro h (And.intro hn (And.intro hsrc (And.intro hk (And.intro hl hp)))))
  clear h hn hsrc hk hl hrow hp
  go_enter Try.func45, Try.ntmps45
  go_wp2_with (at_builtin; refine wpList_append_src rfl (.tmp 5) (.tmp 11) 42 rfl w.heap.size 50 i0 _ 3 32 Try.underlying42 hi hz0 hz1 hz2 rfl (by decide) (.slice none 0 0) 0 [] rfl (World.ownsRow_nil _ _ _ _) ad k c ((flatE es).take (k * 3)) rfl (by have := H.out.2.1; have := H.out.2.2.2.1; rw [List.length_take, flatE_length]; omega) H.out.2.2.1 (fun u hu => flatE_one es u (List.mem_of_mem_take hu)) (by have := H.out.2.2.2; unfold maxLen; omega) (by have := H.out.2.2.2; omega) (Nat.le_refl _) ?_; intro v1 w1 hown1 hg1 _; obtain ⟨b1, o1⟩ := r_one hown1 hg1; obtain ⟨a1, k1, rfl⟩ := own_slice o1; have c1 := (b1.cell (p := ⟨rb, 0, none⟩) hrl).trans c0; have f1 := (blk_kept H.out.1.1 b1).fro 0; have H1 := Lib.hid (And.intro b1 o1); clear hown1 hg1 b1 o1)
  go_end0
  have ht : (es.take k).length = k := by rw [List.length_take, H.out.2.1]; have := H.out.2.2.2.1; omega
  have ho := H1.out.2
  rw [flatE_take] at ho
  exact ⟨rfl, rebuilt H.out.1.1 H.out.1.2.1 H1.out.1 (by rw [ht]; exact ho) (by rw [ht]; have := H.out.2.2.2; omega)⟩

theorem rcut_n {w : World} {B rb k : Nat} {p : Int} {es q : List Ent} (h : Rf w B rb es) (hp : p = (k : Int)) (hk : k ≤ es.length) (hq : es.take k = q) :
    Calls Try.prog 45 #[ptr rb, i64 p] w fun e w' => e = .returned (.tuple #[]) ∧ Rf w' B rb q ∧ Fr B RK w w' := by
  subst hq
  exact rcut_any h hp hk

theorem rpop_any {w : World} {B rb : Nat} {es : List Ent} (h : Rf w B rb es) :
    Calls Try.prog 32 #[ptr rb] w fun e w' => e = .returned (.bool (topB es)) ∧ Rf w' B rb es.dropLast ∧ Fr B RK w w' := by
  have HH := Lib.hid h
  obtain ⟨v, h⟩ := h
  obtain ⟨ad, c, rfl⟩ := own_slice h.2.2.1
  obtain ⟨n, hn⟩ : ∃ n, es.length = n := ⟨_, rfl⟩
  have c0 := h.1.cell 0 (.slice ad es.length c) rfl
  have hl := h.2.2.2
  rw [hn] at c0 hl
  have HN := Lib.hid hn
  clear h hn
  cases n with
  | zero =>
    go_enter Try.func32, Try.ntmps32
    go_wp2
    go_ret
    have : es = [] := List.length_eq_zero_iff.1 HN.out
    subst this
    exact ⟨rfl, HH.out, Fr.refl _ _ _⟩
  | succ k =>
    have hwr : IntKind.i64.wrap (((k + 1 : Nat) : Int) - 1) = (k : Int) := by rw [IntWalk.i64_in _ (by omega)]; omega
    go_enter Try.func32, Try.ntmps32
    go_wp2_with (go_at_call 45; (with_reducible refine (rcut_any (k := k) HH.out (by omega) (by have := HN.out; omega)).mono ?_); rintro e w1 ⟨rfl, h1, h2⟩; have H1 := Lib.hid (And.intro h1 h2); clear h1 h2)
    go_ret
    have ht : topB es = true := by cases es with
      | nil => simp at HN; exact absurd HN.out (by simp)
      | cons x r => rfl
    rw [ht]
    refine ⟨rfl, ?_, H1.out.2⟩
    have : es.dropLast = es.take k := by rw [List.dropLast_eq_take, HN.out]; rfl
    rw [this]
    exact H1.out.1

theorem insBad_iff {es : List Ent} {p : Int} {n : Nat} (hn : es.length = n) : insBad es p = (decide (p < 0) || decide ((n : Int) < p)) := by subst hn; rfl

set_option maxHeartbeats 2000000 in
theorem rins_any {w : World} {B rb : Nat} {es : List Ent} {p id sp : Int} {nm : ByteArray} (h : Rf w B rb es) (hl : es.length ≤ 200) :
    Calls Try.prog 31 #[ptr rb, i64 p, .agg #[i64 id, i64 sp, .string nm]] w fun e w' => e = .returned (i64 (insR es p)) ∧ Rf w' B rb (insS es p ⟨id, sp, nm⟩) ∧ Fr B RK w w' := by
  have HH := Lib.hid h
  obtain ⟨v, h⟩ := h
  obtain ⟨ad, c, rfl⟩ := own_slice h.2.2.1
  obtain ⟨n, hn⟩ : ∃ n, es.length = n := ⟨_, rfl⟩
  have c0 := h.1.cell 0 (.slice ad es.length c) rfl
  have hrl := h.1.lt
  have hrow := h.2.2.1
  rw [hn] at c0 hl hrow
  have HN := Lib.hid hn
  have HF := Lib.hid h
  by_cases hb0 : p < 0
  · have hz : decide (p < 0) = true := by simpa using hb0
    have HB : Hid (insBad es p = true) := Lib.hid (by simp [insBad, hz])
    clear h hrow hb0 hn
    go_enter Try.func31, Try.ntmps31
    go_wp2
    go_ret
    refine ⟨by simp [insR, HB.out], ?_, (Fr.refl _ _ _).alloc _⟩
    rw [insS, if_pos HB.out]
    exact HH.out.below ((Below.refl _ _).alloc (Nat.le_refl _) _)
  by_cases hb1 : (n : Int) < p
  · have hz : decide (p < 0) = false := by simpa using hb0
    have hz1 : decide ((n : Int) < p) = true := by simpa using hb1
    have HB : Hid (insBad es p = true) := Lib.hid (by simp [insBad, HN.out, hz1])
    clear h hrow hb0 hb1 hn
    go_enter Try.func31, Try.ntmps31
    go_wp2
    go_ret
    refine ⟨by simp [insR, HB.out], ?_, (Fr.refl _ _ _).alloc _⟩
    rw [insS, if_pos HB.out]
    exact HH.out.below ((Below.refl _ _).alloc (Nat.le_refl _) _)
  obtain ⟨k, rfl⟩ : ∃ k : Nat, p = k := ⟨p.toNat, by omega⟩
  have HB : Hid (insBad es k = false) := Lib.hid (by simp [insBad, HN.out]; omega)
  have hk : k ≤ n := by omega
  have hz1 : decide (n < k) = false := by simp; omega
  have hz0 : decide ((k : Int) < 0) = false := by simp
  clear hb0 hb1 hn
  by_cases h200 : n = 200
  · clear h hrow
    subst h200
    go_enter Try.func31, Try.ntmps31
    go_wp2
    go_ret
    refine ⟨by simp [insR, HB.out, HN.out], ?_, (Fr.refl _ _ _).alloc _⟩
    rw [insS, HB.out, HN.out]
    exact HH.out.below ((Below.refl _ _).alloc (Nat.le_refl _) _)
  have hz2 : decide ((199 : Int) < (n : Int)) = false := by simp; omega
  obtain ⟨⟨hsl, hsrc⟩, ao, cc, hsl2, hsrc2, _⟩ := own_cut (P := Try.prog) (t := 42) (l := (k : Int)) Try.underlying42 size50 hrow rfl hk
  obtain ⟨i0, hi, hy0, hy1, hy2⟩ := info_parts info50
  obtain ⟨m, hm⟩ : ∃ m, n - k = m := ⟨_, rfl⟩
  rw [hm] at hsl2 hsrc2
  have H := Lib.hid (And.intro hsrc (And.intro hsrc2 (And.intro hk (And.intro hm (And.intro h200 hl)))))
  have k0 : (0 : Int) ≤ (k : Int) := by omega
  clear h hrow hsrc hsrc2 hk h200 hm
  go_enter Try.func31, Try.ntmps31
  go_wp2_with (first
    | (at_builtin; refine wpList_append_src rfl (.tmp 25) (.tmp 31) 42 rfl w.heap.size 50 i0 _ 3 32 Try.underlying42 hi hy0 hy1 hy2 rfl (by decide) (.slice none 0 0) 0 [] rfl (World.ownsRow_nil _ _ _ _) ad k c ((flatE es).take (k * 3)) rfl (by have := HN.out; have := H.out.2.2.1; rw [List.length_take, flatE_length]; omega) (H.out.1.below ((Below.refl _ _).alloc (Nat.le_refl _) _)) (fun u hu => flatE_one es u (List.mem_of_mem_take hu)) (by have := H.out.2.2; unfold maxLen; omega) (by have := H.out.2.2; omega) (by simp) ?_; intro v1 w1 hown1 hg1 _; obtain ⟨b1, o1⟩ := r_zero ((Below.refl _ _).alloc (Nat.le_refl _) _) hown1 hg1; obtain ⟨a1, k1, rfl⟩ := own_slice o1; have c1 := (b1.cell (p := ⟨rb, 0, none⟩) hrl).trans c0; have d1 : Blk w1 w.heap.size 50 #[i64 id, i64 sp, .string nm] := (hg1.block w.heap.size (by simp) (by simp [Value.ownBlock])).trans (Blk.new w 50 #[i64 id, i64 sp, .string nm]); have e0 := d1.cell 0 (i64 id) rfl; have e1 := d1.cell 1 (i64 sp) rfl; have e2 := d1.cell 2 (.string nm) rfl; have H1 := Lib.hid (And.intro b1 o1); clear hown1 hg1 d1 b1 o1)
    | (at_builtin; refine wpList_append_src rfl (.tmp 33) (.tmp 35) 42 rfl w.heap.size 50 i0 _ 3 32 Try.underlying42 hi hy0 hy1 hy2 rfl (by decide) _ k _ rfl (H1.out.2.alloc _) _ 1 1 (cellsE ⟨id, sp, nm⟩) rfl rfl (one_src ⟨id, sp, nm⟩) (cellsE_one _) (by have := H.out.2.2; unfold maxLen; omega) (by have := H.out.2.2; omega) (by have := H1.out.1.size; simp; omega) ?_; intro v2 w2 hown2 hg2 _; obtain ⟨b2, o2⟩ := r_two (H1.out.1.alloc H1.out.1.size _) (H1.out.2.alloc _) hown2 hg2; obtain ⟨a2, k2, rfl⟩ := own_slice o2; have c1 := (b2.cell (p := ⟨rb, 0, none⟩) hrl).trans c0; have H2 := Lib.hid (And.intro b2 o2); clear hown2 hg2 b2 o2)
    | (at_builtin; refine wpList_append_src rfl (.tmp 37) (.tmp 43) 42 rfl w.heap.size 50 i0 _ 3 32 Try.underlying42 hi hy0 hy1 hy2 rfl (by decide) _ (k + 1) _ rfl H2.out.2 ao m cc ((flatE es).drop (k * 3)) rfl (by have := HN.out; have := H.out.2.2; rw [List.length_drop, flatE_length]; omega) (H.out.2.1.below H2.out.1) (fun u hu => flatE_one es u (List.mem_of_mem_drop hu)) (by have := H.out.2.2; unfold maxLen; omega) (by have := H.out.2.2; omega) H2.out.1.size ?_; intro v3 w3 hown3 hg3 _; obtain ⟨b3, o3⟩ := r_two H2.out.1 H2.out.2 hown3 hg3; obtain ⟨a3, k3, rfl⟩ := own_slice o3; have c1 := (b3.cell (p := ⟨rb, 0, none⟩) hrl).trans c0; have f1 := (blk_kept HF.out.1 b3).fro 0; have H3 := Lib.hid (And.intro b3 o3); clear hown3 hg3 b3 o3))
  go_ret
  have hn := HN.out
  have h200 := H.out.2.2.2.2.1
  have hi : insS es k ⟨id, sp, nm⟩ = es.take k ++ ⟨id, sp, nm⟩ :: es.drop k := by
    rw [insS, HB.out, hn, if_neg h200]
    rfl
  have hr : insR es k = 0 := by
    rw [insR, HB.out, hn, if_neg h200]
    rfl
  have ho := H3.out.2
  rw [flatE_take, flatE_drop, List.append_assoc] at ho
  have hlen : (es.take k ++ (⟨id, sp, nm⟩ : Ent) :: es.drop k).length = k + 1 + m := by
    have := H.out.2.2.1
    have := H.out.2.2.2.1
    rw [List.length_append, List.length_take, List.length_cons, List.length_drop]; omega
  have hfl : flatE (es.take k ++ (⟨id, sp, nm⟩ : Ent) :: es.drop k) = flatE (es.take k) ++ (cellsE ⟨id, sp, nm⟩ ++ flatE (es.drop k)) := by
    rw [flatE_append]
    rfl
  rw [hi, hr]
  refine ⟨rfl, rebuilt HF.out.1 HF.out.2.1 H3.out.1 ?_ ?_⟩
  · rw [hlen, hfl]; exact ho
  · rw [hlen]
    have := H.out.2.2.2.2.2
    have := H.out.2.2.2.1
    have := H.out.2.2.1
    omega
end Go.Proofs.Ytdagjpiakbfjpaa
