/-
  rectoplain.Attrs, Node, Nodes, walked where both sides are alike: true.
  Written by an AI agent.
-/
import Derived.Test.YtdeogkjihmaniaaTree
namespace Go.Proofs.Ytdeogkjihmaniaa
open Go.RowKit

/-- The slice v reads as these attributes. -/
def AR (w : World) (v : Value) (l : List Atr) : Prop :=
  ∃ ad c, v = .slice ad l.length c ∧ l.length ≤ c ∧ l.length ≤ 1000000 ∧ (l ≠ [] → ∃ g off, ad = some ⟨g, off, none⟩ ∧ g < w.heap.size ∧
    ∀ (k : Nat) (x : Atr), l[k]? = some x → w.cell? ⟨g, off + k * 2, none⟩ = some (.string x.1) ∧ w.cell? ⟨g, off + k * 2 + 1, none⟩ = some (.string x.2))
theorem AR.of {w : World} {B : Nat} {v : Value} {l : List Atr} (h : AtrsAt w B v l) : AR w v l := by
  obtain ⟨ad, c, rfl, h1, h2, hr⟩ := h
  exact ⟨ad, c, rfl, h1, h2, fun hne => by obtain ⟨g, off, a, b, _, d⟩ := hr hne; exact ⟨g, off, a, b, d⟩⟩
theorem AR.of_own {w : World} {base : Nat} {v : Value} {l : List Atr} (h : OwnA base w v l) : AR w v l := AR.of (AtrsAt.of_own (B := 0) h.1 h.2)
theorem AR.below {w w' : World} {v : Value} {l : List Atr} (h : AR w v l) (hb : Below w.heap.size w w') : AR w' v l := by
  obtain ⟨ad, c, rfl, h1, h2, hr⟩ := h
  refine ⟨ad, c, rfl, h1, h2, fun hne => ?_⟩
  obtain ⟨g, off, a, b, d⟩ := hr hne
  refine ⟨g, off, a, Nat.lt_of_lt_of_le b hb.size, fun k x hx => ?_⟩
  obtain ⟨e1, e2⟩ := d k x hx
  exact ⟨(hb.cell (p := ⟨g, off + k * 2, none⟩) b).trans e1, (hb.cell (p := ⟨g, off + k * 2 + 1, none⟩) b).trans e2⟩

/-- The slice v reads as these trees. -/
abbrev TrsR (w : World) (v : Value) (ts : List Tr) : Prop := TrsAt (fun _ => True) (AR w) w v ts
theorem TrsR.below {w w' : World} {v : Value} {ts : List Tr} (h : TrsR w v ts) (hb : Below w.heap.size w w') : TrsR w' v ts :=
  h.turn hb.size (fun k hk _ => ⟨hb.block k hk, trivial⟩) fun _ _ ha => ha.below hb
theorem TrsR.of {D : Nat → Prop} {R : Value → List Atr → Prop} {w : World} {v : Value} {ts : List Tr} (h : TrsAt D R w v ts) (hR : ∀ u l, R u l → AR w u l) : TrsR w v ts :=
  h.turn (Nat.le_refl _) (fun _ _ _ => ⟨rfl, trivial⟩) hR

set_option maxHeartbeats 4000000 in
theorem attrs_same {w : World} {va vb : Value} {l : List Atr} (ha : AR w va l) (hb : AR w vb l) :
    Calls Try.prog 59 #[va, vb] w fun e w' => e = .returned (.bool true) ∧ ∃ n, w.drewN n = w' := by
  obtain ⟨ad, ca, rfl, hca, hl, hra⟩ := ha
  obtain ⟨bd, cb, rfl, hcb, _, hrb⟩ := hb
  obtain ⟨n, hn⟩ : ∃ n, l.length = n := ⟨_, rfl⟩
  rw [hn] at hl hca hcb ⊢
  have HN := Lib.hid hn
  have HR := Lib.hid (And.intro hra hrb)
  clear hn hra hrb
  go_enter Try.func59, Try.ntmps59
  go_wp2
  go_loopw [5, 8] (fun _ i wr => ∃ k : Nat, k ≤ n ∧ i = i64 k ∧ ∃ q, wr = w.drewN q) (fun _ i _ => n - (intOf i).toNat)
  case atStart => exact ⟨0, Nat.zero_le _, rfl, 0, rfl⟩
  case round =>
    obtain ⟨k, hk, rfl, q, rfl⟩ := hrel
    by_cases hlt : k < n
    · obtain ⟨x, hx⟩ : ∃ x, l[k]? = some x := ⟨_, List.getElem?_eq_getElem (by rw [HN.out]; exact hlt)⟩
      have hne : l ≠ [] := fun e => by have := HN.out; rw [e] at this; simp at this; omega
      obtain ⟨g, off, had, hg, hc⟩ := HR.out.1 hne
      obtain ⟨g2, off2, hbd, hg2, hc2⟩ := HR.out.2 hne
      obtain ⟨a0, a1⟩ := hc k x hx
      obtain ⟨b0, b1⟩ := hc2 k x hx
      have HAD := Lib.hid (And.intro had hbd)
      clear hne hc hc2 had hbd hx
      rw [HAD.out.1, HAD.out.2]
      have z1 : decide ((n : Int) ≤ (k : Int)) = false := by simp; omega
      have z2 : (x.1.toList == x.1.toList) = true := by simp
      have z3 : (x.2.toList == x.2.toList) = true := by simp
      go_wp2_with fail
      go_quiet (fail)
      go_wp2
      go_roundw
      case rel => exact ⟨k + 1, by omega, by go_num, _, rfl⟩
      case measure => simp [intOf]; omega
    · go_wp2
      go_ret
      exact ⟨rfl, q, rfl⟩

abbrev nodeV (t : Tr) (av kv : Value) : Value := .agg #[i64 t.kind, i64 t.space, .string t.name, av, .string t.text, kv]
/-- Whatever comes in between, these slices of nodes are alike. -/
abbrev SameAt (w : World) (kv1 kv2 : Value) : Prop := ∀ w', Below w.heap.size w w' → Calls Try.prog 25 #[kv1, kv2] w' fun e w'' => e = .returned (.bool true) ∧ Below w'.heap.size w' w''

set_option maxHeartbeats 4000000 in
theorem node_same {w : World} {t : Tr} {av1 av2 kv1 kv2 : Value} (h1 : AR w av1 t.attrs) (h2 : AR w av2 t.attrs) (hk : SameAt w kv1 kv2) (hf1 : ∃ ad n c, kv1 = .slice ad n c) (hf2 : ∃ ad n c, kv2 = .slice ad n c) :
    Calls Try.prog 48 #[nodeV t av1 kv1, nodeV t av2 kv2] w fun e w' => e = .returned (.bool true) ∧ Below w.heap.size w w' := by
  obtain ⟨kind, space, name, attrs, text, kids⟩ := t
  obtain ⟨ad1, n1, c1, rfl⟩ := hf1
  obtain ⟨ad2, n2, c2, rfl⟩ := hf2
  obtain ⟨ba1, bc1, rfl⟩ : ∃ ad c, av1 = .slice ad attrs.length c := by obtain ⟨ad, c, rfl, _⟩ := h1; exact ⟨ad, c, rfl⟩
  obtain ⟨ba2, bc2, rfl⟩ : ∃ ad c, av2 = .slice ad attrs.length c := by obtain ⟨ad, c, rfl, _⟩ := h2; exact ⟨ad, c, rfl⟩
  simp only at h1 h2 ⊢
  have hb2 : Below w.heap.size w ((w.alloc (.cells #[i64 kind, i64 space, .string name, .slice ba1 attrs.length bc1, .string text, .slice ad1 n1 c1] 39)).alloc (.cells #[i64 kind, i64 space, .string name, .slice ba2 attrs.length bc2, .string text, .slice ad2 n2 c2] 39)) := (((Below.refl _ w).alloc (Nat.le_refl _) _).alloc (by simp) _)
  have hx1 := ((Blk.new w 39 #[i64 kind, i64 space, .string name, .slice ba1 attrs.length bc1, .string text, .slice ad1 n1 c1]).alloc (.cells #[i64 kind, i64 space, .string name, .slice ba2 attrs.length bc2, .string text, .slice ad2 n2 c2] 39))
  have hx2 := (Blk.new (w.alloc (.cells #[i64 kind, i64 space, .string name, .slice ba1 attrs.length bc1, .string text, .slice ad1 n1 c1] 39)) 39 #[i64 kind, i64 space, .string name, .slice ba2 attrs.length bc2, .string text, .slice ad2 n2 c2])
  simp only [World.size_alloc] at hx2
  have z1 : (kind == kind) = true := by simp
  have z2 : (space == space) = true := by simp
  have z3 : (name.toList == name.toList) = true := by simp
  have z4 : (text.toList == text.toList) = true := by simp
  have H := Lib.hid (And.intro (h1.below hb2) (And.intro (h2.below hb2) hb2))
  have HX := Lib.hid (And.intro hx1 hx2)
  have HK := Lib.hid hk
  clear h1 h2 hk hb2 hx1 hx2
  go_enter Try.func48, Try.ntmps48
  go_wp2_with (first
    | (go_at_call 59; (with_reducible refine (attrs_same H.out.1 H.out.2.1).mono ?_); rintro e wa ⟨rfl, q, rfl⟩; have s1 := (HX.out.1.drewN q).cell 5 (.slice ad1 n1 c1) rfl; have s2 := (HX.out.2.drewN q).cell 5 (.slice ad2 n2 c2) rfl)
    | (go_at_call 25; (with_reducible refine (HK.out _ (below_drewN H.out.2.2 _)).mono ?_); rintro e wb ⟨rfl, hb⟩; have HB := Lib.hid hb; clear hb))
  go_ret
  exact ⟨rfl, (below_drewN H.out.2.2 _).trans (HB.out.mono (below_drewN H.out.2.2 _).size)⟩

theorem trs_form {D : Nat → Prop} {R : Value → List Atr → Prop} {w : World} {v : Value} {ts : List Tr} (h : TrsAt D R w v ts) : ∃ ad n c, v = .slice ad n c := by
  obtain ⟨ad, c, h⟩ := h.form; exact ⟨ad, _, c, h⟩

/-- What two rows of nodes read, j by j. -/
structure RowF (w : World) (g1 g2 : Nat) (ts : List Tr) (av1 kv1 av2 kv2 : Nat → Value) : Prop where
  q1 : g1 < w.heap.size
  q2 : g2 < w.heap.size
  c1 : ∀ (k : Nat) (t : Tr), ts[k]? = some t → w.cell? ⟨g1, k * 6, none⟩ = some (i64 t.kind) ∧ w.cell? ⟨g1, k * 6 + 1, none⟩ = some (i64 t.space) ∧ w.cell? ⟨g1, k * 6 + 2, none⟩ = some (.string t.name) ∧
        w.cell? ⟨g1, k * 6 + 3, none⟩ = some (av1 k) ∧ w.cell? ⟨g1, k * 6 + 4, none⟩ = some (.string t.text) ∧ w.cell? ⟨g1, k * 6 + 5, none⟩ = some (kv1 k)
  c2 : ∀ (k : Nat) (t : Tr), ts[k]? = some t → w.cell? ⟨g2, k * 6, none⟩ = some (i64 t.kind) ∧ w.cell? ⟨g2, k * 6 + 1, none⟩ = some (i64 t.space) ∧ w.cell? ⟨g2, k * 6 + 2, none⟩ = some (.string t.name) ∧
        w.cell? ⟨g2, k * 6 + 3, none⟩ = some (av2 k) ∧ w.cell? ⟨g2, k * 6 + 4, none⟩ = some (.string t.text) ∧ w.cell? ⟨g2, k * 6 + 5, none⟩ = some (kv2 k)
  a1 : ∀ (k : Nat) (t : Tr), ts[k]? = some t → AR w (av1 k) t.attrs
  a2 : ∀ (k : Nat) (t : Tr), ts[k]? = some t → AR w (av2 k) t.attrs
  f1 : ∀ (k : Nat) (t : Tr), ts[k]? = some t → ∃ ad n c, kv1 k = .slice ad n c
  f2 : ∀ (k : Nat) (t : Tr), ts[k]? = some t → ∃ ad n c, kv2 k = .slice ad n c
  sm : ∀ (k : Nat) (t : Tr), ts[k]? = some t → SameAt w (kv1 k) (kv2 k)

set_option maxHeartbeats 4000000 in
theorem rows_same {w : World} {g1 g2 p1 p2 : Nat} {ts : List Tr} {av1 kv1 av2 kv2 : Nat → Value} (h : RowF w g1 g2 ts av1 kv1 av2 kv2) (hm : ts.length ≤ 9223372036854775807) :
    Calls Try.prog 25 #[.slice (some ⟨g1, 0, none⟩) ts.length p1, .slice (some ⟨g2, 0, none⟩) ts.length p2] w fun e w' => e = .returned (.bool true) ∧ Below w.heap.size w w' := by
  obtain ⟨n, hn⟩ : ∃ n, ts.length = n := ⟨_, rfl⟩
  rw [hn] at hm ⊢
  have HN := Lib.hid hn
  have H := Lib.hid h
  clear hn h
  go_enter Try.func25, Try.ntmps25
  go_wp2
  go_loopw [5, 8] (fun _ i wr => ∃ k : Nat, k ≤ n ∧ i = i64 k ∧ Below w.heap.size w wr) (fun _ i _ => n - (intOf i).toNat)
  case atStart => exact ⟨0, Nat.zero_le _, rfl, Below.refl _ _⟩
  case round =>
    obtain ⟨k, hk, rfl, hbel⟩ := hrel
    by_cases hlt : k < n
    · obtain ⟨t, ht⟩ : ∃ t, ts[k]? = some t := ⟨_, List.getElem?_eq_getElem (by rw [HN.out]; exact hlt)⟩
      have hg1 := H.out.q1
      have hg2 := H.out.q2
      obtain ⟨a0, a1, a2, a3, a4, a5⟩ := H.out.c1 k t ht
      obtain ⟨b0, b1, b2, b3, b4, b5⟩ := H.out.c2 k t ht
      have HT := Lib.hid (show AR wr.drew (av1 k) t.attrs ∧ AR wr.drew (av2 k) t.attrs ∧ SameAt wr.drew (kv1 k) (kv2 k) from ⟨(H.out.a1 k t ht).below hbel.drew, (H.out.a2 k t ht).below hbel.drew, fun w' hb => H.out.sm k t ht w' (hbel.drew.trans (hb.mono hbel.drew.size))⟩)
      have HF := Lib.hid (And.intro (H.out.f1 k t ht) (H.out.f2 k t ht))
      have l0 : ∀ d, (World.mk wr.heap wr.tape d wr.os wr.output).cell? ⟨g1, k * 6, none⟩ = some (i64 t.kind) := fun _ => (hbel.cell (p := ⟨g1, _, none⟩) hg1).trans a0
      have l1 : ∀ d, (World.mk wr.heap wr.tape d wr.os wr.output).cell? ⟨g1, k * 6 + 1, none⟩ = some (i64 t.space) := fun _ => (hbel.cell (p := ⟨g1, _, none⟩) hg1).trans a1
      have l2 : ∀ d, (World.mk wr.heap wr.tape d wr.os wr.output).cell? ⟨g1, k * 6 + 2, none⟩ = some (.string t.name) := fun _ => (hbel.cell (p := ⟨g1, _, none⟩) hg1).trans a2
      have l3 : ∀ d, (World.mk wr.heap wr.tape d wr.os wr.output).cell? ⟨g1, k * 6 + 3, none⟩ = some (av1 k) := fun _ => (hbel.cell (p := ⟨g1, _, none⟩) hg1).trans a3
      have l4 : ∀ d, (World.mk wr.heap wr.tape d wr.os wr.output).cell? ⟨g1, k * 6 + 4, none⟩ = some (.string t.text) := fun _ => (hbel.cell (p := ⟨g1, _, none⟩) hg1).trans a4
      have l5 : ∀ d, (World.mk wr.heap wr.tape d wr.os wr.output).cell? ⟨g1, k * 6 + 5, none⟩ = some (kv1 k) := fun _ => (hbel.cell (p := ⟨g1, _, none⟩) hg1).trans a5
      have m0 : ∀ d, (World.mk wr.heap wr.tape d wr.os wr.output).cell? ⟨g2, k * 6, none⟩ = some (i64 t.kind) := fun _ => (hbel.cell (p := ⟨g2, _, none⟩) hg2).trans b0
      have m1 : ∀ d, (World.mk wr.heap wr.tape d wr.os wr.output).cell? ⟨g2, k * 6 + 1, none⟩ = some (i64 t.space) := fun _ => (hbel.cell (p := ⟨g2, _, none⟩) hg2).trans b1
      have m2 : ∀ d, (World.mk wr.heap wr.tape d wr.os wr.output).cell? ⟨g2, k * 6 + 2, none⟩ = some (.string t.name) := fun _ => (hbel.cell (p := ⟨g2, _, none⟩) hg2).trans b2
      have m3 : ∀ d, (World.mk wr.heap wr.tape d wr.os wr.output).cell? ⟨g2, k * 6 + 3, none⟩ = some (av2 k) := fun _ => (hbel.cell (p := ⟨g2, _, none⟩) hg2).trans b3
      have m4 : ∀ d, (World.mk wr.heap wr.tape d wr.os wr.output).cell? ⟨g2, k * 6 + 4, none⟩ = some (.string t.text) := fun _ => (hbel.cell (p := ⟨g2, _, none⟩) hg2).trans b4
      have m5 : ∀ d, (World.mk wr.heap wr.tape d wr.os wr.output).cell? ⟨g2, k * 6 + 5, none⟩ = some (kv2 k) := fun _ => (hbel.cell (p := ⟨g2, _, none⟩) hg2).trans b5
      have hg1' : g1 < wr.heap.size := Nat.lt_of_lt_of_le hg1 hbel.size
      have hg2' : g2 < wr.heap.size := Nat.lt_of_lt_of_le hg2 hbel.size
      have HB := Lib.hid hbel
      clear ht hg1 hg2 a0 a1 a2 a3 a4 a5 b0 b1 b2 b3 b4 b5 hbel
      have z1 : decide ((n : Int) ≤ (k : Int)) = false := by simp; omega
      go_wp2_with fail
      go_still_tail 13, (by kernel_rfl)
      change wpList _ _ _ _ _ wr.drew
      clear l0 l1 l2 l3 l4 l5 m0 m1 m2 m3 m4 m5
      go_wp2_with (first
        | (go_at_call 48; (with_reducible refine (node_same HT.out.1 HT.out.2.1 HT.out.2.2 HF.out.1 HF.out.2).mono ?_); rintro e wb ⟨rfl, hb⟩; have HC := Lib.hid hb; clear hb))
      go_roundw
      case rel => exact ⟨k + 1, by omega, by go_num, HB.out.drew.trans (HC.out.mono HB.out.drew.size)⟩
      case measure => simp [intOf]; omega
    · go_wp2
      go_ret
      exact ⟨rfl, hbel⟩

theorem nodes_empty (w : World) (ad bd : Option Addr) (c1 c2 : Nat) : Calls Try.prog 25 #[.slice ad 0 c1, .slice bd 0 c2] w fun e w' => e = .returned (.bool true) ∧ w = w' := by
  go_enter Try.func25, Try.ntmps25
  go_wp2
  go_loopw [5, 8] (fun _ i wr => i = i64 0 ∧ w = wr) (fun _ i _ => (intOf i).toNat)
  case atStart => exact ⟨rfl, rfl⟩
  case round =>
    obtain ⟨rfl, rfl⟩ := hrel
    go_wp2
    go_ret
    exact ⟨rfl, rfl⟩

theorem nodes_same {w : World} {va : Value} {ts : List Tr} (h1 : TrsR w va ts) : ∀ {vb : Value}, TrsR w vb ts → SameAt w va vb := by
  have form0 : ∀ {v : Value}, TrsR w v [] → ∃ ad c, v = .slice ad 0 c := fun h => by obtain ⟨ad, c, h⟩ := h.form; exact ⟨ad, c, h⟩
  induction h1 with
  | nil =>
    intro vb h2 w' hb
    obtain ⟨ad, c, rfl⟩ := form0 h2
    exact (nodes_empty w' _ _ _ _).mono fun _ _ ⟨h, e⟩ => ⟨h, e ▸ Below.refl _ _⟩
  | @row g cap ts av kv hg hD _ hc hm hcell hR hk ih =>
    intro vb h2 w' hb
    cases h2 with
    | nil => exact (nodes_empty w' _ _ _ _).mono fun _ _ ⟨h, e⟩ => ⟨h, e ▸ Below.refl _ _⟩
    | @row g2 cap2 _ av2 kv2 hg2 _ _ hc2 hm2 hcell2 hR2 hk2 =>
      have cl : ∀ (p : Addr), p.block < w.heap.size → w'.cell? p = w.cell? p := fun p hp => hb.cell hp
      refine rows_same (av1 := av) (kv1 := kv) (av2 := av2) (kv2 := kv2) ⟨Nat.lt_of_lt_of_le hg hb.size, Nat.lt_of_lt_of_le hg2 hb.size, fun k t ht => ?_, fun k t ht => ?_, fun k t ht => (hR k t ht).below hb, fun k t ht => (hR2 k t ht).below hb, fun k t ht => trs_form (hk k t ht), fun k t ht => trs_form (hk2 k t ht), fun k t ht w2 hb2 => ih k t ht (hk2 k t ht) w2 (hb.trans (hb2.mono hb.size))⟩ (Nat.le_trans hc hm)
      · obtain ⟨a0, a1, a2, a3, a4, a5⟩ := hcell k t ht
        exact ⟨(cl ⟨g, _, none⟩ hg).trans a0, (cl ⟨g, _, none⟩ hg).trans a1, (cl ⟨g, _, none⟩ hg).trans a2, (cl ⟨g, _, none⟩ hg).trans a3, (cl ⟨g, _, none⟩ hg).trans a4, (cl ⟨g, _, none⟩ hg).trans a5⟩
      · obtain ⟨a0, a1, a2, a3, a4, a5⟩ := hcell2 k t ht
        exact ⟨(cl ⟨g2, _, none⟩ hg2).trans a0, (cl ⟨g2, _, none⟩ hg2).trans a1, (cl ⟨g2, _, none⟩ hg2).trans a2, (cl ⟨g2, _, none⟩ hg2).trans a3, (cl ⟨g2, _, none⟩ hg2).trans a4, (cl ⟨g2, _, none⟩ hg2).trans a5⟩
/-- Both sides alike. -/
theorem nodes_eq {w : World} {va vb : Value} {ts : List Tr} (h1 : TrsR w va ts) (h2 : TrsR w vb ts) : Calls Try.prog 25 #[va, vb] w fun e w' => e = .returned (.bool true) ∧ Below w.heap.size w w' :=
  nodes_same h1 h2 w (Below.refl _ _)
end Go.Proofs.Ytdeogkjihmaniaa
