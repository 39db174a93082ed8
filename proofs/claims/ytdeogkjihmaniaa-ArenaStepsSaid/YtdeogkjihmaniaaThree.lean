/-
  rectolaw11.words, walked.
  Written by an AI agent.
-/
import Derived.Test.YtdeogkjihmaniaaNodes
namespace Go.Proofs.Ytdeogkjihmaniaa
open Go.RowKit

def S0 : St := ⟨[⟨1, 0, ⟨#[]⟩, [], ⟨#[]⟩, -1⟩], []⟩
theorem mod0 : Mod [rootI] S0 := ⟨rfl, fun k e hk => by
  cases k with
  | zero => simp at hk; subst hk; rfl
  | succ k => simp at hk⟩
theorem good0 : Good S0 := ⟨PGood.root, by decide, List.nodup_nil, fun x hx => (by cases hx), fun k p hk => by
  cases k with
  | zero => simp [S0, St.ps] at hk
  | succ k => simp [S0, St.ps] at hk, ⟨_, rfl, rfl, rfl⟩⟩
def pN : Nd := ⟨1, 0, ⟨#[112]⟩, [], ⟨#[]⟩, -1⟩
def S1 : St := S0.add pN
def S2 : St := ⟨[⟨1, 0, ⟨#[]⟩, [], ⟨#[]⟩, -1⟩, ⟨1, 0, ⟨#[112]⟩, [], ⟨#[]⟩, 0⟩], [1]⟩
def S3 : St := ⟨[⟨1, 0, ⟨#[]⟩, [], ⟨#[]⟩, -1⟩, ⟨1, 0, ⟨#[112]⟩, [], ⟨#[]⟩, 0⟩, ⟨2, 0, ⟨#[]⟩, [], ⟨#[97]⟩, 1⟩], [1, 2]⟩
def S4 : St := ⟨[⟨1, 0, ⟨#[]⟩, [], ⟨#[]⟩, -1⟩, ⟨1, 0, ⟨#[112]⟩, [], ⟨#[]⟩, 0⟩, ⟨2, 0, ⟨#[]⟩, [], ⟨#[97, 98]⟩, 1⟩], [1, 2]⟩
theorem S12 : S1.app 0 1 = (0, S2) := by kernel_rfl
theorem S23 : S2.words 1 ⟨#[97]⟩ = (0, S3) := by kernel_rfl
theorem S34 : S3.words 1 ⟨#[98]⟩ = (0, S4) := by kernel_rfl
def t4 : List Tr := [⟨1, 0, ⟨#[112]⟩, [], ⟨#[]⟩, [⟨2, 0, ⟨#[]⟩, [], ⟨#[97, 98]⟩, []⟩]⟩]
theorem S4t : treeS S4 = t4 := by kernel_rfl

theorem good1 : Good S1 := good0.add pN (by decide) rfl
theorem good2 : Good S2 := by have := good1.app 0 1; rw [S12] at this; exact this
theorem good3 : Good S3 := by have := good2.words 1 ⟨#[97]⟩; rw [S23] at this; exact this
theorem good4 : Good S4 := by have := good3.words 1 ⟨#[98]⟩; rw [S34] at this; exact this
theorem short4 : Short S4 := by
  intro nd h
  have hT : (4 : Nat) ≤ TB := by unfold TB; decide
  simp only [S4, List.mem_cons, List.not_mem_nil, or_false] at h
  rcases h with rfl | rfl | rfl
  · exact Nat.zero_le _
  · exact Nat.zero_le _
  · exact Nat.le_trans (by decide) hT

/-- A state in memory. -/
def Ar (w : World) (B a : Nat) (S : St) : Prop := ∃ v l, ArenaAt w B a v l ∧ Mod l S
theorem Ar.below {w w' : World} {B a : Nat} {S : St} (h : Ar w B a S) (hb : Below w.heap.size w w') : Ar w' B a S := by
  obtain ⟨v, l, h, m⟩ := h; exact ⟨v, l, h.below hb, m⟩
theorem new_ar (w : World) : Calls Try.prog 9 #[] w fun e w' => e = .returned (ptr (w.heap.size + 1)) ∧ Ar w' w.heap.size (w.heap.size + 1) S0 ∧ Below w.heap.size w w' :=
  (new_any w).mono fun _ _ ⟨h1, ⟨v, h2⟩, h3⟩ => ⟨h1, ⟨v, _, h2, mod0⟩, h3⟩
theorem elem1 {w : World} {B a : Nat} (h : Ar w B a S0) (hB : B ≤ w.heap.size) : Calls Try.prog 14 #[ptr a, .int .i64 0, .string ⟨#[112]⟩, .slice none 0 0] w fun e w' => e = .returned (.tuple #[.int .i64 1, .int .i64 0]) ∧ Ar w' B a S1 ∧ Below B w w' := by
  obtain ⟨v, l, h, m⟩ := h
  refine (elem_any (n := 1) (space := 0) (nm := ⟨#[112]⟩) (ats := []) h m.len (by decide) (AtrsAt.nil _ _)).mono ?_
  rintro e w' ⟨rfl, v', av, h1, h2, _⟩
  exact ⟨rfl, ⟨v', _, h1, m.add good0 rfl rfl⟩, h2.below hB⟩
theorem app_ar {w : World} {B a : Nat} {S S' : St} {p id r : Int} (h : Ar w B a S) (g : Good S) (hB : B ≤ w.heap.size) (hr : S.app p id = (r, S')) : Calls Try.prog 15 #[ptr a, i64 p, i64 id] w fun e w' => e = .returned (i64 r) ∧ Ar w' B a S' ∧ Below B w w' := by
  obtain ⟨v, l, h, m⟩ := h
  refine (app_any (p := p) (id := id) h m g).mono ?_
  rintro e w' ⟨rfl, v', l', h1, h2, h3⟩
  rw [hr] at h3 ⊢
  exact ⟨rfl, ⟨v', l', h1, h3⟩, h2.below hB⟩
theorem words_ar {w : World} {B a : Nat} {S S' : St} {p r : Int} {s : ByteArray} (h : Ar w B a S) (g : Good S) (ht : ∀ nd ∈ S.l, nd.text.size + s.size ≤ 9223372036854775807) (hB : B ≤ w.heap.size) (hr : S.words p s = (r, S')) : Calls Try.prog 12 #[ptr a, i64 p, .string s] w fun e w' => e = .returned (i64 r) ∧ Ar w' B a S' ∧ Below B w w' := by
  obtain ⟨v, l, h, m⟩ := h
  refine (words_any (p := p) h m g ht).mono ?_
  rintro e w' ⟨rfl, v', l', h1, h2, h3⟩
  rw [hr] at h3 ⊢
  exact ⟨rfl, ⟨v', l', h1, h3⟩, h2.below hB⟩
theorem tree_ar {w : World} {B a : Nat} {S : St} {ts : List Tr} (h : Ar w B a S) (g : Good S) (ht : Short S) (hr : treeS S = ts) : Calls Try.prog 16 #[ptr a] w (NodesIt ts w) := by
  obtain ⟨v, l, h, m⟩ := h
  subst hr
  exact tree_any h m g ht
theorem len_ar {w : World} {B a n : Nat} {S : St} (h : Ar w B a S) (hn : S.l.length = n) : Calls Try.prog 13 #[ptr a] w fun e w' => e = .returned (i64 n) ∧ w = w' := by
  obtain ⟨v, l, h, m⟩ := h
  exact (len_any h (m.len.trans hn)).mono fun _ _ ⟨h1, h2⟩ => ⟨h1, h2.symm⟩

/-- The first tree of some. -/
theorem TrsAt.get {D : Nat → Prop} {R : Value → List Atr → Prop} {w : World} {v : Value} {ts : List Tr} (h : TrsAt D R w v ts) {k : Nat} {t : Tr} (hk : ts[k]? = some t) : ∃ g cap av kv, v = .slice (some ⟨g, 0, none⟩) ts.length cap ∧ ts.length ≤ cap ∧ cap ≤ 9223372036854775807 ∧ g < w.heap.size ∧ D g ∧
    w.cell? ⟨g, k * 6, none⟩ = some (i64 t.kind) ∧ w.cell? ⟨g, k * 6 + 1, none⟩ = some (i64 t.space) ∧ w.cell? ⟨g, k * 6 + 2, none⟩ = some (.string t.name) ∧ w.cell? ⟨g, k * 6 + 3, none⟩ = some av ∧ w.cell? ⟨g, k * 6 + 4, none⟩ = some (.string t.text) ∧ w.cell? ⟨g, k * 6 + 5, none⟩ = some kv ∧
    R av t.attrs ∧ TrsAt D R w kv t.kids := by
  cases h with
  | nil => simp at hk
  | row av kv hg hD _ hc hm hcell hR hkk =>
    obtain ⟨h1, h2, h3, h4, h5, h6⟩ := hcell k t hk
    exact ⟨_, _, av k, kv k, rfl, hc, hm, hg, hD, h1, h2, h3, h4, h5, h6, hR k t hk, hkk k t hk⟩

theorem txt0 {S : St} {s : ByteArray} (ht : Short S) (hs : s.size ≤ 1000) : ∀ nd ∈ S.l, nd.text.size + s.size ≤ 9223372036854775807 := fun nd h => by
  have h1 := ht nd h
  have h2 := TB_le
  omega
theorem short2 : Short S2 := by
  intro nd h
  simp only [S2, List.mem_cons, List.not_mem_nil, or_false] at h
  rcases h with rfl | rfl <;> exact Nat.zero_le _
theorem short3 : Short S3 := by
  intro nd h
  have hT : (4 : Nat) ≤ TB := by unfold TB; decide
  simp only [S3, List.mem_cons, List.not_mem_nil, or_false] at h
  rcases h with rfl | rfl | rfl
  · exact Nat.zero_le _
  · exact Nat.zero_le _
  · exact Nat.le_trans (by decide) hT

theorem app12 {w : World} {B a : Nat} (h : Ar w B a S1) (hB : B ≤ w.heap.size) : Calls Try.prog 15 #[ptr a, .int .i64 0, .int .i64 1] w fun e w' => e = .returned (.int .i64 0) ∧ Ar w' B a S2 ∧ Below B w w' := app_ar h good1 hB S12
theorem words23 {w : World} {B a : Nat} (h : Ar w B a S2) (hB : B ≤ w.heap.size) : Calls Try.prog 12 #[ptr a, .int .i64 1, .string ⟨#[97]⟩] w fun e w' => e = .returned (.int .i64 0) ∧ Ar w' B a S3 ∧ Below B w w' := words_ar h good2 (txt0 short2 (by decide)) hB S23
theorem words34 {w : World} {B a : Nat} (h : Ar w B a S3) (hB : B ≤ w.heap.size) : Calls Try.prog 12 #[ptr a, .int .i64 1, .string ⟨#[98]⟩] w fun e w' => e = .returned (.int .i64 0) ∧ Ar w' B a S4 ∧ Below B w w' := words_ar h good3 (txt0 short3 (by decide)) hB S34

set_option maxHeartbeats 1000000 in
theorem three_any (w : World) : Calls Try.prog 10 #[] w fun e w' => e = .returned (.bool true) ∧ Below w.heap.size w w' := by
  go_enter Try.func10, Try.ntmps10
  go_wp2_with (first
    | (go_at_call 9; (with_reducible refine (new_ar w).mono ?_); rintro e w1 ⟨rfl, h, hb⟩; have H1 := Lib.hid (And.intro h hb); clear h hb)
    | (go_at_call 14; (with_reducible refine (elem1 H1.out.1 H1.out.2.size).mono ?_); rintro e w2 ⟨rfl, h, hb⟩; have H2 := Lib.hid (And.intro h (H1.out.2.trans hb)); clear h hb)
    | (go_at_call 15; (with_reducible refine (app12 H2.out.1 H2.out.2.size).mono ?_); rintro e w3 ⟨rfl, h, hb⟩; have H3 := Lib.hid (And.intro h (H2.out.2.trans hb)); clear h hb)
    | (go_at_call 12; (with_reducible refine (words23 H3.out.1 H3.out.2.size).mono ?_); rintro e w4 ⟨rfl, h, hb⟩; have H4 := Lib.hid (And.intro h (H3.out.2.trans hb)); clear h hb)
    | (go_at_call 12; (with_reducible refine (words34 H4.out.1 H4.out.2.size).mono ?_); rintro e w5 ⟨rfl, h, hb⟩; have H5 := Lib.hid (And.intro h (H4.out.2.trans hb)); clear h hb)
    | (go_at_call 16; (with_reducible refine (tree_ar H5.out.1 good4 short4 S4t).mono ?_); rintro e w6 ⟨v, rfl, ht, hb⟩; obtain ⟨g, cap, av, kv, rfl, hc1, hc2, _, _, _, _, _, _, _, q5, _, hkk⟩ := ht.get (k := 0) rfl; obtain ⟨g2, cap2, av2, kv2, rfl, hc3, hc4, _, _, _, _, _, _, q4, _, _, _⟩ := hkk.get (k := 0) rfl; have H6 := Lib.hid (And.intro (H5.out.1.below hb) (H5.out.2.trans (hb.mono H5.out.2.size))); clear ht hkk hb; simp only [t4, List.length_cons, List.length_nil] at hc1 hc3 q5 ⊢)
    | (go_at_call 13; (with_reducible refine (len_ar (n := 3) H6.out.1 rfl).mono ?_); rintro e w7 ⟨rfl, rfl⟩))
  go_ret
  exact ⟨rfl, H6.out.2⟩
end Go.Proofs.Ytdeogkjihmaniaa
