/-
  rectolaw11.ArenaOwn returns true for every string.
  Written by an AI agent.
-/
import Derived.Test.YtdeogkjihmaniaaOpen
import Derived.Test.YtdeogkjihmaniaaInts
import Derived.Test.YtdeogkjihmaniaaRows
namespace Go.Proofs.Ytdeogkjihmaniaa
open Go.RowKit

abbrev x1 : List Atr := [(⟨#[120]⟩, ⟨#[49]⟩)]
def oNd : Nd := ⟨1, 0, ⟨#[112]⟩, x1, ⟨#[]⟩, -1⟩
def O1 : St := S0.add oNd
def O2 : St := ⟨[⟨1, 0, ⟨#[]⟩, [], ⟨#[]⟩, -1⟩, ⟨1, 0, ⟨#[112]⟩, x1, ⟨#[]⟩, 0⟩], [1]⟩
theorem goodO1 : Good O1 := good0.add oNd (by decide) rfl
theorem O12 : O1.app 0 1 = (0, O2) := by kernel_rfl
theorem goodO2 : Good O2 := by have := goodO1.app 0 1; rw [O12] at this; exact this
theorem shortO2 : Short O2 := by
  intro nd h
  simp only [O2, List.mem_cons, List.not_mem_nil, or_false] at h
  rcases h with rfl | rfl <;> exact Nat.zero_le _
def tO : List Tr := [⟨1, 0, ⟨#[112]⟩, x1, ⟨#[]⟩, []⟩]
theorem O2t : treeS O2 = tO := by kernel_rfl
theorem O2k : O2.kids 0 = [1] := by kernel_rfl

/-- The attributes handed in. -/
theorem attrs_at (w : World) (B : Nat) : AtrsAt (w.alloc (.cells #[.string ⟨#[120]⟩, .string ⟨#[49]⟩] 32)) B (.slice (some ⟨w.heap.size, 0, none⟩) 1 1) x1 :=
  AtrsAt.of_own (base := w.heap.size) (World.ownsRow_lit w #[.string ⟨#[120]⟩, .string ⟨#[49]⟩] 1 (Nat.le_refl _) (by unfold maxLen; omega) rfl) (by decide)

theorem app_put {w : World} {B a mm : Nat} {p id : Nat} {v : Value} {l : List It} {S : St} {ep : It} (h : ArenaAt w B a v l) (m : Mod l S) (g : Good S) (he : S.elem p = true) (hi : S.is id = true) (hfr : S.free id p = true) (hep : l[p]? = some ep) (hmm : ep.kids.length = mm) :
    Calls Try.prog 15 #[ptr a, i64 p, i64 id] w fun e w' => e = .returned (i64 0) ∧ ∃ v1 v3, ArenaAt w' B a v1 (putL l p mm id v3) ∧ Went B l w (putL l p mm id v3) w' := by
  obtain ⟨p', nd, hpp, hpl, _, _⟩ := St.elem_nat he
  obtain ⟨id', hii, hil⟩ := St.is_nat hi
  obtain rfl : p = p' := Int.ofNat.inj hpp
  obtain rfl : id = id' := Int.ofNat.inj hii
  have he' := (m.elem p).trans he
  have hi' := (m.is id).trans hi
  have hf := m.free p hil
  have hpg : PGood (parsI l) := by rw [m.ps]; exact g.pg
  have hlp : p < l.length := by rw [m.len]; exact hpl
  have hli : id < l.length := by rw [m.len]; exact hil
  rw [hfr] at hf
  obtain ⟨f1, f2, f3⟩ := St.free_parts g hil hpl hfr
  obtain ⟨ad, c, rfl, hlc, hc9, hrr⟩ := h.form
  obtain ⟨gg, rfl, hgB, hgs, hc⟩ := hrr (fun e => by rw [e] at hep; simp at hep)
  have c0 := h.blk.cell 0 (.slice (some ⟨gg, 0, none⟩) l.length c) rfl
  obtain ⟨_, _, _, _, _, _, _, d7⟩ := hc p ep hep
  obtain ⟨kad, kc, hkv⟩ := (h.its ep (List.mem_of_getElem? hep)).kform
  have hfew : mm < 1000000 := by
    rw [← hmm, m.kids p ep hep]
    have := g.kids_len p
    omega
  have H := Lib.hid (And.intro h (And.intro m (And.intro he' (And.intro hi' (And.intro hpg (And.intro hlp (And.intro hli hf)))))))
  have G := Lib.hid (And.intro g (And.intro hep (And.intro hmm (And.intro f1 hfew))))
  obtain ⟨n, hn⟩ : ∃ n, l.length = n := ⟨_, rfl⟩
  rw [hkv, hmm] at d7
  rw [hn] at c0 hlc hlp hli
  clear h m g he hi hpl hil hep he' hi' hf hpg hfr hpp hii hrr hc hkv hmm f1 f2 f3 hn
  go_enter Try.func15, Try.ntmps15
  go_wp2_with (first
    | (go_at_call 32; (with_reducible refine (element_any H.out.1 H.out.2.2.1).mono ?_); rintro e w1 ⟨rfl, rfl⟩)
    | (go_at_call 35; (with_reducible refine (is_any H.out.1 H.out.2.2.2.1).mono ?_); rintro e w1 ⟨rfl, rfl⟩)
    | (go_at_call 36; (with_reducible refine (free_any H.out.1 H.out.2.2.2.2.1 H.out.2.2.2.2.2.2.1 H.out.2.2.2.2.2.1 H.out.2.2.2.2.2.2.2).mono ?_); rintro e w1 ⟨rfl, rfl⟩)
    | (go_at_call 37; (with_reducible refine (put_any (at_ := mm) H.out.1 G.out.2.1 H.out.2.2.2.2.2.2.1 (by rw [G.out.2.2.1]; exact Nat.le_refl _) (by rw [G.out.2.2.1]; exact hfew)).mono ?_); rintro e w1 ⟨rfl, v1, v3, h1, hw1⟩; have HO := Lib.hid (And.intro h1 hw1); clear h1 hw1))
  go_ret
  exact ⟨rfl, v1, v3, HO.out.1, HO.out.2⟩

theorem ArenaAt.far32 {w : World} {B a ab i : Nat} {v u : Value} {l : List It} {cs : Array Value} (h : ArenaAt w B a v l) (hb : Blk w ab 32 cs) (hn : ∀ e ∈ l, e.av.ownBlock ≠ some ab) : ArenaAt (w.setCell ⟨ab, i, none⟩ u) B a v l := by
  refine ⟨h.blk.far (p := ⟨ab, i, none⟩) (h.blk.ne hb (by decide)) u, h.low, own_setCell h.row hb (by decide) i u, h.few, fun e he => ⟨(h.its e he).atrs.same (by simp) (fun g hg _ _ => Below.heap_setCell w ⟨ab, i, none⟩ u g (fun e2 => hn e he (by rw [hg]; exact congrArg some e2))), own_setCell (h.its e he).kids hb (by decide) i u, (h.its e he).few⟩, h.apart⟩

def itO1 (av : Value) : List It := [rootI, newI 1 0 ⟨#[112]⟩ x1 ⟨#[]⟩ av]
def itO2 (av v3 : Value) : List It := [{ rootI with kids := [1], kv := v3 }, { newI 1 0 ⟨#[112]⟩ x1 ⟨#[]⟩ av with par := 0 }]
theorem modO1 (av : Value) : Mod (itO1 av) O1 := mod0.add good0 (e := newI 1 0 ⟨#[112]⟩ x1 ⟨#[]⟩ av) rfl rfl
theorem putO (av v3 : Value) : putL (itO1 av) 0 0 1 v3 = itO2 av v3 := rfl
theorem O2k1 : ([] : List Int) = O2.kids 1 := by kernel_rfl
theorem modO2 (av v3 : Value) : Mod (itO2 av v3) O2 := ⟨rfl, fun k e hk => by
  match k, hk with
  | 0, hk => simp [itO2] at hk; subst hk; exact O2k.symm
  | 1, hk => simp [itO2] at hk; subst hk; exact O2k1
  | k + 2, hk => simp [itO2] at hk⟩

theorem own_elem {w : World} {B a ab : Nat} {v : Value} (h : ArenaAt w B a v [rootI]) (hB : B ≤ w.heap.size) (ha : AtrsAt w B (.slice (some ⟨ab, 0, none⟩) 1 1) x1) :
    Calls Try.prog 14 #[ptr a, .int .i64 0, .string ⟨#[112]⟩, .slice (some ⟨ab, 0, none⟩) 1 1] w fun e w' => e = .returned (.tuple #[.int .i64 1, .int .i64 0]) ∧ ∃ av v', ArenaAt w' B a v' (itO1 av) ∧ (∀ k, av.ownBlock = some k → w.heap.size ≤ k) ∧ Below B w w' ∧ Fr B AK w w' := by
  refine (elem_any (n := 1) (space := 0) (nm := ⟨#[112]⟩) h rfl (by decide) ha).mono ?_
  rintro e w' ⟨rfl, v', av, h1, h2, h3⟩
  exact ⟨rfl, av, v', h1, fun k hk => (own_kind h3 k hk).1, h2.below hB, h2.fr⟩

theorem own_app {w : World} {B a : Nat} {v av : Value} (h : ArenaAt w B a v (itO1 av)) (hB : B ≤ w.heap.size) :
    Calls Try.prog 15 #[ptr a, .int .i64 0, .int .i64 1] w fun e w' => e = .returned (.int .i64 0) ∧ ∃ v' v3, ArenaAt w' B a v' (itO2 av v3) ∧ Below B w w' ∧ Fr B AK w w' := by
  refine (app_put (p := 0) (id := 1) (mm := 0) h (modO1 av) goodO1 (by kernel_rfl) (by kernel_rfl) (by kernel_rfl) rfl rfl).mono ?_
  rintro e w' ⟨rfl, v', v3, h1, h2⟩
  exact ⟨rfl, v', v3, by rw [← putO]; exact h1, h2.below hB, h2.fr⟩

/-- Behind the store into what was handed in. -/
theorem own_stored {w : World} {B a ab : Nat} {v av v3 : Value} {cs : Array Value} (h : ArenaAt w B a v (itO2 av v3)) (hb : Blk w ab 32 cs) (hn : av.ownBlock ≠ some ab) (u : Value) : Ar (w.setCell ⟨ab, 1, none⟩ u) B a O2 := by
  refine ⟨v, _, h.far32 hb (fun e he => ?_), modO2 av v3⟩
  simp only [itO2, List.mem_cons, List.not_mem_nil, or_false] at he
  rcases he with rfl | rfl
  · simp [rootI, Value.ownBlock]
  · exact hn

theorem own_tree {w : World} {B a : Nat} (h : Ar w B a O2) : Calls Try.prog 16 #[ptr a] w fun e w' => ∃ g cap g3 c3, e = .returned (.slice (some ⟨g, 0, none⟩) 1 cap) ∧ w'.cell? ⟨g, 3, none⟩ = some (.slice (some ⟨g3, 0, none⟩) 1 c3) ∧ w'.cell? ⟨g3, 1, none⟩ = some (.string ⟨#[49]⟩) ∧ (∃ cs, Blk w' g3 32 cs) ∧ w.heap.size ≤ g3 ∧ 1 ≤ cap ∧ 1 ≤ c3 ∧ Below w.heap.size w w' := by
  refine (tree_ar h goodO2 shortO2 O2t).mono ?_
  rintro e w' ⟨v, rfl, ht, hb⟩
  obtain ⟨g, cap, av, kv, rfl, hc1, hc2, _, _, _, _, _, q3, _, _, hR, _⟩ := ht.get (k := 0) rfl
  rcases hR.1.2 with ⟨_, h0⟩ | ⟨g3, c3, cur, rfl, hg3, hgg, hnc, _, _, _⟩
  · exact absurd h0 (by decide)
  · exact ⟨g, cap, g3, c3, rfl, q3, hR.1.cellAt 1 (by decide), ⟨cur, hgg⟩, hg3, hc1, hnc, hb⟩

theorem own_kids {w : World} {B a : Nat} (h : Ar w B a O2) : Calls Try.prog 17 #[ptr a, .int .i64 0] w fun e w' => ∃ g cap, e = .returned (.slice (some ⟨g, 0, none⟩) 1 cap) ∧ IntsAt w' (.slice (some ⟨g, 0, none⟩) 1 cap) [1] ∧ w'.cell? ⟨g, 0, none⟩ = some (.int .i64 1) ∧ w'.frozen? ⟨g, 0, none⟩ = false ∧ w.heap.size ≤ g ∧ g < w'.heap.size ∧ Below w.heap.size w w' := by
  obtain ⟨v, l, h, m⟩ := h
  have hk : kidsI l 0 = [1] := by
    obtain ⟨e, he⟩ := m.ex (k := 0) (by decide)
    have : getI l 0 = some e := (getI_nat l 0).trans he
    unfold kidsI
    rw [this]
    exact (m.kids 0 e he).trans O2k
  refine (kids_any (id := 0) h).mono ?_
  rintro e w' ⟨v', rfl, hown, hb⟩
  rw [hk] at hown
  have hi := IntsAt.of_own (xs := [1]) hown (by decide)
  rcases hown.2 with ⟨_, h0⟩ | ⟨g, cap, cur, rfl, hg3, hgg, hnc, _, _, _⟩
  · exact absurd h0 (by decide)
  · exact ⟨g, cap, rfl, hi, hown.cellAt 0 (by decide), hown.frozenAt 0, hg3, (Array.getElem?_eq_some_iff.1 hgg).1, hb⟩

theorem ints_one_at (w : World) : IntsAt (w.alloc (.cells #[.int .i64 1] 3)) (.slice (some ⟨w.heap.size, 0, none⟩) 1 1) [1] :=
  IntsAt.of_own (base := w.heap.size) (e := 3) (xs := [1]) (World.ownsRow_lit w #[.int .i64 1] 1 (Nat.le_refl _) (by unfold maxLen; omega) rfl) (by decide)
theorem ints_eq1 {w : World} {va vb : Value} (ha : IntsAt w va [1]) (hb : IntsAt w vb [1]) : Calls Try.prog 18 #[va, vb] w fun e w' => e = .returned (.bool true) ∧ ∃ n, w.drewN n = w' := by
  have := ints_any ha hb
  rw [decide_eq_true rfl] at this
  exact this

theorem arenaOwn_out {w : World} {s : ByteArray} (hs : 1000 < s.size) : Calls Try.prog 4 #[.string s] w fun e w' => e = .returned (.bool true) ∧ Below w.heap.size w w' := by
  have z1 : decide ((1000 : Int) < (s.size : Int)) = true := decide_eq_true (by omega)
  clear hs
  go_enter Try.func4, Try.ntmps4
  go_wp2_with (first
    | (go_at_call 9; (with_reducible refine (new_ar w).mono ?_); rintro e w1 ⟨rfl, h, hb⟩; have H1 := Lib.hid hb; clear h hb)
    | (go_at_call 10; (with_reducible refine (three_any _).mono ?_); rintro e w2 ⟨rfl, hb⟩; have H2 := Lib.hid hb; clear hb))
  go_ret
  exact ⟨rfl, H1.out.trans (H2.out.mono H1.out.size)⟩

set_option maxHeartbeats 8000000 in
set_option maxRecDepth 100000 in
theorem arenaOwn_main {w : World} {s : ByteArray} (hs : s.size ≤ 1000) : Calls Try.prog 4 #[.string s] w fun e w' => e = .returned (.bool true) ∧ Below w.heap.size w w' := by
  have z1 : decide ((1000 : Int) < (s.size : Int)) = false := decide_eq_false (by omega)
  clear hs
  go_enter Try.func4, Try.ntmps4
  go_wp2_with (first
    | (go_at_call 9; (with_reducible refine (new_any w).mono ?_); rintro e w1 ⟨rfl, ⟨v1, h1⟩, hb⟩; have HA := Lib.hid (Blk.new w1 32 #[.string ⟨#[120]⟩, .string ⟨#[49]⟩]); have H1 := Lib.hid (And.intro (h1.below ((Below.refl _ w1).alloc (Nat.le_refl _) (.cells #[.string ⟨#[120]⟩, .string ⟨#[49]⟩] 32))) (hb.alloc hb.size (.cells #[.string ⟨#[120]⟩, .string ⟨#[49]⟩] 32))); have hlo := hb.size; clear h1 hb)
    | (go_at_call 14; (with_reducible refine (own_elem H1.out.1 H1.out.2.size (attrs_at w1 _)).mono ?_); rintro e w2 ⟨rfl, av, v2, h2, hav, hb2, hf2⟩; have HB := Lib.hid (hf2.blk HA.out (.inr rfl)); have H2 := Lib.hid (And.intro h2 (And.intro (show av.ownBlock ≠ some w1.heap.size from fun e => by have := hav _ e; simp at this; omega) (H1.out.2.trans hb2))); clear h2 hav hb2 hf2)
    | (go_at_call 15; (with_reducible refine (own_app H2.out.1 H2.out.2.2.size).mono ?_); rintro e w3 ⟨rfl, v3, u3, h3, hb3, hf3⟩; have hg := hf3.blk HB.out (.inr rfl); have c01 := hg.cell 1 (.string ⟨#[49]⟩) rfl; have f01 := hg.fro 1; have H3 := Lib.hid (And.intro (own_stored h3 hg H2.out.2.1 (.string s)) ((H2.out.2.2.trans hb3).setCell (p := ⟨w1.heap.size, 1, none⟩) hlo (.string s))); clear hg h3 hb3 hf3)
    | (go_at_call 16; (with_reducible refine (own_tree H3.out.1).mono ?_); rintro e w4 ⟨g, cap, g3, c3, rfl, x3, x1, ⟨cs3, hg3⟩, hl3, hc, hc3, hb4⟩; have xf := hg3.fro 1; have b5 := hb4.setCell (p := ⟨g3, 1, none⟩) hl3 (.string s); have H4 := Lib.hid (And.intro (H3.out.1.below b5) (H3.out.2.trans (b5.mono H3.out.2.size))); clear hg3 hl3 hb4 b5)
    | (go_at_call 17; (with_reducible refine (own_kids H4.out.1).mono ?_); rintro e w5 ⟨g5, c5, rfl, _, y0, yf, hl5, _, hb5⟩; have b6 := hb5.setCell (p := ⟨g5, 0, none⟩) hl5 (.int .i64 7); have H5 := Lib.hid (And.intro (H4.out.1.below b6) (H4.out.2.trans (b6.mono H4.out.2.size))); clear hl5 hb5 b6)
    | (go_at_call 16; (with_reducible refine (own_tree H5.out.1).mono ?_); rintro e w6 ⟨gq, capq, gq3, cq3, rfl, xq3, xq1, _, _, hcq, hcq3, hb6⟩; have H6 := Lib.hid (And.intro (H5.out.1.below hb6) (H5.out.2.trans (hb6.mono H5.out.2.size))); clear hb6)
    | (go_at_call 17; (with_reducible refine (own_kids H6.out.1).mono ?_); rintro e w7 ⟨g7, c7, rfl, hi7, _, _, _, _, hb7⟩; have HI7 := Lib.hid (And.intro (hi7.below ((Below.refl _ w7).alloc (Nat.le_refl _) (.cells #[.int .i64 1] 3))) (H6.out.2.trans (hb7.mono H6.out.2.size))); clear hi7 hb7)
    | (go_at_call 18; (with_reducible refine (ints_eq1 HI7.out.1 (ints_one_at w7)).mono ?_); rintro e w8 ⟨rfl, n8, rfl⟩)
    | (go_at_call 10; (with_reducible refine (three_any _).mono ?_); rintro e w9 ⟨rfl, hb⟩; have H9 := Lib.hid hb; clear hb))
  go_ret
  have b8 := below_drewN (HI7.out.2.alloc HI7.out.2.size (.cells #[.int .i64 1] 3)) n8
  exact ⟨rfl, b8.trans (H9.out.mono b8.size)⟩

theorem arenaOwn_walk {w : World} {s : ByteArray} : Calls Try.prog 4 #[.string s] w fun e w' => e = .returned (.bool true) ∧ Below w.heap.size w w' := by
  by_cases h : 1000 < s.size
  · exact arenaOwn_out h
  · exact arenaOwn_main (by omega)

namespace arenaOwn
open Go.ChangeShapes Go.WideShapes Go.ChangeAt Go.RowKit Go.Joins Go.Deep
open Go.ChangeMaps (open_string shut_string)
set_option linter.unusedVariables false
set_option maxRecDepth 100000 in
theorem lifted (os : Os) (started : os.Started) (H : Type) (enc : TypeId × Value → H) :
    ReturnsInHanded {} Try.checked os 4 .any (Rows.arenaOwnSpec.pre6 enc Try.prog Try.f4 Rows.arenaOwnRow.domain false) (Rows.arenaOwnSpec.post enc Try.prog Try.f4 false true false false) := by
  refine returnsInHanded_of_change_sized (C := Try.checked) own started (by kernel_rfl) Try.func4
    (ChangeSpec.witness6 (enc := enc) (C := Try.checked) false ⟨#[], #[.string ByteArray.empty], []⟩ 8 (by kernel_rfl) (by kernel_rfl) (by kernel_rfl) (by kernel_rfl)) ?_
  intro W base args ds gs before hval0 hW hcnd hsz0 _
  have hval : ∀ (j : Nat) t v, Try.f4.params[j]? = some t → args[j]? = some v → Value.okWide Try.prog W .any base t v := hval0
  have hW' := hW
  obtain ⟨p, q, hA0, hV, rfl, hfz, hnd⟩ := hW
  have hA : DataW.TrodAll enc Try.prog W 0 (fun _ => true) true Try.f4.params.toList args.toList ds p := hA0
  rw [Try.params4] at hA hval
  obtain ⟨v0, vs0, d0, ds0, p0, q0, hargs, rfl, rfl, h0, r0⟩ := trodAll_cons hA
  obtain ⟨rfl, rfl, rfl⟩ := trodAll_nil r0
  obtain rfl : args = #[v0] := by cases args; simp_all
  obtain ⟨rfl, rfl⟩ := trodVars_none hV
  obtain ⟨a0, rfl, rfl, rfl, w0⟩ := open_string Try.underlying9 (hval 0 9 v0 rfl rfl) h0
  clear hA0 hval0 hsz0
  refine (arenaOwn_walk).mono fun e W' ⟨he, bel⟩ => ?_
  subst he
  exact ⟨_, rfl, _, _, _, [], _, [], hW', trodAll_mk1 (shut_bool Try.underlying4 _), (trodAll_cons_mk (shut_string Try.underlying9 w0) trodAll_mk0), rfl, bel.frame _, fun h => by cases h⟩
theorem over : Rows.arenaOwnRow.holds Try.pinned (OpenSpec.ofChange Rows.arenaOwnSpec) :=
  OpenClaim.holds_of_wide 4 Try.f4 rfl rfl rfl rfl rfl rfl rfl ⟨rfl, rfl, rfl, rfl, rfl⟩ rfl rfl rfl rfl rfl (by kernel_rfl) Try.func4 (by kernel_rfl)
    (of_decide_eq_true (by kernel_rfl)) (by unfold Func.isWrapper; first | (rw [if_pos (by decide +kernel)]; kernel_rfl) | (rw [if_neg (by decide +kernel)]; exact ⟨rfl, rfl⟩))
    (fun os started H enc _ => lifted os started H enc)
end arenaOwn
/-- The row: whatever the input, true. -/
theorem arenaOwn_holds : Rows.ArenaOwnSaid := arenaOwn.over


end Go.Proofs.Ytdeogkjihmaniaa
