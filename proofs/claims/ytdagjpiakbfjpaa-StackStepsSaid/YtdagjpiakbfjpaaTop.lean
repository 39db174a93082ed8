/-
  ends, (*Stack).All, Top, Pop, Find, walked.
  Written by an AI agent.
-/
import Derived.Test.YtdagjpiakbfjpaaTags
namespace Go.Proofs.Ytdagjpiakbfjpaa
open Go.RowKit

def tblN : List ByteArray := [⟨#[104, 116, 109, 108]⟩, ⟨#[116, 97, 98, 108, 101]⟩]
def lstN : List ByteArray := [⟨#[111, 108]⟩, ⟨#[117, 108]⟩]
def endB (scope : Int) (e : Ent) : Bool := if scope = 2 then isB tblN e else if scope = 1 ∧ isB lstN e = true then true else tagB e.space e.name

set_option maxHeartbeats 4000000 in
theorem ends_any {w : World} {scope id sp : Int} {nm : ByteArray} : Calls Try.prog 28 #[i64 scope, .agg #[i64 id, i64 sp, .string nm]] w fun e w' => e = .returned (.bool (endB scope ⟨id, sp, nm⟩)) ∧ Below w.heap.size w w' := by
  have hb := Blk.new w 27 #[i64 id, i64 sp, .string nm]
  have x0 := hb.cell 0 (i64 id) rfl
  have x1 := hb.cell 1 (i64 sp) rfl
  have x2 := hb.cell 2 (.string nm) rfl
  have b0 := Lib.hid ((Below.refl _ w).alloc (Nat.le_refl w.heap.size) (.cells #[i64 id, i64 sp, .string nm] 27))
  obtain ⟨w0, hw0⟩ : ∃ w0, w.alloc (.cells #[i64 id, i64 sp, .string nm] 27) = w0 := ⟨_, rfl⟩
  rw [hw0] at hb x0 x1 x2 b0
  have HBX := Lib.hid hb
  obtain ⟨rl, hrl⟩ : ∃ r, isB lstN ⟨id, sp, nm⟩ = r := ⟨_, rfl⟩
  have HRL := Lib.hid hrl
  clear hb hrl
  unfold endB
  by_cases h2 : scope = 2
  · have e1 : (scope == 2) = true := by simpa using h2
    rw [if_pos h2]
    clear h2
    go_enter Try.func28, Try.ntmps28
    go_wp2_with (first | (go_at_call 27; (with_reducible refine (is_any (NamesAt.two w0 ⟨#[104, 116, 109, 108]⟩ ⟨#[116, 97, 98, 108, 101]⟩ 9)).mono ?_); rintro e w1 ⟨rfl, hb1⟩; have H1 := Lib.hid hb1; clear hb1))
    go_ret
    exact ⟨rfl, (b0.out.alloc b0.out.size _).trans (H1.out.mono (b0.out.alloc b0.out.size _).size)⟩
  · have e1 : (scope == 2) = false := by simpa using h2
    rw [if_neg h2]
    clear h2
    by_cases h1 : scope = 1
    · have e2 : (scope == 1) = true := by simpa using h1
      cases rl
      · rw [if_neg (fun h => by rw [HRL.out] at h; cases h.2)]
        clear h1
        go_enter Try.func28, Try.ntmps28
        go_wp2_with (first
          | (go_at_call 27; (with_reducible refine (is_any (NamesAt.two w0 ⟨#[111, 108]⟩ ⟨#[117, 108]⟩ 9)).mono ?_); rintro e w1 ⟨rfl, hb1⟩; have hir : isB [⟨#[111, 108]⟩, ⟨#[117, 108]⟩] ⟨id, sp, nm⟩ = false := HRL.out; have y1 := (blk_kept (HBX.out.alloc _) hb1).cell 1 (i64 sp) rfl; have y2 := (blk_kept (HBX.out.alloc _) hb1).cell 2 (.string nm) rfl; have H1 := Lib.hid hb1; clear hb1)
          | (go_at_call 42; (with_reducible refine tag_any.mono ?_); rintro e w2 ⟨rfl, rfl⟩))
        go_ret
        exact ⟨rfl, (b0.out.alloc b0.out.size _).trans (H1.out.mono (b0.out.alloc b0.out.size _).size)⟩
      · rw [if_pos ⟨h1, HRL.out⟩]
        clear h1
        go_enter Try.func28, Try.ntmps28
        go_wp2_with (first
          | (go_at_call 27; (with_reducible refine (is_any (NamesAt.two w0 ⟨#[111, 108]⟩ ⟨#[117, 108]⟩ 9)).mono ?_); rintro e w1 ⟨rfl, hb1⟩; have hir : isB [⟨#[111, 108]⟩, ⟨#[117, 108]⟩] ⟨id, sp, nm⟩ = true := HRL.out; have H1 := Lib.hid hb1; clear hb1))
        go_ret
        exact ⟨rfl, (b0.out.alloc b0.out.size _).trans (H1.out.mono (b0.out.alloc b0.out.size _).size)⟩
    · have e2 : (scope == 1) = false := by simpa using h1
      rw [if_neg (fun h => h1 h.1)]
      clear h1
      go_enter Try.func28, Try.ntmps28
      go_wp2_with (first
        | (go_at_call 42; (with_reducible refine tag_any.mono ?_); rintro e w2 ⟨rfl, rfl⟩))
      go_ret
      exact ⟨rfl, b0.out⟩

theorem eqlS (w : World) (a : Addr) (n c : Nat) : (binOp .eql 22 (.slice (some a) n c) (.slice none 0 0)).run Try.prog w = .ok (.bool false) w := by
  kernel_rfl
theorem eqlN (w : World) (n c : Nat) : (binOp .eql 22 (.slice none n c) (.slice none 0 0)).run Try.prog w = .ok (.bool true) w := by
  kernel_rfl

/-- A copy in a row of the call's own. -/
def AllIt (es : List Ent) (n : Nat) (w : World) (e : Ending) (w' : World) : Prop :=
  ∃ ad c, e = .returned (.slice ad n c) ∧ w'.ownsRow w.heap.size 27 3 (.slice ad n c) n (flatE es) ∧ Below w.heap.size w w'

set_option maxHeartbeats 2000000 in
theorem clone_any {w : World} {B n : Nat} {v : Value} {es : List Ent} (h : w.ownsRow B 27 3 v n (flatE es)) (hn : es.length = n) (hl : n ≤ 1000000) : Calls Try.prog 30 #[v] w (AllIt es n w) := by
  obtain ⟨i0, hi, hz0, hz1, hz2⟩ := info_parts info27
  rcases h.2 with ⟨rfl, h0⟩ | ⟨g, cap, cur, rfl, hb, hg, hnc, hm, _, _⟩
  · have e1 := eqlN w 0 0
    have hes : es = [] := List.length_eq_zero_iff.1 (by omega)
    subst hes
    subst h0
    clear h
    go_enter Try.func30, Try.ntmps30
    go_wp2
    go_ret
    exact ⟨none, 0, rfl, World.ownsRow_nil _ _ _ _, Below.refl _ _⟩
  · have hnews : ∀ (j : Nat) (u : Value), (flatE es)[j]? = some u → (w.alloc (.cells #[] 27)).cell? ((⟨g, 0, none⟩ : Addr).add j) = some u := by
      intro j u hu
      exact (own_below h ((Below.refl w.heap.size w).alloc (Nat.le_refl _) (.cells #[] 27))).cells (g := g) rfl j u hu
    have e1 := eqlS w ⟨g, 0, none⟩ n cap
    have hmade : (w.alloc (.cells #[] 27)).ownsRow w.heap.size 27 3 (.slice (some ⟨w.heap.size, 0, none⟩) 0 0) 0 [] := World.ownsRow_made w #[] 0 (Nat.le_refl _) (by unfold maxLen; omega) (by simp)
    have HM := Lib.hid (And.intro hmade (And.intro hnews hn))
    clear h hg hmade hnews
    go_enter Try.func30, Try.ntmps30
    go_wp2_with (first
      | (at_builtin; refine wpList_append_own _ rfl (.tmp 5) (.tmp 6) 22 rfl w.heap.size 27 i0 _ 3 32 Try.underlying22 hi hz0 hz1 hz2 rfl (by decide) _ _ _ rfl HM.out.1 ⟨g, 0, none⟩ n cap (flatE es) rfl (by rw [flatE_length, HM.out.2.2]) HM.out.2.1 (flatE_one es) (by unfold maxLen; omega) (by omega) (by simp) ?_; intro v' w' hown' hgrow _; obtain ⟨na, nc, rfl⟩ := own_slice hown'; have HF := Lib.hid (And.intro hown' hgrow); clear hown' hgrow))
    go_ret
    have ho := HF.out.1
    simp only [Nat.zero_add, List.nil_append] at ho
    have hb1 : Below w.heap.size w w' := ((Below.refl w.heap.size w).alloc (Nat.le_refl _) (.cells #[] 27)).grown HF.out.2 (by simp) (fun k e => by cases e; exact Nat.le_refl _)
    refine ⟨na, nc, ?_, ho, hb1⟩
    simp

theorem all_stk {w : World} {B lb n : Nat} {es : List Ent} (h : Stk w B lb es) (hn : es.length = n) : Calls Try.prog 13 #[ptr lb] w (AllIt es n w) := by
  obtain ⟨v, hst⟩ := h
  obtain ⟨rd, rc, hv⟩ := own_slice hst.2.2.1
  subst hv
  have ho := hst.2.2.1
  have hl := hst.2.2.2
  have c0 := hst.1.cell 0 (.slice rd es.length rc) rfl
  rw [hn] at c0 ho hl
  have HO := Lib.hid (And.intro ho (And.intro hn hl))
  clear hst hn ho hl
  go_enter Try.func13, Try.ntmps13
  go_wp2_with (first
    | (go_at_call 30; (with_reducible refine (clone_any HO.out.1 HO.out.2.1 HO.out.2.2).mono ?_); rintro e w1 ⟨ad, c, rfl, hown, hb⟩; have H1 := Lib.hid (And.intro hown hb); clear hown hb))
  go_ret
  exact ⟨_, _, rfl, H1.out.1, H1.out.2⟩

/-- The last one. -/
def zeroEnt : Ent := ⟨0, 0, ⟨#[]⟩⟩
def topE (es : List Ent) : Ent := es.getLast?.getD zeroEnt
def topB (es : List Ent) : Bool := !es.isEmpty
def TopIt (es : List Ent) (w : World) (e : Ending) (w' : World) : Prop :=
  e = .returned (.tuple #[aggE (topE es), .bool (topB es)]) ∧ Below w.heap.size w w'

theorem results_cell_tmp {fn : Func} {p u : Tmp} {ty : TypeId} (h : fn.results = #[.cell p ty, .tmp u]) (tmps : Array Value) (P : Program) (w : World) :
    (results fn tmps).run P w = ((asAddr (tmps.getD p undef)).run P w).andThen fun a w₁ => ((loadVar ty a).run P w₁).andThen fun v w₂ => .ok (.tuple #[v, tmps.getD u undef]) w₂ := by
  simp only [results, h]
  simp [Sem.run_bind, Result.andThen]
theorem results_top {w : World} {tmps : Array Value} {g1 : Nat} {cs : Array Value} {b : Value} (hp : tmps.getD 2 undef = ptr g1) (hq : tmps.getD 3 undef = b) (h1 : Blk w g1 27 cs) (hs : cs.size = 3) :
    (results Try.f16 tmps).run Try.prog w = .ok (.tuple #[.agg cs, b]) w := by
  have hi : (Try.prog.info? 27).map (·.size) = some cs.size := by rw [hs]; exact size27
  have hl1 := run_loadVar_row (P := Try.prog) w g1 27 27 cs (0, 0) _ h1 Try.underlying27 rfl hi
  rw [results_cell_tmp (p := 2) (u := 3) (ty := 27) rfl, hp, hq]
  simp [asAddr, Result.andThen, hl1]

set_option maxHeartbeats 2000000 in
theorem top_stk {w : World} {B lb : Nat} {es : List Ent} (h : Stk w B lb es) : Calls Try.prog 16 #[ptr lb] w (TopIt es w) := by
  obtain ⟨v, hst⟩ := h
  obtain ⟨rd, rc, hve, hnc, hcm, hr⟩ := hst.form
  subst hve
  obtain ⟨n, hn⟩ : ∃ n, es.length = n := ⟨_, rfl⟩
  have b0 := Lib.hid ((Below.refl _ w).alloc (Nat.le_refl w.heap.size) (.cells #[i64 0, i64 0, .string ⟨#[]⟩] 27))
  have hlist := hst.1.alloc (.cells #[i64 0, i64 0, .string ⟨#[]⟩] 27)
  have hres := Blk.new w 27 #[i64 0, i64 0, .string ⟨#[]⟩]
  have c0 := hlist.cell 0 (.slice rd es.length rc) rfl
  have hl := hst.2.2.2
  rw [hn] at c0 hnc hl
  have x0 := hres.cell 0 (i64 0) rfl
  have x1 := hres.cell 1 (i64 0) rfl
  have x2 := hres.cell 2 (.string ⟨#[]⟩) rfl
  have f0 := hres.fro 0
  have f1 := hres.fro 1
  have f2 := hres.fro 2
  by_cases h0 : n = 0
  · subst h0
    have he : es = [] := List.length_eq_zero_iff.1 hn
    subst he
    have HR := Lib.hid hres
    clear hr hst hlist hres hn
    go_enter Try.func16, Try.ntmps16
    go_wp2
    exact bodyPost_ret (results_top rfl rfl HR.out rfl) rfl ⟨rfl, b0.out⟩
  · obtain ⟨k, hkn⟩ : ∃ k, n = k + 1 := ⟨n - 1, by omega⟩
    obtain ⟨e, he⟩ : ∃ e, es[k]? = some e := ⟨_, List.getElem?_eq_getElem (by omega)⟩
    obtain ⟨g, rfl, _, hg, hc⟩ := hr (fun e0 => by rw [e0] at hn; simp at hn; omega)
    obtain ⟨d0, d1, d2⟩ := hc k e he
    have e0 := (b0.out.cell (p := ⟨g, _, none⟩) hg).trans d0
    have e1 := (b0.out.cell (p := ⟨g, _, none⟩) hg).trans d1
    have e2 := (b0.out.cell (p := ⟨g, _, none⟩) hg).trans d2
    have hk1 : IntKind.i64.wrap ((n : Int) - 1) = (k : Int) := by rw [IntWalk.i64_in _ (by omega)]; omega
    have n0 : ((n : Int) == 0) = false := by simp; omega
    have hkl : k < n := by omega
    have htop : topE es = e ∧ topB es = true := by
      refine ⟨?_, ?_⟩
      · unfold topE
        rw [List.getLast?_eq_getElem?, hn, hkn, Nat.add_sub_cancel, he]
        rfl
      · unfold topB
        cases es with
        | nil => simp at hn; omega
        | cons a r => rfl
    have HT := Lib.hid htop
    have HR := Lib.hid hres
    clear hr hst hlist hres hn hc d0 d1 d2 he htop hkn
    go_enter Try.func16, Try.ntmps16
    go_wp2
    go_region
    go_wp2
    have k1 := (Blk.new w 27 #[i64 e.id, i64 e.space, .string e.name]).drew
    refine bodyPost_ret (results_top rfl rfl k1 rfl) rfl ⟨?_, ((Below.refl _ w).alloc (Nat.le_refl w.heap.size) _).drew⟩
    rw [HT.out.1, HT.out.2]
    rfl

theorem top_n {w : World} {B lb : Nat} {v : Value} {es : List Ent} {te : Ent} {tb : Bool} {w0 : World} (h : StkAt w0 B lb v es) (hb : Below w0.heap.size w0 w) (h1 : topE es = te) (h2 : topB es = tb) :
    Calls Try.prog 16 #[ptr lb] w fun e w' => e = .returned (.tuple #[.agg #[i64 te.id, i64 te.space, .string te.name], .bool tb]) ∧ Below w.heap.size w w' := by
  subst h1 h2
  exact top_stk ⟨v, h.below hb⟩
theorem topE_dropLast {es : List Ent} (h : es ≠ []) : es = es.dropLast ++ [topE es] := by
  unfold topE
  rw [List.getLast?_eq_some_getLast h]
  exact (List.dropLast_concat_getLast h).symm
theorem topB_false {es : List Ent} (h : topB es = false) : es = [] := by
  unfold topB at h
  cases es with
  | nil => rfl
  | cons a r => simp at h
theorem topB_true {es : List Ent} (h : topB es = true) : es ≠ [] := by
  intro e; subst e; simp [topB] at h

theorem results_pop {w : World} {tmps : Array Value} {g1 : Nat} {cs : Array Value} {b : Value} (hp : tmps.getD 2 undef = ptr g1) (hq : tmps.getD 3 undef = b) (h1 : Blk w g1 27 cs) (hs : cs.size = 3) :
    (results Try.f23 tmps).run Try.prog w = .ok (.tuple #[.agg cs, b]) w := by
  have hi : (Try.prog.info? 27).map (·.size) = some cs.size := by rw [hs]; exact size27
  have hl1 := run_loadVar_row (P := Try.prog) w g1 27 27 cs (0, 0) _ h1 Try.underlying27 rfl hi
  rw [results_cell_tmp (p := 2) (u := 3) (ty := 27) rfl, hp, hq]
  simp [asAddr, Result.andThen, hl1]

def PopIt (B lb : Nat) (es : List Ent) (w : World) (e : Ending) (w' : World) : Prop :=
  e = .returned (.tuple #[aggE (topE es), .bool (topB es)]) ∧ Stk w' B lb es.dropLast ∧ Fr B LK w w' ∧ w.grownBy w' (some lb)

theorem grown_below {w w' : World} {row : Option Nat} (h : Below w.heap.size w w') : w.grownBy w' row := ⟨h.os, h.tape, h.output, h.size, fun k hk _ => h.block k hk⟩
theorem grown_new {w w' : World} {row : Option Nat} {g : Nat} (h : w.grownBy w' row) (hg : w.heap.size ≤ g) (i : Nat) (u : Value) : w.grownBy (w'.setCell ⟨g, i, none⟩ u) row :=
  ⟨h.os, h.tape, h.output, by have := h.size; simpa using this, fun k hk hne => (Below.heap_setCell w' ⟨g, i, none⟩ u k (by simp only; omega)).trans (h.block k hk hne)⟩
theorem grown_at (w : World) (g i : Nat) (u : Value) : w.grownBy (w.setCell ⟨g, i, none⟩ u) (some g) :=
  ⟨rfl, rfl, rfl, by simp, fun k _ hk => Below.heap_setCell w ⟨g, i, none⟩ u k (fun e => hk (by rw [e]))⟩

theorem Stk.cut {w : World} {B lb : Nat} {rd : Option Addr} {rc k : Nat} {es : List Ent} (h : StkAt w B lb (.slice rd (k + 1) rc) es) (hn : es.length = k + 1) : StkAt (w.setCell ⟨lb, 0, none⟩ (.slice rd k rc)) B lb (.slice rd k rc) es.dropLast ∧ Fr B LK w (w.setCell ⟨lb, 0, none⟩ (.slice rd k rc)) := by
  have ho := h.2.2.1
  rw [hn] at ho
  have hcut : w.ownsRow B 27 3 (.slice rd k rc) k (flatE es.dropLast) := by
    rcases ho.2 with ⟨he, h0⟩ | ⟨g, cap, cur, he, _⟩
    · omega
    · simp only [Value.slice.injEq] at he
      obtain ⟨rfl, _, rfl⟩ := he
      have := own_short ho (k := k) (by omega)
      rw [flatE_take] at this
      rw [List.dropLast_eq_take, hn, Nat.add_sub_cancel]
      exact this
  have hlen : es.dropLast.length = k := by rw [List.length_dropLast, hn, Nat.add_sub_cancel]
  refine ⟨⟨h.1.put 0 _, h.2.1, ?_, by have := h.2.2.2; omega⟩, (Fr.refl B LK w).setCell h.1 rfl h.2.1 0 _⟩
  rw [hlen]
  exact own_setCell hcut h.1 (by decide) 0 _

theorem StkAt.far {w : World} {B lb g : Nat} {v : Value} {es : List Ent} (h : StkAt w B lb v es) (h1 : lb ≠ g) (h2 : v.ownBlock ≠ some g) (i : Nat) (u : Value) : StkAt (w.setCell ⟨g, i, none⟩ u) B lb v es :=
  ⟨h.1.far (p := ⟨g, i, none⟩) h1 u, h.2.1, h.2.2.1.kept (row := some g) ⟨rfl, rfl, rfl, by simp, fun k _ hk => Below.heap_setCell w ⟨g, i, none⟩ u k (fun e => hk (by rw [e]))⟩ (.inr h2), h.2.2.2⟩
theorem Fr.new {B : Nat} {T : Obj → Bool} {a w : World} {g : Nat} (h : Fr B T a w) (hg : a.heap.size ≤ g) (i : Nat) (u : Value) : Fr B T a (w.setCell ⟨g, i, none⟩ u) :=
  ⟨h.os, h.output, h.tape, by have := h.size; simpa using this, fun k hk hT => (Below.heap_setCell w ⟨g, i, none⟩ u k (by simp only; omega)).trans (h.block k hk hT)⟩
theorem ownBlock_slice (rd : Option Addr) (n k c d : Nat) : (Value.slice rd n c).ownBlock = (Value.slice rd k d).ownBlock := by
  cases rd <;> rfl

set_option maxHeartbeats 4000000 in
theorem pop_stk {w : World} {B lb : Nat} {es : List Ent} (h : Stk w B lb es) : Calls Try.prog 23 #[ptr lb] w (PopIt B lb es w) := by
  obtain ⟨v, hst⟩ := h
  obtain ⟨rd, rc, hve, hnc, hcm, _⟩ := hst.form
  subst hve
  obtain ⟨n, hn⟩ : ∃ n, es.length = n := ⟨_, rfl⟩
  obtain ⟨te, hte⟩ : ∃ te, topE es = te := ⟨_, rfl⟩
  obtain ⟨tb, htb⟩ : ∃ tb, topB es = tb := ⟨_, rfl⟩
  have hl := hst.2.2.2
  have b0 := Lib.hid ((Below.refl _ w).alloc (Nat.le_refl w.heap.size) (.cells #[i64 0, i64 0, .string ⟨#[]⟩] 27))
  have hres := Lib.hid (Blk.new w 27 #[i64 0, i64 0, .string ⟨#[]⟩])
  rw [hn] at hst hnc hl
  have HS := Lib.hid (And.intro hst (And.intro hn (And.intro hte htb)))
  clear hst hn hte htb
  cases tb
  · have he := topB_false HS.out.2.2.2
    have hE := Lib.hid he
    clear he
    go_enter Try.func23, Try.ntmps23
    go_wp2_with (first
      | (go_at_call 16; (with_reducible refine (top_n HS.out.1 b0.out HS.out.2.2.1 HS.out.2.2.2).mono ?_); rintro e w1 ⟨rfl, hb1⟩; have g0 := (blk_kept hres.out hb1).alloc (.cells #[i64 te.id, i64 te.space, .string te.name] 27); have r0 := g0.cell 0 (i64 0) rfl; have r1 := g0.cell 1 (i64 0) rfl; have r2 := g0.cell 2 (.string ⟨#[]⟩) rfl; have f0 := g0.fro 0; have f1 := g0.fro 1; have f2 := g0.fro 2; have hx := Blk.new w1 27 #[i64 te.id, i64 te.space, .string te.name]; have x0 := hx.cell 0 (i64 te.id) rfl; have x1 := hx.cell 1 (i64 te.space) rfl; have x2 := hx.cell 2 (.string te.name) rfl; have H1 := Lib.hid (And.intro hb1 g0); clear hb1 g0 hx))
    have k1 := ((H1.out.2.put 0 (i64 te.id)).put 1 (i64 te.space)).put 2 (.string te.name)
    have bw := (b0.out.trans (H1.out.1.mono b0.out.size)).alloc (b0.out.trans (H1.out.1.mono b0.out.size)).size (.cells #[i64 te.id, i64 te.space, .string te.name] 27)
    have bw3 := ((bw.setCell (p := ⟨w.heap.size, 0, none⟩) (Nat.le_refl _) (i64 te.id)).setCell (p := ⟨w.heap.size, 1, none⟩) (Nat.le_refl _) (i64 te.space)).setCell (p := ⟨w.heap.size, 2, none⟩) (Nat.le_refl _) (.string te.name)
    refine bodyPost_ret (results_pop rfl rfl k1 rfl) rfl ⟨?_, ?_, Fr.of_below bw3 B LK, grown_below bw3⟩
    · rw [HS.out.2.2.1, HS.out.2.2.2]; rfl
    · have := (Stk.below ⟨_, HS.out.1⟩ bw3 : Stk _ B lb es)
      rw [hE.out] at this ⊢
      exact this
  · have hne := topB_true HS.out.2.2.2
    have hn0 : 0 < es.length := List.length_pos_iff.2 hne
    have hnn := HS.out.2.1
    obtain ⟨k, hk⟩ : ∃ k, n = k + 1 := ⟨n - 1, by omega⟩
    have hk1 : IntKind.i64.wrap ((n : Int) - 1) = (k : Int) := by rw [IntWalk.i64_in _ (by omega)]; omega
    have hkr : k ≤ rc := by omega
    have HK := Lib.hid hk
    clear hne hn0 hk hnn
    go_enter Try.func23, Try.ntmps23
    go_wp2_with (first
      | (go_at_call 16; (with_reducible refine (top_n HS.out.1 b0.out HS.out.2.2.1 HS.out.2.2.2).mono ?_); rintro e w1 ⟨rfl, hb1⟩; have g0 := (blk_kept hres.out hb1).alloc (.cells #[i64 te.id, i64 te.space, .string te.name] 27); have hx := Blk.new w1 27 #[i64 te.id, i64 te.space, .string te.name]; have hl0 := (HS.out.1.below (b0.out.trans (hb1.mono b0.out.size))).below ((Below.refl w1.heap.size w1).alloc (Nat.le_refl _) (.cells #[i64 te.id, i64 te.space, .string te.name] 27)); have c0 := hl0.1.cell 0 (.slice rd n rc) rfl; have cf := hl0.1.fro 0; have H1 := Lib.hid (And.intro hb1 (And.intro g0 (And.intro hx hl0))); clear hb1 g0 hx hl0))
    have hne3 : w.heap.size ≠ lb := fun e => by have := HS.out.1.1.lt; omega
    have hne4 : w1.heap.size ≠ lb := H1.out.2.2.1.ne H1.out.2.2.2.1 (by decide)
    have g3 := H1.out.2.1.far (p := ⟨lb, 0, none⟩) hne3 (.slice rd k rc)
    have x3 := H1.out.2.2.1.far (p := ⟨lb, 0, none⟩) hne4 (.slice rd k rc)
    have r0 := g3.cell 0 (i64 0) rfl
    have r1 := g3.cell 1 (i64 0) rfl
    have r2 := g3.cell 2 (.string ⟨#[]⟩) rfl
    have f0 := g3.fro 0
    have f1 := g3.fro 1
    have f2 := g3.fro 2
    have x0 := x3.cell 0 (i64 te.id) rfl
    have x1 := x3.cell 1 (i64 te.space) rfl
    have x2 := x3.cell 2 (.string te.name) rfl
    have HG := Lib.hid (And.intro g3 x3)
    clear g3 x3
    go_region
    go_wp2
    have k1 := (((HG.out.1.put 0 (i64 te.id)).put 1 (i64 te.space)).put 2 (.string te.name)).drew
    have hkn := HK.out
    subst hkn
    obtain ⟨C1, C2⟩ := Stk.cut H1.out.2.2.2 HS.out.2.1
    have hob : (Value.slice rd k rc).ownBlock ≠ some w.heap.size := fun e => by
      rw [ownBlock_slice rd k (k + 1) rc rc] at e
      have := (HS.out.1.2.2.1.lt w.heap.size (by rw [← ownBlock_slice]; exact e)).2
      omega
    have D := (((C1.far hne3.symm hob 0 (i64 te.id)).far hne3.symm hob 1 (i64 te.space)).far hne3.symm hob 2 (.string te.name))
    have bw := b0.out.trans (H1.out.1.mono b0.out.size)
    have F := ((((Fr.of_below bw B LK).alloc (.cells #[i64 te.id, i64 te.space, .string te.name] 27)).trans C2).new (Nat.le_refl _) 0 (i64 te.id)).new (Nat.le_refl _) 1 (i64 te.space)
    have F3 := (F.new (Nat.le_refl _) 2 (.string te.name)).drew
    have G := ((((grown_below (row := some lb) (bw.alloc bw.size (.cells #[i64 te.id, i64 te.space, .string te.name] 27))).trans (grown_at _ lb 0 (.slice rd k rc)) |> (grown_new · (Nat.le_refl _) 0 (i64 te.id))) |> (grown_new · (Nat.le_refl _) 1 (i64 te.space))) |> (grown_new · (Nat.le_refl _) 2 (.string te.name)))
    refine bodyPost_ret (results_pop rfl rfl k1 rfl) rfl ⟨?_, ⟨_, D.below (Below.refl _ _).drew⟩, F3, ⟨G.os, G.tape, G.output, G.size, G.block⟩⟩
    rw [HS.out.2.2.1, HS.out.2.2.2]; rfl

end Go.Proofs.Ytdagjpiakbfjpaa
