/-
  slices.Contains at string, Entry.is, tags.Again, tags.Ends, ends, walked.
  Written by an AI agent.
-/
import Derived.Test.YtdagjpiakbfjpaaPush
namespace Go.Proofs.Ytdagjpiakbfjpaa
open Go.RowKit

/-- The slice v reads as these names. -/
def NamesAt (w : World) (v : Value) (ns : List ByteArray) : Prop :=
  ∃ ad c, v = .slice ad ns.length c ∧ ns.length ≤ 1000000000 ∧ (ns ≠ [] → ∃ g off, ad = some ⟨g, off, none⟩ ∧ g < w.heap.size ∧ ∀ (k : Nat) (x : ByteArray), ns[k]? = some x → w.cell? ⟨g, off + k, none⟩ = some (.string x))
theorem NamesAt.below {w w' : World} {v : Value} {ns : List ByteArray} (h : NamesAt w v ns) (hb : Below w.heap.size w w') : NamesAt w' v ns := by
  obtain ⟨ad, c, hv, hl, hr⟩ := h
  refine ⟨ad, c, hv, hl, fun hne => ?_⟩
  obtain ⟨g, off, ha, hg, hc⟩ := hr hne
  exact ⟨g, off, ha, Nat.lt_of_lt_of_le hg hb.size, fun k x hx => (hb.cell (p := ⟨g, off + k, none⟩) hg).trans (hc k x hx)⟩
theorem NamesAt.nil (w : World) (ad : Option Addr) (c : Nat) : NamesAt w (.slice ad 0 c) [] := ⟨ad, c, rfl, by simp, fun h => absurd rfl h⟩
theorem NamesAt.one (w : World) (x : ByteArray) (t : TypeId) : NamesAt (w.alloc (.cells #[.string x] t)) (.slice (some ⟨w.heap.size, 0, none⟩) 1 1) [x] := by
  refine ⟨_, 1, rfl, by simp, fun _ => ⟨w.heap.size, 0, rfl, by simp, fun k y hy => ?_⟩⟩
  have hb := Blk.new w t #[.string x]
  match k, hy with
  | 0, hy => exact hb.cell 0 _ (by simp at hy; subst hy; rfl)
theorem NamesAt.two (w : World) (x y : ByteArray) (t : TypeId) : NamesAt (w.alloc (.cells #[.string x, .string y] t)) (.slice (some ⟨w.heap.size, 0, none⟩) 2 2) [x, y] := by
  refine ⟨_, 2, rfl, by simp, fun _ => ⟨w.heap.size, 0, rfl, by simp, fun k z hz => ?_⟩⟩
  have hb := Blk.new w t #[.string x, .string y]
  match k, hz with
  | 0, hz => exact hb.cell 0 _ (by simp at hz; subst hz; rfl)
  | 1, hz => exact hb.cell 1 _ (by simp at hz; subst hz; rfl)
def memN (x : ByteArray) (ns : List ByteArray) : Bool := ns.any fun y => decide (x = y)
theorem memN_of {x : ByteArray} {ns : List ByteArray} (h : x ∈ ns) : memN x ns = true := by
  unfold memN
  rw [List.any_eq_true]
  exact ⟨x, h, by simp⟩
theorem memN_not {x : ByteArray} {ns : List ByteArray} (h : x ∉ ns) : memN x ns = false := by
  unfold memN
  rw [List.any_eq_false]
  intro y hy
  have : x ≠ y := fun e => h (by rw [e]; exact hy)
  simpa using this
theorem toList_inj {a b : ByteArray} (h : a.toList = b.toList) : a = b := by
  rw [ByteArray.toList_eq, ByteArray.toList_eq] at h
  exact ByteArray.ext (Array.toList_inj.1 h)

set_option maxHeartbeats 1000000 in
theorem index_any {w : World} {va : Value} {ns : List ByteArray} (ha : NamesAt w va ns) (x : ByteArray) :
    Calls Try.prog 48 #[va, .string x] w fun e w' => (∃ r, e = .returned (i64 r) ∧ decide (r ≥ 0) = memN x ns) ∧ w' = w := by
  obtain ⟨ad, ca, rfl, hla, hra⟩ := ha
  obtain ⟨n, hn⟩ : ∃ n, ns.length = n := ⟨_, rfl⟩
  rw [hn] at hla ⊢
  have HN := Lib.hid hn
  have HA := Lib.hid hra
  clear hn hra
  go_enter Try.func48, Try.ntmps48
  go_wp2
  go_loopw [8] (fun i wr => ∃ k : Nat, k ≤ n ∧ i = i64 k ∧ Hid (x ∉ ns.take k) ∧ wr = w) (fun i _ => n - (intOf i).toNat)
  case atStart => exact ⟨0, Nat.zero_le _, rfl, Lib.hid (by simp), rfl⟩
  case round =>
    obtain ⟨k, hk, rfl, HK, rfl⟩ := hrel
    by_cases hlt : k < n
    · obtain ⟨y, hy⟩ : ∃ y, ns[k]? = some y := ⟨_, List.getElem?_eq_getElem (by rw [HN.out]; exact hlt)⟩
      obtain ⟨g, off, had, _, hc⟩ := HA.out (fun e => by rw [e] at hy; simp at hy)
      have c1 := hc k y hy
      have HY := Lib.hid hy
      have HAD := Lib.hid had
      clear hc hy had
      rw [HAD.out]
      by_cases hxy : x = y
      · subst hxy
        have hm : memN x ns = true := memN_of (List.mem_of_getElem? HY.out)
        have HM := Lib.hid hm
        clear hm
        go_wp2
        go_ret
        exact ⟨⟨(k : Int), rfl, by rw [HM.out]; simp⟩, rfl⟩
      · have e1 : (x.toList == y.toList) = false := by simpa using fun h => hxy (toList_inj h)
        have HXY := Lib.hid hxy
        clear hxy
        go_wp2
        go_roundw
        case rel =>
          refine ⟨k + 1, by omega, by go_num, Lib.hid ?_, by trivial⟩
          rw [List.take_add_one, HY.out]
          have h1 := HK.out
          have h2 := HXY.out
          simp [h1, h2]
        case measure => simp [intOf]; omega
    · have hm : memN x ns = false := by
        have h1 := HK.out
        rw [List.take_of_length_le (by rw [HN.out]; omega)] at h1
        exact memN_not h1
      have HM := Lib.hid hm
      clear hm
      go_wp2
      go_ret
      exact ⟨⟨-1, rfl, by rw [HM.out]; simp⟩, rfl⟩

theorem contains_any {w : World} {va : Value} {ns : List ByteArray} {r : Bool} (ha : NamesAt w va ns) (x : ByteArray) (hr : memN x ns = r) : Calls Try.prog 41 #[va, .string x] w fun e w' => e = .returned (.bool r) ∧ w' = w := by
  have HA := Lib.hid ha
  obtain ⟨ad, ca, rfl, _, _⟩ := ha
  have HR := Lib.hid hr
  clear hr
  go_enter Try.func41, Try.ntmps41
  go_wp2_with (first | (go_at_call 48; (with_reducible refine (index_any HA.out x).mono ?_); rintro e w1 ⟨⟨q, rfl, hq⟩, rfl⟩; rw [HR.out] at hq; have hq2 : decide (0 ≤ q) = r := hq))
  go_ret
  exact ⟨rfl, rfl⟩

def isB (ns : List ByteArray) (e : Ent) : Bool := decide (e.space = 0) && memN e.name ns

theorem is_any {w : World} {va : Value} {ns : List ByteArray} {id sp : Int} {nm : ByteArray} (ha : NamesAt w va ns) : Calls Try.prog 27 #[.agg #[i64 id, i64 sp, .string nm], va] w fun e w' => e = .returned (.bool (isB ns ⟨id, sp, nm⟩)) ∧ Below w.heap.size w w' := by
  have HA := Lib.hid ha
  obtain ⟨ad, ca, rfl, _, _⟩ := ha
  obtain ⟨r, hr⟩ : ∃ r, memN nm ns = r := ⟨_, rfl⟩
  have HR := Lib.hid hr
  have hb := Blk.new w 27 #[i64 id, i64 sp, .string nm]
  have x1 := hb.cell 1 (i64 sp) rfl
  have x2 := hb.cell 2 (.string nm) rfl
  have b0 := Lib.hid ((Below.refl _ w).alloc (Nat.le_refl w.heap.size) (.cells #[i64 id, i64 sp, .string nm] 27))
  unfold isB
  simp only
  rw [hr]
  clear hr hb
  by_cases hs : sp = 0
  · have e1 : (sp == 0) = true := by simpa using hs
    have e2 : decide (sp = 0) = true := by simpa using hs
    rw [e2]
    clear hs e2
    go_enter Try.func27, Try.ntmps27
    go_wp2_with (first | (go_at_call 41; (with_reducible refine (contains_any (HA.out.below b0.out) nm HR.out).mono ?_); rintro e w1 ⟨rfl, rfl⟩))
    go_ret
    exact ⟨rfl, b0.out⟩
  · have e1 : (sp == 0) = false := by simpa using hs
    have e2 : decide (sp = 0) = false := by simpa using hs
    rw [e2]
    clear hs e2
    go_enter Try.func27, Try.ntmps27
    go_wp2
    go_ret
    exact ⟨rfl, b0.out⟩

def mathN : List ByteArray := [⟨#[109, 105]⟩, ⟨#[109, 110]⟩, ⟨#[109, 111]⟩, ⟨#[109, 115]⟩, ⟨#[109, 116, 101, 120, 116]⟩]
def svgN : List ByteArray := [⟨#[100, 101, 115, 99]⟩, ⟨#[102, 111, 114, 101, 105, 103, 110, 111, 98, 106, 101, 99, 116]⟩, ⟨#[116, 105, 116, 108, 101]⟩]
def htmlN : List ByteArray := [⟨#[99, 97, 112, 116, 105, 111, 110]⟩, ⟨#[104, 116, 109, 108]⟩, ⟨#[116, 97, 98, 108, 101]⟩, ⟨#[116, 100]⟩, ⟨#[116, 104]⟩]
def againB (sp : Int) (nm : ByteArray) : Bool := (decide (sp = 2) && memN nm mathN) || (decide (sp = 1) && memN nm svgN)

theorem name_eq (nm l : ByteArray) : decide (nm = l) = (nm.toList == l.toList) := by
  by_cases h : nm = l
  · subst h; simp
  · have : ¬ nm.toList = l.toList := fun e => h (toList_inj e)
    rw [decide_eq_false h]
    exact (by simpa using this : (nm.toList == l.toList) = false).symm
theorem mem_math (nm : ByteArray) : memN nm mathN = ((nm.toList == [109, 105]) || (nm.toList == [109, 110]) || (nm.toList == [109, 111]) || (nm.toList == [109, 115]) || (nm.toList == [109, 116, 101, 120, 116])) := by
  unfold memN mathN
  simp only [List.any_cons, List.any_nil, name_eq, Bool.or_false]
  rw [show (⟨#[109, 105]⟩ : ByteArray).toList = [109, 105] from by decide +kernel]
  rw [show (⟨#[109, 110]⟩ : ByteArray).toList = [109, 110] from by decide +kernel]
  rw [show (⟨#[109, 111]⟩ : ByteArray).toList = [109, 111] from by decide +kernel]
  rw [show (⟨#[109, 115]⟩ : ByteArray).toList = [109, 115] from by decide +kernel]
  rw [show (⟨#[109, 116, 101, 120, 116]⟩ : ByteArray).toList = [109, 116, 101, 120, 116] from by decide +kernel]
  simp only [Bool.or_assoc]
theorem mem_svg (nm : ByteArray) : memN nm svgN = ((nm.toList == [100, 101, 115, 99]) || (nm.toList == [102, 111, 114, 101, 105, 103, 110, 111, 98, 106, 101, 99, 116]) || (nm.toList == [116, 105, 116, 108, 101])) := by
  unfold memN svgN
  simp only [List.any_cons, List.any_nil, name_eq, Bool.or_false]
  rw [show (⟨#[100, 101, 115, 99]⟩ : ByteArray).toList = [100, 101, 115, 99] from by decide +kernel]
  rw [show (⟨#[102, 111, 114, 101, 105, 103, 110, 111, 98, 106, 101, 99, 116]⟩ : ByteArray).toList = [102, 111, 114, 101, 105, 103, 110, 111, 98, 106, 101, 99, 116] from by decide +kernel]
  rw [show (⟨#[116, 105, 116, 108, 101]⟩ : ByteArray).toList = [116, 105, 116, 108, 101] from by decide +kernel]
  simp only [Bool.or_assoc]
theorem mem_html (nm : ByteArray) : memN nm htmlN = ((nm.toList == [99, 97, 112, 116, 105, 111, 110]) || (nm.toList == [104, 116, 109, 108]) || (nm.toList == [116, 97, 98, 108, 101]) || (nm.toList == [116, 100]) || (nm.toList == [116, 104])) := by
  unfold memN htmlN
  simp only [List.any_cons, List.any_nil, name_eq, Bool.or_false]
  rw [show (⟨#[99, 97, 112, 116, 105, 111, 110]⟩ : ByteArray).toList = [99, 97, 112, 116, 105, 111, 110] from by decide +kernel]
  rw [show (⟨#[104, 116, 109, 108]⟩ : ByteArray).toList = [104, 116, 109, 108] from by decide +kernel]
  rw [show (⟨#[116, 97, 98, 108, 101]⟩ : ByteArray).toList = [116, 97, 98, 108, 101] from by decide +kernel]
  rw [show (⟨#[116, 100]⟩ : ByteArray).toList = [116, 100] from by decide +kernel]
  rw [show (⟨#[116, 104]⟩ : ByteArray).toList = [116, 104] from by decide +kernel]
  simp only [Bool.or_assoc]

set_option maxHeartbeats 4000000 in
theorem again_any {w : World} {sp : Int} {nm : ByteArray} : Calls Try.prog 49 #[i64 sp, .string nm] w fun e w' => (∃ r, e = .returned (i64 r) ∧ (r != 0) = againB sp nm) ∧ w' = w := by
  by_cases h2 : sp = 2
  · have e1 : (sp == 2) = true := by simpa using h2
    have d1 : decide (sp = 2) = true := by simpa using h2
    have d2 : decide (sp = 1) = false := by simp; omega
    clear h2
    cases q0 : (nm.toList == [109, 105])
    case true =>
      go_enter Try.func49, Try.ntmps49
      go_wp2
      go_ret
      exact ⟨⟨_, rfl, by unfold againB; rw [mem_math, mem_svg, d1, d2]; simp [q0]⟩, rfl⟩
    case false =>
      cases q1 : (nm.toList == [109, 110])
      case true =>
        go_enter Try.func49, Try.ntmps49
        go_wp2
        go_ret
        exact ⟨⟨_, rfl, by unfold againB; rw [mem_math, mem_svg, d1, d2]; simp [q0, q1]⟩, rfl⟩
      case false =>
        cases q2 : (nm.toList == [109, 111])
        case true =>
          go_enter Try.func49, Try.ntmps49
          go_wp2
          go_ret
          exact ⟨⟨_, rfl, by unfold againB; rw [mem_math, mem_svg, d1, d2]; simp [q0, q1, q2]⟩, rfl⟩
        case false =>
          cases q3 : (nm.toList == [109, 115])
          case true =>
            go_enter Try.func49, Try.ntmps49
            go_wp2
            go_ret
            exact ⟨⟨_, rfl, by unfold againB; rw [mem_math, mem_svg, d1, d2]; simp [q0, q1, q2, q3]⟩, rfl⟩
          case false =>
            cases q4 : (nm.toList == [109, 116, 101, 120, 116])
            case true =>
              go_enter Try.func49, Try.ntmps49
              go_wp2
              go_ret
              exact ⟨⟨_, rfl, by unfold againB; rw [mem_math, mem_svg, d1, d2]; simp [q0, q1, q2, q3, q4]⟩, rfl⟩
            case false =>
              go_enter Try.func49, Try.ntmps49
              go_wp2
              go_ret
              exact ⟨⟨_, rfl, by unfold againB; rw [mem_math, mem_svg, d1, d2]; simp [q0, q1, q2, q3, q4]⟩, rfl⟩
  · have e1 : (sp == 2) = false := by simpa using h2
    have d1 : decide (sp = 2) = false := by simpa using h2
    clear h2
    by_cases h1 : sp = 1
    · have e2 : (sp == 1) = true := by simpa using h1
      have d2 : decide (sp = 1) = true := by simpa using h1
      clear h1
      cases q0 : (nm.toList == [100, 101, 115, 99])
      case true =>
        go_enter Try.func49, Try.ntmps49
        go_wp2
        go_ret
        exact ⟨⟨_, rfl, by unfold againB; rw [mem_math, mem_svg, d1, d2]; simp [q0]⟩, rfl⟩
      case false =>
        cases q1 : (nm.toList == [102, 111, 114, 101, 105, 103, 110, 111, 98, 106, 101, 99, 116])
        case true =>
          go_enter Try.func49, Try.ntmps49
          go_wp2
          go_ret
          exact ⟨⟨_, rfl, by unfold againB; rw [mem_math, mem_svg, d1, d2]; simp [q0, q1]⟩, rfl⟩
        case false =>
          cases q2 : (nm.toList == [116, 105, 116, 108, 101])
          case true =>
            go_enter Try.func49, Try.ntmps49
            go_wp2
            go_ret
            exact ⟨⟨_, rfl, by unfold againB; rw [mem_math, mem_svg, d1, d2]; simp [q0, q1, q2]⟩, rfl⟩
          case false =>
            go_enter Try.func49, Try.ntmps49
            go_wp2
            go_ret
            exact ⟨⟨_, rfl, by unfold againB; rw [mem_math, mem_svg, d1, d2]; simp [q0, q1, q2]⟩, rfl⟩
    · have e2 : (sp == 1) = false := by simpa using h1
      have d2 : decide (sp = 1) = false := by simpa using h1
      clear h1
      go_enter Try.func49, Try.ntmps49
      go_wp2
      go_ret
      exact ⟨⟨0, rfl, by unfold againB; rw [d1, d2]; rfl⟩, rfl⟩

/-- Does a name end a scope, whatever the scope? -/
def tagB (sp : Int) (nm : ByteArray) : Bool := if sp = 0 then memN nm htmlN else againB sp nm

set_option maxHeartbeats 4000000 in
theorem tag_any {w : World} {sp : Int} {nm : ByteArray} : Calls Try.prog 42 #[i64 sp, .string nm] w fun e w' => e = .returned (.bool (tagB sp nm)) ∧ w' = w := by
  unfold tagB
  by_cases h0 : sp = 0
  · have e1 : (sp != 0) = false := by simpa using h0
    rw [if_pos h0]
    clear h0
    rw [mem_html]
    cases q0 : (nm.toList == [99, 97, 112, 116, 105, 111, 110])
    case true =>
      go_enter Try.func42, Try.ntmps42
      go_wp2
      go_ret
      exact ⟨by simp [q0], rfl⟩
    case false =>
      cases q1 : (nm.toList == [104, 116, 109, 108])
      case true =>
        go_enter Try.func42, Try.ntmps42
        go_wp2
        go_ret
        exact ⟨by simp [q0, q1], rfl⟩
      case false =>
        cases q2 : (nm.toList == [116, 97, 98, 108, 101])
        case true =>
          go_enter Try.func42, Try.ntmps42
          go_wp2
          go_ret
          exact ⟨by simp [q0, q1, q2], rfl⟩
        case false =>
          cases q3 : (nm.toList == [116, 100])
          case true =>
            go_enter Try.func42, Try.ntmps42
            go_wp2
            go_ret
            exact ⟨by simp [q0, q1, q2, q3], rfl⟩
          case false =>
            cases q4 : (nm.toList == [116, 104])
            case true =>
              go_enter Try.func42, Try.ntmps42
              go_wp2
              go_ret
              exact ⟨by simp [q0, q1, q2, q3, q4], rfl⟩
            case false =>
              go_enter Try.func42, Try.ntmps42
              go_wp2
              go_ret
              exact ⟨by simp [q0, q1, q2, q3, q4], rfl⟩
  · have e1 : (sp != 0) = true := by simpa using h0
    rw [if_neg h0]
    have HA := Lib.hid (again_any (w := w) (sp := sp) (nm := nm))
    clear h0
    go_enter Try.func42, Try.ntmps42
    go_wp2_with (first | (go_at_call 49; (with_reducible refine HA.out.mono ?_); rintro e w1 ⟨⟨r, rfl, hr⟩, rfl⟩))
    go_ret
    exact ⟨rfl, rfl⟩

end Go.Proofs.Ytdagjpiakbfjpaa
