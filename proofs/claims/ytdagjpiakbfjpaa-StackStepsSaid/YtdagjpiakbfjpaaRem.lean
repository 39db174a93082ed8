/-
  (*Stack).Remove, walked; contracts whose results are names.
  Written by an AI agent.
-/
import Derived.Test.YtdagjpiakbfjpaaDel
namespace Go.Proofs.Ytdagjpiakbfjpaa
open Go.RowKit

theorem split_at {es : List Ent} {k : Nat} {p : Ent} (h : es[k]? = some p) : es = es.take k ++ p :: es.drop (k + 1) := by
  have hk := (List.getElem?_eq_some_iff.1 h).1
  have := List.take_append_drop k es
  rw [List.drop_eq_getElem_cons hk, (List.getElem?_eq_some_iff.1 h).2] at this
  exact this.symm

set_option maxHeartbeats 1000000 in
theorem rem_stk {w : World} {B lb : Nat} {es : List Ent} {id : Int} (h : Stk w B lb es) :
    Calls Try.prog 25 #[ptr lb, i64 id] w fun e w' => e = .returned (.bool (remB id es)) ∧ Stk w' B lb (remS id es) ∧ Fr B LK w w' := by
  obtain ⟨x, hx⟩ : ∃ x, findE id es = x := ⟨_, rfl⟩
  have hb := lastE_bound (fun e => e.id == id) es
  rw [← findE_last, hx] at hb
  unfold remS remB
  rw [hx]
  have HX := Lib.hid (And.intro h hx)
  by_cases hx0 : x < 0
  · rw [if_pos hx0, show decide (0 ≤ x) = false by simpa using hx0]
    have hz : decide (x < 0) = true := decide_eq_true hx0
    clear hx hb hx0 h
    go_enter Try.func25, Try.ntmps25
    go_wp2_with (first
      | (go_at_call 19; (with_reducible refine (find_n HX.out.1 HX.out.2).mono ?_); rintro e w1 ⟨rfl, hw1⟩; obtain rfl : w = w1 := hw1.symm))
    go_ret
    exact ⟨rfl, HX.out.1, Fr.refl _ _ _⟩
  · rw [if_neg hx0, show decide (0 ≤ x) = true by simpa using hx0]
    obtain ⟨a, rfl⟩ : ∃ k : Nat, x = k := ⟨x.toNat, by omega⟩
    have hz : decide ((a : Int) < 0) = false := decide_eq_false hx0
    rw [Int.toNat_natCast]
    obtain ⟨p, hp⟩ : ∃ p, es[a]? = some p := ⟨_, List.getElem?_eq_getElem (by omega)⟩
    have hsp := split_at hp
    obtain ⟨v, h⟩ := h
    obtain ⟨ad, c, rfl, hnc, hcm, hrr⟩ := h.form
    obtain ⟨g, rfl, hBg, hg, _⟩ := hrr (fun e => by rw [e] at hp; simp at hp)
    obtain ⟨k, hk⟩ : ∃ k, (es.drop (a + 1)).length = k := ⟨_, rfl⟩
    have hn : es.length = a + 1 + k := by rw [← hk, List.length_drop]; omega
    have hA : (es.take a).length = a := by rw [List.length_take]; omega
    have hl := h.2.2.2
    have c0 := h.1.cell 0 _ rfl
    have hown := h.2.2.1
    have hlb := h.1.lt
    rw [hn] at c0 hl hnc hown
    rw [hsp] at hown
    have hw : IntKind.i64.wrap ((a : Int) + 1) = (a : Int) + 1 := IntWalk.i64_in _ (by omega)
    have H := Lib.hid (And.intro h (And.intro hown (And.intro hA (And.intro hk (And.intro hl hn)))))
    clear h hx hb hx0 hp hsp hk hn hA hown hl hrr
    go_enter Try.func25, Try.ntmps25
    go_wp2_with (first
      | (go_at_call 19; (with_reducible refine (find_n HX.out.1 HX.out.2).mono ?_); rintro e w1 ⟨rfl, hw1⟩; obtain rfl : w = w1 := hw1.symm)
      | (go_at_call 39; (with_reducible refine (delete_one H.out.2.1 H.out.2.2.1 H.out.2.2.2.1 H.out.2.2.2.2.1).mono ?_); rintro e w5 ⟨rfl, hown5, hgrow5⟩; have hk5 := (hgrow5.block lb H.out.1.1.lt (fun e => own_ne H.out.2.1 H.out.1.1 (by decide) e.symm)).trans H.out.1.1; have z5 := Blk.cell hk5 0 _ rfl; have zf := Blk.fro hk5 0; have H5 := Lib.hid (And.intro hown5 (And.intro hgrow5 hk5)); clear hown5 hgrow5 hk5))
    go_ret
    have b5 : Blk w5 lb 59 #[_] := H5.out.2.2
    have hlen : (es.take a ++ es.drop (a + 1)).length = a + k := by rw [List.length_append, H.out.2.2.1, H.out.2.2.2.1]
    refine ⟨rfl, ⟨_, b5.put 0 _, H.out.1.2.1, ?_, ?_⟩, ?_⟩
    · rw [hlen]; exact own_setCell H5.out.1 b5 (by decide) 0 _
    · rw [hlen]; have := H.out.2.2.2.2.1; omega
    · exact ((Fr.refl B LK w).grown H5.out.2.1 (fun k hk => by
        obtain rfl := Option.some.inj hk
        obtain ⟨_, cs, h1⟩ := own_kind H.out.2.1 g rfl
        exact ⟨hBg, _, h1, rfl⟩)).setCell b5 rfl H.out.1.2.1 0 _
end Go.Proofs.Ytdagjpiakbfjpaa
