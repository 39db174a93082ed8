/-
  The document's arena: Kids, Give, walked.
  Written by an AI agent.
-/
import Derived.Test.YtdeogkjihmaniaaRops
namespace Go.Proofs.Ytdeogkjihmaniaa
open Go.RowKit

section
variable {w : World} {B rb : Nat} {vL vR : Value} {l : List Ro} {row : List Int} {S : St}

theorem kidsOf_snoc (ps row : List Int) (x p : Int) : kidsOf ps (row ++ [x]) p = if parN ps x = p then kidsOf ps row p ++ [x] else kidsOf ps row p := by
  rw [kidsOf_append]
  unfold kidsOf
  by_cases h : parN ps x = p
  · rw [if_pos h]; simp [h]
  · rw [if_neg h]; simp [h]

theorem rkids_news {wr : World} (x : Int) : ∀ j u, [i64 x][j]? = some u → (wr.alloc (.cells #[i64 x] 3)).cell? ((⟨wr.heap.size, 0, none⟩ : Addr).add j) = some u := cell_one_new wr (i64 x) 3

set_option maxHeartbeats 2000000 in
theorem rkids_any {id : Int} (h : RefAt w B rb vL vR l row) (m : RMod l row S) (g : Good S) : Calls Try.prog 24 #[ptr rb, i64 id] w (KidsIt (S.kids id) w) := by
  obtain ⟨nd0, hr0, _⟩ := g.root
  obtain ⟨e0, he0, _⟩ := m.ex hr0
  obtain ⟨gg, c, rfl, hlc, hc9, _, _, hgl, c0, _⟩ := h.cells he0
  obtain ⟨ra, rc, hv⟩ := own_slice h.rowR
  have c1 := h.blk.cell 1 vR rfl
  obtain ⟨n, hn⟩ : ∃ n, l.length = n := ⟨_, rfl⟩
  obtain ⟨rn, hrn⟩ : ∃ rn, row.length = rn := ⟨_, rfl⟩
  have hl600 : rn ≤ 600 := by rw [← hrn, m.row]; exact g.row_len
  rw [hrn] at hv
  rw [hv] at c1
  rw [hn] at c0 hlc
  have hrl : rb < w.heap.size := h.blk.lt
  obtain ⟨i0, hi, hz0, hz1, hz2⟩ := info_parts info3
  have H := Lib.hid (And.intro h (And.intro m (And.intro g (And.intro hn (And.intro hrn hv)))))
  clear h m g hr0 he0 hn hrn hv
  go_enter Try.func24, Try.ntmps24
  go_wp2
  go_loopw [5, 7, 13] (fun o _ i wr => ∃ k : Nat, k ≤ rn ∧ i = i64 k ∧ Hid (Below w.heap.size w wr ∧ wr.ownsRow w.heap.size 3 1 o (kidsOf S.ps (row.take k) id).length ((kidsOf S.ps (row.take k) id).map i64))) (fun _ _ i _ => rn - (intOf i).toNat)
  case atStart => exact ⟨0, Nat.zero_le _, rfl, Lib.hid ⟨Below.refl _ _, by simp only [List.take_zero]; exact World.ownsRow_nil _ _ _ _⟩⟩
  case round =>
    obtain ⟨k, hk, rfl, HK⟩ := hrel
    by_cases hlt : k < rn
    · obtain ⟨x, hx⟩ : ∃ x, row[k]? = some x := ⟨_, List.getElem?_eq_getElem (by rw [H.out.2.2.2.2.1]; exact hlt)⟩
      obtain ⟨gr, rc', he, hnc, hgrl, kc⟩ := H.out.1.rcell hx
      rw [H.out.2.2.2.2.2, H.out.2.2.2.2.1] at he
      simp only [Value.slice.injEq, true_and] at he
      obtain ⟨rfl, rfl⟩ := he
      rw [H.out.2.2.2.2.1] at hnc
      obtain ⟨y, q, rfl, hpy⟩ := H.out.2.2.1.rows x (by rw [← H.out.2.1.row]; exact List.mem_of_getElem? hx)
      obtain ⟨e, hey, hSy⟩ := H.out.2.1.ex' (k := y) (by rw [← Good.ps_length]; exact (List.getElem?_eq_some_iff.1 hpy).1)
      have hpq : e.nd.par = (q : Int) := by
        have := ps_get hSy
        rw [hpy] at this
        exact (Option.some.inj this).symm
      have hyl := (List.getElem?_eq_some_iff.1 hey).1
      rw [H.out.2.2.2.1] at hyl
      have y6 : w.cell? ⟨gg, y * 7 + 6, none⟩ = some (i64 q) := by
        obtain ⟨g', c', hv, _, _, _, _, _, _, _, _, _, _, _, _, _, n6⟩ := H.out.1.cells hey
        simp only [Value.slice.injEq, Option.some.injEq, Addr.mk.injEq, and_true, true_and] at hv
        obtain ⟨rfl, _⟩ := hv
        rw [hpq] at n6
        exact n6
      have hbel := HK.out.1
      have w0 := (hbel.cell (p := ⟨rb, 0, none⟩) hrl).trans c0
      have w6 := (hbel.cell (p := ⟨gg, y * 7 + 6, none⟩) hgl).trans y6
      have wk := (hbel.cell (p := ⟨gr, k, none⟩) hgrl).trans kc
      have i1 : (0 : Int) ≤ (k : Int) := by omega
      have i2 : (k : Int) < (rn : Int) := by omega
      have i3 : (0 : Int) ≤ (y : Int) := by omega
      have i4 : (y : Int) < (n : Int) := by omega
      have hpar := parN_get hpy
      have HX := Lib.hid (And.intro hx hpar)
      clear hx hpar hpy hey hSy hpq y6 kc hbel
      by_cases hqi : (q : Int) = id
      · have z : ((q : Int) == id) = true := by simpa using hqi
        obtain ⟨ok, hok⟩ : ∃ ok, (kidsOf S.ps (row.take k) id).length = ok := ⟨_, rfl⟩
        have hok6 : ok ≤ 600 := by
          rw [← hok]
          have h1 := List.length_filter_le (fun x => decide (parN S.ps x = id)) (row.take k)
          have h2 := List.length_take_le k row
          unfold kidsOf
          omega
        have hown := HK.out.2
        rw [hok] at hown
        obtain ⟨oa, oc, rfl⟩ := own_slice hown
        have HO := Lib.hid (And.intro hown hok)
        have HQ := Lib.hid hqi
        clear hown hok hqi
        go_wp2_with (first
          | (at_builtin; refine wpList_append_own _ rfl (.tmp 27) (.tmp 29) 40 rfl w.heap.size 3 i0 _ 1 8 Try.underlying40 hi hz0 hz1 hz2 rfl (by decide) _ ok _ rfl (HO.out.1.alloc _) ⟨wr.heap.size, 0, none⟩ 1 1 [i64 y] rfl rfl (rkids_news _) (by intro u hu; simp at hu; subst hu; rfl) (by unfold maxLen; omega) (by omega) (by have := HK.out.1.size; simp; omega) ?_; intro v' w4 hown' hgrow _; have HN := Lib.hid (And.intro hown' hgrow); clear hown' hgrow))
        go_roundw
        case rel =>
          have hb4 := (HK.out.1.alloc HK.out.1.size (.cells #[i64 y] 3)).grown HN.out.2 (by have := HK.out.1.size; simp; omega) (fun k hk => (own_kind HO.out.1 k hk).1)
          refine ⟨k + 1, by omega, by go_num, Lib.hid ⟨hb4, ?_⟩⟩
          have h1 : kidsOf S.ps (row.take (k + 1)) id = kidsOf S.ps (row.take k) id ++ [(y : Int)] := by
            rw [List.take_add_one, HX.out.1]
            show kidsOf S.ps (row.take k ++ [(y : Int)]) id = _
            rw [kidsOf_snoc, if_pos (HX.out.2.trans HQ.out)]
          rw [h1, List.length_append, HO.out.2, List.map_append]
          exact HN.out.1
        case measure => simp [intOf]; omega
      · have z : ((q : Int) == id) = false := by simpa using hqi
        have HQ := Lib.hid hqi
        clear hqi
        go_wp2
        go_roundw
        case rel =>
          have h1 : kidsOf S.ps (row.take (k + 1)) id = kidsOf S.ps (row.take k) id := by
            rw [List.take_add_one, HX.out.1]
            show kidsOf S.ps (row.take k ++ [(y : Int)]) id = _
            rw [kidsOf_snoc, if_neg (fun e => HQ.out (HX.out.2.symm.trans e))]
          exact ⟨k + 1, by omega, by go_num, Lib.hid ⟨HK.out.1, by rw [h1]; exact HK.out.2⟩⟩
        case measure => simp [intOf]; omega
    · have hks : kidsOf S.ps (row.take k) id = S.kids id := by
        rw [List.take_of_length_le (by rw [H.out.2.2.2.2.1]; omega), H.out.2.1.row]; rfl
      have HF := HK.out
      rw [hks] at HF
      have HF2 := Lib.hid HF
      clear HF hks
      go_wp2
      go_ret
      exact ⟨_, rfl, HF2.out.2, HF2.out.1⟩

theorem rgive_bad {p id : Int} (h : RefAt w B rb vL vR l row) (m : RMod l row S) (hb : (S.elem p && S.elem id) = false) : Calls Try.prog 45 #[ptr rb, i64 p, i64 id] w (RcIt B rb vR (1, S) w) := by
  cases h1 : S.elem p with
  | false =>
    have H := Lib.hid (And.intro h (And.intro m h1))
    clear h m h1 hb
    go_enter Try.func45, Try.ntmps45
    go_wp2_with (first
      | (go_at_call 53; (with_reducible refine (relem_any H.out.1 H.out.2.1 H.out.2.2).mono ?_); rintro e w1 ⟨rfl, rfl⟩))
    go_ret
    exact RfIt.same H.out.1 H.out.2.1
  | true =>
    rw [h1, Bool.true_and] at hb
    have H := Lib.hid (And.intro h (And.intro m (And.intro h1 hb)))
    clear h m h1 hb
    go_enter Try.func45, Try.ntmps45
    go_wp2_with (first
      | (go_at_call 53; (with_reducible refine (relem_any H.out.1 H.out.2.1 H.out.2.2.1).mono ?_); rintro e w1 ⟨rfl, rfl⟩)
      | (go_at_call 53; (with_reducible refine (relem_any H.out.1 H.out.2.1 H.out.2.2.2).mono ?_); rintro e w1 ⟨rfl, rfl⟩))
    go_ret
    exact RfIt.same H.out.1 H.out.2.1

/-- Where Give stands, j kids on. -/
def RgiveIt (B rb : Nat) (vR : Value) (S : St) (ks : List Int) (fr to : Nat) (w1 : World) (j : Nat) (wr : World) : Prop :=
  ∃ vL' vR' l' row' S', RefAt wr B rb vL' vR' l' row' ∧ RMod l' row' S' ∧ RWent B w1 vR wr vR' ∧ GiveR S ks fr to j S'

theorem rloose_move {S' : St} {ks : List Int} {fr to j k : Nat} (h : RefAt w B rb vL vR l row) (m : RMod l row S') (hg : GiveR S ks fr to j S') (hx : ks[j]? = some (k : Int)) : Calls Try.prog 57 #[ptr rb, i64 k] w (RfIt B rb vR (.tuple #[]) (S'.loosen k) w) := by
  obtain ⟨h1, h2, _⟩ := hg.parts hx
  exact rloose_any h m hg.good h2 (hg.good.all k fr h1)
theorem rput_move {S' : St} {ks : List Int} {fr to j k rn : Nat} (h : RefAt w B rb vL vR l row) (m : RMod l row (S'.loosen k)) (hg : GiveR S ks fr to j S') (hx : ks[j]? = some (k : Int)) (hrn : row.length = rn) :
    Calls Try.prog 55 #[ptr rb, i64 rn, i64 k, i64 to] w (RfIt B rb vR (.tuple #[]) (S'.move to k) w) := by
  obtain ⟨h1, h2, _⟩ := hg.parts hx
  have gl := hg.good.loosen k
  have hr : (S'.loosen k).row.length = rn := by rw [← m.row]; exact hrn
  have := rput_any (at_ := rn) (id := k) (p := to) h m (by show k < (St.setPar S'.l k (-1)).length; rw [setPar_length]; exact h2) (by omega) (by have := gl.row_len; omega)
  have e1 : S'.move to (k : Int) = (S'.loosen k).put rn k to := by unfold St.move; rw [Int.toNat_natCast, hr]
  rw [e1]
  exact this

set_option maxHeartbeats 2000000 in
theorem rgive_good {p id : Nat} (h : RefAt w B rb vL vR l row) (m : RMod l row S) (g : Good S) (he : S.elem p = true) (hi : S.elem id = true) :
    Calls Try.prog 45 #[ptr rb, i64 p, i64 id] w (RcIt B rb vR (if und S.ps id p then (7, S) else (0, S.gives (S.kids p) id)) w) := by
  obtain ⟨p', _, hpp, hpl, _, _⟩ := St.elem_nat he
  obtain ⟨id', _, hii, hil, _, _⟩ := St.elem_nat hi
  obtain rfl : p = p' := Int.ofNat.inj hpp
  obtain rfl : id = id' := Int.ofNat.inj hii
  cases hu : und S.ps id p with
  | true =>
    have H := Lib.hid (And.intro h (And.intro m (And.intro he (And.intro hi (And.intro g (And.intro hil hu))))))
    clear h m g he hi hpl hil hu hpp hii
    go_enter Try.func45, Try.ntmps45
    go_wp2_with (first
      | (go_at_call 53; (with_reducible refine (relem_any H.out.1 H.out.2.1 H.out.2.2.1).mono ?_); rintro e w1 ⟨rfl, rfl⟩)
      | (go_at_call 53; (with_reducible refine (relem_any H.out.1 H.out.2.1 H.out.2.2.2.1).mono ?_); rintro e w1 ⟨rfl, rfl⟩)
      | (go_at_call 54; (with_reducible refine (rwithin_any H.out.1 H.out.2.1 H.out.2.2.2.2.1 H.out.2.2.2.2.2.1 H.out.2.2.2.2.2.2).mono ?_); rintro e w1 ⟨rfl, rfl⟩))
    go_ret
    exact RfIt.same H.out.1 H.out.2.1
  | false =>
    have hund : ¬ Und S.ps p id := fun h => by
      rw [(und_iff g.pg (by rw [Good.ps_length]; exact hil)).2 h] at hu
      cases hu
    obtain ⟨ks, hks⟩ : ∃ ks, S.kids p = ks := ⟨_, rfl⟩
    obtain ⟨n, hn⟩ : ∃ n, ks.length = n := ⟨_, rfl⟩
    have hn600 : n ≤ 600 := by rw [← hn, ← hks]; exact g.kids_len p
    have H := Lib.hid (And.intro h (And.intro m (And.intro he (And.intro hi (And.intro g (And.intro hil hu))))))
    have G := Lib.hid (And.intro hund (And.intro hks (And.intro hn (And.intro hil hpl))))
    rw [hks]
    clear h m g he hi hpl hil hu hpp hii hund hks hn
    go_enter Try.func45, Try.ntmps45
    go_wp2_with (first
      | (go_at_call 53; (with_reducible refine (relem_any H.out.1 H.out.2.1 H.out.2.2.1).mono ?_); rintro e w1 ⟨rfl, rfl⟩)
      | (go_at_call 53; (with_reducible refine (relem_any H.out.1 H.out.2.1 H.out.2.2.2.1).mono ?_); rintro e w1 ⟨rfl, rfl⟩)
      | (go_at_call 54; (with_reducible refine (rwithin_any H.out.1 H.out.2.1 H.out.2.2.2.2.1 H.out.2.2.2.2.2.1 H.out.2.2.2.2.2.2).mono ?_); rintro e w1 ⟨rfl, rfl⟩)
      | (go_at_call 24; (with_reducible refine (rkids_any H.out.1 H.out.2.1 H.out.2.2.2.2.1).mono ?_); rintro e w1 ⟨vk, rfl, hown, hbel⟩; rw [G.out.2.1, G.out.2.2.1] at hown; obtain ⟨kad, kc, rfl⟩ := own_slice hown; have HK := Lib.hid (And.intro hown hbel); clear hown hbel))
    go_loopw [8, 27] (fun _ i wr => ∃ j : Nat, j ≤ n ∧ i = i64 j ∧ Hid (RgiveIt B rb vR S ks p id w1 j wr) ∧ Hid (∃ base, wr.ownsRow base 3 1 (.slice kad n kc) n (ks.map i64))) (fun _ i _ => n - (intOf i).toNat)
    case atStart =>
      refine ⟨0, Nat.zero_le _, rfl, Lib.hid ⟨_, _, _, _, S, H.out.1.below HK.out.2, H.out.2.1, RWent.refl _ _ _, ?_⟩, Lib.hid ⟨_, HK.out.1⟩⟩
      rw [← G.out.2.1]
      exact GiveR.zero H.out.2.2.2.2.1 G.out.1
    case round =>
      obtain ⟨j, hj, rfl, HG, HR⟩ := hrel
      by_cases hlt : j < n
      · obtain ⟨x, hx⟩ : ∃ x, ks[j]? = some x := ⟨_, List.getElem?_eq_getElem (by rw [G.out.2.2.1]; exact hlt)⟩
        obtain ⟨k, rfl, _⟩ : ∃ k : Nat, x = k ∧ True := by
          have : x ∈ S.kids p := by rw [G.out.2.1]; exact List.mem_of_getElem? hx
          obtain ⟨k, h1, _⟩ := Good.kid_par this
          exact ⟨k, h1, trivial⟩
        obtain ⟨base, hrow⟩ := HR.out
        obtain ⟨kg, rfl, kcell, hkc⟩ : ∃ kg, kad = some ⟨kg, 0, none⟩ ∧ wr.cell? ⟨kg, j, none⟩ = some (i64 k) ∧ n ≤ kc := by
          rcases hrow.2 with ⟨_, h0⟩ | ⟨kg, kc', cur, hv, _, _, hnc, _⟩
          · omega
          · simp only [Value.slice.injEq, true_and] at hv
            obtain ⟨rfl, rfl⟩ := hv
            refine ⟨kg, rfl, ?_, hnc⟩
            rw [hrow.cellAt j (by omega), List.getElem?_map, hx]
            rfl
        obtain ⟨vL', vR', l', row', S', h1, h2, h3, h4⟩ := HG.out
        have HS := Lib.hid (And.intro h1 (And.intro h2 (And.intro h3 (And.intro h4 (And.intro hx hrow)))))
        have i1 : (0 : Int) ≤ (j : Int) := by omega
        have i2 : (j : Int) < (n : Int) := by omega
        clear h1 h2 h3 h4 hx hrow
        go_wp2_with (first
          | (go_at_call 57; (with_reducible refine (rloose_move HS.out.1 HS.out.2.1 HS.out.2.2.2.1 HS.out.2.2.2.2.1).mono ?_); rintro e w2 ⟨rfl, vL2, vR2, l2, row2, h1, h2, h3⟩; obtain ⟨ra, rc, hv⟩ := own_slice h1.rowR; obtain ⟨rn, hrn⟩ : ∃ rn, row2.length = rn := ⟨_, rfl⟩; have a1 := h1.blk.cell 1 vR2 rfl; rw [hv, hrn] at a1; have HD := Lib.hid (And.intro h1 (And.intro h2 (And.intro h3 hrn))); clear h1 h2 h3 hv hrn)
          | (go_at_call 55; (with_reducible refine (rput_move HD.out.1 HD.out.2.1 HS.out.2.2.2.1 HS.out.2.2.2.2.1 HD.out.2.2.2).mono ?_); rintro e w3 ⟨rfl, vL3, vR3, l3, row3, h1, h2, h3⟩; have HP := Lib.hid (And.intro h1 (And.intro h2 h3)); clear h1 h2 h3))
        go_roundw
        case rel =>
          refine ⟨j + 1, by omega, by go_num, Lib.hid ⟨_, _, _, _, _, HP.out.1, HP.out.2.1, (HS.out.2.2.1.trans HD.out.2.2.1).trans HP.out.2.2, HS.out.2.2.2.1.step HS.out.2.2.2.2.1 ?_ G.out.2.2.2.1⟩, Lib.hid ⟨base, ?_⟩⟩
          · rw [← G.out.2.1]; exact nodup_kids _ H.out.2.2.2.2.1.nodup
          · exact HP.out.2.2.fr.own (HD.out.2.2.1.fr.own HS.out.2.2.2.2.2 (fun _ _ => rfl)) (fun _ _ => rfl)
        case measure => simp [intOf]; omega
      · have hjn : j = n := by omega
        obtain ⟨vL', vR', l', row', S', h1, h2, h3, h4⟩ := HG.out
        have hS : S' = S.gives ks id := by
          have := h4.eq
          rw [List.take_of_length_le (by rw [G.out.2.2.1]; omega)] at this
          exact this
        subst hS
        have HF := Lib.hid (And.intro h1 (And.intro h2 h3))
        clear h1 h2 h3 h4 hjn
        go_wp2
        go_ret
        exact ⟨rfl, _, _, _, _, HF.out.1, HF.out.2.1, (RWent.of_below HK.out.2 B vR).trans HF.out.2.2⟩

theorem rgive_any {p id : Int} (h : RefAt w B rb vL vR l row) (m : RMod l row S) (g : Good S) : Calls Try.prog 45 #[ptr rb, i64 p, i64 id] w (RcIt B rb vR (S.give p id) w) := by
  unfold St.give
  by_cases hb : (S.elem p && S.elem id) = true
  · rw [if_pos hb]
    obtain ⟨he, hi⟩ := (Bool.and_eq_true _ _).mp hb |> (fun h => h)
    obtain ⟨p', _, rfl, _⟩ := St.elem_nat he
    obtain ⟨id', _, rfl, _⟩ := St.elem_nat hi
    exact rgive_good h m g he hi
  · rw [if_neg hb]
    exact rgive_bad h m (by simpa using hb)
end
end Go.Proofs.Ytdeogkjihmaniaa
