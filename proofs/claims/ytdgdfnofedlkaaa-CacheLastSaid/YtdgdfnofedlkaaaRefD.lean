/-
  The document's cache (rectoref33), walked: put.
  Written by an AI agent.
-/
import Derived.Test.YtdgdfnofedlkaaaRefC
namespace Go.Proofs.Ytdgdfnofedlkaaa
open Go.RowKit Go.Maps

def RPut (B rb : Nat) (most bytes : Int) (hits misses : Int) (st : List Txt) (ok : Bool) (w : World) (e : Ending) (w' : World) : Prop :=
  e = .returned (.bool ok) ∧ Ref w' B rb most bytes st hits misses ∧ Fr B RK w w'

theorem rput_big {w : World} {B rb : Nat} {most bytes hits misses : Int} {st : List Txt} (h : Ref w B rb most bytes st hits misses) (hn : (st.map (·.1)).Nodup) (id : Int) (s : ByteArray) (hs : bytes < s.size) :
    Calls Try.prog 20 #[ptr rb, i64 id, .string s] w (RPut B rb most bytes hits misses (drp id st) false w) := by
  have H := Lib.hid h
  have HN := Lib.hid hn
  clear h hn
  go_enter Try.func20, Try.ntmps20
  go_wp2_with (go_at_call 22; (with_reducible refine (rdrop_any H.out HN.out id).mono ?_); rintro e w1 ⟨rfl, hc, hf⟩; have HC := Lib.hid hc; have HF := Lib.hid hf; obtain ⟨v, hc⟩ := hc; have c1 := hc.1.cell 1 (i64 bytes) rfl; clear hc hf)
  go_ret
  exact ⟨rfl, HC.out, HF.out⟩

/-- What the loop of 'Put' keeps. -/
structure RLoop (B rb : Nat) (most bytes : Int) (hits misses : Int) (k : Int) (st0 : List Txt) (w0 : World) (n : Nat) (w : World) (st' : List Txt) : Prop where
  ref : Ref w B rb most bytes st' hits misses
  len : st'.length = n
  eq : trim most k st0.length st0 = trim most k n st'
  ids : (st'.map (·.1)).Nodup
  le : (st'.length : Int) ≤ most
  tot : tot st' ≤ bytes
  fr : Fr B RK w0 w

theorem drop_last {st : List Txt} (hn : (st.map (·.1)).Nodup) (hne : st ≠ []) : ∃ D y, st = D ++ y :: [] ∧ st.dropLast = D ∧ y.1 ∉ D.map (·.1) ∧ (D.map (·.1)).Nodup := by
  rcases st.eq_nil_or_concat with rfl | ⟨D, y, rfl⟩
  · exact absurd rfl hne
  · simp only [List.concat_eq_append] at hn ⊢
    rw [List.map_append, List.nodup_append] at hn
    exact ⟨D, y, rfl, by simp, fun hm => hn.2.2 _ hm y.1 (by simp) rfl, hn.1⟩

theorem last_cell {w : World} {B n : Nat} {v : Value} {st D : List Txt} {y : Txt} {ad : Option Addr} {cp : Nat}
    (hrf : (v = .slice none 0 0 ∧ st = []) ∨ ∃ g cap, v = .slice (some ⟨g, 0, none⟩) n cap ∧ n ≤ cap ∧ cap ≤ maxLen ∧ B ≤ g ∧ g < w.heap.size ∧
      ∀ (k : Nat) (x : Txt), st[k]? = some x → w.cell? ⟨g, k * 2, none⟩ = some (i64 x.1) ∧ w.cell? ⟨g, k * 2 + 1, none⟩ = some (.string x.2))
    (hv : v = .slice ad n cp) (hD : st = D ++ y :: []) (_hn : n = D.length + 1) : ∃ g, ad = some ⟨g, 0, none⟩ ∧ n ≤ cp ∧ w.cell? ⟨g, D.length * 2, none⟩ = some (i64 y.1) := by
  rcases hrf with ⟨_, e⟩ | ⟨g, cap, e, hc, _, _, _, hcell⟩
  · rw [hD] at e; simp at e
  · rw [hv] at e
    injection e with e1 e2 e3
    subst e1 e3
    exact ⟨g, rfl, hc, (hcell D.length y (by rw [hD]; simp)).1⟩

theorem RefAt.drewN {w : World} {B rb : Nat} {most bytes hits misses : Int} {st : List Txt} {v : Value} (h : RefAt w B rb most bytes st hits misses v) (n : Nat) : RefAt (w.drewN n) B rb most bytes st hits misses v :=
  ⟨h.1.drewN n, own_heap h.2.1 rfl, h.2.2⟩
theorem RefAt.drew {w : World} {B rb : Nat} {most bytes hits misses : Int} {st : List Txt} {v : Value} (h : RefAt w B rb most bytes st hits misses v) : RefAt w.drew B rb most bytes st hits misses v :=
  ⟨h.1.drew, own_heap h.2.1 rfl, h.2.2⟩
theorem rdrop_last {w : World} {B rb : Nat} {most bytes hits misses : Int} {st D : List Txt} {y : Txt} {v : Value} (h : RefAt w B rb most bytes st hits misses v) (hD : st = D ++ y :: []) (hy : y.1 ∉ D.map (·.1)) :
    Calls Try.prog 22 #[ptr rb, i64 y.1] w fun e w' => e = .returned (.bool true) ∧ Ref w' B rb most bytes D hits misses ∧ Fr B RK w w' := by
  subst hD
  have := rdrop_yes h hy
  rwa [List.append_nil] at this

theorem ref_mk {w : World} {B rb : Nat} {most bytes hits misses : Int} {st : List Txt} {v : Value} (h : RefAt w B rb most bytes st hits misses v) : Ref w B rb most bytes st hits misses := ⟨v, h⟩
theorem sum_at {w : World} {B rb : Nat} {most bytes hits misses : Int} {st : List Txt} {v : Value} (h : RefAt w B rb most bytes st hits misses v) {ad : Option Addr} {n cp : Nat} (hv : v = .slice ad n cp) {T : Int} (hT : tot st = T) (hb : T ≤ 1000000000000) :
    Calls Try.prog 12 #[.slice ad n cp] w fun e w' => e = .returned (i64 T) ∧ Below w.heap.size w w' := by
  subst hv hT
  exact sum_any h.2.1 h.2.2.2 hb

set_option maxHeartbeats 4000000 in
theorem rput_small {w : World} {B rb : Nat} {most bytes hits misses : Int} {st : List Txt} (h : Ref w B rb most bytes st hits misses) (hn : (st.map (·.1)).Nodup) (hle : (st.length : Int) ≤ most) (ht : tot st ≤ bytes)
    (hm1 : 1 ≤ most) (hm2 : most ≤ 1000) (hb : bytes ≤ 65536) (id : Int) (s : ByteArray) (hs : ¬ bytes < s.size) :
    Calls Try.prog 20 #[ptr rb, i64 id, .string s] w (RPut B rb most bytes hits misses ((id, s) :: trim most (bytes - s.size) (drp id st).length (drp id st)) true w) := by
  have H := Lib.hid h
  have HN := Lib.hid hn
  have hs0 : (s.size : Int) ≤ bytes := by omega
  have HLE := Lib.hid hle
  have HT := Lib.hid ht
  clear h hn hs hle ht
  go_enter Try.func20, Try.ntmps20
  go_wp2_with (go_at_call 22; (with_reducible refine (rdrop_any H.out HN.out id).mono ?_); rintro e w1 ⟨rfl, hc, hf⟩; have HC := Lib.hid hc; have HF := Lib.hid hf; obtain ⟨v, hc⟩ := hc; have c1 := hc.1.cell 1 (i64 bytes) rfl; clear hc hf)
  clear c1
  go_loopg [] (drp id st).length (fun k wr => ∃ st', RLoop B rb most bytes hits misses (bytes - s.size) (drp id st) w k wr st')
  case atStart =>
    refine ⟨drp id st, HC.out, rfl, rfl, ?_, ?_, ?_, HF.out⟩
    · exact (List.Sublist.map _ (List.filter_sublist)).nodup HN.out
    · have := List.length_filter_le (fun x : Txt => x.1 != id) st
      have := HLE.out
      unfold drp
      omega
    · have hle := HT.out
      by_cases hid : id ∈ st.map (·.1)
      · obtain ⟨A, x, C, rfl, rfl, hA, _⟩ := has_split hid
        rw [drp_mid HN.out]
        rw [tot_mid] at hle
        omega
      · rw [drp_none hid]; exact hle
  case round =>
    obtain ⟨st', R⟩ := hrel
    obtain ⟨v', hC⟩ := R.ref
    have HR := Lib.hid R
    have HC' := Lib.hid hC
    have c0 := hC.1.cell 0 (i64 most) rfl
    have c1 := hC.1.cell 1 (i64 bytes) rfl
    have hT0 := tot_nonneg st'
    have hT1 := R.tot
    have hg : (gk : Int) ≤ most := by rw [← R.len]; exact R.le
    obtain ⟨ad, cp, hv⟩ := own_slice hC.2.1
    have hrf := row_form hC.2.1
    rw [R.len] at hv hrf
    have c2 := hC.1.cell 2 v' rfl
    rw [hv] at c2
    have HV := Lib.hid hv
    obtain ⟨T, hT⟩ : ∃ T, tot st' = T := ⟨_, rfl⟩
    have HTT := Lib.hid hT
    rw [hT] at hT0 hT1
    clear R hC hT
    have hnil : ((gk : Int) = most ∨ bytes - s.size < T) → st' ≠ [] := fun ho e => by
      have hg := HR.out.len
      have hT := HTT.out
      subst e
      simp [tot_nil] at hg hT
      omega
    have HNIL := Lib.hid hnil
    clear hnil
    by_cases hfull : most ≤ (gk : Int)
    · have hb1 : decide (most ≤ (gk : Int)) = true := by simpa using hfull
      obtain ⟨D, y, hD, hDL, hyD, hDn⟩ := drop_last HR.out.ids (HNIL.out (.inl (by omega)))
      obtain ⟨g, had, hcp, hcell⟩ := last_cell hrf hv hD (by rw [← HR.out.len, hD]; simp)
      subst had
      have HD := Lib.hid hD
      have HDL := Lib.hid hDL
      have HY := Lib.hid hyD
      have HDN := Lib.hid hDn
      have hgk : gk = D.length + 1 := by rw [← HR.out.len, hD]; simp
      rw [show D.length = gk - 1 by omega] at hcell
      have hg1 : 1 ≤ gk := by omega
      have HGK := Lib.hid hgk
      clear hD hDL hyD hDn hrf hv hgk
      go_wp2_with fail
      go_quiet (fail)
      go_wp2_with fail
      have i1 : IntKind.i64.wrap ((gk : Int) - 1) = (gk : Int) - 1 := IntWalk.i64_in _ (by omega)
      have i2 : (0 : Int) ≤ (gk : Int) - 1 := by omega
      have i3 : (gk : Int) - 1 < (gk : Int) := by omega
      have i5 : (1 : Int) ≤ (gk : Int) := by omega
      have i4 : ((gk : Int) - 1).toNat = gk - 1 := by omega
      have hFq := Lib.hid (HR.out.fr.drewN nq)
      have HQ := Lib.hid (HC'.out.drewN nq)
      have q1 : (wr.drewN nq).cell? ⟨rb, 2, none⟩ = some (.slice (some ⟨g, 0, none⟩) gk cp) := c2
      have q2 : (wr.drewN nq).cell? ⟨g, (gk - 1) * 2, none⟩ = some (i64 y.1) := hcell
      generalize wr.drewN nq = wq at HQ hFq q1 q2 ⊢
      have l1 : ∀ d, (World.mk wq.heap wq.tape d wq.os wq.output).cell? ⟨rb, 2, none⟩ = some (.slice (some ⟨g, 0, none⟩) gk cp) := fun _ => q1
      have l2 : ∀ d, (World.mk wq.heap wq.tape d wq.os wq.output).cell? ⟨g, (gk - 1) * 2, none⟩ = some (i64 y.1) := fun _ => q2
      go_still_tail 14, (by kernel_rfl)
      change wpList _ _ _ _ _ wq.drew
      clear l1 l2 q1 q2
      go_wp2_with (go_at_call 22; (with_reducible refine (rdrop_last HQ.out.drew HD.out HY.out).mono ?_); rintro e w2 ⟨rfl, hr2, hf2⟩; have HR2 := Lib.hid hr2; have HF2 := Lib.hid hf2; clear hr2 hf2)
      go_roundg (gk - 1)
      case measure => omega
      case rel =>
        have hg2 : gk = (gk - 1) + 1 := by omega
        refine ⟨D, HR2.out, by rw [HGK.out]; omega, ?_, HDN.out, ?_, ?_, (hFq.out.drew).trans HF2.out⟩
        · rw [HR.out.eq]
          conv => lhs; rw [hg2]
          rw [trim, if_pos (.inl (by rw [HR.out.len]; omega)), HDL.out]
        · have h1 := HR.out.le
          rw [HD.out] at h1
          simp at h1
          omega
        · have h1 := HR.out.tot
          rw [HD.out, tot_append] at h1
          have h2 := tot_nonneg (y :: [])
          omega
    · have hb1 : decide (most ≤ (gk : Int)) = false := by simpa using hfull
      by_cases hbig : bytes - s.size < T
      · have HV2 := Lib.hid (show v' = .slice ad gk cp from hv)
        obtain ⟨D, y, hD, hDL, hyD, hDn⟩ := drop_last HR.out.ids (HNIL.out (.inr hbig))
        obtain ⟨g, had, hcp, hcell⟩ := last_cell hrf hv hD (by rw [← HR.out.len, hD]; simp)
        subst had
        have HD := Lib.hid hD
        have HDL := Lib.hid hDL
        have HY := Lib.hid hyD
        have HDN := Lib.hid hDn
        have hgk : gk = D.length + 1 := by rw [← HR.out.len, hD]; simp
        rw [show D.length = gk - 1 by omega] at hcell
        have hg1 : 1 ≤ gk := by omega
        have HGK := Lib.hid hgk
        clear hD hDL hyD hDn hrf hv hgk
        have i6 : IntKind.i64.wrap (T + s.size) = T + s.size := IntWalk.i64_in _ (by omega)
        have hb2 : decide (bytes < T + s.size) = true := by simp; omega
        have HTB := Lib.hid (show T ≤ 1000000000000 by omega)
        have hrb := HC'.out.1.lt
        have hgl := World.block_lt_of_cell? _ _ hcell
        go_wp2_with fail
        go_region_held3 (fun w' => w'.cell? ⟨rb, 2, none⟩ = some (.slice (some ⟨g, 0, none⟩) gk cp) ∧ w'.cell? ⟨rb, 0, none⟩ = some (i64 most) ∧ w'.cell? ⟨rb, 1, none⟩ = some (i64 bytes)) (go_keep) (first | (go_at_call 12; (with_reducible refine (sum_at HC'.out.drew HV2.out HTT.out HTB.out).mono ?_); rintro e wq ⟨rfl, hbel⟩; have s2 := (hbel.cell (p := ⟨rb, 2, none⟩) hrb).trans c2; have s0 := (hbel.cell (p := ⟨rb, 0, none⟩) hrb).trans c0; have s1 := (hbel.cell (p := ⟨rb, 1, none⟩) hrb).trans c1; have HBEL := Lib.hid hbel; clear hbel))
        go_wp2_with fail
        have i1 : IntKind.i64.wrap ((gk : Int) - 1) = (gk : Int) - 1 := IntWalk.i64_in _ (by omega)
        have i2 : (0 : Int) ≤ (gk : Int) - 1 := by omega
        have i3 : (gk : Int) - 1 < (gk : Int) := by omega
        have i5 : (1 : Int) ≤ (gk : Int) := by omega
        have i4 : ((gk : Int) - 1).toNat = gk - 1 := by omega
        have hFq := Lib.hid ((HR.out.fr.drew).trans (Fr.of_below HBEL.out B RK))
        have HQ := Lib.hid (HC'.out.drew.below HBEL.out)
        have q1 : wq.cell? ⟨rb, 2, none⟩ = some (.slice (some ⟨g, 0, none⟩) gk cp) := s2
        have q2 : wq.cell? ⟨g, (gk - 1) * 2, none⟩ = some (i64 y.1) := (HBEL.out.cell (p := ⟨g, (gk - 1) * 2, none⟩) hgl).trans hcell
        have l1 : ∀ d, (World.mk wq.heap wq.tape d wq.os wq.output).cell? ⟨rb, 2, none⟩ = some (.slice (some ⟨g, 0, none⟩) gk cp) := fun _ => q1
        have l2 : ∀ d, (World.mk wq.heap wq.tape d wq.os wq.output).cell? ⟨g, (gk - 1) * 2, none⟩ = some (i64 y.1) := fun _ => q2
        go_still_tail 14, (by kernel_rfl)
        change wpList _ _ _ _ _ wq.drew
        clear l1 l2 q1 q2
        go_wp2_with (go_at_call 22; (with_reducible refine (rdrop_last HQ.out.drew HD.out HY.out).mono ?_); rintro e w2 ⟨rfl, hr2, hf2⟩; have HR2 := Lib.hid hr2; have HF2 := Lib.hid hf2; clear hr2 hf2)
        go_roundg (gk - 1)
        case measure => omega
        case rel =>
          have hg2 : gk = (gk - 1) + 1 := by omega
          refine ⟨D, HR2.out, by rw [HGK.out]; omega, ?_, HDN.out, ?_, ?_, (hFq.out.drew).trans HF2.out⟩
          · rw [HR.out.eq]
            conv => lhs; rw [hg2]
            rw [trim, if_pos (.inr (by rw [HTT.out]; exact hbig)), HDL.out]
          · have h1 := HR.out.le
            rw [HD.out] at h1
            simp at h1
            omega
          · have h1 := HR.out.tot
            rw [HD.out, tot_append] at h1
            have h2 := tot_nonneg (y :: [])
            omega

      · have HV2 := Lib.hid (show v' = .slice ad gk cp from hv)
        have htrim : trim most (bytes - s.size) (drp id st).length (drp id st) = st' := by
          rw [HR.out.eq]
          cases gk with
          | zero => rfl
          | succ n =>
            rw [trim, if_neg]
            rw [HR.out.len, HTT.out]
            exact fun h => h.elim (fun h => hfull (by omega)) hbig
        have HTR := Lib.hid htrim
        have i6 : IntKind.i64.wrap (T + s.size) = T + s.size := IntWalk.i64_in _ (by omega)
        have hb2 : decide (bytes < T + s.size) = false := by simp; omega
        have HTB := Lib.hid (show T ≤ 1000000000000 by omega)
        have hrb := HC'.out.1.lt
        have HLEN := Lib.hid (show st'.length < 1000000 by have := HR.out.le; omega)
        clear htrim hv hrf
        go_wp2_with fail
        go_region_held3 (fun w' => w'.cell? ⟨rb, 2, none⟩ = some (.slice ad gk cp) ∧ w'.cell? ⟨rb, 0, none⟩ = some (i64 most) ∧ w'.cell? ⟨rb, 1, none⟩ = some (i64 bytes)) (go_keep) (first | (go_at_call 12; (with_reducible refine (sum_at HC'.out.drew HV2.out HTT.out HTB.out).mono ?_); rintro e wq ⟨rfl, hbel⟩; have s2 := (hbel.cell (p := ⟨rb, 2, none⟩) hrb).trans c2; have s0 := (hbel.cell (p := ⟨rb, 0, none⟩) hrb).trans c0; have s1 := (hbel.cell (p := ⟨rb, 1, none⟩) hrb).trans c1; have HBEL := Lib.hid hbel; clear hbel))
        go_wp2_with (go_at_call 26; (with_reducible refine (front_any (ref_mk (HC'.out.drew.below HBEL.out)) (id, s) HLEN.out).mono ?_); rintro e w4 ⟨rfl, hr4, hf4⟩; have HR4 := Lib.hid hr4; have HF4 := Lib.hid hf4; clear hr4 hf4)
        go_ret
        exact ⟨rfl, by rw [HTR.out]; exact HR4.out, (HR.out.fr.drew).trans ((Fr.of_below HBEL.out B RK).trans HF4.out)⟩

theorem rput_any {w : World} {B rb : Nat} {most bytes hits misses : Int} {st : List Txt} (h : Ref w B rb most bytes st hits misses) (hn : (st.map (·.1)).Nodup) (hle : (st.length : Int) ≤ most) (ht : tot st ≤ bytes)
    (hm1 : 1 ≤ most) (hm2 : most ≤ 1000) (hb : bytes ≤ 65536) (id : Int) (s : ByteArray) :
    Calls Try.prog 20 #[ptr rb, i64 id, .string s] w (RPut B rb most bytes hits misses (putL most bytes id s st) (decide ((s.size : Int) ≤ bytes)) w) := by
  unfold putL
  by_cases hs : bytes < s.size
  · rw [if_pos hs, decide_eq_false (by omega)]
    exact rput_big h hn id s hs
  · rw [if_neg hs, decide_eq_true (by omega)]
    exact rput_small h hn hle ht hm1 hm2 hb id s hs

end Go.Proofs.Ytdgdfnofedlkaaa
