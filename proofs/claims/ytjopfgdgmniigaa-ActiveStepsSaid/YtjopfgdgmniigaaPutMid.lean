/-
  (*List).put at any place, (*List).Insert, walked.
  Written by an AI agent.
-/
import Derived.Test.YtjopfgdgmniigaaIns
import Derived.Test.YtjopfgdgmniigaaMark
namespace Go.Proofs.Ytjopfgdgmniigaa
open Go.RowKit Go.Maps

theorem flatP_take (ps : List (Ent × Value)) : ∀ k, (flatP ps).take (k * 4) = flatP (ps.take k) := by
  induction ps with
  | nil => intro k; simp [flatP]
  | cons p r ih =>
    intro k
    cases k with
    | zero => simp [flatP]
    | succ k =>
      rw [show (k + 1) * 4 = k * 4 + 1 + 1 + 1 + 1 from by omega]
      simp [flatP, ih]
theorem flatP_drop (ps : List (Ent × Value)) : ∀ k, (flatP ps).drop (k * 4) = flatP (ps.drop k) := by
  induction ps with
  | nil => intro k; simp [flatP]
  | cons p r ih =>
    intro k
    cases k with
    | zero => simp
    | succ k =>
      rw [show (k + 1) * 4 = k * 4 + 1 + 1 + 1 + 1 from by omega]
      simp [flatP, ih]

/-- What put leaves, at place k. -/
def PutM (B lb k : Nat) (ps : List (Ent × Value)) (e0 : Ent) (w : World) (e : Ending) (w' : World) : Prop :=
  e = .returned (.tuple #[]) ∧ ∃ v' va', ListAt w' B lb 63 33 v' (ps.take k ++ (e0, va') :: ps.drop k) ∧ w'.ownsRow w.heap.size 60 2 va' e0.attrs.length (flatA e0.attrs) ∧ Fr B LK w w'

theorem put_mid_done {w w1 w3 : World} {B lb n na k : Nat} {rd ua va3 : Option Addr} {rc uc vc3 : Nat} {ps : List (Ent × Value)} {mk : Bool} {id : Int} {nm : ByteArray} {l : List Atr} {o o' : Obj}
    (hn : ps.length = n) (hna : l.length = na) (hl : n < 1000000) (hk : k < n) (h : ListAt w B lb 63 33 (.slice rd n rc) ps) (hown : w1.ownsRow (w.alloc o).drew.heap.size 60 2 (.slice ua na uc) na (flatA l)) (hbel : Below (w.alloc o).drew.heap.size (w.alloc o).drew w1)
    (hown3 : w3.ownsRow B 33 4 (.slice va3 (n + 1) vc3) (n + 1) ((flatP ps).take (k * 4) ++ ([.bool mk, i64 id, .string nm, .slice ua na uc] ++ (flatP ps).drop (k * 4)))) (hgrow : (w1.alloc o').grownBy w3 (Value.slice rd n rc).ownBlock) (hok : l.length ≤ 4398046511104 ∧ ∀ x ∈ l, AtrOk x) :
    ∃ v' va', ListAt (w3.setCell ⟨lb, 0, none⟩ (.slice va3 (n + 1) vc3)) B lb 63 33 v' (ps.take k ++ (⟨mk, id, nm, l⟩, va') :: ps.drop k) ∧ (w3.setCell ⟨lb, 0, none⟩ (.slice va3 (n + 1) vc3)).ownsRow w.heap.size 60 2 va' l.length (flatA l) ∧ Fr B LK w (w3.setCell ⟨lb, 0, none⟩ (.slice va3 (n + 1) vc3)) := by
  have hrow := put_own (o' := o') h hn hbel
  have F0 : Fr B K33 w w1 := (((Fr.refl B K33 w).alloc o).drew).trans (Fr.of_below hbel B K33)
  have F1 := (F0.alloc o').trans (grown_fr hgrow hrow)
  have hb3 : Blk w3 lb 63 #[.slice rd n rc] := F1.blk h.1 (.inr rfl)
  have F2 : Fr B LK w (w3.setCell ⟨lb, 0, none⟩ (.slice va3 (n + 1) vc3)) := (F1.mono (Nat.le_refl _) k33_lk).setCell hb3 rfl h.2.1 0 _
  have F3 : Fr B K33 w1 w3 := ((Fr.refl B K33 w1).alloc o').trans (grown_fr hgrow hrow)
  have hua := own_setCell (F3.own hown (fun _ _ => rfl)) hb3 (by decide) 0 (.slice va3 (n + 1) vc3)
  subst hna
  have hlen : (ps.take k ++ ((⟨mk, id, nm, l⟩, .slice ua l.length uc) : Ent × Value) :: ps.drop k).length = n + 1 := by simp; omega
  refine ⟨.slice va3 (n + 1) vc3, .slice ua l.length uc, ⟨hb3.put 0 _, h.2.1, ?_, ?_, ?_⟩, own_mono hua (by simp), F2⟩
  · have := own_setCell hown3 hb3 (by decide) 0 (.slice va3 (n + 1) vc3)
    rw [flatP_take, flatP_drop] at this
    rw [hlen, flatP_append]
    exact this
  · rw [hlen]; omega
  · intro p hp
    rcases List.mem_append.1 hp with hp | hp
    · exact (h.2.2.2.2 p (List.mem_of_mem_take hp)).fr F2 (Nat.le_refl _) (fun _ _ => rfl)
    · rcases List.mem_cons.1 hp with rfl | hp
      · exact AtrsAt.of_own hua hok.1 hok.2
      · exact (h.2.2.2.2 p (List.mem_of_mem_drop hp)).fr F2 (Nat.le_refl _) (fun _ _ => rfl)

theorem row_one {w : World} {B : Nat} {te : TypeId} {v : Value} {ps : List (Ent × Value)} (h : RowE w B te v ps) : ∀ u ∈ flatP ps, u.oneCell' = true :=
  flatP_one' ps (fun p hp => by obtain ⟨ad, c, hv, _⟩ := h.2.2 p hp; rw [hv]; rfl)
  where flatP_one' : ∀ (ps : List (Ent × Value)), (∀ p ∈ ps, p.2.oneCell' = true) → ∀ u ∈ flatP ps, u.oneCell' = true
    | [], _ => by simp [flatP]
    | p :: r, h => by
      intro u hu
      simp only [flatP, List.mem_cons] at hu
      rcases hu with rfl | rfl | rfl | rfl | hu
      · rfl
      · rfl
      · rfl
      · exact h p (by simp)
      · exact flatP_one' r (fun q hq => h q (by simp [hq])) u hu

theorem own_not {w : World} {B n : Nat} {v : Value} {xs : List Value} {o : Obj} (h : (w.alloc o).ownsRow B 33 4 v n xs) (h0 : w.ownsRow B 33 4 v n xs) : v.ownBlock ≠ some w.heap.size := fun e => by
  have := (h0.lt _ e).2
  omega

theorem put_own0 {w w1 : World} {B lb : Nat} {v : Value} {n : Nat} {ps : List (Ent × Value)} {o : Obj} (h : ListAt w B lb 63 33 v ps) (hn : ps.length = n) (hb : Below (w.alloc o).drew.heap.size (w.alloc o).drew w1) : w1.ownsRow B 33 4 v n (flatP ps) := by
  subst hn
  have h0 := own_below h.2.2.1 (((Below.refl w.heap.size w).alloc (Nat.le_refl _) o).drew) (Nat.le_refl _)
  exact own_below h0 hb (Nat.le_refl _)

theorem insert_mid4 {w : World} {B n k : Nat} {v : Value} {xs : List Value} {mk : Bool} {id : Int} {nm : ByteArray} {ua : Option Addr} {na uc : Nat} (h0 : w.ownsRow B 33 4 v n xs) (hown : (w.alloc (.cells #[.bool mk, i64 id, .string nm, .slice ua na uc] 33)).ownsRow B 33 4 v n xs) (hn : n ≤ 1000000) (hk : k < n) (hone : ∀ u ∈ xs, u.oneCell' = true)
    (hB : B ≤ (w.alloc (.cells #[.bool mk, i64 id, .string nm, .slice ua na uc] 33)).heap.size) :
    Calls Try.prog 53 #[v, i64 k, .slice (some ⟨w.heap.size, 0, none⟩) 1 1] (w.alloc (.cells #[.bool mk, i64 id, .string nm, .slice ua na uc] 33)) (InsIt B (n + 1) v (xs.take (k * 4) ++ ([.bool mk, i64 id, .string nm, .slice ua na uc] ++ xs.drop (k * 4))) (w.alloc (.cells #[.bool mk, i64 id, .string nm, .slice ua na uc] 33))) :=
  insert_mid (x := [.bool mk, i64 id, .string nm, .slice ua na uc]) hown hn hk hone rfl (Blk.new _ _ _) (by intro u hu; simp at hu; rcases hu with rfl | rfl | rfl | rfl <;> rfl) (own_not hown h0) hB

set_option maxHeartbeats 4000000 in
theorem put_mid {w : World} {B lb k : Nat} {v va : Value} {ps : List (Ent × Value)} {mk : Bool} {id : Int} {nm : ByteArray} {l : List Atr} (h : ListAt w B lb 63 33 v ps) (hl : ps.length < 1000000) (hk : k < ps.length) (ha : AtrsAt w B va l) :
    Calls Try.prog 44 #[ptr lb, i64 k, .agg #[.bool mk, i64 id, .string nm, va]] w (PutM B lb k ps ⟨mk, id, nm, l⟩ w) := by
  have H := Lib.hid (And.intro h ha)
  obtain ⟨hb, hB, hrow⟩ := h
  obtain ⟨ad, c, rfl⟩ := ha.form
  obtain ⟨n, hn⟩ : ∃ n, ps.length = n := ⟨_, rfl⟩
  obtain ⟨na, hna⟩ : ∃ na, l.length = na := ⟨_, rfl⟩
  obtain ⟨rd, rc, hv⟩ := own_slice hrow.1
  subst hv
  have hbox := Blk.new w 33 #[.bool mk, i64 id, .string nm, .slice ad l.length c]
  have hlist := hb.alloc (.cells #[.bool mk, i64 id, .string nm, .slice ad l.length c] 33)
  have hlb := hb.lt
  have HONE := Lib.hid (row_one hrow)
  have l0 := Blk.cell hlist 0 (.slice rd ps.length rc) rfl
  have lf := Blk.fro hlist 0
  have b0 := Blk.cell hbox 0 (.bool mk) rfl
  have b1 := Blk.cell hbox 1 (i64 id) rfl
  have b2 := Blk.cell hbox 2 (.string nm) rfl
  have b3 := Blk.cell hbox 3 (.slice ad l.length c) rfl
  rw [hn] at hl hk l0 H hlist
  rw [hna] at l0 lf b0 b1 b2 b3 hbox hlist H ⊢
  have HB := Lib.hid (And.intro hbox hlist)
  have HN := Lib.hid (And.intro hn hna)
  clear hb hrow ha hbox hlist hn hna
  go_enter Try.func44, Try.ntmps44
  go_wp2_with fail
  go_region_with (first
    | (go_at_call 35; (with_reducible refine (copied_n (mk := mk) (id := id) (nm := nm) (H.out.2.below ((Below.refl _ w).alloc (Nat.le_refl _) _).drew) HN.out.2).mono ?_); rintro e w1 ⟨ua, uc, rfl, hown, hbel⟩; have q0 := (hbel.cell (p := ⟨lb, 0, none⟩) (Nat.lt_of_lt_of_le hlb (by simp))).trans l0; have qlt : lb < w1.heap.size := Nat.lt_of_lt_of_le (Nat.lt_of_lt_of_le hlb (by simp)) hbel.size; have q1 := (((Below.refl w1.heap.size w1).alloc (Nat.le_refl _) (.cells #[.bool mk, i64 id, .string nm, .slice ua na uc] 33)).cell (p := ⟨lb, 0, none⟩) qlt).trans q0; have HO := Lib.hid (And.intro hown hbel); clear hown hbel)
    | (go_at_call 53; (with_reducible refine (insert_mid4 (put_own0 H.out.1 HN.out.1 HO.out.2) (put_own H.out.1 HN.out.1 HO.out.2) (by omega) hk HONE.out (put_base H.out.1 HO.out.2)).mono ?_); rintro e w3 ⟨v3, rfl, hown3, hgrow⟩; obtain ⟨va3, vc3, rfl⟩ := own_slice hown3; have hk2 := put_kept (put_own H.out.1 HN.out.1 HO.out.2) (put_list HB.out.2 HO.out.2) hgrow; have z0 := hk2.cell 0 (.slice rd n rc) rfl; have zf := hk2.fro 0; clear hk2; have HG := Lib.hid (And.intro hown3 hgrow); clear hown3 hgrow))
  all_goals go_end0
  all_goals exact ⟨rfl, put_mid_done HN.out.1 HN.out.2 hl hk H.out.1 HO.out.1 HO.out.2 HG.out.1 HG.out.2 (H.out.2.ok)⟩

theorem put_any {w : World} {B lb k : Nat} {v va : Value} {ps : List (Ent × Value)} {mk : Bool} {id : Int} {nm : ByteArray} {l : List Atr} (h : ListAt w B lb 63 33 v ps) (hl : ps.length < 1000000) (hk : k ≤ ps.length) (ha : AtrsAt w B va l) :
    Calls Try.prog 44 #[ptr lb, i64 k, .agg #[.bool mk, i64 id, .string nm, va]] w (PutM B lb k ps ⟨mk, id, nm, l⟩ w) := by
  by_cases hlt : k < ps.length
  · exact put_mid h hl hlt ha
  · have he : k = ps.length := by omega
    subst he
    refine (put_end h hl ha).mono fun e w' ⟨h1, v', va', h2, h3⟩ => ⟨h1, v', va', ?_, h3⟩
    rw [List.take_length, List.drop_length]
    exact h2

end Go.Proofs.Ytjopfgdgmniigaa
