/-
  The cache's methods, walked: the IDs, in the order of use.
  Written by an AI agent.
-/
import Derived.Test.YtdgdfnofedlkaaaWalksC
import Derived.LaidEqlPtr
import Derived.OwnWalk
import Derived.Maps.AppendAt
namespace Go.Proofs.Ytdgdfnofedlkaaa
open Go.RowKit Go.Maps

theorem info56 : (Try.prog.info? 56).map (fun i => i.size) = some 4 := by kernel_rfl
theorem info3 : (Try.prog.info? 3).map (fun i => (i.zero, i.size, i.bytes)) = some (some (.int .i64 0), 1, 8) := by kernel_rfl

theorem neq_other {w : World} {a b : Nat} {ca cb : Array Value} (hne : a ≠ b) (ha : Blk w a 56 ca) (hb : Blk w b 56 cb) : (binOp .neq 52 (ptr a) (ptr b)).run Try.prog w = .ok (.bool true) w := by
  obtain ⟨j, hj, hsz⟩ : ∃ j, Try.prog.info? 56 = some j ∧ j.size ≠ 0 := by
    have := info56
    cases hi : Try.prog.info? 56 with
    | none => rw [hi] at this; cases this
    | some j => rw [hi] at this; simp at this; exact ⟨j, rfl, by omega⟩
  have hne' : (⟨a, 0, none⟩ : Addr) ≠ ⟨b, 0, none⟩ := fun e => hne (by injection e)
  have h : ∀ d : Nat, (Op.equalIn (d + 1) 52 (ptr a) (ptr b)).run Try.prog w = .ok false w := fun d => by
    simp [Op.equalIn, run_underlying Try.underlying52, sizeOf, typeInfo, hj, hsz, run_sameAddr_other w hne' ha hb]
  simp only [binOp]
  simp [Op.equal, Op.maxDepth, h 9999]
theorem neq_same (w : World) (a : Nat) : (binOp .neq 52 (ptr a) (ptr a)).run Try.prog w = .ok (.bool false) w := by
  obtain ⟨j, hj⟩ : ∃ j, Try.prog.info? 56 = some j := by
    have := info56
    cases hi : Try.prog.info? 56 with
    | none => rw [hi] at this; cases this
    | some j => exact ⟨j, rfl⟩
  have h : ∀ d : Nat, (Op.equalIn (d + 1) 52 (ptr a) (ptr a)).run Try.prog w = .ok true w := fun d => by
    simp [Op.equalIn, run_underlying Try.underlying52, sizeOf, typeInfo, hj, run_sameAddr_same]
  simp only [binOp]
  simp [Op.equal, Op.maxDepth, h 9999]

def sliceLen : Value → Nat
  | .slice _ n _ => n
  | _ => 0
theorem own_len {w : World} {base : Nat} {e : TypeId} {size : Nat} {v : Value} {n : Nat} {xs : List Value} (h : w.ownsRow base e size v n xs) : sliceLen v = n := by
  rcases h.2 with ⟨rfl, rfl⟩ | ⟨g, cap, cur, rfl, _⟩ <;> rfl

/-- The head of what is left of the ring. -/
def hd (rb : Nat) (C : List Nat) : Nat := (C ++ [rb]).headD 0

def IdsIt (st : List Txt) (w : World) (e : Ending) (w' : World) : Prop :=
  ∃ v, e = .returned v ∧ w'.ownsRow w.heap.size 3 1 v st.length (st.map fun x => i64 x.1) ∧ Below w.heap.size w w'

set_option maxHeartbeats 1000000 in
theorem ids_any {w : World} {B cb : Nat} {most bytes hits misses : Int} {st : List Txt} (h : Cache Try.prog w B cb most bytes st hits misses) :
    Calls Try.prog 15 #[ptr cb] w (IdsIt st w) := by
  obtain ⟨mb, rb, L, tx, pv, nx, M, h⟩ := h
  have hlen : L.length ≤ 1000 := by have := h.fits; have e := congrArg List.length h.text; simp at e; omega
  have H := Lib.hid h
  have hr1 := h.nodes rb (by simp)
  have c3 := h.blk.cell 3 (ptr rb) rfl
  have r3 := hr1.cell 3 (ptr (nx rb)) rfl
  have hfirst : nx rb = hd rb L := by
    have := h.ring.1
    unfold hd
    rw [← this]; rfl
  rw [hfirst] at r3
  have hcb := h.blk.lt
  obtain ⟨i0, hi, hz0, hz1, hz2⟩ := info_parts info3
  clear h hr1 hfirst
  go_enter Try.func15, Try.ntmps15
  go_wp2
  go_loopw [3, 4] (fun v n wr => ∃ A C : List Nat, L = A ++ C ∧ n = ptr (hd rb C) ∧ wr.ownsRow w.heap.size 3 1 v A.length (A.map fun b => i64 (tx b).1) ∧ Below w.heap.size w wr)
    (fun v _ _ => L.length - sliceLen v)
  case atStart => exact ⟨[], L, rfl, rfl, World.ownsRow_nil _ _ _ _, Below.refl _ _⟩
  case round =>
    obtain ⟨A, C, hL, rfl, hown, hbel⟩ := hrel
    have HL := Lib.hid hL
    have hmlen := own_len hown
    have hAL : A.length + C.length = L.length := by rw [hL]; simp
    clear hL
    cases C with
    | nil =>
      have c3' := (hbel.cell (p := ⟨cb, 3, none⟩) hcb).trans c3
      have hn := neq_same wr rb
      have hA : L = A := by rw [HL.out]; simp
      have HA := Lib.hid hA
      clear hA hmlen
      rw [show hd rb [] = rb from rfl]
      go_wp2
      go_ret
      refine ⟨_, rfl, ?_, hbel⟩
      have ht := H.out.text
      rw [HA.out] at ht
      rw [← ht, List.length_map, List.map_map]
      exact hown
    | cons c C =>
      have hcm : c ∈ rb :: L := by rw [HL.out]; simp
      have hcr : c ≠ rb := fun e => by
        have hnd := H.out.ring.2.2
        rw [HL.out, e] at hnd
        exact (List.nodup_cons.1 hnd).1 (by simp)
      have hcn := H.out.nodes c hcm
      have hrn := H.out.nodes rb (by simp)
      have hclt := hcn.lt
      have hrlt := hrn.lt
      have hcn' : Blk wr c 56 _ := (hbel.block c hclt).trans hcn
      have hrn' : Blk wr rb 56 _ := (hbel.block rb hrlt).trans hrn
      have c3' := (hbel.cell (p := ⟨cb, 3, none⟩) hcb).trans c3
      have hn := neq_other hcr hcn' hrn'
      have d0 := hcn'.cell 0 (i64 (tx c).1) rfl
      have hnx : nx c = hd rb C := by
        have hR := H.out.ring
        rw [HL.out] at hR
        obtain ⟨_, C', _, hC, _⟩ := hR.around
        unfold hd
        rw [hC]; rfl
      have HN := Lib.hid hnx
      have HD := Lib.hid hcn
      have HML := Lib.hid hmlen
      obtain ⟨id, hid⟩ : ∃ id, (tx c).1 = id := ⟨_, rfl⟩
      rw [hid] at d0
      have HI := Lib.hid hid
      clear hcn hrn hcn' hrn' hnx hmlen hid hcm
      rw [show hd rb (c :: C) = c from rfl]
      go_wp2_with (first
        | (at_builtin; refine wpList_append_own _ rfl _ _ 38 rfl w.heap.size 3 i0 (.int .i64 0) 1 8 Try.underlying38 hi hz0 hz1 hz2 rfl (by decide) _ _ _ rfl (hown.alloc _) ⟨wr.heap.size, 0, none⟩ 1 1 [i64 id] rfl rfl ?c1 ?c2 ?c3 ?c4 ?c5 ?_))
      case c1 => exact cell_one_new _ _ _
      case c2 => intro u hu; simp at hu; subst hu; rfl
      case c3 => unfold maxLen; omega
      case c4 => omega
      case c5 => have := hbel.size; simp; omega
      intro v' w1 hown' hgrow _
      have hb1 : Below w.heap.size w w1 := (hbel.alloc hbel.size _).grown hgrow (by have := hbel.size; simp; omega) (fun k hk => (own_kind hown k hk).1)
      have hc1 : Blk w1 c 56 #[i64 (tx c).1, .string (tx c).2, ptr (pv c), ptr (nx c)] := (hb1.block c hclt).trans HD.out
      have d3 := hc1.cell 3 (ptr (nx c)) rfl
      rw [HN.out] at d3
      clear hgrow hc1
      go_wp2
      go_roundw
      case rel => exact ⟨A ++ [c], C, by rw [HL.out]; simp, rfl, by simpa [HI.out] using hown', hb1⟩
      case measure =>
        rw [own_len hown', HML.out]
        simp at hAL
        omega

end Go.Proofs.Ytdgdfnofedlkaaa
