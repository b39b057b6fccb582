/- utf.all's iterator has its contract; what stands in bytes, one behind the other. -/
import Derived.Test.YtlkphbcdgkjnoaaDoorA1
import Derived.Test.YtlkphbcdgkjnoaaDoorIt
import Derived.RangeFuncBox
import Derived.RangeFuncLeaves
import Derived.Shelf.Abstract
import Derived.OwnWalkIn
import Derived.TacticsInMore
import Derived.LoopNIn
import Derived.LoopIn
import Derived.Maps.AppendAt
namespace Go.Proofs.YtlkphbcdgkjnoaaDoor
open Go.RowKit Go.Shelf
attribute [local go_sem] Oper.semAt_some

/-- The two tables lie in old memory. -/
def Tabs (w : World) : Prop := Lib.Utf8Tabs 0 1 w
theorem Tabs.below {w w' : World} (h : Tabs w) (hb : Below w.heap.size w w') : Tabs w' := by
  have keep : ∀ (a : Addr) (v : Value), w.cell? a = some v → w'.cell? a = some v := fun a v ha =>
    (World.cell?_of_block (hb.block a.block (World.block_lt_of_cell? w a ha))).trans ha
  exact ⟨fun c hc => keep _ _ (h.1 c hc), fun i hi => ⟨keep _ _ (h.2 i hi).1, keep _ _ (h.2 i hi).2⟩⟩
theorem Tabs.lt {w : World} (h : Tabs w) : 1 < w.heap.size := World.block_lt_of_cell? w _ (h.2 0 (by omega)).1
theorem Tabs.put {w : World} (h : Tabs w) {l : Nat} {o : Obj} (o' : Obj) (hl : w.heap[l]? = some o) (ho : o.isCells = false) : Tabs (w.putObj l o') := by
  have keep : ∀ (a : Addr) (v : Value), w.cell? a = some v → (w.putObj l o').cell? a = some v := fun a v ha => by
    by_cases e : a.block = l
    · exfalso
      unfold World.cell? at ha
      rw [e, hl] at ha
      cases o <;> simp_all [Obj.isCells]
    · exact (World.cell?_of_block (World.putObj_heap_other e)).trans ha
  exact ⟨fun c hc => keep _ _ (h.1 c hc), fun i hi => ⟨keep _ _ (h.2 i hi).1, keep _ _ (h.2 i hi).2⟩⟩
theorem Tabs.set {w : World} (h : Tabs w) {a : Addr} (ha : 1 < a.block) (v : Value) : Tabs (w.setCell a v) := by
  have keep : ∀ (b : Addr) (u : Value), b.block ≤ 1 → w.cell? b = some u → (w.setCell a v).cell? b = some u := fun b u hb hu =>
    (World.cell?_setCell_other w a b v (fun e => by subst e; omega)).trans hu
  exact ⟨fun c hc => keep _ _ (by simp) (h.1 c hc), fun i hi => ⟨keep _ _ (by simp) (h.2 i hi).1, keep _ _ (by simp) (h.2 i hi).2⟩⟩

/-- What is left of a string behind what stands at its front. -/
def cut (r : ByteArray) : ByteArray := r.extract (nx r.data.toList).2.1 r.size
/-- What the iterator leans on: its box holds what is left; the tables. -/
def ownS (Bs : Nat) (r : ByteArray) (W : World) : Prop := Boxed W Bs 9 (.string r) ∧ Tabs W ∧ r.size ≤ 140737488351232 ∧ 1 < Bs
def advS (Bs : Nat) (r : ByteArray) (W : World) : World := W.setCell ⟨Bs, 0, none⟩ (.string (cut r))

/-- How much is left, read off the world. -/
def leftS (Bs : Nat) (W : World) : Nat := match W.cell? ⟨Bs, 0, none⟩ with | some (.string r) => r.size | _ => 0
theorem leftS_eq {Bs : Nat} {W : World} {r : ByteArray} (h : Boxed W Bs 9 (.string r)) : leftS Bs W = r.size := by
  unfold leftS
  rw [h.cell]

abbrev WF : Fence := Fence.wide

set_option maxRecDepth 100000 in
set_option maxHeartbeats 2000000 in
theorem all1_iter (n : Nat) (hn : 1 ≤ n) (Bs : Nat) :
    Iter WF n Tryd.prog 30 #[.pointer (some ⟨Bs, 0, none⟩)] (fun r : ByteArray => #[.int .i32 (nx r.data.toList).1, .bool (nx r.data.toList).2.2]) (fun r => r.size = 0) cut (ownS Bs) (advS Bs) := by
  intro l J Jx r0 W hJo hJg hY h0
  refine callsIn_of_wp Tryd.func30 rfl trivial ?_ rfl
  simp only [Tryd.ntmps30, List.size_toArray, List.length_cons, List.length_nil, Nat.reduceAdd, Nat.reduceSub, Array.replicate_succ, Array.replicate_zero, List.push_toArray, List.append_toArray, List.nil_append, List.cons_append]
  gi_wp2
  gi_loopw [3] (fun _ wr => ∃ r, J r wr) (fun _ wr => leftS Bs wr)
  case atStart => exact ⟨r0, h0⟩
  case round =>
    obtain ⟨r, hJ⟩ := hrel
    obtain ⟨hb, hT, hsz, hlt⟩ := hJo r wr hJ
    have hc := hb.cell
    have HL := Lib.hid (leftS_eq hb)
    by_cases hr : r.size = 0
    · have hne : r.toList.isEmpty = true := by
        rw [Lib.toList_data, List.eq_nil_of_length_eq_zero (show r.data.toList.length = 0 from hr)]
        rfl
      have Hr := Lib.hid hr
      clear hr
      gi_wp2
      go_end0
      exact ⟨⟨_, rfl⟩, .inl ⟨r, Hr.out, hJ⟩⟩
    · have hne : r.toList.isEmpty = false := by
        rw [Lib.toList_data]
        cases h : r.data.toList with
        | nil => exact absurd (show r.data.toList.length = 0 by rw [h]; rfl) hr
        | cons _ _ => rfl
      have hnx := nx_le (ne_nil_of_pos (s := r) (by omega))
      rw [length_toList] at hnx
      obtain ⟨hnx1, hnx2⟩ := hnx
      gi_wp2_with (refine ⟨trivial, ?_⟩; gi_at_call 14; refine (callsIn_wide.2 (next_any r hsz _ hT)).mono ?_; rintro e w1 ⟨rfl, hbw⟩; have hJ1 := hJg r wr w1 hJ hbw; obtain ⟨fn, tmps, assign, body, hy, hR⟩ := hY r w1 hJ1 hr; (try dsimp only at hy); obtain ⟨hb1, _, _, _⟩ := hJo r w1 hJ1; have hc1 := hb1.cell)
      refine hR.mono ?_
      rintro e W3 (⟨rfl, ⟨hb3, hT3, _, _⟩, hJ3⟩ | ⟨rfl, hJx3⟩)
      · have hc3 := hb3.cell
        have hf3 := hb3.frozen
        gi_wp2
        have hb4 := hb3.set (.string (cut r))
        refine ⟨⟨cut r, hJ3⟩, ?_⟩
        rw [HL.out]
        refine Nat.lt_of_le_of_lt (Nat.le_of_eq (leftS_eq hb4)) ?_
        show (r.extract (nx r.data.toList).2.1 r.size).size < r.size
        simp
        omega
      · gi_wp2
        refine bodyPost_ret (results_none rfl _ _ _) rfl ?_
        exact ⟨⟨_, rfl⟩, .inr ⟨r, hJx3⟩⟩
end Go.Proofs.YtlkphbcdgkjnoaaDoor
