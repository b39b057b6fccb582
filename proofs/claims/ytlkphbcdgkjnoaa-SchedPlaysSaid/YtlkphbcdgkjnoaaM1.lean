/- Blocks of several cells; the map from ids to handlers. What stands in memory, and what keeps it. -/
import Derived.Test.YtlkphbcdgkjnoaaRows
import Derived.Test.YtlkphbcdgkjnoaaIt
import Derived.WalkKit
import Derived.WalkSpells
import Derived.WalkLawsBesides
import Derived.RangeFuncBox
import Derived.Lib.Hide
import Derived.Maps.OwnOps
import Derived.Maps.OwnSet
import Derived.Maps.Views
namespace Go.Proofs.Ytlkphbcdgkjnoaa
open Go.RowKit Go.Maps

/-- A block of several cells, none of them frozen. -/
def Blk (W : World) (b : Nat) (t : TypeId) (vs : Array Value) : Prop := W.heap[b]? = some (.cells vs t (0, 0))
theorem Blk.lt {W : World} {b : Nat} {t : TypeId} {vs : Array Value} (h : Blk W b t vs) : b < W.heap.size := (Array.getElem?_eq_some_iff.1 h).1
theorem Blk.cell {W : World} {b : Nat} {t : TypeId} {vs : Array Value} (h : Blk W b t vs) (k : Nat) {v : Value} (hv : vs[k]? = some v) : W.cell? ⟨b, k, none⟩ = some v := by
  simp [World.cell?, show W.heap[b]? = _ from h, hv]
theorem Blk.frozen {W : World} {b : Nat} {t : TypeId} {vs : Array Value} (h : Blk W b t vs) (k : Nat) : W.frozen? ⟨b, k, none⟩ = false := by simp [World.frozen?, show W.heap[b]? = _ from h]
theorem Blk.new (W : World) (t : TypeId) (vs : Array Value) : Blk (W.alloc (.cells vs t)) W.heap.size t vs := World.alloc_heap_new W _
theorem Blk.kept {W W' : World} {row : Option Nat} {b : Nat} {t : TypeId} {vs : Array Value} (h : Blk W b t vs) (hg : W.grownBy W' row) (hne : some b ≠ row) : Blk W' b t vs := (hg.block b h.lt hne).trans h
theorem Blk.alloc {W : World} {b : Nat} {t : TypeId} {vs : Array Value} (h : Blk W b t vs) (o : Obj) : Blk (W.alloc o) b t vs := h.kept (World.grownBy_alloc W o none) (by simp)
theorem Blk.set {W : World} {b : Nat} {t : TypeId} {vs : Array Value} (h : Blk W b t vs) (k : Nat) (v : Value) : Blk (W.setCell ⟨b, k, none⟩ v) b t (vs.setIfInBounds k v) := by
  obtain ⟨hlt, hk⟩ := Array.getElem?_eq_some_iff.1 h
  show (W.heap.modify b _)[b]? = _
  rw [Array.getElem?_eq_getElem (by rw [Array.size_modify]; exact hlt), Array.getElem_modify_self, hk]
  rfl
theorem grownBy_set (W : World) (b k : Nat) (v : Value) : W.grownBy (W.setCell ⟨b, k, none⟩ v) (some b) :=
  ⟨rfl, rfl, rfl, (KeepsWalks.setCell W _ v).size, fun j _ hj => Below.heap_setCell _ _ _ j (fun e => hj (by rw [e]))⟩
theorem Blk.other {W : World} {b : Nat} {t : TypeId} {vs : Array Value} (h : Blk W b t vs) {c : Nat} (hc : b ≠ c) (k : Nat) (v : Value) : Blk (W.setCell ⟨c, k, none⟩ v) b t vs := h.kept (grownBy_set W c k v) (by simpa using hc)
theorem Blk.not_row {W : World} {B : Nat} {t e : TypeId} {vs : Array Value} (h : Blk W B t vs) (hte : t ≠ e) {base size k : Nat} {v : Value} {xs : List Value} (hr : W.ownsRow base e size v k xs) : some B ≠ v.ownBlock := by
  rcases hr.2 with ⟨rfl, _⟩ | ⟨g, cap, cur, rfl, _, hgb, _⟩
  · simp [Value.ownBlock]
  · intro e'
    obtain rfl : B = g := by simpa [Value.ownBlock] using e'
    have := (show W.heap[B]? = _ from h).symm.trans hgb
    simp at this
    exact hte this.2
theorem Blk.ne {W : World} {b c : Nat} {t u : TypeId} {vs us : Array Value} (h : Blk W b t vs) (h' : Blk W c u us) (hne : t ≠ u) : b ≠ c := by
  rintro rfl
  have := (show W.heap[b]? = _ from h).symm.trans h'
  simp at this
  exact hne this.2

/-- A pointer to a block. -/
abbrev ptr (b : Nat) : Value := .pointer (some ⟨b, 0, none⟩)
/-- How a pointer in the map is read: as the number of its block; nil: -1. -/
def ptrElem (v : Value) : Option (DataW Unit × List MemPlace) :=
  match v with
  | .pointer none => some (.lit (.int .i64 (-1)), [])
  | .pointer (some ⟨b, 0, none⟩) => some (.lit (.int .i64 b), [])
  | _ => none
/-- The pointer that is read as a number. -/
def ptrOf (z : Int) : Value := if z = -1 then .pointer none else ptr z.toNat
theorem ptrElem_inv {v : Value} {z : Int} {ps : List MemPlace} (h : ptrElem v = some (.lit (.int .i64 z), ps)) : v = ptrOf z := by
  unfold ptrElem at h
  split at h
  · simp at h
    obtain ⟨rfl, _⟩ := h
    rfl
  · rename_i b
    simp at h
    obtain ⟨rfl, _⟩ := h
    unfold ptrOf
    rw [if_neg (by omega)]
    simp
  · cases h

theorem Try.und29 : Try.prog.underlying 29 = some (.int .u64) := by kernel_rfl
theorem Try.und55 : Try.prog.underlying 55 = some (.map 29 60) := by kernel_rfl
theorem Try.und56 : Try.prog.underlying 56 = some (.slice 60) := by kernel_rfl
theorem Try.und57 : Try.prog.underlying 57 = some (.slice 60) := by kernel_rfl
theorem Try.inf60 : (Try.prog.info? 60).map (fun i => (i.zero, i.size, i.bytes)) = some (some (.pointer none), 1, 8) := by kernel_rfl
theorem zero60 (w : World) : (zeroValue 60).run Try.prog w = .ok (.pointer none) w := by kernel_rfl
theorem law29 : Keyed Try.prog 29 := int_keyed Try.und29

/-- A handler. -/
structure T where
  b : Nat
  id : Int
  ord : Int
  asleep : Bool
  timed : Bool
  at_ : Int
  age : Int
def T.vals (t : T) : Array Value := #[.int .u64 t.id, .int .u64 t.ord, .bool t.asleep, .bool t.timed, .int .u64 t.at_, .int .i64 t.age]

/-- Where the handler with an id lies; -1: there is none. -/
def blkOf (l : List T) (id : Int) : Int := match l.find? (fun t => t.id == id) with | some t => t.b | none => -1

/-- The map from ids to handlers. -/
def ById (W : World) (mb n : Nat) (l : List T) : Prop :=
  ∃ D, W.ownsMap Try.prog 29 ptrElem mb n D ∧ IsMap D ∧ ∀ id, (Lit.int .u64 id).wf = true → D.atKey (.int .u64 id) (.lit (.int .i64 (-1))) = .lit (.int .i64 (blkOf l id))

theorem ById.lookup {W : World} {mb n : Nat} {l : List T} (h : ById W mb n l) {id : Int} (hid : (Lit.int .u64 id).wf = true) : (Instr.lookup 55 (.map (some mb)) (.int .u64 id) false).run Try.prog W = .ok (ptrOf (blkOf l id)) W := by
  obtain ⟨D, hown, _, hat⟩ := h
  obtain ⟨v, ps, hrun, hv⟩ := hown.lookup law29 Try.und55 (zero60 W) (zd := .lit (.int .i64 (-1))) (zp := []) rfl (keyOf_int_mk Try.und29 hid)
  rw [hat id hid] at hv
  rw [← ptrElem_inv hv]
  exact hrun
theorem ById.kept {W W' : World} {row : Option Nat} {mb n : Nat} {l : List T} (h : ById W mb n l) (hg : W.grownBy W' row) (hne : some mb ≠ row) : ById W' mb n l := by
  obtain ⟨D, h1, h2, h3⟩ := h
  exact ⟨D, h1.kept hg hne, h2, h3⟩
theorem ById.alloc {W : World} {mb n : Nat} {l : List T} (h : ById W mb n l) (o : Obj) : ById (W.alloc o) mb n l := h.kept (World.grownBy_alloc W o none) (by simp)
theorem ById.lt {W : World} {mb n : Nat} {l : List T} (h : ById W mb n l) : mb < W.heap.size := by obtain ⟨D, h1, _⟩ := h; exact h1.lt
theorem ById.made (W : World) : ById (W.alloc (.map #[] 0)) W.heap.size 0 [] :=
  ⟨_, World.ownsMap_made W Try.prog 29 ptrElem, isMap_empty, fun _ _ => rfl⟩
theorem ById.ne {W : World} {mb n b : Nat} {l : List T} {t : TypeId} {vs : Array Value} (h : ById W mb n l) (hb : Blk W b t vs) : b ≠ mb := by
  rintro rfl
  obtain ⟨D, ⟨es, clock, h1, _⟩, _⟩ := h
  have := (show W.heap[b]? = _ from hb).symm.trans h1
  cases this
theorem ById.not_row {W : World} {mb n : Nat} {l : List T} (h : ById W mb n l) {base size k e : Nat} {v : Value} {xs : List Value} (hr : W.ownsRow base e size v k xs) : some mb ≠ v.ownBlock := by
  rcases hr.2 with ⟨rfl, _⟩ | ⟨g, cap, cur, rfl, _, hgb, _⟩
  · simp [Value.ownBlock]
  · intro e'
    obtain rfl : mb = g := by simpa [Value.ownBlock] using e'
    exact h.ne (show Blk W mb e cur from hgb) rfl

theorem isKey_u64 {id : Int} (hid : (Lit.int .u64 id).wf = true) : WideAt.IsKeyLit (.int .u64 id) := law29.key (keyOf_int_mk Try.und29 hid)

/-- The walk over a store into the map whose run is known. -/
theorem ById.store {W : World} {mb n : Nat} {l : List T} (h : ById W mb n l) (hn : n < maxLen) (t : T) (hid : (Lit.int .u64 t.id).wf = true) (hnew : blkOf l t.id = -1) :
    ∃ W', (Instr.mapUpdate 55 (.map (some mb)) (.int .u64 t.id) (ptr t.b)).run Try.prog W = .ok () W' ∧ ById W' mb (n + 1) (l ++ [t]) ∧ W.grownBy W' (some mb) := by
  obtain ⟨D, h1, h2, h3⟩ := h
  obtain ⟨W', hrun, hown, hg⟩ := h1.update law29 Try.und55 hn (keyOf_int_mk Try.und29 hid) (val := ptr t.b) (d := .lit (.int .i64 t.b)) (ps := []) rfl
  refine ⟨W', hrun, ⟨_, hown, h2.put _ _, fun id' hid' => ?_⟩, hg⟩
  by_cases e : id' = t.id
  · subst e
    rw [atKey_put_same h2 (isKey_u64 hid)]
    have hf : l.find? (fun u => u.id == t.id) = none := by
      unfold blkOf at hnew
      split at hnew
      · omega
      · assumption
    simp [blkOf, List.find?_append, hf]
  · rw [atKey_put_other (by intro e'; cases e'; exact e rfl), h3 id' hid']
    have : (t.id == id') = false := by simpa using fun h => e h.symm
    simp [blkOf, List.find?_append, this]

/-- The walk over a store into a map whose run is known. -/
theorem wpList_mapUpdate_run {P : Program} {ops : Array Oper} {rest : List Oper} {o : Oper} {a : Act} {Q : Exit → Act → World → Prop} {w : World}
    (hg : o.guard = none) (m x v : Operand) (t : TypeId) (hop : o.op = Op.mapUpdate t m x v) (vm vx vv : Value) (hm : a.eval m = vm) (hx : a.eval x = vx) (hv : a.eval v = vv) {w' : World}
    (hrun : (Instr.mapUpdate t vm vx vv).run P w = .ok () w') (hK : wpList P ops Q rest (a.put o.dst undef) w') :
    wpList P ops Q (o :: rest) a w := by
  refine wpList_plain hg fun K' hK' => ?_
  unfold Oper.wp
  simp [execOp, hop, hm, hx, hv, hrun, Result.andThen]
  exact hK' _ _ hK
end Go.Proofs.Ytlkphbcdgkjnoaa
