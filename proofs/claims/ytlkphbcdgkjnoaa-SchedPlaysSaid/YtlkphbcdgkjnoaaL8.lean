/- SchedPlays' parts: does as a whole; a copy is gone on with. -/
import Derived.Test.YtlkphbcdgkjnoaaL7
namespace Go.Proofs.Ytlkphbcdgkjnoaa
open Go.RowKit Go.Maps

theorem does_any {B c s r : Nat} {w : World} {st : St} (h : Pair B c w s r st) (hc : c ≤ 1000) (hBw : B ≤ w.heap.size) (d : Int) {id n : Int} (hid : (Lit.int .u64 id).wf = true) (hn0 : 0 ≤ n) (hn1 : n < 18446744073709551616) :
    Calls Try.prog 16 #[ptr s, ptr r, .agg #[.int .i64 d, .int .u64 id, .int .u64 n]] w (DoesEnds B (c + 1) w s r) := by
  by_cases h0 : d = 0
  · subst h0; exact does_0 h hc hBw hid hn1
  by_cases h2 : d = 2
  · subst h2; exact does_2 h hc hBw hid hn1
  by_cases h3 : d = 3
  · subst h3; exact does_3 h hc hBw hid hn1
  by_cases h4 : d = 4
  · subst h4; exact does_4 h hc hBw hid hn1
  by_cases h5 : d = 5
  · subst h5; exact does_5 h hc hBw hn1
  by_cases h6 : d = 6
  · subst h6; exact does_6 h hc hBw hid hn1
  exact does_p h hc hBw hn0 hn1 (beq_eq_false_iff_ne.2 h0) (beq_eq_false_iff_ne.2 h2) (beq_eq_false_iff_ne.2 h3) (beq_eq_false_iff_ne.2 h4) (beq_eq_false_iff_ne.2 h5) (beq_eq_false_iff_ne.2 h6)
theorem stands_pair {B c s r : Nat} {w : World} {st : St} (h : Pair B c w s r st) (hc : c ≤ 1000) : Calls Try.prog 17 #[ptr s, ptr r] w fun e w' => e = .returned (.bool true) ∧ Below w.heap.size w w' := by
  obtain ⟨O, P, hS, hR, _⟩ := h
  have hl : st.l.length ≤ 1000 := by obtain ⟨va, mb, vt, n, _, _, _, I, _⟩ := hS; have := I.len; omega
  exact stands_any hS hR hc hl

theorem Mem.base {B B' : Nat} {W : World} {s mb n : Nat} {va vt : Value} {st : St} (h : Mem B W s va mb vt n st) (hb : B' ≤ B) : Mem B' W s va mb vt n st :=
  ⟨h.str, row_mono h.all hb, row_mono h.tim hb, h.rows, h.map, h.tasks, h.apart, Nat.le_trans hb h.hs, Nat.le_trans hb h.hm, fun t ht => Nat.le_trans hb (h.ht t ht)⟩
theorem RMem.base {B B' : Nat} {W : World} {r : Nat} {rv : Value} {pat now : Int} {L : List R} (h : RMem B W r rv pat now L) (hb : B' ≤ B) : RMem B' W r rv pat now L := ⟨h.str, row_mono h.row hb, Nat.le_trans hb h.hr⟩

section
variable {B c s r : Nat} {w : World} {st : St} {O P : Nat → Prop}
/-- How a copy ends. -/
def CopyEnds (B c : Nat) (w : World) (st : St) (e : Ending) (w' : World) : Prop := ∃ s' st', e = .returned (ptr s') ∧ Sch B c w' s' st' (fun k => w.heap.size ≤ k) ∧ st'.pat = st.pat ∧ st'.now = st.now ∧ st'.l.map T.r = st.l.map T.r ∧ Below w.heap.size w w'
theorem copy_s (hS : Sch B c w s st O) (hc : c ≤ 1000) (hBw : B ≤ w.heap.size) : Calls Try.prog 14 #[ptr s] w (CopyEnds B c w st) := by
  obtain ⟨va, mb, vt, n, hM, hG, hn, I, hO⟩ := hS
  have hl := I.len
  refine (copy_full hM I.ids I.wf (by omega)).mono ?_
  rintro e w' ⟨s', va', mb', vt', l', hp', rfl, hM', hG', hnb, hB⟩
  exact ⟨s', _, rfl, ⟨va', mb', vt', _, hM'.base hBw, hG', hl, I.copy hnb hp', fun k hk => (hM'.own_lt hk).1⟩, rfl, rfl, nb_r hnb, hB⟩
def RCopyEnds (B : Nat) (w : World) (st : St) (e : Ending) (w' : World) : Prop := ∃ r', e = .returned (ptr r') ∧ RSch B w' r' st (fun k => w.heap.size ≤ k) ∧ Below w.heap.size w w'
theorem copy_r (hR : RSch B w r st P) (hl : st.l.length ≤ 1000) (hBw : B ≤ w.heap.size) : Calls Try.prog 15 #[ptr r] w (RCopyEnds B w st) := by
  obtain ⟨rv, hRM, hP⟩ := hR
  refine (rcopy_any hRM (by rw [List.length_map]; omega)).mono ?_
  rintro e w' ⟨r', rv', rfl, hR', hB⟩
  exact ⟨r', rfl, ⟨rv', hR'.base hBw, fun k hk => (hR'.own_lt hk).1⟩, hB⟩
/-- What a scheduler that is left behind may still turn. -/
def Xs (N : Nat) (O : Nat → Prop) (k : Nat) : Prop := O k ∨ N ≤ k
def Spoilt (B c s : Nat) (w : World) (N : Nat) (O : Nat → Prop) (e : Ending) (w' : World) : Prop := (∃ v, e = .returned v) ∧ (∃ st', Sch B (c + 1) w' s st' (Xs N O)) ∧ Fr (Xs N O) w w'
theorem up_xs {N : Nat} (hN : N ≤ w.heap.size) : ∀ k, Up (Xs N O) w k → Xs N O k := fun k hk => hk.elim id (fun h => .inr (by omega))
theorem spoil_pick {N : Nat} (hS : Sch B c w s st (Xs N O)) (hc : c ≤ 1000) (hN : N ≤ w.heap.size) : Calls Try.prog 10 #[ptr s, .int .u64 0] w (Spoilt B c s w N O) := by
  obtain ⟨y, z, st', hf, _⟩ := pick_twin (r := 0) hS hc (Int.le_refl 0) (by decide)
  refine hf.mono ?_
  rintro e w' ⟨rfl, hS', hF⟩
  exact ⟨⟨_, rfl⟩, ⟨st', hS'.wide (fun k _ _ x => up_xs hN k x)⟩, hF⟩
theorem spoil_add {N : Nat} (hS : Sch B c w s st (Xs N O)) (hc : c ≤ 1000) (hBw : B ≤ w.heap.size) (hN : N ≤ w.heap.size) {id : Int} (hid : (Lit.int .u64 id).wf = true) : Calls Try.prog 9 #[ptr s, .int .u64 id] w (Spoilt B c s w N O) := by
  obtain ⟨z, st', hf, _⟩ := add_twin (r := 0) hS hc hBw hid
  refine hf.mono ?_
  rintro e w' ⟨rfl, ⟨hp', hS'⟩, hF⟩
  exact ⟨⟨_, rfl⟩, ⟨_, hS'.wide (fun k _ _ x => up_xs hN k x)⟩, hF⟩
theorem spoil_until {N : Nat} (hS : Sch B c w s st (Xs N O)) (hc : c ≤ 1000) (hBw : B ≤ w.heap.size) (hN : N ≤ w.heap.size) {id z : Int} (hid : (Lit.int .u64 id).wf = true) (hz : z < 18446744073709551616) : Calls Try.prog 11 #[ptr s, .int .u64 id, .int .u64 z] w (Spoilt B c s w N O) := by
  obtain ⟨y, st', hf, _⟩ := until_twin (r := 0) hS hc hBw hid hz
  refine hf.mono ?_
  rintro e w' ⟨rfl, ⟨hp', hS'⟩, hF⟩
  exact ⟨⟨_, rfl⟩, ⟨_, hS'.wide (fun k _ _ x => up_xs hN k x)⟩, hF⟩
end

theorem new_bad (p : Int) (hp : p < 1) (w : World) : Calls Try.prog 8 #[.int .i64 p] w fun e w' => e = .returned (.tuple #[.pointer none, .int .i64 2]) ∧ w = w' := by
  go_enter Try.func8, Try.ntmps8
  go_wp2
  go_ret2
  exact ⟨rfl, rfl⟩

/-- A call that came in. -/
structure Stp where
  d : Int
  id : Int
  n : Int
/-- A row of calls that came in. -/
def ReadsS (w : World) (B : Nat) (A : Option Addr) (xs : List Stp) : Prop := ∀ k x, xs[k]? = some x → ∃ b o, A = some ⟨b, o, none⟩ ∧ b < B ∧ (w.cell? ⟨b, o + k * 3, none⟩ = some (.int .i64 x.d) ∧ w.cell? ⟨b, o + k * 3 + 1, none⟩ = some (.int .u64 x.id) ∧ w.cell? ⟨b, o + k * 3 + 2, none⟩ = some (.int .u64 x.n)) ∧ (Lit.int .u64 x.id).wf = true ∧ 0 ≤ x.n ∧ x.n < 18446744073709551616
theorem ReadsS.below {w w' : World} {B : Nat} {A : Option Addr} {xs : List Stp} (h : ReadsS w B A xs) (hb : Below B w w') : ReadsS w' B A xs := fun k x hx => by
  obtain ⟨b, o, h1, h2, ⟨h3, h4, h5⟩, h6⟩ := h k x hx
  have e : ∀ j, w'.cell? ⟨b, j, none⟩ = w.cell? ⟨b, j, none⟩ := fun j => hb.cell (p := ⟨b, j, none⟩) h2
  exact ⟨b, o, h1, h2, ⟨(e _).trans h3, (e _).trans h4, (e _).trans h5⟩, h6⟩
end Go.Proofs.Ytlkphbcdgkjnoaa
