/- The scheduler in memory; none, New, find and Add: what each call returns and what it turns. -/
import Derived.Test.YtlkphbcdgkjnoaaM1
import Derived.Maps.AppendAt
namespace Go.Proofs.Ytlkphbcdgkjnoaa
open Go.RowKit Go.Maps

/-- A scheduler, in plain words: its handlers in their order, and the heap by blocks. -/
structure St where
  pat : Int
  now : Int
  ord : Int
  l : List T
  hp : List Nat

structure Mem (B : Nat) (W : World) (s : Nat) (va : Value) (mb : Nat) (vt : Value) (n : Nat) (st : St) : Prop where
  str : Blk W s 59 #[.int .i64 st.pat, .int .u64 st.now, .int .u64 st.ord, va, .map (some mb), vt]
  all : W.ownsRow B 60 1 va st.l.length (st.l.map fun t => ptr t.b)
  tim : W.ownsRow B 60 1 vt st.hp.length (st.hp.map ptr)
  rows : ∀ k, va.ownBlock = some k → vt.ownBlock ≠ some k
  map : ById W mb n st.l
  tasks : ∀ t ∈ st.l, Blk W t.b 62 t.vals
  apart : st.l.Pairwise fun t u => t.b ≠ u.b
  hs : B ≤ s
  hm : B ≤ mb
  ht : ∀ t ∈ st.l, B ≤ t.b

theorem Mem.kept {B : Nat} {W W' : World} {s mb n : Nat} {va vt : Value} {st : St} (h : Mem B W s va mb vt n st) {row : Option Nat} (hg : W.grownBy W' row)
    (h1 : some s ≠ row) (h2 : va.ownBlock = none ∨ va.ownBlock ≠ row) (h3 : vt.ownBlock = none ∨ vt.ownBlock ≠ row) (h4 : some mb ≠ row) (h5 : ∀ t ∈ st.l, some t.b ≠ row) : Mem B W' s va mb vt n st :=
  ⟨h.str.kept hg h1, h.all.kept hg h2, h.tim.kept hg h3, h.rows, h.map.kept hg h4, fun t ht => (h.tasks t ht).kept hg (h5 t ht), h.apart, h.hs, h.hm, h.ht⟩
theorem Mem.grown {B : Nat} {W W' : World} {s mb n : Nat} {va vt : Value} {st : St} (h : Mem B W s va mb vt n st) (hg : W.grownBy W' none) : Mem B W' s va mb vt n st :=
  h.kept hg (by simp) (by cases va.ownBlock <;> simp) (by cases vt.ownBlock <;> simp) (by simp) (fun _ _ => by simp)
theorem Mem.alloc {B : Nat} {W : World} {s mb n : Nat} {va vt : Value} {st : St} (h : Mem B W s va mb vt n st) (o : Obj) : Mem B (W.alloc o) s va mb vt n st := h.grown (World.grownBy_alloc W o none)

theorem Blk.six {W : World} {b t : Nat} {v0 v1 v2 v3 v4 v5 : Value} (h : Blk W b t #[v0, v1, v2, v3, v4, v5]) :
    W.cell? ⟨b, 0, none⟩ = some v0 ∧ W.cell? ⟨b, 1, none⟩ = some v1 ∧ W.cell? ⟨b, 2, none⟩ = some v2 ∧ W.cell? ⟨b, 3, none⟩ = some v3 ∧ W.cell? ⟨b, 4, none⟩ = some v4 ∧ W.cell? ⟨b, 5, none⟩ = some v5 :=
  ⟨h.cell 0 rfl, h.cell 1 rfl, h.cell 2 rfl, h.cell 3 rfl, h.cell 4 rfl, h.cell 5 rfl⟩
theorem ptrOf_neg : ptrOf (-1) = .pointer none := rfl
theorem ptrOf_nat (b : Nat) : ptrOf b = .pointer (some ⟨b, 0, none⟩) := by
  unfold ptrOf
  rw [if_neg (by omega)]
  simp

theorem row_form {W : World} {base e size n : Nat} {v : Value} {xs : List Value} (h : W.ownsRow base e size v n xs) : ∃ A cap, v = .slice A n cap := by
  rcases h.2 with ⟨rfl, rfl⟩ | ⟨g, cap, _, rfl, _⟩
  · exact ⟨none, 0, rfl⟩
  · exact ⟨_, _, rfl⟩

theorem none_any {w : World} {s mb : Nat} {a b c d e : Value} (h : Blk w s 59 #[a, b, c, d, .map (some mb), e]) :
    Calls Try.prog 24 #[ptr s] w fun e w' => e = .returned (.bool false) ∧ w = w' := by
  have c4 := h.cell 4 (v := .map (some mb)) rfl
  have hmn := fun w => run_eql_map_nil (P := Try.prog) w 55 29 60 (some mb) Try.und55
  go_enter Try.func24, Try.ntmps24
  go_wp2
  go_ret
  exact ⟨rfl, rfl⟩
theorem none_nil (w : World) : Calls Try.prog 24 #[.pointer none] w fun e w' => e = .returned (.bool true) ∧ w = w' := by
  go_enter Try.func24, Try.ntmps24
  go_wp2
  go_ret
  exact ⟨rfl, rfl⟩

/-- A scheduler of nobody. -/
def st0 (p : Int) : St := ⟨p, 0, 0, [], []⟩
theorem new_any (p : Int) (hp : 1 ≤ p) (w : World) :
    Calls Try.prog 8 #[.int .i64 p] w fun e w' => ∃ s mb, e = .returned (.tuple #[ptr s, .int .i64 0]) ∧ Mem w.heap.size w' s (.slice none 0 0) mb (.slice none 0 0) 0 (st0 p) ∧ Below w.heap.size w w' := by
  have hmm := @run_makeMap Try.prog
  go_enter Try.func8, Try.ntmps8
  go_wp2
  go_ret2
  have hm := ById.made w
  have hB := ((Below.refl _ w).alloc (Nat.le_refl _) (.map #[] 0)).alloc (by simp) (.cells #[.int .i64 p, .int .u64 0, .int .u64 0, .slice none 0 0, .map (some w.heap.size), .slice none 0 0] 59)
  refine ⟨w.heap.size + 1, w.heap.size, rfl, ⟨?_, World.ownsRow_nil _ _ _ _, World.ownsRow_nil _ _ _ _, fun k hk => by simp [Value.ownBlock] at hk, hm.alloc _, fun t ht => by simp [st0] at ht, by simp [st0], by omega, Nat.le_refl _, fun t ht => by simp [st0] at ht⟩, hB⟩
  have := Blk.new (w.alloc (.map #[] 0)) 59 #[.int .i64 p, .int .u64 0, .int .u64 0, .slice none 0 0, .map (some w.heap.size), .slice none 0 0]
  rw [World.size_alloc] at this
  exact this

theorem find_some {B : Nat} {w : World} {s mb n : Nat} {va vt : Value} {st : St} (h : Mem B w s va mb vt n st) {id : Int} (hid : (Lit.int .u64 id).wf = true) {b : Nat} (hb : blkOf st.l id = b) :
    Calls Try.prog 26 #[ptr s, .int .u64 id] w fun e w' => e = .returned (.tuple #[ptr b, .int .i64 0]) ∧ w = w' := by
  have hl := h.map.lookup hid
  rw [hb, ptrOf_nat] at hl
  obtain ⟨c0, c1, c2, c3, c4, c5⟩ := h.str.six
  have hN := none_any h.str
  go_enter Try.func26, Try.ntmps26
  go_wp2_with (go_at_call 24; refine hN.mono ?_; rintro e w1 ⟨rfl, rfl⟩)
  go_ret2
  exact ⟨rfl, rfl⟩
theorem find_none {B : Nat} {w : World} {s mb n : Nat} {va vt : Value} {st : St} (h : Mem B w s va mb vt n st) {id : Int} (hid : (Lit.int .u64 id).wf = true) (hb : blkOf st.l id = -1) :
    Calls Try.prog 26 #[ptr s, .int .u64 id] w fun e w' => e = .returned (.tuple #[.pointer none, .int .i64 5]) ∧ w = w' := by
  have hl := h.map.lookup hid
  rw [hb, ptrOf_neg] at hl
  obtain ⟨c0, c1, c2, c3, c4, c5⟩ := h.str.six
  have hN := none_any h.str
  go_enter Try.func26, Try.ntmps26
  go_wp2_with (go_at_call 24; refine hN.mono ?_; rintro e w1 ⟨rfl, rfl⟩)
  go_ret2
  exact ⟨rfl, rfl⟩

theorem add_there {B : Nat} {w : World} {s mb n : Nat} {va vt : Value} {st : St} (h : Mem B w s va mb vt n st) {id : Int} (hid : (Lit.int .u64 id).wf = true) {b : Nat} (hb : blkOf st.l id = b) :
    Calls Try.prog 9 #[ptr s, .int .u64 id] w fun e w' => e = .returned (.int .i64 9) ∧ w = w' := by
  have hl := h.map.lookup hid
  rw [hb, ptrOf_nat] at hl
  obtain ⟨c0, c1, c2, c3, c4, c5⟩ := h.str.six
  have hN := none_any h.str
  go_enter Try.func9, Try.ntmps9
  go_wp2_with (go_at_call 24; refine hN.mono ?_; rintro e w1 ⟨rfl, rfl⟩)
  go_ret
  exact ⟨rfl, rfl⟩

set_option maxRecDepth 100000 in
set_option maxHeartbeats 1000000 in
theorem add_new {B : Nat} {w : World} {s mb n : Nat} {va vt : Value} {st : St} (h : Mem B w s va mb vt n st) {id : Int} (hid : (Lit.int .u64 id).wf = true) (hb : blkOf st.l id = -1) (hlen : st.l.length < 1024) (h0 : 0 ≤ st.ord) (h1 : st.ord ≤ 1000000) (hn : n ≤ 1000000) (hBw : B ≤ w.heap.size) :
    Calls Try.prog 9 #[ptr s, .int .u64 id] w fun e w' => e = .returned (.int .i64 0) ∧ (∃ va', Mem B w' s va' mb vt (n + 1) { st with ord := st.ord + 1, l := st.l ++ [⟨w.heap.size, id, st.ord, false, false, 0, 0⟩] }) ∧ Below B w w' := by
  have hl := h.map.lookup hid
  rw [hb, ptrOf_neg] at hl
  obtain ⟨A, cap, rfl⟩ := row_form h.all
  obtain ⟨c0, c1, c2, c3, c4, c5⟩ := h.str.six
  have hf := fun k => h.str.frozen k
  have hN := none_any h.str
  have hlt := h.str.lt
  have hs := h.hs
  obtain ⟨i0, hi, hz0, hz1, hz2⟩ := info_parts Try.inf60
  -- behind the count
  have g0 := grownBy_set w s 2 (.int .u64 (st.ord + 1))
  have S0 : Blk (w.setCell ⟨s, 2, none⟩ (.int .u64 (st.ord + 1))) s 59 #[.int .i64 st.pat, .int .u64 st.now, .int .u64 (st.ord + 1), .slice A st.l.length cap, .map (some mb), vt] := h.str.set 2 _
  have n1 := h.str.not_row (by decide) h.all
  have n2 := h.str.not_row (by decide) h.tim
  have n3 := h.map.ne h.str
  have A0 := h.all.kept g0 (.inr n1.symm)
  have T0 := h.tim.kept g0 (.inr n2.symm)
  have M0 := h.map.kept g0 (by simpa using n3.symm)
  have K0 : ∀ t ∈ st.l, Blk (w.setCell ⟨s, 2, none⟩ (.int .u64 (st.ord + 1))) t.b 62 t.vals := fun t ht => (h.tasks t ht).other ((h.tasks t ht).ne h.str (by decide)) _ _
  have B0 : Below B w (w.setCell ⟨s, 2, none⟩ (.int .u64 (st.ord + 1))) := (Below.refl B w).setCell (p := ⟨s, 2, none⟩) hs _
  have z0 : (w.setCell ⟨s, 2, none⟩ (.int .u64 (st.ord + 1))).heap.size = w.heap.size := by simp
  -- behind the handler
  have A1 := (A0.alloc (.cells #[.int .u64 id, .int .u64 st.ord, .bool false, .bool false, .int .u64 0, .int .i64 0] 62)).alloc (.cells #[.pointer (some ⟨w.heap.size, 0, none⟩)] 60)
  have T1 := (T0.alloc (.cells #[.int .u64 id, .int .u64 st.ord, .bool false, .bool false, .int .u64 0, .int .i64 0] 62)).alloc (.cells #[.pointer (some ⟨w.heap.size, 0, none⟩)] 60)
  have S1 := (S0.alloc (.cells #[.int .u64 id, .int .u64 st.ord, .bool false, .bool false, .int .u64 0, .int .i64 0] 62)).alloc (.cells #[.pointer (some ⟨w.heap.size, 0, none⟩)] 60)
  have M1 := (M0.alloc (.cells #[.int .u64 id, .int .u64 st.ord, .bool false, .bool false, .int .u64 0, .int .i64 0] 62)).alloc (.cells #[.pointer (some ⟨w.heap.size, 0, none⟩)] 60)
  have K1 := fun t ht => ((K0 t ht).alloc (.cells #[.int .u64 id, .int .u64 st.ord, .bool false, .bool false, .int .u64 0, .int .i64 0] 62)).alloc (.cells #[.pointer (some ⟨w.heap.size, 0, none⟩)] 60)
  have N1 := (Blk.new (w.setCell ⟨s, 2, none⟩ (.int .u64 (st.ord + 1))) 62 #[.int .u64 id, .int .u64 st.ord, .bool false, .bool false, .int .u64 0, .int .i64 0]).alloc (.cells #[.pointer (some ⟨w.heap.size, 0, none⟩)] 60)
  rw [z0] at N1
  have B1 := (B0.alloc (by rw [z0]; exact hBw) (.cells #[.int .u64 id, .int .u64 st.ord, .bool false, .bool false, .int .u64 0, .int .i64 0] 62)).alloc (by simp; omega) (.cells #[.pointer (some ⟨w.heap.size, 0, none⟩)] 60)
  have hnew := cell_one_new ((w.setCell ⟨s, 2, none⟩ (.int .u64 (st.ord + 1))).alloc (.cells #[.int .u64 id, .int .u64 st.ord, .bool false, .bool false, .int .u64 0, .int .i64 0] 62)) (.pointer (some ⟨w.heap.size, 0, none⟩)) 60
  rw [World.size_alloc, z0] at hnew
  have HT := Lib.hid h.tasks
  have z1 : ((((w.setCell ⟨s, 2, none⟩ (.int .u64 (st.ord + 1))).alloc (.cells #[.int .u64 id, .int .u64 st.ord, .bool false, .bool false, .int .u64 0, .int .i64 0] 62)).alloc (.cells #[.pointer (some ⟨w.heap.size, 0, none⟩)] 60))).heap.size = w.heap.size + 2 := by simp
  have hrows := h.rows
  have hapart := h.apart
  have htb : ∀ t ∈ st.l, t.b < w.heap.size := fun t ht => (h.tasks t ht).lt
  have hvt : ∀ k, vt.ownBlock = some k → k < w.heap.size := fun k hk => (h.tim.lt k hk).2
  have hm := h.hm
  have hBt := h.ht
  clear A0 T0 S0 M0 K0 B0 g0 n1 n2
  go_enter Try.func9, Try.ntmps9
  go_wp2_with (first
    | (at_builtin; refine wpList_append_own_at _ rfl _ _ 56 rfl B 60 i0 (.pointer none) 1 8 Try.und56 hi hz0 hz1 hz2 rfl (by decide) _ _ _ rfl A1 ⟨w.heap.size + 1, 0, none⟩ 1 1 [.pointer (some ⟨w.heap.size, 0, none⟩)] rfl rfl hnew (by simp [Value.oneCell']) (by unfold maxLen; omega) (by omega) (by rw [z1]; omega) ?_)
    | (go_at_call 24; refine hN.mono ?_; rintro e w1 ⟨rfl, rfl⟩))
  intro v' w1 hown' hgrow _ hloc
  obtain ⟨g', cap', rfl⟩ := ownsRow_succ hown'
  have n1 := S1.not_row (by decide) A1
  have S2 := S1.kept hgrow n1
  have T2 : w1.ownsRow B 60 1 vt st.hp.length (st.hp.map ptr) := T1.kept hgrow (by
    cases e : vt.ownBlock with
    | none => exact .inl rfl
    | some k => exact .inr (fun e' => hrows k e'.symm e))
  have M2 := M1.kept hgrow (M1.not_row A1)
  have K2 : ∀ t ∈ st.l, Blk w1 t.b 62 t.vals := fun t ht => (K1 t ht).kept hgrow ((K1 t ht).not_row (by decide) A1)
  have N2 := N1.kept hgrow (N1.not_row (by decide) A1)
  have B2 := B1.grown hgrow (by rw [z1]; omega) (fun k hk => (World.ownsRow.lt A1 k hk).1)
  have hrow2 : ∀ k, (Value.slice (some ⟨g', 0, none⟩) (st.l.length + 1) cap').ownBlock = some k → vt.ownBlock ≠ some k := by
    intro k hk hk'
    rcases hloc with e | e
    · exact hrows k (e.symm.trans hk) hk'
    · rw [e] at hk
      have := hvt k hk'
      injection hk with hk
      omega
  -- behind the row's store
  have nS := S2.not_row (by decide) hown'
  have nT := S2.not_row (by decide) T2
  have g2 := grownBy_set w1 s 3 (.slice (some ⟨g', 0, none⟩) (st.l.length + 1) cap')
  have S3 : Blk (w1.setCell ⟨s, 3, none⟩ (.slice (some ⟨g', 0, none⟩) (st.l.length + 1) cap')) s 59 #[.int .i64 st.pat, .int .u64 st.now, .int .u64 (st.ord + 1), .slice (some ⟨g', 0, none⟩) (st.l.length + 1) cap', .map (some mb), vt] := S2.set 3 _
  have A3 := hown'.kept g2 (.inr nS.symm)
  have T3 := T2.kept g2 (.inr nT.symm)
  have M3 := M2.kept g2 (by simpa using n3.symm)
  have K3 : ∀ t ∈ st.l, Blk (w1.setCell ⟨s, 3, none⟩ (.slice (some ⟨g', 0, none⟩) (st.l.length + 1) cap')) t.b 62 t.vals := fun t ht => (K2 t ht).other ((K2 t ht).ne S2 (by decide)) _ _
  have N3 : Blk (w1.setCell ⟨s, 3, none⟩ (.slice (some ⟨g', 0, none⟩) (st.l.length + 1) cap')) w.heap.size 62 _ := N2.other (by omega) _ _
  have B3 := B2.setCell (p := ⟨s, 3, none⟩) hs (.slice (some ⟨g', 0, none⟩) (st.l.length + 1) cap')
  obtain ⟨w3, hrun, M4, g4⟩ := M3.store (by unfold maxLen; omega) ⟨w.heap.size, id, st.ord, false, false, 0, 0⟩ hid hb
  obtain ⟨d0, d1, d2, d3, d4, d5⟩ := S2.six
  have hf2 := fun k => S2.frozen k
  clear c0 c1 c2 c3 c4 c5 hf
  go_wp2_with (at_mapUpdate; refine wpList_mapUpdate_run rfl _ _ _ 55 rfl _ _ _ rfl rfl rfl hrun ?_)
  go_ret
  refine ⟨rfl, ⟨_, S3.kept g4 (by simpa using n3), ?_, T3.kept g4 (M3.not_row T3 |> fun e => .inr e.symm), hrow2, M4, ?_, ?_, hs, hm, ?_⟩, B3.grown g4 (by have := g2.size; have := hgrow.size; rw [z1] at this; omega) (fun k hk => by cases hk; exact hm)⟩
  · have := A3.kept g4 (.inr (M3.not_row A3).symm)
    simpa using this
  · intro t ht
    rcases List.mem_append.1 ht with h' | h'
    · exact (K3 t h').kept g4 (by simpa using (M3.ne (K3 t h')))
    · rw [List.mem_singleton] at h'
      subst h'
      exact N3.kept g4 (by simpa using M3.ne N3)
  · refine List.pairwise_append.2 ⟨hapart, List.pairwise_singleton _ _, fun t ht u hu => ?_⟩
    rw [List.mem_singleton] at hu
    subst hu
    have := htb t ht
    show t.b ≠ w.heap.size
    omega
  · intro t ht
    rcases List.mem_append.1 ht with h' | h'
    · exact hBt t h'
    · rw [List.mem_singleton] at h'
      subst h'
      exact hBw
end Go.Proofs.Ytlkphbcdgkjnoaa
