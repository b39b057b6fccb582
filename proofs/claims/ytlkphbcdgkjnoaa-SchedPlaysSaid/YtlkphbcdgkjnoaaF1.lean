/- What a call leaves alone: frames; Add, with its frame. -/
import Derived.Test.YtlkphbcdgkjnoaaS4
namespace Go.Proofs.Ytlkphbcdgkjnoaa
open Go.RowKit Go.Maps

/-- What lies outside a set of blocks is as it was. -/
structure Fr (O : Nat → Prop) (w w' : World) : Prop where
  os : w'.os = w.os
  tape : w'.tape = w.tape
  output : w'.output = w.output
  size : w.heap.size ≤ w'.heap.size
  block : ∀ k, k < w.heap.size → ¬ O k → w'.heap[k]? = w.heap[k]?
section
variable {O O' : Nat → Prop} {w w1 w2 : World}
theorem Fr.refl (O : Nat → Prop) (w : World) : Fr O w w := ⟨rfl, rfl, rfl, Nat.le_refl _, fun _ _ _ => rfl⟩
theorem Fr.trans (h : Fr O w w1) (h2 : Fr O' w1 w2) (hO : ∀ k, k < w.heap.size → O' k → O k) : Fr O w w2 :=
  ⟨h2.os.trans h.os, h2.tape.trans h.tape, h2.output.trans h.output, Nat.le_trans h.size h2.size, fun k hk hn => (h2.block k (Nat.lt_of_lt_of_le hk h.size) (fun x => hn (hO k hk x))).trans (h.block k hk hn)⟩
theorem Fr.grown (h : Fr O w w1) {row : Option Nat} (g : w1.grownBy w2 row) (hr : ∀ k, row = some k → k < w.heap.size → O k) : Fr O w w2 :=
  ⟨g.os.trans h.os, g.tape.trans h.tape, g.output.trans h.output, Nat.le_trans h.size g.size, fun k hk hn => (g.block k (Nat.lt_of_lt_of_le hk h.size) (fun e => hn (hr k e.symm hk))).trans (h.block k hk hn)⟩
theorem Fr.set (h : Fr O w w1) {b : Nat} (hb : b < w.heap.size → O b) (i : Nat) (v : Value) : Fr O w (w1.setCell ⟨b, i, none⟩ v) :=
  h.grown (grownBy_set w1 b i v) (fun k hk hlt => by cases hk; exact hb hlt)
theorem Fr.alloc (h : Fr O w w1) (o : Obj) : Fr O w (w1.alloc o) := h.grown (World.grownBy_alloc w1 o none) (fun k hk => by cases hk)
theorem Fr.drewN (h : Fr O w w1) (q : Nat) : Fr O w (w1.drewN q) := ⟨h.os, h.tape, h.output, h.size, h.block⟩
theorem Fr.wide (h : Fr O w w1) (hO : ∀ k, O k → O' k) : Fr O' w w1 := ⟨h.os, h.tape, h.output, h.size, fun k hk hn => h.block k hk (fun x => hn (hO k x))⟩
theorem Fr.below {B : Nat} (h : Fr O w w1) (hO : ∀ k, O k → B ≤ k) (hB : B ≤ w.heap.size) : Below B w w1 :=
  ⟨h.os, h.tape, h.output, h.size, fun k hk => h.block k (by omega) (fun x => by have := hO k x; omega)⟩
theorem Fr.of_below (h : Below w.heap.size w w1) (O : Nat → Prop) : Fr O w w1 := ⟨h.os, h.tape, h.output, h.size, fun k hk _ => h.block k hk⟩
end

/-- The blocks of a scheduler. -/
def Own (s : Nat) (va : Value) (mb : Nat) (vt : Value) (l : List T) (k : Nat) : Prop := k = s ∨ k = mb ∨ va.ownBlock = some k ∨ vt.ownBlock = some k ∨ ∃ t ∈ l, t.b = k
theorem Mem.own_lt {B : Nat} {W : World} {s mb n : Nat} {va vt : Value} {st : St} (h : Mem B W s va mb vt n st) {k : Nat} (hk : Own s va mb vt st.l k) : B ≤ k ∧ k < W.heap.size := by
  rcases hk with rfl | rfl | e | e | ⟨t, ht, rfl⟩
  · exact ⟨h.hs, h.str.lt⟩
  · exact ⟨h.hm, h.map.lt⟩
  · exact h.all.lt k e
  · exact h.tim.lt k e
  · exact ⟨h.ht t ht, (h.tasks t ht).lt⟩
theorem ById.same {W W' : World} {mb n : Nat} {l : List T} (h : ById W mb n l) (hb : W'.heap[mb]? = W.heap[mb]?) : ById W' mb n l := by
  obtain ⟨D, ⟨es, clock, h1, h2⟩, h3⟩ := h
  exact ⟨D, ⟨es, clock, hb.trans h1, h2⟩, h3⟩
theorem Mem.same {B : Nat} {W W' : World} {s mb n : Nat} {va vt : Value} {st : St} (h : Mem B W s va mb vt n st) (hb : ∀ k, Own s va mb vt st.l k → W'.heap[k]? = W.heap[k]?) : Mem B W' s va mb vt n st :=
  ⟨(hb s (.inl rfl)).trans h.str, row_same h.all (fun k e => hb k (.inr (.inr (.inl e)))), row_same h.tim (fun k e => hb k (.inr (.inr (.inr (.inl e))))), h.rows, h.map.same (hb mb (.inr (.inl rfl))),
    fun t ht => (hb _ (.inr (.inr (.inr (.inr ⟨t, ht, rfl⟩))))).trans (h.tasks t ht), h.apart, h.hs, h.hm, h.ht⟩
theorem Mem.fr {O : Nat → Prop} {B : Nat} {W W' : World} {s mb n : Nat} {va vt : Value} {st : St} (h : Mem B W s va mb vt n st) (f : Fr O W W') (hO : ∀ k, Own s va mb vt st.l k → ¬ O k) : Mem B W' s va mb vt n st :=
  h.same (fun k hk => f.block k (h.own_lt hk).2 (hO k hk))

set_option maxRecDepth 100000 in
set_option maxHeartbeats 1000000 in
theorem add_full {B : Nat} {w : World} {s mb n : Nat} {va vt : Value} {st : St} (h : Mem B w s va mb vt n st) {id : Int} (hid : (Lit.int .u64 id).wf = true) (hb : blkOf st.l id = -1) (hlen : st.l.length < 1024) (h0 : 0 ≤ st.ord) (h1 : st.ord ≤ 1000000) (hn : n ≤ 1000000) (hBw : B ≤ w.heap.size) :
    Calls Try.prog 9 #[ptr s, .int .u64 id] w fun e w' => e = .returned (.int .i64 0) ∧ (∃ va', Mem B w' s va' mb vt (n + 1) { st with ord := st.ord + 1, l := st.l ++ [⟨w.heap.size, id, st.ord, false, false, 0, 0⟩] } ∧ ∀ k, va'.ownBlock = some k → va.ownBlock = some k ∨ w.heap.size ≤ k) ∧ Fr (Own s va mb vt st.l) w w' := by
  have hl := h.map.lookup hid
  rw [hb, ptrOf_neg] at hl
  obtain ⟨A, cap, rfl⟩ := row_form h.all
  obtain ⟨c0, c1, c2, c3, c4, c5⟩ := h.str.six
  have hf := fun k => h.str.frozen k
  have hN := none_any h.str
  have hlt := h.str.lt
  have hs := h.hs
  obtain ⟨i0, hi, hz0, hz1, hz2⟩ := info_parts Try.inf60
  -- behind the count
  have g0 := grownBy_set w s 2 (.int .u64 (st.ord + 1))
  have S0 : Blk (w.setCell ⟨s, 2, none⟩ (.int .u64 (st.ord + 1))) s 59 #[.int .i64 st.pat, .int .u64 st.now, .int .u64 (st.ord + 1), .slice A st.l.length cap, .map (some mb), vt] := h.str.set 2 _
  have n1 := h.str.not_row (by decide) h.all
  have n2 := h.str.not_row (by decide) h.tim
  have n3 := h.map.ne h.str
  have A0 := h.all.kept g0 (.inr n1.symm)
  have T0 := h.tim.kept g0 (.inr n2.symm)
  have M0 := h.map.kept g0 (by simpa using n3.symm)
  have K0 : ∀ t ∈ st.l, Blk (w.setCell ⟨s, 2, none⟩ (.int .u64 (st.ord + 1))) t.b 62 t.vals := fun t ht => (h.tasks t ht).other ((h.tasks t ht).ne h.str (by decide)) _ _
  have B0 : Fr (Own s (.slice A st.l.length cap) mb vt st.l) w (w.setCell ⟨s, 2, none⟩ (.int .u64 (st.ord + 1))) := (Fr.refl _ w).set (fun _ => .inl rfl) 2 _
  have z0 : (w.setCell ⟨s, 2, none⟩ (.int .u64 (st.ord + 1))).heap.size = w.heap.size := by simp
  -- behind the handler
  have A1 := (A0.alloc (.cells #[.int .u64 id, .int .u64 st.ord, .bool false, .bool false, .int .u64 0, .int .i64 0] 62)).alloc (.cells #[.pointer (some ⟨w.heap.size, 0, none⟩)] 60)
  have T1 := (T0.alloc (.cells #[.int .u64 id, .int .u64 st.ord, .bool false, .bool false, .int .u64 0, .int .i64 0] 62)).alloc (.cells #[.pointer (some ⟨w.heap.size, 0, none⟩)] 60)
  have S1 := (S0.alloc (.cells #[.int .u64 id, .int .u64 st.ord, .bool false, .bool false, .int .u64 0, .int .i64 0] 62)).alloc (.cells #[.pointer (some ⟨w.heap.size, 0, none⟩)] 60)
  have M1 := (M0.alloc (.cells #[.int .u64 id, .int .u64 st.ord, .bool false, .bool false, .int .u64 0, .int .i64 0] 62)).alloc (.cells #[.pointer (some ⟨w.heap.size, 0, none⟩)] 60)
  have K1 := fun t ht => ((K0 t ht).alloc (.cells #[.int .u64 id, .int .u64 st.ord, .bool false, .bool false, .int .u64 0, .int .i64 0] 62)).alloc (.cells #[.pointer (some ⟨w.heap.size, 0, none⟩)] 60)
  have N1 := (Blk.new (w.setCell ⟨s, 2, none⟩ (.int .u64 (st.ord + 1))) 62 #[.int .u64 id, .int .u64 st.ord, .bool false, .bool false, .int .u64 0, .int .i64 0]).alloc (.cells #[.pointer (some ⟨w.heap.size, 0, none⟩)] 60)
  rw [z0] at N1
  have B1 := (B0.alloc (.cells #[.int .u64 id, .int .u64 st.ord, .bool false, .bool false, .int .u64 0, .int .i64 0] 62)).alloc (.cells #[.pointer (some ⟨w.heap.size, 0, none⟩)] 60)
  have hnew := cell_one_new ((w.setCell ⟨s, 2, none⟩ (.int .u64 (st.ord + 1))).alloc (.cells #[.int .u64 id, .int .u64 st.ord, .bool false, .bool false, .int .u64 0, .int .i64 0] 62)) (.pointer (some ⟨w.heap.size, 0, none⟩)) 60
  rw [World.size_alloc, z0] at hnew
  have HT := Lib.hid h.tasks
  have z1 : ((((w.setCell ⟨s, 2, none⟩ (.int .u64 (st.ord + 1))).alloc (.cells #[.int .u64 id, .int .u64 st.ord, .bool false, .bool false, .int .u64 0, .int .i64 0] 62)).alloc (.cells #[.pointer (some ⟨w.heap.size, 0, none⟩)] 60))).heap.size = w.heap.size + 2 := by simp
  have hrows := h.rows
  have hapart := h.apart
  have htb : ∀ t ∈ st.l, t.b < w.heap.size := fun t ht => (h.tasks t ht).lt
  have hvt : ∀ k, vt.ownBlock = some k → k < w.heap.size := fun k hk => (h.tim.lt k hk).2
  have hm := h.hm
  have hBt := h.ht
  clear A0 T0 S0 M0 K0 B0 g0 n1 n2
  go_enter Try.func9, Try.ntmps9
  go_wp2_with (first
    | (at_builtin; refine wpList_append_own_at _ rfl _ _ 56 rfl B 60 i0 (.pointer none) 1 8 Try.und56 hi hz0 hz1 hz2 rfl (by decide) _ _ _ rfl A1 ⟨w.heap.size + 1, 0, none⟩ 1 1 [.pointer (some ⟨w.heap.size, 0, none⟩)] rfl rfl hnew (by simp [Value.oneCell']) (by unfold maxLen; omega) (by omega) (by rw [z1]; omega) ?_)
    | (go_at_call 24; refine hN.mono ?_; rintro e w1 ⟨rfl, rfl⟩))
  intro v' w1 hown' hgrow _ hloc
  obtain ⟨g', cap', rfl⟩ := ownsRow_succ hown'
  have n1 := S1.not_row (by decide) A1
  have S2 := S1.kept hgrow n1
  have T2 : w1.ownsRow B 60 1 vt st.hp.length (st.hp.map ptr) := T1.kept hgrow (by
    cases e : vt.ownBlock with
    | none => exact .inl rfl
    | some k => exact .inr (fun e' => hrows k e'.symm e))
  have M2 := M1.kept hgrow (M1.not_row A1)
  have K2 : ∀ t ∈ st.l, Blk w1 t.b 62 t.vals := fun t ht => (K1 t ht).kept hgrow ((K1 t ht).not_row (by decide) A1)
  have N2 := N1.kept hgrow (N1.not_row (by decide) A1)
  have B2 := B1.grown hgrow (fun k hk _ => .inr (.inr (.inl hk)))
  have hrow2 : ∀ k, (Value.slice (some ⟨g', 0, none⟩) (st.l.length + 1) cap').ownBlock = some k → vt.ownBlock ≠ some k := by
    intro k hk hk'
    rcases hloc with e | e
    · exact hrows k (e.symm.trans hk) hk'
    · rw [e] at hk
      have := hvt k hk'
      injection hk with hk
      omega
  have hloc2 : ∀ k, (Value.slice (some ⟨g', 0, none⟩) (st.l.length + 1) cap').ownBlock = some k → (Value.slice A st.l.length cap).ownBlock = some k ∨ w.heap.size ≤ k := by
    intro k hk
    rcases hloc with e | e
    · exact .inl (e.symm.trans hk)
    · rw [e] at hk
      injection hk with hk
      exact .inr (by omega)
  -- behind the row's store
  have nS := S2.not_row (by decide) hown'
  have nT := S2.not_row (by decide) T2
  have g2 := grownBy_set w1 s 3 (.slice (some ⟨g', 0, none⟩) (st.l.length + 1) cap')
  have S3 : Blk (w1.setCell ⟨s, 3, none⟩ (.slice (some ⟨g', 0, none⟩) (st.l.length + 1) cap')) s 59 #[.int .i64 st.pat, .int .u64 st.now, .int .u64 (st.ord + 1), .slice (some ⟨g', 0, none⟩) (st.l.length + 1) cap', .map (some mb), vt] := S2.set 3 _
  have A3 := hown'.kept g2 (.inr nS.symm)
  have T3 := T2.kept g2 (.inr nT.symm)
  have M3 := M2.kept g2 (by simpa using n3.symm)
  have K3 : ∀ t ∈ st.l, Blk (w1.setCell ⟨s, 3, none⟩ (.slice (some ⟨g', 0, none⟩) (st.l.length + 1) cap')) t.b 62 t.vals := fun t ht => (K2 t ht).other ((K2 t ht).ne S2 (by decide)) _ _
  have N3 : Blk (w1.setCell ⟨s, 3, none⟩ (.slice (some ⟨g', 0, none⟩) (st.l.length + 1) cap')) w.heap.size 62 _ := N2.other (by omega) _ _
  have B3 := B2.set (fun _ => .inl rfl) 3 (.slice (some ⟨g', 0, none⟩) (st.l.length + 1) cap')
  obtain ⟨w3, hrun, M4, g4⟩ := M3.store (by unfold maxLen; omega) ⟨w.heap.size, id, st.ord, false, false, 0, 0⟩ hid hb
  obtain ⟨d0, d1, d2, d3, d4, d5⟩ := S2.six
  have hf2 := fun k => S2.frozen k
  clear c0 c1 c2 c3 c4 c5 hf
  go_wp2_with (at_mapUpdate; refine wpList_mapUpdate_run rfl _ _ _ 55 rfl _ _ _ rfl rfl rfl hrun ?_)
  go_ret
  refine ⟨rfl, ⟨_, ⟨S3.kept g4 (by simpa using n3), ?_, T3.kept g4 (M3.not_row T3 |> fun e => .inr e.symm), hrow2, M4, ?_, ?_, hs, hm, ?_⟩, hloc2⟩, B3.grown g4 (fun k hk _ => by cases hk; exact .inr (.inl rfl))⟩
  · have := A3.kept g4 (.inr (M3.not_row A3).symm)
    simpa using this
  · intro t ht
    rcases List.mem_append.1 ht with h' | h'
    · exact (K3 t h').kept g4 (by simpa using (M3.ne (K3 t h')))
    · rw [List.mem_singleton] at h'
      subst h'
      exact N3.kept g4 (by simpa using M3.ne N3)
  · refine List.pairwise_append.2 ⟨hapart, List.pairwise_singleton _ _, fun t ht u hu => ?_⟩
    rw [List.mem_singleton] at hu
    subst hu
    have := htb t ht
    show t.b ≠ w.heap.size
    omega
  · intro t ht
    rcases List.mem_append.1 ht with h' | h'
    · exact hBt t h'
    · rw [List.mem_singleton] at h'
      subst h'
      exact hBw
end Go.Proofs.Ytlkphbcdgkjnoaa
