/- ready, Until and Tick, where nobody else sleeps until a time: what each call returns and what it turns. -/
import Derived.Test.YtlkphbcdgkjnoaaM5
import Derived.BigQuiet
import Derived.LaidEqlPtr
namespace Go.Proofs.Ytlkphbcdgkjnoaa
open Go.RowKit Go.Maps

/-- A handler that is ready. -/
def T.rested (t : T) : T := { t with asleep := false, timed := false, at_ := 0, age := 0 }
theorem turned_turned {b : Nat} {t1 t2 : T} {l : List T} (h : t1.b = b) : turned b t2 (turned b t1 l) = turned b t2 l := by
  unfold turned
  rw [List.map_map]
  refine List.map_congr_left fun u _ => ?_
  simp only [Function.comp]
  by_cases e : u.b = b
  · simp [e, h]
  · simp [e]
theorem turned_mem {t t1 : T} {l : List T} (h : t ∈ l) : t1 ∈ turned t.b t1 l := by
  unfold turned
  exact List.mem_map.2 ⟨t, h, if_pos rfl⟩

theorem Mem.again {B : Nat} {W : World} {s mb n : Nat} {va vt : Value} {st : St} {t t1 : T} (h : Mem B W s va mb vt n { st with l := turned t.b t1 st.l }) (ht : t ∈ st.l) (hb1 : t1.b = t.b) (k : Nat) (v : Value) (t2 : T) (hb : t2.b = t.b) (hid : t2.id = t1.id)
    (hv : t2.vals = t1.vals.setIfInBounds k v) : Mem B (W.setCell ⟨t.b, k, none⟩ v) s va mb vt n { st with l := turned t.b t2 st.l } := by
  have m : t1 ∈ turned t.b t1 st.l := turned_mem ht
  have := h.turn m k v t2 (hb.trans hb1.symm) hid hv
  rw [hb1] at this
  have e := turned_turned (t2 := t2) (l := st.l) hb1
  simp only [e] at this
  exact this

/-- The four cells that ready writes. -/
def restW (W : World) (b : Nat) : World := (((W.setCell ⟨b, 2, none⟩ (.bool false)).setCell ⟨b, 3, none⟩ (.bool false)).setCell ⟨b, 4, none⟩ (.int .u64 0)).setCell ⟨b, 5, none⟩ (.int .i64 0)
theorem Mem.rest {B : Nat} {W : World} {s mb n : Nat} {va vt : Value} {st : St} (h : Mem B W s va mb vt n st) {t : T} (ht : t ∈ st.l) :
    Mem B (restW W t.b) s va mb vt n { st with l := turned t.b t.rested st.l } := by
  have h1 := h.turn ht 2 (.bool false) { t with asleep := false } rfl rfl rfl
  have h2 := h1.again ht rfl 3 (.bool false) { t with asleep := false, timed := false } rfl rfl rfl
  have h3 := h2.again ht rfl 4 (.int .u64 0) { t with asleep := false, timed := false, at_ := 0 } rfl rfl rfl
  exact h3.again ht rfl 5 (.int .i64 0) t.rested rfl rfl rfl
theorem below_rest {B : Nat} {w W : World} (h : Below B w W) {b : Nat} (hb : B ≤ b) : Below B w (restW W b) :=
  (((h.setCell (p := ⟨b, 2, none⟩) hb _).setCell (p := ⟨b, 3, none⟩) hb _).setCell (p := ⟨b, 4, none⟩) hb _).setCell (p := ⟨b, 5, none⟩) hb _

set_option maxHeartbeats 1000000 in
theorem ready_idle {B : Nat} {w : World} {s mb n : Nat} {va vt : Value} {st : St} (h : Mem B w s va mb vt n st) {t : T} (ht : t ∈ st.l) (hti : t.timed = false) :
    Calls Try.prog 27 #[ptr s, ptr t.b] w fun e w' => e = .returned (.tuple #[]) ∧ w' = restW w t.b := by
  obtain ⟨e0, e1, e2, e3, e4, e5⟩ := (h.tasks t ht).six
  rw [hti] at e3
  have ef := fun k => (h.tasks t ht).frozen k
  go_enter Try.func27, Try.ntmps27
  go_wp2
  go_end0
  exact ⟨rfl, rfl⟩

theorem up_zero (A : Option Addr) (len cap : Nat) (w : World) :
    Calls Try.prog 28 #[.slice A len cap, .int .i64 0] w fun e w' => e = .returned (.tuple #[]) ∧ ∃ m, w' = w.drewN m := by
  go_enter Try.func28, Try.ntmps28
  go_wp2
  go_loopw [1] (fun i wr => i = .int .i64 0 ∧ wr = w) (fun _ _ => 0)
  case atStart => exact ⟨rfl, rfl⟩
  case round =>
    obtain ⟨rfl, rfl⟩ := hrel
    go_wp2
    go_quiet (fail)
    go_wp2
    go_end0
    exact ⟨rfl, _, rfl⟩

theorem Try.und60 : Try.prog.underlying 60 = some (.pointer 62) := by kernel_rfl
theorem Try.inf62 : (Try.prog.info? 62).isSome = true := by kernel_rfl
set_option maxHeartbeats 1000000 in
theorem index_one {g cap b : Nat} {w : World} (hc : w.cell? ⟨g, 0, none⟩ = some (ptr b)) :
    Calls Try.prog 47 #[.slice (some ⟨g, 0, none⟩) 1 cap, ptr b] w fun e w' => e = .returned (.int .i64 0) ∧ w' = w := by
  obtain ⟨j, hj⟩ := Option.isSome_iff_exists.1 Try.inf62
  have hpe := run_eql_ptr_same (P := Try.prog) w (⟨b, 0, none⟩ : Addr) Try.und60 hj
  go_enter Try.func47, Try.ntmps47
  go_wp2
  go_loopw [8] (fun i wr => i = .int .i64 0 ∧ wr = w) (fun _ _ => 0)
  case atStart => exact ⟨rfl, rfl⟩
  case round =>
    obtain ⟨rfl, rfl⟩ := hrel
    go_wp2
    go_ret
    exact ⟨rfl, rfl⟩

set_option maxHeartbeats 1000000 in
theorem without_one {g cap b : Nat} {w : World} (hcap : 1 ≤ cap) (hcap2 : cap ≤ maxLen) (hc : w.cell? ⟨g, 0, none⟩ = some (ptr b)) (hf : w.frozen? ⟨g, 0, none⟩ = false) (hg : g < w.heap.size) :
    Calls Try.prog 43 #[.slice (some ⟨g, 0, none⟩) 1 cap, ptr b] w fun e w' => e = .returned (.slice (some ⟨g, 0, none⟩) 0 cap) ∧ w' = (w.setCell ⟨g, 0, none⟩ (ptr b)).setCell ⟨g, 0, none⟩ (.pointer none) := by
  have hI := index_one (cap := cap) hc
  go_enter Try.func43, Try.ntmps43
  go_wp2_with (go_at_call 47; refine hI.mono ?_; rintro e w1 ⟨rfl, rfl⟩)
  go_ret
  exact ⟨rfl, rfl⟩

set_option maxHeartbeats 1000000 in
theorem ready_one {B : Nat} {w : World} {s mb n g cap : Nat} {va : Value} {st : St} (h : Mem B w s va mb (.slice (some ⟨g, 0, none⟩) 1 cap) n st) {t : T} (ht : t ∈ st.l) (hti : t.timed = true) (hhp : st.hp = [t.b]) :
    Calls Try.prog 27 #[ptr s, ptr t.b] w fun e w' => e = .returned (.tuple #[]) ∧ Mem B w' s va mb (.slice (some ⟨g, 0, none⟩) 0 cap) n { st with l := turned t.b t.rested st.l, hp := [] } ∧ Below B w w' ∧ ∀ k, k ≠ g → k ≠ s → k ≠ t.b → w'.heap[k]? = w.heap[k]? := by
  rcases h.tim.2 with ⟨e1, _⟩ | ⟨g0, cap0, cur, e0, hBg, hg, hc1, hc2, hcs, htk⟩
  · cases e1
  obtain ⟨rfl, rfl⟩ : g0 = g ∧ cap0 = cap := by
    injection e0 with a1 a2 a3
    injection a1 with a1
    injection a1 with a1
    exact ⟨a1.symm, a3.symm⟩
  have hl : st.hp.length = 1 := by rw [hhp]; rfl
  rw [hl] at hc1
  have hG : Blk w g0 60 cur := hg
  have hx : w.cell? ⟨g0, 0, none⟩ = some (ptr t.b) := h.tim.cells (g := g0) rfl 0 _ (by rw [hhp]; rfl)
  have hsg : s ≠ g0 := h.str.ne hG (by decide)
  have htg : ∀ u ∈ st.l, u.b ≠ g0 := fun u hu => (h.tasks u hu).ne hG (by decide)
  have hmg : g0 ≠ mb := h.map.ne hG
  have hag : va.ownBlock ≠ some g0 := fun e => h.rows g0 e rfl
  -- behind the row's two stores
  have k1 := grownBy_set w g0 0 (ptr t.b)
  have k2 := grownBy_set (w.setCell ⟨g0, 0, none⟩ (ptr t.b)) g0 0 (.pointer none)
  have S1 := (h.str.kept k1 (by simpa using hsg)).kept k2 (by simpa using hsg)
  have A1 := (h.all.kept k1 (.inr hag)).kept k2 (.inr hag)
  have M1 := (h.map.kept k1 (by simpa using hmg.symm)).kept k2 (by simpa using hmg.symm)
  have K1 := fun u hu => ((h.tasks u hu).kept k1 (by simpa using htg u hu)).kept k2 (by simpa using htg u hu)
  have G1 := (hG.set 0 (ptr t.b)).set 0 (.pointer none)
  have B1 := ((Below.refl B w).setCell (p := ⟨g0, 0, none⟩) hBg (ptr t.b)).setCell (p := ⟨g0, 0, none⟩) hBg (.pointer none)
  have F1 : ∀ k, k ≠ g0 → ((w.setCell ⟨g0, 0, none⟩ (ptr t.b)).setCell ⟨g0, 0, none⟩ (.pointer none)).heap[k]? = w.heap[k]? := fun k hk => (Below.heap_setCell _ _ _ k hk).trans (Below.heap_setCell _ _ _ k hk)
  have hW := without_one (by omega) hc2 hx (hG.frozen 0) hG.lt
  obtain ⟨w1, hw1⟩ : ∃ w1, (w.setCell ⟨g0, 0, none⟩ (ptr t.b)).setCell ⟨g0, 0, none⟩ (.pointer none) = w1 := ⟨_, rfl⟩
  rw [hw1] at S1 A1 M1 K1 G1 B1 hW F1
  clear hw1 k1 k2
  -- behind the field's store
  have k3 := grownBy_set w1 s 5 (.slice (some ⟨g0, 0, none⟩) 0 cap0)
  have S2 : Blk (w1.setCell ⟨s, 5, none⟩ (.slice (some ⟨g0, 0, none⟩) 0 cap0)) s 59 #[.int .i64 st.pat, .int .u64 st.now, .int .u64 st.ord, va, .map (some mb), .slice (some ⟨g0, 0, none⟩) 0 cap0] := S1.set 5 _
  have G2 := G1.kept k3 (by simpa using hsg.symm)
  have M2 : Mem B (w1.setCell ⟨s, 5, none⟩ (.slice (some ⟨g0, 0, none⟩) 0 cap0)) s va mb (.slice (some ⟨g0, 0, none⟩) 0 cap0) n { st with hp := [] } := by
    refine ⟨S2, A1.kept k3 (.inr (S1.not_row (by decide) A1).symm), ⟨rfl, .inr ⟨g0, cap0, _, rfl, hBg, G2, by simp, hc2, by simpa using hcs, by simp⟩⟩, ?_, M1.kept k3 (by simpa using (M1.ne S1).symm), fun u hu => (K1 u hu).kept k3 (by simpa using ((K1 u hu).ne S1 (by decide))), h.apart, h.hs, h.hm, h.ht⟩
    intro k hk e
    exact h.rows k hk e
  obtain ⟨c0, c1, c2, c3, c4, c5⟩ := h.str.six
  obtain ⟨d0, d1, d2, d3, d4, d5⟩ := S1.six
  have df := fun k => S1.frozen k
  obtain ⟨t0, t1, t2, t3, t4, t5⟩ := (h.tasks t ht).six
  rw [hti] at t3
  obtain ⟨u0, u1, u2, u3, u4, u5⟩ := (M2.tasks t ht).six
  have uf := fun k => (M2.tasks t ht).frozen k
  have FR : ∀ k, k ≠ g0 → k ≠ s → k ≠ t.b → (restW (w1.setCell ⟨s, 5, none⟩ (.slice (some ⟨g0, 0, none⟩) 0 cap0)) t.b).heap[k]? = w.heap[k]? := fun k k1 k2 k3 =>
    (Below.heap_setCell _ _ _ k k3).trans ((Below.heap_setCell _ _ _ k k3).trans ((Below.heap_setCell _ _ _ k k3).trans ((Below.heap_setCell _ _ _ k k3).trans ((Below.heap_setCell _ _ _ k k2).trans (F1 k k1)))))
  have FRH := Lib.hid FR
  clear FR F1
  have MR := M2.rest ht
  have BR := below_rest (b := t.b) ((B1.setCell (p := ⟨s, 5, none⟩) h.hs (.slice (some ⟨g0, 0, none⟩) 0 cap0))) (h.ht t ht)
  clear e0 hl hg hcs htk hhp hx hti M2 S2 G2 S1 A1 M1 K1 G1 B1 k3
  go_enter Try.func27, Try.ntmps27
  go_wp2_with (go_at_call 43; refine hW.mono ?_; rintro e w2 ⟨rfl, rfl⟩)
  go_end0
  exact ⟨rfl, MR, BR, FRH.out⟩
end Go.Proofs.Ytlkphbcdgkjnoaa
