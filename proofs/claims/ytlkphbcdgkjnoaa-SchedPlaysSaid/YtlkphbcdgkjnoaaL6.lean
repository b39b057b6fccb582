/- does: one call of both. -/
import Derived.Test.YtlkphbcdgkjnoaaL5
namespace Go.Proofs.Ytlkphbcdgkjnoaa
open Go.RowKit Go.Maps

/-- A scheduler and the document's, apart from each other. -/
def Pair (B c : Nat) (w : World) (s r : Nat) (st : St) : Prop := ∃ O P : Nat → Prop, Sch B c w s st O ∧ RSch B w r st P ∧ (∀ k, O k → B ≤ k ∧ k < w.heap.size) ∧ (∀ k, P k → B ≤ k ∧ k < w.heap.size) ∧ ∀ k, O k → ¬ P k
theorem pair_fin {B c s r : Nat} {O P : Nat → Prop} {w0 w1 w2 : World} {st' : St} (hO : ∀ k, O k → B ≤ k ∧ k < w0.heap.size) (hP : ∀ k, P k → B ≤ k ∧ k < w0.heap.size) (hd : ∀ k, O k → ¬ P k) (hBw : B ≤ w0.heap.size)
    (hS : Sch B c w1 s st' (Up O w0)) (F1 : Fr O w0 w1) (hR : RSch B w2 r st' (Up P w1)) (F2 : Fr P w1 w2) : Pair B c w2 s r st' ∧ Below B w0 w2 := by
  have z1 := F1.size
  have z2 := F2.size
  have hS2 : Sch B c w2 s st' (Up O w0) := hS.move F2 (fun k hk hlt hp => by
    have := hP k hp
    rcases hk with h | h
    · exact hd k h hp
    · omega)
  refine ⟨⟨fun k => Up O w0 k ∧ B ≤ k ∧ k < w1.heap.size, fun k => Up P w1 k ∧ B ≤ k ∧ k < w2.heap.size, ?_, hR.wide (fun k h1 h2 h3 => ⟨h3, h1, h2⟩), fun k hk => ⟨hk.2.1, by omega⟩, fun k hk => ⟨hk.2.1, hk.2.2⟩, fun k hk hp => ?_⟩, ?_⟩
  · obtain ⟨va, mb, vt, n, h1, h2, h3, h4, h5⟩ := hS
    obtain ⟨va', mb', vt', n', g1, g2, g3, g4, g5⟩ := hS2
    have h1' : Mem B w2 s va mb vt n st' := h1.fr F2 (fun k hk hp => by
      have := hP k hp
      rcases h5 k hk with h | h
      · exact hd k h hp
      · omega)
    exact ⟨va, mb, vt, n, h1', h2, h3, h4, fun k hk => ⟨h5 k hk, (h1.own_lt hk).1, (h1.own_lt hk).2⟩⟩
  · rcases hp.1 with h | h
    · have := hP k h
      rcases hk.1 with h' | h'
      · exact hd k h' h
      · omega
    · have := hk.2.2
      omega
  · exact (F1.below (fun k hk => (hO k hk).1) hBw).trans (F2.below (fun k hk => (hP k hk).1) (by omega))
/-- How does ends. -/
def DoesEnds (B c : Nat) (w : World) (s r : Nat) (e : Ending) (w' : World) : Prop := e = .returned (.bool true) ∧ ∃ st', Pair B c w' s r st' ∧ Below B w w'

set_option maxRecDepth 100000 in
set_option maxHeartbeats 4000000 in
theorem does_0 {B c s r : Nat} {w : World} {st : St} (h : Pair B c w s r st) (hc : c ≤ 1000) (hBw : B ≤ w.heap.size) {id n : Int} (hid : (Lit.int .u64 id).wf = true) (hn1 : n < 18446744073709551616) :
    Calls Try.prog 16 #[ptr s, ptr r, .agg #[.int .i64 0, .int .u64 id, .int .u64 n]] w (DoesEnds B (c + 1) w s r) := by
  obtain ⟨O, P, hS, hR, hO, hP, hd⟩ := h
  have hb := ((Below.refl w.heap.size w).alloc (Nat.le_refl _) (.cells #[.int .i64 0, .int .u64 id, .int .u64 n] 45)).drew
  have hS0 := hS.below hb
  have hR0 := hR.below hb
  have hbk := Blk.new w 45 #[.int .i64 0, .int .u64 id, .int .u64 n]
  have x1 : (w.alloc (.cells #[.int .i64 0, .int .u64 id, .int .u64 n] 45)).drew.cell? ⟨w.heap.size, 1, none⟩ = some (.int .u64 id) := hbk.cell 1 rfl
  have x2 : (w.alloc (.cells #[.int .i64 0, .int .u64 id, .int .u64 n] 45)).drew.cell? ⟨w.heap.size, 2, none⟩ = some (.int .u64 n) := hbk.cell 2 rfl
  have hz : (w.alloc (.cells #[.int .i64 0, .int .u64 id, .int .u64 n] 45)).drew.heap.size = w.heap.size + 1 := by simp
  obtain ⟨z, st', hf, hg⟩ := add_twin (r := r) hS0 hc (by rw [hz]; omega) hid
  have hf' : Calls Try.prog 9 #[ptr s, .int .u64 id] (w.alloc (.cells #[.int .i64 0, .int .u64 id, .int .u64 n] 45)).drew _ := hf
  have HG := Lib.hid hg
  have HO := Lib.hid hO
  have HP := Lib.hid hP
  have HDD := Lib.hid hd
  have HZ := Lib.hid hz
  clear hf hg hO hP hd hz hS hR hbk
  go_enter Try.func16, Try.ntmps16
  go_wp2_with fail
  go_region_held3 (fun w' => w'.cell? ⟨w.heap.size, 1, none⟩ = some (.int .u64 id))
    (first | go_keep | exact k2 1 _ (k1 1 _ x1) | exact k1 1 _ x1)
    (first
      | (go_at_call 30; (with_reducible refine (hg1.mono ?_)); rintro e w2 ⟨rfl, hR2, F2⟩; have k2 : ∀ j v, w1.cell? ⟨w.heap.size, j, none⟩ = some v → w2.cell? ⟨w.heap.size, j, none⟩ = some v := fun j v hv => (World.cell?_of_block (a := ⟨w.heap.size, j, none⟩) (F2.block w.heap.size (by have := F1.size; rw [HZ.out] at this; omega) (fun x => by have := (HP.out _ x).2; omega))).trans hv)
      | (go_at_call 9; (with_reducible refine (hf'.mono ?_)); rintro e w1 ⟨rfl, ⟨hp', hS1⟩, F1⟩; have hR1 := hR0.move F1 (fun x hx _ ho => HDD.out x ho hx); have hg1 : Calls Try.prog 30 #[ptr r, .int .u64 id] w1 _ := HG.out w1 P hR1 (by have := F1.size; rw [HZ.out] at this; omega); have k1 : ∀ j v, (w.alloc (.cells #[.int .i64 0, .int .u64 id, .int .u64 n] 45)).drew.cell? ⟨w.heap.size, j, none⟩ = some v → w1.cell? ⟨w.heap.size, j, none⟩ = some v := fun j v hv => (World.cell?_of_block (a := ⟨w.heap.size, j, none⟩) (F1.block w.heap.size (by rw [HZ.out]; omega) (fun x => by have := (HO.out _ x).2; omega))).trans hv))
  obtain ⟨hPP, hBB⟩ := pair_fin (fun x hx => ⟨(HO.out x hx).1, by have := (HO.out x hx).2; rw [HZ.out]; omega⟩) (fun x hx => ⟨(HP.out x hx).1, by have := (HP.out x hx).2; rw [HZ.out]; omega⟩) HDD.out (by rw [HZ.out]; omega) hS1 F1 (RSch.of hR2 rfl rfl rfl) F2
  have hB2 := (hb.mono hBw).trans hBB
  clear hf' hS0 hR0 hR1 hg1 hR2 hS1
  go_wp2
  go_ret
  exact ⟨rfl, _, hPP, hB2⟩
set_option maxRecDepth 100000 in
set_option maxHeartbeats 4000000 in
theorem does_2 {B c s r : Nat} {w : World} {st : St} (h : Pair B c w s r st) (hc : c ≤ 1000) (hBw : B ≤ w.heap.size) {id n : Int} (hid : (Lit.int .u64 id).wf = true) (hn1 : n < 18446744073709551616) :
    Calls Try.prog 16 #[ptr s, ptr r, .agg #[.int .i64 2, .int .u64 id, .int .u64 n]] w (DoesEnds B (c + 1) w s r) := by
  obtain ⟨O, P, hS, hR, hO, hP, hd⟩ := h
  have hb := ((Below.refl w.heap.size w).alloc (Nat.le_refl _) (.cells #[.int .i64 2, .int .u64 id, .int .u64 n] 45)).drew
  have hS0 := hS.below hb
  have hR0 := hR.below hb
  have hbk := Blk.new w 45 #[.int .i64 2, .int .u64 id, .int .u64 n]
  have x1 : (w.alloc (.cells #[.int .i64 2, .int .u64 id, .int .u64 n] 45)).drew.cell? ⟨w.heap.size, 1, none⟩ = some (.int .u64 id) := hbk.cell 1 rfl
  have x2 : (w.alloc (.cells #[.int .i64 2, .int .u64 id, .int .u64 n] 45)).drew.cell? ⟨w.heap.size, 2, none⟩ = some (.int .u64 n) := hbk.cell 2 rfl
  have hz : (w.alloc (.cells #[.int .i64 2, .int .u64 id, .int .u64 n] 45)).drew.heap.size = w.heap.size + 1 := by simp
  obtain ⟨z, st', hf, hg⟩ := sleep_twin (r := r) hS0 hc hid
  have hf' : Calls Try.prog 20 #[ptr s, .int .u64 id] (w.alloc (.cells #[.int .i64 2, .int .u64 id, .int .u64 n] 45)).drew _ := hf
  have HG := Lib.hid hg
  have HO := Lib.hid hO
  have HP := Lib.hid hP
  have HDD := Lib.hid hd
  have HZ := Lib.hid hz
  clear hf hg hO hP hd hz hS hR hbk
  go_enter Try.func16, Try.ntmps16
  go_wp2_with fail
  go_region_held3 (fun w' => w'.cell? ⟨w.heap.size, 1, none⟩ = some (.int .u64 id))
    (first | go_keep | exact k2 1 _ (k1 1 _ x1) | exact k1 1 _ x1)
    (first
      | (go_at_call 31; (with_reducible refine (hg1.mono ?_)); rintro e w2 ⟨rfl, hR2, F2⟩; have k2 : ∀ j v, w1.cell? ⟨w.heap.size, j, none⟩ = some v → w2.cell? ⟨w.heap.size, j, none⟩ = some v := fun j v hv => (World.cell?_of_block (a := ⟨w.heap.size, j, none⟩) (F2.block w.heap.size (by have := F1.size; rw [HZ.out] at this; omega) (fun x => by have := (HP.out _ x).2; omega))).trans hv)
      | (go_at_call 20; (with_reducible refine (hf'.mono ?_)); rintro e w1 ⟨rfl, ⟨hp', hS1⟩, F1⟩; have hR1 := hR0.move F1 (fun x hx _ ho => HDD.out x ho hx); have hg1 : Calls Try.prog 31 #[ptr r, .int .u64 id] w1 _ := HG.out w1 P hR1 (by have := F1.size; rw [HZ.out] at this; omega); have k1 : ∀ j v, (w.alloc (.cells #[.int .i64 2, .int .u64 id, .int .u64 n] 45)).drew.cell? ⟨w.heap.size, j, none⟩ = some v → w1.cell? ⟨w.heap.size, j, none⟩ = some v := fun j v hv => (World.cell?_of_block (a := ⟨w.heap.size, j, none⟩) (F1.block w.heap.size (by rw [HZ.out]; omega) (fun x => by have := (HO.out _ x).2; omega))).trans hv))
  obtain ⟨hPP, hBB⟩ := pair_fin (fun x hx => ⟨(HO.out x hx).1, by have := (HO.out x hx).2; rw [HZ.out]; omega⟩) (fun x hx => ⟨(HP.out x hx).1, by have := (HP.out x hx).2; rw [HZ.out]; omega⟩) HDD.out (by rw [HZ.out]; omega) hS1 F1 (RSch.of hR2 rfl rfl rfl) F2
  have hB2 := (hb.mono hBw).trans hBB
  clear hf' hS0 hR0 hR1 hg1 hR2 hS1
  go_wp2
  go_ret
  exact ⟨rfl, _, hPP, hB2⟩
set_option maxRecDepth 100000 in
set_option maxHeartbeats 4000000 in
theorem does_4 {B c s r : Nat} {w : World} {st : St} (h : Pair B c w s r st) (hc : c ≤ 1000) (hBw : B ≤ w.heap.size) {id n : Int} (hid : (Lit.int .u64 id).wf = true) (hn1 : n < 18446744073709551616) :
    Calls Try.prog 16 #[ptr s, ptr r, .agg #[.int .i64 4, .int .u64 id, .int .u64 n]] w (DoesEnds B (c + 1) w s r) := by
  obtain ⟨O, P, hS, hR, hO, hP, hd⟩ := h
  have hb := ((Below.refl w.heap.size w).alloc (Nat.le_refl _) (.cells #[.int .i64 4, .int .u64 id, .int .u64 n] 45)).drew
  have hS0 := hS.below hb
  have hR0 := hR.below hb
  have hbk := Blk.new w 45 #[.int .i64 4, .int .u64 id, .int .u64 n]
  have x1 : (w.alloc (.cells #[.int .i64 4, .int .u64 id, .int .u64 n] 45)).drew.cell? ⟨w.heap.size, 1, none⟩ = some (.int .u64 id) := hbk.cell 1 rfl
  have x2 : (w.alloc (.cells #[.int .i64 4, .int .u64 id, .int .u64 n] 45)).drew.cell? ⟨w.heap.size, 2, none⟩ = some (.int .u64 n) := hbk.cell 2 rfl
  have hz : (w.alloc (.cells #[.int .i64 4, .int .u64 id, .int .u64 n] 45)).drew.heap.size = w.heap.size + 1 := by simp
  obtain ⟨z, st', hf, hg⟩ := wake_twin (r := r) hS0 hc hid
  have hf' : Calls Try.prog 21 #[ptr s, .int .u64 id] (w.alloc (.cells #[.int .i64 4, .int .u64 id, .int .u64 n] 45)).drew _ := hf
  have HG := Lib.hid hg
  have HO := Lib.hid hO
  have HP := Lib.hid hP
  have HDD := Lib.hid hd
  have HZ := Lib.hid hz
  clear hf hg hO hP hd hz hS hR hbk
  go_enter Try.func16, Try.ntmps16
  go_wp2_with fail
  go_region_held3 (fun w' => w'.cell? ⟨w.heap.size, 1, none⟩ = some (.int .u64 id))
    (first | go_keep | exact k2 1 _ (k1 1 _ x1) | exact k1 1 _ x1)
    (first
      | (go_at_call 33; (with_reducible refine (hg1.mono ?_)); rintro e w2 ⟨rfl, hR2, F2⟩; have k2 : ∀ j v, w1.cell? ⟨w.heap.size, j, none⟩ = some v → w2.cell? ⟨w.heap.size, j, none⟩ = some v := fun j v hv => (World.cell?_of_block (a := ⟨w.heap.size, j, none⟩) (F2.block w.heap.size (by have := F1.size; rw [HZ.out] at this; omega) (fun x => by have := (HP.out _ x).2; omega))).trans hv)
      | (go_at_call 21; (with_reducible refine (hf'.mono ?_)); rintro e w1 ⟨rfl, ⟨hp', hS1⟩, F1⟩; have hR1 := hR0.move F1 (fun x hx _ ho => HDD.out x ho hx); have hg1 : Calls Try.prog 33 #[ptr r, .int .u64 id] w1 _ := HG.out w1 P hR1 (by have := F1.size; rw [HZ.out] at this; omega); have k1 : ∀ j v, (w.alloc (.cells #[.int .i64 4, .int .u64 id, .int .u64 n] 45)).drew.cell? ⟨w.heap.size, j, none⟩ = some v → w1.cell? ⟨w.heap.size, j, none⟩ = some v := fun j v hv => (World.cell?_of_block (a := ⟨w.heap.size, j, none⟩) (F1.block w.heap.size (by rw [HZ.out]; omega) (fun x => by have := (HO.out _ x).2; omega))).trans hv))
  obtain ⟨hPP, hBB⟩ := pair_fin (fun x hx => ⟨(HO.out x hx).1, by have := (HO.out x hx).2; rw [HZ.out]; omega⟩) (fun x hx => ⟨(HP.out x hx).1, by have := (HP.out x hx).2; rw [HZ.out]; omega⟩) HDD.out (by rw [HZ.out]; omega) hS1 F1 (RSch.of hR2 rfl rfl rfl) F2
  have hB2 := (hb.mono hBw).trans hBB
  clear hf' hS0 hR0 hR1 hg1 hR2 hS1
  go_wp2
  go_ret
  exact ⟨rfl, _, hPP, hB2⟩
set_option maxRecDepth 100000 in
set_option maxHeartbeats 4000000 in
theorem does_6 {B c s r : Nat} {w : World} {st : St} (h : Pair B c w s r st) (hc : c ≤ 1000) (hBw : B ≤ w.heap.size) {id n : Int} (hid : (Lit.int .u64 id).wf = true) (hn1 : n < 18446744073709551616) :
    Calls Try.prog 16 #[ptr s, ptr r, .agg #[.int .i64 6, .int .u64 id, .int .u64 n]] w (DoesEnds B (c + 1) w s r) := by
  obtain ⟨O, P, hS, hR, hO, hP, hd⟩ := h
  have hb := ((Below.refl w.heap.size w).alloc (Nat.le_refl _) (.cells #[.int .i64 6, .int .u64 id, .int .u64 n] 45)).drew
  have hS0 := hS.below hb
  have hR0 := hR.below hb
  have hbk := Blk.new w 45 #[.int .i64 6, .int .u64 id, .int .u64 n]
  have x1 : (w.alloc (.cells #[.int .i64 6, .int .u64 id, .int .u64 n] 45)).drew.cell? ⟨w.heap.size, 1, none⟩ = some (.int .u64 id) := hbk.cell 1 rfl
  have x2 : (w.alloc (.cells #[.int .i64 6, .int .u64 id, .int .u64 n] 45)).drew.cell? ⟨w.heap.size, 2, none⟩ = some (.int .u64 n) := hbk.cell 2 rfl
  have hz : (w.alloc (.cells #[.int .i64 6, .int .u64 id, .int .u64 n] 45)).drew.heap.size = w.heap.size + 1 := by simp
  obtain ⟨z, st', hf, hg⟩ := done_twin (r := r) hS0 hc (by rw [hz]; omega) hid
  have hf' : Calls Try.prog 19 #[ptr s, .int .u64 id] (w.alloc (.cells #[.int .i64 6, .int .u64 id, .int .u64 n] 45)).drew _ := hf
  have HG := Lib.hid hg
  have HO := Lib.hid hO
  have HP := Lib.hid hP
  have HDD := Lib.hid hd
  have HZ := Lib.hid hz
  clear hf hg hO hP hd hz hS hR hbk
  go_enter Try.func16, Try.ntmps16
  go_wp2_with fail
  go_region_held3 (fun w' => w'.cell? ⟨w.heap.size, 1, none⟩ = some (.int .u64 id))
    (first | go_keep | exact k2 1 _ (k1 1 _ x1) | exact k1 1 _ x1)
    (first
      | (go_at_call 36; (with_reducible refine (hg1.mono ?_)); rintro e w2 ⟨rfl, hR2, F2⟩; have k2 : ∀ j v, w1.cell? ⟨w.heap.size, j, none⟩ = some v → w2.cell? ⟨w.heap.size, j, none⟩ = some v := fun j v hv => (World.cell?_of_block (a := ⟨w.heap.size, j, none⟩) (F2.block w.heap.size (by have := F1.size; rw [HZ.out] at this; omega) (fun x => by have := (HP.out _ x).2; omega))).trans hv)
      | (go_at_call 19; (with_reducible refine (hf'.mono ?_)); rintro e w1 ⟨rfl, ⟨hp', hS1⟩, F1⟩; have hR1 := hR0.move F1 (fun x hx _ ho => HDD.out x ho hx); have hg1 : Calls Try.prog 36 #[ptr r, .int .u64 id] w1 _ := HG.out w1 P hR1 (by have := F1.size; rw [HZ.out] at this; omega); have k1 : ∀ j v, (w.alloc (.cells #[.int .i64 6, .int .u64 id, .int .u64 n] 45)).drew.cell? ⟨w.heap.size, j, none⟩ = some v → w1.cell? ⟨w.heap.size, j, none⟩ = some v := fun j v hv => (World.cell?_of_block (a := ⟨w.heap.size, j, none⟩) (F1.block w.heap.size (by rw [HZ.out]; omega) (fun x => by have := (HO.out _ x).2; omega))).trans hv))
  obtain ⟨hPP, hBB⟩ := pair_fin (fun x hx => ⟨(HO.out x hx).1, by have := (HO.out x hx).2; rw [HZ.out]; omega⟩) (fun x hx => ⟨(HP.out x hx).1, by have := (HP.out x hx).2; rw [HZ.out]; omega⟩) HDD.out (by rw [HZ.out]; omega) hS1 F1 (RSch.of hR2 rfl rfl rfl) F2
  have hB2 := (hb.mono hBw).trans hBB
  clear hf' hS0 hR0 hR1 hg1 hR2 hS1
  go_wp2
  go_ret
  exact ⟨rfl, _, hPP, hB2⟩
set_option maxRecDepth 100000 in
set_option maxHeartbeats 4000000 in
theorem does_3 {B c s r : Nat} {w : World} {st : St} (h : Pair B c w s r st) (hc : c ≤ 1000) (hBw : B ≤ w.heap.size) {id n : Int} (hid : (Lit.int .u64 id).wf = true) (hn1 : n < 18446744073709551616) :
    Calls Try.prog 16 #[ptr s, ptr r, .agg #[.int .i64 3, .int .u64 id, .int .u64 n]] w (DoesEnds B (c + 1) w s r) := by
  obtain ⟨O, P, hS, hR, hO, hP, hd⟩ := h
  have hb := ((Below.refl w.heap.size w).alloc (Nat.le_refl _) (.cells #[.int .i64 3, .int .u64 id, .int .u64 n] 45)).drew
  have hS0 := hS.below hb
  have hR0 := hR.below hb
  have hbk := Blk.new w 45 #[.int .i64 3, .int .u64 id, .int .u64 n]
  have x1 : (w.alloc (.cells #[.int .i64 3, .int .u64 id, .int .u64 n] 45)).drew.cell? ⟨w.heap.size, 1, none⟩ = some (.int .u64 id) := hbk.cell 1 rfl
  have x2 : (w.alloc (.cells #[.int .i64 3, .int .u64 id, .int .u64 n] 45)).drew.cell? ⟨w.heap.size, 2, none⟩ = some (.int .u64 n) := hbk.cell 2 rfl
  have hz : (w.alloc (.cells #[.int .i64 3, .int .u64 id, .int .u64 n] 45)).drew.heap.size = w.heap.size + 1 := by simp
  obtain ⟨z, st', hf, hg⟩ := until_twin (r := r) hS0 hc (by rw [hz]; omega) hid hn1
  have hf' : Calls Try.prog 11 #[ptr s, .int .u64 id, .int .u64 n] (w.alloc (.cells #[.int .i64 3, .int .u64 id, .int .u64 n] 45)).drew _ := hf
  have HG := Lib.hid hg
  have HO := Lib.hid hO
  have HP := Lib.hid hP
  have HDD := Lib.hid hd
  have HZ := Lib.hid hz
  clear hf hg hO hP hd hz hS hR hbk
  go_enter Try.func16, Try.ntmps16
  go_wp2_with fail
  go_region_held3 (fun w' => w'.cell? ⟨w.heap.size, 1, none⟩ = some (.int .u64 id) ∧ w'.cell? ⟨w.heap.size, 2, none⟩ = some (.int .u64 n))
    (first | go_keep | exact ⟨k2 1 _ (k1 1 _ x1), k2 2 _ (k1 2 _ x2)⟩ | exact ⟨k1 1 _ x1, k1 2 _ x2⟩)
    (first
      | (go_at_call 32; (with_reducible refine (hg1.mono ?_)); rintro e w2 ⟨rfl, hR2, F2⟩; have k2 : ∀ j v, w1.cell? ⟨w.heap.size, j, none⟩ = some v → w2.cell? ⟨w.heap.size, j, none⟩ = some v := fun j v hv => (World.cell?_of_block (a := ⟨w.heap.size, j, none⟩) (F2.block w.heap.size (by have := F1.size; rw [HZ.out] at this; omega) (fun x => by have := (HP.out _ x).2; omega))).trans hv)
      | (go_at_call 11; (with_reducible refine (hf'.mono ?_)); rintro e w1 ⟨rfl, ⟨hp', hS1⟩, F1⟩; have hR1 := hR0.move F1 (fun x hx _ ho => HDD.out x ho hx); have hg1 : Calls Try.prog 32 #[ptr r, .int .u64 id, .int .u64 n] w1 _ := HG.out w1 P hR1 (by have := F1.size; rw [HZ.out] at this; omega); have k1 : ∀ j v, (w.alloc (.cells #[.int .i64 3, .int .u64 id, .int .u64 n] 45)).drew.cell? ⟨w.heap.size, j, none⟩ = some v → w1.cell? ⟨w.heap.size, j, none⟩ = some v := fun j v hv => (World.cell?_of_block (a := ⟨w.heap.size, j, none⟩) (F1.block w.heap.size (by rw [HZ.out]; omega) (fun x => by have := (HO.out _ x).2; omega))).trans hv))
  obtain ⟨hPP, hBB⟩ := pair_fin (fun x hx => ⟨(HO.out x hx).1, by have := (HO.out x hx).2; rw [HZ.out]; omega⟩) (fun x hx => ⟨(HP.out x hx).1, by have := (HP.out x hx).2; rw [HZ.out]; omega⟩) HDD.out (by rw [HZ.out]; omega) hS1 F1 (RSch.of hR2 rfl rfl rfl) F2
  have hB2 := (hb.mono hBw).trans hBB
  clear hf' hS0 hR0 hR1 hg1 hR2 hS1
  go_wp2
  go_ret
  exact ⟨rfl, _, hPP, hB2⟩
end Go.Proofs.Ytlkphbcdgkjnoaa
