/- does: Tick and Pick; does as a whole. -/
import Derived.Test.YtlkphbcdgkjnoaaL6
namespace Go.Proofs.Ytlkphbcdgkjnoaa
open Go.RowKit Go.Maps

theorem Pair.below {B c s r : Nat} {w w' : World} {st : St} (h : Pair B c w s r st) (hb : Below w.heap.size w w') : Pair B c w' s r st := by
  obtain ⟨O, P, hS, hR, hO, hP, hd⟩ := h
  have := hb.size
  exact ⟨O, P, hS.below hb, hR.below hb, fun k hk => ⟨(hO k hk).1, by have := (hO k hk).2; omega⟩, fun k hk => ⟨(hP k hk).1, by have := (hP k hk).2; omega⟩, hd⟩
theorem Pair.mono {B c c' s r : Nat} {w : World} {st : St} (h : Pair B c w s r st) (hc : c ≤ c') : Pair B c' w s r st := by
  obtain ⟨O, P, hS, hR, hO, hP, hd⟩ := h
  exact ⟨O, P, hS.mono hc, hR, hO, hP, hd⟩

set_option maxRecDepth 100000 in
set_option maxHeartbeats 4000000 in
theorem does_5 {B c s r : Nat} {w : World} {st : St} (h : Pair B c w s r st) (hc : c ≤ 1000) (hBw : B ≤ w.heap.size) {id n : Int} (hn1 : n < 18446744073709551616) :
    Calls Try.prog 16 #[ptr s, ptr r, .agg #[.int .i64 5, .int .u64 id, .int .u64 n]] w (DoesEnds B (c + 1) w s r) := by
  have hb := (Below.refl w.heap.size w).alloc (Nat.le_refl _) (.cells #[.int .i64 5, .int .u64 id, .int .u64 n] 45)
  have hbk := Blk.new w 45 #[.int .i64 5, .int .u64 id, .int .u64 n]
  have hz : (w.alloc (.cells #[.int .i64 5, .int .u64 id, .int .u64 n] 45)).heap.size = w.heap.size + 1 := by simp
  have hPR := h
  obtain ⟨O, P, hSx, hRx, hO, hP, hd⟩ := hPR
  have hS := hSx.below hb
  have hR := hRx.below hb
  clear hSx hRx
  by_cases hlt : n < st.now
  · have hT : Calls Try.prog 12 #[ptr s, .int .u64 n] (w.alloc (.cells #[.int .i64 5, .int .u64 id, .int .u64 n] 45)) fun e w' => e = .returned (.tuple #[.slice none 0 0, .int .i64 2]) ∧ w' = (w.alloc (.cells #[.int .i64 5, .int .u64 id, .int .u64 n] 45)) := by
      obtain ⟨va, mb, vt, m, hM, _⟩ := hS
      exact tick_back hM n hlt
    have hT2 : Calls Try.prog 34 #[ptr r, .int .u64 n] (w.alloc (.cells #[.int .i64 5, .int .u64 id, .int .u64 n] 45)) fun e w' => e = .returned (.tuple #[.slice none 0 0, .int .i64 2]) ∧ (w.alloc (.cells #[.int .i64 5, .int .u64 id, .int .u64 n] 45)) = w' := by
      obtain ⟨rv, hRM, _⟩ := hR
      exact rtick_back hRM n hlt
    have hI : Calls Try.prog 35 #[.slice none 0 0, .slice none 0 0] (w.alloc (.cells #[.int .i64 5, .int .u64 id, .int .u64 n] 45)) fun e w' => e = .returned (.bool true) ∧ ∃ q, w' = (w.alloc (.cells #[.int .i64 5, .int .u64 id, .int .u64 n] 45)).drewN q := ids_same (B1 := 0) (B2 := 0) (xs := []) (fun k z hz => by simp at hz) (fun k z hz => by simp at hz) (by simp) 0 0
    have HPR := Lib.hid h
    clear hS hR hO hP hd h hbk hz
    go_enter Try.func16, Try.ntmps16
    go_wp2_with (first
      | (go_at_call 12; refine hT.mono ?_; rintro e w1 ⟨rfl, rfl⟩)
      | (go_at_call 34; refine hT2.mono ?_; rintro e w1 ⟨rfl, rfl⟩)
      | (go_at_call 35; refine hI.mono ?_; rintro e w1 ⟨rfl, q, rfl⟩))
    go_ret
    exact ⟨rfl, st, (HPR.out.below (hb.trans (below_drewN _ _ _))).mono (by omega), (hb.mono hBw).trans (below_drewN _ _ _)⟩
  · have hge : st.now ≤ n := by omega
    have hT := tick_s hS hc (by rw [hz]; omega) hge hn1
    have hap : st.l.Pairwise fun t u => t.b ≠ u.b := by obtain ⟨va, mb, vt, m, hM, _⟩ := hS; exact hM.apart
    have I : Inv c st := by obtain ⟨va, mb, vt, m, _, _, _, I, _⟩ := hS; exact I
    have hll := I.len
    have HO := Lib.hid hO
    have HP := Lib.hid hP
    have HDD := Lib.hid hd
    have HZ := Lib.hid hz
    have x2 := hbk.cell 2 (v := .int .u64 n) rfl
    have HAP := Lib.hid hap
    have HI := Lib.hid I
    clear hS hO hP hd h hbk hz hap I
    go_enter Try.func16, Try.ntmps16
    go_wp2_with fail
    refine hT.mono ?_
    rintro e w1 ⟨A1, k1, ts, st1, rfl, hC1, hTr, hdue, hS1, F1⟩
    have hR1 := hR.move F1 (fun x hx _ ho => HDD.out x ho hx)
    have z1 := F1.size
    have hB1 : B ≤ w1.heap.size := by rw [HZ.out] at z1; omega
    have hT2 := tick_r HI.out HAP.out hc hge hn1 hTr hdue hR1 hB1
    have hts : ts.length ≤ 100000 := by
      have h1 := hTr.count HAP.out
      have h2 : due n ({ st with now := n } : St).l ≤ st.l.length := List.length_filter_le _ _
      omega
    have y2 : w1.cell? ⟨w.heap.size, 2, none⟩ = some (.int .u64 n) := (World.cell?_of_block (a := ⟨w.heap.size, 2, none⟩) (F1.block w.heap.size (by rw [HZ.out]; omega) (fun x => by have := (HO.out _ x).2; omega))).trans x2
    have HC1 := Lib.hid hC1
    have HS1 := Lib.hid hS1
    clear hT hR hTr hdue hC1 hS1 hR1
    go_wp2_with fail
    refine hT2.mono ?_
    rintro e w2 ⟨A2, k2, rfl, hC2, hR2, F2⟩
    have hC1' := HC1.out.fr F2 (fun x h1 h2 hp => by have := (HP.out x hp).2; rw [HZ.out] at h1; omega)
    have hI := ids_len hC1' hC2 hts k1 k2
    obtain ⟨hPP, hBB⟩ := pair_fin (fun x hx => ⟨(HO.out x hx).1, by have := (HO.out x hx).2; rw [HZ.out]; omega⟩) (fun x hx => ⟨(HP.out x hx).1, by have := (HP.out x hx).2; rw [HZ.out]; omega⟩) HDD.out (by rw [HZ.out]; omega) HS1.out F1 hR2 F2
    clear hC1' hC2 hT2
    go_wp2_with fail
    refine hI.mono ?_
    rintro e w3 ⟨rfl, hB3⟩
    go_wp2
    go_ret
    exact ⟨rfl, st1, hPP.below hB3, ((hb.mono hBw).trans hBB).trans (hB3.mono (by have := F2.size; omega))⟩

set_option maxRecDepth 100000 in
set_option maxHeartbeats 4000000 in
theorem does_p {B c s r : Nat} {w : World} {st : St} (h : Pair B c w s r st) (hc : c ≤ 1000) (hBw : B ≤ w.heap.size) {d id n : Int} (hn0 : 0 ≤ n) (hn1 : n < 18446744073709551616) (h0 : (d == 0) = false) (h2 : (d == 2) = false) (h3 : (d == 3) = false) (h4 : (d == 4) = false) (h5 : (d == 5) = false) (h6 : (d == 6) = false) :
    Calls Try.prog 16 #[ptr s, ptr r, .agg #[.int .i64 d, .int .u64 id, .int .u64 n]] w (DoesEnds B (c + 1) w s r) := by
  have hb := (Below.refl w.heap.size w).alloc (Nat.le_refl _) (.cells #[.int .i64 d, .int .u64 id, .int .u64 n] 45)
  have hbk := Blk.new w 45 #[.int .i64 d, .int .u64 id, .int .u64 n]
  have hz : (w.alloc (.cells #[.int .i64 d, .int .u64 id, .int .u64 n] 45)).heap.size = w.heap.size + 1 := by simp
  have hPR := h
  obtain ⟨O, P, hSx, hRx, hO, hP, hd⟩ := hPR
  have hS := hSx.below hb
  have hR := hRx.below hb
  clear hSx hRx
  obtain ⟨y, z, st', hf, hg⟩ := pick_twin (r := r) hS hc hn0 hn1
  have hf' : Calls Try.prog 10 #[ptr s, .int .u64 n] (w.alloc (.cells #[.int .i64 d, .int .u64 id, .int .u64 n] 45)) _ := hf
  have HG := Lib.hid hg
  have HO := Lib.hid hO
  have HP := Lib.hid hP
  have HDD := Lib.hid hd
  have HZ := Lib.hid hz
  have x2 := hbk.cell 2 (v := .int .u64 n) rfl
  clear hf hg hO hP hd h hz hS hbk
  go_enter Try.func16, Try.ntmps16
  go_wp2_with fail
  refine hf'.mono ?_
  rintro e w1 ⟨rfl, hS1, F1⟩
  have hR1 := hR.move F1 (fun x hx _ ho => HDD.out x ho hx)
  have z1 := F1.size
  have hB1 : B ≤ w1.heap.size := by rw [HZ.out] at z1; omega
  have hg1 : Calls Try.prog 37 #[ptr r, .int .u64 n] w1 _ := HG.out w1 P hR1 hB1
  have y2 : w1.cell? ⟨w.heap.size, 2, none⟩ = some (.int .u64 n) := (World.cell?_of_block (a := ⟨w.heap.size, 2, none⟩) (F1.block w.heap.size (by rw [HZ.out]; omega) (fun x => by have := (HO.out _ x).2; omega))).trans x2
  have HS1 := Lib.hid hS1
  clear hf' hR hS1 hR1
  go_wp2_with fail
  refine hg1.mono ?_
  rintro e w2 ⟨rfl, hR2, F2⟩
  obtain ⟨hPP, hBB⟩ := pair_fin (fun x hx => ⟨(HO.out x hx).1, by have := (HO.out x hx).2; rw [HZ.out]; omega⟩) (fun x hx => ⟨(HP.out x hx).1, by have := (HP.out x hx).2; rw [HZ.out]; omega⟩) HDD.out (by rw [HZ.out]; omega) HS1.out F1 hR2 F2
  clear hg1 hR2
  go_wp2
  go_ret
  exact ⟨rfl, st', hPP, (hb.mono hBw).trans hBB⟩
end Go.Proofs.Ytlkphbcdgkjnoaa
