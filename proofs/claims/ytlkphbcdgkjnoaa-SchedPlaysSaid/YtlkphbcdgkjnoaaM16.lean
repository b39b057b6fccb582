/- Until, whoever sleeps. -/
import Derived.Test.YtlkphbcdgkjnoaaM15
import Derived.StillTailTactics
namespace Go.Proofs.Ytlkphbcdgkjnoaa
open Go.RowKit Go.Maps

set_option maxRecDepth 100000 in
set_option maxHeartbeats 2000000 in
theorem until_any {B : Nat} {w : World} {s mb n : Nat} {va vt : Value} {st : St} (h : Mem B w s va mb vt n st) (hG : Good st) {t : T} (ht : t ∈ st.l) (hid : (Lit.int .u64 t.id).wf = true) (hb : blkOf st.l t.id = t.b)
    (z : Int) (hn0 : 0 ≤ st.now) (hz0 : st.now < z) (hz1 : z < 18446744073709551616) (hBw : B ≤ w.heap.size) (hlen : st.hp.length ≤ 100000) :
    Calls Try.prog 11 #[ptr s, .int .u64 t.id, .int .u64 z] w fun e w' => e = .returned (.int .i64 0) ∧ (∃ vt' hp', hp'.length ≤ st.hp.length + 1 ∧ Mem B w' s va mb vt' n { st with l := turned t.b (t.put z) st.l, hp := hp' } ∧ Good { st with l := turned t.b (t.put z) st.l, hp := hp' }) ∧ Below B w w' := by
  have hF := find_some h hid hb
  have hR := ready_any h hG ht (by omega)
  obtain ⟨c0, c1, c2, c3, c4, c5⟩ := h.str.six
  obtain ⟨i0, hi, hy0, hy1, hy2⟩ := info_parts Try.inf60
  go_enter Try.func11, Try.ntmps11
  go_wp2_with (go_at_call 26; refine hF.mono ?_; rintro e w3 ⟨rfl, rfl⟩)
  refine hR.mono ?_
  rintro e w1 ⟨rfl, ⟨vt1, hp1, hob, hl1, hm1, M1, G1⟩, B1⟩
  have hlt := h.hs
  have htB := h.ht t ht
  have hap := h.apart
  clear hF hR c0 c1 c2 c3 c4 c5 hb h
  have M2a := Mem.again (st := { st with hp := hp1 }) M1 ht rfl 2 (.bool true) { t.rested with asleep := true } rfl rfl rfl
  have M2b := Mem.again (st := { st with hp := hp1 }) M2a ht rfl 3 (.bool true) { t.rested with asleep := true, timed := true } rfl rfl rfl
  have M2 := Mem.again (st := { st with hp := hp1 }) M2b ht rfl 4 (.int .u64 z) (t.put z) rfl rfl rfl
  have B2 := ((B1.setCell (p := ⟨t.b, 2, none⟩) htB (.bool true)).setCell (p := ⟨t.b, 3, none⟩) htB (.bool true)).setCell (p := ⟨t.b, 4, none⟩) htB (.int .u64 z)
  have mt : t.rested ∈ turned t.b t.rested st.l := turned_mem ht
  obtain ⟨t0, t1, t2, t3, t4, t5⟩ := (M1.tasks _ mt).six
  have tf := fun k => (M1.tasks _ mt).frozen k
  have eb : t.rested.b = t.b := rfl
  simp only [eb] at t0 t1 t2 t3 t4 t5 tf
  obtain ⟨A, cap, hv⟩ := row_form M1.tim
  obtain ⟨m, hm⟩ : ∃ m, hp1.length = m := ⟨_, rfl⟩
  replace hv : vt1 = .slice A m cap := by rw [hv]; show Value.slice A hp1.length cap = _; rw [hm]
  subst hv
  obtain ⟨d0, d1, d2, d3, d4, d5⟩ := M2.str.six
  have df := fun k => M2.str.frozen k
  obtain ⟨w2, hw2⟩ : ∃ w2, ((w1.setCell ⟨t.b, 2, none⟩ (.bool true)).setCell ⟨t.b, 3, none⟩ (.bool true)).setCell ⟨t.b, 4, none⟩ (.int .u64 z) = w2 := ⟨_, rfl⟩
  rw [hw2] at d0 d1 d2 d3 d4 d5 df M2 B2
  have T2 : w2.ownsRow B 60 1 (.slice A m cap) m (hp1.map ptr) := by
    have := M2.tim
    rw [← hm]
    rw [← hm] at this
    exact this
  have T3 := T2.alloc (.cells #[.pointer (some ⟨t.b, 0, none⟩)] 60)
  have hnew := cell_one_new w2 (.pointer (some ⟨t.b, 0, none⟩)) 60
  have MA := M2.alloc (.cells #[.pointer (some ⟨t.b, 0, none⟩)] 60)
  have hBw2 : B ≤ w2.heap.size := Nat.le_trans hBw B2.size
  have BA := B2.alloc hBw2 (.cells #[.pointer (some ⟨t.b, 0, none⟩)] 60)
  have HM := Lib.hid hm
  clear M2a M2b mt eb M1 B1 T2 hm hob
  go_wp2_with (at_builtin; refine wpList_append_own_at _ rfl _ _ 57 rfl B 60 i0 (.pointer none) 1 8 Try.und57 hi hy0 hy1 hy2 rfl (by decide) _ m _ rfl T3 ⟨w2.heap.size, 0, none⟩ 1 1 [.pointer (some ⟨t.b, 0, none⟩)] rfl rfl hnew (by simp [Value.oneCell']) (by unfold maxLen; have := HM.out; omega) (by have := HM.out; omega) (by simp; omega) ?_)
  intro v' w3 hown' hgrow _ hloc
  obtain ⟨g', cap', hv⟩ := ownsRow_succ hown'
  subst hv
  have hnin : t.b ∉ hp1 := fun x => ((hm1 t.b).1 x).2 rfl
  have hrows := MA.rows
  have hgl : g' < w3.heap.size := by obtain ⟨_, ⟨cc, hcc⟩, _, _⟩ := row_blk hown'; exact hcc.lt
  have S3 := MA.str.kept hgrow (MA.str.not_row (show (59 : Nat) ≠ 60 by decide) T3)
  have A3 : w3.ownsRow B 60 1 va _ _ := MA.all.kept hgrow (by
    cases e : va.ownBlock with
    | none => exact .inl rfl
    | some k => exact .inr (fun e' => hrows k e e'.symm))
  have P3 := MA.map.kept hgrow (MA.map.not_row T3)
  have K3 := fun u hu => (MA.tasks u hu).kept hgrow ((MA.tasks u hu).not_row (by decide) T3)
  have B3 := BA.grown hgrow (by simp; omega) (fun k hk => (World.ownsRow.lt T3 k hk).1)
  have k4 := grownBy_set w3 s 5 (.slice (some ⟨g', 0, none⟩) (m + 1) cap')
  have S4 : Blk (w3.setCell ⟨s, 5, none⟩ (.slice (some ⟨g', 0, none⟩) (m + 1) cap')) s 59 #[.int .i64 st.pat, .int .u64 st.now, .int .u64 st.ord, va, .map (some mb), .slice (some ⟨g', 0, none⟩) (m + 1) cap'] := S3.set 5 _
  have hva : ∀ k, va.ownBlock = some k → k < w2.heap.size := fun k hk => (M2.all.lt k hk).2
  have M4 : Mem B (w3.setCell ⟨s, 5, none⟩ (.slice (some ⟨g', 0, none⟩) (m + 1) cap')) s va mb (.slice (some ⟨g', 0, none⟩) (m + 1) cap') n { st with l := turned t.b (t.put z) st.l, hp := hp1 ++ [t.b] } := by
    refine ⟨S4, A3.kept k4 (.inr (S3.not_row (by decide) A3).symm), ?_, ?_, P3.kept k4 (by simpa using (P3.ne S3).symm), fun u hu => (K3 u hu).kept k4 (by simpa using ((K3 u hu).ne S3 (by decide))), MA.apart, MA.hs, MA.hm, MA.ht⟩
    · have := hown'.kept k4 (.inr (S3.not_row (by decide) hown').symm)
      show World.ownsRow _ _ _ _ _ (hp1 ++ [t.b]).length ((hp1 ++ [t.b]).map ptr)
      rw [List.length_append, HM.out, List.map_append]
      exact this
    · intro k hk hk'
      rcases hloc with e | e
      · exact hrows k hk (e.symm.trans hk')
      · rw [e] at hk'
        have := hva k hk
        injection hk' with hk'
        omega
  have B4 := B3.setCell (p := ⟨s, 5, none⟩) hlt (.slice (some ⟨g', 0, none⟩) (m + 1) cap')
  obtain ⟨x0, x1, x2, x3, x4, x5⟩ := S3.six
  have xf := fun k => S3.frozen k
  obtain ⟨y0, y1, y2, y3, y4, y5⟩ := S4.six
  have hb1 : -9223372036854775808 ≤ (m : Int) ∧ (m : Int) ≤ 100000 := by have := HM.out; omega
  clear S3 A3 P3 K3 B3 k4 S4 hown' d0 d1 d2 d3 d4 d5 df t0 t1 t2 t3 t4 t5 tf M2 MA B2 BA
  go_wp2_with fail
  obtain ⟨W4, hW4⟩ : ∃ W4, w3.setCell ⟨s, 5, none⟩ (.slice (some ⟨g', 0, none⟩) (m + 1) cap') = W4 := ⟨_, rfl⟩
  rw [hW4] at y0 y1 y2 y3 y4 y5 M4 B4 ⊢
  have y5' : World.cell? { W4 with drawn := W4.drawn + 1 } ⟨s, 5, none⟩ = some (.slice (some ⟨g', 0, none⟩) (m + 1) cap') := y5
  clear hW4 x0 x1 x2 x3 x4 x5 xf
  go_still_tail 10, (by kernel_rfl)
  change wpList _ _ _ _ _ W4.drew
  have M5 : Mem B W4.drew s va mb (.slice (some ⟨g', 0, none⟩) (m + 1) cap') n { st with l := turned t.b (t.put z) st.l, hp := hp1 ++ [t.b] } := M4.grown ⟨rfl, rfl, rfl, Nat.le_refl _, fun _ _ _ => rfl⟩
  have B5 : Below B w W4.drew := B4.trans ⟨rfl, rfl, rfl, Nat.le_refl _, fun _ _ => rfl⟩
  clear M4 B4 y0 y1 y2 y3 y4 y5 y5'
  revert M5 B5
  generalize W4.drew = W5
  intro M5 B5
  have htl : (hp1 ++ [t.b]).length = m + 1 := by rw [List.length_append, HM.out]; rfl
  have htim := M5.tim
  simp only [htl] at htim
  obtain ⟨_, hBg, hcc, hcm, hR5⟩ := hrow_of htim
  obtain ⟨cur5, hb5, _, _⟩ := id hR5
  have hheap1 := G1.heap
  simp only [HM.out] at hheap1
  have hh2 : Heap (leK (keyOf (turned t.b (t.put z) st.l))) (at' hp1) hp1.length := by
    have := heap_turned (t := t) (t' := t.put z) (l := turned t.b t.rested st.l) (turned_apart hap rfl) rfl hnin G1.sub G1.heap
    rw [turned_turned (b := t.b) (t1 := t.rested) rfl] at this
    exact this
  have hbut := but_snoc (b := t.b) hh2
  rw [HM.out] at hbut
  have hmem5 : ∀ i, i < m + 1 → ∃ u ∈ turned t.b (t.put z) st.l, u.b = at' (hp1 ++ [t.b]) i := fun i hi => by
    have hx := at_mem (hp := hp1 ++ [t.b]) (i := i) (by omega)
    rcases List.mem_append.1 hx with hx | hx
    · obtain ⟨u, hu, e⟩ := G1.sub _ hx
      obtain ⟨v, hv, rfl⟩ := List.mem_map.1 hu
      by_cases e2 : v.b = t.b
      · rw [if_pos e2] at e
        exact absurd (by rw [show t.b = t.rested.b from rfl, e]; exact hx) hnin
      · rw [if_neg e2] at e
        exact ⟨v, List.mem_map.2 ⟨v, hv, if_neg e2⟩, e⟩
    · rw [List.mem_singleton] at hx
      exact ⟨t.put z, turned_mem ht, hx.symm⟩
  have K5 : Keys W5 (keyOf (turned t.b (t.put z) st.l)) g' (at' (hp1 ++ [t.b])) (m + 1) := fun i hi => by
    obtain ⟨u, hu, e⟩ := hmem5 i hi
    rw [← e, keyOf_mem M5.apart hu]
    exact ⟨(M5.tasks u hu).ne hb5 (by decide), (M5.tasks u hu).cell 4 rfl, (M5.tasks u hu).cell 1 rfl⟩
  have hU := up_any (cap := cap') hR5 (show m < m + 1 by omega) (by omega) hcc K5 hbut.hole
  have HBT := Lib.hid hbut
  have HTL := Lib.hid htl
  clear hbut htl htim hheap1 hh2 hm1 hw2 hnew T3 hgrow hloc hrows hva
  go_wp2_with fail
  rw [HM.out]
  refine hU.mono ?_
  rintro e w6 ⟨rfl, g6, h6, hR6, hS6, hh6⟩
  have HX := Lib.hid hmem5
  have HK := Lib.hid K5
  clear hU hmem5 K5
  go_wp2
  have hH6 : Heap (leK (keyOf (turned t.b (t.put z) st.l))) h6 (m + 1) := by
    rcases hh6 with x | ⟨rfl, x⟩
    · exact x
    · exact HBT.out.done x
  go_ret
  have hS6' : Same (at' (hp1 ++ [t.b])) h6 (hp1 ++ [t.b]).length := by rw [HTL.out]; exact hS6
  have hmem := same_mem hS6'
  have hnd := same_nodup (List.nodup_append.2 ⟨G1.nodup, (by simp), fun a ha b hb e => by rw [List.mem_singleton] at hb; exact hnin (by rw [← hb, ← e]; exact ha)⟩) hS6'
  rw [HTL.out] at hmem hnd
  have R6 := row_of hR6 hBg hcc hcm
  have hag : va.ownBlock ≠ some g' := fun e => M5.rows g' e rfl
  refine ⟨rfl, ⟨.slice (some ⟨g', 0, none⟩) (m + 1) cap', rowOf h6 (m + 1), ?_, ?_, ?_⟩, B5.grown g6 (by have := B5.size; omega) (fun k hk => by cases hk; exact hBg)⟩
  · rw [rowOf_length]
    have := HM.out
    omega
  · refine ⟨M5.str.kept g6 (by simpa using M5.str.ne hb5 (by decide)), M5.all.kept g6 (.inr hag), ?_, M5.rows, M5.map.kept g6 (by simpa using (M5.map.ne hb5).symm), fun u hu => (M5.tasks u hu).kept g6 (by simpa using ((M5.tasks u hu).ne hb5 (by decide))), M5.apart, M5.hs, M5.hm, M5.ht⟩
    show World.ownsRow _ _ _ _ _ (rowOf h6 (m + 1)).length _
    rw [rowOf_length]
    exact R6
  · refine ⟨hnd, fun u' hu' => ?_, fun b hb => ?_, ?_⟩
    · show _ ↔ u'.b ∈ rowOf h6 (m + 1)
      rw [hmem, List.mem_append, List.mem_singleton]
      obtain ⟨u, hu, rfl⟩ := List.mem_map.1 hu'
      by_cases e : u.b = t.b
      · rw [if_pos e]
        exact ⟨fun _ => .inr rfl, fun _ => rfl⟩
      · rw [if_neg e]
        have hur : u ∈ turned t.b t.rested st.l := List.mem_map.2 ⟨u, hu, if_neg e⟩
        rw [G1.mem u hur]
        exact ⟨fun x => .inl x, fun x => x.resolve_right e⟩
    · obtain ⟨i, hi, rfl⟩ := mem_rowOf.1 hb
      obtain ⟨k, hk, e⟩ := hS6.out i hi
      obtain ⟨u, hu, e2⟩ := HX.out k hk
      exact ⟨u, hu, by rw [e2, e]⟩
    · show Heap _ (at' (rowOf h6 (m + 1))) (rowOf h6 (m + 1)).length
      rw [rowOf_length]
      exact heap_cong (fun i hi => (at_rowOf hi).symm) (fun _ _ => rfl) hH6
end Go.Proofs.Ytlkphbcdgkjnoaa
