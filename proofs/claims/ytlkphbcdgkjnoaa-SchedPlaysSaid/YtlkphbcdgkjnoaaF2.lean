/- What a call leaves alone: ready, Until and Tick, with their frames. (Until and Tick are M16's and M17's proofs, turned by mkF2.py.) -/
import Derived.Test.YtlkphbcdgkjnoaaF1
namespace Go.Proofs.Ytlkphbcdgkjnoaa
open Go.RowKit Go.Maps

theorem Fr.rest {O : Nat → Prop} {w W : World} (h : Fr O w W) {b : Nat} (hb : b < w.heap.size → O b) : Fr O w (restW W b) := (((h.set hb _ _).set hb _ _).set hb _ _).set hb _ _
/-- ready, of anybody. -/
theorem ready_full {B : Nat} {w : World} {s mb n : Nat} {va vt : Value} {st : St} (h : Mem B w s va mb vt n st) (hG : Good st) {t : T} (ht : t ∈ st.l) (hlen : st.hp.length ≤ 1000000) :
    Calls Try.prog 27 #[ptr s, ptr t.b] w fun e w' => e = .returned (.tuple #[]) ∧ (∃ vt' hp', vt'.ownBlock = vt.ownBlock ∧ hp'.length ≤ st.hp.length ∧ (∀ b, b ∈ hp' ↔ (b ∈ st.hp ∧ b ≠ t.b)) ∧ Mem B w' s va mb vt' n { st with l := turned t.b t.rested st.l, hp := hp' } ∧ Good { st with l := turned t.b t.rested st.l, hp := hp' }) ∧ Fr (Own s va mb vt st.l) w w' := by
  have hO : Own s va mb vt st.l t.b := .inr (.inr (.inr (.inr ⟨t, ht, rfl⟩)))
  cases hti : t.timed
  · refine (ready_idle h ht hti).mono ?_
    rintro e w' ⟨he, rfl⟩
    have hn : t.b ∉ st.hp := fun x => by
      have := (hG.mem t ht).2 x
      rw [hti] at this
      cases this
    refine ⟨he, ⟨vt, st.hp, rfl, Nat.le_refl _, fun b => ⟨fun x => ⟨x, fun e => hn (e ▸ x)⟩, fun x => x.1⟩, h.rest ht, ?_⟩, (Fr.refl _ w).rest (fun _ => hO)⟩
    refine ⟨hG.nodup, fun u' hu' => ?_, fun b hb => ?_, heap_turned h.apart rfl hn hG.sub hG.heap⟩
    · obtain ⟨u, hu, rfl⟩ := List.mem_map.1 hu'
      by_cases e : u.b = t.b
      · rw [if_pos e]
        constructor
        · intro x; cases x
        · intro x; exact absurd x hn
      · rw [if_neg e]
        exact hG.mem u hu
    · obtain ⟨u, hu, e⟩ := hG.sub b hb
      exact ⟨u, List.mem_map.2 ⟨u, hu, if_neg (fun x => hn (by rw [← x, e]; exact hb))⟩, e⟩
  · refine (ready_timed h hG ht hti hlen).mono ?_
    rintro e w' ⟨he, ⟨vt', hp', h1, h2, h3, h4, h5⟩, hB, hF⟩
    exact ⟨he, ⟨vt', hp', h1, by omega, h3, h4, h5⟩, hB.os, hB.tape, hB.output, hB.size, fun k hk hn => hF k (fun e => hn (.inr (.inr (.inr (.inl e))))) (fun e => hn (.inl e)) (fun e => hn (by rw [e]; exact hO)) hk⟩
theorem Trail.blks {z : Int} {st st' : St} {ts : List T} (h : Trail z st ts st') : ∀ t ∈ st'.l, ∃ u ∈ st.l, u.b = t.b := by
  induction h with
  | nil => exact fun t ht => ⟨t, ht, rfl⟩
  | @snoc st1 ts t hp' h1 ht hti ha hmin _ ih =>
    intro u hu
    obtain ⟨v, hv, rfl⟩ := List.mem_map.1 hu
    obtain ⟨x, hx, e⟩ := ih v hv
    refine ⟨x, hx, ?_⟩
    split
    · rename_i e2
      rw [e, e2]; rfl
    · exact e

set_option maxRecDepth 100000 in
set_option maxHeartbeats 2000000 in
theorem until_full {B : Nat} {w : World} {s mb n : Nat} {va vt : Value} {st : St} (h : Mem B w s va mb vt n st) (hG : Good st) {t : T} (ht : t ∈ st.l) (hid : (Lit.int .u64 t.id).wf = true) (hb : blkOf st.l t.id = t.b)
    (z : Int) (hn0 : 0 ≤ st.now) (hz0 : st.now < z) (hz1 : z < 18446744073709551616) (hBw : B ≤ w.heap.size) (hlen : st.hp.length ≤ 100000) :
    Calls Try.prog 11 #[ptr s, .int .u64 t.id, .int .u64 z] w fun e w' => e = .returned (.int .i64 0) ∧ (∃ vt' hp', hp'.length ≤ st.hp.length + 1 ∧ (∀ k, vt'.ownBlock = some k → vt.ownBlock = some k ∨ w.heap.size ≤ k) ∧ Mem B w' s va mb vt' n { st with l := turned t.b (t.put z) st.l, hp := hp' } ∧ Good { st with l := turned t.b (t.put z) st.l, hp := hp' }) ∧ Fr (Own s va mb vt st.l) w w' := by
  have hF := find_some h hid hb
  have hR := ready_full h hG ht (by omega)
  obtain ⟨c0, c1, c2, c3, c4, c5⟩ := h.str.six
  obtain ⟨i0, hi, hy0, hy1, hy2⟩ := info_parts Try.inf60
  go_enter Try.func11, Try.ntmps11
  go_wp2_with (go_at_call 26; refine hF.mono ?_; rintro e w3 ⟨rfl, rfl⟩)
  refine hR.mono ?_
  rintro e w1 ⟨rfl, ⟨vt1, hp1, hob, hl1, hm1, M1, G1⟩, B1⟩
  have hOt : t.b < w.heap.size → Own s va mb vt st.l t.b := fun _ => .inr (.inr (.inr (.inr ⟨t, ht, rfl⟩)))
  have HOB := Lib.hid hob
  have htB := h.ht t ht
  have hap := h.apart
  clear hF hR c0 c1 c2 c3 c4 c5 hb h
  have M2a := Mem.again (st := { st with hp := hp1 }) M1 ht rfl 2 (.bool true) { t.rested with asleep := true } rfl rfl rfl
  have M2b := Mem.again (st := { st with hp := hp1 }) M2a ht rfl 3 (.bool true) { t.rested with asleep := true, timed := true } rfl rfl rfl
  have M2 := Mem.again (st := { st with hp := hp1 }) M2b ht rfl 4 (.int .u64 z) (t.put z) rfl rfl rfl
  have B2 := ((B1.set hOt 2 (.bool true)).set hOt 3 (.bool true)).set hOt 4 (.int .u64 z)
  have mt : t.rested ∈ turned t.b t.rested st.l := turned_mem ht
  obtain ⟨t0, t1, t2, t3, t4, t5⟩ := (M1.tasks _ mt).six
  have tf := fun k => (M1.tasks _ mt).frozen k
  have eb : t.rested.b = t.b := rfl
  simp only [eb] at t0 t1 t2 t3 t4 t5 tf
  obtain ⟨A, cap, hv⟩ := row_form M1.tim
  obtain ⟨m, hm⟩ : ∃ m, hp1.length = m := ⟨_, rfl⟩
  replace hv : vt1 = .slice A m cap := by rw [hv]; show Value.slice A hp1.length cap = _; rw [hm]
  subst hv
  obtain ⟨d0, d1, d2, d3, d4, d5⟩ := M2.str.six
  have df := fun k => M2.str.frozen k
  obtain ⟨w2, hw2⟩ : ∃ w2, ((w1.setCell ⟨t.b, 2, none⟩ (.bool true)).setCell ⟨t.b, 3, none⟩ (.bool true)).setCell ⟨t.b, 4, none⟩ (.int .u64 z) = w2 := ⟨_, rfl⟩
  rw [hw2] at d0 d1 d2 d3 d4 d5 df M2 B2
  have T2 : w2.ownsRow B 60 1 (.slice A m cap) m (hp1.map ptr) := by
    have := M2.tim
    rw [← hm]
    rw [← hm] at this
    exact this
  have T3 := T2.alloc (.cells #[.pointer (some ⟨t.b, 0, none⟩)] 60)
  have hnew := cell_one_new w2 (.pointer (some ⟨t.b, 0, none⟩)) 60
  have MA := M2.alloc (.cells #[.pointer (some ⟨t.b, 0, none⟩)] 60)
  have hBw2 : B ≤ w2.heap.size := Nat.le_trans hBw B2.size
  have BA := B2.alloc (.cells #[.pointer (some ⟨t.b, 0, none⟩)] 60)
  have HM := Lib.hid hm
  clear M2a M2b mt eb M1 B1 T2 hm hob
  go_wp2_with (at_builtin; refine wpList_append_own_at _ rfl _ _ 57 rfl B 60 i0 (.pointer none) 1 8 Try.und57 hi hy0 hy1 hy2 rfl (by decide) _ m _ rfl T3 ⟨w2.heap.size, 0, none⟩ 1 1 [.pointer (some ⟨t.b, 0, none⟩)] rfl rfl hnew (by simp [Value.oneCell']) (by unfold maxLen; have := HM.out; omega) (by have := HM.out; omega) (by simp; omega) ?_)
  intro v' w3 hown' hgrow _ hloc
  obtain ⟨g', cap', hv⟩ := ownsRow_succ hown'
  subst hv
  have hnin : t.b ∉ hp1 := fun x => ((hm1 t.b).1 x).2 rfl
  have hrows := MA.rows
  have hgl : g' < w3.heap.size := by obtain ⟨_, ⟨cc, hcc⟩, _, _⟩ := row_blk hown'; exact hcc.lt
  have S3 := MA.str.kept hgrow (MA.str.not_row (show (59 : Nat) ≠ 60 by decide) T3)
  have A3 : w3.ownsRow B 60 1 va _ _ := MA.all.kept hgrow (by
    cases e : va.ownBlock with
    | none => exact .inl rfl
    | some k => exact .inr (fun e' => hrows k e e'.symm))
  have P3 := MA.map.kept hgrow (MA.map.not_row T3)
  have K3 := fun u hu => (MA.tasks u hu).kept hgrow ((MA.tasks u hu).not_row (by decide) T3)
  have B3 := BA.grown hgrow (fun k hk _ => .inr (.inr (.inr (.inl (HOB.out.symm.trans hk)))))
  have HGO : Hid (g' < w.heap.size → vt.ownBlock = some g') := by
    show g' < w.heap.size → vt.ownBlock = some g'
    intro hx
    rcases hloc with e | e
    · exact HOB.out.symm.trans e.symm
    · have hsz := B2.size
      have e : some g' = _ := e
      injection e with e
      omega
  have k4 := grownBy_set w3 s 5 (.slice (some ⟨g', 0, none⟩) (m + 1) cap')
  have S4 : Blk (w3.setCell ⟨s, 5, none⟩ (.slice (some ⟨g', 0, none⟩) (m + 1) cap')) s 59 #[.int .i64 st.pat, .int .u64 st.now, .int .u64 st.ord, va, .map (some mb), .slice (some ⟨g', 0, none⟩) (m + 1) cap'] := S3.set 5 _
  have hva : ∀ k, va.ownBlock = some k → k < w2.heap.size := fun k hk => (M2.all.lt k hk).2
  have M4 : Mem B (w3.setCell ⟨s, 5, none⟩ (.slice (some ⟨g', 0, none⟩) (m + 1) cap')) s va mb (.slice (some ⟨g', 0, none⟩) (m + 1) cap') n { st with l := turned t.b (t.put z) st.l, hp := hp1 ++ [t.b] } := by
    refine ⟨S4, A3.kept k4 (.inr (S3.not_row (by decide) A3).symm), ?_, ?_, P3.kept k4 (by simpa using (P3.ne S3).symm), fun u hu => (K3 u hu).kept k4 (by simpa using ((K3 u hu).ne S3 (by decide))), MA.apart, MA.hs, MA.hm, MA.ht⟩
    · have := hown'.kept k4 (.inr (S3.not_row (by decide) hown').symm)
      show World.ownsRow _ _ _ _ _ (hp1 ++ [t.b]).length ((hp1 ++ [t.b]).map ptr)
      rw [List.length_append, HM.out, List.map_append]
      exact this
    · intro k hk hk'
      rcases hloc with e | e
      · exact hrows k hk (e.symm.trans hk')
      · rw [e] at hk'
        have := hva k hk
        injection hk' with hk'
        omega
  have B4 := B3.set (b := s) (fun _ => .inl rfl) 5 (.slice (some ⟨g', 0, none⟩) (m + 1) cap')
  obtain ⟨x0, x1, x2, x3, x4, x5⟩ := S3.six
  have xf := fun k => S3.frozen k
  obtain ⟨y0, y1, y2, y3, y4, y5⟩ := S4.six
  have hb1 : -9223372036854775808 ≤ (m : Int) ∧ (m : Int) ≤ 100000 := by have := HM.out; omega
  clear S3 A3 P3 K3 B3 k4 S4 hown' d0 d1 d2 d3 d4 d5 df t0 t1 t2 t3 t4 t5 tf M2 MA B2 BA
  go_wp2_with fail
  obtain ⟨W4, hW4⟩ : ∃ W4, w3.setCell ⟨s, 5, none⟩ (.slice (some ⟨g', 0, none⟩) (m + 1) cap') = W4 := ⟨_, rfl⟩
  rw [hW4] at y0 y1 y2 y3 y4 y5 M4 B4 ⊢
  have y5' : World.cell? { W4 with drawn := W4.drawn + 1 } ⟨s, 5, none⟩ = some (.slice (some ⟨g', 0, none⟩) (m + 1) cap') := y5
  clear hW4 x0 x1 x2 x3 x4 x5 xf
  go_still_tail 10, (by kernel_rfl)
  change wpList _ _ _ _ _ W4.drew
  have M5 : Mem B W4.drew s va mb (.slice (some ⟨g', 0, none⟩) (m + 1) cap') n { st with l := turned t.b (t.put z) st.l, hp := hp1 ++ [t.b] } := M4.grown ⟨rfl, rfl, rfl, Nat.le_refl _, fun _ _ _ => rfl⟩
  have B5 : Fr (Own s va mb vt st.l) w W4.drew := ⟨B4.os, B4.tape, B4.output, B4.size, B4.block⟩
  clear M4 B4 y0 y1 y2 y3 y4 y5 y5'
  revert M5 B5
  generalize W4.drew = W5
  intro M5 B5
  have htl : (hp1 ++ [t.b]).length = m + 1 := by rw [List.length_append, HM.out]; rfl
  have htim := M5.tim
  simp only [htl] at htim
  obtain ⟨_, hBg, hcc, hcm, hR5⟩ := hrow_of htim
  obtain ⟨cur5, hb5, _, _⟩ := id hR5
  have hheap1 := G1.heap
  simp only [HM.out] at hheap1
  have hh2 : Heap (leK (keyOf (turned t.b (t.put z) st.l))) (at' hp1) hp1.length := by
    have := heap_turned (t := t) (t' := t.put z) (l := turned t.b t.rested st.l) (turned_apart hap rfl) rfl hnin G1.sub G1.heap
    rw [turned_turned (b := t.b) (t1 := t.rested) rfl] at this
    exact this
  have hbut := but_snoc (b := t.b) hh2
  rw [HM.out] at hbut
  have hmem5 : ∀ i, i < m + 1 → ∃ u ∈ turned t.b (t.put z) st.l, u.b = at' (hp1 ++ [t.b]) i := fun i hi => by
    have hx := at_mem (hp := hp1 ++ [t.b]) (i := i) (by omega)
    rcases List.mem_append.1 hx with hx | hx
    · obtain ⟨u, hu, e⟩ := G1.sub _ hx
      obtain ⟨v, hv, rfl⟩ := List.mem_map.1 hu
      by_cases e2 : v.b = t.b
      · rw [if_pos e2] at e
        exact absurd (by rw [show t.b = t.rested.b from rfl, e]; exact hx) hnin
      · rw [if_neg e2] at e
        exact ⟨v, List.mem_map.2 ⟨v, hv, if_neg e2⟩, e⟩
    · rw [List.mem_singleton] at hx
      exact ⟨t.put z, turned_mem ht, hx.symm⟩
  have K5 : Keys W5 (keyOf (turned t.b (t.put z) st.l)) g' (at' (hp1 ++ [t.b])) (m + 1) := fun i hi => by
    obtain ⟨u, hu, e⟩ := hmem5 i hi
    rw [← e, keyOf_mem M5.apart hu]
    exact ⟨(M5.tasks u hu).ne hb5 (by decide), (M5.tasks u hu).cell 4 rfl, (M5.tasks u hu).cell 1 rfl⟩
  have hU := up_any (cap := cap') hR5 (show m < m + 1 by omega) (by omega) hcc K5 hbut.hole
  have HBT := Lib.hid hbut
  have HTL := Lib.hid htl
  clear hbut htl htim hheap1 hh2 hm1 hw2 hnew T3 hgrow hloc hrows hva
  go_wp2_with fail
  rw [HM.out]
  refine hU.mono ?_
  rintro e w6 ⟨rfl, g6, h6, hR6, hS6, hh6⟩
  have HX := Lib.hid hmem5
  have HK := Lib.hid K5
  clear hU hmem5 K5
  go_wp2
  have hH6 : Heap (leK (keyOf (turned t.b (t.put z) st.l))) h6 (m + 1) := by
    rcases hh6 with x | ⟨rfl, x⟩
    · exact x
    · exact HBT.out.done x
  go_ret
  have hS6' : Same (at' (hp1 ++ [t.b])) h6 (hp1 ++ [t.b]).length := by rw [HTL.out]; exact hS6
  have hmem := same_mem hS6'
  have hnd := same_nodup (List.nodup_append.2 ⟨G1.nodup, (by simp), fun a ha b hb e => by rw [List.mem_singleton] at hb; exact hnin (by rw [← hb, ← e]; exact ha)⟩) hS6'
  rw [HTL.out] at hmem hnd
  have R6 := row_of hR6 hBg hcc hcm
  have hag : va.ownBlock ≠ some g' := fun e => M5.rows g' e rfl
  refine ⟨rfl, ⟨.slice (some ⟨g', 0, none⟩) (m + 1) cap', rowOf h6 (m + 1), ?_, fun k hk => by cases hk; exact (Nat.lt_or_ge g' w.heap.size).imp HGO.out id, ?_, ?_⟩, B5.grown g6 (fun k hk hlt' => by cases hk; exact .inr (.inr (.inr (.inl (HGO.out hlt')))))⟩
  · rw [rowOf_length]
    have := HM.out
    omega
  · refine ⟨M5.str.kept g6 (by simpa using M5.str.ne hb5 (by decide)), M5.all.kept g6 (.inr hag), ?_, M5.rows, M5.map.kept g6 (by simpa using (M5.map.ne hb5).symm), fun u hu => (M5.tasks u hu).kept g6 (by simpa using ((M5.tasks u hu).ne hb5 (by decide))), M5.apart, M5.hs, M5.hm, M5.ht⟩
    show World.ownsRow _ _ _ _ _ (rowOf h6 (m + 1)).length _
    rw [rowOf_length]
    exact R6
  · refine ⟨hnd, fun u' hu' => ?_, fun b hb => ?_, ?_⟩
    · show _ ↔ u'.b ∈ rowOf h6 (m + 1)
      rw [hmem, List.mem_append, List.mem_singleton]
      obtain ⟨u, hu, rfl⟩ := List.mem_map.1 hu'
      by_cases e : u.b = t.b
      · rw [if_pos e]
        exact ⟨fun _ => .inr rfl, fun _ => rfl⟩
      · rw [if_neg e]
        have hur : u ∈ turned t.b t.rested st.l := List.mem_map.2 ⟨u, hu, if_neg e⟩
        rw [G1.mem u hur]
        exact ⟨fun x => .inl x, fun x => x.resolve_right e⟩
    · obtain ⟨i, hi, rfl⟩ := mem_rowOf.1 hb
      obtain ⟨k, hk, e⟩ := hS6.out i hi
      obtain ⟨u, hu, e2⟩ := HX.out k hk
      exact ⟨u, hu, by rw [e2, e]⟩
    · show Heap _ (at' (rowOf h6 (m + 1))) (rowOf h6 (m + 1)).length
      rw [rowOf_length]
      exact heap_cong (fun i hi => (at_rowOf hi).symm) (fun _ _ => rfl) hH6
set_option maxRecDepth 100000 in
set_option maxHeartbeats 1000000 in
theorem tick_full {B : Nat} {w : World} {s mb n : Nat} {va vt : Value} {st : St} (h : Mem B w s va mb vt n st) (hG : Good st) (z : Int) (hz : st.now ≤ z) (hBw : B ≤ w.heap.size) (hlen : st.hp.length ≤ 100000) :
    Calls Try.prog 12 #[ptr s, .int .u64 z] w fun e w' => ∃ A cap ts st' vt', e = .returned (.tuple #[.slice A ts.length cap, .int .i64 0]) ∧ (∀ k t, ts[k]? = some t → ∃ g2, A = some ⟨g2, 0, none⟩ ∧ w.heap.size ≤ g2 ∧ w'.cell? ⟨g2, k, none⟩ = some (.int .u64 t.id)) ∧
      Trail z { st with now := z } ts st' ∧ (∀ t ∈ st'.l, t.timed = true → z < t.at_) ∧ Mem B w' s va mb vt' n st' ∧ Good st' ∧ vt'.ownBlock = vt.ownBlock ∧ Fr (Own s va mb vt st.l) w w' := by
  have hN := none_any h.str
  obtain ⟨c0, c1, c2, c3, c4, c5⟩ := h.str.six
  have cf := fun k => h.str.frozen k
  have M1 := h.tell z
  have G1 : Good { st with now := z } := ⟨hG.nodup, hG.mem, hG.sub, hG.heap⟩
  have B1 := (Fr.refl (Own s va mb vt st.l) w).set (b := s) (fun _ => .inl rfl) 1 (.int .u64 z)
  obtain ⟨i0, hi, hy0, hy1, hy2⟩ := info_parts Try.inf29
  go_enter Try.func12, Try.ntmps12
  go_wp2_with (first | (go_at_call 24; refine hN.mono ?_; rintro e w3 ⟨rfl, rfl⟩))
  have sz1 : (w.setCell ⟨s, 1, none⟩ (.int .u64 z)).heap.size = w.heap.size := by simp
  obtain ⟨w1, hw1⟩ : ∃ w1, w.setCell ⟨s, 1, none⟩ (.int .u64 z) = w1 := ⟨_, rfl⟩
  rw [hw1] at M1 B1 sz1 ⊢
  clear hw1 c0 c1 c2 c3 c4 c5 sz1 cf
  go_loopw [6] (fun ov wr => ∃ ts st1 vt1, Trail z { st with now := z } ts st1 ∧ Mem B wr s va mb vt1 n st1 ∧ Good st1 ∧ Hid (vt1.ownBlock = vt.ownBlock) ∧ wr.ownsRow w.heap.size 29 1 ov ts.length (ts.map fun t => .int .u64 t.id) ∧ Fr (Own s va mb vt st.l) w wr ∧ st1.hp.length + ts.length = st.hp.length) (fun ov _ => st.hp.length - slLen ov)
  case atStart => exact ⟨[], _, _, .nil _, M1, G1, rfl, World.ownsRow_nil _ _ _ _, B1, by simp⟩
  case round =>
    clear M1 G1 B1 hN h
    obtain ⟨ts, st1, vt1, hT, hM, hGd, hVB, hO, hB, hsum⟩ := hrel
    have hblk := hT.blks
    have HBLK := Lib.hid hblk
    clear hblk
    obtain ⟨Ao, co, rfl⟩ := row_form hO
    have HS := Lib.hid hsum
    have hsle : ts.length ≤ 100000 := by omega
    clear hsum
    by_cases h0 : st1.hp.length = 0
    · have htim := hM.tim
      obtain ⟨A1, c1, hv⟩ := row_form htim
      rw [h0] at hv
      subst hv
      obtain ⟨d0, d1, d2, d3, d4, d5⟩ := hM.str.six
      obtain ⟨f1, f2, f3, f4⟩ := row_facts hO
      have hcl := clip_any Ao ts.length co f1 f2 f3
      have HF := Lib.hid f4
      have HFL := Lib.hid (World.ownsRow.lt hO)
      have H0 := Lib.hid h0
      clear hO f1 f2 f3 f4 h0 htim
      go_wp2_with fail
      refine (hcl wr).mono ?_
      rintro e w9 ⟨rfl, rfl⟩
      go_wp2
      go_ret2
      refine ⟨Ao, ts.length, ts, st1, _, rfl, fun k u hk => ?cells, hT, fun u hu hut => ?_, hM, hGd, hVB.out, hB⟩
      case cells =>
        obtain ⟨gx, ex, cx⟩ := HF.out k (.int .u64 u.id) (by rw [List.getElem?_map, hk]; rfl)
        subst ex
        exact ⟨gx, rfl, (HFL.out gx rfl).1, cx⟩
      have := (hGd.mem u hu).1 hut
      rw [List.eq_nil_of_length_eq_zero H0.out] at this
      simp at this
    · obtain ⟨m, hm⟩ : ∃ m, st1.hp.length = m + 1 := ⟨st1.hp.length - 1, by omega⟩
      have htim := hM.tim
      obtain ⟨A1, c1, hv⟩ := row_form htim
      rw [hm] at hv
      rcases htim.2 with ⟨_, e0⟩ | ⟨g, cap, cur, e0, _, _, _, _, _⟩
      · omega
      have hv1 : vt1 = .slice (some ⟨g, 0, none⟩) (m + 1) cap := by rw [e0, hm]
      clear hv e0
      subst hv1
      rw [hm] at htim
      have hx := hrow_nat htim (by omega)
      obtain ⟨t, ht, etb, htt, hmin⟩ := head_min hGd hM.apart (by omega)
      rw [← etb] at hx
      obtain ⟨d0, d1, d2, d3, d4, d5⟩ := hM.str.six
      obtain ⟨t0, t1, t2, t3, t4, t5⟩ := (hM.tasks t ht).six
      have HTM := Lib.hid htim
      have HM := Lib.hid hm
      have HTT := Lib.hid htt
      have ETB := Lib.hid etb
      clear htim hm h0 etb htt
      by_cases ha : t.at_ ≤ z
      · have hd : decide (t.at_ ≤ z) = true := by simpa using ha
        have hBr : w.heap.size ≤ wr.heap.size := hB.size
        go_wp2_with (at_builtin; refine wpList_append_own _ rfl _ _ 22 rfl w.heap.size 29 i0 (.int .u64 0) 1 8 Try.und22 hi hy0 hy1 hy2 rfl (by decide) _ ts.length _ rfl (hO.alloc _) ⟨wr.heap.size, 0, none⟩ 1 1 [.int .u64 t.id] rfl rfl (cell_one_new _ _ _) (by simp [Value.oneCell']) (by unfold maxLen; omega) (by omega) (by simp; omega) ?_)
        intro v' w2 hown' hgrow _
        obtain ⟨g2, cap2, hv⟩ := ownsRow_succ hown'
        subst hv
        have M2 := (hM.alloc (.cells #[.int .u64 t.id] 29)).kept hgrow (hM.str.not_row (by decide) hO) (rows_ne hM.all hO (by decide)) (rows_ne hM.tim hO (by decide)) (hM.map.not_row hO) (fun u hu => (hM.tasks u hu).not_row (by decide) hO)
        have B2 := (hB.alloc (.cells #[.int .u64 t.id] 29)).grown hgrow (fun k hk hlt' => absurd (World.ownsRow.lt hO k hk).1 (by omega))
        have hR := ready_timed M2 hGd ht HTT.out (by have := HS.out; omega)
        obtain ⟨_, ⟨cur2, hG2⟩, _, _⟩ := row_blk hown'
        have n2 := hG2.ne M2.str (by decide)
        have n3 := hG2.ne (M2.tasks t ht) (by decide)
        have n1 : (Value.slice (some ⟨g, 0, none⟩) (m + 1) cap).ownBlock ≠ some g2 := fun e => by
          have := hG2.not_row (by decide) M2.tim
          exact this e.symm
        have y5 := M2.str.cell 5 (v := .slice (some ⟨g, 0, none⟩) (m + 1) cap) rfl
        have ht2 := M2.tim
        rw [HM.out] at ht2
        have yx := hrow_nat ht2 (by omega)
        have ex : at' st1.hp 0 = t.b := ETB.out.symm
        rw [ex] at yx
        have hlt2 := hG2.lt
        have HB := Lib.hid hown'
        clear hown' hgrow d0 d1 d2 d3 d4 d5 t0 t1 t2 t3 t4 t5 hx hO hM ht2 ex hG2
        go_wp2_with fail
        refine hR.mono ?_
        rintro e w3 ⟨rfl, ⟨vt3, hp3, hob3, hl3, hm3, M3, G3⟩, B3, F3⟩
        have B4 := B2.trans (O' := Own s va mb vt st.l) ⟨B3.os, B3.tape, B3.output, B3.size, fun k hk hn => F3 k (fun e => hn (.inr (.inr (.inr (.inl (hVB.out.symm.trans e)))))) (fun e => hn (.inl e)) (fun e => by
          obtain ⟨v, hv, ev⟩ := HBLK.out t ht
          exact hn (.inr (.inr (.inr (.inr ⟨v, hv, by rw [ev, e]⟩))))) hk⟩ (fun _ _ x => x)
        have HOB3 := Lib.hid (hob3.trans hVB.out)
        clear hR y5 yx hob3
        go_wp2
        go_roundw
        case rel =>
          refine ⟨ts ++ [t], _, vt3, .snoc hT ht HTT.out ha hmin hm3, M3, G3, HOB3.out, ?_, B4, ?_⟩
          · have := row_same HB.out (W' := w3) (fun k hk => by cases hk; exact F3 _ n1 n2 n3 hlt2)
            simpa using this
          · have := HS.out
            simp only [List.length_append, List.length_cons, List.length_nil]
            show hp3.length + _ = _
            omega
        case measure =>
          have := HS.out
          have := HM.out
          simp [slLen]
          omega
      · have hd : decide (t.at_ ≤ z) = false := by simpa using ha
        obtain ⟨f1, f2, f3, f4⟩ := row_facts hO
        have hcl := clip_any Ao ts.length co f1 f2 f3
        have HF := Lib.hid f4
        have HFL := Lib.hid (World.ownsRow.lt hO)
        clear hO f1 f2 f3 f4
        go_wp2_with fail
        refine (hcl wr).mono ?_
        rintro e w9 ⟨rfl, rfl⟩
        go_wp2
        go_ret2
        refine ⟨Ao, ts.length, ts, st1, _, rfl, fun k u hk => ?cells, hT, fun u hu hut => ?_, hM, hGd, hVB.out, hB⟩
        case cells =>
          obtain ⟨gx, ex, cx⟩ := HF.out k (.int .u64 u.id) (by rw [List.getElem?_map, hk]; rfl)
          subst ex
          exact ⟨gx, rfl, (HFL.out gx rfl).1, cx⟩
        have := hmin u hu hut
        unfold ahd at this
        simp at this
        omega
end Go.Proofs.Ytlkphbcdgkjnoaa
