/- Copy: what the call returns, what it makes. -/
import Derived.Test.YtlkphbcdgkjnoaaF8
import Derived.Deep.RegionHeld3
import Derived.StillTailTactics
namespace Go.Proofs.Ytlkphbcdgkjnoaa
open Go.RowKit Go.Maps

/-- A handler, wherever it lies. -/
def T.nb (t : T) : T := { t with b := 0 }

theorem nodup_short {α : Type} [DecidableEq α] : ∀ (hp l : List α), hp.Nodup → (∀ b ∈ hp, b ∈ l) → hp.length ≤ l.length
  | [], _, _, _ => Nat.zero_le _
  | a :: t, l, hn, hs => by
    rw [List.nodup_cons] at hn
    have ha := hs a List.mem_cons_self
    have h2 := nodup_short t (l.erase a) hn.2 (fun b hb => (List.mem_erase_of_ne (fun e => hn.1 (by rw [← e]; exact hb))).2 (hs b (List.mem_cons_of_mem _ hb)))
    rw [List.length_erase_of_mem ha] at h2
    have := List.length_pos_of_mem ha
    rw [List.length_cons]
    omega
/-- The heap is no longer than the row. -/
theorem Good.short {st : St} (G : Good st) : st.hp.length ≤ st.l.length := by
  have := nodup_short st.hp (st.l.map (·.b)) G.nodup (fun b hb => by
    obtain ⟨t, ht, e⟩ := G.sub b hb
    exact List.mem_map.2 ⟨t, ht, e⟩)
  simpa using this
theorem nb_fields {t u : T} (h : t.nb = u.nb) : t.id = u.id ∧ t.ord = u.ord ∧ t.asleep = u.asleep ∧ t.timed = u.timed ∧ t.at_ = u.at_ ∧ t.age = u.age := by
  unfold T.nb at h
  injection h with _ h1 h2 h3 h4 h5 h6
  exact ⟨h1, h2, h3, h4, h5, h6⟩
/-- One more sleeps until a time: it is pushed onto the heap. -/
theorem good_push {l : List T} {hp1 : List Nat} {t : T} {m : Nat} {h6 : Nat → Nat} (p nw o : Int) (hm : hp1.length = m) (hnd : hp1.Nodup) (ht : t ∈ l) (htt : t.timed = true) (hnin : t.b ∉ hp1) (hmem : ∀ u ∈ l, u ≠ t → (u.timed = true ↔ u.b ∈ hp1)) (hsub : ∀ b ∈ hp1, ∃ u ∈ l, u.b = b) (hap : l.Pairwise fun t u => t.b ≠ u.b)
    (hS : Same (at' (hp1 ++ [t.b])) h6 (m + 1)) (hH : Heap (leK (keyOf l)) h6 (m + 1)) : Good ⟨p, nw, o, l, rowOf h6 (m + 1)⟩ := by
  have htl : (hp1 ++ [t.b]).length = m + 1 := by rw [List.length_append, hm]; rfl
  have hS' : Same (at' (hp1 ++ [t.b])) h6 (hp1 ++ [t.b]).length := by rw [htl]; exact hS
  have hmm := same_mem hS'
  have hnn := same_nodup (List.nodup_append.2 ⟨hnd, (by simp), fun a ha b hb e => by rw [List.mem_singleton] at hb; exact hnin (by rw [← hb, ← e]; exact ha)⟩) hS'
  rw [htl] at hmm hnn
  refine ⟨hnn, fun u hu => ?_, fun b hb => ?_, ?_⟩
  · show _ ↔ u.b ∈ rowOf h6 (m + 1)
    rw [hmm, List.mem_append, List.mem_singleton]
    by_cases e : u = t
    · subst e
      exact ⟨fun _ => .inr rfl, fun _ => htt⟩
    · rw [hmem u hu e]
      exact ⟨fun x => .inl x, fun x => x.resolve_right (fun e2 => e (apart_eq hap ht hu e2))⟩
  · rcases List.mem_append.1 ((hmm b).1 hb) with x | x
    · exact hsub b x
    · rw [List.mem_singleton] at x
      exact ⟨t, ht, x.symm⟩
  · show Heap _ (at' (rowOf h6 (m + 1))) (rowOf h6 (m + 1)).length
    rw [rowOf_length]
    exact heap_cong (fun i hi => (at_rowOf hi).symm) (fun _ _ => rfl) hH
/-- One more handler: what the heap says of those that lie in it stays. -/
theorem heap_snoc {l : List T} {hp1 : List Nat} {t : T} (hap : (l ++ [t]).Pairwise fun t u => t.b ≠ u.b) (hsub : ∀ b ∈ hp1, ∃ u ∈ l, u.b = b) (H : Heap (leK (keyOf l)) (at' hp1) hp1.length) : Heap (leK (keyOf (l ++ [t]))) (at' hp1) hp1.length := by
  refine heap_cong (fun _ _ => rfl) (fun i hi => ?_) H
  obtain ⟨u, hu, e⟩ := hsub _ (at_mem hi)
  rw [← e, keyOf_mem (List.pairwise_append.1 hap).1 hu, keyOf_mem hap (List.mem_append_left _ hu)]

set_option maxRecDepth 100000 in
set_option maxHeartbeats 4000000 in
theorem copy_full {B : Nat} {w : World} {s mb n : Nat} {va vt : Value} {st : St} (h : Mem B w s va mb vt n st) (hids : st.l.Pairwise fun t u => t.id ≠ u.id) (hwf : ∀ t ∈ st.l, (Lit.int .u64 t.id).wf = true) (hll : st.l.length ≤ 100000) :
    Calls Try.prog 14 #[ptr s] w fun e w' => ∃ c va' mb' vt' l' hp', e = .returned (ptr c) ∧ Mem w.heap.size w' c va' mb' vt' st.l.length { st with l := l', hp := hp' } ∧ Good { st with l := l', hp := hp' } ∧ l'.map T.nb = st.l.map T.nb ∧ Below w.heap.size w w' := by
  have hN := none_any h.str
  obtain ⟨A, cap, rfl⟩ := row_form h.all
  obtain ⟨c0, c1, c2, c3, c4, c5⟩ := h.str.six
  have hmm := @run_makeMap Try.prog
  have hsl := h.str.lt
  obtain ⟨i0, hi, hy0, hy1, hy2⟩ := info_parts Try.inf60
  have HW := Lib.hid hwf
  have HI := Lib.hid hids
  clear hwf hids
  go_enter Try.func14, Try.ntmps14
  go_wp2_with (go_at_call 24; refine hN.mono ?_; rintro e w3 ⟨rfl, rfl⟩)
  go_region_held3 (fun w' => w'.cell? ⟨s, 0, none⟩ = some (.int .i64 st.pat) ∧ w'.cell? ⟨s, 1, none⟩ = some (.int .u64 st.now) ∧ w'.cell? ⟨s, 2, none⟩ = some (.int .u64 st.ord)) (go_keep) (fail)
  go_wp2
  have hm0 := ById.made w
  have hB0 := ((Below.refl w.heap.size w).alloc (Nat.le_refl _) (.map #[] 0)).alloc (by simp) (.cells #[.int .i64 st.pat, .int .u64 st.now, .int .u64 st.ord, .slice none 0 0, .map (some w.heap.size), .slice none 0 0] 59)
  have hS0 := Blk.new (w.alloc (.map #[] 0)) 59 #[.int .i64 st.pat, .int .u64 st.now, .int .u64 st.ord, .slice none 0 0, .map (some w.heap.size), .slice none 0 0]
  rw [World.size_alloc] at hS0
  have hM0 : Mem w.heap.size ((w.alloc (.map #[] 0)).alloc (.cells #[.int .i64 st.pat, .int .u64 st.now, .int .u64 st.ord, .slice none 0 0, .map (some w.heap.size), .slice none 0 0] 59)).drew (w.heap.size + 1) (.slice none 0 0) w.heap.size (.slice none 0 0) 0 { st with l := [], hp := [] } :=
    Mem.grown (⟨hS0, World.ownsRow_nil _ _ _ _, World.ownsRow_nil _ _ _ _, fun k hk => by simp [Value.ownBlock] at hk, hm0.alloc _, fun t ht => by simp at ht, by simp, by omega, Nat.le_refl _, fun t ht => by simp at ht⟩) ⟨rfl, rfl, rfl, Nat.le_refl _, fun _ _ _ => rfl⟩
  have hG0 : Good { st with l := [], hp := [] } := ⟨by simp, fun t h => by simp at h, fun b h => by simp at h, fun j _ h => by simp at h⟩
  have hB1 := hB0.drew
  obtain ⟨N, hNe⟩ : ∃ N, w.heap.size = N := ⟨_, rfl⟩
  rw [hNe] at hM0 hB1 hsl ⊢
  generalize ((w.alloc (.map #[] 0)).alloc (.cells #[.int .i64 st.pat, .int .u64 st.now, .int .u64 st.ord, .slice none 0 0, .map (some N), .slice none 0 0] 59)).drew = W0 at hM0 hB1 ⊢
  have HNE := Lib.hid hNe
  clear hm0 hB0 hS0 hNe hmm c0 c1 c2 c3 c4 c5 hN
  go_loopw [29] (fun iv wr => ∃ k : Nat, k ≤ st.l.length ∧ iv = .int .i64 k ∧ (∃ va' vt' l' hp', Mem N wr (N + 1) va' N vt' k { st with l := l', hp := hp' } ∧ Good { st with l := l', hp := hp' } ∧ Hid (l'.map T.nb = (st.l.take k).map T.nb)) ∧ Below N w wr) (fun iv _ => st.l.length - (intOf iv).toNat)
  case atStart => exact ⟨0, Nat.zero_le _, rfl, ⟨_, _, _, _, hM0, hG0, rfl⟩, hB1⟩
  case round =>
    clear hM0 hG0 hB1
    obtain ⟨k, hk, rfl, ⟨va', vt', l', hp', hM, hG, hnb⟩, hB⟩ := hrel
    by_cases hkl : k < st.l.length
    · obtain ⟨t, ht⟩ : ∃ t, st.l[k]? = some t := ⟨_, List.getElem?_eq_getElem hkl⟩
      have htm := List.mem_of_getElem? ht
      have hid := HW.out t htm
      have hSrc := h.below (HNE.out.symm ▸ hB)
      obtain ⟨_, _, _, f4⟩ := row_facts hSrc.all
      obtain ⟨gs, rfl, hcx⟩ := f4 k (ptr t.b) (by rw [List.getElem?_map, ht]; rfl)
      obtain ⟨t0, t1, t2, t3, t4, t5⟩ := (hSrc.tasks t htm).six
      have hkl' : (k : Int) < st.l.length := by omega
      have hnl := congrArg List.length hnb.out
      rw [List.length_map, List.length_map, List.length_take] at hnl
      have hll' : l'.length = k := by omega
      have hnew : blkOf l' t.id = -1 := by
        unfold blkOf
        have : l'.find? (fun u => u.id == t.id) = none := by
          rw [List.find?_eq_none]
          intro u hu
          obtain ⟨i, hi', e⟩ := List.getElem_of_mem hu
          have h1 : l'[i]? = some u := by rw [List.getElem?_eq_getElem hi', e]
          have h2 := congrArg (fun x => x[i]?) hnb.out
          simp only [List.getElem?_map, h1, Option.map_some] at h2
          have hik : i < k := by omega
          rw [List.getElem?_take, if_pos hik] at h2
          obtain ⟨v, hv, ev⟩ := Option.map_eq_some_iff.1 h2.symm
          have h3 := (nb_fields ev).1
          obtain ⟨vl, ev2⟩ := List.getElem?_eq_some_iff.1 hv
          obtain ⟨tl, et⟩ := List.getElem?_eq_some_iff.1 ht
          have h4 := List.pairwise_iff_getElem.1 HI.out i k vl tl hik
          rw [ev2, et, h3] at h4
          simpa using h4
        rw [this]
      obtain ⟨A', cap', rfl⟩ := row_form hM.all
      have HLL := Lib.hid hll'
      have HT := Lib.hid ht
      have HNW := Lib.hid hnew
      clear hll' ht hnew hnl f4 hSrc
      have hNs : N ≤ wr.heap.size := by have := hB.size; have := HNE.out; omega
      have A0 : wr.ownsRow N 60 1 (.slice A' l'.length cap') l'.length (l'.map fun t => ptr t.b) := hM.all
      have A1 := (A0.alloc (.cells #[.int .u64 t.id, .int .u64 t.ord, .bool t.asleep, .bool t.timed, .int .u64 t.at_, .int .i64 t.age] 62)).alloc (.cells #[.pointer (some ⟨wr.heap.size, 0, none⟩)] 60)
      have MA := (hM.alloc (.cells #[.int .u64 t.id, .int .u64 t.ord, .bool t.asleep, .bool t.timed, .int .u64 t.at_, .int .i64 t.age] 62)).alloc (.cells #[.pointer (some ⟨wr.heap.size, 0, none⟩)] 60)
      have N1 := (Blk.new wr 62 #[.int .u64 t.id, .int .u64 t.ord, .bool t.asleep, .bool t.timed, .int .u64 t.at_, .int .i64 t.age]).alloc (.cells #[.pointer (some ⟨wr.heap.size, 0, none⟩)] 60)
      have B1 := (hB.alloc hNs (.cells #[.int .u64 t.id, .int .u64 t.ord, .bool t.asleep, .bool t.timed, .int .u64 t.at_, .int .i64 t.age] 62)).alloc (by simp; omega) (.cells #[.pointer (some ⟨wr.heap.size, 0, none⟩)] 60)
      have z1 : ((wr.alloc (.cells #[.int .u64 t.id, .int .u64 t.ord, .bool t.asleep, .bool t.timed, .int .u64 t.at_, .int .i64 t.age] 62)).alloc (.cells #[.pointer (some ⟨wr.heap.size, 0, none⟩)] 60)).heap.size = wr.heap.size + 2 := by simp
      have hcell := cell_one_new (wr.alloc (.cells #[.int .u64 t.id, .int .u64 t.ord, .bool t.asleep, .bool t.timed, .int .u64 t.at_, .int .i64 t.age] 62)) (.pointer (some ⟨wr.heap.size, 0, none⟩)) 60
      rw [World.size_alloc] at hcell
      obtain ⟨c0, c1, c2, c3, c4, c5⟩ := hM.str.six
      have hst := hM.str.lt
      have HB := Lib.hid hB
      have HSRC := Lib.hid h
      have HNBK := Lib.hid hnb
      have HG := Lib.hid hG
      clear hB hnb hG
      go_wp2_with (at_builtin; refine wpList_append_own_at _ rfl _ _ 56 rfl N 60 i0 (.pointer none) 1 8 Try.und56 hi hy0 hy1 hy2 rfl (by decide) _ _ _ rfl A1 ⟨wr.heap.size + 1, 0, none⟩ 1 1 [.pointer (some ⟨wr.heap.size, 0, none⟩)] rfl rfl hcell (by simp [Value.oneCell']) (by unfold maxLen; have := HLL.out; omega) (by have := HLL.out; omega) (by rw [z1]; omega) ?_)
      intro v' w1 hown' hgrow _ hloc
      obtain ⟨g', cap2, rfl⟩ := ownsRow_succ hown'
      have n1 := MA.str.not_row (show (59 : Nat) ≠ 60 by decide) A1
      have S2 := MA.str.kept hgrow n1
      have hrows := MA.rows
      have T2 : w1.ownsRow N 60 1 vt' hp'.length (hp'.map ptr) := MA.tim.kept hgrow (by
        cases e : vt'.ownBlock with
        | none => exact .inl rfl
        | some x => exact .inr (fun e' => hrows x e'.symm e))
      have M2 := MA.map.kept hgrow (MA.map.not_row A1)
      have K2 : ∀ u ∈ l', Blk w1 u.b 62 u.vals := fun u hu => (MA.tasks u hu).kept hgrow ((MA.tasks u hu).not_row (by decide) A1)
      have N2 := N1.kept hgrow (N1.not_row (by decide) A1)
      have B2 := B1.grown hgrow (by rw [z1]; omega) (fun x hx => (World.ownsRow.lt A1 x hx).1)
      have hvt : ∀ x, vt'.ownBlock = some x → x < wr.heap.size := fun x hx => (hM.tim.lt x hx).2
      have htb : ∀ u ∈ l', u.b < wr.heap.size := fun u hu => (hM.tasks u hu).lt
      have hrow2 : ∀ x, (Value.slice (some ⟨g', 0, none⟩) (l'.length + 1) cap2).ownBlock = some x → vt'.ownBlock ≠ some x := by
        intro x hx hx'
        rcases hloc with e | e
        · exact hrows x (e.symm.trans hx) hx'
        · rw [e] at hx
          have := hvt x hx'
          injection hx with hx
          omega
      have hne3 := S2.ne N2 (show (59 : Nat) ≠ 62 by decide)
      have n3 := M2.ne S2
      -- behind the row's store
      have nS := S2.not_row (show (59 : Nat) ≠ 60 by decide) hown'
      have nT := S2.not_row (show (59 : Nat) ≠ 60 by decide) T2
      have g2 := grownBy_set w1 (N + 1) 3 (.slice (some ⟨g', 0, none⟩) (l'.length + 1) cap2)
      have S3 : Blk (w1.setCell ⟨N + 1, 3, none⟩ (.slice (some ⟨g', 0, none⟩) (l'.length + 1) cap2)) (N + 1) 59 #[.int .i64 st.pat, .int .u64 st.now, .int .u64 st.ord, .slice (some ⟨g', 0, none⟩) (l'.length + 1) cap2, .map (some N), vt'] := S2.set 3 _
      have A3 := hown'.kept g2 (.inr nS.symm)
      have T3 := T2.kept g2 (.inr nT.symm)
      have M3 := M2.kept g2 (by simp)
      have K3 : ∀ u ∈ l', Blk (w1.setCell ⟨N + 1, 3, none⟩ (.slice (some ⟨g', 0, none⟩) (l'.length + 1) cap2)) u.b 62 u.vals := fun u hu => (K2 u hu).other ((K2 u hu).ne S2 (by decide)) _ _
      have N3 : Blk (w1.setCell ⟨N + 1, 3, none⟩ (.slice (some ⟨g', 0, none⟩) (l'.length + 1) cap2)) wr.heap.size 62 _ := N2.other hne3.symm _ _
      have B3 := B2.setCell (p := ⟨N + 1, 3, none⟩) (by show N ≤ N + 1; omega) (.slice (some ⟨g', 0, none⟩) (l'.length + 1) cap2)
      obtain ⟨d0, d1, d2, d3, d4, d5⟩ := S2.six
      have df := fun x => S2.frozen x
      have hms := hM.hs
      have hmt := hM.ht
      have hap' := hM.apart
      have HM := Lib.hid hM
      clear c0 c1 c2 c3 c4 c5 t0 t1 t2 t3 t4 t5 hown' hgrow hloc S2 T2 M2 K2 N2 B2 N1 B1 A1 MA n1 nS nT g2 hcell z1 hrows hM hvt
      go_wp2_with fail
      obtain ⟨W3, hW3⟩ : ∃ W3, w1.setCell ⟨N + 1, 3, none⟩ (.slice (some ⟨g', 0, none⟩) (l'.length + 1) cap2) = W3 := ⟨_, rfl⟩
      rw [hW3] at S3 A3 T3 M3 K3 N3 B3 ⊢
      have kd : W3.grownBy W3.drew none := ⟨rfl, rfl, rfl, Nat.le_refl _, fun _ _ _ => rfl⟩
      have M3d := M3.kept kd (by simp)
      have S3d := S3.kept kd (by simp)
      have N3d := N3.kept kd (by simp)
      have A3d := A3.kept kd (.inr (by simp [Value.ownBlock]))
      have T3d := T3.kept kd (by cases vt'.ownBlock <;> simp)
      have K3d := fun u hu => (K3 u hu).kept kd (by simp)
      obtain ⟨w4, hrun, M4, g4⟩ := M3d.store (by unfold maxLen; omega) ⟨wr.heap.size, t.id, t.ord, t.asleep, t.timed, t.at_, t.age⟩ hid HNW.out
      have B4 := (B3.grown kd (by have := S3.lt; omega) (fun x hx => by cases hx)).grown g4 (by have := S3.lt; show N ≤ W3.heap.size; omega) (fun x hx => by cases hx; exact Nat.le_refl _)
      have q4 : W3.cell? ⟨N + 1, 4, none⟩ = some (.map (some N)) := S3.cell 4 rfl
      have q0 : W3.cell? ⟨wr.heap.size, 0, none⟩ = some (.int .u64 t.id) := N3.cell 0 rfl
      have y4 : World.cell? { W3 with drawn := W3.drawn + 1 } ⟨N + 1, 4, none⟩ = some (.map (some N)) := S3.cell 4 rfl
      have y0 : World.cell? { W3 with drawn := W3.drawn + 1 } ⟨wr.heap.size, 0, none⟩ = some (.int .u64 t.id) := N3.cell 0 rfl
      obtain ⟨t', ht'⟩ : ∃ t' : T, (⟨wr.heap.size, t.id, t.ord, t.asleep, t.timed, t.at_, t.age⟩ : T) = t' := ⟨_, rfl⟩
      have MC : Mem N w4 (N + 1) (.slice (some ⟨g', 0, none⟩) (l'.length + 1) cap2) N vt' (k + 1) { st with l := l' ++ [t'], hp := hp' } := by
        refine ⟨S3d.kept g4 (by simp), ?_, T3d.kept g4 (.inr (M3d.not_row T3d).symm), hrow2, ht' ▸ M4, fun u hu => ?_, ?_, hms, Nat.le_refl _, fun u hu => ?_⟩
        · have := A3d.kept g4 (.inr (M3d.not_row A3d).symm)
          rw [← ht']
          show World.ownsRow _ _ _ _ _ (l' ++ [_]).length ((l' ++ [_]).map _)
          rw [List.length_append, List.map_append]
          exact this
        · rcases List.mem_append.1 hu with h' | h'
          · exact (K3d u h').kept g4 (by simpa using (M3d.ne (K3d u h')))
          · rw [List.mem_singleton] at h'
            rw [h', ← ht']
            exact N3d.kept g4 (by simpa using M3d.ne N3d)
        · refine List.pairwise_append.2 ⟨hap', List.pairwise_singleton _ _, fun u hu v hv => ?_⟩
          rw [List.mem_singleton] at hv
          have := htb u hu
          rw [hv, ← ht']
          show u.b ≠ wr.heap.size
          omega
        · rcases List.mem_append.1 hu with h' | h'
          · exact hmt u h'
          · rw [List.mem_singleton] at h'
            rw [h', ← ht']
            exact hNs
      have hnb' : Hid ((l' ++ [t']).map T.nb = (st.l.take (k + 1)).map T.nb) := by
        show _ = _
        obtain ⟨tl, et⟩ := List.getElem?_eq_some_iff.1 HT.out
        rw [List.take_succ_eq_append_getElem tl, et, List.map_append, List.map_append, HNBK.out, ← ht']
        rfl
      have ebt : t'.b = wr.heap.size := by rw [← ht']
      have eti : t'.timed = t.timed := by rw [← ht']
      have ETI := Lib.hid eti
      have EBT := Lib.hid ebt
      have HT' := Lib.hid ht'
      clear hW3 d0 d1 d2 d3 d4 d5 df M3 S3 N3 A3 T3 K3 B3 M3d S3d N3d A3d T3d K3d kd M4 g4 ht' eti ebt
      have hx3 : w4.cell? ⟨wr.heap.size, 3, none⟩ = some (.bool t.timed) := by
        have := (MC.tasks t' (by simp)).cell 3 (v := .bool t'.timed) rfl
        rw [EBT.out, ETI.out] at this
        exact this
      cases hti : t.timed
      · rw [hti] at hx3
        have hti' : t'.timed = false := by rw [ETI.out, hti]
        have GD := HG.out.add hap' MC.apart hti' st.ord
        have HTI := Lib.hid hti
        clear hti hti'
        go_still_tail 6, (by kernel_rfl)
        change wpList _ _ _ _ _ W3.drew
        clear y4 y0 q4 q0
        go_wp2_with (at_mapUpdate; refine wpList_mapUpdate_run rfl _ _ _ 55 rfl _ _ _ rfl rfl rfl hrun ?_)
        go_roundw
        case rel => exact ⟨k + 1, by omega, by go_num, ⟨_, _, _, _, MC, GD, hnb'⟩, B4⟩
        case measure => simp [intOf]; omega
      · rw [hti] at hx3
        have hti' : t'.timed = true := by rw [ETI.out, hti]
        have HTI := Lib.hid hti
        have HTI' := Lib.hid hti'
        clear hti hti'
        go_still_tail 6, (by kernel_rfl)
        change wpList _ _ _ _ _ W3.drew
        clear y4 y0 q4 q0
        obtain ⟨A5, c5, hv5⟩ := row_form MC.tim
        obtain ⟨m, hm⟩ : ∃ m, hp'.length = m := ⟨_, rfl⟩
        replace hv5 : vt' = .slice A5 m c5 := by rw [hv5]; show Value.slice A5 hp'.length c5 = _; rw [hm]
        subst hv5
        have hml := HG.out.short
        have hml : m ≤ 100000 := by have := HLL.out; rw [← hm]; have : hp'.length ≤ l'.length := hml; omega
        have T5 : w4.ownsRow N 60 1 (.slice A5 m c5) m (hp'.map ptr) := by
          have := MC.tim
          rw [← hm]
          rw [← hm] at this
          exact this
        have T6 := T5.alloc (.cells #[.pointer (some ⟨wr.heap.size, 0, none⟩)] 60)
        have hnew6 := cell_one_new w4 (.pointer (some ⟨wr.heap.size, 0, none⟩)) 60
        have MA := MC.alloc (.cells #[.pointer (some ⟨wr.heap.size, 0, none⟩)] 60)
        have hNw4 : N ≤ w4.heap.size := by have := MC.str.lt; omega
        have BA := B4.alloc hNw4 (.cells #[.pointer (some ⟨wr.heap.size, 0, none⟩)] 60)
        obtain ⟨d0, d1, d2, d3, d4, d5⟩ := MC.str.six
        have df := fun x => MC.str.frozen x
        have hva5 : ∀ x, (Value.slice (some ⟨g', 0, none⟩) (l'.length + 1) cap2).ownBlock = some x → x < w4.heap.size := fun x hx => (MC.all.lt x hx).2
        have HMM := Lib.hid hm
        have HMC := Lib.hid MC
        clear hm T5 B4
        go_wp2_with (first
          | (at_mapUpdate; refine wpList_mapUpdate_run rfl _ _ _ 55 rfl _ _ _ rfl rfl rfl hrun ?_)
          | (at_builtin; refine wpList_append_own_at _ rfl _ _ 57 rfl N 60 i0 (.pointer none) 1 8 Try.und57 hi hy0 hy1 hy2 rfl (by decide) _ m _ rfl T6 ⟨w4.heap.size, 0, none⟩ 1 1 [.pointer (some ⟨wr.heap.size, 0, none⟩)] rfl rfl hnew6 (by simp [Value.oneCell']) (by unfold maxLen; omega) (by omega) (by simp; omega) ?_))
        intro v' w5 hown5 hgrow5 _ hloc5
        obtain ⟨g5, cap5, rfl⟩ := ownsRow_succ hown5
        have hnin : t'.b ∉ hp' := fun x => by
          obtain ⟨u, hu, e⟩ := HG.out.sub _ x
          have h1 := htb u hu
          rw [EBT.out] at e
          omega
        have S6 := MA.str.kept hgrow5 (MA.str.not_row (show (59 : Nat) ≠ 60 by decide) T6)
        have A6 := MA.all.kept hgrow5 (.inr (fun e => hrow2 g' rfl e.symm))
        have P6 := MA.map.kept hgrow5 (MA.map.not_row T6)
        have K6 := fun u hu => (MA.tasks u hu).kept hgrow5 ((MA.tasks u hu).not_row (by decide) T6)
        have B6 := BA.grown hgrow5 (by simp; omega) (fun x hx => (World.ownsRow.lt T6 x hx).1)
        have k7 := grownBy_set w5 (N + 1) 5 (.slice (some ⟨g5, 0, none⟩) (m + 1) cap5)
        have S7 : Blk (w5.setCell ⟨N + 1, 5, none⟩ (.slice (some ⟨g5, 0, none⟩) (m + 1) cap5)) (N + 1) 59 #[.int .i64 st.pat, .int .u64 st.now, .int .u64 st.ord, .slice (some ⟨g', 0, none⟩) (l'.length + 1) cap2, .map (some N), .slice (some ⟨g5, 0, none⟩) (m + 1) cap5] := S6.set 5 _
        have M7 : Mem N (w5.setCell ⟨N + 1, 5, none⟩ (.slice (some ⟨g5, 0, none⟩) (m + 1) cap5)) (N + 1) (.slice (some ⟨g', 0, none⟩) (l'.length + 1) cap2) N (.slice (some ⟨g5, 0, none⟩) (m + 1) cap5) (k + 1) { st with l := l' ++ [t'], hp := hp' ++ [t'.b] } := by
          refine ⟨S7, A6.kept k7 (.inr (S6.not_row (by decide) A6).symm), ?_, ?_, P6.kept k7 (by simp), fun u hu => (K6 u hu).kept k7 (by simpa using ((K6 u hu).ne S6 (by decide))), HMC.out.apart, HMC.out.hs, HMC.out.hm, HMC.out.ht⟩
          · have := hown5.kept k7 (.inr (S6.not_row (by decide) hown5).symm)
            show World.ownsRow _ _ _ _ _ (hp' ++ [t'.b]).length ((hp' ++ [t'.b]).map ptr)
            rw [List.length_append, HMM.out, List.map_append, EBT.out]
            exact this
          · intro x hx hx'
            rcases hloc5 with e | e
            · exact hrow2 x hx (e.symm.trans hx')
            · rw [e] at hx'
              have := hva5 x hx
              injection hx' with hx'
              omega
        have B7 := B6.setCell (p := ⟨N + 1, 5, none⟩) (by show N ≤ N + 1; omega) (.slice (some ⟨g5, 0, none⟩) (m + 1) cap5)
        obtain ⟨x0, x1, x2, x3, x4, x5⟩ := S6.six
        have xf := fun x => S6.frozen x
        obtain ⟨y0, y1, y2, y3, y4, y5⟩ := S7.six
        have hb1 : -9223372036854775808 ≤ (m : Int) ∧ (m : Int) ≤ 100000 := by omega
        clear S6 A6 P6 K6 B6 k7 S7 hown5 d0 d1 d2 d3 d4 d5 df MA BA T6 hgrow5 hloc5 hnew6 hrow2 hva5 MC hx3 hrun
        go_wp2_with fail
        obtain ⟨W8, hW8⟩ : ∃ W8, w5.setCell ⟨N + 1, 5, none⟩ (.slice (some ⟨g5, 0, none⟩) (m + 1) cap5) = W8 := ⟨_, rfl⟩
        rw [hW8] at y0 y1 y2 y3 y4 y5 M7 B7 ⊢
        have y5' : World.cell? { W8 with drawn := W8.drawn + 1 } ⟨N + 1, 5, none⟩ = some (.slice (some ⟨g5, 0, none⟩) (m + 1) cap5) := y5
        clear hW8 x0 x1 x2 x3 x4 x5 xf
        go_still_tail 10, (by kernel_rfl)
        change wpList _ _ _ _ _ W8.drew
        have M8 : Mem N W8.drew (N + 1) (.slice (some ⟨g', 0, none⟩) (l'.length + 1) cap2) N (.slice (some ⟨g5, 0, none⟩) (m + 1) cap5) (k + 1) { st with l := l' ++ [t'], hp := hp' ++ [t'.b] } := M7.grown ⟨rfl, rfl, rfl, Nat.le_refl _, fun _ _ _ => rfl⟩
        have B8 : Below N w W8.drew := B7.trans ⟨rfl, rfl, rfl, Nat.le_refl _, fun _ _ => rfl⟩
        clear M7 B7 y0 y1 y2 y3 y4 y5 y5'
        revert M8 B8
        generalize W8.drew = W9
        intro M8 B8
        have htl : (hp' ++ [t'.b]).length = m + 1 := by rw [List.length_append, HMM.out]; rfl
        have htim := M8.tim
        simp only [htl] at htim
        obtain ⟨_, hBg, hcc, hcm, hR9⟩ := hrow_of htim
        obtain ⟨cur9, hb9, _, _⟩ := id hR9
        have hh2 := heap_snoc M8.apart HG.out.sub HG.out.heap
        have hbut := but_snoc (b := t'.b) hh2
        have htl' : t' ∈ l' ++ [t'] := by simp
        have hmem9 : ∀ i, i < m + 1 → ∃ u ∈ l' ++ [t'], u.b = at' (hp' ++ [t'.b]) i := fun i hi => by
          have hx := at_mem (hp := hp' ++ [t'.b]) (i := i) (by omega)
          rcases List.mem_append.1 hx with hx | hx
          · obtain ⟨u, hu, e⟩ := HG.out.sub _ hx
            exact ⟨u, List.mem_append_left _ hu, e⟩
          · rw [List.mem_singleton] at hx
            exact ⟨t', htl', hx.symm⟩
        have K9 : Keys W9 (keyOf (l' ++ [t'])) g5 (at' (hp' ++ [t'.b])) (m + 1) := fun i hi => by
          obtain ⟨u, hu, e⟩ := hmem9 i hi
          rw [← e, keyOf_mem M8.apart hu]
          exact ⟨(M8.tasks u hu).ne hb9 (by decide), (M8.tasks u hu).cell 4 rfl, (M8.tasks u hu).cell 1 rfl⟩
        rw [HMM.out] at hbut
        have hU := up_any (cap := cap5) hR9 (show m < m + 1 by omega) (by omega) hcc K9 hbut.hole
        have HBT := Lib.hid hbut
        clear hbut htl htim hh2 hmem9 K9
        go_wp2_with fail
        rw [HMM.out]
        refine hU.mono ?_
        rintro e w6 ⟨rfl, g6, h6, hR6, hS6, hh6⟩
        clear hU
        go_wp2
        have hH6 : Heap (leK (keyOf (l' ++ [t']))) h6 (m + 1) := by
          rcases hh6 with x | ⟨rfl, x⟩
          · exact x
          · exact HBT.out.done x
        have R6 := row_of hR6 hBg hcc hcm
        have hag : (Value.slice (some ⟨g', 0, none⟩) (l'.length + 1) cap2).ownBlock ≠ some g5 := fun e => M8.rows g' rfl (by rw [show (Value.slice (some ⟨g5, 0, none⟩) (m + 1) cap5).ownBlock = some g5 from rfl, ← e]; rfl)
        have hap2 := M8.apart
        have hG9 : Good { st with l := l' ++ [t'], hp := rowOf h6 (m + 1) } := good_push _ _ _ HMM.out HG.out.nodup htl' HTI'.out hnin (fun u hu hne => by
          rcases List.mem_append.1 hu with h' | h'
          · exact HG.out.mem u h'
          · rw [List.mem_singleton] at h'
            exact absurd h' hne) (fun b hb => by
          obtain ⟨u, hu, e⟩ := HG.out.sub b hb
          exact ⟨u, List.mem_append_left _ hu, e⟩) hap2 hS6 hH6
        have hM9 : Mem N w6 (N + 1) (.slice (some ⟨g', 0, none⟩) (l'.length + 1) cap2) N (.slice (some ⟨g5, 0, none⟩) (m + 1) cap5) (k + 1) { st with l := l' ++ [t'], hp := rowOf h6 (m + 1) } := by
          refine ⟨M8.str.kept g6 (by simpa using M8.str.ne hb9 (by decide)), M8.all.kept g6 (.inr hag), ?_, M8.rows, M8.map.kept g6 (by simpa using (M8.map.ne hb9).symm), fun u hu => (M8.tasks u hu).kept g6 (by simpa using ((M8.tasks u hu).ne hb9 (by decide))), M8.apart, M8.hs, M8.hm, M8.ht⟩
          show World.ownsRow _ _ _ _ _ (rowOf h6 (m + 1)).length _
          rw [rowOf_length]
          exact R6
        have B9 := B8.grown g6 (by have := B8.size; have := M8.str.lt; omega) (fun x hx => by cases hx; exact hBg)
        go_roundw
        case rel => exact ⟨k + 1, by omega, by go_num, ⟨_, _, _, _, hM9, hG9, hnb'⟩, B9⟩
        case measure => simp [intOf]; omega
    · obtain rfl : k = st.l.length := by omega
      have hnb2 := hnb.out
      rw [List.take_length] at hnb2
      have HNB := Lib.hid hnb2
      clear hnb2 hnb
      go_wp2
      go_ret
      refine ⟨N + 1, va', N, vt', l', hp', rfl, ?_, hG, HNB.out, ?_⟩
      · rw [HNE.out]; exact hM
      · rw [HNE.out]; exact hB
end Go.Proofs.Ytlkphbcdgkjnoaa
