/- ready, of one that sleeps until a time, whoever else does. -/
import Derived.Test.YtlkphbcdgkjnoaaM13
namespace Go.Proofs.Ytlkphbcdgkjnoaa
open Go.RowKit Go.Maps

/-- What a handler bears, by its block: its time and its order. -/
def keyOf (l : List T) (b : Nat) : Int × Int := match l.find? (fun t => t.b == b) with | some t => (t.at_, t.ord) | none => (0, 0)
/-- A row of blocks as a function. -/
def at' (hp : List Nat) : Nat → Nat := fun i => hp.getD i 0
/-- The heap holds just those that sleep until a time, each ahead of the two below. -/
structure Good (st : St) : Prop where
  nodup : st.hp.Nodup
  mem : ∀ t ∈ st.l, (t.timed = true ↔ t.b ∈ st.hp)
  sub : ∀ b ∈ st.hp, ∃ t ∈ st.l, t.b = b
  heap : Heap (leK (keyOf st.l)) (at' st.hp) st.hp.length

theorem keyOf_mem {l : List T} (hap : l.Pairwise fun t u => t.b ≠ u.b) {t : T} (ht : t ∈ l) : keyOf l t.b = (t.at_, t.ord) := by
  unfold keyOf
  cases hf : l.find? (fun u => u.b == t.b) with
  | none =>
    rw [List.find?_eq_none] at hf
    have := hf t ht
    simp at this
  | some u =>
    have h1 := List.mem_of_find?_eq_some hf
    have h2 := List.find?_some hf
    simp at h2
    have := apart_eq hap ht h1 h2
    rw [this]
theorem at_get {hp : List Nat} {i : Nat} (hi : i < hp.length) : hp[i]? = some (at' hp i) := by
  unfold at'
  rw [List.getD_eq_getElem?_getD, List.getElem?_eq_getElem hi]
  rfl
theorem at_mem {hp : List Nat} {i : Nat} (hi : i < hp.length) : at' hp i ∈ hp := List.mem_of_getElem? (at_get hi)
theorem at_inj {hp : List Nat} (h : hp.Nodup) {i j : Nat} (hi : i < hp.length) (hj : j < hp.length) (e : at' hp i = at' hp j) : i = j := by
  have h1 := at_get hi
  have h2 := at_get hj
  rw [e, ← h2] at h1
  exact (List.getElem?_inj hi h).1 h1
/-- A function as a row. -/
def rowOf (h : Nat → Nat) (n : Nat) : List Nat := (List.range n).map h
theorem rowOf_length (h : Nat → Nat) (n : Nat) : (rowOf h n).length = n := by simp [rowOf]
theorem at_rowOf {h : Nat → Nat} {n i : Nat} (hi : i < n) : at' (rowOf h n) i = h i := by
  unfold at' rowOf
  simp [List.getD_eq_getElem?_getD, hi]
theorem mem_rowOf {h : Nat → Nat} {n b : Nat} : b ∈ rowOf h n ↔ ∃ i, i < n ∧ h i = b := by
  simp [rowOf]
theorem heap_cong {key key' : Nat → Int × Int} {h h' : Nat → Nat} {n : Nat} (e : ∀ i, i < n → h i = h' i) (k : ∀ i, i < n → key (h i) = key' (h i)) (H : Heap (leK key) h n) : Heap (leK key') h' n := fun j h0 h1 => by
  have := H j h0 h1
  unfold leK at this ⊢
  rw [← e j h1, ← e ((j - 1) / 2) (by omega), ← k j h1, ← k ((j - 1) / 2) (by omega)]
  exact this

theorem hrow_of {W : World} {B g n cap : Nat} {hp : List Nat} (h : W.ownsRow B 60 1 (.slice (some ⟨g, 0, none⟩) n cap) n (hp.map ptr)) : n = hp.length ∧ B ≤ g ∧ n ≤ cap ∧ cap ≤ maxLen ∧ Hrow W g cap (at' hp) n := by
  have hl : hp.length = n := by have := h.1; simpa using this
  rcases h.2 with ⟨e1, _⟩ | ⟨g0, cap0, cur, e0, h2, h3, h4, h5, h6, h7⟩
  · cases e1
  · cases e0
    refine ⟨hl.symm, h2, h4, h5, cur, h3, by simpa using h6, fun i hi => ?_⟩
    have e : (cur.toList.take (n * 1))[i]? = some (ptr (at' hp i)) := by
      rw [h7, List.getElem?_map, at_get (by omega)]
      rfl
    rw [List.getElem?_take, if_pos (by omega)] at e
    rw [← Array.getElem?_toList]
    exact e
theorem row_of {W : World} {B g n cap : Nat} {h : Nat → Nat} (H : Hrow W g cap h n) (hB : B ≤ g) (hc : n ≤ cap) (hm : cap ≤ maxLen) : W.ownsRow B 60 1 (.slice (some ⟨g, 0, none⟩) n cap) n ((rowOf h n).map ptr) := by
  obtain ⟨cur, hb, hs, hcur⟩ := H
  refine ⟨by simp [rowOf], .inr ⟨g, cap, cur, rfl, hB, hb, hc, hm, by omega, ?_⟩⟩
  apply List.ext_getElem?
  intro i
  by_cases hi : i < n
  · rw [List.getElem?_take, if_pos (by omega), Array.getElem?_toList, hcur i hi, List.getElem?_map, at_get (by rw [rowOf_length]; exact hi), at_rowOf hi]
    rfl
  · rw [List.getElem?_eq_none (by simp; omega), List.getElem?_eq_none (by simp [rowOf]; omega)]

theorem left_mem {hp : List Nat} (hnd : hp.Nodup) {l j x : Nat} (hl : hp.length = l + 1) (hj : j < l + 1) (hx : at' hp j = x) {h1 : Nat → Nat} (L : Left (at' hp) h1 (l + 1) j) (b : Nat) : b ∈ rowOf h1 l ↔ (b ∈ hp ∧ b ≠ x) := by
  rw [mem_rowOf]
  constructor
  · rintro ⟨i, hi, rfl⟩
    obtain ⟨k, hk, hkj, e⟩ := L.out i (by omega)
    rw [e]
    refine ⟨at_mem (by omega), fun e2 => hkj ?_⟩
    exact at_inj hnd (by omega) (by omega) (e2.trans hx.symm)
  · rintro ⟨hb, hne⟩
    obtain ⟨k, hk, ek⟩ := List.getElem_of_mem hb
    have ea : at' hp k = b := by
      have := at_get hk
      rw [List.getElem?_eq_getElem hk, ek] at this
      injection this with this
      exact this.symm
    obtain ⟨i, hi, e⟩ := L.inn k (by omega) (fun e => hne (by rw [← ea, e, hx]))
    exact ⟨i, by omega, e.trans ea⟩
theorem left_nodup {hp : List Nat} (hnd : hp.Nodup) {l j : Nat} (hl : hp.length = l + 1) {h1 : Nat → Nat} (L : Left (at' hp) h1 (l + 1) j) : (rowOf h1 l).Nodup := by
  unfold rowOf List.Nodup
  rw [List.pairwise_map, List.pairwise_iff_getElem]
  intro a b ha hb hab e
  simp only [List.getElem_range, List.length_range] at e ha hb
  have := L.inj (fun i k hi hk e => at_inj hnd (by omega) (by omega) e) a b (by omega) (by omega) e
  omega
theorem good_rest {st : St} (hG : Good st) (hap : st.l.Pairwise fun t u => t.b ≠ u.b) {t : T} (ht : t ∈ st.l) (hap2 : (turned t.b t.rested st.l).Pairwise fun t u => t.b ≠ u.b) {l : Nat} {h1 : Nat → Nat}
    (hnd : (rowOf h1 l).Nodup) (hm : ∀ b, b ∈ rowOf h1 l ↔ (b ∈ st.hp ∧ b ≠ t.b)) (hH : Heap (leK (keyOf st.l)) h1 l) : Good { st with l := turned t.b t.rested st.l, hp := rowOf h1 l } := by
  have hin : ∀ u ∈ st.l, u.b ≠ t.b → u ∈ turned t.b t.rested st.l := fun u hu e => List.mem_map.2 ⟨u, hu, if_neg e⟩
  refine ⟨hnd, fun u' hu' => ?_, fun b hb => ?_, ?_⟩
  · obtain ⟨u, hu, rfl⟩ := List.mem_map.1 hu'
    by_cases e : u.b = t.b
    · rw [if_pos e, hm]
      constructor
      · intro x; cases x
      · rintro ⟨_, x⟩; exact absurd rfl x
    · rw [if_neg e, hm, hG.mem u hu]
      exact ⟨fun x => ⟨x, e⟩, fun x => x.1⟩
  · obtain ⟨h1', h2'⟩ := (hm b).1 hb
    obtain ⟨u, hu, e⟩ := hG.sub b h1'
    exact ⟨u, hin u hu (by rw [e]; exact h2'), e⟩
  · show Heap (leK (keyOf (turned t.b t.rested st.l))) (at' (rowOf h1 l)) (rowOf h1 l).length
    rw [rowOf_length]
    refine heap_cong (fun i hi => (at_rowOf hi).symm) (fun i hi => ?_) hH
    obtain ⟨h1', h2'⟩ := (hm (h1 i)).1 (mem_rowOf.2 ⟨i, hi, rfl⟩)
    obtain ⟨u, hu, e⟩ := hG.sub _ h1'
    rw [← e, keyOf_mem hap hu, keyOf_mem hap2 (hin u hu (by rw [e]; exact h2'))]

set_option maxRecDepth 100000 in
set_option maxHeartbeats 1000000 in
theorem ready_timed {B : Nat} {w : World} {s mb n : Nat} {va vt : Value} {st : St} (h : Mem B w s va mb vt n st) (hG : Good st) {t : T} (ht : t ∈ st.l) (hti : t.timed = true) (hlen : st.hp.length ≤ 1000000) :
    Calls Try.prog 27 #[ptr s, ptr t.b] w fun e w' => e = .returned (.tuple #[]) ∧ (∃ vt' hp', vt'.ownBlock = vt.ownBlock ∧ hp'.length + 1 = st.hp.length ∧ (∀ b, b ∈ hp' ↔ (b ∈ st.hp ∧ b ≠ t.b)) ∧ Mem B w' s va mb vt' n { st with l := turned t.b t.rested st.l, hp := hp' } ∧ Good { st with l := turned t.b t.rested st.l, hp := hp' }) ∧ Below B w w' ∧ ∀ k, vt.ownBlock ≠ some k → k ≠ s → k ≠ t.b → k < w.heap.size → w'.heap[k]? = w.heap[k]? := by
  have htm := (hG.mem t ht).1 hti
  obtain ⟨j, hj, ej⟩ := List.getElem_of_mem htm
  have haj : at' st.hp j = t.b := by
    have := at_get hj
    rw [List.getElem?_eq_getElem hj, ej] at this
    injection this with this
    exact this.symm
  obtain ⟨l, hl⟩ : ∃ l, st.hp.length = l + 1 := ⟨st.hp.length - 1, by omega⟩
  have htim := h.tim
  rcases htim.2 with ⟨_, e0⟩ | ⟨g, cap, cur, rfl, hBg, hg, hc1, hc2, hcs, _⟩
  · omega
  rw [hl] at htim hc1 hj hlen
  have hGb : Blk w g 60 cur := hg
  obtain ⟨_, _, _, _, hR⟩ := hrow_of htim
  have hsg : s ≠ g := h.str.ne hGb (by decide)
  have htg : ∀ u ∈ st.l, u.b ≠ g := fun u hu => (h.tasks u hu).ne hGb (by decide)
  have hmg : g ≠ mb := h.map.ne hGb
  have hag : va.ownBlock ≠ some g := fun e => h.rows g e rfl
  have hbl : ∀ i, i < l + 1 → ∃ u ∈ st.l, u.b = at' st.hp i := fun i hi => hG.sub _ (at_mem (by omega))
  have K : Keys w (keyOf st.l) g (at' st.hp) (l + 1) := fun i hi => by
    obtain ⟨u, hu, e⟩ := hbl i hi
    rw [← e, keyOf_mem h.apart hu]
    exact ⟨htg u hu, (h.tasks u hu).cell 4 rfl, (h.tasks u hu).cell 1 rfl⟩
  have hW := without_any hR hj (by omega) hc1 hc2 (fun i hi e => by have := at_inj hG.nodup (by omega) (by omega) e; omega) (fun i hi => by
    obtain ⟨u, hu, e⟩ := hbl i hi
    exact ⟨_, e ▸ h.tasks u hu⟩) K (by have := hG.heap; rw [hl] at this; exact this)
  rw [haj] at hW
  obtain ⟨c0, c1, c2, c3, c4, c5⟩ := h.str.six
  rw [hl] at c5
  obtain ⟨t0, t1, t2, t3, t4, t5⟩ := (h.tasks t ht).six
  rw [hti] at t3
  have HAJ := Lib.hid haj
  have HLL := Lib.hid hl
  clear hl haj ej htim hcs hg hti
  go_enter Try.func27, Try.ntmps27
  go_wp2_with fail
  rw [HLL.out]
  refine hW.mono ?_
  rintro e w1 ⟨rfl, k1, h1, hR1, hLf, hH1⟩
  have S1 := h.str.kept k1 (by simpa using hsg)
  have A1 := h.all.kept k1 (.inr hag)
  have P1 := h.map.kept k1 (by simpa using hmg.symm)
  have T1 := fun u hu => (h.tasks u hu).kept k1 (by simpa using htg u hu)
  have k3 := grownBy_set w1 s 5 (.slice (some ⟨g, 0, none⟩) l cap)
  have R1 := row_of hR1 hBg (by omega) hc2
  have M2 : Mem B (w1.setCell ⟨s, 5, none⟩ (.slice (some ⟨g, 0, none⟩) l cap)) s va mb (.slice (some ⟨g, 0, none⟩) l cap) n { st with hp := rowOf h1 l } := by
    refine ⟨S1.set 5 _, A1.kept k3 (.inr (S1.not_row (by decide) A1).symm), ?_, ?_, P1.kept k3 (by simpa using (P1.ne S1).symm), fun u hu => (T1 u hu).kept k3 (by simpa using ((T1 u hu).ne S1 (by decide))), h.apart, h.hs, h.hm, h.ht⟩
    · show World.ownsRow _ _ _ _ _ (rowOf h1 l).length _
      rw [rowOf_length]
      exact R1.kept k3 (.inr (S1.not_row (by decide) R1).symm)
    · intro k hk e
      exact h.rows k hk e
  have MR := M2.rest ht
  have BR : Below B w (restW (w1.setCell ⟨s, 5, none⟩ (.slice (some ⟨g, 0, none⟩) l cap)) t.b) := by
    have b1 : Below B w w1 := ⟨k1.os, k1.tape, k1.output, k1.size, fun k hk => k1.block k (by have := h.hs; have := h.str.lt; omega) (fun e => by injection e with e; omega)⟩
    have b2 := b1.setCell (p := ⟨s, 5, none⟩) h.hs (.slice (some ⟨g, 0, none⟩) l cap)
    exact (((b2.setCell (p := ⟨t.b, 2, none⟩) (h.ht t ht) _).setCell (p := ⟨t.b, 3, none⟩) (h.ht t ht) _).setCell (p := ⟨t.b, 4, none⟩) (h.ht t ht) _).setCell (p := ⟨t.b, 5, none⟩) (h.ht t ht) _
  have FR : ∀ k, k < w.heap.size → k ≠ g → k ≠ s → k ≠ t.b → (restW (w1.setCell ⟨s, 5, none⟩ (.slice (some ⟨g, 0, none⟩) l cap)) t.b).heap[k]? = w.heap[k]? := fun k h0 h1 h2 h3 =>
    (Below.heap_setCell _ _ _ k h3).trans ((Below.heap_setCell _ _ _ k h3).trans ((Below.heap_setCell _ _ _ k h3).trans ((Below.heap_setCell _ _ _ k h3).trans ((Below.heap_setCell _ _ _ k h2).trans (k1.block k h0 (by simpa using h1))))))
  obtain ⟨d0, d1, d2, d3, d4, d5⟩ := S1.six
  have df := fun k => S1.frozen k
  obtain ⟨u0, u1, u2, u3, u4, u5⟩ := (M2.tasks t ht).six
  have uf := fun k => (M2.tasks t ht).frozen k
  have HMR := Lib.hid MR
  have HBR := Lib.hid BR
  have HFR := Lib.hid FR
  clear MR BR FR M2 R1 k3 A1 P1 T1 S1 k1 hR1 c0 c1 c2 c3 c4 c5 t0 t1 t2 t3 t4 t5
  go_wp2_with fail
  go_end0
  refine ⟨rfl, ⟨.slice (some ⟨g, 0, none⟩) l cap, rowOf h1 l, rfl, by rw [rowOf_length, HLL.out], ?_, HMR.out, ?_⟩, HBR.out, fun k a b c d => HFR.out k d (fun e => a (by rw [e]; rfl)) b c⟩
  · exact left_mem hG.nodup HLL.out hj HAJ.out hLf
  · exact good_rest hG h.apart ht HMR.out.apart (left_nodup hG.nodup HLL.out hLf) (left_mem hG.nodup HLL.out hj HAJ.out hLf) hH1
end Go.Proofs.Ytlkphbcdgkjnoaa
