/- Waking in plain words: a handler that has only just been added keeps the heap good; the past is refused. -/
import Derived.Test.YtlkphbcdgkjnoaaM17
namespace Go.Proofs.Ytlkphbcdgkjnoaa
open Go.RowKit Go.Maps

theorem good0 (p : Int) : Good (st0 p) := ⟨by simp [st0], fun t h => by simp [st0] at h, fun b h => by simp [st0] at h, fun j _ h => by simp [st0] at h⟩
/-- One more handler, not timed, in a block of its own. -/
theorem Good.add {st : St} (hG : Good st) (hap : st.l.Pairwise fun t u => t.b ≠ u.b) {t : T} (hap2 : (st.l ++ [t]).Pairwise fun t u => t.b ≠ u.b) (hti : t.timed = false) (o : Int) : Good { st with ord := o, l := st.l ++ [t] } := by
  have hnew : ∀ u ∈ st.l, u.b ≠ t.b := fun u hu => (List.pairwise_append.1 hap2).2.2 u hu t (by simp)
  refine ⟨hG.nodup, fun u hu => ?_, fun b hb => ?_, ?_⟩
  · rcases List.mem_append.1 hu with h | h
    · exact hG.mem u h
    · rw [List.mem_singleton] at h
      subst h
      rw [hti]
      refine ⟨fun x => (nomatch x), fun x => ?_⟩
      obtain ⟨v, hv, e⟩ := hG.sub _ x
      exact absurd e (hnew v hv)
  · obtain ⟨u, hu, e⟩ := hG.sub b hb
    exact ⟨u, List.mem_append_left _ hu, e⟩
  · refine heap_cong (fun _ _ => rfl) (fun i hi => ?_) hG.heap
    obtain ⟨u, hu, e⟩ := hG.sub _ (at_mem hi)
    rw [← e, keyOf_mem hap hu, keyOf_mem hap2 (List.mem_append_left _ hu)]

theorem until_past {B : Nat} {w : World} {s mb n : Nat} {va vt : Value} {st : St} (h : Mem B w s va mb vt n st) {id : Int} (hid : (Lit.int .u64 id).wf = true) {b : Nat} (hb : blkOf st.l id = b) (z : Int) (hz : z ≤ st.now) :
    Calls Try.prog 11 #[ptr s, .int .u64 id, .int .u64 z] w fun e w' => e = .returned (.int .i64 2) ∧ w' = w := by
  have hF := find_some h hid hb
  obtain ⟨c0, c1, c2, c3, c4, c5⟩ := h.str.six
  go_enter Try.func11, Try.ntmps11
  go_wp2_with (go_at_call 26; refine hF.mono ?_; rintro e w3 ⟨rfl, rfl⟩)
  go_ret
  exact ⟨rfl, rfl⟩

theorem now_any {B : Nat} {w : World} {s mb n : Nat} {va vt : Value} {st : St} (h : Mem B w s va mb vt n st) :
    Calls Try.prog 13 #[ptr s] w fun e w' => e = .returned (.int .u64 st.now) ∧ w' = w := by
  have hN := none_any h.str
  obtain ⟨c0, c1, c2, c3, c4, c5⟩ := h.str.six
  go_enter Try.func13, Try.ntmps13
  go_wp2_with (go_at_call 24; refine hN.mono ?_; rintro e w3 ⟨rfl, rfl⟩)
  go_ret
  exact ⟨rfl, rfl⟩

/-- How many are to be woken by a time. -/
def due (z : Int) (l : List T) : Nat := (l.filter fun t => t.timed && decide (t.at_ ≤ z)).length
theorem due_turned {z : Int} {l : List T} (hap : l.Pairwise fun t u => t.b ≠ u.b) {t : T} (ht : t ∈ l) (hti : t.timed = true) (ha : t.at_ ≤ z) : due z (turned t.b t.rested l) + 1 = due z l := by
  unfold due turned
  induction l with
  | nil => simp at ht
  | cons u l ih =>
    rw [List.pairwise_cons] at hap
    rcases List.mem_cons.1 ht with rfl | ht'
    · have hrest : (l.map fun u => if u.b = t.b then t.rested else u) = l := by
        conv => rhs; rw [← List.map_id l]
        refine List.map_congr_left fun v hv => ?_
        rw [if_neg (fun e => hap.1 v hv e.symm)]
        rfl
      rw [List.map_cons, if_pos rfl, hrest, List.filter_cons, List.filter_cons]
      simp [T.rested, hti, ha]
    · have hne : u.b ≠ t.b := hap.1 t ht'
      have := ih hap.2 ht'
      rw [List.map_cons, if_neg hne, List.filter_cons, List.filter_cons]
      split
      · rw [List.length_cons, List.length_cons]
        omega
      · exact this
theorem Trail.apart {z : Int} {st st' : St} {ts : List T} (h : Trail z st ts st') (hap : st.l.Pairwise fun t u => t.b ≠ u.b) : st'.l.Pairwise fun t u => t.b ≠ u.b := by
  induction h with
  | nil => exact hap
  | snoc _ _ _ _ _ _ ih => exact turned_apart ih rfl
/-- As many are woken as were due, less those that are due still. -/
theorem Trail.count {z : Int} {st st' : St} {ts : List T} (h : Trail z st ts st') (hap : st.l.Pairwise fun t u => t.b ≠ u.b) : ts.length + due z st'.l = due z st.l := by
  induction h with
  | nil => simp
  | snoc h1 ht hti ha _ _ ih =>
    have := due_turned (h1.apart hap) ht hti ha
    have := ih
    rw [List.length_append, List.length_singleton]
    show _ + 1 + due z (turned _ _ _) = _
    omega
theorem due_none {z : Int} {l : List T} (h : ∀ t ∈ l, t.timed = true → z < t.at_) : due z l = 0 := by
  unfold due
  rw [List.length_eq_zero_iff, List.filter_eq_nil_iff]
  intro t ht
  have := h t ht
  cases hti : t.timed
  · simp
  · have := this hti
    simp
    omega
/-- Those that are woken come in rising order of their times; who sleeps still comes behind them. -/
theorem Trail.rise {z : Int} {st st' : St} {ts : List T} (h : Trail z st ts st') : (ts.Pairwise fun t u => t.at_ ≤ u.at_) ∧ ∀ t ∈ ts, ∀ u ∈ st'.l, u.timed = true → t.at_ ≤ u.at_ := by
  induction h with
  | nil => exact ⟨List.Pairwise.nil, fun t ht => by simp at ht⟩
  | @snoc st1 ts t hp' h1 ht hti ha hmin _ ih =>
    obtain ⟨i1, i2⟩ := ih
    refine ⟨List.pairwise_append.2 ⟨i1, List.pairwise_singleton _ _, fun a ha' b hb => ?_⟩, fun p hp u hu hut => ?_⟩
    · rw [List.mem_singleton] at hb
      subst hb
      exact i2 a ha' _ ht hti
    · obtain ⟨v, hv, rfl⟩ := List.mem_map.1 hu
      by_cases e : v.b = t.b
      · rw [if_pos e] at hut
        cases hut
      · rw [if_neg e] at hut ⊢
        rcases List.mem_append.1 hp with hp | hp
        · exact i2 p hp v hv hut
        · rw [List.mem_singleton] at hp
          subst hp
          have := hmin v hv hut
          unfold ahd at this
          simp at this
          omega
/-- Whoever is woken slept until a time that is told. -/
theorem Trail.from {z : Int} {st st' : St} {ts : List T} (h : Trail z st ts st') : ∀ t ∈ ts, t ∈ st.l ∧ t.timed = true ∧ t.at_ ≤ z := by
  have : (∀ t ∈ ts, t ∈ st.l ∧ t.timed = true ∧ t.at_ ≤ z) ∧ ∀ u ∈ st'.l, u.timed = true → u ∈ st.l := by
    induction h with
    | nil => exact ⟨fun t ht => by simp at ht, fun u hu _ => hu⟩
    | @snoc st1 ts t hp' h1 ht hti ha hmin _ ih =>
      obtain ⟨i1, i2⟩ := ih
      refine ⟨fun p hp => ?_, fun u hu hut => ?_⟩
      · rcases List.mem_append.1 hp with hp | hp
        · exact i1 p hp
        · rw [List.mem_singleton] at hp
          subst hp
          exact ⟨i2 _ ht hti, hti, ha⟩
      · obtain ⟨v, hv, rfl⟩ := List.mem_map.1 hu
        by_cases e : v.b = t.b
        · rw [if_pos e] at hut
          cases hut
        · rw [if_neg e] at hut ⊢
          exact i2 v hv hut
  exact this.1
end Go.Proofs.Ytlkphbcdgkjnoaa
