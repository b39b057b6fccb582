/- The plain law of fairness: how many have waited for how long. No program in sight. -/
import Derived.Test.YtlkphbcdgkjnoaaM6
namespace Go.Proofs.Ytlkphbcdgkjnoaa

/-- How many have waited for so long. -/
def cnt (l : List T) (a : Int) : Nat := (l.filter fun t => decide (a ≤ t.age)).length
structure Inv (P : Int) (M : Nat) (l : List T) : Prop where
  len : l.length = M
  up : ∀ t ∈ l, t.asleep = false
  ids : ∀ (k : Nat) (t : T), l[k]? = some t → t.id = k
  age : ∀ t ∈ l, 0 ≤ t.age
  cnt : ∀ j : Nat, j ≤ M → cnt l (P + j) ≤ M - j

theorem aw_all {l : List T} (h : ∀ t ∈ l, t.asleep = false) : aw l = l := by
  unfold aw
  rw [List.filter_eq_self]
  intro t ht
  simp [h t ht]
theorem Inv.bound {P : Int} {M : Nat} {l : List T} (h : Inv P M l) {t : T} (ht : t ∈ l) : t.age < P + M := by
  have := h.cnt M (Nat.le_refl _)
  unfold Go.Proofs.Ytlkphbcdgkjnoaa.cnt at this
  have h0 : l.filter (fun t => decide (P + (M : Int) ≤ t.age)) = [] := List.eq_nil_of_length_eq_zero (by omega)
  rw [List.filter_eq_nil_iff] at h0
  have := h0 t ht
  simp only [decide_eq_true_eq] at this
  omega

theorem old_max {pat : Int} : ∀ (l : List T) (acc : Option T), (∀ u ∈ l, pat ≤ u.age → ∃ t, l.foldl (oldStep pat) acc = some t ∧ u.age ≤ t.age) ∧ ∀ u, acc = some u → ∃ t, l.foldl (oldStep pat) acc = some t ∧ u.age ≤ t.age := by
  intro l
  induction l with
  | nil => exact fun acc => ⟨fun u hu => by simp at hu, fun u hu => ⟨u, hu, Int.le_refl _⟩⟩
  | cons v l ih =>
    intro acc
    rw [List.foldl_cons]
    have ih := ih (oldStep pat acc v)
    have step : ∀ u, (acc = some u ∨ (u = v ∧ pat ≤ v.age)) → ∃ t, oldStep pat acc v = some t ∧ u.age ≤ t.age := by
      intro u hu
      unfold oldStep
      by_cases c : (decide (pat ≤ v.age) && over acc v) = true
      · rw [if_pos c]
        refine ⟨v, rfl, ?_⟩
        rcases hu with hu | ⟨rfl, _⟩
        · rw [Bool.and_eq_true, hu] at c
          have := c.2
          unfold over at this
          simp only [decide_eq_true_eq] at this
          omega
        · exact Int.le_refl _
      · rw [if_neg c]
        rcases hu with hu | ⟨rfl, hp⟩
        · exact ⟨u, hu, Int.le_refl _⟩
        · cases hacc : acc with
          | none =>
            rw [hacc] at c
            simp [over, hp] at c
          | some x =>
            rw [hacc] at c
            simp [over, hp] at c
            exact ⟨x, rfl, by omega⟩
    refine ⟨fun u hu hp => ?_, fun u hu => ?_⟩
    · rcases List.mem_cons.1 hu with rfl | hu
      · obtain ⟨t, h1, h2⟩ := step u (.inr ⟨rfl, hp⟩)
        obtain ⟨t', h3, h4⟩ := ih.2 t h1
        exact ⟨t', h3, by omega⟩
      · exact ih.1 u hu hp
    · obtain ⟨t, h1, h2⟩ := step u (.inl hu)
      obtain ⟨t', h3, h4⟩ := ih.2 t h1
      exact ⟨t', h3, by omega⟩

theorem chosen_mem {st : St} {x : Nat} {t : T} (h : chosen st x = some t) : t ∈ aw st.l := by
  unfold chosen at h
  split at h
  · rename_i u hu
    injection h with h
    subst h
    exact (old_mem hu).1
  · exact List.mem_of_getElem? h
theorem chosen_some {P : Int} {M : Nat} {st : St} (h : Inv P M st.l) (hM : 0 < M) (x : Nat) : ∃ t, chosen st x = some t := by
  unfold chosen
  split
  · exact ⟨_, rfl⟩
  · rw [aw_all h.up, h.len]
    exact ⟨_, List.getElem?_eq_getElem (by rw [h.len]; exact Nat.mod_lt _ hM)⟩
theorem chosen_max {st : St} {x : Nat} {t u : T} (h : chosen st x = some t) (hu : u ∈ aw st.l) (hp : st.pat ≤ u.age) : u.age ≤ t.age := by
  obtain ⟨t', h1, h2⟩ := (old_max (aw st.l) none).1 u hu hp
  unfold chosen at h
  have e : old st.pat (aw st.l) none = some t' := h1
  rw [e] at h
  injection h with h
  subst h
  exact h2

theorem picked_up {st : St} {b : Nat} (h : ∀ t ∈ st.l, t.asleep = false) : (picked st b).l = st.l.map fun t => { t with age := if t.b = b then 0 else t.age + 1 } := by
  unfold picked
  refine List.map_congr_left fun t ht => ?_
  simp [h t ht]
theorem inv_step {M : Nat} {st : St} (h : Inv st.pat M st.l) (hP : 0 ≤ st.pat) {x : Nat} {t : T} (ht : chosen st x = some t) : Inv st.pat M (picked st t.b).l := by
  have hm := chosen_mem ht
  have hup := h.up
  rw [aw_all hup] at hm
  rw [picked_up hup]
  refine ⟨by rw [List.length_map]; exact h.len, fun u hu => ?_, fun k u hk => ?_, fun u hu => ?_, fun j hj => ?_⟩
  · obtain ⟨v, hv, rfl⟩ := List.mem_map.1 hu
    exact hup v hv
  · rw [List.getElem?_map, Option.map_eq_some_iff] at hk
    obtain ⟨v, hv, rfl⟩ := hk
    exact h.ids k v hv
  · obtain ⟨v, hv, rfl⟩ := List.mem_map.1 hu
    have := h.age v hv
    show 0 ≤ if v.b = t.b then 0 else v.age + 1
    split <;> omega
  · cases j with
    | zero =>
      unfold cnt
      refine Nat.le_trans (List.length_filter_le _ _) ?_
      rw [List.length_map, h.len]
      omega
    | succ j =>
      have hj' := h.cnt j (by omega)
      unfold cnt at hj' ⊢
      rw [List.filter_map, List.length_map]
      have hsub : (st.l.filter ((fun t => decide (st.pat + ((j + 1 : Nat) : Int) ≤ t.age)) ∘ fun u => { u with age := if u.b = t.b then 0 else u.age + 1 })) =
          (st.l.filter fun u => decide (st.pat + (j : Int) ≤ u.age)).filter fun u => decide (u.b ≠ t.b) := by
        rw [List.filter_filter]
        refine List.filter_congr fun u hu => ?_
        have := h.age u hu
        simp only [Function.comp]
        by_cases e : u.b = t.b
        · simp [e]
          omega
        · simp [e]
          omega
      rw [hsub]
      by_cases he : (st.l.filter fun u => decide (st.pat + (j : Int) ≤ u.age)) = []
      · rw [he]
        simp
      · obtain ⟨u, hu⟩ := List.exists_mem_of_ne_nil _ he
        obtain ⟨hu1, hu2⟩ := List.mem_filter.1 hu
        simp only [decide_eq_true_eq] at hu2
        have hmax := chosen_max ht (u := u) (by rw [aw_all hup]; exact hu1) (by omega)
        have hlt : ((st.l.filter fun u => decide (st.pat + (j : Int) ≤ u.age)).filter fun u => decide (u.b ≠ t.b)).length < (st.l.filter fun u => decide (st.pat + (j : Int) ≤ u.age)).length := by
          rw [List.length_filter_lt_length_iff_exists]
          exact ⟨t, List.mem_filter.2 ⟨hm, by simp only [decide_eq_true_eq]; omega⟩, by simp⟩
        omega

/-- What the law counts is the age. -/
theorem ages_step {M : Nat} {st : St} (h : Inv st.pat M st.l) (hap : st.l.Pairwise fun t u => t.b ≠ u.b) {k : Nat} {t : T} (ht : st.l[k]? = some t) :
    (picked st t.b).l.map T.age = ((st.l.map T.age).map (· + 1)).set k 0 := by
  rw [picked_up h.up]
  apply List.ext_getElem?
  intro i
  rw [List.getElem?_set]
  simp only [List.getElem?_map, List.length_map]
  have hk := (List.getElem?_eq_some_iff.1 ht).1
  by_cases e : k = i
  · subst e
    obtain ⟨h3, h4⟩ := List.getElem?_eq_some_iff.1 ht
    simp [hk, h4]
  · rw [if_neg e]
    cases hi : st.l[i]? with
    | none => rfl
    | some u =>
      have : u.b ≠ t.b := by
        intro e'
        obtain ⟨h1, h2⟩ := List.getElem?_eq_some_iff.1 hi
        obtain ⟨h3, h4⟩ := List.getElem?_eq_some_iff.1 ht
        have hp := List.pairwise_iff_getElem.1 hap
        rcases Nat.lt_or_gt_of_ne e with hlt | hlt
        · exact hp k i hk h1 hlt (by rw [h2, h4]; exact e'.symm)
        · exact hp i k h1 hk hlt (by rw [h2, h4]; exact e')
      simp [this]
end Go.Proofs.Ytlkphbcdgkjnoaa
