/- Next, Pick and Tick in plain words: the scheduler's answers are the document's. -/
import Derived.Test.YtlkphbcdgkjnoaaL1
namespace Go.Proofs.Ytlkphbcdgkjnoaa
open Go.RowKit Go.Maps

/-! ### Next -/
theorem next_fold : ∀ (L : List R) (acc : Option Int), (L.foldl nextStep acc = none ∧ acc = none ∧ ∀ u ∈ L, u.timed = false) ∨ ∃ a, L.foldl nextStep acc = some a ∧ (acc = some a ∨ ∃ t ∈ L, t.timed = true ∧ t.at_ = a) ∧ (∀ u ∈ L, u.timed = true → a ≤ u.at_) ∧ ∀ a0, acc = some a0 → a ≤ a0
  | [], none => .inl ⟨rfl, rfl, fun u h => by simp at h⟩
  | [], some a => .inr ⟨a, rfl, .inl rfl, fun u h => by simp at h, fun a0 h => by injection h with h; omega⟩
  | t :: L, acc => by
    rw [List.foldl_cons]
    cases ht : t.timed
    · have e : nextStep acc t = acc := by simp [nextStep, ht]
      rw [e]
      rcases next_fold L acc with ⟨h1, h2, h3⟩ | ⟨a, h1, h2, h3, h4⟩
      · refine .inl ⟨h1, h2, fun u hu => ?_⟩
        rcases List.mem_cons.1 hu with rfl | hu
        · exact ht
        · exact h3 u hu
      · refine .inr ⟨a, h1, h2.imp id (fun ⟨v, hv, x⟩ => ⟨v, List.mem_cons_of_mem _ hv, x⟩), fun u hu hut => ?_, h4⟩
        rcases List.mem_cons.1 hu with rfl | hu
        · rw [ht] at hut; cases hut
        · exact h3 u hu hut
    · by_cases hb : acc = none ∨ ∃ a0, acc = some a0 ∧ t.at_ < a0
      · have e : nextStep acc t = some t.at_ := by
          rcases hb with rfl | ⟨a0, rfl, hlt⟩
          · simp [nextStep, ht]
          · simp [nextStep, ht, hlt]
        rw [e]
        rcases next_fold L (some t.at_) with ⟨h1, h2, h3⟩ | ⟨a, h1, h2, h3, h4⟩
        · cases h2
        · have h5 := h4 _ rfl
          refine .inr ⟨a, h1, .inr ?_, fun u hu hut => ?_, fun a0 h0 => ?_⟩
          · rcases h2 with h2 | ⟨v, hv, x⟩
            · injection h2 with h2
              exact ⟨t, List.mem_cons_self, ht, h2⟩
            · exact ⟨v, List.mem_cons_of_mem _ hv, x⟩
          · rcases List.mem_cons.1 hu with rfl | hu
            · exact h5
            · exact h3 u hu hut
          · rcases hb with rfl | ⟨a1, rfl, hlt⟩
            · cases h0
            · injection h0 with h0; omega
      · obtain ⟨a0, rfl⟩ : ∃ a0, acc = some a0 := by
          cases acc with
          | none => exact absurd (.inl rfl) hb
          | some a0 => exact ⟨a0, rfl⟩
        have hge : ¬ t.at_ < a0 := fun x => hb (.inr ⟨a0, rfl, x⟩)
        have e : nextStep (some a0) t = some a0 := by simp [nextStep, hge]
        rw [e]
        rcases next_fold L (some a0) with ⟨h1, h2, h3⟩ | ⟨a, h1, h2, h3, h4⟩
        · cases h2
        · have h5 := h4 _ rfl
          refine .inr ⟨a, h1, h2.imp id (fun ⟨v, hv, x⟩ => ⟨v, List.mem_cons_of_mem _ hv, x⟩), fun u hu hut => ?_, h4⟩
          rcases List.mem_cons.1 hu with rfl | hu
          · omega
          · exact h3 u hu hut
theorem next_law0 {l : List T} (h : ∀ u ∈ l, u.timed = false) : rnext (l.map T.r) = none := by
  rcases next_fold (l.map T.r) none with ⟨h1, _⟩ | ⟨a, h1, h2 | ⟨t, ht, x, _⟩, _⟩
  · exact h1
  · cases h2
  · obtain ⟨u, hu, rfl⟩ := List.mem_map.1 ht
    have := h u hu
    rw [show u.r.timed = u.timed from rfl, this] at x
    cases x
theorem next_law1 {l : List T} {t : T} (ht : t ∈ l) (htt : t.timed = true) (hmin : ∀ u ∈ l, u.timed = true → ahd u.at_ u.ord t.at_ t.ord = false) : rnext (l.map T.r) = some t.at_ := by
  rcases next_fold (l.map T.r) none with ⟨_, _, h3⟩ | ⟨a, h1, h2 | ⟨v, hv, x, y⟩, h3, _⟩
  · have := h3 t.r (List.mem_map.2 ⟨t, ht, rfl⟩)
    rw [show t.r.timed = t.timed from rfl, htt] at this
    cases this
  · cases h2
  · obtain ⟨u, hu, rfl⟩ := List.mem_map.1 hv
    have h4 := h3 t.r (List.mem_map.2 ⟨t, ht, rfl⟩) htt
    have h5 := hmin u hu x
    unfold ahd at h5
    simp at h5
    have h4 : a ≤ t.at_ := h4
    have y : u.at_ = a := y
    show List.foldl _ _ _ = _
    rw [h1]
    congr 1
    omega

/-! ### Pick -/
theorem aw_take {l : List T} {j : Nat} {t : T} (hj : l[j]? = some t) : aw (l.take (j + 1)) = aw (l.take j) ++ (if t.asleep = false then [t] else []) := by
  obtain ⟨hl, e⟩ := List.getElem?_eq_some_iff.1 hj
  rw [List.take_succ_eq_append_getElem hl, e]
  unfold aw
  rw [List.filter_append]
  cases h : t.asleep <;> simp [List.filter_cons, h]
theorem r_get {l : List T} {j : Nat} {t : T} (hj : l[j]? = some t) : (l.map T.r)[j]? = some t.r := by rw [List.getElem?_map, hj]; rfl
theorem best_old (pat : Int) (l : List T) : ∀ j, j ≤ l.length → old pat (aw (l.take j)) none = (best pat (l.map T.r) j).bind (fun b => l[b]?)
  | 0, _ => by simp [aw, old, best]
  | j + 1, hj => by
    have ih := best_old pat l j (by omega)
    obtain ⟨t, ht⟩ : ∃ t, l[j]? = some t := ⟨_, List.getElem?_eq_getElem (by omega)⟩
    rw [aw_take ht, best_succ]
    unfold bestStep
    rw [r_get ht]
    simp only
    cases ha : t.asleep
    · rw [if_pos rfl, old_snoc, ih]
      have hr : t.r.asleep = false := ha
      rw [hr]
      simp only [Bool.false_eq_true, if_false]
      have hov : rover (l.map T.r) (best pat (l.map T.r) j) t.r = over ((best pat (l.map T.r) j).bind fun b => l[b]?) t := by
        cases hb : best pat (l.map T.r) j with
        | none => rfl
        | some b =>
          obtain ⟨_, hbl⟩ := best_lt j b hb
          rw [List.length_map] at hbl
          obtain ⟨u, hu⟩ : ∃ u, l[b]? = some u := ⟨_, List.getElem?_eq_getElem hbl⟩
          show (match (l.map T.r)[b]? with | some u => decide (u.age < t.r.age) | none => true) = over (l[b]?) t
          rw [r_get hu, hu]
          rfl
      unfold oldStep
      rw [hov]
      show (if (decide (pat ≤ t.age) && _) = true then some t else _) = _
      have ea : t.r.age = t.age := rfl
      rw [ea]
      split
      · show some t = l[j]?
        rw [ht]
      · rfl
    · rw [if_neg (by simp)]
      have hr : t.r.asleep = true := ha
      rw [hr]
      simp only [if_true, List.append_nil]
      exact ih
theorem aw_idx (l : List T) : ∀ j, j ≤ l.length → (awIdx (l.map T.r) j).map (fun i => l[i]?) = (aw (l.take j)).map some
  | 0, _ => by simp [aw, awIdx]
  | j + 1, hj => by
    have ih := aw_idx l j (by omega)
    obtain ⟨t, ht⟩ : ∃ t, l[j]? = some t := ⟨_, List.getElem?_eq_getElem (by omega)⟩
    rw [aw_take ht]
    cases ha : t.asleep
    · rw [awIdx_more (r_get ht) ha, if_pos rfl, List.map_append, List.map_append, ih]
      simp [ht]
    · rw [awIdx_same (r_get ht) ha, if_neg (by simp), List.append_nil, ih]
theorem aw_none {l : List T} (h : aw l = []) : ∀ t ∈ l.map T.r, t.asleep = true := fun t ht => by
  obtain ⟨u, hu, rfl⟩ := List.mem_map.1 ht
  cases ha : u.asleep
  · have : u ∈ aw l := aw_mem.2 ⟨hu, ha⟩
    rw [h] at this
    simp at this
  · exact ha
theorem chosen_none {st : St} {x : Nat} (h : chosen st x = none) : aw st.l = [] := by
  unfold chosen at h
  cases ho : old st.pat (aw st.l) none with
  | some t => rw [ho] at h; cases h
  | none =>
    rw [ho] at h
    have h : (aw st.l)[x % (aw st.l).length]? = none := h
    rw [List.getElem?_eq_none_iff] at h
    by_cases e : aw st.l = []
    · exact e
    · have := Nat.mod_lt x (List.length_pos_iff.2 e)
      omega
theorem chosen_some {st : St} {x : Nat} {t : T} (h : chosen st x = some t) : ∃ i, rchosen st.pat (st.l.map T.r) x = some i ∧ st.l[i]? = some t := by
  have hb := best_old st.pat st.l st.l.length (Nat.le_refl _)
  rw [List.take_length] at hb
  unfold chosen at h
  unfold rchosen
  rw [List.length_map]
  cases ho : best st.pat (st.l.map T.r) st.l.length with
  | some i =>
    rw [ho] at hb
    obtain ⟨_, hil⟩ := best_lt _ i ho
    rw [List.length_map] at hil
    have hi : st.l[i]? = some st.l[i] := List.getElem?_eq_getElem hil
    have hb : old st.pat (aw st.l) none = st.l[i]? := hb
    rw [hb, hi] at h
    exact ⟨i, rfl, by rw [hi]; exact h⟩
  | none =>
    rw [ho] at hb
    have hb : old st.pat (aw st.l) none = none := hb
    rw [hb] at h
    have h : (aw st.l)[x % (aw st.l).length]? = some t := h
    have hx := aw_idx st.l st.l.length (Nat.le_refl _)
    rw [List.take_length] at hx
    have hlen : (awIdx (st.l.map T.r) st.l.length).length = (aw st.l).length := by have := congrArg List.length hx; simpa using this
    have := congrArg (fun l => l[x % (aw st.l).length]?) hx
    simp only [List.getElem?_map, h, Option.map_some] at this
    obtain ⟨i, hi, e⟩ := Option.map_eq_some_iff.1 this
    exact ⟨i, by show (awIdx _ _)[x % (awIdx _ _).length]? = _; rw [hlen, hi], e⟩
def upR (t : R) : R := if t.asleep then t else { t with age := t.age + 1 }
theorem bump_at (L : List R) : ∀ j, j ≤ L.length → ∀ i, (bumpR L (awIdx L j))[i]? = if i < j then L[i]?.map upR else L[i]?
  | 0, _, i => by simp [awIdx, bumpR]
  | j + 1, hj, i => by
    have ih := bump_at L j (by omega)
    obtain ⟨t, ht⟩ : ∃ t, L[j]? = some t := ⟨_, List.getElem?_eq_getElem (by omega)⟩
    cases ha : t.asleep
    · rw [awIdx_more ht ha]
      have e : bumpR L (awIdx L j ++ [j]) = incR (bumpR L (awIdx L j)) j := by simp [bumpR, List.foldl_append]
      rw [e]
      have hjj : (bumpR L (awIdx L j))[j]? = some t := by rw [ih j, if_neg (by omega), ht]
      unfold incR
      rw [hjj]
      simp only
      rw [List.getElem?_set]
      have hl : j < (bumpR L (awIdx L j)).length := by rw [bumpR_len]; omega
      by_cases e2 : j = i
      · subst e2
        rw [if_pos rfl, if_pos hl, if_pos (by omega), ht]
        simp [upR, ha]
      · rw [if_neg e2, ih i]
        by_cases h3 : i < j
        · rw [if_pos h3, if_pos (by omega)]
        · rw [if_neg h3, if_neg (by omega)]
    · rw [awIdx_same ht ha, ih i]
      by_cases e2 : i = j
      · subst e2
        rw [if_neg (by omega), if_pos (by omega), ht]
        simp [upR, ha]
      · by_cases h3 : i < j
        · rw [if_pos h3, if_pos (by omega)]
        · rw [if_neg h3, if_neg (by omega)]
theorem picked_r {st : St} (hap : st.l.Pairwise fun t u => t.b ≠ u.b) {i : Nat} {t : T} (hi : st.l[i]? = some t) (ha : t.asleep = false) : (picked st t.b).l.map T.r = rpicked (st.l.map T.r) i := by
  have hb : ∀ m, (bumpR (st.l.map T.r) (awIdx (st.l.map T.r) (st.l.map T.r).length))[m]? = (st.l.map T.r)[m]?.map upR := fun m => by
    rw [bump_at _ _ (Nat.le_refl _)]
    by_cases h : m < (st.l.map T.r).length
    · rw [if_pos h]
    · rw [if_neg h, List.getElem?_eq_none (by omega)]; rfl
  have hil := (List.getElem?_eq_some_iff.1 hi).1
  unfold rpicked
  rw [hb i, r_get hi]
  simp only [Option.map_some]
  apply List.ext_getElem?
  intro m
  rw [List.getElem?_set]
  have hl : (bumpR (st.l.map T.r) (awIdx (st.l.map T.r) (st.l.map T.r).length)).length = st.l.length := by rw [bumpR_len, List.length_map]
  show ((st.l.map fun u => if u.asleep then u else { u with age := if u.b = t.b then 0 else u.age + 1 }).map T.r)[m]? = _
  rw [List.map_map, List.getElem?_map]
  by_cases e : i = m
  · subst e
    rw [if_pos rfl, if_pos (by omega), hi]
    have h1 : t.r.asleep = false := ha
    simp [Function.comp, ha, upR, h1]
    rfl
  · rw [if_neg e, hb m, List.getElem?_map]
    cases hm : st.l[m]? with
    | none => rfl
    | some u =>
      obtain ⟨ml, em⟩ := List.getElem?_eq_some_iff.1 hm
      obtain ⟨il, ei⟩ := List.getElem?_eq_some_iff.1 hi
      have hne : u.b ≠ t.b := by
        intro e2
        have hp := List.pairwise_iff_getElem.1 hap
        rcases Nat.lt_or_gt_of_ne e with h | h
        · exact hp i m il ml h (by rw [ei, em]; exact e2.symm)
        · exact hp m i ml il h (by rw [ei, em]; exact e2)
      cases hu : u.asleep
      · have h1 : u.r.asleep = false := hu
        simp [Function.comp, hu, hne, upR, h1]
        rfl
      · have h1 : u.r.asleep = true := hu
        simp [Function.comp, hu, upR, h1]

/-! ### Tick -/
theorem tbest_spec {z : Int} {L : List R} : ∀ j, j ≤ L.length → (tbest z L j = none ∧ ∀ i t, i < j → L[i]? = some t → dueB z t = false) ∨ ∃ b u, tbest z L j = some b ∧ b < j ∧ L[b]? = some u ∧ dueB z u = true ∧ ∀ i t, i < j → L[i]? = some t → dueB z t = true → u.at_ ≤ t.at_ ∧ (i < b → u.at_ < t.at_)
  | 0, _ => .inl ⟨rfl, fun i t h => by omega⟩
  | j + 1, hj => by
    have ih := tbest_spec (z := z) (L := L) j (by omega)
    obtain ⟨t, ht⟩ : ∃ t, L[j]? = some t := ⟨_, List.getElem?_eq_getElem (by omega)⟩
    have hs : tbest z L (j + 1) = if (dueB z t && soon L (tbest z L j) t) = true then some j else tbest z L j := by
      rw [tbest_succ]
      unfold tbStep
      rw [ht]
    have last : ∀ i v, i < j + 1 → L[i]? = some v → i < j ∨ (i = j ∧ v = t) := fun i v hi hv => by
      by_cases e : i = j
      · subst e
        rw [ht] at hv
        injection hv with hv
        exact .inr ⟨rfl, hv.symm⟩
      · exact .inl (by omega)
    rcases ih with ⟨h1, h2⟩ | ⟨b, u, h1, h2, h3, h4, h5⟩
    · rw [h1] at hs
      cases hd : dueB z t
      · left
        rw [hd] at hs
        refine ⟨by rw [hs]; rfl, fun i v hi hv => ?_⟩
        rcases last i v hi hv with h | ⟨_, rfl⟩
        · exact h2 i v h hv
        · exact hd
      · right
        rw [hd] at hs
        refine ⟨j, t, by rw [hs]; rfl, by omega, ht, hd, fun i v hi hv hdv => ?_⟩
        rcases last i v hi hv with h | ⟨e, rfl⟩
        · rw [h2 i v h hv] at hdv; cases hdv
        · exact ⟨Int.le_refl _, fun x => by omega⟩
    · right
      rw [h1] at hs
      have hso : soon L (some b) t = decide (t.at_ < u.at_) := by
        show (match L[b]? with | some u => decide (t.at_ < u.at_) | none => true) = _
        rw [h3]
      rw [hso] at hs
      by_cases hc : dueB z t = true ∧ t.at_ < u.at_
      · rw [if_pos (by simp [hc.1, hc.2])] at hs
        refine ⟨j, t, hs, by omega, ht, hc.1, fun i v hi hv hdv => ?_⟩
        rcases last i v hi hv with h | ⟨e, rfl⟩
        · have := h5 i v h hv hdv
          exact ⟨by omega, fun _ => by omega⟩
        · exact ⟨Int.le_refl _, fun x => by omega⟩
      · rw [if_neg (by
          intro x
          rw [Bool.and_eq_true] at x
          exact hc ⟨x.1, by simpa using x.2⟩)] at hs
        refine ⟨b, u, hs, by omega, h3, h4, fun i v hi hv hdv => ?_⟩
        rcases last i v hi hv with h | ⟨e, rfl⟩
        · exact h5 i v h hv hdv
        · have : ¬ v.at_ < u.at_ := fun x => hc ⟨hdv, x⟩
          exact ⟨by omega, fun x => by omega⟩
theorem due_r (z : Int) (t : T) : dueB z t.r = (t.timed && decide (t.at_ ≤ z)) := rfl
theorem trail_r {z : Int} {st st' : St} {ts : List T} (h : Trail z st ts st') {c : Nat} (I : Inv c st) (hap : st.l.Pairwise fun t u => t.b ≠ u.b) : RTrail z (st.l.map T.r) (ts.map T.id) (st'.l.map T.r) := by
  induction h with
  | nil => exact .nil
  | @snoc st1 ts t hp' h1 ht hti ha hmin _ ih =>
    have I1 := h1.inv I hap
    have hap1 := h1.apart hap
    obtain ⟨i, hi, ei⟩ := List.getElem_of_mem ht
    have hi2 : st1.l[i]? = some t := by rw [List.getElem?_eq_getElem hi, ei]
    have hd : dueB z t.r = true := by rw [due_r, hti]; simpa using ha
    have hb : tbest z (st1.l.map T.r) (st1.l.map T.r).length = some i := by
      rcases tbest_spec (z := z) (L := st1.l.map T.r) _ (Nat.le_refl _) with ⟨_, h2⟩ | ⟨b, u, h2, h3, h4, h5, h6⟩
      · have := h2 i t.r (by rw [List.length_map]; exact hi) (r_get hi2)
        rw [hd] at this
        cases this
      · rw [h2]
        congr 1
        rw [List.getElem?_map] at h4
        obtain ⟨v, hv, rfl⟩ := Option.map_eq_some_iff.1 h4
        have h7 := h6 i t.r (by rw [List.length_map]; exact hi) (r_get hi2) hd
        have hvt : v.timed = true := by
          rw [due_r] at h5
          simp at h5
          exact h5.1
        obtain ⟨vl, ev⟩ := List.getElem?_eq_some_iff.1 hv
        have h8 := hmin v (List.mem_of_getElem? hv) hvt
        unfold ahd at h8
        simp at h8
        have e1 : v.r.at_ = v.at_ := rfl
        have e2 : t.r.at_ = t.at_ := rfl
        rw [e1, e2] at h7
        have hp := List.pairwise_iff_getElem.1 I1.ords
        rcases Nat.lt_trichotomy b i with h | h | h
        · have := hp b i vl hi h
          rw [ev, ei] at this
          have := h8.2 (by omega)
          omega
        · exact h
        · have := h7.2 h
          omega
    have hn := RTrail.snoc (ih) hb (r_get hi2)
    rw [List.map_append]
    show RTrail z _ (_ ++ [t.id]) ((turned t.b t.rested st1.l).map T.r)
    rw [r_turned hap1 hi2]
    exact hn
theorem tbest_none {z : Int} {l : List T} (h : ∀ t ∈ l, t.timed = true → z < t.at_) : tbest z (l.map T.r) (l.map T.r).length = none := by
  rcases tbest_spec (z := z) (L := l.map T.r) _ (Nat.le_refl _) with ⟨h1, _⟩ | ⟨b, u, h1, _, h3, h4, _⟩
  · exact h1
  · rw [List.getElem?_map] at h3
    obtain ⟨v, hv, rfl⟩ := Option.map_eq_some_iff.1 h3
    rw [due_r] at h4
    simp at h4
    have := h v (List.mem_of_getElem? hv) h4.1
    omega
def rstep (z : Int) (p : List Int × List R) : Option (List Int × List R) := match tbest z p.2 p.2.length with | none => none | some i => match p.2[i]? with | some t => some (p.1 ++ [t.id], p.2.set i ⟨t.id, false, false, 0, 0⟩) | none => none
def riter (z : Int) (L : List R) : Nat → Option (List Int × List R)
  | 0 => some ([], L)
  | n + 1 => (riter z L n).bind (rstep z)
theorem RTrail.iter {z : Int} {L L1 : List R} {xs : List Int} (h : RTrail z L xs L1) : riter z L xs.length = some (xs, L1) := by
  induction h with
  | nil => rfl
  | @snoc xs L1 i t h1 hb ht ih =>
    rw [List.length_append]
    show (riter z L xs.length).bind (rstep z) = _
    rw [ih]
    show rstep z (xs, L1) = _
    unfold rstep
    simp only [hb, ht]
theorem riter_none {z : Int} {L : List R} {n : Nat} (h : riter z L n = none) : ∀ k, riter z L (n + k) = none
  | 0 => h
  | k + 1 => by
    show (riter z L (n + k)).bind (rstep z) = none
    rw [riter_none h k]
    rfl
theorem RTrail.stop {z : Int} {L L1 : List R} {xs : List Int} (h : RTrail z L xs L1) (hn : tbest z L1 L1.length = none) : riter z L (xs.length + 1) = none := by
  show (riter z L xs.length).bind (rstep z) = none
  rw [h.iter]
  show rstep z (xs, L1) = none
  unfold rstep
  simp only [hn]
theorem RTrail.one {z : Int} {L L1 L2 : List R} {xs ys : List Int} (h1 : RTrail z L xs L1) (n1 : tbest z L1 L1.length = none) (h2 : RTrail z L ys L2) (n2 : tbest z L2 L2.length = none) : xs = ys ∧ L1 = L2 := by
  have hl : xs.length = ys.length := by
    rcases Nat.lt_trichotomy xs.length ys.length with h | h | h
    · have := riter_none (h1.stop n1) (ys.length - (xs.length + 1))
      rw [show xs.length + 1 + (ys.length - (xs.length + 1)) = ys.length by omega, h2.iter] at this
      cases this
    · exact h
    · have := riter_none (h2.stop n2) (xs.length - (ys.length + 1))
      rw [show ys.length + 1 + (xs.length - (ys.length + 1)) = xs.length by omega, h1.iter] at this
      cases this
  have e := h1.iter
  rw [hl, h2.iter] at e
  injection e with e
  injection e with e1 e2
  exact ⟨e1.symm, e2.symm⟩
end Go.Proofs.Ytlkphbcdgkjnoaa
