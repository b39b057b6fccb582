/- Waking in plain words: who sleeps, by the law's own list of times. -/
import Derived.Test.YtlkphbcdgkjnoaaS3
namespace Go.Proofs.Ytlkphbcdgkjnoaa

/-- Handler i sleeps until us[i], if that is still to come. -/
structure Sleep (us : List Int) (nw : Int) (l : List T) : Prop where
  len : l.length ≤ us.length
  ids : ∀ (i : Nat) (t : T), l[i]? = some t → t.id = i
  at_ : ∀ (i : Nat) (t : T) (u : Int), l[i]? = some t → us[i]? = some u → (t.timed = true ↔ nw < u) ∧ (t.timed = true → t.at_ = u)

theorem Trail.same {z : Int} {st st' : St} {ts : List T} (h : Trail z st ts st') (hap : st.l.Pairwise fun t u => t.b ≠ u.b) : st'.l.length = st.l.length ∧ ∀ (i : Nat) (t' : T), st'.l[i]? = some t' → ∃ t, st.l[i]? = some t ∧ (t' = t ∨ (t' = t.rested ∧ t.timed = true ∧ t.at_ ≤ z)) := by
  induction h with
  | nil => exact ⟨rfl, fun i t' h => ⟨t', h, .inl rfl⟩⟩
  | @snoc st1 ts t hp' h1 ht hti ha hmin _ ih =>
    obtain ⟨i1, i2⟩ := ih
    refine ⟨by show (turned t.b t.rested st1.l).length = _; rw [← i1]; simp [turned], fun i t' hi => ?_⟩
    simp only [turned, List.getElem?_map, Option.map_eq_some_iff] at hi
    obtain ⟨v, hv, rfl⟩ := hi
    obtain ⟨w, hw, hvw⟩ := i2 i v hv
    by_cases e : v.b = t.b
    · have := apart_eq (h1.apart hap) ht (List.mem_of_getElem? hv) e
      subst this
      rw [if_pos rfl]
      rcases hvw with rfl | ⟨rfl, h2, h3⟩
      · exact ⟨v, hw, .inr ⟨rfl, hti, ha⟩⟩
      · cases hti
    · rw [if_neg e]
      exact ⟨w, hw, hvw⟩

/-- Behind a tick, who sleeps is who sleeps beyond what was told. -/
theorem Sleep.tick {us : List Int} {nw z : Int} {st st' : St} {ts : List T} (S : Sleep us nw st.l) (hz : nw ≤ z) (h : Trail z st ts st') (hap : st.l.Pairwise fun t u => t.b ≠ u.b) (hd : ∀ t ∈ st'.l, t.timed = true → z < t.at_) : Sleep us z st'.l := by
  obtain ⟨h1, h2⟩ := h.same hap
  refine ⟨by rw [h1]; exact S.len, fun i t' hi => ?_, fun i t' u hi hu => ?_⟩
  · obtain ⟨t, ht, e | ⟨e, _⟩⟩ := h2 i t' hi
    · rw [e]; exact S.ids i t ht
    · rw [e]; exact S.ids i t ht
  · obtain ⟨t, ht, e | ⟨e, h3, h4⟩⟩ := h2 i t' hi
    · subst e
      obtain ⟨a, b⟩ := S.at_ i t' u ht hu
      refine ⟨⟨fun x => ?_, fun x => a.2 (by omega)⟩, b⟩
      have := hd t' (List.mem_of_getElem? hi) x
      have := b x
      omega
    · subst e
      obtain ⟨a, b⟩ := S.at_ i t u ht hu
      have := b h3
      refine ⟨⟨fun x => (nomatch x), fun x => by omega⟩, fun x => (nomatch x)⟩

/-- How many of the times lie within. -/
def within (nw z : Int) (us : List Int) : Nat := (us.filter fun u => decide (nw < u) && decide (u ≤ z)).length
theorem Sleep.due {us : List Int} {nw z : Int} {l : List T} (S : Sleep us nw l) (hl : l.length = us.length) : due z l = within nw z us := by
  have e : l.map (fun t => t.timed && decide (t.at_ ≤ z)) = us.map fun u => decide (nw < u) && decide (u ≤ z) := by
    apply List.ext_getElem?
    intro i
    rw [List.getElem?_map, List.getElem?_map]
    by_cases hi : i < l.length
    · have h1 := List.getElem?_eq_getElem hi
      have h2 := List.getElem?_eq_getElem (show i < us.length by omega)
      obtain ⟨a, b⟩ := S.at_ i _ _ h1 h2
      rw [h1, h2]
      simp only [Option.map_some, Option.some.injEq]
      cases ht : (l[i]).timed
      · rw [ht] at a
        have : ¬ nw < us[i] := fun x => by have := a.2 x; cases this
        simp [this]
      · have h3 := b ht
        have h4 := a.1 ht
        simp [h3, h4]
    · rw [List.getElem?_eq_none (by omega), List.getElem?_eq_none (by omega)]
      rfl
  have c := congrArg (List.countP id) e
  rw [List.countP_map, List.countP_map] at c
  unfold Go.Proofs.Ytlkphbcdgkjnoaa.due within
  rw [← List.countP_eq_length_filter, ← List.countP_eq_length_filter]
  exact c
end Go.Proofs.Ytlkphbcdgkjnoaa
