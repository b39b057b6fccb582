/- What holds of a scheduler between two calls, in plain words; how the document's list follows it. -/
import Derived.Test.YtlkphbcdgkjnoaaF9
import Derived.Test.YtlkphbcdgkjnoaaR6
namespace Go.Proofs.Ytlkphbcdgkjnoaa
open Go.RowKit Go.Maps

/-- A handler as the document has it. -/
def T.r (t : T) : R := ⟨t.id, t.asleep, t.timed, t.at_, t.age⟩
structure Inv (c : Nat) (st : St) : Prop where
  pat0 : 1 ≤ st.pat
  pat1 : st.pat ≤ 9223372036854775807
  now0 : 0 ≤ st.now
  now1 : st.now < 18446744073709551616
  ord0 : 0 ≤ st.ord
  ord1 : st.ord ≤ c
  len : st.l.length ≤ c
  ids : st.l.Pairwise fun t u => t.id ≠ u.id
  wf : ∀ t ∈ st.l, (Lit.int .u64 t.id).wf = true
  ords : st.l.Pairwise fun t u => t.ord < u.ord
  below : ∀ t ∈ st.l, t.ord < st.ord
  age : ∀ t ∈ st.l, 0 ≤ t.age ∧ t.age ≤ c

theorem Inv.mono {c c' : Nat} {st : St} (I : Inv c st) (h : c ≤ c') : Inv c' st :=
  ⟨I.pat0, I.pat1, I.now0, I.now1, I.ord0, by have := I.ord1; omega, by have := I.len; omega, I.ids, I.wf, I.ords, I.below, fun t ht => by have := I.age t ht; omega⟩
theorem Inv.heap {c : Nat} {st : St} (I : Inv c st) (hp : List Nat) : Inv c { st with hp := hp } :=
  ⟨I.pat0, I.pat1, I.now0, I.now1, I.ord0, I.ord1, I.len, I.ids, I.wf, I.ords, I.below, I.age⟩
theorem Inv.start {p : Int} (h0 : 1 ≤ p) (h1 : p ≤ 9223372036854775807) : Inv 0 (st0 p) :=
  ⟨h0, h1, Int.le_refl _, by show (0 : Int) < _; omega, Int.le_refl _, Int.le_refl _, Nat.le_refl _, List.Pairwise.nil, fun t h => by simp [st0] at h, List.Pairwise.nil, fun t h => by simp [st0] at h, fun t h => by simp [st0] at h⟩
theorem Inv.tell {c : Nat} {st : St} (I : Inv c st) {z : Int} (h0 : 0 ≤ z) (h1 : z < 18446744073709551616) : Inv c { st with now := z } :=
  ⟨I.pat0, I.pat1, h0, h1, I.ord0, I.ord1, I.len, I.ids, I.wf, I.ords, I.below, I.age⟩
theorem pairwise_map_id {l : List T} {f : T → T} {q : T → T → Prop} (h : l.Pairwise q) (hf : ∀ t ∈ l, ∀ u ∈ l, q t u → q (f t) (f u)) : (l.map f).Pairwise q := by
  rw [List.pairwise_map]
  exact List.Pairwise.imp_of_mem (fun {a b} ha hb hab => hf a ha b hb hab) h
theorem Inv.map {c c' : Nat} {st : St} (I : Inv c st) (hc : c ≤ c') (f : T → T) (hf : ∀ t ∈ st.l, (f t).id = t.id ∧ (f t).ord = t.ord ∧ 0 ≤ (f t).age ∧ (f t).age ≤ c') : Inv c' { st with l := st.l.map f } := by
  have J := I.mono hc
  refine ⟨J.pat0, J.pat1, J.now0, J.now1, J.ord0, J.ord1, by show (st.l.map f).length ≤ _; rw [List.length_map]; exact J.len, pairwise_map_id I.ids (fun t ht u hu h => by rw [(hf t ht).1, (hf u hu).1]; exact h), fun t ht => ?_, pairwise_map_id I.ords (fun t ht u hu h => by rw [(hf t ht).2.1, (hf u hu).2.1]; exact h), fun t ht => ?_, fun t ht => ?_⟩
  · obtain ⟨u, hu, rfl⟩ := List.mem_map.1 ht
    rw [(hf u hu).1]
    exact I.wf u hu
  · obtain ⟨u, hu, rfl⟩ := List.mem_map.1 ht
    rw [(hf u hu).2.1]
    exact I.below u hu
  · obtain ⟨u, hu, rfl⟩ := List.mem_map.1 ht
    exact (hf u hu).2.2
theorem Inv.turn {c : Nat} {st : St} (I : Inv c st) (hap : st.l.Pairwise fun t u => t.b ≠ u.b) {t t' : T} (ht : t ∈ st.l) (h1 : t'.id = t.id) (h2 : t'.ord = t.ord) (h3 : 0 ≤ t'.age ∧ t'.age ≤ c) : Inv c { st with l := turned t.b t' st.l } :=
  I.map (Nat.le_refl _) _ (fun u hu => by
    by_cases e : u.b = t.b
    · have := apart_eq hap ht hu e
      subst this
      rw [if_pos rfl]
      exact ⟨h1, h2, h3⟩
    · rw [if_neg e]
      exact ⟨rfl, rfl, I.age u hu⟩)
theorem Inv.add {c : Nat} {st : St} (I : Inv c st) {t : T} (hid : ∀ u ∈ st.l, u.id ≠ t.id) (hwf : (Lit.int .u64 t.id).wf = true) (ho : t.ord = st.ord) (ha : t.age = 0) : Inv (c + 1) { st with ord := st.ord + 1, l := st.l ++ [t] } := by
  refine ⟨I.pat0, I.pat1, I.now0, I.now1, by have := I.ord0; show 0 ≤ st.ord + 1; omega, by have := I.ord1; show st.ord + 1 ≤ _; omega, by have := I.len; show (st.l ++ [t]).length ≤ _; simp; omega, List.pairwise_append.2 ⟨I.ids, List.pairwise_singleton _ _, fun u hu v hv => ?_⟩, fun u hu => ?_, List.pairwise_append.2 ⟨I.ords, List.pairwise_singleton _ _, fun u hu v hv => ?_⟩, fun u hu => ?_, fun u hu => ?_⟩
  · rw [List.mem_singleton] at hv; subst hv; exact hid u hu
  · rcases List.mem_append.1 hu with h | h
    · exact I.wf u h
    · rw [List.mem_singleton] at h; subst h; exact hwf
  · rw [List.mem_singleton] at hv; subst hv; rw [ho]; exact I.below u hu
  · show u.ord < st.ord + 1
    rcases List.mem_append.1 hu with h | h
    · have := I.below u h; omega
    · rw [List.mem_singleton] at h; subst h; omega
  · rcases List.mem_append.1 hu with h | h
    · have := I.age u h; omega
    · rw [List.mem_singleton] at h; subst h; omega
theorem Inv.sub {c : Nat} {st : St} (I : Inv c st) {l : List T} (h : l.Sublist st.l) : Inv c { st with l := l } :=
  ⟨I.pat0, I.pat1, I.now0, I.now1, I.ord0, I.ord1, Nat.le_trans h.length_le I.len, I.ids.sublist h, fun t ht => I.wf t (h.subset ht), I.ords.sublist h, fun t ht => I.below t (h.subset ht), fun t ht => I.age t (h.subset ht)⟩
theorem nb_get {l l' : List T} (h : l'.map T.nb = l.map T.nb) : l'.length = l.length ∧ ∀ (i : Nat) (t : T), l'[i]? = some t → ∃ u, l[i]? = some u ∧ t.nb = u.nb := by
  refine ⟨by have := congrArg List.length h; simpa using this, fun i t hi => ?_⟩
  have := congrArg (fun x => x[i]?) h
  simp only [List.getElem?_map, hi, Option.map_some] at this
  obtain ⟨u, hu, e⟩ := Option.map_eq_some_iff.1 this.symm
  exact ⟨u, hu, e.symm⟩
theorem nb_pairwise {l l' : List T} (h : l'.map T.nb = l.map T.nb) {q : T → T → Prop} (hq : ∀ t u t' u', t.nb = t'.nb → u.nb = u'.nb → q t u → q t' u') (hl : l.Pairwise q) : l'.Pairwise q := by
  obtain ⟨h1, h2⟩ := nb_get h
  rw [List.pairwise_iff_getElem] at hl ⊢
  intro i j hi hj hij
  obtain ⟨u, hu, e⟩ := h2 i _ (List.getElem?_eq_getElem hi)
  obtain ⟨v, hv, e'⟩ := h2 j _ (List.getElem?_eq_getElem hj)
  obtain ⟨a1, a2⟩ := List.getElem?_eq_some_iff.1 hu
  obtain ⟨b1, b2⟩ := List.getElem?_eq_some_iff.1 hv
  have := hl i j a1 b1 hij
  rw [a2, b2] at this
  exact hq _ _ _ _ e.symm e'.symm this
theorem Inv.copy {c : Nat} {st : St} (I : Inv c st) {l' : List T} (h : l'.map T.nb = st.l.map T.nb) (hp : List Nat) : Inv c { st with l := l', hp := hp } := by
  obtain ⟨h1, h2⟩ := nb_get h
  have hm : ∀ t ∈ l', ∃ u ∈ st.l, t.nb = u.nb := fun t ht => by
    obtain ⟨i, hi, e⟩ := List.getElem_of_mem ht
    obtain ⟨u, hu, e'⟩ := h2 i t (by rw [List.getElem?_eq_getElem hi, e])
    exact ⟨u, List.mem_of_getElem? hu, e'⟩
  refine ⟨I.pat0, I.pat1, I.now0, I.now1, I.ord0, I.ord1, by show l'.length ≤ c; rw [h1]; exact I.len, nb_pairwise h (fun t u t' u' e e' x => by rw [← (nb_fields e).1, ← (nb_fields e').1]; exact x) I.ids, fun t ht => ?_, nb_pairwise h (fun t u t' u' e e' x => by rw [← (nb_fields e).2.1, ← (nb_fields e').2.1]; exact x) I.ords, fun t ht => ?_, fun t ht => ?_⟩
  · obtain ⟨u, hu, e⟩ := hm t ht
    rw [(nb_fields e).1]; exact I.wf u hu
  · obtain ⟨u, hu, e⟩ := hm t ht
    rw [(nb_fields e).2.1]; exact I.below u hu
  · obtain ⟨u, hu, e⟩ := hm t ht
    rw [(nb_fields e).2.2.2.2.2]; exact I.age u hu
theorem nb_r {l l' : List T} (h : l'.map T.nb = l.map T.nb) : l'.map T.r = l.map T.r := by
  have e : ∀ l : List T, l.map T.r = (l.map T.nb).map T.r := fun l => by
    rw [List.map_map]
    rfl
  rw [e l', e l, h]
theorem Trail.inv {z : Int} {st st' : St} {ts : List T} (h : Trail z st ts st') {c : Nat} (I : Inv c st) (hap : st.l.Pairwise fun t u => t.b ≠ u.b) : Inv c st' := by
  induction h with
  | nil => exact I
  | @snoc st1 ts t hp' h1 ht _ _ _ _ ih => exact (ih.turn (t' := t.rested) (h1.apart hap) ht rfl rfl ⟨Int.le_refl _, by show (0 : Int) ≤ c; omega⟩).heap _

/-! ### the document's list -/
theorem r_turned {l : List T} (hap : l.Pairwise fun t u => t.b ≠ u.b) {k : Nat} {t t' : T} (hk : l[k]? = some t) : (turned t.b t' l).map T.r = (l.map T.r).set k t'.r := by
  rw [turned_set hap hk, List.map_set]
/-- Somebody has an id, or nobody has. -/
theorem who (l : List T) (hids : l.Pairwise fun t u => t.id ≠ u.id) (id : Int) : (∃ (k : Nat) (t : T), l[k]? = some t ∧ t.id = id ∧ blkOf l id = t.b ∧ RAt (l.map T.r) id k t.r) ∨ (blkOf l id = -1 ∧ (∀ u ∈ l, u.id ≠ id) ∧ ∀ u ∈ l.map T.r, u.id ≠ id) := by
  by_cases h : ∃ t ∈ l, t.id = id
  · obtain ⟨t, ht, e⟩ := h
    obtain ⟨k, hk, ek⟩ := List.getElem_of_mem ht
    have hk2 : l[k]? = some t := by rw [List.getElem?_eq_getElem hk, ek]
    refine .inl ⟨k, t, hk2, e, ?_, ?_, e, fun j u hj hu => ?_⟩
    · unfold blkOf
      cases hf : l.find? (fun u => u.id == id) with
      | none =>
        rw [List.find?_eq_none] at hf
        have := hf t ht
        simp [e] at this
      | some u =>
        have h1 := List.mem_of_find?_eq_some hf
        have h2 := List.find?_some hf
        simp at h2
        obtain ⟨i, hi, ei⟩ := List.getElem_of_mem h1
        have hp := List.pairwise_iff_getElem.1 hids
        have : u = t := by
          rcases Nat.lt_trichotomy i k with h | rfl | h
          · exact absurd (by rw [ei, ek, h2, e]) (hp i k hi hk h)
          · exact ei.symm.trans ek
          · exact absurd (by rw [ei, ek, h2, e]) (hp k i hk hi h)
        rw [this]
    · rw [List.getElem?_map, hk2]; rfl
    · rw [List.getElem?_map] at hu
      obtain ⟨v, hv, rfl⟩ := Option.map_eq_some_iff.1 hu
      obtain ⟨vl, ev⟩ := List.getElem?_eq_some_iff.1 hv
      have := List.pairwise_iff_getElem.1 hids j k vl hk hj
      rw [ev, ek, e] at this
      exact this
  · have h' : ∀ u ∈ l, u.id ≠ id := fun u hu e => h ⟨u, hu, e⟩
    refine .inr ⟨?_, h', fun u hu => ?_⟩
    · unfold blkOf
      have : l.find? (fun u => u.id == id) = none := by
        rw [List.find?_eq_none]
        intro u hu
        simpa using h' u hu
      rw [this]
    · obtain ⟨v, hv, rfl⟩ := List.mem_map.1 hu
      exact h' v hv
theorem ids_all (l : List T) : tids l = idsOf (fun _ => true) (l.map T.r) := by
  unfold tids idsOf
  rw [List.filter_eq_self.2 (by simp), List.map_map]
  rfl
theorem ids_ready (l : List T) : tids (aw l) = idsOf (fun t => !t.asleep) (l.map T.r) := by
  unfold tids idsOf aw
  rw [List.filter_map, List.map_map]
  rfl
end Go.Proofs.Ytlkphbcdgkjnoaa
