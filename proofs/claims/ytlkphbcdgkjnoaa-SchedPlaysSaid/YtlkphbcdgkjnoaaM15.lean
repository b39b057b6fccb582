/- ready and Until, whoever sleeps. -/
import Derived.Test.YtlkphbcdgkjnoaaM14
namespace Go.Proofs.Ytlkphbcdgkjnoaa
open Go.RowKit Go.Maps

theorem turned_apart {l : List T} (h : l.Pairwise fun t u => t.b ≠ u.b) {b : Nat} {t' : T} (hb : t'.b = b) : (turned b t' l).Pairwise fun t u => t.b ≠ u.b := by
  unfold turned
  rw [List.pairwise_map]
  refine h.imp ?_
  intro a c hac
  split <;> split <;> simp_all
/-- One that is not in the heap is turned: what the heap says stays. -/
theorem heap_turned {l : List T} {hp : List Nat} (hap : l.Pairwise fun t u => t.b ≠ u.b) {t t' : T} (hb : t'.b = t.b) (hn : t.b ∉ hp) (hs : ∀ b ∈ hp, ∃ u ∈ l, u.b = b) (H : Heap (leK (keyOf l)) (at' hp) hp.length) :
    Heap (leK (keyOf (turned t.b t' l))) (at' hp) hp.length := by
  refine heap_cong (fun _ _ => rfl) (fun i hi => ?_) H
  obtain ⟨u, hu, e⟩ := hs _ (at_mem hi)
  have hne : u.b ≠ t.b := fun x => hn (by rw [← x, e]; exact at_mem hi)
  have hu' : u ∈ turned t.b t' l := List.mem_map.2 ⟨u, hu, if_neg hne⟩
  rw [← e, keyOf_mem hap hu, keyOf_mem (turned_apart hap hb) hu']

/-- ready, of anybody. -/
theorem ready_any {B : Nat} {w : World} {s mb n : Nat} {va vt : Value} {st : St} (h : Mem B w s va mb vt n st) (hG : Good st) {t : T} (ht : t ∈ st.l) (hlen : st.hp.length ≤ 1000000) :
    Calls Try.prog 27 #[ptr s, ptr t.b] w fun e w' => e = .returned (.tuple #[]) ∧ (∃ vt' hp', vt'.ownBlock = vt.ownBlock ∧ hp'.length ≤ st.hp.length ∧ (∀ b, b ∈ hp' ↔ (b ∈ st.hp ∧ b ≠ t.b)) ∧ Mem B w' s va mb vt' n { st with l := turned t.b t.rested st.l, hp := hp' } ∧ Good { st with l := turned t.b t.rested st.l, hp := hp' }) ∧ Below B w w' := by
  cases hti : t.timed
  · refine (ready_idle h ht hti).mono ?_
    rintro e w' ⟨he, rfl⟩
    have hn : t.b ∉ st.hp := fun x => by
      have := (hG.mem t ht).2 x
      rw [hti] at this
      cases this
    refine ⟨he, ⟨vt, st.hp, rfl, Nat.le_refl _, fun b => ⟨fun x => ⟨x, fun e => hn (e ▸ x)⟩, fun x => x.1⟩, h.rest ht, ?_⟩, below_rest (Below.refl B w) (h.ht t ht) |> fun x => x⟩
    refine ⟨hG.nodup, fun u' hu' => ?_, fun b hb => ?_, heap_turned h.apart rfl hn hG.sub hG.heap⟩
    · obtain ⟨u, hu, rfl⟩ := List.mem_map.1 hu'
      by_cases e : u.b = t.b
      · rw [if_pos e]
        constructor
        · intro x; cases x
        · intro x; exact absurd x hn
      · rw [if_neg e]
        exact hG.mem u hu
    · obtain ⟨u, hu, e⟩ := hG.sub b hb
      exact ⟨u, List.mem_map.2 ⟨u, hu, if_neg (fun x => hn (by rw [← x, e]; exact hb))⟩, e⟩
  · refine (ready_timed h hG ht hti hlen).mono ?_
    rintro e w' ⟨he, ⟨vt', hp', h1, h2, h3, h4, h5⟩, hB, _⟩
    exact ⟨he, ⟨vt', hp', h1, by omega, h3, h4, h5⟩, hB⟩

/-- One more at the end of a heap's row. -/
theorem but_snoc {key : Nat → Int × Int} {hp : List Nat} {b : Nat} (H : Heap (leK key) (at' hp) hp.length) : HeapBut (leK key) (at' (hp ++ [b])) (hp.length + 1) hp.length := by
  have e : ∀ i, i < hp.length → at' (hp ++ [b]) i = at' hp i := fun i hi => by
    unfold at'
    rw [List.getD_eq_getElem?_getD, List.getD_eq_getElem?_getD, List.getElem?_append_left hi]
  constructor
  · intro j h0 h1 h2
    rw [e j (by omega), e ((j - 1) / 2) (by omega)]
    exact H j h0 (by omega)
  · intro j h0 h1 h2 h3
    omega
theorem same_mem {hp : List Nat} {h' : Nat → Nat} (S : Same (at' hp) h' hp.length) (b : Nat) : b ∈ rowOf h' hp.length ↔ b ∈ hp := by
  rw [mem_rowOf]
  constructor
  · rintro ⟨i, hi, rfl⟩
    obtain ⟨k, hk, e⟩ := S.out i hi
    rw [e]
    exact at_mem hk
  · intro hb
    obtain ⟨k, hk, ek⟩ := List.getElem_of_mem hb
    have ea : at' hp k = b := by
      have := at_get hk
      rw [List.getElem?_eq_getElem hk, ek] at this
      injection this with this
      exact this.symm
    obtain ⟨i, hi, e⟩ := S.inn k hk
    exact ⟨i, hi, e.trans ea⟩
theorem same_nodup {hp : List Nat} (hnd : hp.Nodup) {h' : Nat → Nat} (S : Same (at' hp) h' hp.length) : (rowOf h' hp.length).Nodup := by
  unfold rowOf List.Nodup
  rw [List.pairwise_map, List.pairwise_iff_getElem]
  intro a b ha hb hab e
  simp only [List.getElem_range, List.length_range] at e ha hb
  have := S.inj (fun i k hi hk e => at_inj hnd hi hk e) a b ha hb e
  omega
end Go.Proofs.Ytlkphbcdgkjnoaa
