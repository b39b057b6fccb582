/- Heaps in plain words: a row of handlers, each ahead of the two below it; what one exchange does. No program in sight. -/
namespace Go.Proofs.Ytlkphbcdgkjnoaa

/-- A total order, perhaps with ties. -/
structure Ord (le : Nat → Nat → Prop) : Prop where
  trans : ∀ a b c, le a b → le b c → le a c
  refl : ∀ a, le a a

def swp (h : Nat → Nat) (i p : Nat) : Nat → Nat := fun k => if k = i then h p else if k = p then h i else h k
def Heap (le : Nat → Nat → Prop) (h : Nat → Nat) (n : Nat) : Prop := ∀ j, 0 < j → j < n → le (h ((j - 1) / 2)) (h j)
/-- All is well but what stands at i against the one above it. -/
def HeapBut (le : Nat → Nat → Prop) (h : Nat → Nat) (n i : Nat) : Prop :=
  (∀ j, 0 < j → j < n → j ≠ i → le (h ((j - 1) / 2)) (h j)) ∧ ∀ j, 0 < j → j < n → (j - 1) / 2 = i → 0 < i → le (h ((i - 1) / 2)) (h j)
/-- All is well but what stands at i against the two below it. -/
def HeapTop (le : Nat → Nat → Prop) (h : Nat → Nat) (n i : Nat) : Prop :=
  (∀ j, 0 < j → j < n → (j - 1) / 2 ≠ i → le (h ((j - 1) / 2)) (h j)) ∧ ∀ j, 0 < j → j < n → (j - 1) / 2 = i → 0 < i → le (h ((i - 1) / 2)) (h j)
/-- All is well but what stands at i against all its neighbours. -/
def HeapHole (le : Nat → Nat → Prop) (h : Nat → Nat) (n i : Nat) : Prop :=
  (∀ j, 0 < j → j < n → j ≠ i → (j - 1) / 2 ≠ i → le (h ((j - 1) / 2)) (h j)) ∧ ∀ j, 0 < j → j < n → (j - 1) / 2 = i → 0 < i → le (h ((i - 1) / 2)) (h j)

section
variable {le : Nat → Nat → Prop} {h : Nat → Nat} {n i : Nat}
theorem HeapBut.hole (H : HeapBut le h n i) : HeapHole le h n i := ⟨fun j h1 h2 h3 _ => H.1 j h1 h2 h3, H.2⟩
theorem Heap.top (O : Ord le) (H : Heap le h n) (i : Nat) : HeapTop le h n i :=
  ⟨fun j h1 h2 _ => H j h1 h2, fun j h1 h2 h3 h4 => O.trans _ (h i) _ (H i h4 (by omega)) (by rw [← h3]; exact H j h1 h2)⟩
theorem HeapBut.done (H : HeapBut le h n i) (hi : i = 0 ∨ le (h ((i - 1) / 2)) (h i)) : Heap le h n := fun j h1 h2 => by
  by_cases e : j = i
  · subst e
    rcases hi with hi | hi
    · omega
    · exact hi
  · exact H.1 j h1 h2 e
theorem HeapHole.top (H : HeapHole le h n i) (hi : i = 0 ∨ le (h ((i - 1) / 2)) (h i)) : HeapTop le h n i := by
  refine ⟨fun j h1 h2 h3 => ?_, H.2⟩
  by_cases e : j = i
  · subst e
    rcases hi with hi | hi
    · omega
    · exact hi
  · exact H.1 j h1 h2 e h3
theorem HeapTop.done (H : HeapTop le h n i) (hi : ∀ j, 0 < j → j < n → (j - 1) / 2 = i → le (h i) (h j)) : Heap le h n := fun j h1 h2 => by
  by_cases e : (j - 1) / 2 = i
  · rw [e]; exact hi j h1 h2 e
  · exact H.1 j h1 h2 e

/-- One step up. -/
theorem HeapHole.up (O : Ord le) (H : HeapHole le h n i) (h0 : 0 < i) (hn : i < n) (hlt : le (h i) (h ((i - 1) / 2))) : HeapBut le (swp h i ((i - 1) / 2)) n ((i - 1) / 2) := by
  obtain ⟨p, hp⟩ : ∃ p, (i - 1) / 2 = p := ⟨_, rfl⟩
  rw [hp] at hlt ⊢
  have h2' : ∀ j, 0 < j → j < n → (j - 1) / 2 = i → le (h p) (h j) := fun j a b c => by rw [← hp]; exact H.2 j a b c h0
  constructor
  · intro j a b c
    unfold swp
    by_cases e : j = i
    · subst e
      rw [hp, if_neg (by omega), if_pos rfl, if_pos rfl]
      exact hlt
    · rw [if_neg e, if_neg c]
      by_cases q : (j - 1) / 2 = i
      · rw [q, if_pos rfl]
        exact h2' j a b q
      · rw [if_neg q]
        by_cases q' : (j - 1) / 2 = p
        · rw [q', if_pos rfl]
          have := H.1 j a b e q
          rw [q'] at this
          exact O.trans _ _ _ hlt this
        · rw [if_neg q']
          exact H.1 j a b e q
  · intro j a b c d
    unfold swp
    rw [if_neg (by omega), if_neg (by omega)]
    have hg : le (h ((p - 1) / 2)) (h p) := H.1 p d (by omega) (by omega) (by omega)
    by_cases e : j = i
    · subst e
      rw [if_pos rfl]
      exact hg
    · rw [if_neg e, if_neg (by omega)]
      have := H.1 j a b e (by omega)
      rw [c] at this
      exact O.trans _ _ _ hg this

/-- One step down, to the child k that is ahead of the other. -/
theorem HeapTop.down (O : Ord le) (H : HeapTop le h n i) {k : Nat} (hk : k < n) (hk0 : 0 < k) (hpk : (k - 1) / 2 = i) (hlt : le (h k) (h i)) (hc : ∀ j, 0 < j → j < n → (j - 1) / 2 = i → le (h k) (h j)) : HeapTop le (swp h i k) n k := by
  constructor
  · intro j a b c
    unfold swp
    by_cases e : j = i
    · subst e
      rw [if_pos rfl, if_neg (by omega), if_neg (by omega)]
      exact H.2 k hk0 hk hpk (by omega)
    · rw [if_neg e]
      by_cases e' : j = k
      · subst e'
        rw [if_pos rfl, hpk, if_pos rfl]
        exact hlt
      · rw [if_neg e']
        by_cases q : (j - 1) / 2 = i
        · rw [q, if_pos rfl]
          exact hc j a b q
        · rw [if_neg q, if_neg c]
          exact H.1 j a b q
  · intro j a b c d
    unfold swp
    rw [hpk, if_pos rfl, if_neg (by omega), if_neg (by omega)]
    have := H.1 j a b (by omega)
    rw [c] at this
    exact this

/-- The head is ahead of all. -/
theorem Heap.head (O : Ord le) (H : Heap le h n) : ∀ j, j < n → le (h 0) (h j) := by
  intro j
  induction j using Nat.strongRecOn with
  | ind j ih =>
    intro hj
    by_cases e : j = 0
    · subst e; exact O.refl _
    · exact O.trans _ _ _ (ih ((j - 1) / 2) (by omega) (by omega)) (H j (by omega) hj)
end
end Go.Proofs.Ytlkphbcdgkjnoaa
