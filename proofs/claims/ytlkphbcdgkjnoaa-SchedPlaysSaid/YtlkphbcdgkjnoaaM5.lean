/- Pick, in plain words; and what its walk wants of the memory. -/
import Derived.Test.YtlkphbcdgkjnoaaM4
namespace Go.Proofs.Ytlkphbcdgkjnoaa
open Go.RowKit Go.Shelf Go.Maps

/-- Those that are ready. -/
def aw (l : List T) : List T := l.filter fun t => !t.asleep
/-- Is this one older than the one that was found? -/
def over (acc : Option T) (t : T) : Bool := match acc with | none => true | some u => decide (u.age < t.age)
/-- Who has waited longest of those who have waited for as long as the patience. -/
def oldStep (pat : Int) (acc : Option T) (t : T) : Option T := if (decide (pat ≤ t.age) && over acc t) = true then some t else acc
def old (pat : Int) (l : List T) (acc : Option T) : Option T := l.foldl (oldStep pat) acc
def optp (o : Option T) : Value := match o with | none => .pointer none | some t => ptr t.b
/-- Who is picked. -/
def chosen (st : St) (x : Nat) : Option T := match old st.pat (aw st.l) none with | some t => some t | none => (aw st.l)[x % (aw st.l).length]?
/-- One more round has gone by for some. -/
def bump (bs : List Nat) (l : List T) : List T := l.map fun t => if t.b ∈ bs then { t with age := t.age + 1 } else t
/-- One handler is another. -/
def turned (b : Nat) (t' : T) (l : List T) : List T := l.map fun t => if t.b = b then t' else t
def picked (st : St) (b : Nat) : St := { st with l := st.l.map fun t => if t.asleep then t else { t with age := if t.b = b then 0 else t.age + 1 } }

theorem old_snoc {pat : Int} {l : List T} {t : T} {acc : Option T} : old pat (l ++ [t]) acc = oldStep pat (old pat l acc) t := by
  simp [old, List.foldl_append]
theorem old_mem {pat : Int} {l : List T} {t : T} (h : old pat l none = some t) : t ∈ l ∧ pat ≤ t.age := by
  have : ∀ (l : List T) (acc : Option T), (∀ u, acc = some u → pat ≤ u.age) → ∀ t, l.foldl (oldStep pat) acc = some t → (t ∈ l ∨ acc = some t) ∧ pat ≤ t.age := by
    intro l
    induction l with
    | nil => intro acc ha t h; exact ⟨.inr h, ha t h⟩
    | cons u l ih =>
      intro acc ha t h
      rw [List.foldl_cons] at h
      unfold oldStep at h
      split at h
      · rename_i c
        rw [Bool.and_eq_true] at c
        have h2 := ih (some u) (fun v hv => by injection hv with hv; subst hv; simpa using c.1) t h
        refine ⟨?_, h2.2⟩
        rcases h2.1 with h3 | h3
        · exact .inl (List.mem_cons_of_mem _ h3)
        · injection h3 with h3
          subst h3
          exact .inl List.mem_cons_self
      · have h2 := ih acc ha t h
        exact ⟨h2.1.imp (List.mem_cons_of_mem _) id, h2.2⟩
  have := this l none (by simp) t h
  exact ⟨this.1.resolve_right (by simp), this.2⟩

/-- Blocks and sleep. -/
def look (l : List T) : List (Nat × Bool) := l.map fun t => (t.b, t.asleep)
theorem awakes_look (l : List T) : awakes (look l) = (aw l).map (·.b) := by
  unfold awakes look aw
  induction l with
  | nil => rfl
  | cons t l ih =>
    cases h : t.asleep <;> simp_all

theorem look_of {B : Nat} {W : World} {s mb n : Nat} {vt : Value} {A : Option Addr} {cap : Nat} {st : St} (h : Mem B W s (.slice A st.l.length cap) mb vt n st) {Bs : Nat} (hb : Boxed W Bs 24 (ptr s)) (hlen : st.l.length ≤ 1000000) :
    Look Bs s A cap (look st.l) W := by
  have e : (look st.l).length = st.l.length := by simp [look]
  refine ⟨hb, by rw [e]; exact h.str.cell 3 rfl, by rw [e]; exact hlen, fun k b a hk => ?_⟩
  simp only [look, List.getElem?_map, Option.map_eq_some_iff] at hk
  obtain ⟨t, ht, he⟩ := hk
  cases he
  have htm := List.mem_of_getElem? ht
  have hx : (st.l.map fun t => ptr t.b)[k]? = some (ptr t.b) := by rw [List.getElem?_map, ht]; rfl
  rcases h.all.2 with ⟨h1, h2⟩ | ⟨g, c, cur, h1, _, hg, _⟩
  · have := (List.getElem?_eq_some_iff.1 ht).1
    omega
  · cases h1
    exact ⟨⟨g, 0, none⟩, rfl, (Array.getElem?_eq_some_iff.1 hg).1, h.all.cells (g := g) rfl k _ hx, (h.tasks t htm).cell 2 rfl⟩

/-- All of it lies below a bound. -/
structure Foot (N s : Nat) (va : Value) (mb : Nat) (vt : Value) (st : St) : Prop where
  s : s < N
  m : mb < N
  a : ∀ k, va.ownBlock = some k → k < N
  t : ∀ k, vt.ownBlock = some k → k < N
  l : ∀ t ∈ st.l, t.b < N
theorem Mem.foot {B : Nat} {W : World} {s mb n : Nat} {va vt : Value} {st : St} (h : Mem B W s va mb vt n st) : Foot W.heap.size s va mb vt st :=
  ⟨h.str.lt, h.map.lt, fun k hk => (h.all.lt k hk).2, fun k hk => (h.tim.lt k hk).2, fun t ht => (h.tasks t ht).lt⟩

theorem row_low {N base e size n : Nat} {W W' : World} {v : Value} {xs : List Value} (h : W.ownsRow base e size v n xs) (hv : ∀ k, v.ownBlock = some k → k < N) (hb : ∀ k, k < N → W'.heap[k]? = W.heap[k]?) : W'.ownsRow base e size v n xs := by
  refine ⟨h.1, ?_⟩
  rcases h.2 with h1 | ⟨g, c, cur, rfl, h2, h3, h4⟩
  · exact .inl h1
  · exact .inr ⟨g, c, cur, rfl, h2, (hb g (hv g rfl)).trans h3, h4⟩
theorem ById.low {N : Nat} {W W' : World} {mb n : Nat} {l : List T} (h : ById W mb n l) (hm : mb < N) (hb : ∀ k, k < N → W'.heap[k]? = W.heap[k]?) : ById W' mb n l := by
  obtain ⟨D, ⟨es, clock, h1, h2⟩, h3⟩ := h
  exact ⟨D, ⟨es, clock, (hb mb hm).trans h1, h2⟩, h3⟩
theorem Mem.low {B N : Nat} {W W' : World} {s mb n : Nat} {va vt : Value} {st : St} (h : Mem B W s va mb vt n st) (f : Foot N s va mb vt st) (hb : ∀ k, k < N → W'.heap[k]? = W.heap[k]?) : Mem B W' s va mb vt n st :=
  ⟨(hb s f.s).trans h.str, row_low h.all f.a hb, row_low h.tim f.t hb, h.rows, h.map.low f.m hb, fun t ht => (hb _ (f.l t ht)).trans (h.tasks t ht), h.apart, h.hs, h.hm, h.ht⟩

theorem blkOf_turned {b : Nat} {t' : T} {l : List T} {id : Int} (hb : t'.b = b) (hid : ∀ t ∈ l, t.b = b → t.id = t'.id) : blkOf (turned b t' l) id = blkOf l id := by
  unfold blkOf turned
  induction l with
  | nil => rfl
  | cons t l ih =>
    have ih := ih (fun u hu => hid u (List.mem_cons_of_mem _ hu))
    by_cases e : t.b = b
    · have e2 := hid t List.mem_cons_self e
      simp only [List.map_cons, if_pos e, List.find?_cons, e2]
      cases h : (t'.id == id)
      · exact ih
      · simp [hb, e]
    · simp only [List.map_cons, if_neg e, List.find?_cons]
      cases h : (t.id == id)
      · exact ih
      · rfl

/-- A cell of a handler is written. -/
theorem Mem.turn {B : Nat} {W : World} {s mb n : Nat} {va vt : Value} {st : St} (h : Mem B W s va mb vt n st) {t : T} (ht : t ∈ st.l) (k : Nat) (v : Value) (t' : T) (hb : t'.b = t.b) (hid : t'.id = t.id) (hv : t'.vals = t.vals.setIfInBounds k v) :
    Mem B (W.setCell ⟨t.b, k, none⟩ v) s va mb vt n { st with l := turned t.b t' st.l } := by
  have hT := h.tasks t ht
  have g := grownBy_set W t.b k v
  have e1 : (turned t.b t' st.l).length = st.l.length := by simp [turned]
  have e2 : (turned t.b t' st.l).map (fun u => ptr u.b) = st.l.map fun u => ptr u.b := by
    unfold turned
    rw [List.map_map]
    refine List.map_congr_left fun u _ => ?_
    simp only [Function.comp]
    split
    · rename_i e
      rw [hb, e]
    · rfl
  have same : ∀ u ∈ st.l, u.b = t.b → u = t := by
    intro u hu e
    by_cases h' : u = t
    · exact h'
    · have := h.apart
      rw [List.pairwise_iff_forall_sublist] at this
      exfalso
      obtain ⟨i, hi, ei⟩ := List.getElem_of_mem hu
      obtain ⟨j, hj, ej⟩ := List.getElem_of_mem ht
      have hp := List.pairwise_iff_getElem.1 h.apart
      rcases Nat.lt_trichotomy i j with hlt | rfl | hlt
      · exact hp i j hi hj hlt (by rw [ei, ej]; exact e)
      · exact h' (ei.symm.trans ej)
      · exact hp j i hj hi hlt (by rw [ei, ej]; exact e.symm)
  refine ⟨h.str.other (h.str.ne hT (by decide)) _ _, ?_, h.tim.kept g (.inr (hT.not_row (by decide) h.tim).symm), h.rows, ?_, ?_, ?_, h.hs, h.hm, ?_⟩
  · rw [e1, e2]
    exact h.all.kept g (.inr (hT.not_row (by decide) h.all).symm)
  · obtain ⟨D, h1, h2, h3⟩ := h.map.kept g (by simpa using (h.map.ne hT).symm)
    exact ⟨D, h1, h2, fun id hid' => (h3 id hid').trans (by rw [blkOf_turned hb (fun u hu e => by rw [same u hu e, hid])])⟩
  · intro u hu
    obtain ⟨u0, hu0, rfl⟩ := List.mem_map.1 hu
    split
    · rw [hb, hv]
      exact hT.set k v
    · rename_i e
      exact (h.tasks u0 hu0).other e _ _
  · unfold turned
    rw [List.pairwise_map]
    refine h.apart.imp ?_
    intro a b hab
    split <;> split <;> simp_all
  · intro u hu
    obtain ⟨u0, hu0, rfl⟩ := List.mem_map.1 hu
    split
    · rw [hb]; exact h.ht t ht
    · exact h.ht u0 hu0

theorem apart_eq {l : List T} (h : l.Pairwise fun t u => t.b ≠ u.b) {t u : T} (ht : t ∈ l) (hu : u ∈ l) (e : u.b = t.b) : u = t := by
  by_cases h' : u = t
  · exact h'
  · obtain ⟨i, hi, ei⟩ := List.getElem_of_mem hu
    obtain ⟨j, hj, ej⟩ := List.getElem_of_mem ht
    have hp := List.pairwise_iff_getElem.1 h
    rcases Nat.lt_trichotomy i j with hlt | rfl | hlt
    · exact absurd (by rw [ei, ej]; exact e) (hp i j hi hj hlt)
    · exact absurd (ei.symm.trans ej) h'
    · exact absurd (by rw [ei, ej]; exact e.symm) (hp j i hj hi hlt)
theorem bump_nil (l : List T) : bump [] l = l := by
  unfold bump
  simp
theorem bump_length (bs : List Nat) (l : List T) : (bump bs l).length = l.length := by simp [bump]
theorem look_bump (bs : List Nat) (l : List T) : look (bump bs l) = look l := by
  unfold look bump
  rw [List.map_map]
  refine List.map_congr_left fun t _ => ?_
  simp only [Function.comp]
  split <;> rfl
theorem bump_succ {bs : List Nat} {l : List T} {t : T} (hap : l.Pairwise fun t u => t.b ≠ u.b) (ht : t ∈ l) (hn : t.b ∉ bs) : turned t.b { t with age := t.age + 1 } (bump bs l) = bump (bs ++ [t.b]) l := by
  unfold turned bump
  rw [List.map_map]
  refine List.map_congr_left fun u hu => ?_
  simp only [Function.comp]
  by_cases e : u.b = t.b
  · have := apart_eq hap ht hu e
    subst this
    rw [if_neg hn]
    simp
  · by_cases h : u.b ∈ bs
    · simp [h, e]
    · simp [h, e]
theorem bump_mem {bs : List Nat} {l : List T} {t : T} (ht : t ∈ l) (hn : t.b ∉ bs) : t ∈ bump bs l := by
  unfold bump
  exact List.mem_map.2 ⟨t, ht, if_neg hn⟩
theorem bump_mem' {bs : List Nat} {l : List T} {t : T} (ht : t ∈ l) (hn : t.b ∈ bs) : { t with age := t.age + 1 } ∈ bump bs l := by
  unfold bump
  exact List.mem_map.2 ⟨t, ht, if_pos hn⟩
theorem aw_mem {l : List T} {t : T} : t ∈ aw l ↔ t ∈ l ∧ t.asleep = false := by
  unfold aw
  simp
theorem aw_fresh {l : List T} (hap : l.Pairwise fun t u => t.b ≠ u.b) {j : Nat} {t : T} (ht : (aw l)[j]? = some t) : t.b ∉ ((aw l).take j).map (·.b) := by
  intro h
  obtain ⟨u, hu, e⟩ := List.mem_map.1 h
  have hp : (aw l).Pairwise fun t u => t.b ≠ u.b := hap.filter _
  obtain ⟨i, hi, ei⟩ := List.getElem_of_mem hu
  rw [List.length_take] at hi
  rw [List.getElem_take] at ei
  obtain ⟨hj, ej⟩ := List.getElem?_eq_some_iff.1 ht
  exact List.pairwise_iff_getElem.1 hp i j (by omega) hj (by omega) (by rw [ei, ej]; exact e)
theorem picked_eq {l : List T} (hap : l.Pairwise fun t u => t.b ≠ u.b) {t : T} (ht : t ∈ aw l) :
    turned t.b { t with age := 0 } (bump ((aw l).map (·.b)) l) = l.map fun u => if u.asleep then u else { u with age := if u.b = t.b then 0 else u.age + 1 } := by
  unfold turned bump
  rw [List.map_map]
  refine List.map_congr_left fun u hu => ?_
  simp only [Function.comp]
  have htl := aw_mem.1 ht
  by_cases hs : u.asleep = true
  · have h1 : u.b ∉ (aw l).map (·.b) := by
      intro h
      obtain ⟨v, hv, e⟩ := List.mem_map.1 h
      have hv' := aw_mem.1 hv
      have := apart_eq hap hu hv'.1 e
      subst this
      rw [hv'.2] at hs
      cases hs
    have h2 : u.b ≠ t.b := by
      intro e
      have := apart_eq hap htl.1 hu e
      subst this
      rw [htl.2] at hs
      cases hs
    simp only [if_neg h1, if_neg h2, if_pos hs]
  · have hs' : u.asleep = false := by simpa using hs
    have h1 : u.b ∈ (aw l).map (·.b) := List.mem_map.2 ⟨u, aw_mem.2 ⟨hu, hs'⟩, rfl⟩
    simp only [if_pos h1, if_neg hs]
    by_cases e : u.b = t.b
    · have := apart_eq hap htl.1 hu e
      subst this
      simp
    · simp [e]
theorem Foot.bump {N s mb : Nat} {va vt : Value} {st : St} (f : Foot N s va mb vt st) (bs : List Nat) : Foot N s va mb vt { st with l := bump bs st.l } :=
  ⟨f.s, f.m, f.a, f.t, fun t ht => by
    obtain ⟨u, hu, rfl⟩ := List.mem_map.1 ht
    have := f.l u hu
    split <;> exact this⟩

/-- A handler's cell is written: the boxes stand. -/
theorem Pk.relo {Lo Lo' : World → Prop} {N : Nat} {W : World} {s : Nat} {x : Int} {v : Value} {k : Int} {Bs : Nat} {ds : List Nat} (h : Pk Lo N W s x v k Bs ds) {b : Nat} {t : TypeId} {vs : Array Value} (hb : Blk W b t vs) (hbN : b < N) (i : Nat) (u : Value)
    (hl : Lo' (W.setCell ⟨b, i, none⟩ u)) : Pk Lo' N (W.setCell ⟨b, i, none⟩ u) s x v k Bs ds := by
  have hk : ∀ c, c ≠ b → (W.setCell ⟨b, i, none⟩ u).heap[c]? = W.heap[c]? := fun c hc => Below.heap_setCell W _ u c hc
  have hs := h.hs
  refine ⟨hl, (hk _ (by omega)).trans h.b0, (hk _ (by omega)).trans h.b1, (hk _ (by omega)).trans h.b2, (hk _ (by omega)).trans h.b3, (hk _ (by omega)).trans h.bs, hs, fun d hd => (hk d ?_).trans (h.dd d hd)⟩
  rintro rfl
  have := h.dd d hd
  rw [show W.heap[d]? = _ from hb] at this
  cases this
end Go.Proofs.Ytlkphbcdgkjnoaa
