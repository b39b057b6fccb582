/- A scheduler and the document's beside each other: every call that answers with an error alone answers alike. -/
import Derived.Test.YtlkphbcdgkjnoaaL2
import Derived.Test.YtlkphbcdgkjnoaaF6
namespace Go.Proofs.Ytlkphbcdgkjnoaa
open Go.RowKit Go.Maps

/-- What may be turned later: what could be, and what is new. -/
def Up (O : Nat → Prop) (w : World) (k : Nat) : Prop := O k ∨ w.heap.size ≤ k
def Sch (B c : Nat) (w : World) (s : Nat) (st : St) (O : Nat → Prop) : Prop := ∃ va mb vt n, Mem B w s va mb vt n st ∧ Good st ∧ n ≤ c ∧ Inv c st ∧ ∀ k, Own s va mb vt st.l k → O k
def RSch (B : Nat) (w : World) (r : Nat) (st : St) (P : Nat → Prop) : Prop := ∃ rv, RMem B w r rv st.pat st.now (st.l.map T.r) ∧ ∀ k, ROwn r rv k → P k
theorem Sch.move {B c s : Nat} {w w' : World} {st : St} {O Q : Nat → Prop} (h : Sch B c w s st O) (f : Fr Q w w') (hQ : ∀ k, O k → k < w.heap.size → ¬ Q k) : Sch B c w' s st O := by
  obtain ⟨va, mb, vt, n, h1, h2, h3, h4, h5⟩ := h
  exact ⟨va, mb, vt, n, h1.fr f (fun k hk => hQ k (h5 k hk) (h1.own_lt hk).2), h2, h3, h4, h5⟩
theorem RSch.move {B r : Nat} {w w' : World} {st : St} {P Q : Nat → Prop} (h : RSch B w r st P) (f : Fr Q w w') (hQ : ∀ k, P k → k < w.heap.size → ¬ Q k) : RSch B w' r st P := by
  obtain ⟨rv, h1, h2⟩ := h
  exact ⟨rv, h1.fr f (fun k hk => hQ k (h2 k hk) (h1.own_lt hk).2), h2⟩
theorem Sch.wide {B c s : Nat} {w : World} {st : St} {O O' : Nat → Prop} (h : Sch B c w s st O) (hO : ∀ k, B ≤ k → k < w.heap.size → O k → O' k) : Sch B c w s st O' := by
  obtain ⟨va, mb, vt, n, h1, h2, h3, h4, h5⟩ := h
  exact ⟨va, mb, vt, n, h1, h2, h3, h4, fun k hk => hO k (h1.own_lt hk).1 (h1.own_lt hk).2 (h5 k hk)⟩
theorem RSch.wide {B r : Nat} {w : World} {st : St} {P P' : Nat → Prop} (h : RSch B w r st P) (hP : ∀ k, B ≤ k → k < w.heap.size → P k → P' k) : RSch B w r st P' := by
  obtain ⟨rv, h1, h2⟩ := h
  exact ⟨rv, h1, fun k hk => hP k (h1.own_lt hk).1 (h1.own_lt hk).2 (h2 k hk)⟩
theorem Sch.mono {B c c' s : Nat} {w : World} {st : St} {O : Nat → Prop} (h : Sch B c w s st O) (hc : c ≤ c') : Sch B c' w s st O := by
  obtain ⟨va, mb, vt, n, h1, h2, h3, h4, h5⟩ := h
  exact ⟨va, mb, vt, n, h1, h2, by omega, h4.mono hc, h5⟩
theorem Sch.up {B c s : Nat} {w : World} {st : St} {O : Nat → Prop} (h : Sch B c w s st O) : Sch B (c + 1) w s st (Up O w) := (h.mono (by omega)).wide (fun _ _ _ x => .inl x)
theorem RSch.up {B r : Nat} {w : World} {st : St} {P : Nat → Prop} (h : RSch B w r st P) : RSch B w r st (Up P w) := h.wide (fun _ _ _ x => .inl x)
theorem RSch.of {B r : Nat} {w : World} {st st' : St} {P : Nat → Prop} (h : RSch B w r st P) (h1 : st'.pat = st.pat) (h2 : st'.now = st.now) (h3 : st'.l.map T.r = st.l.map T.r) : RSch B w r st' P := by
  unfold RSch at h ⊢
  rw [h1, h2, h3]
  exact h

/-- Both answer alike, and stand beside each other again. -/
def Twin (B c : Nat) (w : World) (s r : Nat) (st : St) (O : Nat → Prop) (f g : Nat) (xs : List Value) : Prop :=
  ∃ (z : Int) (st' : St), (Calls Try.prog f ⟨ptr s :: xs⟩ w fun e w' => e = .returned (.int .i64 z) ∧ (∃ hp', Sch B (c + 1) w' s { st' with hp := hp' } (Up O w)) ∧ Fr O w w') ∧
    ∀ w1 P, RSch B w1 r st P → B ≤ w1.heap.size → Calls Try.prog g ⟨ptr r :: xs⟩ w1 fun e w' => e = .returned (.int .i64 z) ∧ RSch B w' r st' (Up P w1) ∧ Fr P w1 w'

section
variable {B c s r : Nat} {w : World} {st : St} {O : Nat → Prop}

theorem own_up {va va' vt vt' : Value} {mb : Nat} {l l' : List T} (hO : ∀ k, Own s va mb vt l k → O k) (h1 : ∀ k, va'.ownBlock = some k → va.ownBlock = some k ∨ w.heap.size ≤ k) (h2 : ∀ k, vt'.ownBlock = some k → vt.ownBlock = some k ∨ w.heap.size ≤ k) (h3 : ∀ t ∈ l', (∃ u ∈ l, u.b = t.b) ∨ w.heap.size ≤ t.b) : ∀ k, Own s va' mb vt' l' k → Up O w k := by
  rintro k (rfl | rfl | e | e | ⟨t, ht, rfl⟩)
  · exact .inl (hO _ (.inl rfl))
  · exact .inl (hO _ (.inr (.inl rfl)))
  · exact (h1 k e).imp (fun x => hO _ (.inr (.inr (.inl x)))) id
  · exact (h2 k e).imp (fun x => hO _ (.inr (.inr (.inr (.inl x))))) id
  · exact (h3 t ht).imp (fun ⟨u, hu, e⟩ => hO _ (.inr (.inr (.inr (.inr ⟨u, hu, e⟩))))) id
theorem turned_blk {l : List T} {b : Nat} {t' : T} (hb : t'.b = b) : ∀ t ∈ turned b t' l, ∃ u ∈ l, u.b = t.b := fun t ht => by
  obtain ⟨u, hu, rfl⟩ := List.mem_map.1 ht
  refine ⟨u, hu, ?_⟩
  split
  · rename_i e; rw [hb, e]
  · rfl
theorem row_up {w1 : World} {P : Nat → Prop} {rv rv' : Value} (hP : ∀ k, ROwn r rv k → P k) (h1 : ∀ k, rv'.ownBlock = some k → rv.ownBlock = some k ∨ w1.heap.size ≤ k) : ∀ k, ROwn r rv' k → Up P w1 k := by
  rintro k (rfl | e)
  · exact .inl (hP _ (.inl rfl))
  · exact (h1 k e).imp (fun x => hP _ (.inr x)) id

theorem add_twin (hS : Sch B c w s st O) (hc : c ≤ 1000) (hBw : B ≤ w.heap.size) {id : Int} (hid : (Lit.int .u64 id).wf = true) : Twin B c w s r st O 9 30 [.int .u64 id] := by
  have hS0 := hS
  obtain ⟨va, mb, vt, n, hM, hG, hn, I, hO⟩ := hS0
  have hl := I.len
  rcases who st.l I.ids id with ⟨k, t, hk, e, hb, hat⟩ | ⟨hb, hno, hno'⟩
  · refine ⟨9, st, (add_there hM hid hb).mono ?_, fun w1 P hR hB1 => ?_⟩
    · rintro e w' ⟨rfl, rfl⟩
      exact ⟨rfl, ⟨st.hp, hS.up⟩, Fr.refl _ _⟩
    · have hR0 := hR
      obtain ⟨rv, hRM, hP⟩ := hR0
      refine (radd_there hRM (by rw [List.length_map]; omega) hat).mono ?_
      rintro e w' ⟨rfl, rfl⟩
      exact ⟨rfl, hR.up, Fr.refl _ _⟩
  · obtain ⟨t, ht⟩ : ∃ t : T, (⟨w.heap.size, id, st.ord, false, false, 0, 0⟩ : T) = t := ⟨_, rfl⟩
    have hi : t.id = id := by rw [← ht]
    have IA := I.add (t := t) (by rw [hi]; exact hno) (by rw [hi]; exact hid) (by rw [← ht]) (by rw [← ht])
    have ho0 := I.ord0
    have ho1 := I.ord1
    refine ⟨0, { st with ord := st.ord + 1, l := st.l ++ [t] }, (add_full hM hid hb (by omega) ho0 (by omega) (by omega) hBw).mono ?_, fun w1 P hR hB1 => ?_⟩
    · rintro e w' ⟨rfl, ⟨va', hM', hva⟩, hF⟩
      rw [ht] at hM'
      refine ⟨rfl, ⟨st.hp, va', mb, vt, n + 1, hM', hG.add hM.apart hM'.apart (by rw [← ht]) _, by omega, IA, own_up hO hva (fun k hk => .inl hk) (fun u hu => ?_)⟩, hF.wide hO⟩
      rcases List.mem_append.1 hu with h | h
      · exact .inl ⟨u, h, rfl⟩
      · rw [List.mem_singleton] at h
        right
        rw [h, ← ht]
        exact Nat.le_refl _
    · have hR0 := hR
      obtain ⟨rv, hRM, hP⟩ := hR0
      refine (radd_new hRM (by rw [List.length_map]; omega) hno' hB1).mono ?_
      rintro e w' ⟨rfl, ⟨rv', hR', hrv⟩, hF⟩
      refine ⟨rfl, ⟨rv', ?_, row_up hP hrv⟩, hF.wide hP⟩
      show RMem B w' r rv' st.pat st.now ((st.l ++ [t]).map T.r)
      rw [List.map_append, ← ht]
      exact hR'

theorem set_twin {t' : T} {k : Nat} {t : T} {va : Value} {mb : Nat} {vt : Value} {n : Nat} (hM : Mem B w s va mb vt n st) (hk : st.l[k]? = some t) {w1 w2 : World} {P : Nat → Prop} {rv : Value} {u : R} (hP : ∀ k, ROwn r rv k → P k) (hu : u = t'.r)
    (hR' : RMem B w2 r rv st.pat st.now ((st.l.map T.r).set k u)) : RSch B w2 r { st with l := turned t.b t' st.l } (Up P w1) := by
  refine ⟨rv, ?_, row_up hP (fun _ hk => .inl hk)⟩
  show RMem B w2 r rv st.pat st.now ((turned t.b t' st.l).map T.r)
  rw [r_turned hM.apart hk, ← hu]
  exact hR'

/-- The list and the heap of a state. -/
theorem sch_turn {va vt : Value} {mb n : Nat} (hM : Mem B w s va mb vt n st) (hn : n ≤ c) (I : Inv c st) (hO : ∀ k, Own s va mb vt st.l k → O k) {t t' : T} (ht : t ∈ st.l) (hb : t'.b = t.b) (hi : t'.id = t.id) (ho : t'.ord = t.ord) (ha : t'.age = 0) {w' : World} {vt' : Value} {hp' : List Nat}
    (h2 : ∀ k, vt'.ownBlock = some k → vt.ownBlock = some k ∨ w.heap.size ≤ k) (hM' : Mem B w' s va mb vt' n { st with l := turned t.b t' st.l, hp := hp' }) (hG' : Good { st with l := turned t.b t' st.l, hp := hp' }) : Sch B (c + 1) w' s { st with l := turned t.b t' st.l, hp := hp' } (Up O w) :=
  ⟨va, mb, vt', n, hM', hG', by omega, ((I.turn hM.apart ht hi ho (by omega)).heap _).mono (by omega), own_up hO (fun k hk => .inl hk) h2 (fun u hu => .inl (turned_blk hb u hu))⟩
theorem sleep_twin (hS : Sch B c w s st O) (hc : c ≤ 1000) {id : Int} (hid : (Lit.int .u64 id).wf = true) : Twin B c w s r st O 20 31 [.int .u64 id] := by
  have hS0 := hS
  obtain ⟨va, mb, vt, n, hM, hG, hn, I, hO⟩ := hS0
  have hl := I.len
  have hhp := hG.short
  rcases who st.l I.ids id with ⟨k, t, hk, rfl, hb, hat⟩ | ⟨hb, hno, hno'⟩
  · have ht := List.mem_of_getElem? hk
    have hrl : (st.l.map T.r).length ≤ 1000000 := by rw [List.length_map]; omega
    cases hs : (t.asleep && !t.timed)
    · refine ⟨0, { st with l := turned t.b t.slept st.l }, (sleep_full hM hG ht hid hb hs (by omega)).mono ?_, fun w1 P hR hB1 => ?_⟩
      · rintro e w' ⟨rfl, ⟨vt', hp', hl', hv, hM', hG'⟩, hF⟩
        exact ⟨rfl, ⟨hp', sch_turn (t' := t.slept) hM hn I hO ht rfl rfl rfl rfl (fun k e => .inl (hv ▸ e)) hM' hG'⟩, hF.wide hO⟩
      · have hR0 := hR
        obtain ⟨rv, hRM, hP⟩ := hR0
        refine (rsleep_ok hRM hrl hat hs).mono ?_
        rintro e w' ⟨rfl, hR', hF⟩
        exact ⟨rfl, set_twin hM hk hP rfl hR', hF.wide hP⟩
    · rw [Bool.and_eq_true] at hs
      have h2 : t.timed = false := by simpa using hs.2
      refine ⟨3, st, (sleep_bad hM ht hid hb hs.1 h2).mono ?_, fun w1 P hR hB1 => ?_⟩
      · rintro e w' ⟨rfl, rfl⟩
        exact ⟨rfl, ⟨st.hp, hS.up⟩, Fr.refl _ _⟩
      · have hR0 := hR
        obtain ⟨rv, hRM, hP⟩ := hR0
        refine (rsleep_bad hRM hrl hat hs.1 h2).mono ?_
        rintro e w' ⟨rfl, rfl⟩
        exact ⟨rfl, hR.up, Fr.refl _ _⟩
  · refine ⟨5, st, (sleep_none hM hid hb).mono ?_, fun w1 P hR hB1 => ?_⟩
    · rintro e w' ⟨rfl, rfl⟩
      exact ⟨rfl, ⟨st.hp, hS.up⟩, Fr.refl _ _⟩
    · have hR0 := hR
      obtain ⟨rv, hRM, hP⟩ := hR0
      refine (rsleep_none hRM (by rw [List.length_map]; omega) hno').mono ?_
      rintro e w' ⟨rfl, rfl⟩
      exact ⟨rfl, hR.up, Fr.refl _ _⟩

theorem wake_twin (hS : Sch B c w s st O) (hc : c ≤ 1000) {id : Int} (hid : (Lit.int .u64 id).wf = true) : Twin B c w s r st O 21 33 [.int .u64 id] := by
  have hS0 := hS
  obtain ⟨va, mb, vt, n, hM, hG, hn, I, hO⟩ := hS0
  have hl := I.len
  have hhp := hG.short
  rcases who st.l I.ids id with ⟨k, t, hk, rfl, hb, hat⟩ | ⟨hb, hno, hno'⟩
  · have ht := List.mem_of_getElem? hk
    have hrl : (st.l.map T.r).length ≤ 1000000 := by rw [List.length_map]; omega
    cases hs : t.asleep
    · refine ⟨3, st, (wake_bad hM ht hid hb hs).mono ?_, fun w1 P hR hB1 => ?_⟩
      · rintro e w' ⟨rfl, rfl⟩
        exact ⟨rfl, ⟨st.hp, hS.up⟩, Fr.refl _ _⟩
      · have hR0 := hR
        obtain ⟨rv, hRM, hP⟩ := hR0
        refine (rwake_bad hRM hrl hat hs).mono ?_
        rintro e w' ⟨rfl, rfl⟩
        exact ⟨rfl, hR.up, Fr.refl _ _⟩
    · refine ⟨0, { st with l := turned t.b t.rested st.l }, (wake_full hM hG ht hid hb hs (by omega)).mono ?_, fun w1 P hR hB1 => ?_⟩
      · rintro e w' ⟨rfl, ⟨vt', hp', hl', hv, hM', hG'⟩, hF⟩
        exact ⟨rfl, ⟨hp', sch_turn (t' := t.rested) hM hn I hO ht rfl rfl rfl rfl (fun k e => .inl (hv ▸ e)) hM' hG'⟩, hF.wide hO⟩
      · have hR0 := hR
        obtain ⟨rv, hRM, hP⟩ := hR0
        refine (rwake_ok hRM hrl hat hs).mono ?_
        rintro e w' ⟨rfl, hR', hF⟩
        exact ⟨rfl, set_twin hM hk hP rfl hR', hF.wide hP⟩
  · refine ⟨5, st, (wake_none hM hid hb).mono ?_, fun w1 P hR hB1 => ?_⟩
    · rintro e w' ⟨rfl, rfl⟩
      exact ⟨rfl, ⟨st.hp, hS.up⟩, Fr.refl _ _⟩
    · have hR0 := hR
      obtain ⟨rv, hRM, hP⟩ := hR0
      refine (rwake_none hRM (by rw [List.length_map]; omega) hno').mono ?_
      rintro e w' ⟨rfl, rfl⟩
      exact ⟨rfl, hR.up, Fr.refl _ _⟩

theorem until_twin (hS : Sch B c w s st O) (hc : c ≤ 1000) (hBw : B ≤ w.heap.size) {id : Int} (hid : (Lit.int .u64 id).wf = true) {z : Int} (hz1 : z < 18446744073709551616) : Twin B c w s r st O 11 32 [.int .u64 id, .int .u64 z] := by
  have hS0 := hS
  obtain ⟨va, mb, vt, n, hM, hG, hn, I, hO⟩ := hS0
  have hl := I.len
  have hhp := hG.short
  rcases who st.l I.ids id with ⟨k, t, hk, rfl, hb, hat⟩ | ⟨hb, hno, hno'⟩
  · have ht := List.mem_of_getElem? hk
    have hrl : (st.l.map T.r).length ≤ 1000000 := by rw [List.length_map]; omega
    by_cases hz : st.now < z
    · refine ⟨0, { st with l := turned t.b (t.put z) st.l }, (until_full hM hG ht hid hb z I.now0 hz hz1 hBw (by omega)).mono ?_, fun w1 P hR hB1 => ?_⟩
      · rintro e w' ⟨rfl, ⟨vt', hp', hl', hv, hM', hG'⟩, hF⟩
        exact ⟨rfl, ⟨hp', sch_turn (t' := (t.put z)) hM hn I hO ht rfl rfl rfl rfl hv hM' hG'⟩, hF.wide hO⟩
      · have hR0 := hR
        obtain ⟨rv, hRM, hP⟩ := hR0
        refine (runtil_ok hRM hrl hat z hz).mono ?_
        rintro e w' ⟨rfl, hR', hF⟩
        exact ⟨rfl, set_twin hM hk hP rfl hR', hF.wide hP⟩
    · refine ⟨2, st, (until_past hM hid hb z (by omega)).mono ?_, fun w1 P hR hB1 => ?_⟩
      · rintro e w' ⟨rfl, rfl⟩
        exact ⟨rfl, ⟨st.hp, hS.up⟩, Fr.refl _ _⟩
      · have hR0 := hR
        obtain ⟨rv, hRM, hP⟩ := hR0
        refine (runtil_past hRM hrl hat z (by omega)).mono ?_
        rintro e w' ⟨rfl, rfl⟩
        exact ⟨rfl, hR.up, Fr.refl _ _⟩
  · refine ⟨5, st, (until_none hM hid hb z).mono ?_, fun w1 P hR hB1 => ?_⟩
    · rintro e w' ⟨rfl, rfl⟩
      exact ⟨rfl, ⟨st.hp, hS.up⟩, Fr.refl _ _⟩
    · have hR0 := hR
      obtain ⟨rv, hRM, hP⟩ := hR0
      refine (runtil_none hRM (by rw [List.length_map]; omega) hno' z).mono ?_
      rintro e w' ⟨rfl, rfl⟩
      exact ⟨rfl, hR.up, Fr.refl _ _⟩

theorem done_twin (hS : Sch B c w s st O) (hc : c ≤ 1000) (hBw : B ≤ w.heap.size) {id : Int} (hid : (Lit.int .u64 id).wf = true) : Twin B c w s r st O 19 36 [.int .u64 id] := by
  have hS0 := hS
  obtain ⟨va, mb, vt, n, hM, hG, hn, I, hO⟩ := hS0
  have hl := I.len
  have hhp := hG.short
  rcases who st.l I.ids id with ⟨k, t, hk, rfl, hb, hat⟩ | ⟨hb, hno, hno'⟩
  · have ht := List.mem_of_getElem? hk
    have hrl : (st.l.map T.r).length ≤ 1000000 := by rw [List.length_map]; omega
    refine ⟨0, { st with l := st.l.eraseIdx k }, (done_full hM hG hk I.ids hid hb (by omega) (by omega) hBw).mono ?_, fun w1 P hR hB1 => ?_⟩
    · rintro e w' ⟨rfl, ⟨va', vt', hp', hl', hv1, hv2, hM', hG'⟩, hF⟩
      refine ⟨rfl, ⟨hp', va', mb, vt', n, hM', hG', by omega, ((I.sub (List.eraseIdx_sublist _ _)).heap _).mono (by omega), own_up hO (fun k e => .inl (hv1 ▸ e)) (fun k e => .inl (hv2 ▸ e)) (fun u hu => .inl ⟨u, (List.eraseIdx_sublist _ _).subset hu, rfl⟩)⟩, hF.wide hO⟩
    · have hR0 := hR
      obtain ⟨rv, hRM, hP⟩ := hR0
      refine (rdone_ok hRM (by rw [List.length_map]; omega) hat hB1).mono ?_
      rintro e w' ⟨rfl, ⟨rv', hR', hrv⟩, hF⟩
      refine ⟨rfl, ⟨rv', ?_, row_up hP (fun k hk => .inr (hrv k hk))⟩, hF.wide hP⟩
      show RMem B w' r rv' st.pat st.now ((st.l.eraseIdx k).map T.r)
      rw [← erase_map]
      exact hR'
  · refine ⟨5, st, (done_none hM hid hb).mono ?_, fun w1 P hR hB1 => ?_⟩
    · rintro e w' ⟨rfl, hB⟩
      exact ⟨rfl, ⟨st.hp, (hS.up.move (Fr.of_below hB (fun _ => False)) (fun _ _ _ x => x))⟩, Fr.of_below hB _⟩
    · have hR0 := hR
      obtain ⟨rv, hRM, hP⟩ := hR0
      refine (rdone_none hRM (by rw [List.length_map]; omega) hno').mono ?_
      rintro e w' ⟨rfl, rfl⟩
      exact ⟨rfl, hR.up, Fr.refl _ _⟩
end
end Go.Proofs.Ytlkphbcdgkjnoaa
