/- Sleep, Wake, Next, All; whoever is not there: what each call returns, what it turns, what it leaves alone. -/
import Derived.Test.YtlkphbcdgkjnoaaF2
namespace Go.Proofs.Ytlkphbcdgkjnoaa
open Go.RowKit Go.Maps

theorem keyOf_map {f : T → T} : ∀ {l : List T}, (∀ t ∈ l, (f t).b = t.b ∧ (f t).timed = t.timed ∧ (f t).at_ = t.at_ ∧ (f t).ord = t.ord) → ∀ b, keyOf (l.map f) b = keyOf l b
  | [], _, _ => rfl
  | t :: l, h, b => by
    have ih := keyOf_map (f := f) (l := l) (fun u hu => h u (List.mem_cons_of_mem _ hu)) b
    obtain ⟨h1, _, h3, h4⟩ := h t List.mem_cons_self
    unfold keyOf at ih ⊢
    rw [List.map_cons, List.find?_cons, List.find?_cons, h1]
    cases e : (t.b == b)
    · exact ih
    · show ((f t).at_, (f t).ord) = (t.at_, t.ord)
      rw [h3, h4]
/-- What the heap says hangs on times and orders alone. -/
theorem Good.map {st : St} (G : Good st) (f : T → T) (hf : ∀ t ∈ st.l, (f t).b = t.b ∧ (f t).timed = t.timed ∧ (f t).at_ = t.at_ ∧ (f t).ord = t.ord) : Good { st with l := st.l.map f } := by
  refine ⟨G.nodup, fun u hu => ?_, fun b hb => ?_, ?_⟩
  · obtain ⟨t, ht, rfl⟩ := List.mem_map.1 hu
    obtain ⟨h1, h2, _, _⟩ := hf t ht
    rw [h1, h2]
    exact G.mem t ht
  · obtain ⟨t, ht, e⟩ := G.sub b hb
    exact ⟨f t, List.mem_map.2 ⟨t, ht, rfl⟩, by rw [(hf t ht).1, e]⟩
  · exact heap_cong (fun _ _ => rfl) (fun i _ => (keyOf_map hf _).symm) G.heap
theorem Good.turn {st : St} (G : Good st) (hap : st.l.Pairwise fun t u => t.b ≠ u.b) {t t' : T} (ht : t ∈ st.l) (hb : t'.b = t.b) (h1 : t'.timed = t.timed) (h2 : t'.at_ = t.at_) (h3 : t'.ord = t.ord) : Good { st with l := turned t.b t' st.l } :=
  G.map (fun u => if u.b = t.b then t' else u) (fun u hu => by
    by_cases e : u.b = t.b
    · have := apart_eq hap ht hu e
      subst this
      rw [if_pos rfl]
      exact ⟨hb, h1, h2, h3⟩
    · rw [if_neg e]
      exact ⟨rfl, rfl, rfl, rfl⟩)

/-- A handler that sleeps until it is woken. -/
def T.slept (t : T) : T := { t.rested with asleep := true }
set_option maxHeartbeats 1000000 in
theorem sleep_full {B : Nat} {w : World} {s mb n : Nat} {va vt : Value} {st : St} (h : Mem B w s va mb vt n st) (hG : Good st) {t : T} (ht : t ∈ st.l) (hid : (Lit.int .u64 t.id).wf = true) (hb : blkOf st.l t.id = t.b) (hs : (t.asleep && !t.timed) = false) (hlen : st.hp.length ≤ 100000) :
    Calls Try.prog 20 #[ptr s, .int .u64 t.id] w fun e w' => e = .returned (.int .i64 0) ∧ (∃ vt' hp', hp'.length ≤ st.hp.length ∧ vt'.ownBlock = vt.ownBlock ∧ Mem B w' s va mb vt' n { st with l := turned t.b t.slept st.l, hp := hp' } ∧ Good { st with l := turned t.b t.slept st.l, hp := hp' }) ∧ Fr (Own s va mb vt st.l) w w' := by
  have hF := find_some h hid hb
  have hR := ready_full h hG ht (by omega)
  obtain ⟨t0, t1, t2, t3, t4, t5⟩ := (h.tasks t ht).six
  have hap := h.apart
  have hOt : t.b < w.heap.size → Own s va mb vt st.l t.b := fun _ => .inr (.inr (.inr (.inr ⟨t, ht, rfl⟩)))
  have key : ∀ (x y : Bool), (x && !y) = false → x = t.asleep → y = t.timed → Calls Try.prog 20 #[ptr s, .int .u64 t.id] w fun e w' => e = .returned (.int .i64 0) ∧ (∃ vt' hp', hp'.length ≤ st.hp.length ∧ vt'.ownBlock = vt.ownBlock ∧ Mem B w' s va mb vt' n { st with l := turned t.b t.slept st.l, hp := hp' } ∧ Good { st with l := turned t.b t.slept st.l, hp := hp' }) ∧ Fr (Own s va mb vt st.l) w w' := by
    intro x y hxy hx hy
    rw [← hx] at t2
    rw [← hy] at t3
    clear hx hy hs
    rcases x with _ | _ <;> rcases y with _ | _ <;> first | (cases hxy; done) | skip
    all_goals
      clear hxy
      go_enter Try.func20, Try.ntmps20
      go_wp2_with (go_at_call 26; refine hF.mono ?_; rintro e w3 ⟨rfl, rfl⟩)
      refine hR.mono ?_
      rintro e w1 ⟨rfl, ⟨vt1, hp1, hob, hl1, hm1, M1, G1⟩, F1⟩
      have M2 := Mem.again (st := { st with hp := hp1 }) M1 ht rfl 2 (.bool true) t.slept rfl rfl rfl
      have F2 := F1.set hOt 2 (.bool true)
      have mt : t.rested ∈ turned t.b t.rested st.l := turned_mem ht
      have G2 := Good.turn (t := t.rested) (t' := t.slept) G1 M1.apart mt rfl rfl rfl rfl
      have e1 : turned t.rested.b t.slept (turned t.b t.rested st.l) = turned t.b t.slept st.l := turned_turned rfl
      have G3 : Good { st with l := turned t.b t.slept st.l, hp := hp1 } := by
        have := G2
        simp only [e1] at this
        exact this
      obtain ⟨x0, x1, x2, x3, x4, x5⟩ := (M1.tasks _ mt).six
      have xf := fun k => (M1.tasks _ mt).frozen k
      have eb : t.rested.b = t.b := rfl
      simp only [eb] at x0 x1 x2 x3 x4 x5 xf
      have HOB := Lib.hid hob
      clear t0 t1 t2 t3 t4 t5 hF hR hb h G2 e1 eb hob M1 F1 G1
      go_wp2
      go_ret
      exact ⟨rfl, ⟨vt1, hp1, hl1, HOB.out, M2, G3⟩, F2⟩
  exact key _ _ hs rfl rfl
set_option maxHeartbeats 1000000 in
theorem sleep_bad {B : Nat} {w : World} {s mb n : Nat} {va vt : Value} {st : St} (h : Mem B w s va mb vt n st) {t : T} (ht : t ∈ st.l) (hid : (Lit.int .u64 t.id).wf = true) (hb : blkOf st.l t.id = t.b) (ha : t.asleep = true) (hti : t.timed = false) :
    Calls Try.prog 20 #[ptr s, .int .u64 t.id] w fun e w' => e = .returned (.int .i64 3) ∧ w = w' := by
  have hF := find_some h hid hb
  obtain ⟨t0, t1, t2, t3, t4, t5⟩ := (h.tasks t ht).six
  rw [ha] at t2
  rw [hti] at t3
  clear ha hti
  go_enter Try.func20, Try.ntmps20
  go_wp2_with (go_at_call 26; refine hF.mono ?_; rintro e w3 ⟨rfl, rfl⟩)
  go_ret
  exact ⟨rfl, rfl⟩
theorem sleep_none {B : Nat} {w : World} {s mb n : Nat} {va vt : Value} {st : St} (h : Mem B w s va mb vt n st) {id : Int} (hid : (Lit.int .u64 id).wf = true) (hb : blkOf st.l id = -1) :
    Calls Try.prog 20 #[ptr s, .int .u64 id] w fun e w' => e = .returned (.int .i64 5) ∧ w = w' := by
  have hF := find_none h hid hb
  go_enter Try.func20, Try.ntmps20
  go_wp2_with (go_at_call 26; refine hF.mono ?_; rintro e w3 ⟨rfl, rfl⟩)
  go_ret
  exact ⟨rfl, rfl⟩
theorem until_none {B : Nat} {w : World} {s mb n : Nat} {va vt : Value} {st : St} (h : Mem B w s va mb vt n st) {id : Int} (hid : (Lit.int .u64 id).wf = true) (hb : blkOf st.l id = -1) (z : Int) :
    Calls Try.prog 11 #[ptr s, .int .u64 id, .int .u64 z] w fun e w' => e = .returned (.int .i64 5) ∧ w = w' := by
  have hF := find_none h hid hb
  go_enter Try.func11, Try.ntmps11
  go_wp2_with (go_at_call 26; refine hF.mono ?_; rintro e w3 ⟨rfl, rfl⟩)
  go_ret
  exact ⟨rfl, rfl⟩
set_option maxHeartbeats 1000000 in
theorem wake_full {B : Nat} {w : World} {s mb n : Nat} {va vt : Value} {st : St} (h : Mem B w s va mb vt n st) (hG : Good st) {t : T} (ht : t ∈ st.l) (hid : (Lit.int .u64 t.id).wf = true) (hb : blkOf st.l t.id = t.b) (ha : t.asleep = true) (hlen : st.hp.length ≤ 100000) :
    Calls Try.prog 21 #[ptr s, .int .u64 t.id] w fun e w' => e = .returned (.int .i64 0) ∧ (∃ vt' hp', hp'.length ≤ st.hp.length ∧ vt'.ownBlock = vt.ownBlock ∧ Mem B w' s va mb vt' n { st with l := turned t.b t.rested st.l, hp := hp' } ∧ Good { st with l := turned t.b t.rested st.l, hp := hp' }) ∧ Fr (Own s va mb vt st.l) w w' := by
  have hF := find_some h hid hb
  have hR := ready_full h hG ht (by omega)
  obtain ⟨t0, t1, t2, t3, t4, t5⟩ := (h.tasks t ht).six
  rw [ha] at t2
  clear ha
  go_enter Try.func21, Try.ntmps21
  go_wp2_with (go_at_call 26; refine hF.mono ?_; rintro e w3 ⟨rfl, rfl⟩)
  refine hR.mono ?_
  rintro e w1 ⟨rfl, ⟨vt1, hp1, hob, hl1, hm1, M1, G1⟩, F1⟩
  have HOB := Lib.hid hob
  clear t0 t1 t2 t3 t4 t5 hF hR hb h hob
  go_wp2
  go_ret
  exact ⟨rfl, ⟨vt1, hp1, hl1, HOB.out, M1, G1⟩, F1⟩
theorem wake_bad {B : Nat} {w : World} {s mb n : Nat} {va vt : Value} {st : St} (h : Mem B w s va mb vt n st) {t : T} (ht : t ∈ st.l) (hid : (Lit.int .u64 t.id).wf = true) (hb : blkOf st.l t.id = t.b) (ha : t.asleep = false) :
    Calls Try.prog 21 #[ptr s, .int .u64 t.id] w fun e w' => e = .returned (.int .i64 3) ∧ w = w' := by
  have hF := find_some h hid hb
  obtain ⟨t0, t1, t2, t3, t4, t5⟩ := (h.tasks t ht).six
  rw [ha] at t2
  clear ha
  go_enter Try.func21, Try.ntmps21
  go_wp2_with (go_at_call 26; refine hF.mono ?_; rintro e w3 ⟨rfl, rfl⟩)
  go_ret
  exact ⟨rfl, rfl⟩
theorem wake_none {B : Nat} {w : World} {s mb n : Nat} {va vt : Value} {st : St} (h : Mem B w s va mb vt n st) {id : Int} (hid : (Lit.int .u64 id).wf = true) (hb : blkOf st.l id = -1) :
    Calls Try.prog 21 #[ptr s, .int .u64 id] w fun e w' => e = .returned (.int .i64 5) ∧ w = w' := by
  have hF := find_none h hid hb
  go_enter Try.func21, Try.ntmps21
  go_wp2_with (go_at_call 26; refine hF.mono ?_; rintro e w3 ⟨rfl, rfl⟩)
  go_ret
  exact ⟨rfl, rfl⟩
theorem done_none {B : Nat} {w : World} {s mb n : Nat} {va vt : Value} {st : St} (h : Mem B w s va mb vt n st) {id : Int} (hid : (Lit.int .u64 id).wf = true) (hb : blkOf st.l id = -1) :
    Calls Try.prog 19 #[ptr s, .int .u64 id] w fun e w' => e = .returned (.int .i64 5) ∧ Below w.heap.size w w' := by
  have hF := find_none h hid hb
  go_enter Try.func19, Try.ntmps19
  go_wp2_with (go_at_call 26; refine hF.mono ?_; rintro e w3 ⟨rfl, rfl⟩)
  go_ret
  exact ⟨rfl, (Below.refl _ _).alloc (Nat.le_refl _) _⟩

theorem next_none {B : Nat} {w : World} {s mb n : Nat} {va vt : Value} {st : St} (h : Mem B w s va mb vt n st) (h0 : st.hp.length = 0) :
    Calls Try.prog 18 #[ptr s] w fun e w' => e = .returned (.tuple #[.int .u64 0, .bool false]) ∧ w = w' := by
  have hN := none_any h.str
  obtain ⟨A, cap, rfl⟩ := row_form h.tim
  obtain ⟨c0, c1, c2, c3, c4, c5⟩ := h.str.six
  rw [h0] at c5
  clear h h0
  go_enter Try.func18, Try.ntmps18
  go_wp2_with (go_at_call 24; refine hN.mono ?_; rintro e w3 ⟨rfl, rfl⟩)
  go_ret2
  exact ⟨rfl, rfl⟩
theorem next_some {B : Nat} {w : World} {s mb n : Nat} {va vt : Value} {st : St} (h : Mem B w s va mb vt n st) {t : T} (ht : t ∈ st.l) (h0 : 0 < st.hp.length) (he : t.b = at' st.hp 0) (hlen : st.hp.length ≤ 100000) :
    Calls Try.prog 18 #[ptr s] w fun e w' => e = .returned (.tuple #[.int .u64 t.at_, .bool true]) ∧ w = w' := by
  have hN := none_any h.str
  have htim := h.tim
  obtain ⟨m, hm⟩ : ∃ m, st.hp.length = m := ⟨_, rfl⟩
  obtain ⟨A, cap, rfl⟩ := row_form h.tim
  rcases htim.2 with ⟨_, e0⟩ | ⟨g, cap', cur, e0, _⟩
  · omega
  injection e0 with a1 a2 a3
  subst a1
  have hx := hrow_nat htim h0
  rw [← he] at hx
  obtain ⟨c0, c1, c2, c3, c4, c5⟩ := h.str.six
  rw [hm] at c5 h0 hlen
  obtain ⟨t0, t1, t2, t3, t4, t5⟩ := (h.tasks t ht).six
  have hq : ((m : Int) == 0) = false := beq_eq_false_iff_ne.2 (by omega)
  have hm0 : (0 : Int) < m := by omega
  clear h htim hm he a3
  go_enter Try.func18, Try.ntmps18
  go_wp2_with (go_at_call 24; refine hN.mono ?_; rintro e w3 ⟨rfl, rfl⟩)
  go_ret2
  exact ⟨rfl, rfl⟩
end Go.Proofs.Ytlkphbcdgkjnoaa
