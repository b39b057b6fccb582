/- A scheduler and the document's beside each other: Pick, Tick, what both show; two lists are compared. -/
import Derived.Test.YtlkphbcdgkjnoaaL3
namespace Go.Proofs.Ytlkphbcdgkjnoaa
open Go.RowKit Go.Maps

section
variable {B c s r : Nat} {w : World} {st : St} {O : Nat → Prop}

/-- Both answer alike with two numbers. -/
def Twin2 (B c : Nat) (w : World) (s r : Nat) (st : St) (O : Nat → Prop) (f g : Nat) (xs : List Value) : Prop :=
  ∃ (y z : Int) (st' : St), (Calls Try.prog f ⟨ptr s :: xs⟩ w fun e w' => e = .returned (.tuple #[.int .u64 y, .int .i64 z]) ∧ Sch B (c + 1) w' s st' (Up O w) ∧ Fr O w w') ∧
    ∀ w1 P, RSch B w1 r st P → B ≤ w1.heap.size → Calls Try.prog g ⟨ptr r :: xs⟩ w1 fun e w' => e = .returned (.tuple #[.int .u64 y, .int .i64 z]) ∧ RSch B w' r st' (Up P w1) ∧ Fr P w1 w'
theorem Frm.fr {l : List T} {w W : World} (h : Frm l w W) (hO : ∀ t ∈ l, O t.b) : Fr O w W :=
  ⟨h.os, h.tape, h.output, h.size, fun k hk hn => h.block k hk (fun t ht e => hn (e ▸ hO t ht))⟩
theorem pick_twin (hS : Sch B c w s st O) (hc : c ≤ 1000) {x : Int} (hx0 : 0 ≤ x) (hx1 : x < 18446744073709551616) : Twin2 B c w s r st O 10 37 [.int .u64 x] := by
  have hS0 := hS
  obtain ⟨va, mb, vt, n, hM, hG, hn, I, hO⟩ := hS0
  have hl := I.len
  have hp0 := I.pat0
  have hp1 := I.pat1
  obtain ⟨A, cap, rfl⟩ := row_form hM.all
  have hP := pick_full hM x hx0 hx1 (by omega) hp1 (fun t ht => by have := I.age t ht; omega) (by omega)
  have hOb : ∀ t ∈ st.l, O t.b := fun t ht => hO _ (.inr (.inr (.inr (.inr ⟨t, ht, rfl⟩))))
  cases hch : chosen st x.toNat with
  | none =>
    rw [hch] at hP
    refine ⟨0, 5, st, hP.mono ?_, fun w1 P hR hB1 => ?_⟩
    · rintro e w' ⟨rfl, hM', hF⟩
      exact ⟨rfl, ⟨_, mb, vt, n, hM', hG, by omega, I.mono (by omega), fun k hk => .inl (hO k hk)⟩, hF.fr hOb⟩
    · have hR0 := hR
      obtain ⟨rv, hRM, hP⟩ := hR0
      refine (rpick_none hRM (by rw [List.length_map]; omega) (aw_none (chosen_none hch)) x).mono ?_
      rintro e w' ⟨rfl, rfl⟩
      exact ⟨rfl, hR.up, Fr.refl _ _⟩
  | some t =>
    rw [hch] at hP
    obtain ⟨i, hri, hi⟩ := chosen_some hch
    have ht := List.mem_of_getElem? hi
    have ha : t.asleep = false := by
      unfold chosen at hch
      cases ho : old st.pat (aw st.l) none with
      | some u =>
        rw [ho] at hch
        injection hch with hch
        subst hch
        exact (aw_mem.1 (old_mem ho).1).2
      | none =>
        rw [ho] at hch
        exact (aw_mem.1 (List.mem_of_getElem? hch)).2
    refine ⟨t.id, 0, picked st t.b, hP.mono ?_, fun w1 P hR hB1 => ?_⟩
    · rintro e w' ⟨rfl, hM', hF⟩
      have hGP : Good (picked st t.b) := hG.map _ (fun u _ => by
        cases hu : u.asleep <;> simp)
      have hIP : Inv (c + 1) (picked st t.b) := I.map (by omega) _ (fun u hu => by
        have := I.age u hu
        cases hua : u.asleep
        · simp only [Bool.false_eq_true, if_false]
          refine ⟨trivial, trivial, ?_⟩
          split <;> omega
        · simp only [if_true]
          exact ⟨trivial, trivial, by omega, by omega⟩)
      refine ⟨rfl, ⟨_, mb, vt, n, hM', hGP, by omega, hIP, own_up hO (fun k hk => .inl hk) (fun k hk => .inl hk) (fun u hu => ?_)⟩, hF.fr hOb⟩
      obtain ⟨v, hv, rfl⟩ := List.mem_map.1 hu
      exact .inl ⟨v, hv, by cases v.asleep <;> simp⟩
    · have hR0 := hR
      obtain ⟨rv, hRM, hP⟩ := hR0
      refine (rpick_some hRM (by rw [List.length_map]; omega) (fun u hu => ?_) hx0 hx1 (by omega) hp1 hri (r_get hi)).mono ?_
      · obtain ⟨v, hv, rfl⟩ := List.mem_map.1 hu
        have := I.age v hv
        show 0 ≤ v.age ∧ v.age ≤ 1000000
        omega
      · rintro e w' ⟨rfl, hR', hF⟩
        refine ⟨rfl, ⟨rv, ?_, row_up hP (fun _ hk => .inl hk)⟩, hF.wide hP⟩
        rw [picked_r hM.apart hi ha]
        exact hR'

theorem tick_s (hS : Sch B c w s st O) (hc : c ≤ 1000) (hBw : B ≤ w.heap.size) {z : Int} (hz : st.now ≤ z) (hz1 : z < 18446744073709551616) :
    Calls Try.prog 12 #[ptr s, .int .u64 z] w fun e w' => ∃ A cap ts st1, e = .returned (.tuple #[.slice A ts.length cap, .int .i64 0]) ∧ CellsU w.heap.size w' A (tids ts) ∧ Trail z { st with now := z } ts st1 ∧ (∀ t ∈ st1.l, t.timed = true → z < t.at_) ∧ Sch B (c + 1) w' s st1 (Up O w) ∧ Fr O w w' := by
  obtain ⟨va, mb, vt, n, hM, hG, hn, I, hO⟩ := hS
  have hl := I.len
  have hn0 := I.now0
  have hhp := hG.short
  refine (tick_full hM hG z hz hBw (by omega)).mono ?_
  rintro e w' ⟨A, cap, ts, st1, vt', rfl, hC, hT, hdue, hM', hG', hv, hF⟩
  refine ⟨A, cap, ts, st1, rfl, fun k y hy => ?_, hT, hdue, ⟨va, mb, vt', n, hM', hG', by omega, (hT.inv (I.tell (by omega) hz1) hM.apart).mono (by omega), own_up hO (fun k hk => .inl hk) (fun k hk => .inl (hv ▸ hk)) (fun u hu => .inl (hT.blks u hu))⟩, hF.wide hO⟩
  unfold tids at hy
  rw [List.getElem?_map] at hy
  obtain ⟨t, ht, rfl⟩ := Option.map_eq_some_iff.1 hy
  exact hC k t ht
theorem tick_r {ts : List T} {st1 : St} {z : Int} (I : Inv c st) (hap : st.l.Pairwise fun t u => t.b ≠ u.b) (hc : c ≤ 1000) (hz : st.now ≤ z) (hz1 : z < 18446744073709551616) (hT : Trail z { st with now := z } ts st1) (hdue : ∀ t ∈ st1.l, t.timed = true → z < t.at_) {w1 : World} {P : Nat → Prop} (hR : RSch B w1 r st P) (hB1 : B ≤ w1.heap.size) :
    Calls Try.prog 34 #[ptr r, .int .u64 z] w1 fun e w' => ∃ A cap, e = .returned (.tuple #[.slice A ts.length cap, .int .i64 0]) ∧ CellsU w1.heap.size w' A (tids ts) ∧ RSch B w' r st1 (Up P w1) ∧ Fr P w1 w' := by
  obtain ⟨rv, hRM, hP⟩ := hR
  have hl := I.len
  have hn0 := I.now0
  refine (rtick_any hRM (by rw [List.length_map]; omega) z hz hB1).mono ?_
  rintro e w' ⟨v, xs, L', rfl, hO, hRT, hno, hR', hF⟩
  have hTR : RTrail z (st.l.map T.r) (ts.map T.id) (st1.l.map T.r) := trail_r (st := { st with now := z }) hT (I.tell (by omega) hz1) hap
  obtain ⟨rfl, rfl⟩ := hRT.one hno hTR (tbest_none hdue)
  obtain ⟨A, cap, rfl⟩ := row_form hO
  have hl2 : (ts.map T.id).length = ts.length := List.length_map _
  have hpat : ∀ {st st1 : St} {ts : List T}, Trail z st ts st1 → st1.pat = st.pat ∧ st1.now = st.now := fun h => by
    induction h with
    | nil => exact ⟨rfl, rfl⟩
    | snoc _ _ _ _ _ _ ih => exact ih
  obtain ⟨p1, p2⟩ := hpat hT
  refine ⟨A, cap, by rw [hl2], CellsU.of_row hO, ⟨rv, ?_, row_up hP (fun _ hk => .inl hk)⟩, hF.wide hP⟩
  rw [p1, p2]
  exact hR'

theorem next_s (hS : Sch B c w s st O) (hc : c ≤ 1000) : Calls Try.prog 18 #[ptr s] w fun e w' => e = .returned (.tuple #[.int .u64 ((rnext (st.l.map T.r)).getD 0), .bool (rnext (st.l.map T.r)).isSome]) ∧ w = w' := by
  obtain ⟨va, mb, vt, n, hM, hG, hn, I, hO⟩ := hS
  have hl := I.len
  have hhp := hG.short
  by_cases h0 : st.hp.length = 0
  · have hu : ∀ u ∈ st.l, u.timed = false := fun u hu => by
      cases hx : u.timed
      · rfl
      · have := (hG.mem u hu).1 hx
        rw [List.eq_nil_of_length_eq_zero h0] at this
        simp at this
    rw [next_law0 hu]
    exact next_none hM h0
  · obtain ⟨t, ht, e, htt, hmin⟩ := head_min hG hM.apart (by omega)
    rw [next_law1 ht htt hmin]
    exact next_some hM ht (by omega) e (by omega)
theorem next_r {P : Nat → Prop} (hR : RSch B w r st P) (hl : st.l.length ≤ 1000) : Calls Try.prog 38 #[ptr r] w fun e w' => e = .returned (.tuple #[.int .u64 ((rnext (st.l.map T.r)).getD 0), .bool (rnext (st.l.map T.r)).isSome]) ∧ w = w' := by
  obtain ⟨rv, hRM, hP⟩ := hR
  exact rnext_any hRM (by rw [List.length_map]; omega)
end

set_option maxHeartbeats 1000000 in
theorem ids_same {B1 B2 : Nat} {w : World} {A A2 : Option Addr} {xs : List Int} (h1 : CellsU B1 w A xs) (h2 : CellsU B2 w A2 xs) (hl : xs.length ≤ 100000) (cap cap2 : Nat) :
    Calls Try.prog 35 #[.slice A xs.length cap, .slice A2 xs.length cap2] w fun e w' => e = .returned (.bool true) ∧ ∃ q, w' = w.drewN q := by
  have H1 := Lib.hid h1
  have H2 := Lib.hid h2
  clear h1 h2
  go_enter Try.func35, Try.ntmps35
  go_wp2
  go_loopw [5] (fun i wx => ∃ (j q : Nat), j ≤ xs.length ∧ i = .int .i64 j ∧ wx = w.drewN q) (fun i _ => xs.length - (intOf i).toNat)
  case atStart => exact ⟨0, 0, Nat.zero_le _, rfl, rfl⟩
  case round =>
    obtain ⟨j, q, hj, rfl, rfl⟩ := hrel
    by_cases hjl : j < xs.length
    · obtain ⟨z, hz⟩ : ∃ z, xs[j]? = some z := ⟨_, List.getElem?_eq_getElem hjl⟩
      obtain ⟨g1, rfl, _, hc1⟩ := H1.out j z hz
      obtain ⟨g2, rfl, _, hc2⟩ := H2.out j z hz
      have hjl' : (j : Int) < xs.length := by omega
      have HZ := Lib.hid hz
      clear hz
      go_wp2
      go_quiet (fail)
      go_wp2
      go_roundw
      case rel => exact ⟨j + 1, _, by omega, by go_num, rfl⟩
      case measure => simp [intOf]; omega
    · go_wp2
      go_ret
      exact ⟨rfl, q, rfl⟩
end Go.Proofs.Ytlkphbcdgkjnoaa
