/- stands: a scheduler and the document's show the same. -/
import Derived.Test.YtlkphbcdgkjnoaaL4
namespace Go.Proofs.Ytlkphbcdgkjnoaa
open Go.RowKit Go.Maps

/-- What Ready and All hand back, in any later world. -/
theorem ready_s {B c s : Nat} {w : World} {st : St} {O : Nat → Prop} (hS : Sch B c w s st O) (hc : c ≤ 1000) : Calls Try.prog 22 #[ptr s] w fun e w' => ∃ A, e = .returned (.slice A (aw st.l).length (aw st.l).length) ∧ CellsU w.heap.size w' A (tids (aw st.l)) ∧ Below w.heap.size w w' := by
  obtain ⟨va, mb, vt, n, hM, hG, hn, I, hO⟩ := hS
  have hl := I.len
  obtain ⟨A, cap, rfl⟩ := row_form hM.all
  exact ready_list hM (by omega)
theorem all_s {B c s : Nat} {w : World} {st : St} {O : Nat → Prop} (hS : Sch B c w s st O) (hc : c ≤ 1000) : Calls Try.prog 23 #[ptr s] w fun e w' => ∃ A, e = .returned (.slice A st.l.length st.l.length) ∧ CellsU w.heap.size w' A (tids st.l) ∧ Below w.heap.size w w' := by
  obtain ⟨va, mb, vt, n, hM, hG, hn, I, hO⟩ := hS
  have hl := I.len
  exact all_full hM (by omega)
theorem now_s {B c s : Nat} {w : World} {st : St} {O : Nat → Prop} (hS : Sch B c w s st O) : Calls Try.prog 13 #[ptr s] w fun e w' => e = .returned (.int .u64 st.now) ∧ w' = w := by
  obtain ⟨va, mb, vt, n, hM, hG, hn, I, hO⟩ := hS
  exact now_any hM
theorem ready_r {B r : Nat} {w : World} {st : St} {P : Nat → Prop} (hR : RSch B w r st P) (hl : st.l.length ≤ 1000) : Calls Try.prog 39 #[ptr r, .bool true] w fun e w' => ∃ A cap, e = .returned (.slice A (aw st.l).length cap) ∧ CellsU w.heap.size w' A (tids (aw st.l)) ∧ Below w.heap.size w w' := by
  obtain ⟨rv, hRM, hP⟩ := hR
  refine (rids_ready hRM (by rw [List.length_map]; omega)).mono ?_
  rintro e w' ⟨v, rfl, hO, hB⟩
  rw [← ids_ready] at hO
  obtain ⟨A, cap, rfl⟩ := row_form hO
  exact ⟨A, cap, by rw [tids_len], CellsU.of_row hO, hB⟩
theorem all_r {B r : Nat} {w : World} {st : St} {P : Nat → Prop} (hR : RSch B w r st P) (hl : st.l.length ≤ 1000) : Calls Try.prog 39 #[ptr r, .bool false] w fun e w' => ∃ A cap, e = .returned (.slice A st.l.length cap) ∧ CellsU w.heap.size w' A (tids st.l) ∧ Below w.heap.size w w' := by
  obtain ⟨rv, hRM, hP⟩ := hR
  refine (rids_all hRM (by rw [List.length_map]; omega)).mono ?_
  rintro e w' ⟨v, rfl, hO, hB⟩
  rw [← ids_all] at hO
  obtain ⟨A, cap, rfl⟩ := row_form hO
  exact ⟨A, cap, by rw [tids_len], CellsU.of_row hO, hB⟩
theorem ids_len {B1 B2 : Nat} {w : World} {A A2 : Option Addr} {l : List T} (h1 : CellsU B1 w A (tids l)) (h2 : CellsU B2 w A2 (tids l)) (hl : l.length ≤ 100000) (cap cap2 : Nat) :
    Calls Try.prog 35 #[.slice A l.length cap, .slice A2 l.length cap2] w fun e w' => e = .returned (.bool true) ∧ Below w.heap.size w w' := by
  have := ids_same h1 h2 (by rw [tids_len]; exact hl) cap cap2
  rw [tids_len] at this
  refine this.mono ?_
  rintro e w' ⟨rfl, q, rfl⟩
  exact ⟨rfl, below_drewN _ _ _⟩
theorem Sch.below {B c s : Nat} {w w' : World} {st : St} {O : Nat → Prop} (h : Sch B c w s st O) (hb : Below w.heap.size w w') : Sch B c w' s st O := h.move (Fr.of_below hb (fun _ => False)) (fun _ _ _ x => x)
theorem RSch.below {B r : Nat} {w w' : World} {st : St} {P : Nat → Prop} (h : RSch B w r st P) (hb : Below w.heap.size w w') : RSch B w' r st P := h.move (Fr.of_below hb (fun _ => False)) (fun _ _ _ x => x)

set_option maxRecDepth 100000 in
set_option maxHeartbeats 4000000 in
theorem stands_any {B c s r : Nat} {w : World} {st : St} {O P : Nat → Prop} (hS : Sch B c w s st O) (hR : RSch B w r st P) (hc : c ≤ 1000) (hl : st.l.length ≤ 1000) :
    Calls Try.prog 17 #[ptr s, ptr r] w fun e w' => e = .returned (.bool true) ∧ Below w.heap.size w w' := by
  have hN1 := next_s hS hc
  have hN2 := next_r hR hl
  have hRc : w.cell? ⟨r, 1, none⟩ = some (.int .u64 st.now) := by
    obtain ⟨rv, hRM, _⟩ := hR
    exact hRM.str.cell 1 rfl
  have HS : Hid (∀ W, Below w.heap.size w W → Sch B c W s st O) := by
    show ∀ W, _ → _
    exact fun W hb => hS.below hb
  have HR : Hid (∀ W, Below w.heap.size w W → RSch B W r st P) := by
    show ∀ W, _ → _
    exact fun W hb => hR.below hb
  have b0 : Below w.heap.size w w.drew := ⟨rfl, rfl, rfl, Nat.le_refl _, fun _ _ => rfl⟩
  have haw : (aw st.l).length ≤ 1000 := Nat.le_trans (List.length_filter_le _ _) hl
  generalize (rnext (st.l.map T.r)).getD 0 = nx at hN1 hN2
  generalize (rnext (st.l.map T.r)).isSome = nb at hN1 hN2
  clear hS hR
  go_enter Try.func17, Try.ntmps17
  go_wp2_with (first | (go_at_call 18; refine hN1.mono ?_; rintro e w1 ⟨rfl, rfl⟩) | (go_at_call 38; refine hN2.mono ?_; rintro e w1 ⟨rfl, rfl⟩))
  have hrl := World.block_lt_of_cell? w _ hRc
  have kp : ∀ W, Below w.heap.size w W → W.cell? ⟨r, 1, none⟩ = some (.int .u64 st.now) := fun W hb => (hb.cell (p := ⟨r, 1, none⟩) hrl).trans hRc
  have KP := Lib.hid kp
  clear kp
  go_region_held3 (fun w' => w'.cell? ⟨r, 1, none⟩ = some (.int .u64 st.now))
    (first | go_keep | exact KP.out _ b6 | exact KP.out _ b5 | exact KP.out _ b4 | exact KP.out _ b3 | exact KP.out _ b2 | exact KP.out _ b1)
    (first
      | (go_at_call 35; (with_reducible refine (ids_len d4 hC5 (by omega) _ _).mono ?_); rintro e w6 ⟨rfl, hB6⟩; have b6 := b5.trans (hB6.mono b5.size))
      | (go_at_call 35; (with_reducible refine (ids_len d1 hC2 (by omega) _ _).mono ?_); rintro e w3 ⟨rfl, hB3⟩; have b3 := b2.trans (hB3.mono b2.size))
      | (go_at_call 39; (with_reducible refine (all_r (HR.out _ b4) hl).mono ?_); rintro e w5 ⟨A5, k5, rfl, hC5, hB5⟩; have b5 := b4.trans (hB5.mono b4.size); have d4 := hC4.below hB5)
      | (go_at_call 39; (with_reducible refine (ready_r (HR.out _ b1) hl).mono ?_); rintro e w2 ⟨A2, k2, rfl, hC2, hB2⟩; have b2 := b1.trans (hB2.mono b1.size); have d1 := hC1.below hB2)
      | (go_at_call 23; (with_reducible refine (all_s (HS.out _ b3) hc).mono ?_); rintro e w4 ⟨A4, rfl, hC4, hB4⟩; have b4 := b3.trans (hB4.mono b3.size))
      | (go_at_call 22; (with_reducible refine (ready_s (HS.out _ b0) hc).mono ?_); rintro e w1 ⟨A1, rfl, hC1, hB1⟩; have b1 := b0.trans (hB1.mono b0.size))
      | (go_at_call 13; (with_reducible refine (now_s (HS.out _ b0)).mono ?_); rintro e w1 ⟨rfl, rfl⟩))
  go_wp2
  go_ret
  exact ⟨rfl, b6⟩
end Go.Proofs.Ytlkphbcdgkjnoaa
