/- up: one rises as far as it may. -/
import Derived.Test.YtlkphbcdgkjnoaaM10
import Derived.Test.YtlkphbcdgkjnoaaS2
namespace Go.Proofs.Ytlkphbcdgkjnoaa
open Go.RowKit Go.Maps

/-- The heap's row: at place i the handler in block h i. -/
def Hrow (W : World) (g cap : Nat) (h : Nat → Nat) (n : Nat) : Prop := ∃ cur, Blk W g 60 cur ∧ cur.size = cap ∧ ∀ i, i < n → cur[i]? = some (ptr (h i))
theorem Hrow.cell {W : World} {g cap n : Nat} {h : Nat → Nat} (H : Hrow W g cap h n) {i : Nat} (hi : i < n) : W.cell? ⟨g, i, none⟩ = some (ptr (h i)) := by
  obtain ⟨cur, hb, _, hc⟩ := H
  exact hb.cell i (hc i hi)
theorem Hrow.frozen {W : World} {g cap n : Nat} {h : Nat → Nat} (H : Hrow W g cap h n) (i : Nat) : W.frozen? ⟨g, i, none⟩ = false := by
  obtain ⟨cur, hb, _⟩ := H
  exact hb.frozen i
theorem Hrow.swap {W : World} {g cap n : Nat} {h : Nat → Nat} (H : Hrow W g cap h n) {i p : Nat} (hi : i < n) (hp : p < n) : Hrow ((W.setCell ⟨g, i, none⟩ (ptr (h p))).setCell ⟨g, p, none⟩ (ptr (h i))) g cap (swp h i p) n := by
  obtain ⟨cur, hb, hs, hc⟩ := H
  refine ⟨_, (hb.set i _).set p _, by simpa using hs, fun k hk => ?_⟩
  have li := (Array.getElem?_eq_some_iff.1 (hc i hi)).1
  have lp := (Array.getElem?_eq_some_iff.1 (hc p hp)).1
  rw [Array.getElem?_setIfInBounds, Array.getElem?_setIfInBounds, Array.size_setIfInBounds]
  unfold swp
  by_cases e : p = k
  · subst e
    rw [if_pos rfl, if_pos lp]
    by_cases e2 : p = i
    · subst e2
      rw [if_pos rfl]
    · rw [if_neg e2, if_pos rfl]
  · rw [if_neg e]
    by_cases e2 : i = k
    · subst e2
      rw [if_pos rfl, if_pos li, if_pos rfl]
    · rw [if_neg e2, if_neg (fun x => e2 x.symm), if_neg (fun x => e x.symm)]
      exact hc k hk

/-- The same handlers, in another order. -/
structure Same (h h' : Nat → Nat) (n : Nat) : Prop where
  out : ∀ i, i < n → ∃ j, j < n ∧ h' i = h j
  inn : ∀ j, j < n → ∃ i, i < n ∧ h' i = h j
  inj : (∀ i j, i < n → j < n → h i = h j → i = j) → ∀ i j, i < n → j < n → h' i = h' j → i = j
theorem Same.refl (h : Nat → Nat) (n : Nat) : Same h h n := ⟨fun i hi => ⟨i, hi, rfl⟩, fun i hi => ⟨i, hi, rfl⟩, fun H => H⟩
theorem Same.trans {h h' h'' : Nat → Nat} {n : Nat} (a : Same h h' n) (b : Same h' h'' n) : Same h h'' n :=
  ⟨fun i hi => by
    obtain ⟨j, hj, e⟩ := b.out i hi
    obtain ⟨k, hk, e'⟩ := a.out j hj
    exact ⟨k, hk, e.trans e'⟩, fun j hj => by
    obtain ⟨i, hi, e⟩ := a.inn j hj
    obtain ⟨k, hk, e'⟩ := b.inn i hi
    exact ⟨k, hk, e'.trans e⟩, fun H => b.inj (a.inj H)⟩
theorem Same.swap (h : Nat → Nat) {n i p : Nat} (hi : i < n) (hp : p < n) : Same h (swp h i p) n := by
  refine ⟨fun k hk => ?_, fun k hk => ?_, fun H a b ha hb e => ?_⟩
  · unfold swp
    by_cases e : k = i
    · exact ⟨p, hp, by rw [if_pos e]⟩
    · rw [if_neg e]
      by_cases e' : k = p
      · exact ⟨i, hi, by rw [if_pos e']⟩
      · exact ⟨k, hk, by rw [if_neg e']⟩
  · unfold swp
    by_cases e : k = p
    · exact ⟨i, hi, by rw [if_pos rfl, e]⟩
    · by_cases e' : k = i
      · subst e'
        by_cases e2 : p = k
        · exact absurd e2.symm e
        · exact ⟨p, hp, by rw [if_neg e2, if_pos rfl]⟩
      · exact ⟨k, hk, by rw [if_neg e', if_neg e]⟩
  · unfold swp at e
    by_cases a1 : a = i <;> by_cases b1 : b = i
    · omega
    · rw [if_pos a1, if_neg b1] at e
      by_cases b2 : b = p
      · rw [if_pos b2] at e
        have := H _ _ hp hi e
        omega
      · rw [if_neg b2] at e
        have := H _ _ hp hb e
        omega
    · rw [if_neg a1, if_pos b1] at e
      by_cases a2 : a = p
      · rw [if_pos a2] at e
        have := H _ _ hi hp e
        omega
      · rw [if_neg a2] at e
        have := H _ _ ha hp e
        omega
    · rw [if_neg a1, if_neg b1] at e
      by_cases a2 : a = p <;> by_cases b2 : b = p
      · omega
      · rw [if_pos a2, if_neg b2] at e
        have := H _ _ hi hb e
        omega
      · rw [if_neg a2, if_pos b2] at e
        have := H _ _ ha hi e
        omega
      · rw [if_neg a2, if_neg b2] at e
        exact H _ _ ha hb e

/-- The order of two handlers, by what they bear. -/
def leK (key : Nat → Int × Int) (b c : Nat) : Prop := ahd (key c).1 (key c).2 (key b).1 (key b).2 = false
theorem ordK (key : Nat → Int × Int) : Ord (leK key) := by
  constructor
  · intro a b c h1 h2
    unfold leK ahd at *
    simp at *
    omega
  · intro a
    unfold leK ahd
    simp
theorem leK_of_ahd {key : Nat → Int × Int} {b c : Nat} (h : ahd (key b).1 (key b).2 (key c).1 (key c).2 = true) : leK key b c := by
  unfold leK ahd at *
  simp at *
  omega

/-- What they bear stands in memory. -/
def Keys (W : World) (key : Nat → Int × Int) (g : Nat) (h : Nat → Nat) (n : Nat) : Prop :=
  ∀ i, i < n → h i ≠ g ∧ W.cell? ⟨h i, 4, none⟩ = some (.int .u64 (key (h i)).1) ∧ W.cell? ⟨h i, 1, none⟩ = some (.int .u64 (key (h i)).2)
theorem Keys.same {W : World} {key : Nat → Int × Int} {g n : Nat} {h h' : Nat → Nat} (K : Keys W key g h n) (s : Same h h' n) : Keys W key g h' n := fun i hi => by
  obtain ⟨j, hj, e⟩ := s.out i hi
  rw [e]
  exact K j hj
theorem Keys.kept {W W' : World} {key : Nat → Int × Int} {g n : Nat} {h : Nat → Nat} (K : Keys W key g h n) (hg : W.grownBy W' (some g)) : Keys W' key g h n := fun i hi => by
  obtain ⟨h1, h2, h3⟩ := K i hi
  have hb : W'.heap[h i]? = W.heap[h i]? := hg.block (h i) (World.block_lt_of_cell? W _ h2) (by simpa using h1)
  exact ⟨h1, (World.cell?_of_block (a := ⟨h i, 4, none⟩) hb).trans h2, (World.cell?_of_block (a := ⟨h i, 1, none⟩) hb).trans h3⟩
theorem grown_trans {w W W' : World} {g : Nat} (a : w.grownBy W (some g)) (b : W.grownBy W' (some g)) : w.grownBy W' (some g) :=
  ⟨b.os.trans a.os, b.tape.trans a.tape, b.output.trans a.output, Nat.le_trans a.size b.size, fun k hk hn => (b.block k (Nat.lt_of_lt_of_le hk a.size) hn).trans (a.block k hk hn)⟩
theorem grown_drewG (w : World) (n g : Nat) : w.grownBy (w.drewN n) (some g) := ⟨rfl, rfl, rfl, Nat.le_refl _, fun _ _ _ => rfl⟩

set_option maxRecDepth 100000 in
set_option maxHeartbeats 4000000 in
theorem up_any {w : World} {g cap n i : Nat} {h : Nat → Nat} {key : Nat → Int × Int} (hrow : Hrow w g cap h n) (hi : i < n) (hn : n ≤ 1000000) (hc : n ≤ cap) (K : Keys w key g h n) (H : HeapHole (leK key) h n i) :
    Calls Try.prog 28 #[.slice (some ⟨g, 0, none⟩) n cap, .int .i64 i] w fun e w' => e = .returned (.tuple #[]) ∧ w.grownBy w' (some g) ∧ ∃ h', Hrow w' g cap h' n ∧ Same h h' n ∧ (Heap (leK key) h' n ∨ (h' = h ∧ (i = 0 ∨ leK key (h ((i - 1) / 2)) (h i)))) := by
  go_enter Try.func28, Try.ntmps28
  go_wp2
  go_loopw [1] (fun iv wr => ∃ (k : Nat) (h' : Nat → Nat), iv = .int .i64 k ∧ k < n ∧ Hrow wr g cap h' n ∧ Same h h' n ∧ w.grownBy wr (some g) ∧ ((h' = h ∧ k = i) ∨ HeapBut (leK key) h' n k)) (fun iv _ => (intOf iv).toNat)
  case atStart => exact ⟨i, h, rfl, hi, hrow, Same.refl _ _, ⟨rfl, rfl, rfl, Nat.le_refl _, fun _ _ _ => rfl⟩, .inl ⟨rfl, rfl⟩⟩
  case round =>
    obtain ⟨k, h', rfl, hkn, hR, hS, hG, hH⟩ := hrel
    have hHole : HeapHole (leK key) h' n k := by
      rcases hH with ⟨e1, e2⟩ | hH
      · rw [e1, e2]; exact H
      · exact hH.hole
    have HH := Lib.hid hH
    by_cases hk0 : k = 0
    · subst hk0
      have hg0 : decide ((0 : Int) < ((0 : Nat) : Int)) = false := by decide
      clear hH
      go_wp2
      go_quiet (fail)
      go_wp2
      go_end0
      refine ⟨rfl, grown_trans hG (grown_drewG _ _ _), h', hR, hS, ?_⟩
      rcases HH.out with ⟨e1, e2⟩ | hH
      · exact .inr ⟨e1, .inl e2.symm⟩
      · exact .inl (hH.done (.inl rfl))
    · obtain ⟨p, hp⟩ : ∃ p, (k - 1) / 2 = p := ⟨_, rfl⟩
      have hpk : p < k := by omega
      have hq : ((k : Int) - 1).tdiv 2 = (p : Int) := by
        rw [Int.tdiv_eq_ediv_of_nonneg (by omega)]
        omega
      have hw1 : IntKind.i64.wrap ((k : Int) - 1) = (k : Int) - 1 := IntWalk.i64_in _ (by omega)
      have hw2 : IntKind.i64.wrap (p : Int) = (p : Int) := IntWalk.i64_in _ (by omega)
      have hg1 : decide (0 < k) = true := by simp; omega
      have K' := (K.same hS).kept hG
      obtain ⟨kn, kc4, kc1⟩ := K' k hkn
      obtain ⟨pn, pc4, pc1⟩ := K' p (by omega)
      have rk := hR.cell hkn
      have rp := hR.cell (show p < n by omega)
      have b1 : (k : Int) < n := by omega
      have b2 : (p : Int) < n := by omega
      have b3 : p < n := by omega
      have ha := ahead_any kc4 kc1 pc4 pc1
      clear hH
      cases hah : ahd (key (h' k)).1 (key (h' k)).2 (key (h' p)).1 (key (h' p)).2
      · rw [hah] at ha
        clear ha
        go_wp2
        go_quiet ((go_at_call 44; refine Calls.quiet_of (v := .bool false) ((ahead_any (w := wr.drewN _) kc4 kc1 pc4 pc1).mono (fun e w' hx => ⟨by rw [hx.1, hah], hx.2⟩))))
        go_wp2
        go_end0
        refine ⟨rfl, grown_trans hG (grown_drewG _ _ _), h', hR, hS, ?_⟩
        have hle : leK key (h' ((k - 1) / 2)) (h' k) := by rw [hp]; exact hah
        rcases HH.out with ⟨e1, e2⟩ | hH
        · subst e2
          rw [e1] at hle
          exact .inr ⟨e1, .inr hle⟩
        · exact .inl (hH.done (.inr hle))
      · rw [hah] at ha
        clear ha
        go_wp2
        go_quiet ((go_at_call 44; refine Calls.quiet_of (v := .bool true) ((ahead_any (w := wr.drewN _) kc4 kc1 pc4 pc1).mono (fun e w' hx => ⟨by rw [hx.1, hah], hx.2⟩))))
        go_wp2
        have hR1 : Hrow (wr.drewN nq) g cap h' n := hR
        have hG1 := grown_trans hG (grown_drewG wr nq g)
        obtain ⟨W1, hW1⟩ : ∃ W1, wr.drewN nq = W1 := ⟨_, rfl⟩
        rw [hW1] at hR1 hG1 ⊢
        have rk1 := hR1.cell hkn
        have rp1 := hR1.cell b3
        have fk1 := hR1.frozen k
        have fp1 := hR1.frozen p
        have hR2 := hR1.swap hkn b3
        have hne : k ≠ p := by omega
        clear hW1 hR rk rp kc4 kc1 pc4 pc1 K'
        have hup := hHole.up (ordK key) (by omega) hkn (by rw [hp]; exact leK_of_ahd hah)
        rw [hp] at hup
        have HU := Lib.hid hup
        clear hup hHole
        go_region
        have hG2 : w.grownBy (((W1.setCell ⟨g, k, none⟩ (ptr (h' p))).setCell ⟨g, p, none⟩ (ptr (h' k))).drew) (some g) :=
          grown_trans (grown_trans (grown_trans hG1 (grownBy_set W1 g k _)) (grownBy_set _ g p _)) (grown_drewG _ 1 _)
        have hS2 := hS.trans (Same.swap h' hkn b3)
        clear rk1 rp1 fk1 fp1
        go_wp2
        go_roundw
        case rel => exact ⟨p, swp h' k p, by go_num, b3, hR2, hS2, hG2, .inr HU.out⟩
        case measure => simp [intOf]; omega
end Go.Proofs.Ytlkphbcdgkjnoaa
