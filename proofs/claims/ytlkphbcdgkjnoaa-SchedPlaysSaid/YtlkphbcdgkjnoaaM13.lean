/- Index, without: one is taken out of the heap. -/
import Derived.Test.YtlkphbcdgkjnoaaM12
namespace Go.Proofs.Ytlkphbcdgkjnoaa
open Go.RowKit Go.Maps

theorem Try.inf62s : (Try.prog.info? 62).map (fun i => i.size) = some 6 := by kernel_rfl

set_option maxHeartbeats 1000000 in
theorem index_any {w : World} {g cap n j : Nat} {h : Nat → Nat} (hR : Hrow w g cap h n) (hj : j < n) (hn : n ≤ 1000000) (hf : ∀ i, i < j → h i ≠ h j) (hB : ∀ i, i < n → ∃ vs, Blk w (h i) 62 vs) :
    Calls Try.prog 47 #[.slice (some ⟨g, 0, none⟩) n cap, ptr (h j)] w fun e w' => e = .returned (.int .i64 j) ∧ w' = w := by
  have hi := Try.inf62s
  rw [Option.map_eq_some_iff] at hi
  obtain ⟨i0, hi, hsz⟩ := hi
  have hsz' : i0.size ≠ 0 := by omega
  have hpe := run_eql_ptr_same (P := Try.prog) w (⟨h j, 0, none⟩ : Addr) Try.und60 hi
  obtain ⟨vj, hvj⟩ := hB j hj
  have hbase : ∀ i, i < j → (binOp .eql 60 (ptr (h j)) (ptr (h i))).run Try.prog w = .ok (.bool false) w := fun i hi' => by
    obtain ⟨vi, hvi⟩ := hB i (by omega)
    exact run_eql_ptr_other w Try.und60 hi hsz' (fun e => hf i hi' (by injection e with e; exact e.symm)) hvj hvi
  have HBS := Lib.hid hbase
  clear hbase hsz hsz' hi
  go_enter Try.func47, Try.ntmps47
  go_wp2
  go_loopw [8] (fun iv wr => ∃ k : Nat, iv = .int .i64 k ∧ k ≤ j ∧ wr = w) (fun iv _ => j - (intOf iv).toNat)
  case atStart => exact ⟨0, rfl, Nat.zero_le _, rfl⟩
  case round =>
    obtain ⟨k, rfl, hk, rfl⟩ := hrel
    have rk := hR.cell (show k < n by omega)
    have b1 : (k : Int) < n := by omega
    have b2 : k < n := by omega
    by_cases hlt : k < j
    · have hne := HBS.out k hlt
      go_wp2
      go_roundw
      case rel => exact ⟨k + 1, by go_num, by omega, by trivial⟩
      case measure => simp [intOf]; omega
    · obtain rfl : k = j := by omega
      go_wp2
      go_ret
      exact ⟨rfl, rfl⟩

/-- What is left when one is taken out. -/
structure Left (h h' : Nat → Nat) (n j : Nat) : Prop where
  out : ∀ i, i < n - 1 → ∃ k, k < n ∧ k ≠ j ∧ h' i = h k
  inn : ∀ k, k < n → k ≠ j → ∃ i, i < n - 1 ∧ h' i = h k
  inj : (∀ i k, i < n → k < n → h i = h k → i = k) → ∀ i k, i < n - 1 → k < n - 1 → h' i = h' k → i = k
/-- The last one in the place of one. -/
def put (h : Nat → Nat) (n j : Nat) : Nat → Nat := fun i => if i = j then h (n - 1) else h i
theorem left_put {h : Nat → Nat} {n j : Nat} (hj : j < n) : Left h (put h n j) n j := by
  refine ⟨fun i hi => ?_, fun k hk hkj => ?_, fun H a b ha hb e => ?_⟩
  · unfold put
    by_cases e : i = j
    · exact ⟨n - 1, by omega, by omega, by rw [if_pos e]⟩
    · exact ⟨i, by omega, e, by rw [if_neg e]⟩
  · unfold put
    by_cases e : k = n - 1
    · exact ⟨j, by omega, by rw [if_pos rfl, e]⟩
    · exact ⟨k, by omega, by rw [if_neg hkj]⟩
  · unfold put at e
    by_cases a1 : a = j <;> by_cases b1 : b = j
    · omega
    · rw [if_pos a1, if_neg b1] at e
      have := H _ _ (by omega) (by omega) e
      omega
    · rw [if_neg a1, if_pos b1] at e
      have := H _ _ (by omega) (by omega) e
      omega
    · rw [if_neg a1, if_neg b1] at e
      exact H _ _ (by omega) (by omega) e
theorem Left.same {h h' h'' : Nat → Nat} {n j : Nat} (a : Left h h' n j) (b : Same h' h'' (n - 1)) : Left h h'' n j :=
  ⟨fun i hi => by
    obtain ⟨k, hk, e⟩ := b.out i hi
    obtain ⟨k', h1, h2, e'⟩ := a.out k hk
    exact ⟨k', h1, h2, e.trans e'⟩, fun k hk hkj => by
    obtain ⟨i, hi, e⟩ := a.inn k hk hkj
    obtain ⟨i', hi', e'⟩ := b.inn i hi
    exact ⟨i', hi', e'.trans e⟩, fun H => b.inj (a.inj H)⟩
theorem hole_put {le : Nat → Nat → Prop} (O : Ord le) {h : Nat → Nat} {n j : Nat} (H : Heap le h n) (hj : j < n - 1) : HeapHole le (put h n j) (n - 1) j := by
  constructor
  · intro i h0 h1 h2 h3
    unfold put
    rw [if_neg h2, if_neg h3]
    exact H i h0 (by omega)
  · intro i h0 h1 h2 h3
    unfold put
    rw [if_neg (by omega), if_neg (by omega)]
    have a := H j h3 (by omega)
    have b := H i h0 (by omega)
    rw [h2] at b
    exact O.trans _ _ _ a b
theorem heap_less {le : Nat → Nat → Prop} {h : Nat → Nat} {n : Nat} (H : Heap le h n) : Heap le h (n - 1) := fun j h0 h1 => H j h0 (by omega)

theorem Hrow.put {W : World} {g cap n : Nat} {h : Nat → Nat} (H : Hrow W g cap h n) {j : Nat} (hj : j < n) : Hrow ((W.setCell ⟨g, j, none⟩ (ptr (h (n - 1)))).setCell ⟨g, n - 1, none⟩ (.pointer none)) g cap (put h n j) (n - 1) := by
  obtain ⟨cur, hb, hs, hc⟩ := H
  refine ⟨_, (hb.set j _).set (n - 1) _, by simpa using hs, fun k hk => ?_⟩
  have lj := (Array.getElem?_eq_some_iff.1 (hc j hj)).1
  rw [Array.getElem?_setIfInBounds, Array.getElem?_setIfInBounds, Array.size_setIfInBounds]
  unfold Go.Proofs.Ytlkphbcdgkjnoaa.put
  rw [if_neg (by omega)]
  by_cases e : j = k
  · subst e
    rw [if_pos rfl, if_pos lj, if_pos rfl]
  · rw [if_neg e, if_neg (fun x => e x.symm)]
    exact hc k (by omega)

set_option maxRecDepth 100000 in
set_option maxHeartbeats 4000000 in
theorem without_any {w : World} {g cap l j : Nat} {h : Nat → Nat} {key : Nat → Int × Int} (hR : Hrow w g cap h (l + 1)) (hj : j < l + 1) (hn : l + 1 ≤ 1000000) (hc : l + 1 ≤ cap) (hc2 : cap ≤ maxLen) (hf : ∀ i, i < j → h i ≠ h j) (hB : ∀ i, i < l + 1 → ∃ vs, Blk w (h i) 62 vs) (K : Keys w key g h (l + 1)) (H : Heap (leK key) h (l + 1)) :
    Calls Try.prog 43 #[.slice (some ⟨g, 0, none⟩) (l + 1) cap, ptr (h j)] w fun e w' => e = .returned (.slice (some ⟨g, 0, none⟩) l cap) ∧ w.grownBy w' (some g) ∧ ∃ h', Hrow w' g cap h' l ∧ Left h h' (l + 1) j ∧ Heap (leK key) h' l := by
  have hI := index_any hR hj hn hf hB
  have rj := hR.cell hj
  have rl := hR.cell (show l < l + 1 by omega)
  have fj := hR.frozen j
  have fl := hR.frozen l
  have hP := hR.put hj
  have HL := left_put (h := h) hj
  simp only [Nat.add_sub_cancel] at hP
  have G0 : w.grownBy ((w.setCell ⟨g, j, none⟩ (ptr (h l))).setCell ⟨g, l, none⟩ (.pointer none)) (some g) := grown_trans (grownBy_set w g j _) (grownBy_set _ g l _)
  have KP : Keys ((w.setCell ⟨g, j, none⟩ (ptr (h l))).setCell ⟨g, l, none⟩ (.pointer none)) key g (put h (l + 1) j) l := Keys.kept (fun i hi => by
    obtain ⟨k, hk, _, e⟩ := HL.out i (by simpa using hi)
    rw [e]
    exact K k hk) G0
  have hle : l ≤ cap := by omega
  unfold maxLen at hc2
  obtain ⟨w1, hw1⟩ : ∃ w1, (w.setCell ⟨g, j, none⟩ (ptr (h l))).setCell ⟨g, l, none⟩ (.pointer none) = w1 := ⟨_, rfl⟩
  rw [hw1] at hP G0 KP
  by_cases hlt : j < l
  · have HH : HeapHole (leK key) (put h (l + 1) j) l j := hole_put (n := l + 1) (ordK key) H hlt
    have hU := up_any (cap := cap) hP hlt (by omega) (by omega) KP HH
    have HHH := Lib.hid HH
    have HLH := Lib.hid HL
    have b1 : (j : Int) < l := by omega
    clear HH HL
    go_enter Try.func43, Try.ntmps43
    go_wp2_with (first | (go_at_call 47; refine hI.mono ?_; rintro e w2 ⟨rfl, rfl⟩) | (go_at_call 28; refine hU.mono ?_; rintro e w2 ⟨rfl, g2, h2, hR2, hS2, hh2⟩))
    have K2 := (KP.same hS2).kept g2
    have hT2 : HeapTop (leK key) h2 l j := by
      rcases hh2 with hh | ⟨rfl, hh⟩
      · exact hh.top (ordK key) j
      · exact HHH.out.top hh
    have hD := down_any (cap := cap) hR2 hlt (by omega) (by omega) K2 hT2
    clear hw1 hU hI hh2 hT2 K2
    go_wp2_with (go_at_call 48; refine hD.mono ?_; rintro e w3 ⟨rfl, g3, h3, hR3, hS3, hh3⟩)
    go_ret
    exact ⟨rfl, grown_trans G0 (grown_trans g2 g3), h3, hR3, HLH.out.same (by simpa using hS2.trans hS3), hh3⟩
  · have hjl : j = l := by omega
    subst hjl
    have hh : Heap (leK key) (put h (j + 1) j) j := fun k h0 h1 => by
      unfold put
      rw [if_neg (by omega), if_neg (by omega)]
      exact H k h0 (by omega)
    have HHH := Lib.hid hh
    have HLH := Lib.hid HL
    clear hh HL
    go_enter Try.func43, Try.ntmps43
    go_wp2_with (first | (go_at_call 47; refine hI.mono ?_; rintro e w2 ⟨rfl, rfl⟩))
    go_ret
    exact ⟨rfl, G0, _, hP, HLH.out, HHH.out⟩
end Go.Proofs.Ytlkphbcdgkjnoaa
