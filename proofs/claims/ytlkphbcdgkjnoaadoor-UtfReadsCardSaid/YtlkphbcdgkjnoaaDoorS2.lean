/- Plain laws of what stands in bytes: a whole front is read alike whatever follows; a valid text in front of another; a valid text cut off. No program in sight. -/
import Derived.Test.YtlkphbcdgkjnoaaDoorS1
namespace Go.Proofs.YtlkphbcdgkjnoaaDoor

theorem bt_append {l m : List UInt8} {j : Nat} (h : j < l.length) : bt (l ++ m) j = bt l j := by
  unfold bt
  simp [List.getElem?_append_left h]
theorem pass_append {l m : List UInt8} {j : Nat} (h : Pass l j) : Pass (l ++ m) j := by
  obtain ⟨h1, h2, h3, h4⟩ := h
  have h0 : bt (l ++ m) 0 = bt l 0 := bt_append (by omega)
  refine ⟨by rw [h0]; exact h1, by rw [List.length_append]; omega, ?_, ?_⟩
  · unfold loAt at h3 ⊢
    rw [bt_append h2, h0]
    exact h3
  · unfold hiAt at h4 ⊢
    rw [bt_append h2, h0]
    exact h4
theorem pass_of_runLen {l : List UInt8} {i : Nat} (h1 : 1 ≤ i) (h : i < runLen l) : Pass l i := by
  unfold runLen at h
  split at h
  · omega
  · rename_i p1
    have p1 := Decidable.not_not.1 p1
    split at h
    · obtain rfl : i = 1 := by omega
      exact p1
    · rename_i p2
      have p2 := Decidable.not_not.1 p2
      split at h
      · obtain rfl | rfl : i = 1 ∨ i = 2 := by omega
        · exact p1
        · exact p2
      · rename_i p3
        have p3 := Decidable.not_not.1 p3
        obtain rfl | rfl | rfl : i = 1 ∨ i = 2 ∨ i = 3 := by omega
        · exact p1
        · exact p2
        · exact p3
theorem nx_whole_iff {l : List UInt8} (h : l ≠ []) : (nx l).2.2 = true ↔ (runLen l : Int) = lenOf (bt l 0) := by
  unfold nx
  rw [if_neg h]
  split <;> simp [*]
theorem runLen_append {l m : List UInt8} (h : l ≠ []) (hw : (nx l).2.2 = true) : runLen (l ++ m) = runLen l := by
  have hw := (nx_whole_iff h).1 hw
  have hl := runLen_le h
  refine runLen_of (runLen_pos l) (fun i h1 h2 => pass_append (pass_of_runLen h1 h2)) ?_
  rintro ⟨p1, _⟩
  rw [bt_append (List.length_pos_iff.2 h)] at p1
  omega
theorem val_append {l m : List UInt8} {k : Nat} (h1 : 1 ≤ k) (hk : k ≤ l.length) : val (l ++ m) k = val l k := by
  unfold val
  rw [bt_append (show 0 < l.length by omega)]
  by_cases h2 : k = 1
  · rw [if_pos h2, if_pos h2]
  · rw [if_neg h2, if_neg h2, bt_append (show 1 < l.length by omega)]
    by_cases h3 : k = 2
    · rw [if_pos h3, if_pos h3]
    · rw [if_neg h3, if_neg h3, bt_append (show 2 < l.length by omega)]
      by_cases h4 : k = 3
      · rw [if_pos h4, if_pos h4]
      · rw [if_neg h4, if_neg h4]
        by_cases h5 : 3 < l.length
        · rw [bt_append h5]
        · omega
theorem nx_append {l m : List UInt8} (h : l ≠ []) (hw : (nx l).2.2 = true) : nx (l ++ m) = nx l := by
  have hne : l ++ m ≠ [] := by simp [h]
  have hr := runLen_append (m := m) h hw
  have hi := (nx_whole_iff h).1 hw
  have h0 : bt (l ++ m) 0 = bt l 0 := bt_append (List.length_pos_iff.2 h)
  rw [nx_good hne hr (by rw [h0]; exact hi), nx_good h rfl hi, val_append (runLen_pos l) (runLen_le h)]

theorem drop_append_front {l m : List UInt8} {k : Nat} (hk : k ≤ l.length) : (l ++ m).drop k = l.drop k ++ m := List.drop_append_of_le_length hk
/-- Of two texts one behind the other, the first valid: what stands there is what stands in both. -/
theorem decL_append (a b : List UInt8) (hv : valL a = true) : decL (a ++ b) = decL a ++ decL b := by
  by_cases h : a = []
  · subst h
    rw [decL_nil]
    rfl
  · rw [valL_cons h] at hv
    obtain ⟨hw, hv⟩ := Bool.and_eq_true_iff.1 hv
    have hne : a ++ b ≠ [] := by simp [h]
    rw [decL_cons hne, decL_cons h, nx_append h hw, drop_append_front (nx_le h).2, decL_append _ b hv]
    rfl
termination_by a.length
decreasing_by exact nx_drop_lt h
theorem valL_append (a b : List UInt8) (hv : valL a = true) : valL (a ++ b) = valL b := by
  by_cases h : a = []
  · subst h
    rfl
  · rw [valL_cons h] at hv
    obtain ⟨hw, hv⟩ := Bool.and_eq_true_iff.1 hv
    have hne : a ++ b ≠ [] := by simp [h]
    rw [valL_cons hne, nx_append h hw, drop_append_front (nx_le h).2, valL_append _ b hv, hw]
    rfl
termination_by a.length
decreasing_by exact nx_drop_lt h

theorem bt_take {l : List UInt8} {j n : Nat} (h : j < n) : bt (l.take n) j = bt l j := by
  unfold bt
  simp [List.getElem?_take, h]
theorem pass_take {l : List UInt8} {j n : Nat} (hj : j < n) (h : Pass l j) : Pass (l.take n) j := by
  obtain ⟨h1, h2, h3, h4⟩ := h
  have h0 : bt (l.take n) 0 = bt l 0 := bt_take (by omega)
  refine ⟨by rw [h0]; exact h1, by rw [List.length_take]; omega, ?_, ?_⟩
  · unfold loAt at h3 ⊢
    rw [bt_take hj, h0]
    exact h3
  · unfold hiAt at h4 ⊢
    rw [bt_take hj, h0]
    exact h4
/-- A front that is cut through stands as the sign, as long as what is left of it. -/
theorem nx_cut {l : List UInt8} {n : Nat} (h : l ≠ []) (hw : (nx l).2.2 = true) (h0 : 0 < n) (hn : n < runLen l) : nx (l.take n) = (65533, n, false) := by
  have hi := (nx_whole_iff h).1 hw
  have hl := runLen_le h
  have hlen : (l.take n).length = n := by rw [List.length_take]; omega
  have hne : l.take n ≠ [] := List.length_pos_iff.1 (by omega)
  have hr : runLen (l.take n) = n := by
    refine runLen_of (by omega) (fun i h1 h2 => pass_take h2 (pass_of_runLen h1 (by omega))) ?_
    rintro ⟨_, p2, _⟩
    omega
  refine nx_bad hne hr ?_
  rw [bt_take h0]
  omega
theorem nx_take {l : List UInt8} {n : Nat} (h : l ≠ []) (hw : (nx l).2.2 = true) (hn : runLen l ≤ n) : nx (l.take n) = nx l := by
  have hi := (nx_whole_iff h).1 hw
  have hl := runLen_le h
  have hp := runLen_pos l
  have hne : l.take n ≠ [] := List.length_pos_iff.1 (by rw [List.length_take]; omega)
  have h0 : bt (l.take n) 0 = bt l 0 := bt_take (by omega)
  have hr : runLen (l.take n) = runLen l := by
    refine runLen_of hp (fun i h1 h2 => pass_take (by omega) (pass_of_runLen h1 h2)) ?_
    rintro ⟨p1, _⟩
    rw [h0] at p1
    omega
  have hw' : (nx (l.take n)).2.2 = true := (nx_whole_iff hne).2 (by rw [hr, h0]; exact hi)
  have := nx_append (m := l.drop n) hne hw'
  rw [List.take_append_drop] at this
  exact this.symm
/-- A valid text that is cut off anywhere is read up to there as it was, with one sign at most for what was cut through. -/
theorem decL_take (l : List UInt8) (n : Nat) (hv : valL l = true) :
    (∃ k, decL (l.take n) = (decL l).take k) ∨ (∃ k, k < (decL l).length ∧ decL (l.take n) = (decL l).take k ++ [65533] ∧ valL (l.take n) = false) := by
  by_cases h : l = []
  · subst h
    left
    exact ⟨0, by rw [List.take_nil, decL_nil, List.take_nil]⟩
  · rw [valL_cons h] at hv
    obtain ⟨hw, hv⟩ := Bool.and_eq_true_iff.1 hv
    have hwd := nx_width h
    by_cases h0 : n = 0
    · subst h0
      exact .inl ⟨0, by rw [List.take_zero, decL_nil, List.take_zero]⟩
    · by_cases hn : runLen l ≤ n
      · have hx := nx_take h hw hn
        have hlt := runLen_le h
        have hp := runLen_pos l
        have hne : l.take n ≠ [] := List.length_pos_iff.1 (by rw [List.length_take]; omega)
        have e1 : decL (l.take n) = (nx l).1 :: decL ((l.drop (nx l).2.1).take (n - (nx l).2.1)) := by
          rw [decL_cons hne, hx, List.drop_take]
        have e2 : valL (l.take n) = valL ((l.drop (nx l).2.1).take (n - (nx l).2.1)) := by
          rw [valL_cons hne, hx, List.drop_take, hw, Bool.true_and]
        rcases decL_take (l.drop (nx l).2.1) (n - (nx l).2.1) hv with ⟨k, hk⟩ | ⟨k, hlt, hk, hf⟩
        · refine .inl ⟨k + 1, ?_⟩
          rw [e1, hk, decL_cons h, List.take_succ_cons]
        · refine .inr ⟨k + 1, ?_, ?_, ?_⟩
          · rw [decL_cons h, List.length_cons]; omega
          · rw [e1, hk, decL_cons h, List.take_succ_cons]; rfl
          · rw [e2]; exact hf
      · have hx := nx_cut (n := n) h hw (by omega) (by omega)
        have hlt := runLen_le h
        have hne : l.take n ≠ [] := List.length_pos_iff.1 (by rw [List.length_take]; omega)
        have hd : (l.take n).drop n = [] := by
          apply List.drop_eq_nil_of_le
          rw [List.length_take]
          omega
        refine .inr ⟨0, ?_, ?_, ?_⟩
        · rw [decL_cons h, List.length_cons]; omega
        · rw [decL_cons hne, hx, List.take_zero]
          simp only [hd, decL_nil, List.nil_append]
        · rw [valL_cons hne, hx]
          rfl
termination_by l.length
decreasing_by exact nx_drop_lt h
end Go.Proofs.YtlkphbcdgkjnoaaDoor
