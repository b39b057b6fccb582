/- The reference's Next: what it finds at the front. Conditions: sizes within the reach. -/
import Derived.Test.YtlkphbcdgkjnoaaDoorB4
namespace Go.Proofs.YtlkphbcdgkjnoaaDoor
open Go.RowKit Go.Shelf

theorem ext_list (s : ByteArray) (n : Nat) : (s.extract 0 n).data.toList = s.data.toList.take n := by simp
theorem ext_size (s : ByteArray) (n : Nat) (h : n ≤ s.size) : (s.extract 0 n).size = n := by simp; omega
theorem beg_take {l : List UInt8} {k : Nat} (h1 : 1 ≤ k) (h2 : k < 3) (hl : k < l.length) (hp : ∀ i, 1 ≤ i → i < k → Pass l i) : Beg (l.take (k + 1)) ↔ Pass l k := by
  have e : ∀ i, 1 ≤ i → i < k + 1 → (Pass (l.take (k + 1)) i ↔ Pass l i) := fun i hi hi' =>
    ⟨fun h => by
      have := pass_append (m := l.drop (k + 1)) h
      rwa [List.take_append_drop] at this, fun h => pass_take hi' h⟩
  have hlen : (l.take (k + 1)).length = k + 1 := by rw [List.length_take]; omega
  unfold Beg
  rw [hlen, e 1 (by omega) (by omega)]
  obtain rfl | rfl : k = 1 ∨ k = 2 := by omega
  · simp
  · rw [e 2 (by omega) (by omega)]
    have := hp 1 (by omega) (by omega)
    simp [this]
theorem run_of {l : List UInt8} {k : Nat} (hl : l ≠ []) (h1 : 1 ≤ k) (hp : ∀ i, 1 ≤ i → i < k → Pass l i) (hn : ∀ j, 1 ≤ j → j ≤ 4 → j ≤ l.length → wholeB (l.take j) = false) (he : ¬ Pass l k ∨ k = l.length ∨ k = 3) :
    nx l = (65533, k, false) := by
  have e := nx_none hl hn
  have hr : runLen l = k := by
    rcases he with h | h | h
    · exact runLen_of h1 hp h
    · exact runLen_of h1 hp (fun p => by have := p.2.1; omega)
    · have h3 := pass_three hl (by rw [e])
      by_cases p : Pass l 3
      · subst h
        have : runLen l = 4 := by
          unfold runLen
          rw [if_neg (fun h => h (hp 1 (by omega) (by omega))), if_neg (fun h => h (hp 2 (by omega) (by omega))), if_neg (fun h => h p)]
        omega
      · subst h
        exact runLen_of h1 hp p
  rw [e, hr]

set_option maxRecDepth 100000 in
set_option maxHeartbeats 2000000 in
theorem refNext_any (s : ByteArray) (hs : s.size ≤ 140737488351232) (w : World) :
    Calls Tryd.prog 15 #[.string s] w fun e w' => e = .returned (.tuple #[.int .i32 (nx s.data.toList).1, .int .i64 (nx s.data.toList).2.1, .bool (nx s.data.toList).2.2]) ∧ Below w.heap.size w w' := by
  by_cases h0 : s.size = 0
  · have hnil : s.data.toList = [] := List.eq_nil_of_length_eq_zero h0
    have hne : s.toList.isEmpty = true := by
      rw [Lib.toList_data, hnil]
      rfl
    rw [hnil]
    clear hnil
    go_enter Tryd.func15, Tryd.ntmps15
    go_wp2
    go_ret3
    exact ⟨rfl, Below.refl _ _⟩
  · have hpos : 0 < s.size := by omega
    have hl := ne_nil_of_pos hpos
    have hne : s.toList.isEmpty = false := by
      rw [Lib.toList_data]
      cases h : s.data.toList with
      | nil => exact absurd h hl
      | cons _ _ => rfl
    go_enter Tryd.func15, Tryd.ntmps15
    go_wp2
    go_loopw [5] (fun n wr => ∃ k : Nat, 1 ≤ k ∧ k ≤ 5 ∧ n = .int .i64 k ∧ Hid (∀ j, 1 ≤ j → j < k → j ≤ s.data.toList.length → wholeB (s.data.toList.take j) = false) ∧ Below w.heap.size w wr)
      (fun n _ => 5 - (intOf n).toNat)
    case atStart => exact ⟨1, Nat.le_refl _, by omega, rfl, fun j h1 h2 => by omega, Below.refl _ _⟩
    case round =>
      obtain ⟨k, hk1, hk5, rfl, hn, hB⟩ := hrel
      by_cases hin : k ≤ 4 ∧ k ≤ s.size
      · obtain ⟨hk4, hks⟩ := hin
        have hez := ext_size s k hks
        have hw1 := whole_any (s.extract 0 k) (by omega) (by omega)
        have hv1 := value_any (s.extract 0 k) (by omega) (by omega)
        rw [ext_list] at hw1 hv1
        rw [hez] at hv1
        clear hez
        cases hw : wholeB (s.data.toList.take k)
        · rw [hw] at hw1
          go_wp2_with (go_at_call 26; refine (hw1 _).mono ?_; rintro e w1 ⟨rfl, hB1⟩)
          go_roundw
          case rel =>
            refine ⟨k + 1, by omega, by omega, by go_num, fun j h1 h2 h3 => ?_, hB.trans (hB1.mono hB.size)⟩
            by_cases e : j = k
            · rw [e, hw]
            · exact hn.out j h1 (by omega) h3
          case measure => simp [intOf]; omega
        · rw [hw] at hw1
          go_wp2_with (first | (go_at_call 26; refine (hw1 _).mono ?_; rintro e w1 ⟨rfl, hB1⟩) | (go_at_call 27; refine (hv1 _).mono ?_; rintro e w1 ⟨rfl, rfl⟩))
          go_ret3
          rw [whole_nx (by rw [length_toList]; exact hks) hw]
          exact ⟨rfl, hB.trans (hB1.mono hB.size)⟩
      · have hnone : ∀ j, 1 ≤ j → j ≤ 4 → j ≤ s.data.toList.length → wholeB (s.data.toList.take j) = false := fun j h1 h2 h3 => hn.out j h1 (by rw [length_toList] at h3; omega) h3
        have HN := Lib.hid hnone
        clear hnone hn
        have hd : (decide ((k : Int) ≤ 4) = false ∧ 4 < (k : Int)) ∨ (decide ((k : Int) ≤ 4) = true ∧ decide (k ≤ s.size) = false ∧ (s.size : Int) < k) := by
          simp only [decide_eq_false_iff_not, decide_eq_true_iff]
          omega
        obtain ⟨hd, hd'⟩ | ⟨hd, hd2, hd'⟩ := hd
        all_goals
          go_wp2
          go_loopw [6] (fun n wr => ∃ m : Nat, 1 ≤ m ∧ m ≤ 3 ∧ m ≤ s.size ∧ n = .int .i64 m ∧ Hid (∀ i, 1 ≤ i → i < m → Pass s.data.toList i) ∧ Below w.heap.size w wr) (fun n _ => 3 - (intOf n).toNat)
          case atStart => exact ⟨1, Nat.le_refl _, by omega, hpos, rfl, fun j h1 h2 => by omega, hB⟩
          case round =>
            obtain ⟨m, hm1, hm3, hms, rfl, hp, hB2⟩ := hrel
            by_cases hin2 : m < s.size ∧ m < 3
            · obtain ⟨hm, hm2⟩ := hin2
              have hez := ext_size s (m + 1) hm
              have hb1 := begins_any (s.extract 0 (m + 1)) (by omega) (by omega)
              rw [ext_list] at hb1
              clear hez
              have hbt := beg_take hm1 hm2 (by rw [length_toList]; exact hm) hp.out
              have HBT := Lib.hid hbt
              clear hbt
              by_cases hP : Pass s.data.toList m
              · rw [decide_eq_true (HBT.out.2 hP)] at hb1
                have HP := Lib.hid hP
                clear hP
                go_wp2_with (go_at_call 28; refine (hb1 _).mono ?_; rintro e w1 ⟨rfl, hB1⟩)
                go_roundw
                case rel =>
                  refine ⟨m + 1, by omega, by omega, by omega, by go_num, fun j h1 h2 => ?_, hB2.trans (hB1.mono hB2.size)⟩
                  by_cases e : j = m
                  · rw [e]; exact HP.out
                  · exact hp.out j h1 (by omega)
                case measure => simp [intOf]; omega
              · rw [decide_eq_false (fun h => hP (HBT.out.1 h))] at hb1
                go_wp2_with (go_at_call 28; refine (hb1 _).mono ?_; rintro e w1 ⟨rfl, hB1⟩)
                go_ret3
                rw [run_of hl hm1 hp.out HN.out (.inl hP)]
                exact ⟨rfl, hB2.trans (hB1.mono hB2.size)⟩
            · have hend : m = s.data.toList.length ∨ m = 3 := by rw [length_toList]; omega
              have HE := Lib.hid hend
              clear hend
              go_wp2
              all_goals
                go_ret3
                rw [run_of hl hm1 hp.out HN.out (.inr HE.out)]
                exact ⟨rfl, hB2⟩
end Go.Proofs.YtlkphbcdgkjnoaaDoor
