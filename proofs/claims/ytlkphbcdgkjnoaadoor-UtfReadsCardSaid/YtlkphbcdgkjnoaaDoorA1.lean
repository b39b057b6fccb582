/- The small functions of the seat: what each call returns. Conditions: none beyond the types' ranges. -/
import Derived.Test.YtlkphbcdgkjnoaaDoorRows
import Derived.Test.YtlkphbcdgkjnoaaDoorShelf
import Derived.Test.YtlkphbcdgkjnoaaDoorS1
import Derived.WalkKit
import Derived.WalkSpells
import Derived.WalkLawsBesides
import Derived.Lib.Hide
namespace Go.Proofs.YtlkphbcdgkjnoaaDoor
open Go.RowKit

theorem ret3 {j k l : IntKind} {a a' b b' c c' : Int} (h1 : a = a') (h2 : b = b') (h3 : c = c') : Ending.returned (.tuple #[.int j a, .int k b, .int l c]) = .returned (.tuple #[.int j a', .int k b', .int l c']) := by rw [h1, h2, h3]

set_option maxRecDepth 100000 in
set_option maxHeartbeats 1000000 in
theorem room_any (b : Int) (h0 : 0 ≤ b) (h1 : b ≤ 255) (w : World) :
    Calls Tryd.prog 24 #[.int .u8 b] w fun e w' => e = .returned (.tuple #[.int .u8 (lowOf b), .int .u8 (highOf b), .int .i64 (lenOf b)]) ∧ w = w' := by
  go_enter Tryd.func24, Tryd.ntmps24
  go_wp2
  all_goals
    go_ret3
    refine ⟨ret3 ?_ ?_ ?_, rfl⟩ <;> (try simp only [beq_iff_eq, beq_eq_false_iff_ne, ne_eq] at *) <;> (first | unfold lowOf | unfold highOf | unfold lenOf) <;> (repeat' split) <;> omega

theorem room_byte (b : UInt8) (w : World) :
    Calls Tryd.prog 24 #[.int .u8 (b.toNat : Int)] w fun e w' => e = .returned (.tuple #[.int .u8 (lowOf b.toNat), .int .u8 (highOf b.toNat), .int .i64 (lenOf b.toNat)]) ∧ w = w' :=
  room_any _ (by omega) (by have := b.toNat_lt; omega) w

set_option maxRecDepth 100000 in
set_option maxHeartbeats 1000000 in
theorem next_ne (s : ByteArray) (hs : s.size ≤ 140737488351232) (hpos : 0 < s.size) (w : World) (hT : Lib.Utf8Tabs 0 1 w) :
    Calls Tryd.prog 14 #[.string s] w fun e w' => e = .returned (.tuple #[.int .i32 (nx s.data.toList).1, .int .i64 (nx s.data.toList).2.1, .bool (nx s.data.toList).2.2]) ∧ Below w.heap.size w w' := by
  have hne : s.toList.isEmpty = false := by
    rw [Lib.toList_data]
    cases h : s.data.toList with
    | nil => rw [Lib.size_eq, h] at hpos; simp at hpos
    | cons _ _ => rfl
  go_enter Tryd.func14, Tryd.ntmps14
  go_wp2_with (go_at_call 24; refine (room_byte _ _).mono ?_; rintro e w' ⟨rfl, rfl⟩)
  have hb0 := bt_get s 0 hpos
  rw [← hb0]
  have B0 := bt_nonneg s.data.toList 0
  clear hb0
  go_loop [5, 6, 8] (fun lo hi n => ∃ k : Nat, 1 ≤ k ∧ k ≤ s.size ∧ lo = .int .u8 (loAt s.data.toList k) ∧ hi = .int .u8 (hiAt s.data.toList k) ∧ n = .int .i64 k ∧ Hid (∀ i, 1 ≤ i → i < k → Pass s.data.toList i)) (fun _ _ n => s.size - (intOf n).toNat)
  case atStart => exact ⟨1, Nat.le_refl _, hpos, rfl, rfl, rfl, fun i h h' => by omega⟩
  case round =>
    obtain ⟨k, hk1, hks, rfl, rfl, rfl, hp⟩ := hrel
    go_wp2_with (go_at_call 25; refine (Tryd.utf8_DecodeRuneInString _ _ hT).mono ?_; rintro e w' ⟨rfl, hbw⟩)
    · have hlt : k < s.size := by assumption
      have p1 : (k : Int) < lenOf (bt s.data.toList 0) := by assumption
      have p3 : loAt s.data.toList k ≤ (s[k].toNat : Int) := by assumption
      have p4 : (s[k].toNat : Int) ≤ hiAt s.data.toList k := by assumption
      go_round
      case rel =>
        refine ⟨k + 1, by omega, by omega, ?_, ?_, by go_num, fun i h1 h2 => ?_⟩
        · rw [show loAt s.data.toList (k + 1) = 128 from if_neg (by omega)]
        · rw [show hiAt s.data.toList (k + 1) = 191 from if_neg (by omega)]
        · by_cases h : i = k
          · subst h
            exact ⟨p1, hlt, by rw [bt_get s i hlt]; exact p3, by rw [bt_get s i hlt]; exact p4⟩
          · exact hp.out i h1 (by omega)
      case measure => simp [intOf]; omega
    all_goals
      have hne' := ne_nil_of_pos hpos
      go_ret3
    · have hlt : k < s.size := by assumption
      have q : hiAt s.data.toList k < (s[k].toNat : Int) := by assumption
      have p1 : (k : Int) < lenOf (bt s.data.toList 0) := by assumption
      rw [nx_bad hne' (runLen_at hk1 hp.out (.inr (.inr (.inr ⟨hlt, q⟩)))) (by omega)]
      exact ⟨rfl, Below.refl _ _⟩
    · have hlt : k < s.size := by assumption
      have q : (s[k].toNat : Int) < loAt s.data.toList k := by assumption
      have p1 : (k : Int) < lenOf (bt s.data.toList 0) := by assumption
      rw [nx_bad hne' (runLen_at hk1 hp.out (.inr (.inr (.inl ⟨hlt, q⟩)))) (by omega)]
      exact ⟨rfl, Below.refl _ _⟩
    · have hlt : ¬ k < s.size := by assumption
      have p1 : (k : Int) < lenOf (bt s.data.toList 0) := by assumption
      rw [nx_bad hne' (runLen_at hk1 hp.out (.inr (.inl (by omega)))) (by omega)]
      exact ⟨rfl, Below.refl _ _⟩
    · have p1 : lenOf (bt s.data.toList 0) ≤ (k : Int) := by assumption
      have p2 : ((k : Int) != lenOf (bt s.data.toList 0)) = true := by assumption
      rw [nx_bad hne' (runLen_at hk1 hp.out (.inl p1)) (by simpa using p2)]
      exact ⟨rfl, Below.refl _ _⟩
    · have p1 : lenOf (bt s.data.toList 0) ≤ (k : Int) := by assumption
      have p2 : ((k : Int) != lenOf (bt s.data.toList 0)) = false := by assumption
      have p3 : (k : Int) = lenOf (bt s.data.toList 0) := by simpa using p2
      rw [nx_good hne' (runLen_at hk1 hp.out (.inl p1)) p3]
      refine ⟨?_, hbw⟩
      rw [decodeGo_whole hks hk1 hp.out p3]
      rfl

theorem next_empty (s : ByteArray) (hpos : s.size = 0) (w : World) :
    Calls Tryd.prog 14 #[.string s] w fun e w' => e = .returned (.tuple #[.int .i32 (nx s.data.toList).1, .int .i64 (nx s.data.toList).2.1, .bool (nx s.data.toList).2.2]) ∧ Below w.heap.size w w' := by
  have hnil : s.data.toList = [] := List.eq_nil_of_length_eq_zero hpos
  have hne : s.toList.isEmpty = true := by
    rw [Lib.toList_data, hnil]
    rfl
  rw [hnil]
  clear hnil
  go_enter Tryd.func14, Tryd.ntmps14
  go_wp2
  go_ret3
  exact ⟨rfl, Below.refl _ _⟩

/-- utf.Next at every string. -/
theorem next_any (s : ByteArray) (hs : s.size ≤ 140737488351232) (w : World) (hT : Lib.Utf8Tabs 0 1 w) :
    Calls Tryd.prog 14 #[.string s] w fun e w' => e = .returned (.tuple #[.int .i32 (nx s.data.toList).1, .int .i64 (nx s.data.toList).2.1, .bool (nx s.data.toList).2.2]) ∧ Below w.heap.size w w' := by
  by_cases h : s.size = 0
  · exact next_empty s h w
  · exact next_ne s hs (by omega) w hT
end Go.Proofs.YtlkphbcdgkjnoaaDoor
