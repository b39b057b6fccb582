/- The law UtfJoins returns true. Conditions: the tables lie as laid; the strings are within the model's reach. -/
import Derived.Test.YtlkphbcdgkjnoaaDoorW1
import Derived.Test.YtlkphbcdgkjnoaaDoorS2
namespace Go.Proofs.YtlkphbcdgkjnoaaDoor
open Go.RowKit Go.Shelf

theorem append_list (a b : ByteArray) : (a ++ b).data.toList = a.data.toList ++ b.data.toList := by simp
theorem append_size (a b : ByteArray) : (a ++ b).size = a.size + b.size := by simp

set_option maxRecDepth 100000 in
set_option maxHeartbeats 1000000 in
theorem joins_out (a b : ByteArray) (ha : a.size ≤ 9223372036854775807) (hb : b.size ≤ 9223372036854775807) (w : World) (hT : Tabs w) (h : 8192 < a.size ∨ 8192 < b.size) :
    Calls Tryd.prog 4 #[.string a, .string b] w fun e w' => e = .returned (.bool true) ∧ Below w.heap.size w w' := by
  by_cases h1 : 8192 < a.size
  · clear h
    go_enter Tryd.func4, Tryd.ntmps4
    go_wp2_with (go_at_call 8; refine (works_any w hT).mono ?_; rintro e w1 ⟨rfl, hB1⟩)
    go_ret
    exact ⟨rfl, hB1⟩
  · have h2 : 8192 < b.size := by omega
    clear h
    go_enter Tryd.func4, Tryd.ntmps4
    go_wp2_with (go_at_call 8; refine (works_any w hT).mono ?_; rintro e w1 ⟨rfl, hB1⟩)
    go_ret
    exact ⟨rfl, hB1⟩

set_option maxRecDepth 100000 in
set_option maxHeartbeats 2000000 in
theorem joins_in (a b : ByteArray) (w : World) (hT : Tabs w) (h1 : a.size ≤ 8192) (h2 : b.size ≤ 8192) :
    Calls Tryd.prog 4 #[.string a, .string b] w fun e w' => e = .returned (.bool true) ∧ Below w.heap.size w w' := by
  have c11 := valid_any a (by omega) w hT
  cases hv : valL a.data.toList
  · rw [hv] at c11
    have C11 := Lib.hid c11
    clear c11 hv
    go_enter Tryd.func4, Tryd.ntmps4
    go_wp2_with (first
      | (go_at_call 11; refine C11.out.mono ?_; rintro e w1 ⟨rfl, hB1⟩)
      | (go_at_call 8; refine (works_any w1 (hT.below hB1)).mono ?_; rintro e w2 ⟨rfl, hB2⟩))
    go_ret
    exact ⟨rfl, hB1.trans (hB2.mono hB1.size)⟩
  · rw [hv] at c11
    have C11 := Lib.hid c11
    have HV := Lib.hid hv
    clear c11 hv
    have la := decL_length a.data.toList
    have lb := decL_length b.data.toList
    have lab := decL_length (a ++ b).data.toList
    rw [length_toList] at la lb lab
    rw [append_size] at lab
    have hadd := fun wx => run_string_add_sum (P := Tryd.prog) wx a b (by omega)
    go_enter Tryd.func4, Tryd.ntmps4
    go_wp2_with (go_at_call 11; refine C11.out.mono ?_; rintro e w1 ⟨rfl, hB1⟩)
    have hT1 := hT.below hB1
    go_wp2_with fail
    refine (decode_any a (by omega) w1 hT1).mono ?_
    rintro e w2 ⟨v2, rfl, hr2, hB2⟩
    obtain ⟨A2, cap2, rfl, _, hrd2⟩ := hr2.form
    obtain ⟨v3, w3, hrun3, hr3, hB3⟩ := append_runes (Runes.nil w2.heap.size w2) A2 cap2 hrd2 (by simp; omega) (Nat.le_refl _) 22
    rw [List.nil_append] at hr3
    have HR3 := Lib.hid hrun3
    clear hrun3
    have hT3 := (hT1.below hB2).below hB3
    go_wp2_with (at_builtin; refine wpList_append_run rfl _ _ 22 rfl _ _ rfl rfl HR3.out ?_)
    refine (decode_any b (by omega) w3 hT3).mono ?_
    rintro e w4 ⟨v4, rfl, hr4, hB4⟩
    obtain ⟨A4, cap4, rfl, _, hrd4⟩ := hr4.form
    have hT4 := hT3.below hB4
    have hr3' := hr3.below hB4
    have hle : w2.heap.size ≤ w4.heap.size := Nat.le_trans hB3.size hB4.size
    obtain ⟨v5, w5, hrun5, hr5, hB5⟩ := append_runes hr3' A4 cap4 hrd4 (by omega) hle 22
    have HR5 := Lib.hid hrun5
    clear hrun5
    have hB14 : Below w1.heap.size w1 w4 := hB2.trans ((hB3.trans (hB4.mono hB3.size)).mono hB2.size)
    have hB15 : Below w1.heap.size w1 w5 := hB14.trans (hB5.mono hB2.size)
    have hT5 := hT1.below hB15
    go_wp2_with (at_builtin; refine wpList_append_run rfl _ _ 22 rfl _ _ rfl rfl HR5.out ?_)
    have c12 := decode_any (a ++ b) (by rw [append_size]; omega) w5 hT5
    have hZY : decL (a ++ b).data.toList = decL a.data.toList ++ decL b.data.toList := by rw [append_list]; exact decL_append _ _ HV.out
    have lY : (decL a.data.toList ++ decL b.data.toList).length ≤ 16384 := by rw [List.length_append]; omega
    rw [hZY] at c12
    obtain ⟨Y, hY⟩ : ∃ Y, decL a.data.toList ++ decL b.data.toList = Y := ⟨_, rfl⟩
    rw [hY] at c12 hr5 lY
    refine c12.mono ?_
    clear c12 hZY hY
    rintro e w6 ⟨v6, rfl, hr6, hB6⟩
    obtain ⟨A6, cap6, rfl, _, hrd6⟩ := hr6.form
    obtain ⟨A5, cap5, rfl, _, hrd5⟩ := hr5.form
    have hT6 := hT5.below hB6
    have hrd5' := (hrd5.below hB6).mono hB6.size
    go_wp2_with fail
    have c13 := runes_any A6 A5 cap6 cap5 Y Y (by omega) (by omega) w6 hrd6 hrd5'
    rw [decide_eq_true (rfl : Y = Y)] at c13
    refine c13.mono ?_
    rintro e w7 ⟨rfl, hB7⟩
    go_wp2_with (go_at_call 8; refine (works_any w7 (hT6.below hB7)).mono ?_; rintro e w8 ⟨rfl, hB8⟩)
    go_ret
    have h67 : Below w5.heap.size w5 w7 := hB6.trans (hB7.mono hB6.size)
    have h58 : Below w5.heap.size w5 w8 := h67.trans (hB8.mono h67.size)
    have h18 : Below w1.heap.size w1 w8 := hB15.trans (h58.mono hB15.size)
    exact ⟨rfl, hB1.trans (h18.mono hB1.size)⟩

theorem joins_any (a b : ByteArray) (ha : a.size ≤ 9223372036854775807) (hb : b.size ≤ 9223372036854775807) (w : World) (hT : Tabs w) :
    Calls Tryd.prog 4 #[.string a, .string b] w fun e w' => e = .returned (.bool true) ∧ Below w.heap.size w w' := by
  by_cases h : 8192 < a.size ∨ 8192 < b.size
  · exact joins_out a b ha hb w hT h
  · exact joins_in a b w hT (by omega) (by omega)

end Go.Proofs.YtlkphbcdgkjnoaaDoor
