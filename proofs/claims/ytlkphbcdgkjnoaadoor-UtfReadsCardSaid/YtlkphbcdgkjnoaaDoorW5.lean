/- UtfReads: what the walk answers at every string. -/
import Derived.Test.YtlkphbcdgkjnoaaDoorB6
import Derived.Test.YtlkphbcdgkjnoaaDoorA5
import Derived.Test.YtlkphbcdgkjnoaaDoorB2
namespace Go.Proofs.YtlkphbcdgkjnoaaDoor
open Go.RowKit Go.Shelf

set_option maxRecDepth 100000 in
set_option maxHeartbeats 4000000 in
theorem reads_any (s : ByteArray) (hs : s.size ≤ 9223372036854775807) (w : World) (hT : Tabs w) :
    Calls Tryd.prog 6 #[.string s] w fun e w' => e = .returned (.bool true) ∧ Below w.heap.size w w' := by
  by_cases hl : 8192 < s.size
  · go_enter Tryd.func6, Tryd.ntmps6
    go_wp2_with (go_at_call 8; refine (works_any w hT).mono ?_; rintro e w1 ⟨rfl, hB1⟩)
    go_ret
    exact ⟨rfl, hB1⟩
  · have ls := decL_length s.data.toList
    rw [length_toList] at ls
    have c14 := fun w hT => next_any s (by omega) w hT
    have c15 := fun w => refNext_any s (by omega) w
    have c16 := fun w => refDecode_any s (by omega) w
    have c12 := fun w hT => decode_any s (by omega) w hT
    have c11 := fun w hT => valid_any s (by omega) w hT
    have c17 := fun w => refValid_any s (by omega) w
    have c18 := fun w hT => clean_any s (by omega) w hT
    have c10 := fun A cap w h => refEncode_any A cap (decL s.data.toList) (by omega) w h
    have c13 := fun A A' cap cap' w h h' => runes_any A A' cap cap' (decL s.data.toList) (decL s.data.toList) (by omega) (by omega) w h h'
    simp only [decide_true] at c13
    obtain ⟨N, hN⟩ : ∃ N, nx s.data.toList = N := ⟨_, rfl⟩
    obtain ⟨Y, hY⟩ : ∃ Y, decL s.data.toList = Y := ⟨_, rfl⟩
    obtain ⟨V, hV⟩ : ∃ V, valL s.data.toList = V := ⟨_, rfl⟩
    obtain ⟨c, m, b⟩ := N
    rw [hN] at c14 c15
    rw [hY] at c16 c12 c18 c10 c13
    rw [hV] at c11 c17
    obtain ⟨C, hC⟩ : ∃ C, encS Y = C := ⟨_, rfl⟩
    obtain ⟨a, ha⟩ : ∃ a, allValid Y = a := ⟨_, rfl⟩
    rw [hC, ha] at c10
    rw [hC] at c18
    clear hN hY hV hC ha
    have C14 := Lib.hid c14
    have C15 := Lib.hid c15
    have C16 := Lib.hid c16
    have C12 := Lib.hid c12
    have C11 := Lib.hid c11
    have C17 := Lib.hid c17
    have C18 := Lib.hid c18
    have C10 := Lib.hid c10
    have C13 := Lib.hid c13
    clear c14 c15 c16 c12 c11 c17 c18 c10 c13
    go_enter Tryd.func6, Tryd.ntmps6
    go_wp2_with fail
    refine (C14.out w hT).mono ?_
    rintro e w1 ⟨rfl, hB1⟩
    go_wp2_with fail
    refine (C15.out w1).mono ?_
    rintro e w2 ⟨rfl, hB2⟩
    have hB12 := hB1.trans (hB2.mono hB1.size)
    go_wp2_with fail
    refine (C16.out w2).mono ?_
    rintro e w3 ⟨v3, rfl, hr3, hB3⟩
    obtain ⟨A3, cap3, rfl, _, hrd3⟩ := hr3.form
    have hB13 := hB12.trans (hB3.mono hB12.size)
    go_wp2_with fail
    refine (C10.out A3 cap3 w3 hrd3).mono ?_
    rintro e w4 ⟨rfl, hB4⟩
    have hB14 := hB13.trans (hB4.mono hB13.size)
    have hT4 := hT.below hB14
    go_wp2_with fail
    refine (C12.out w4 hT4).mono ?_
    rintro e w5 ⟨v5, rfl, hr5, hB5⟩
    obtain ⟨A5, cap5, rfl, _, hrd5⟩ := hr5.form
    have hB15 := hB14.trans (hB5.mono hB14.size)
    go_wp2_with fail
    refine (C16.out w5).mono ?_
    rintro e w6 ⟨v6, rfl, hr6, hB6⟩
    obtain ⟨A6, cap6, rfl, _, hrd6⟩ := hr6.form
    have hB16 := hB15.trans (hB6.mono hB15.size)
    go_wp2_with fail
    refine (C13.out A5 A6 cap5 cap6 w6 ((hrd5.below hB6).mono hB6.size) hrd6).mono ?_
    rintro e w7 ⟨rfl, hB7⟩
    have hB17 := hB16.trans (hB7.mono hB16.size)
    have hT7 := hT.below hB17
    go_wp2_with fail
    refine (C11.out w7 hT7).mono ?_
    rintro e w8 ⟨rfl, hB8⟩
    have hB18 := hB17.trans (hB8.mono hB17.size)
    go_wp2_with fail
    refine (C17.out w8).mono ?_
    rintro e w9 ⟨rfl, hB9⟩
    have hB19 := hB18.trans (hB9.mono hB18.size)
    have hT9 := hT.below hB19
    go_wp2_with fail
    refine (C18.out w9 hT9).mono ?_
    rintro e w10 ⟨rfl, hB10⟩
    have hB110 := hB19.trans (hB10.mono hB19.size)
    have hT10 := hT.below hB110
    go_wp2_with fail
    refine (works_any w10 hT10).mono ?_
    rintro e w11 ⟨rfl, hB11⟩
    go_wp2_with fail
    go_ret
    exact ⟨rfl, hB110.trans (hB11.mono hB110.size)⟩
end Go.Proofs.YtlkphbcdgkjnoaaDoor
