/- The law UtfBack returns true. Conditions: the tables lie as laid; the slice and the string are within the model's reach. -/
import Derived.Test.YtlkphbcdgkjnoaaDoorW1
import Derived.Test.YtlkphbcdgkjnoaaDoorS3
namespace Go.Proofs.YtlkphbcdgkjnoaaDoor
open Go.RowKit Go.Shelf

theorem encS_list {zs : List Int} (h : allValid zs = true) : (encS zs).data.toList = encL zs := by
  rw [(encS_good h).1, strOfNums_data]
  unfold encZ encL encB
  rw [List.map_flatMap]
theorem bytes_ext {a b : ByteArray} (h : a.data.toList = b.data.toList) : a = b := by
  apply ByteArray.ext
  exact Array.toList_inj.1 h
/-- What the text of code points T = Encode(zs) answers. -/
structure GoodText (T : ByteArray) (zs : List Int) : Prop where
  size : T.size ≤ 40000
  dec : ∀ w, Tabs w → Calls Tryd.prog 12 #[.string T] w fun e w' => ∃ v, e = .returned v ∧ Runes w.heap.size w' v zs ∧ Below w.heap.size w w'
  val : ∀ w, Tabs w → Calls Tryd.prog 11 #[.string T] w fun e w' => e = .returned (.bool true) ∧ Below w.heap.size w w'
  cln : ∀ w, Tabs w → Calls Tryd.prog 18 #[.string T] w fun e w' => e = .returned (.string T) ∧ Below w.heap.size w w'
theorem goodText {zs : List Int} (hv : allValid zs = true) (hl : zs.length ≤ 10000) : GoodText (encS zs) zs := by
  have e := encS_list hv
  have d := decL_encL zs hv
  have hs : (encS zs).size ≤ 40000 := by
    have h1 := encL_len zs
    rw [← e, length_toList] at h1
    omega
  refine ⟨hs, fun w hT => ?_, fun w hT => ?_, fun w hT => ?_⟩
  · have := decode_any (encS zs) (by omega) w hT
    rwa [e, d.1] at this
  · have := valid_any (encS zs) (by omega) w hT
    rwa [e, d.2] at this
  · have := clean_any (encS zs) (by omega) w hT
    rwa [e, d.1] at this

set_option maxRecDepth 100000 in
set_option maxHeartbeats 1000000 in
theorem back_out (A : Option Addr) (cap : Nat) (zs : List Int) (s : ByteArray) (hlen : zs.length ≤ 9223372036854775807) (hs : s.size ≤ 9223372036854775807) (w : World) (hT : Tabs w) (h : 8192 < zs.length ∨ 8192 < s.size) :
    Calls Tryd.prog 7 #[.slice A zs.length cap, .string s] w fun e w' => e = .returned (.bool true) ∧ Below w.heap.size w w' := by
  by_cases h1 : 8192 < zs.length
  · clear h
    go_enter Tryd.func7, Tryd.ntmps7
    go_wp2_with (go_at_call 8; refine (works_any w hT).mono ?_; rintro e w1 ⟨rfl, hB1⟩)
    go_ret
    exact ⟨rfl, hB1⟩
  · have h2 : 8192 < s.size := by omega
    clear h
    go_enter Tryd.func7, Tryd.ntmps7
    go_wp2_with (go_at_call 8; refine (works_any w hT).mono ?_; rintro e w1 ⟨rfl, hB1⟩)
    go_ret
    exact ⟨rfl, hB1⟩

set_option maxRecDepth 100000 in
set_option maxHeartbeats 4000000 in
theorem back_in (A : Option Addr) (cap : Nat) (zs : List Int) (s : ByteArray) (w : World) (hT : Tabs w) (hr : ReadsI w w.heap.size A zs) (h1 : zs.length ≤ 8192) (h2 : s.size ≤ 8192) :
    Calls Tryd.prog 7 #[.slice A zs.length cap, .string s] w fun e w' => e = .returned (.bool true) ∧ Below w.heap.size w w' := by
  -- what the second half asks
  have ls := decL_length s.data.toList
  rw [length_toList] at ls
  have gC := goodText (decL_valid s.data.toList) (by omega)
  have cC := fun w hT => clean_any s (by omega) w hT
  have cD := fun w hT => decode_any s (by omega) w hT
  have cV := fun w hT => valid_any s (by omega) w hT
  have hCs : valL s.data.toList = ((encS (decL s.data.toList)).toList == s.toList) := by
    rw [Lib.toList_data, Lib.toList_data, encS_list (decL_valid s.data.toList)]
    cases hv : valL s.data.toList
    · symm
      rw [beq_eq_false_iff_ne]
      intro e
      have := (decL_encL _ (decL_valid s.data.toList)).2
      rw [e, hv] at this
      cases this
    · rw [encL_decL _ hv]
      simp
  have hE : encE (decL s.data.toList) = 0 := (encS_good (decL_valid s.data.toList)).2
  have cE := fun A cap w h => encode_any A cap (decL s.data.toList) (by omega) w h
  rw [hE] at cE
  obtain ⟨Y, hY⟩ : ∃ Y, decL s.data.toList = Y := ⟨_, rfl⟩
  rw [hY] at gC cC cD cE hCs ls
  obtain ⟨C, hC⟩ : ∃ C, encS Y = C := ⟨_, rfl⟩
  rw [hC] at gC cC cE hCs
  rw [hCs] at cV
  clear hC hY hE hCs
  have CC := Lib.hid cC
  have CD := Lib.hid cD
  have CV := Lib.hid cV
  have CE := Lib.hid cE
  clear cC cD cV cE
  -- the first half
  obtain ⟨v, w1, hrun, hown, hB1⟩ := append_runes (Runes.nil w.heap.size w) A cap hr (by simp; omega) (Nat.le_refl _) 22
  rw [List.nil_append] at hown
  obtain ⟨A1, cap1, rfl, _, hr1⟩ := hown.form
  have hT1 := hT.below hB1
  have HR := Lib.hid hrun
  clear hrun hown
  cases hv : allValid zs
  · have c9 := encode_any A1 cap1 zs (by omega) w1 hr1
    have he : encE zs = 2 := by unfold encE; rw [hv]; rfl
    rw [he] at c9
    have C9 := Lib.hid c9
    clear c9 he hv hr1
    go_enter Tryd.func7, Tryd.ntmps7
    go_wp2_with (first
        | (at_builtin; refine wpList_append_run rfl _ _ 22 rfl _ _ rfl rfl HR.out ?_)
        | (go_at_call 9; refine C9.out.mono ?_; rintro e w2 ⟨rfl, hB2⟩; have hB12 := hB1.trans (hB2.mono hB1.size)))
    have hT2 := hT.below hB12
    refine (CC.out w2 hT2).mono ?_
    rintro e w3 ⟨rfl, hB3⟩
    have hB13 := hB12.trans (hB3.mono hB12.size)
    have hT3 := hT.below hB13
    go_wp2_with fail
    refine (CD.out w3 hT3).mono ?_
    rintro e w4 ⟨v4, rfl, hr4, hB4⟩
    obtain ⟨A4, cap4, rfl, _, hrd4⟩ := hr4.form
    have hB14 := hB13.trans (hB4.mono hB13.size)
    go_wp2_with fail
    refine (CE.out A4 cap4 w4 hrd4).mono ?_
    rintro e w5 ⟨rfl, hB5⟩
    have hB15 := hB14.trans (hB5.mono hB14.size)
    have hT5 := hT.below hB15
    go_wp2_with fail
    refine (gC.val w5 hT5).mono ?_
    rintro e w6 ⟨rfl, hB6⟩
    have hB16 := hB15.trans (hB6.mono hB15.size)
    have hT6 := hT.below hB16
    go_wp2_with fail
    refine (gC.cln w6 hT6).mono ?_
    rintro e w7 ⟨rfl, hB7⟩
    have hB17 := hB16.trans (hB7.mono hB16.size)
    have hT7 := hT.below hB17
    go_wp2_with fail
    refine (CV.out w7 hT7).mono ?_
    rintro e w8 ⟨rfl, hB8⟩
    have hB18 := hB17.trans (hB8.mono hB17.size)
    have hT8 := hT.below hB18
    go_wp2_with (go_at_call 8; refine (works_any w8 hT8).mono ?_; rintro e w9 ⟨rfl, hB9⟩)
    go_ret
    exact ⟨rfl, hB18.trans (hB9.mono hB18.size)⟩
  · have gT := goodText hv (by omega)
    have c9 := encode_any A1 cap1 zs (by omega) w1 hr1
    rw [(encS_good hv).2] at c9
    obtain ⟨T, hT'⟩ : ∃ T, encS zs = T := ⟨_, rfl⟩
    rw [hT'] at c9 gT
    have C9 := Lib.hid c9
    clear c9 hv hr1 hT'
    go_enter Tryd.func7, Tryd.ntmps7
    go_wp2_with (first
        | (at_builtin; refine wpList_append_run rfl _ _ 22 rfl _ _ rfl rfl HR.out ?_)
        | (go_at_call 9; refine C9.out.mono ?_; rintro e w2 ⟨rfl, hB2⟩; have hB12 := hB1.trans (hB2.mono hB1.size)))
    refine (gT.dec w2 (hT.below hB12)).mono ?_
    rintro e w3 ⟨v3, rfl, hr3, hB3⟩
    obtain ⟨A3, cap3, rfl, _, hrd3⟩ := hr3.form
    have hB13 := hB12.trans (hB3.mono hB12.size)
    have c13 := runes_any A3 A cap3 cap zs zs (by omega) (by omega) w3 hrd3 ((hr.below hB13).mono hB13.size)
    rw [decide_eq_true (rfl : zs = zs)] at c13
    go_wp2_with fail
    refine c13.mono ?_
    clear c13
    rintro e w4 ⟨rfl, hB4⟩
    have hB14 := hB13.trans (hB4.mono hB13.size)
    go_wp2_with fail
    refine (gT.val w4 (hT.below hB14)).mono ?_
    rintro e w5 ⟨rfl, hB5⟩
    have hB15 := hB14.trans (hB5.mono hB14.size)
    go_wp2_with fail
    refine (gT.cln w5 (hT.below hB15)).mono ?_
    rintro e w6 ⟨rfl, hB6⟩
    have hB16 := hB15.trans (hB6.mono hB15.size)
    clear hB2 hB3 hB4 hB5 hB6 hrd3 hr3 hB12 hB13 hB14 hB15
    go_wp2_with fail
    have hB12 := hB16
    clear hB16
    have hT2 := hT.below hB12
    refine (CC.out w6 hT2).mono ?_
    rintro e w3 ⟨rfl, hB3⟩
    have hB13 := hB12.trans (hB3.mono hB12.size)
    have hT3 := hT.below hB13
    go_wp2_with fail
    refine (CD.out w3 hT3).mono ?_
    rintro e w4 ⟨v4, rfl, hr4, hB4⟩
    obtain ⟨A4, cap4, rfl, _, hrd4⟩ := hr4.form
    have hB14 := hB13.trans (hB4.mono hB13.size)
    go_wp2_with fail
    refine (CE.out A4 cap4 w4 hrd4).mono ?_
    rintro e w5 ⟨rfl, hB5⟩
    have hB15 := hB14.trans (hB5.mono hB14.size)
    have hT5 := hT.below hB15
    go_wp2_with fail
    refine (gC.val w5 hT5).mono ?_
    rintro e w6' ⟨rfl, hB6⟩
    have hB16 := hB15.trans (hB6.mono hB15.size)
    have hT6 := hT.below hB16
    go_wp2_with fail
    refine (gC.cln w6' hT6).mono ?_
    rintro e w7 ⟨rfl, hB7⟩
    have hB17 := hB16.trans (hB7.mono hB16.size)
    have hT7 := hT.below hB17
    go_wp2_with fail
    refine (CV.out w7 hT7).mono ?_
    rintro e w8 ⟨rfl, hB8⟩
    have hB18 := hB17.trans (hB8.mono hB17.size)
    have hT8 := hT.below hB18
    go_wp2_with (go_at_call 8; refine (works_any w8 hT8).mono ?_; rintro e w9 ⟨rfl, hB9⟩)
    go_ret
    exact ⟨rfl, hB18.trans (hB9.mono hB18.size)⟩

theorem back_any (A : Option Addr) (cap : Nat) (zs : List Int) (s : ByteArray) (hlen : zs.length ≤ 9223372036854775807) (hs : s.size ≤ 9223372036854775807) (w : World) (hT : Tabs w) (hr : ReadsI w w.heap.size A zs) :
    Calls Tryd.prog 7 #[.slice A zs.length cap, .string s] w fun e w' => e = .returned (.bool true) ∧ Below w.heap.size w w' := by
  by_cases h : 8192 < zs.length ∨ 8192 < s.size
  · exact back_out A cap zs s hlen hs w hT h
  · exact back_in A cap zs s w hT hr (by omega) (by omega)
end Go.Proofs.YtlkphbcdgkjnoaaDoor
