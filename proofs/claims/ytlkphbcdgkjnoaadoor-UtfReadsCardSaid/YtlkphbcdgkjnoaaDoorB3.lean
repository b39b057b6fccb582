/- The reference's value, whole, begins, Next, Decode and Valid: what each call returns; nothing that lay turns. Conditions: sizes within the reach; value and whole: of one to four bytes; begins: of two or three. -/
import Derived.Test.YtlkphbcdgkjnoaaDoorB2
import Derived.Test.YtlkphbcdgkjnoaaDoorS4
import Derived.BigQuiet
namespace Go.Proofs.YtlkphbcdgkjnoaaDoor
open Go.RowKit Go.Shelf

def vB (k : Nat) : Int := if k = 1 then 300 else if k = 2 then 20000 else if k = 3 then 1400000 else 100000000
theorem byteLt (x : UInt8) : (x.toNat : Int) ≤ 255 := by have := x.toNat_lt; omega

set_option maxRecDepth 100000 in
set_option maxHeartbeats 2000000 in
theorem value_any (s : ByteArray) (h1 : 1 ≤ s.size) (h4 : s.size ≤ 4) (w : World) :
    Calls Tryd.prog 27 #[.string s] w fun e w' => e = .returned (.int .i32 (valI s.data.toList s.size)) ∧ w = w' := by
  have hp : 0 < s.size := h1
  have hb0 := bt_get s 0 hp
  have B0 := byteLt s[0]
  have HB0 := Lib.hid hb0
  clear hb0
  have hs : (((s.size : Int) == 2) = false ∧ ((s.size : Int) == 3) = false ∧ ((s.size : Int) == 4) = false ∧ Hid (offOf s.size = 0)) ∨
      (((s.size : Int) == 2) = true ∧ ((s.size : Int) == 3) = false ∧ ((s.size : Int) == 4) = false ∧ Hid (offOf s.size = 192)) ∨
      (((s.size : Int) == 2) = false ∧ ((s.size : Int) == 3) = true ∧ ((s.size : Int) == 4) = false ∧ Hid (offOf s.size = 224)) ∨
      (((s.size : Int) == 2) = false ∧ ((s.size : Int) == 3) = false ∧ ((s.size : Int) == 4) = true ∧ Hid (offOf s.size = 240)) := by
    unfold Hid offOf
    simp only [beq_iff_eq, beq_eq_false_iff_ne, ne_eq]
    obtain h | h | h | h : s.size = 1 ∨ s.size = 2 ∨ s.size = 3 ∨ s.size = 4 := by omega
    all_goals rw [h]
    · exact .inl (by decide)
    · exact .inr (.inl (by decide))
    · exact .inr (.inr (.inl (by decide)))
    · exact .inr (.inr (.inr (by decide)))
  rcases hs with ⟨t2, t3, t4, ho⟩ | ⟨t2, t3, t4, ho⟩ | ⟨t2, t3, t4, ho⟩ | ⟨t2, t3, t4, ho⟩
  all_goals
    go_enter Tryd.func27, Tryd.ntmps27
    go_wp2
    go_loop [3, 4] (fun c i => ∃ (k : Nat) (v : Int), 1 ≤ k ∧ k ≤ s.size ∧ i = .int .i64 k ∧ c = .int .i32 v ∧ Hid (v = valI s.data.toList k) ∧ -(vB k) ≤ v ∧ v ≤ vB k) (fun _ i => s.size - (intOf i).toNat)
    case atStart =>
      refine ⟨1, _, Nat.le_refl _, h1, rfl, rfl, ?_, ?_, ?_⟩
      · show _ = valI s.data.toList 1
        rw [valI_one, HB0.out, length_toList, ho.out]
        try omega
      · show -300 ≤ _
        omega
      · show _ ≤ (300 : Int)
        omega
    case round =>
      obtain ⟨k, v, hk1, hk, rfl, rfl, hv, hv1, hv2⟩ := hrel
      by_cases hlt : k < s.size
      · have hbk := bt_get s k hlt
        have HBK := Lib.hid hbk
        have Bk := byteLt s[k]
        clear hbk
        have hsucc := valI_succ s.data.toList k hk1
        have HS := Lib.hid hsucc
        clear hsucc
        have hbd : -100000000 ≤ v * 64 + 127 + 128 ∧ v * 64 + 255 ≤ 100000000 ∧ -(vB (k + 1)) ≤ v * 64 - 128 ∧ v * 64 + 127 ≤ vB (k + 1) := by
          obtain rfl | rfl | rfl : k = 1 ∨ k = 2 ∨ k = 3 := by omega
          · have e1 : vB 1 = 300 := rfl
            have e2 : vB (1 + 1) = 20000 := rfl
            rw [e1] at hv1 hv2
            rw [e2]
            omega
          · have e1 : vB 2 = 20000 := rfl
            have e2 : vB (2 + 1) = 1400000 := rfl
            rw [e1] at hv1 hv2
            rw [e2]
            omega
          · have e1 : vB 3 = 1400000 := rfl
            have e2 : vB (3 + 1) = 100000000 := rfl
            rw [e1] at hv1 hv2
            rw [e2]
            omega
        obtain ⟨b1, b2, b3, b4⟩ := hbd
        clear hv1 hv2
        go_wp2
        go_round
        case rel =>
          refine ⟨k + 1, _, by omega, by omega, by go_num, rfl, ?_, by omega, by omega⟩
          show _ = valI s.data.toList (k + 1)
          rw [HS.out, HBK.out, ← hv.out]
        case measure => simp [intOf]; omega
      · obtain rfl : k = s.size := by omega
        go_wp2
        go_ret
        rw [← hv.out]
        exact ⟨rfl, rfl⟩

set_option maxRecDepth 100000 in
set_option maxHeartbeats 1000000 in
theorem whole_any (s : ByteArray) (h1 : 1 ≤ s.size) (h4 : s.size ≤ 4) (w : World) :
    Calls Tryd.prog 26 #[.string s] w fun e w' => e = .returned (.bool (wholeB s.data.toList)) ∧ Below w.heap.size w w' := by
  have hval := value_any s h1 h4
  have hw : wholeB s.data.toList = (Lib.validRune (valI s.data.toList s.size) && (encB (valI s.data.toList s.size) == s.data.toList)) := rfl
  rw [hw]
  clear hw
  generalize valI s.data.toList s.size = z at hval ⊢
  cases hv : Lib.validRune z
  · go_enter Tryd.func26, Tryd.ntmps26
    go_wp2_with (first | (go_at_call 27; refine (hval _).mono ?_; rintro e w1 ⟨rfl, rfl⟩) | (go_at_call 21; refine (scalar_any _ _).mono ?_; rintro e w' ⟨rfl, rfl⟩))
    go_ret
    exact ⟨rfl, Below.refl _ _⟩
  · go_enter Tryd.func26, Tryd.ntmps26
    go_wp2_with (first | (go_at_call 27; refine (hval _).mono ?_; rintro e w1 ⟨rfl, rfl⟩) | (go_at_call 21; refine (scalar_any _ _).mono ?_; rintro e w' ⟨rfl, rfl⟩) | (go_at_call 22; refine (bytes_any z hv _).mono ?_; rintro e w1 ⟨rfl, hB1⟩))
    go_ret
    refine ⟨?_, hB1⟩
    apply ret1b
    rw [Lib.toList_data, Lib.toList_data, Bool.true_and]
    simp only [strOfNums_data]
    rfl
end Go.Proofs.YtlkphbcdgkjnoaaDoor
