/- The reference's Encode: what it returns; nothing that lay turns. Conditions: sizes within the reach. -/
import Derived.Test.YtlkphbcdgkjnoaaDoorB1
namespace Go.Proofs.YtlkphbcdgkjnoaaDoor
open Go.RowKit Go.Shelf

theorem strOfNums_append (x y : List Int) : strOfNums (x ++ y) = strOfNums x ++ strOfNums y := by
  apply ByteArray.ext
  simp [strOfNums]

set_option maxRecDepth 100000 in
set_option maxHeartbeats 1000000 in
theorem refEncode_any (A : Option Addr) (cap : Nat) (zs : List Int) (hlen : zs.length ≤ 140737488) (w : World) (hr : ReadsI w w.heap.size A zs) :
    Calls Tryd.prog 10 #[.slice A zs.length cap] w fun e w' => e = .returned (.tuple #[.string (encS zs), .bool (allValid zs)]) ∧ Below w.heap.size w w' := by
  go_enter Tryd.func10, Tryd.ntmps10
  go_wp2
  go_loopw [4, 5] (fun v i wr => ∃ k : Nat, k ≤ zs.length ∧ i = .int .i64 k ∧ v = .string (strOfNums (encZ (zs.take k))) ∧ Hid (allValid (zs.take k) = true) ∧ Below w.heap.size w wr)
    (fun _ i _ => zs.length - (intOf i).toNat)
  case atStart => exact ⟨0, Nat.zero_le _, rfl, rfl, rfl, Below.refl _ _⟩
  case round =>
    obtain ⟨k, hk, rfl, rfl, hav, hB⟩ := hrel
    have hr' := hr.below hB
    by_cases hlt : k < zs.length
    · obtain ⟨z, hz⟩ : ∃ z, zs[k]? = some z := ⟨_, List.getElem?_eq_getElem hlt⟩
      obtain ⟨ad, rfl, hab, hc⟩ := hr' k z hz
      have HZ := Lib.hid hz
      clear hz hr hr'
      cases hv : Lib.validRune z
      · go_wp2_with (go_at_call 21; refine (scalar_any _ _).mono ?_; rintro e w' ⟨rfl, rfl⟩)
        have hb := encS_bad HZ.out hv
        have ha : allValid zs = false := by
          unfold allValid
          rw [List.all_eq_false]
          exact ⟨z, List.mem_of_getElem? HZ.out, by rw [hv]; simp⟩
        go_ret2
        rw [hb.1, ha]
        exact ⟨rfl, hB⟩
      · have hel := encZ_len (zs.take k)
        rw [List.length_take] at hel
        have hez := (Lib.encodeRuneZ_length z).2
        have hadd := fun wx => run_string_add_sum (P := Tryd.prog) wx (strOfNums (encZ (zs.take k))) (strOfNums (Lib.encodeRuneZ z)) (by rw [strOfNums_size, strOfNums_size]; omega)
        go_wp2_with (first | (go_at_call 21; refine (scalar_any _ _).mono ?_; rintro e w' ⟨rfl, rfl⟩) | (go_at_call 22; refine (bytes_any z hv _).mono ?_; rintro e w1 ⟨rfl, hB1⟩))
        have hB2 : Below w.heap.size w w1 := hB.trans (hB1.mono hB.size)
        go_roundw
        case rel =>
          exact ⟨k + 1, by omega, by go_num, by rw [take_snoc HZ.out, encZ_snoc, strOfNums_append], allValid_take HZ.out hav.out hv, hB2⟩
        case measure => simp [intOf]; omega
    · obtain rfl : k = zs.length := by omega
      have hav' := hav.out
      rw [List.take_length] at hav'
      have hg := encS_good hav'
      have HG := Lib.hid hg
      have HA := Lib.hid hav'
      clear hg hav' hr hr' hav
      go_wp2
      go_ret2
      rw [HG.out.1, HA.out]
      simp only [List.take_length]
      exact ⟨rfl, hB⟩
end Go.Proofs.YtlkphbcdgkjnoaaDoor
