/- The reference's Decode and Valid: what each call returns. Conditions: sizes within the reach. -/
import Derived.Test.YtlkphbcdgkjnoaaDoorB5
import Derived.Test.YtlkphbcdgkjnoaaDoorA4
namespace Go.Proofs.YtlkphbcdgkjnoaaDoor
open Go.RowKit Go.Shelf

def strSize (v : Value) : Nat := match v with | .string r => r.size | _ => 0
theorem rest_list (r : ByteArray) (m : Nat) : (r.extract m r.size).data.toList = r.data.toList.drop m := by
  simp
  rw [List.take_of_length_le]
  rw [List.length_drop, length_toList]
  exact Nat.le_refl _
theorem rest_size (r : ByteArray) (m : Nat) (h : m ≤ r.size) : (r.extract m r.size).size = r.size - m := by simp
theorem isEmpty_pos {r : ByteArray} (h : 0 < r.size) : r.toList.isEmpty = false := by
  rw [Lib.toList_data]
  cases e : r.data.toList with
  | nil => exact absurd e (ne_nil_of_pos h)
  | cons _ _ => rfl
theorem isEmpty_zero {r : ByteArray} (h : r.size = 0) : r.toList.isEmpty = true := by
  rw [Lib.toList_data, List.eq_nil_of_length_eq_zero (show r.data.toList.length = 0 from h)]
  rfl

set_option maxRecDepth 100000 in
set_option maxHeartbeats 2000000 in
theorem refValid_any (s : ByteArray) (hs : s.size ≤ 140737488) (w : World) :
    Calls Tryd.prog 17 #[.string s] w fun e w' => e = .returned (.bool (valL s.data.toList)) ∧ Below w.heap.size w w' := by
  go_enter Tryd.func17, Tryd.ntmps17
  go_wp2
  go_loopw [0] (fun sv wr => ∃ r : ByteArray, sv = .string r ∧ r.size ≤ s.size ∧ Hid (valL s.data.toList = valL r.data.toList) ∧ Below w.heap.size w wr) (fun sv _ => strSize sv)
  case atStart => exact ⟨s, rfl, Nat.le_refl _, rfl, Below.refl _ _⟩
  case round =>
    obtain ⟨r, rfl, hrs, hv, hB⟩ := hrel
    by_cases h0 : r.size = 0
    · have hne := isEmpty_zero h0
      have hnil : r.data.toList = [] := List.eq_nil_of_length_eq_zero h0
      have HN := Lib.hid hnil
      clear hnil
      go_wp2
      go_ret
      rw [hv.out, HN.out, valL_nil]
      exact ⟨rfl, hB⟩
    · have hne := isEmpty_pos (Nat.pos_of_ne_zero h0)
      have hl := ne_nil_of_pos (Nat.pos_of_ne_zero h0)
      have hN := refNext_any r (by omega)
      have hle := nx_le hl
      rw [length_toList] at hle
      have hcons := valL_cons hl
      have HC := Lib.hid hcons
      clear hcons
      obtain ⟨c, hc⟩ : ∃ c, (nx r.data.toList).1 = c := ⟨_, rfl⟩
      obtain ⟨m, hm⟩ : ∃ m, (nx r.data.toList).2.1 = m := ⟨_, rfl⟩
      rw [hm] at hle
      cases hb : (nx r.data.toList).2.2
      · rw [hc, hm, hb] at hN
        have HB := Lib.hid hb
        clear hb hc hm
        go_wp2_with (go_at_call 15; refine (hN _).mono ?_; rintro e w1 ⟨rfl, hB1⟩)
        go_ret
        rw [hv.out, HC.out, HB.out]
        exact ⟨rfl, hB.trans (hB1.mono hB.size)⟩
      · rw [hc, hm, hb] at hN
        have HB := Lib.hid hb
        have HM := Lib.hid hm
        clear hb hc hm
        go_wp2_with (go_at_call 15; refine (hN _).mono ?_; rintro e w1 ⟨rfl, hB1⟩)
        go_roundw
        case rel =>
          refine ⟨_, rfl, ?_, ?_, hB.trans (hB1.mono hB.size)⟩
          · rw [rest_size _ _ hle.2]; omega
          · show _ = _
            rw [hv.out, HC.out, HB.out, HM.out, Bool.true_and, rest_list]
        case measure =>
          show (r.extract m r.size).size < r.size
          rw [rest_size _ _ hle.2]; omega

set_option maxRecDepth 100000 in
set_option maxHeartbeats 2000000 in
theorem refDecode_any (s : ByteArray) (hs : s.size ≤ 140737488) (w : World) :
    Calls Tryd.prog 16 #[.string s] w fun e w' => ∃ v, e = .returned v ∧ Runes w.heap.size w' v (decL s.data.toList) ∧ Below w.heap.size w w' := by
  obtain ⟨i0, hi, hz0, hz1, hz2⟩ := info_parts Tryd.info21
  go_enter Tryd.func16, Tryd.ntmps16
  go_wp2
  go_loopw [0, 3] (fun sv lv wr => ∃ (r : ByteArray) (acc : List Int), sv = .string r ∧ Runes w.heap.size wr lv acc ∧ acc.length + r.size ≤ s.size ∧ Hid (decL s.data.toList = acc ++ decL r.data.toList) ∧ Below w.heap.size w wr) (fun sv _ _ => strSize sv)
  case atStart => exact ⟨s, [], rfl, World.ownsRow_nil _ _ _ _, by simp, rfl, Below.refl _ _⟩
  case round =>
    obtain ⟨r, acc, rfl, hrow, hrs, hv, hB⟩ := hrel
    by_cases h0 : r.size = 0
    · have hne := isEmpty_zero h0
      have hnil : r.data.toList = [] := List.eq_nil_of_length_eq_zero h0
      have HN := Lib.hid hnil
      clear hnil
      go_wp2
      go_ret
      refine ⟨_, rfl, ?_, hB⟩
      rw [hv.out, HN.out, decL_nil, List.append_nil]
      exact hrow
    · have hne := isEmpty_pos (Nat.pos_of_ne_zero h0)
      have hl := ne_nil_of_pos (Nat.pos_of_ne_zero h0)
      have hN := refNext_any r (by omega)
      have hle := nx_le hl
      rw [length_toList] at hle
      have hcons := decL_cons hl
      have HC := Lib.hid hcons
      clear hcons
      obtain ⟨c, hc⟩ : ∃ c, (nx r.data.toList).1 = c := ⟨_, rfl⟩
      obtain ⟨m, hm⟩ : ∃ m, (nx r.data.toList).2.1 = m := ⟨_, rfl⟩
      obtain ⟨b, hb⟩ : ∃ b, (nx r.data.toList).2.2 = b := ⟨_, rfl⟩
      rw [hm] at hle
      rw [hc, hm, hb] at hN
      have HM := Lib.hid hm
      have HCC := Lib.hid hc
      clear hb hc hm
      go_wp2_with (first
        | (at_builtin; refine wpList_append_own _ rfl _ _ 22 rfl w.heap.size 21 i0 (.int .i32 0) 1 4 Tryd.underlying22 hi hz0 hz1 hz2 rfl (by decide) _ _ _ rfl (World.ownsRow.alloc (hrow.below hB1) _) ⟨w1.heap.size, 0, none⟩ 1 1 [.int .i32 c] rfl rfl (cell_one_new _ _ _) (by simp [Value.oneCell']) (by unfold maxLen; omega) (by omega) (by have := hB.size; have := hB1.size; simp; omega) ?_; intro v' w2 hown' hgrow hb2)
        | (go_at_call 15; refine (hN _).mono ?_; rintro e w1 ⟨rfl, hB1⟩))
      go_roundw
      case rel =>
        refine ⟨_, acc ++ [c], rfl, ?_, ?_, ?_, ?_⟩
        · unfold Runes
          simpa using hown'
        · rw [rest_size _ _ hle.2]; simp; omega
        · show _ = _
          rw [hv.out, HC.out, HM.out, HCC.out, rest_list]
          simp
        · have hB2 := hB.trans (hB1.mono hB.size)
          exact (hB2.alloc hB2.size _).grown hgrow (by have := hB2.size; simp; omega) (fun k hk => (World.ownsRow.lt hrow k hk).1)
      case measure =>
        show (r.extract m r.size).size < r.size
        rw [rest_size _ _ hle.2]; omega
end Go.Proofs.YtlkphbcdgkjnoaaDoor
