/- The reference's Scalar, Bytes and Encode: what each call returns; nothing that lay turns. Conditions: sizes within the reach; Bytes: of a scalar. -/
import Derived.Test.YtlkphbcdgkjnoaaDoorA5
namespace Go.Proofs.YtlkphbcdgkjnoaaDoor
open Go.RowKit Go.Shelf

theorem ret1b {a b : Bool} (h : a = b) : Ending.returned (.bool a) = .returned (.bool b) := by rw [h]

set_option maxRecDepth 100000 in
set_option maxHeartbeats 1000000 in
theorem scalar_any (c : Int) (w : World) :
    Calls Tryd.prog 21 #[.int .i32 c] w fun e w' => e = .returned (.bool (Lib.validRune c)) ∧ w = w' := by
  go_enter Tryd.func21, Tryd.ntmps21
  go_wp2
  all_goals
    go_ret
    refine ⟨ret1b ?_, rfl⟩
    unfold Lib.validRune
    rw [Bool.eq_iff_iff]
    simp
    try omega

theorem bytes_conv {W : World} {B : Nat} {v : Value} {n : Nat} {zs : List Int} (h : W.ownsRow B 5 1 v n (zs.map (Value.int .u8))) (hn : n = zs.length) : (convert 40 9 v).run Tryd.prog W = .ok (.string (strOfNums zs)) W := by
  subst hn
  exact BytesOwn.conv h

set_option maxRecDepth 100000 in
set_option maxHeartbeats 1000000 in
theorem bytes_1 (c : Int) (h0 : 0 ≤ c) (h1 : c < 128) (w : World) :
    Calls Tryd.prog 22 #[.int .i32 c] w fun e w' => e = .returned (.string (strOfNums [c])) ∧ Below w.heap.size w w' := by
  obtain ⟨i0, hi, hz0, hz1, hz2⟩ := info_parts Tryd.info5
  go_enter Tryd.func22, Tryd.ntmps22
  go_wp2_with (at_builtin; refine wpList_append_own _ rfl _ _ 40 rfl w.heap.size 5 i0 (.int .u8 0) 1 1 Tryd.underlying40 hi hz0 hz1 hz2 rfl (by decide) (.slice none 0 0) 0 [] rfl (World.ownsRow_nil _ _ _ _) ⟨w.heap.size, 0, none⟩ 1 1 [.int .u8 (c)] rfl rfl ?c1 ?c2 (by unfold maxLen; omega) (by omega) (by simp) ?c3)
  case c1 =>
    intro j u hj
    match j, hj with
    | 0, hj => simp at hj; subst hj; simp [Addr.add]
    | (j + 1), hj => simp at hj
  case c2 => intro u hu; simp at hu; rcases hu with rfl <;> rfl
  intro v' w1 hown' hgrow _
  have hcv := bytes_conv (zs := [c]) hown' rfl
  go_wp2
  go_ret
  exact ⟨rfl, ((Below.refl _ w).alloc (Nat.le_refl _) _).grown hgrow (by simp) (fun k hk => by simp [Value.ownBlock] at hk)⟩

set_option maxRecDepth 100000 in
set_option maxHeartbeats 1000000 in
theorem bytes_2 (c : Int) (h0 : 128 ≤ c) (h1 : c < 2048) (w : World) :
    Calls Tryd.prog 22 #[.int .i32 c] w fun e w' => e = .returned (.string (strOfNums [192 + c / 64, 128 + c % 64])) ∧ Below w.heap.size w w' := by
  obtain ⟨i0, hi, hz0, hz1, hz2⟩ := info_parts Tryd.info5
  go_enter Tryd.func22, Tryd.ntmps22
  go_wp2_with (at_builtin; refine wpList_append_own _ rfl _ _ 40 rfl w.heap.size 5 i0 (.int .u8 0) 1 1 Tryd.underlying40 hi hz0 hz1 hz2 rfl (by decide) (.slice none 0 0) 0 [] rfl (World.ownsRow_nil _ _ _ _) ⟨w.heap.size, 0, none⟩ 2 2 [.int .u8 (192 + c / 64), .int .u8 (128 + c % 64)] rfl rfl ?c1 ?c2 (by unfold maxLen; omega) (by omega) (by simp) ?c3)
  case c1 =>
    intro j u hj
    match j, hj with
    | 0, hj => simp at hj; subst hj; simp [Addr.add]
    | 1, hj => simp at hj; subst hj; simp [Addr.add]
    | (j + 2), hj => simp at hj
  case c2 => intro u hu; simp at hu; rcases hu with rfl | rfl <;> rfl
  intro v' w1 hown' hgrow _
  have hcv := bytes_conv (zs := [192 + c / 64, 128 + c % 64]) hown' rfl
  go_wp2
  go_ret
  exact ⟨rfl, ((Below.refl _ w).alloc (Nat.le_refl _) _).grown hgrow (by simp) (fun k hk => by simp [Value.ownBlock] at hk)⟩

set_option maxRecDepth 100000 in
set_option maxHeartbeats 1000000 in
theorem bytes_3 (c : Int) (h0 : 2048 ≤ c) (h1 : c < 65536) (w : World) :
    Calls Tryd.prog 22 #[.int .i32 c] w fun e w' => e = .returned (.string (strOfNums [224 + c / 4096, 128 + c / 64 % 64, 128 + c % 64])) ∧ Below w.heap.size w w' := by
  obtain ⟨i0, hi, hz0, hz1, hz2⟩ := info_parts Tryd.info5
  go_enter Tryd.func22, Tryd.ntmps22
  go_wp2_with (at_builtin; refine wpList_append_own _ rfl _ _ 40 rfl w.heap.size 5 i0 (.int .u8 0) 1 1 Tryd.underlying40 hi hz0 hz1 hz2 rfl (by decide) (.slice none 0 0) 0 [] rfl (World.ownsRow_nil _ _ _ _) ⟨w.heap.size, 0, none⟩ 3 3 [.int .u8 (224 + c / 4096), .int .u8 (128 + c / 64 % 64), .int .u8 (128 + c % 64)] rfl rfl ?c1 ?c2 (by unfold maxLen; omega) (by omega) (by simp) ?c3)
  case c1 =>
    intro j u hj
    match j, hj with
    | 0, hj => simp at hj; subst hj; simp [Addr.add]
    | 1, hj => simp at hj; subst hj; simp [Addr.add]
    | 2, hj => simp at hj; subst hj; simp [Addr.add]
    | (j + 3), hj => simp at hj
  case c2 => intro u hu; simp at hu; rcases hu with rfl | rfl | rfl <;> rfl
  intro v' w1 hown' hgrow _
  have hcv := bytes_conv (zs := [224 + c / 4096, 128 + c / 64 % 64, 128 + c % 64]) hown' rfl
  go_wp2
  go_ret
  exact ⟨rfl, ((Below.refl _ w).alloc (Nat.le_refl _) _).grown hgrow (by simp) (fun k hk => by simp [Value.ownBlock] at hk)⟩

set_option maxRecDepth 100000 in
set_option maxHeartbeats 1000000 in
theorem bytes_4 (c : Int) (h0 : 65536 ≤ c) (h1 : c ≤ 1114111) (w : World) :
    Calls Tryd.prog 22 #[.int .i32 c] w fun e w' => e = .returned (.string (strOfNums [240 + c / 262144, 128 + c / 4096 % 64, 128 + c / 64 % 64, 128 + c % 64])) ∧ Below w.heap.size w w' := by
  obtain ⟨i0, hi, hz0, hz1, hz2⟩ := info_parts Tryd.info5
  go_enter Tryd.func22, Tryd.ntmps22
  go_wp2_with (at_builtin; refine wpList_append_own _ rfl _ _ 40 rfl w.heap.size 5 i0 (.int .u8 0) 1 1 Tryd.underlying40 hi hz0 hz1 hz2 rfl (by decide) (.slice none 0 0) 0 [] rfl (World.ownsRow_nil _ _ _ _) ⟨w.heap.size, 0, none⟩ 4 4 [.int .u8 (240 + c / 262144), .int .u8 (128 + c / 4096 % 64), .int .u8 (128 + c / 64 % 64), .int .u8 (128 + c % 64)] rfl rfl ?c1 ?c2 (by unfold maxLen; omega) (by omega) (by simp) ?c3)
  case c1 =>
    intro j u hj
    match j, hj with
    | 0, hj => simp at hj; subst hj; simp [Addr.add]
    | 1, hj => simp at hj; subst hj; simp [Addr.add]
    | 2, hj => simp at hj; subst hj; simp [Addr.add]
    | 3, hj => simp at hj; subst hj; simp [Addr.add]
    | (j + 4), hj => simp at hj
  case c2 => intro u hu; simp at hu; rcases hu with rfl | rfl | rfl | rfl <;> rfl
  intro v' w1 hown' hgrow _
  have hcv := bytes_conv (zs := [240 + c / 262144, 128 + c / 4096 % 64, 128 + c / 64 % 64, 128 + c % 64]) hown' rfl
  go_wp2
  go_ret
  exact ⟨rfl, ((Below.refl _ w).alloc (Nat.le_refl _) _).grown hgrow (by simp) (fun k hk => by simp [Value.ownBlock] at hk)⟩

theorem bytes_any (c : Int) (hv : Lib.validRune c = true) (w : World) :
    Calls Tryd.prog 22 #[.int .i32 c] w fun e w' => e = .returned (.string (strOfNums (Lib.encodeRuneZ c))) ∧ Below w.heap.size w w' := by
  have hb := valid_bounds hv
  unfold Lib.validRune at hv
  simp only [decide_eq_true_eq] at hv
  by_cases h1 : c < 128
  · rw [Lib.encodeRuneZ_one (by omega) (by omega)]
    exact bytes_1 c (by omega) h1 w
  · by_cases h2 : c < 2048
    · rw [Lib.encodeRuneZ_two (by omega) (by omega)]
      exact bytes_2 c (by omega) h2 w
    · by_cases h3 : c < 65536
      · rw [Lib.encodeRuneZ_three (by omega)]
        exact bytes_3 c (by omega) h3 w
      · rw [Lib.encodeRuneZ_four (by omega) (by omega)]
        exact bytes_4 c (by omega) (by omega) w
end Go.Proofs.YtlkphbcdgkjnoaaDoor
