/- A scheduler that is not there: what each call answers; SchedNil's walk. -/
import Derived.Test.YtlkphbcdgkjnoaaM9
namespace Go.Proofs.Ytlkphbcdgkjnoaa
open Go.RowKit Go.Maps

set_option maxRecDepth 100000 in
set_option maxHeartbeats 1000000 in
theorem nil_pick (n : Int) (w : World) : Calls Try.prog 10 #[.pointer none, .int .u64 n] w fun e w' => e = .returned (.tuple #[.int .u64 0, .int .i64 1]) ∧ Below w.heap.size w w' := by
  go_enter Try.func10, Try.ntmps10
  go_wp2_with (go_at_call 24; refine (none_nil _).mono ?_; rintro e w1 ⟨rfl, rfl⟩)
  go_ret2
  exact ⟨rfl, ((Below.refl _ w).alloc (Nat.le_refl _) _).alloc (by simp) _⟩

set_option maxRecDepth 100000 in
set_option maxHeartbeats 1000000 in
theorem nil_tick (n : Int) (w : World) : Calls Try.prog 12 #[.pointer none, .int .u64 n] w fun e w' => e = .returned (.tuple #[.slice none 0 0, .int .i64 1]) ∧ Below w.heap.size w w' := by
  go_enter Try.func12, Try.ntmps12
  go_wp2_with (go_at_call 24; refine (none_nil _).mono ?_; rintro e w1 ⟨rfl, rfl⟩)
  go_ret2
  exact ⟨rfl, Below.refl _ _⟩

set_option maxRecDepth 100000 in
set_option maxHeartbeats 1000000 in
theorem nil_next  (w : World) : Calls Try.prog 18 #[.pointer none] w fun e w' => e = .returned (.tuple #[.int .u64 0, .bool false]) ∧ Below w.heap.size w w' := by
  go_enter Try.func18, Try.ntmps18
  go_wp2_with (go_at_call 24; refine (none_nil _).mono ?_; rintro e w1 ⟨rfl, rfl⟩)
  go_ret2
  exact ⟨rfl, Below.refl _ _⟩

set_option maxRecDepth 100000 in
set_option maxHeartbeats 1000000 in
theorem nil_add (n : Int) (w : World) : Calls Try.prog 9 #[.pointer none, .int .u64 n] w fun e w' => e = .returned (.int .i64 1) ∧ Below w.heap.size w w' := by
  go_enter Try.func9, Try.ntmps9
  go_wp2_with (go_at_call 24; refine (none_nil _).mono ?_; rintro e w1 ⟨rfl, rfl⟩)
  go_ret
  exact ⟨rfl, Below.refl _ _⟩

set_option maxRecDepth 100000 in
set_option maxHeartbeats 1000000 in
theorem nil_find (n : Int) (w : World) : Calls Try.prog 26 #[.pointer none, .int .u64 n] w fun e w' => e = .returned (.tuple #[.pointer none, .int .i64 1]) ∧ Below w.heap.size w w' := by
  go_enter Try.func26, Try.ntmps26
  go_wp2_with (go_at_call 24; refine (none_nil _).mono ?_; rintro e w1 ⟨rfl, rfl⟩)
  go_ret2
  exact ⟨rfl, Below.refl _ _⟩

set_option maxRecDepth 100000 in
set_option maxHeartbeats 1000000 in
theorem nil_done (n : Int) (w : World) : Calls Try.prog 19 #[.pointer none, .int .u64 n] w fun e w' => e = .returned (.int .i64 1) ∧ Below w.heap.size w w' := by
  go_enter Try.func19, Try.ntmps19
  go_wp2_with (go_at_call 26; refine (nil_find _ _).mono ?_; rintro e w1 ⟨rfl, hB1⟩)
  go_ret
  first | exact ⟨rfl, hB1⟩ | exact ⟨rfl, hB1.alloc hB1.size _⟩

set_option maxRecDepth 100000 in
set_option maxHeartbeats 1000000 in
theorem nil_sleep (n : Int) (w : World) : Calls Try.prog 20 #[.pointer none, .int .u64 n] w fun e w' => e = .returned (.int .i64 1) ∧ Below w.heap.size w w' := by
  go_enter Try.func20, Try.ntmps20
  go_wp2_with (go_at_call 26; refine (nil_find _ _).mono ?_; rintro e w1 ⟨rfl, hB1⟩)
  go_ret
  first | exact ⟨rfl, hB1⟩ | exact ⟨rfl, hB1.alloc hB1.size _⟩

set_option maxRecDepth 100000 in
set_option maxHeartbeats 1000000 in
theorem nil_until (n m : Int) (w : World) : Calls Try.prog 11 #[.pointer none, .int .u64 n, .int .u64 m] w fun e w' => e = .returned (.int .i64 1) ∧ Below w.heap.size w w' := by
  go_enter Try.func11, Try.ntmps11
  go_wp2_with (go_at_call 26; refine (nil_find _ _).mono ?_; rintro e w1 ⟨rfl, hB1⟩)
  go_ret
  first | exact ⟨rfl, hB1⟩ | exact ⟨rfl, hB1.alloc hB1.size _⟩

set_option maxRecDepth 100000 in
set_option maxHeartbeats 1000000 in
theorem nil_wake (n : Int) (w : World) : Calls Try.prog 21 #[.pointer none, .int .u64 n] w fun e w' => e = .returned (.int .i64 1) ∧ Below w.heap.size w w' := by
  go_enter Try.func21, Try.ntmps21
  go_wp2_with (go_at_call 26; refine (nil_find _ _).mono ?_; rintro e w1 ⟨rfl, hB1⟩)
  go_ret
  first | exact ⟨rfl, hB1⟩ | exact ⟨rfl, hB1.alloc hB1.size _⟩

set_option maxRecDepth 100000 in
set_option maxHeartbeats 1000000 in
theorem nil_now  (w : World) : Calls Try.prog 13 #[.pointer none] w fun e w' => e = .returned (.int .u64 0) ∧ Below w.heap.size w w' := by
  go_enter Try.func13, Try.ntmps13
  go_wp2_with (go_at_call 24; refine (none_nil _).mono ?_; rintro e w1 ⟨rfl, rfl⟩)
  go_ret
  exact ⟨rfl, Below.refl _ _⟩

set_option maxRecDepth 100000 in
set_option maxHeartbeats 1000000 in
theorem nil_ready  (w : World) : Calls Try.prog 22 #[.pointer none] w fun e w' => e = .returned (.slice none 0 0) ∧ Below w.heap.size w w' := by
  go_enter Try.func22, Try.ntmps22
  go_wp2_with (go_at_call 24; refine (none_nil _).mono ?_; rintro e w1 ⟨rfl, rfl⟩)
  go_ret
  first | exact ⟨rfl, Below.refl _ _⟩ | exact ⟨rfl, (Below.refl _ w).alloc (Nat.le_refl _) _⟩

set_option maxRecDepth 100000 in
set_option maxHeartbeats 1000000 in
theorem nil_all  (w : World) : Calls Try.prog 23 #[.pointer none] w fun e w' => e = .returned (.slice none 0 0) ∧ Below w.heap.size w w' := by
  go_enter Try.func23, Try.ntmps23
  go_wp2_with (go_at_call 24; refine (none_nil _).mono ?_; rintro e w1 ⟨rfl, rfl⟩)
  go_ret
  exact ⟨rfl, Below.refl _ _⟩

set_option maxRecDepth 100000 in
set_option maxHeartbeats 1000000 in
theorem nil_copy  (w : World) : Calls Try.prog 14 #[.pointer none] w fun e w' => e = .returned (.pointer none) ∧ Below w.heap.size w w' := by
  go_enter Try.func14, Try.ntmps14
  go_wp2_with (go_at_call 24; refine (none_nil _).mono ?_; rintro e w1 ⟨rfl, rfl⟩)
  go_ret
  exact ⟨rfl, Below.refl _ _⟩

set_option maxRecDepth 100000 in
set_option maxHeartbeats 4000000 in
theorem nil_any (a b : Int) (w : World) : Calls Try.prog 6 #[.int .u64 a, .int .u64 b] w fun e w' => e = .returned (.bool true) ∧ Below w.heap.size w w' := by
  go_enter Try.func6, Try.ntmps6
  go_wp2_with fail
  refine (nil_pick b w).mono ?_
  rintro e w1 ⟨rfl, h1⟩
  have B1 := h1
  go_wp2_with fail
  refine (nil_tick b w1).mono ?_
  rintro e w2 ⟨rfl, h2⟩
  have B2 := B1.trans (h2.mono B1.size)
  clear h2 B1
  go_wp2_with fail
  refine (nil_next  w2).mono ?_
  rintro e w3 ⟨rfl, h3⟩
  have B3 := B2.trans (h3.mono B2.size)
  clear h3 B2
  go_wp2_with fail
  refine (nil_add a w3).mono ?_
  rintro e w4 ⟨rfl, h4⟩
  have B4 := B3.trans (h4.mono B3.size)
  clear h4 B3
  go_wp2_with fail
  refine (nil_done a w4).mono ?_
  rintro e w5 ⟨rfl, h5⟩
  have B5 := B4.trans (h5.mono B4.size)
  clear h5 B4
  go_wp2_with fail
  refine (nil_sleep a w5).mono ?_
  rintro e w6 ⟨rfl, h6⟩
  have B6 := B5.trans (h6.mono B5.size)
  clear h6 B5
  go_wp2_with fail
  refine (nil_until a b w6).mono ?_
  rintro e w7 ⟨rfl, h7⟩
  have B7 := B6.trans (h7.mono B6.size)
  clear h7 B6
  go_wp2_with fail
  refine (nil_wake a w7).mono ?_
  rintro e w8 ⟨rfl, h8⟩
  have B8 := B7.trans (h8.mono B7.size)
  clear h8 B7
  go_wp2_with fail
  refine (nil_now  w8).mono ?_
  rintro e w9 ⟨rfl, h9⟩
  have B9 := B8.trans (h9.mono B8.size)
  clear h9 B8
  go_wp2_with fail
  refine (nil_ready  w9).mono ?_
  rintro e w10 ⟨rfl, h10⟩
  have B10 := B9.trans (h10.mono B9.size)
  clear h10 B9
  go_wp2_with fail
  refine (nil_all  w10).mono ?_
  rintro e w11 ⟨rfl, h11⟩
  have B11 := B10.trans (h11.mono B10.size)
  clear h11 B10
  go_wp2_with fail
  refine (nil_copy  w11).mono ?_
  rintro e w12 ⟨rfl, h12⟩
  have B12 := B11.trans (h12.mono B11.size)
  clear h12 B11
  go_wp2_with fail
  refine (alive_any w12).mono ?_
  rintro e w13 ⟨rfl, h13⟩
  go_wp2
  go_ret
  exact ⟨rfl, B12.trans (h13.mono B12.size)⟩
end Go.Proofs.Ytlkphbcdgkjnoaa
