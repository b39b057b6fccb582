/- Plain laws of writing and reading: the bytes of a scalar are read as that scalar, and what is read whole is written as it stood. No program in sight. -/
import Derived.Test.YtlkphbcdgkjnoaaDoorS2
import Derived.Lib.RuneBytes
import Derived.Lib.Small
import Derived.Laws.BytesArg
namespace Go.Proofs.YtlkphbcdgkjnoaaDoor

/-- The bytes of a code point. -/
def encB (z : Int) : List UInt8 := (Lib.encodeRuneZ z).map fun n => UInt8.ofNat n.toNat
theorem bt_cons (x : UInt8) (l : List UInt8) (j : Nat) : bt (x :: l) (j + 1) = bt l j := by
  unfold bt
  simp
theorem bt_zero (x : UInt8) (l : List UInt8) : bt (x :: l) 0 = (x.toNat : Int) := rfl
theorem ofNat_toNat {n : Int} (h0 : 0 ≤ n) (h1 : n < 256) : (((UInt8.ofNat n.toNat).toNat : Nat) : Int) = n := by
  rw [UInt8.toNat_ofNat']
  omega
theorem ofNat_bt (l : List UInt8) (j : Nat) : UInt8.ofNat (bt l j).toNat = l.getD j 0 := by
  unfold bt
  rw [Int.toNat_natCast]
  exact UInt8.ofNat_toNat

theorem validRune_iff (z : Int) : Lib.validRune z = true ↔ (0 ≤ z ∧ z < 55296) ∨ (57343 < z ∧ z ≤ 1114111) := by
  unfold Lib.validRune
  simp

/-- The bytes of a scalar, whatever follows, are read as that scalar. -/
theorem nx_encB (z : Int) (m : List UInt8) (hv : Lib.validRune z = true) : nx (encB z ++ m) = (z, (encB z).length, true) := by
  rw [validRune_iff] at hv
  by_cases c1 : z ≤ 127
  · have e : encB z ++ m = UInt8.ofNat z.toNat :: m := by rw [encB, Lib.encodeRuneZ_one (by omega) c1]; rfl
    have el : (encB z).length = 1 := by rw [encB, Lib.encodeRuneZ_one (by omega) c1]; rfl
    rw [e, el]
    have h0 : bt (UInt8.ofNat z.toNat :: m) 0 = z := by rw [bt_zero]; exact ofNat_toNat (by omega) (by omega)
    have hl : lenOf z = 1 := by unfold lenOf; rw [if_pos (by omega)]
    rw [nx_good (k := 1) (by simp) (runLen_of (Nat.le_refl _) (fun i h1 h2 => by omega) (fun p => by have := p.1; rw [h0, hl] at this; omega)) (by rw [h0, hl]; rfl)]
    rw [show val (UInt8.ofNat z.toNat :: m) 1 = z from by unfold val; rw [if_pos rfl, h0]]
  by_cases c2 : z ≤ 2047
  · obtain ⟨x0, hx0⟩ : ∃ x, UInt8.ofNat (192 + z / 64).toNat = x := ⟨_, rfl⟩
    obtain ⟨x1, hx1⟩ : ∃ x, UInt8.ofNat (128 + z % 64).toNat = x := ⟨_, rfl⟩
    have n0 : (x0.toNat : Int) = 192 + z / 64 := by rw [← hx0]; exact ofNat_toNat (by omega) (by omega)
    have n1 : (x1.toNat : Int) = 128 + z % 64 := by rw [← hx1]; exact ofNat_toNat (by omega) (by omega)
    have ee : encB z = [x0, x1] := by rw [encB, Lib.encodeRuneZ_two (by omega) c2, ← hx0, ← hx1]; rfl
    rw [ee]
    have h0 : bt ([x0, x1] ++ m) 0 = 192 + z / 64 := n0
    have h1 : bt ([x0, x1] ++ m) 1 = 128 + z % 64 := n1
    have hl : lenOf (192 + z / 64) = 2 := by unfold lenOf; (repeat' split) <;> omega
    have r := room2 (192 + z / 64) (by omega)
    have p1 : Pass ([x0, x1] ++ m) 1 := by
      refine ⟨by rw [h0, hl]; decide, by simp, ?_, ?_⟩
      · unfold loAt; rw [if_pos rfl, h0, h1, r.1]; omega
      · unfold hiAt; rw [if_pos rfl, h0, h1, r.2]; omega
    rw [nx_good (k := 2) (by simp) (runLen_of (by omega) (fun i h1 h2 => by obtain rfl : i = 1 := by omega
                                                                            exact p1) (fun p => by have := p.1; rw [h0, hl] at this; omega)) (by rw [h0, hl]; rfl)]
    rw [show val ([x0, x1] ++ m) 2 = z from by unfold val; rw [if_neg (by decide), if_pos rfl, h0, h1]; omega]
    rfl
  by_cases c3 : z ≤ 65535
  · obtain ⟨x0, hx0⟩ : ∃ x, UInt8.ofNat (224 + z / 4096).toNat = x := ⟨_, rfl⟩
    obtain ⟨x1, hx1⟩ : ∃ x, UInt8.ofNat (128 + z / 64 % 64).toNat = x := ⟨_, rfl⟩
    obtain ⟨x2, hx2⟩ : ∃ x, UInt8.ofNat (128 + z % 64).toNat = x := ⟨_, rfl⟩
    have n0 : (x0.toNat : Int) = 224 + z / 4096 := by rw [← hx0]; exact ofNat_toNat (by omega) (by omega)
    have n1 : (x1.toNat : Int) = 128 + z / 64 % 64 := by rw [← hx1]; exact ofNat_toNat (by omega) (by omega)
    have n2 : (x2.toNat : Int) = 128 + z % 64 := by rw [← hx2]; exact ofNat_toNat (by omega) (by omega)
    have ee : encB z = [x0, x1, x2] := by rw [encB, Lib.encodeRuneZ_three (by omega), ← hx0, ← hx1, ← hx2]; rfl
    rw [ee]
    have h0 : bt ([x0, x1, x2] ++ m) 0 = 224 + z / 4096 := n0
    have h1 : bt ([x0, x1, x2] ++ m) 1 = 128 + z / 64 % 64 := n1
    have h2 : bt ([x0, x1, x2] ++ m) 2 = 128 + z % 64 := n2
    have hl : lenOf (224 + z / 4096) = 3 := by unfold lenOf; (repeat' split) <;> omega
    have q1 : lowOf (224 + z / 4096) ≤ 128 + z / 64 % 64 := by unfold lowOf; (repeat' split) <;> omega
    have q2 : 128 + z / 64 % 64 ≤ highOf (224 + z / 4096) := by unfold highOf; (repeat' split) <;> omega
    have p1 : Pass ([x0, x1, x2] ++ m) 1 := by
      refine ⟨by rw [h0, hl]; decide, by simp, ?_, ?_⟩
      · unfold loAt; rw [if_pos rfl, h0, h1]; exact q1
      · unfold hiAt; rw [if_pos rfl, h0, h1]; exact q2
    have p2 : Pass ([x0, x1, x2] ++ m) 2 := by
      refine ⟨by rw [h0, hl]; decide, by simp, ?_, ?_⟩
      · unfold loAt; rw [if_neg (by decide), h2]; omega
      · unfold hiAt; rw [if_neg (by decide), h2]; omega
    rw [nx_good (k := 3) (by simp) (runLen_of (by omega) (fun i h1 h2 => by obtain rfl | rfl : i = 1 ∨ i = 2 := by omega
                                                                            · exact p1
                                                                            · exact p2) (fun p => by have := p.1; rw [h0, hl] at this; omega)) (by rw [h0, hl]; rfl)]
    rw [show val ([x0, x1, x2] ++ m) 3 = z from by unfold val; rw [if_neg (by decide), if_neg (by decide), if_pos rfl, h0, h1, h2]; omega]
    rfl
  · obtain ⟨x0, hx0⟩ : ∃ x, UInt8.ofNat (240 + z / 262144).toNat = x := ⟨_, rfl⟩
    obtain ⟨x1, hx1⟩ : ∃ x, UInt8.ofNat (128 + z / 4096 % 64).toNat = x := ⟨_, rfl⟩
    obtain ⟨x2, hx2⟩ : ∃ x, UInt8.ofNat (128 + z / 64 % 64).toNat = x := ⟨_, rfl⟩
    obtain ⟨x3, hx3⟩ : ∃ x, UInt8.ofNat (128 + z % 64).toNat = x := ⟨_, rfl⟩
    have n0 : (x0.toNat : Int) = 240 + z / 262144 := by rw [← hx0]; exact ofNat_toNat (by omega) (by omega)
    have n1 : (x1.toNat : Int) = 128 + z / 4096 % 64 := by rw [← hx1]; exact ofNat_toNat (by omega) (by omega)
    have n2 : (x2.toNat : Int) = 128 + z / 64 % 64 := by rw [← hx2]; exact ofNat_toNat (by omega) (by omega)
    have n3 : (x3.toNat : Int) = 128 + z % 64 := by rw [← hx3]; exact ofNat_toNat (by omega) (by omega)
    have ee : encB z = [x0, x1, x2, x3] := by rw [encB, Lib.encodeRuneZ_four (by omega) (by omega), ← hx0, ← hx1, ← hx2, ← hx3]; rfl
    rw [ee]
    have h0 : bt ([x0, x1, x2, x3] ++ m) 0 = 240 + z / 262144 := n0
    have h1 : bt ([x0, x1, x2, x3] ++ m) 1 = 128 + z / 4096 % 64 := n1
    have h2 : bt ([x0, x1, x2, x3] ++ m) 2 = 128 + z / 64 % 64 := n2
    have h3 : bt ([x0, x1, x2, x3] ++ m) 3 = 128 + z % 64 := n3
    have hl : lenOf (240 + z / 262144) = 4 := by unfold lenOf; (repeat' split) <;> omega
    have q1 : lowOf (240 + z / 262144) ≤ 128 + z / 4096 % 64 := by unfold lowOf; (repeat' split) <;> omega
    have q2 : 128 + z / 4096 % 64 ≤ highOf (240 + z / 262144) := by unfold highOf; (repeat' split) <;> omega
    have p1 : Pass ([x0, x1, x2, x3] ++ m) 1 := by
      refine ⟨by rw [h0, hl]; decide, by simp, ?_, ?_⟩
      · unfold loAt; rw [if_pos rfl, h0, h1]; exact q1
      · unfold hiAt; rw [if_pos rfl, h0, h1]; exact q2
    have p2 : Pass ([x0, x1, x2, x3] ++ m) 2 := by
      refine ⟨by rw [h0, hl]; decide, by simp, ?_, ?_⟩
      · unfold loAt; rw [if_neg (by decide), h2]; omega
      · unfold hiAt; rw [if_neg (by decide), h2]; omega
    have p3 : Pass ([x0, x1, x2, x3] ++ m) 3 := by
      refine ⟨by rw [h0, hl]; decide, by simp, ?_, ?_⟩
      · unfold loAt; rw [if_neg (by decide), h3]; omega
      · unfold hiAt; rw [if_neg (by decide), h3]; omega
    rw [nx_good (k := 4) (by simp) (runLen_of (by omega) (fun i h1 h2 => by obtain rfl | rfl | rfl : i = 1 ∨ i = 2 ∨ i = 3 := by omega
                                                                            · exact p1
                                                                            · exact p2
                                                                            · exact p3) (fun p => by have := p.1; rw [h0, hl] at this; omega)) (by rw [h0, hl]; rfl)]
    rw [show val ([x0, x1, x2, x3] ++ m) 4 = z from by unfold val; rw [if_neg (by decide), if_neg (by decide), if_neg (by decide), h0, h1, h2, h3]; omega]
    rfl

theorem ofN {x : UInt8} {n : Int} (h : n = (x.toNat : Int)) : UInt8.ofNat n.toNat = x := by
  rw [h, Int.toNat_natCast]
  exact UInt8.ofNat_toNat
theorem lenOf_one {b : Int} (h : 1 = lenOf b) : b < 128 := by
  unfold lenOf at h
  repeat' split at h
  all_goals omega
theorem lenOf_two {b : Int} (h : 2 = lenOf b) : 194 ≤ b ∧ b ≤ 223 := by
  unfold lenOf at h
  repeat' split at h
  all_goals omega
theorem lenOf_three {b : Int} (h : 3 = lenOf b) : 224 ≤ b ∧ b ≤ 239 := by
  unfold lenOf at h
  repeat' split at h
  all_goals omega
theorem lenOf_four {b : Int} (h : 4 = lenOf b) : 240 ≤ b ∧ b ≤ 244 := by
  unfold lenOf at h
  repeat' split at h
  all_goals omega

theorem cons1 {l : List UInt8} (h : 1 ≤ l.length) : ∃ a r, l = a :: r := by
  match l, h with
  | a :: r, _ => exact ⟨a, r, rfl⟩
theorem cons2 {l : List UInt8} (h : 2 ≤ l.length) : ∃ a b r, l = a :: b :: r := by
  match l, h with
  | a :: b :: r, _ => exact ⟨a, b, r, rfl⟩
theorem cons3 {l : List UInt8} (h : 3 ≤ l.length) : ∃ a b c r, l = a :: b :: c :: r := by
  match l, h with
  | a :: b :: c :: r, _ => exact ⟨a, b, c, r, rfl⟩
theorem cons4 {l : List UInt8} (h : 4 ≤ l.length) : ∃ a b c d r, l = a :: b :: c :: d :: r := by
  match l, h with
  | a :: b :: c :: d :: r, _ => exact ⟨a, b, c, d, r, rfl⟩

set_option maxRecDepth 100000 in
/-- What is read whole is a scalar, and its bytes are those that stood there. -/
theorem encB_nx {l : List UInt8} (h : l ≠ []) (hw : (nx l).2.2 = true) : Lib.validRune (nx l).1 = true ∧ encB (nx l).1 = l.take (nx l).2.1 := by
  have hi := (nx_whole_iff h).1 hw
  have hle := runLen_le h
  have hp := fun i h1 h2 => pass_of_runLen (l := l) (i := i) h1 h2
  have h4 : runLen l ≤ 4 := by have := lenOf_le (bt l 0); omega
  rw [nx_good h rfl hi]
  dsimp only
  have hpos := runLen_pos l
  generalize runLen l = k at hi hle hp h4 hpos
  obtain rfl | rfl | rfl | rfl : k = 1 ∨ k = 2 ∨ k = 3 ∨ k = 4 := by omega
  · obtain ⟨x0, r, rfl⟩ := cons1 hle
    have hb := lenOf_one hi
    rw [bt_zero] at hb
    have hv : val (x0 :: r) 1 = (x0.toNat : Int) := by unfold val; rw [if_pos rfl, bt_zero]
    rw [hv]
    refine ⟨by rw [validRune_iff]; omega, ?_⟩
    rw [encB, Lib.encodeRuneZ_one (by omega) (by omega)]
    simp
  · obtain ⟨x0, x1, r, rfl⟩ := cons2 hle
    have hb := lenOf_two hi
    have p1 := hp 1 (by omega) (by omega)
    obtain ⟨_, _, q1, q2⟩ := p1
    have e0 : bt (x0 :: x1 :: r) 0 = (x0.toNat : Int) := rfl
    have e1 : bt (x0 :: x1 :: r) 1 = (x1.toNat : Int) := rfl
    rw [e0] at hb
    have rr := room2 _ hb
    unfold loAt at q1
    unfold hiAt at q2
    rw [if_pos rfl, e0, e1] at q1 q2
    rw [rr.1] at q1
    rw [rr.2] at q2
    have hv : val (x0 :: x1 :: r) 2 = (x0.toNat : Int) % 32 * 64 + (x1.toNat : Int) % 64 := by unfold val; rw [if_neg (by decide), if_pos rfl, e0, e1]
    rw [hv]
    refine ⟨by rw [validRune_iff]; omega, ?_⟩
    rw [encB, Lib.encodeRuneZ_two (by omega) (by omega)]
    simp only [List.map_cons, List.map_nil, List.take_succ_cons, List.take_zero]
    rw [ofN (x := x0) (by omega), ofN (x := x1) (by omega)]
  · obtain ⟨x0, x1, x2, r, rfl⟩ := cons3 hle
    have hb := lenOf_three hi
    obtain ⟨_, _, q1, q2⟩ := hp 1 (by omega) (by omega)
    obtain ⟨_, _, q3, q4⟩ := hp 2 (by omega) (by omega)
    have e0 : bt (x0 :: x1 :: x2 :: r) 0 = (x0.toNat : Int) := rfl
    have e1 : bt (x0 :: x1 :: x2 :: r) 1 = (x1.toNat : Int) := rfl
    have e2 : bt (x0 :: x1 :: x2 :: r) 2 = (x2.toNat : Int) := rfl
    rw [e0] at hb
    have rr := room3 _ hb
    unfold loAt at q1 q3
    unfold hiAt at q2 q4
    rw [if_pos rfl, e0, e1] at q1 q2
    rw [if_neg (by decide), e2] at q3 q4
    have hv : val (x0 :: x1 :: x2 :: r) 3 = (x0.toNat : Int) % 16 * 4096 + (x1.toNat : Int) % 64 * 64 + (x2.toNat : Int) % 64 := by unfold val; rw [if_neg (by decide), if_neg (by decide), if_pos rfl, e0, e1, e2]
    rw [hv]
    have hvalid : Lib.validRune ((x0.toNat : Int) % 16 * 4096 + (x1.toNat : Int) % 64 * 64 + (x2.toNat : Int) % 64) = true := by rw [validRune_iff]; omega
    refine ⟨hvalid, ?_⟩
    rw [validRune_iff] at hvalid
    rw [encB, Lib.encodeRuneZ_three (by omega)]
    simp only [List.map_cons, List.map_nil, List.take_succ_cons, List.take_zero]
    rw [ofN (x := x0) (by omega), ofN (x := x1) (by omega), ofN (x := x2) (by omega)]
  · obtain ⟨x0, x1, x2, x3, r, rfl⟩ := cons4 hle
    have hb := lenOf_four hi
    obtain ⟨_, _, q1, q2⟩ := hp 1 (by omega) (by omega)
    obtain ⟨_, _, q3, q4⟩ := hp 2 (by omega) (by omega)
    obtain ⟨_, _, q5, q6⟩ := hp 3 (by omega) (by omega)
    have e0 : bt (x0 :: x1 :: x2 :: x3 :: r) 0 = (x0.toNat : Int) := rfl
    have e1 : bt (x0 :: x1 :: x2 :: x3 :: r) 1 = (x1.toNat : Int) := rfl
    have e2 : bt (x0 :: x1 :: x2 :: x3 :: r) 2 = (x2.toNat : Int) := rfl
    have e3 : bt (x0 :: x1 :: x2 :: x3 :: r) 3 = (x3.toNat : Int) := rfl
    rw [e0] at hb
    have rr := room4 _ hb
    unfold loAt at q1 q3 q5
    unfold hiAt at q2 q4 q6
    rw [if_pos rfl, e0, e1] at q1 q2
    rw [if_neg (by decide), e2] at q3 q4
    rw [if_neg (by decide), e3] at q5 q6
    have hv : val (x0 :: x1 :: x2 :: x3 :: r) 4 = (x0.toNat : Int) % 8 * 262144 + (x1.toNat : Int) % 64 * 4096 + (x2.toNat : Int) % 64 * 64 + (x3.toNat : Int) % 64 := by
      unfold val; rw [if_neg (by decide), if_neg (by decide), if_neg (by decide), e0, e1, e2, e3]
    rw [hv]
    have hvalid : Lib.validRune ((x0.toNat : Int) % 8 * 262144 + (x1.toNat : Int) % 64 * 4096 + (x2.toNat : Int) % 64 * 64 + (x3.toNat : Int) % 64) = true := by rw [validRune_iff]; omega
    refine ⟨hvalid, ?_⟩
    rw [encB, Lib.encodeRuneZ_four (by omega) (by omega)]
    simp only [List.map_cons, List.map_nil, List.take_succ_cons, List.take_zero]
    rw [ofN (x := x0) (by omega), ofN (x := x1) (by omega), ofN (x := x2) (by omega), ofN (x := x3) (by omega)]

theorem nx_sign {l : List UInt8} (h : l ≠ []) (hw : (nx l).2.2 = false) : (nx l).1 = 65533 := by
  unfold nx at hw ⊢
  rw [if_neg h] at hw ⊢
  split at hw
  · cases hw
  · rename_i hn
    rw [if_neg hn]
theorem nx_valid {l : List UInt8} (h : l ≠ []) : Lib.validRune (nx l).1 = true := by
  cases hw : (nx l).2.2
  · rw [nx_sign h hw]
    decide
  · exact (encB_nx h hw).1

/-- The bytes of code points, one behind the other. -/
def encL (zs : List Int) : List UInt8 := zs.flatMap encB
theorem encB_ne (z : Int) : encB z ≠ [] := by
  have := (Lib.encodeRuneZ_length z).1
  intro e
  have := congrArg List.length e
  simp only [encB, List.length_map, List.length_nil] at this
  omega
theorem decL_valid (l : List UInt8) : (decL l).all Lib.validRune = true := by
  by_cases h : l = []
  · subst h; rw [decL_nil]; rfl
  · rw [decL_cons h, List.all_cons, nx_valid h, decL_valid (l.drop (nx l).2.1)]
    rfl
termination_by l.length
decreasing_by exact nx_drop_lt h
theorem decL_encL (zs : List Int) (hv : zs.all Lib.validRune = true) : decL (encL zs) = zs ∧ valL (encL zs) = true := by
  induction zs with
  | nil => exact ⟨decL_nil, valL_nil⟩
  | cons z zs ih =>
    rw [List.all_cons, Bool.and_eq_true_iff] at hv
    have e : encL (z :: zs) = encB z ++ encL zs := rfl
    have hne : encB z ++ encL zs ≠ [] := by simp [encB_ne z]
    rw [e, decL_cons hne, valL_cons hne, nx_encB z (encL zs) hv.1]
    dsimp only
    rw [List.drop_left, (ih hv.2).1, (ih hv.2).2]
    exact ⟨rfl, rfl⟩
theorem encL_decL (l : List UInt8) (hv : valL l = true) : encL (decL l) = l := by
  by_cases h : l = []
  · subst h; rw [decL_nil]; rfl
  · rw [valL_cons h] at hv
    obtain ⟨hw, hv⟩ := Bool.and_eq_true_iff.1 hv
    rw [decL_cons h]
    show encB (nx l).1 ++ encL (decL (l.drop (nx l).2.1)) = l
    rw [(encB_nx h hw).2, encL_decL _ hv, List.take_append_drop]
termination_by l.length
decreasing_by exact nx_drop_lt h
theorem encL_len (zs : List Int) : (encL zs).length ≤ 4 * zs.length := by
  induction zs with
  | nil => simp [encL]
  | cons z zs ih =>
    have := (Lib.encodeRuneZ_length z).2
    have e : (encB z).length = (Lib.encodeRuneZ z).length := by simp [encB]
    simp only [encL, List.flatMap_cons, List.length_append, List.length_cons] at ih ⊢
    omega
end Go.Proofs.YtlkphbcdgkjnoaaDoor
