/- The reference's begins. Conditions: of two or three bytes. -/
import Derived.Test.YtlkphbcdgkjnoaaDoorB3
namespace Go.Proofs.YtlkphbcdgkjnoaaDoor
open Go.RowKit Go.Shelf

/-- The reference's 'begins'. -/
def Beg (l : List UInt8) : Prop := Pass l 1 ∧ (l.length = 2 ∨ Pass l 2)
instance (l : List UInt8) : Decidable (Beg l) := by unfold Beg; exact inferInstance
theorem rooms (b : Int) : ((b < 194 ∨ 244 < b) ∧ lenOf b ≤ 1) ∨ (194 ≤ b ∧ b ≤ 223 ∧ lenOf b = 2 ∧ lowOf b = 128 ∧ highOf b = 191) ∨ (b = 224 ∧ lenOf b = 3 ∧ lowOf b = 160 ∧ highOf b = 191) ∨
    (b = 237 ∧ lenOf b = 3 ∧ lowOf b = 128 ∧ highOf b = 159) ∨ (225 ≤ b ∧ b ≤ 239 ∧ b ≠ 237 ∧ lenOf b = 3 ∧ lowOf b = 128 ∧ highOf b = 191) ∨ (b = 240 ∧ lenOf b = 4 ∧ lowOf b = 144 ∧ highOf b = 191) ∨
    (241 ≤ b ∧ b ≤ 243 ∧ lenOf b = 4 ∧ lowOf b = 128 ∧ highOf b = 191) ∨ (b = 244 ∧ lenOf b = 4 ∧ lowOf b = 128 ∧ highOf b = 143) := by
  have c : (b < 194 ∨ 244 < b) ∨ (194 ≤ b ∧ b ≤ 223) ∨ b = 224 ∨ b = 237 ∨ (225 ≤ b ∧ b ≤ 239 ∧ b ≠ 237) ∨ b = 240 ∨ (241 ≤ b ∧ b ≤ 243) ∨ b = 244 := by omega
  rcases c with c | c | c | c | c | c | c | c
  · exact .inl ⟨c, by unfold lenOf; (repeat' split) <;> omega⟩
  · exact .inr (.inl ⟨c.1, c.2, by unfold lenOf; (repeat' split) <;> omega, by unfold lowOf; (repeat' split) <;> omega, by unfold highOf; (repeat' split) <;> omega⟩)
  · exact .inr (.inr (.inl ⟨c, by unfold lenOf; (repeat' split) <;> omega, by unfold lowOf; (repeat' split) <;> omega, by unfold highOf; (repeat' split) <;> omega⟩))
  · exact .inr (.inr (.inr (.inl ⟨c, by unfold lenOf; (repeat' split) <;> omega, by unfold lowOf; (repeat' split) <;> omega, by unfold highOf; (repeat' split) <;> omega⟩)))
  · exact .inr (.inr (.inr (.inr (.inl ⟨c.1, c.2.1, c.2.2, by unfold lenOf; (repeat' split) <;> omega, by unfold lowOf; (repeat' split) <;> omega, by unfold highOf; (repeat' split) <;> omega⟩))))
  · exact .inr (.inr (.inr (.inr (.inr (.inl ⟨c, by unfold lenOf; (repeat' split) <;> omega, by unfold lowOf; (repeat' split) <;> omega, by unfold highOf; (repeat' split) <;> omega⟩)))))
  · exact .inr (.inr (.inr (.inr (.inr (.inr (.inl ⟨c.1, c.2, by unfold lenOf; (repeat' split) <;> omega, by unfold lowOf; (repeat' split) <;> omega, by unfold highOf; (repeat' split) <;> omega⟩))))))
  · exact .inr (.inr (.inr (.inr (.inr (.inr (.inr ⟨c, by unfold lenOf; (repeat' split) <;> omega, by unfold lowOf; (repeat' split) <;> omega, by unfold highOf; (repeat' split) <;> omega⟩))))))
theorem beg2 {l : List UInt8} {b0 b1 : Int} (h : l.length = 2) (e0 : bt l 0 = b0) (e1 : bt l 1 = b1) : Beg l ↔ (1 < lenOf b0 ∧ lowOf b0 ≤ b1 ∧ b1 ≤ highOf b0) := by
  subst e0 e1
  unfold Beg Pass loAt hiAt
  rw [h]
  simp
theorem beg3 {l : List UInt8} {b0 b1 b2 : Int} (h : l.length = 3) (e0 : bt l 0 = b0) (e1 : bt l 1 = b1) (e2 : bt l 2 = b2) : Beg l ↔ (1 < lenOf b0 ∧ lowOf b0 ≤ b1 ∧ b1 ≤ highOf b0 ∧ 2 < lenOf b0 ∧ 128 ≤ b2 ∧ b2 ≤ 191) := by
  subst e0 e1 e2
  unfold Beg Pass loAt hiAt
  rw [h]
  simp
  omega
set_option maxRecDepth 100000 in
set_option maxHeartbeats 4000000 in
theorem begins_2 (s : ByteArray) (h : s.size = 2) (w : World) :
    Calls Tryd.prog 28 #[.string s] w fun e w' => e = .returned (.bool (decide (Beg s.data.toList))) ∧ Below w.heap.size w w' := by
  have h0 : 0 < s.size := by omega
  have h1 : 1 < s.size := by omega
  have hb0 := bt_get s 0 h0
  have HB0 := Lib.hid hb0
  have B0 := byteLt s[0]
  have i0 : (0 : Int) < s.size := by omega
  have hb1 := bt_get s 1 h1
  have HB1 := Lib.hid hb1
  have B1 := byteLt s[1]
  have i1 : (1 : Int) < s.size := by omega
  have t2 : ((s.size : Int) == 2) = true := by rw [h]; rfl
  have H := Lib.hid h
  clear h hb0 hb1
  go_enter Tryd.func28, Tryd.ntmps28
  go_wp2
  go_quiet (fail)
  generalize (s[0].toNat : Int) = b0 at *
  generalize (s[1].toNat : Int) = b1 at *
  go_wp2
  all_goals
    go_ret
    refine ⟨ret1b ?_, Below.drewN' _ _ _⟩
    have R := rooms b0
    simp only [beq_iff_eq, beq_eq_false_iff_ne, ne_eq] at *
    first
      | exact (decide_eq_true ((beg2 H.out HB0.out HB1.out).2 (by omega))).symm
      | exact (decide_eq_false (fun h => by have h' := (beg2 H.out HB0.out HB1.out).1 h; omega)).symm
set_option maxRecDepth 100000 in
set_option maxHeartbeats 4000000 in
theorem begins_3 (s : ByteArray) (h : s.size = 3) (w : World) :
    Calls Tryd.prog 28 #[.string s] w fun e w' => e = .returned (.bool (decide (Beg s.data.toList))) ∧ Below w.heap.size w w' := by
  have h0 : 0 < s.size := by omega
  have h1 : 1 < s.size := by omega
  have h2 : 2 < s.size := by omega
  have hb0 := bt_get s 0 h0
  have HB0 := Lib.hid hb0
  have B0 := byteLt s[0]
  have i0 : (0 : Int) < s.size := by omega
  have hb1 := bt_get s 1 h1
  have HB1 := Lib.hid hb1
  have B1 := byteLt s[1]
  have i1 : (1 : Int) < s.size := by omega
  have hb2 := bt_get s 2 h2
  have HB2 := Lib.hid hb2
  have B2 := byteLt s[2]
  have i2 : (2 : Int) < s.size := by omega
  have t2 : ((s.size : Int) == 2) = false := by rw [h]; rfl
  have H := Lib.hid h
  clear h hb0 hb1 hb2
  go_enter Tryd.func28, Tryd.ntmps28
  go_wp2
  go_quiet (fail)
  generalize (s[0].toNat : Int) = b0 at *
  generalize (s[1].toNat : Int) = b1 at *
  go_wp2
  all_goals
    go_ret
    refine ⟨ret1b ?_, Below.drewN' _ _ _⟩
    generalize (s[2].toNat : Int) = b2 at *
    have R := rooms b0
    simp only [beq_iff_eq, beq_eq_false_iff_ne, ne_eq] at *
    first
      | exact (decide_eq_true ((beg3 H.out HB0.out HB1.out HB2.out).2 (by omega))).symm
      | exact (decide_eq_false (fun h => by have h' := (beg3 H.out HB0.out HB1.out HB2.out).1 h; omega)).symm
      | exact decide_eq_decide.2 ⟨fun h => (beg3 H.out HB0.out HB1.out HB2.out).2 (by omega), fun h => by have h' := (beg3 H.out HB0.out HB1.out HB2.out).1 h; omega⟩
theorem begins_any (s : ByteArray) (h1 : 2 ≤ s.size) (h4 : s.size ≤ 3) (w : World) :
    Calls Tryd.prog 28 #[.string s] w fun e w' => e = .returned (.bool (decide (Beg s.data.toList))) ∧ Below w.heap.size w w' := by
  obtain h | h : s.size = 2 ∨ s.size = 3 := by omega
  · exact begins_2 s h w
  · exact begins_3 s h w
end Go.Proofs.YtlkphbcdgkjnoaaDoor
