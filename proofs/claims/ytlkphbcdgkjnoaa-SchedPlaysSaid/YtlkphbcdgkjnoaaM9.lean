/- alive: the small known run ends true. -/
import Derived.Test.YtlkphbcdgkjnoaaM6
import Derived.Test.YtlkphbcdgkjnoaaM8
namespace Go.Proofs.Ytlkphbcdgkjnoaa
open Go.RowKit Go.Maps

/-- The two handlers of the small run, by their ages. -/
def five (b5 : Nat) (a : Int) : T := ⟨b5, 5, 0, false, false, 0, a⟩
def seven (b7 : Nat) (c : Int) : T := ⟨b7, 7, 1, false, false, 0, c⟩
def both (b5 b7 : Nat) (a c : Int) : St := ⟨2, 0, 2, [five b5 a, seven b7 c], []⟩
def agA (i : Nat) : Int := if i = 2 then 1 else if i = 5 then 1 else 0
def agC (i : Nat) : Int := if i = 1 then 1 else if i = 3 then 1 else if i = 4 then 2 else 0

theorem both5 {b5 b7 : Nat} (h : b5 ≠ b7) (a c : Int) : picked (both b5 b7 a c) b5 = both b5 b7 0 (c + 1) := by
  simp [picked, both, five, seven, h.symm]
theorem both7 {b5 b7 : Nat} (h : b5 ≠ b7) (a c : Int) : picked (both b5 b7 a c) b7 = both b5 b7 (a + 1) 0 := by
  simp [picked, both, five, seven, h]

theorem wf64 {z : Int} (h0 : 0 ≤ z) (h1 : z < 18446744073709551616) : (Lit.int .u64 z).wf = true := by
  simp [Lit.wf, IntKind.min, IntKind.max, IntKind.signed, IntKind.bits]
  omega

theorem Frm.below {B : Nat} {l : List T} {w W : World} (h : Frm l w W) (hB : ∀ t ∈ l, B ≤ t.b) (hBw : B ≤ w.heap.size) : Below B w W :=
  ⟨h.os, h.tape, h.output, h.size, fun k hk => h.block k (by omega) (fun t ht e => by have := hB t ht; omega)⟩
theorem Frm.blk {l : List T} {w W : World} (h : Frm l w W) {b : Nat} {t : TypeId} {vs : Array Value} (hb : Blk w b t vs) (hl : ∀ u ∈ l, u.b ≠ b) : Blk W b t vs := (h.block b hb.lt hl).trans hb

set_option maxRecDepth 100000 in
set_option maxHeartbeats 4000000 in
theorem alive_any (w : World) : Calls Try.prog 7 #[] w fun e w' => e = .returned (.bool true) ∧ Below w.heap.size w w' := by
  have f5 : (Lit.int .u64 5).wf = true := by decide
  have f7 : (Lit.int .u64 7).wf = true := by decide
  go_enter Try.func7, Try.ntmps7
  go_wp2_with fail
  refine (new_any 2 (by decide) w).mono ?_
  rintro e w1 ⟨s, mb, rfl, h1, B1⟩
  go_wp2_with fail
  refine (add_new h1 f5 rfl (by decide) (by decide) (by decide) (by decide) B1.size).mono ?_
  rintro e w2 ⟨rfl, ⟨va2, h2⟩, B2⟩
  obtain ⟨b5, e5⟩ : ∃ b, w1.heap.size = b := ⟨_, rfl⟩
  rw [e5] at h2
  have h2' : Mem w.heap.size w2 s va2 mb (.slice none 0 0) 1 ⟨2, 0, 1, [five b5 0], []⟩ := h2
  have B12 := B1.trans (B2.mono (Nat.le_refl _))
  have lt5 : b5 < w2.heap.size := (h2'.tasks (five b5 0) (by simp)).lt
  clear h1 h2 e5
  go_wp2_with fail
  refine (add_new h2' f7 rfl (by simp) (by simp) (by simp) (by decide) B12.size).mono ?_
  rintro e w3 ⟨rfl, ⟨va3, h3⟩, B3⟩
  obtain ⟨b7, e7⟩ : ∃ b, w2.heap.size = b := ⟨_, rfl⟩
  rw [e7] at h3 lt5
  have h3' : Mem w.heap.size w3 s va3 mb (.slice none 0 0) 2 (both b5 b7 0 0) := h3
  have hne : b5 ≠ b7 := by omega
  have B13 := B12.trans (B3.mono (Nat.le_refl _))
  clear h2' h3 e7 lt5
  go_wp2_with fail
  refine (add_there h3' f5 (b := b5) rfl).mono ?_
  rintro e w4 ⟨rfl, rfl⟩
  go_wp2_with fail
  obtain ⟨A, cap, rfl⟩ := row_form h3'.all
  have hM4 := (h3'.alloc (.cells #[.int .u64 5, .int .u64 7, .int .u64 5, .int .u64 5, .int .u64 7] 29)).alloc (.cells #[.int .u64 0, .int .u64 1, .int .u64 4, .int .u64 0, .int .u64 0] 29)
  have hW4 := (Blk.new w3 29 #[.int .u64 5, .int .u64 7, .int .u64 5, .int .u64 5, .int .u64 7]).alloc (.cells #[.int .u64 0, .int .u64 1, .int .u64 4, .int .u64 0, .int .u64 0] 29)
  have hN4 := Blk.new (w3.alloc (.cells #[.int .u64 5, .int .u64 7, .int .u64 5, .int .u64 5, .int .u64 7] 29)) 29 #[.int .u64 0, .int .u64 1, .int .u64 4, .int .u64 0, .int .u64 0]
  rw [World.size_alloc] at hN4
  have B14 := (B13.alloc B13.size (.cells #[.int .u64 5, .int .u64 7, .int .u64 5, .int .u64 5, .int .u64 7] 29)).alloc (by have := B13.size; simp; omega) (.cells #[.int .u64 0, .int .u64 1, .int .u64 4, .int .u64 0, .int .u64 0] 29)
  go_loopw [5] (fun i wr => ∃ z a c : Int, i = .int .i64 z ∧ Mem w.heap.size wr s (.slice A 2 cap) mb (.slice none 0 0) 2 (both b5 b7 a c) ∧ Blk wr w3.heap.size 29 #[.int .u64 5, .int .u64 7, .int .u64 5, .int .u64 5, .int .u64 7] ∧ Blk wr (w3.heap.size + 1) 29 #[.int .u64 0, .int .u64 1, .int .u64 4, .int .u64 0, .int .u64 0] ∧ Below w.heap.size w wr ∧
      ((z = 0 ∧ a = 0 ∧ c = 0) ∨ (z = 1 ∧ a = 0 ∧ c = 1) ∨ (z = 2 ∧ a = 1 ∧ c = 0) ∨ (z = 3 ∧ a = 0 ∧ c = 1) ∨ (z = 4 ∧ a = 0 ∧ c = 2) ∨ (z = 5 ∧ a = 1 ∧ c = 0))) (fun i _ => 5 - (intOf i).toNat)
  case atStart => exact ⟨0, 0, 0, rfl, hM4, hW4, hN4, B14, .inl ⟨rfl, rfl, rfl⟩⟩
  case round =>
    obtain ⟨z, a, c, rfl, hM, hWW, hNN, hB, hz⟩ := hrel
    have hage : ∀ a c : Int, 0 ≤ a → a ≤ 2 → 0 ≤ c → c ≤ 2 → ∀ t ∈ (both b5 b7 a c).l, 0 ≤ t.age ∧ t.age ≤ 1000000 := by
      intro a c h1 h2 h3 h4 t ht
      simp [both, five, seven] at ht
      rcases ht with rfl | rfl
      · simp; omega
      · simp; omega
    have hlow : ∀ t ∈ (both b5 b7 a c).l, w.heap.size ≤ t.b := hM.ht
    have hnw : ∀ u ∈ (both b5 b7 a c).l, u.b ≠ w3.heap.size := fun u hu => (hM.tasks u hu).ne hWW (by decide)
    have hnn : ∀ u ∈ (both b5 b7 a c).l, u.b ≠ w3.heap.size + 1 := fun u hu => (hM.tasks u hu).ne hNN (by decide)
    have HA := Lib.hid hage
    have HL := Lib.hid hlow
    have HW := Lib.hid hnw
    have HN := Lib.hid hnn
    clear hage hlow hnw hnn hM4 hW4 hN4 B14
    rcases hz with ⟨rfl, rfl, rfl⟩ | ⟨rfl, rfl, rfl⟩ | ⟨rfl, rfl, rfl⟩ | ⟨rfl, rfl, rfl⟩ | ⟨rfl, rfl, rfl⟩ | ⟨rfl, rfl, rfl⟩
    · have hx : wr.cell? ⟨w3.heap.size + 1, 0, none⟩ = some (.int .u64 0) := hNN.cell 0 rfl
      have hy := fun (W : World) (h : Blk W w3.heap.size 29 #[.int .u64 5, .int .u64 7, .int .u64 5, .int .u64 5, .int .u64 7]) => h.cell 0 (v := .int .u64 5) rfl
      have hch : chosen (both b5 b7 0 0) (0 : Int).toNat = some (five b5 0) := by first | rfl | simp [chosen, old, oldStep, over, aw, both, five, seven]
      have hP := pick_any hM 0 (by decide) (by decide) (by simp [both]) (by simp [both]) (HA.out 0 0 (by decide) (by decide) (by decide) (by decide)) (by simp [both])
      rw [hch] at hP
      have HY := Lib.hid hy
      clear hy
      go_wp2_with fail
      refine hP.mono ?_
      rintro e wq ⟨he, hMq, hFq⟩
      have he : e = .returned (.tuple #[.int .u64 5, .int .i64 0]) := he
      subst he
      have hMq : Mem w.heap.size wq s (.slice A 2 cap) mb (.slice none 0 0) 2 (picked (both b5 b7 0 0) b5) := hMq
      rw [both5 hne] at hMq
      have hWq := hFq.blk hWW HW.out
      have hNq := hFq.blk hNN HN.out
      have hBq := hB.trans (hFq.below HL.out hB.size)
      have hyq := HY.out wq hWq
      go_wp2
      go_roundw
      case rel => exact ⟨1, 0, 1, rfl, hMq, hWq, hNq, hBq, by decide⟩
      case measure => simp [intOf]
    · have hx : wr.cell? ⟨w3.heap.size + 1, 1, none⟩ = some (.int .u64 1) := hNN.cell 1 rfl
      have hy := fun (W : World) (h : Blk W w3.heap.size 29 #[.int .u64 5, .int .u64 7, .int .u64 5, .int .u64 5, .int .u64 7]) => h.cell 1 (v := .int .u64 7) rfl
      have hch : chosen (both b5 b7 0 1) (1 : Int).toNat = some (seven b7 1) := by first | rfl | simp [chosen, old, oldStep, over, aw, both, five, seven]
      have hP := pick_any hM 1 (by decide) (by decide) (by simp [both]) (by simp [both]) (HA.out 0 1 (by decide) (by decide) (by decide) (by decide)) (by simp [both])
      rw [hch] at hP
      have HY := Lib.hid hy
      clear hy
      go_wp2_with fail
      refine hP.mono ?_
      rintro e wq ⟨he, hMq, hFq⟩
      have he : e = .returned (.tuple #[.int .u64 7, .int .i64 0]) := he
      subst he
      have hMq : Mem w.heap.size wq s (.slice A 2 cap) mb (.slice none 0 0) 2 (picked (both b5 b7 0 1) b7) := hMq
      rw [both7 hne] at hMq
      have hWq := hFq.blk hWW HW.out
      have hNq := hFq.blk hNN HN.out
      have hBq := hB.trans (hFq.below HL.out hB.size)
      have hyq := HY.out wq hWq
      go_wp2
      go_roundw
      case rel => exact ⟨2, 1, 0, rfl, hMq, hWq, hNq, hBq, by decide⟩
      case measure => simp [intOf]
    · have hx : wr.cell? ⟨w3.heap.size + 1, 2, none⟩ = some (.int .u64 4) := hNN.cell 2 rfl
      have hy := fun (W : World) (h : Blk W w3.heap.size 29 #[.int .u64 5, .int .u64 7, .int .u64 5, .int .u64 5, .int .u64 7]) => h.cell 2 (v := .int .u64 5) rfl
      have hch : chosen (both b5 b7 1 0) (4 : Int).toNat = some (five b5 1) := by first | rfl | simp [chosen, old, oldStep, over, aw, both, five, seven]
      have hP := pick_any hM 4 (by decide) (by decide) (by simp [both]) (by simp [both]) (HA.out 1 0 (by decide) (by decide) (by decide) (by decide)) (by simp [both])
      rw [hch] at hP
      have HY := Lib.hid hy
      clear hy
      go_wp2_with fail
      refine hP.mono ?_
      rintro e wq ⟨he, hMq, hFq⟩
      have he : e = .returned (.tuple #[.int .u64 5, .int .i64 0]) := he
      subst he
      have hMq : Mem w.heap.size wq s (.slice A 2 cap) mb (.slice none 0 0) 2 (picked (both b5 b7 1 0) b5) := hMq
      rw [both5 hne] at hMq
      have hWq := hFq.blk hWW HW.out
      have hNq := hFq.blk hNN HN.out
      have hBq := hB.trans (hFq.below HL.out hB.size)
      have hyq := HY.out wq hWq
      go_wp2
      go_roundw
      case rel => exact ⟨3, 0, 1, rfl, hMq, hWq, hNq, hBq, by decide⟩
      case measure => simp [intOf]
    · have hx : wr.cell? ⟨w3.heap.size + 1, 3, none⟩ = some (.int .u64 0) := hNN.cell 3 rfl
      have hy := fun (W : World) (h : Blk W w3.heap.size 29 #[.int .u64 5, .int .u64 7, .int .u64 5, .int .u64 5, .int .u64 7]) => h.cell 3 (v := .int .u64 5) rfl
      have hch : chosen (both b5 b7 0 1) (0 : Int).toNat = some (five b5 0) := by first | rfl | simp [chosen, old, oldStep, over, aw, both, five, seven]
      have hP := pick_any hM 0 (by decide) (by decide) (by simp [both]) (by simp [both]) (HA.out 0 1 (by decide) (by decide) (by decide) (by decide)) (by simp [both])
      rw [hch] at hP
      have HY := Lib.hid hy
      clear hy
      go_wp2_with fail
      refine hP.mono ?_
      rintro e wq ⟨he, hMq, hFq⟩
      have he : e = .returned (.tuple #[.int .u64 5, .int .i64 0]) := he
      subst he
      have hMq : Mem w.heap.size wq s (.slice A 2 cap) mb (.slice none 0 0) 2 (picked (both b5 b7 0 1) b5) := hMq
      rw [both5 hne] at hMq
      have hWq := hFq.blk hWW HW.out
      have hNq := hFq.blk hNN HN.out
      have hBq := hB.trans (hFq.below HL.out hB.size)
      have hyq := HY.out wq hWq
      go_wp2
      go_roundw
      case rel => exact ⟨4, 0, 2, rfl, hMq, hWq, hNq, hBq, by decide⟩
      case measure => simp [intOf]
    · have hx : wr.cell? ⟨w3.heap.size + 1, 4, none⟩ = some (.int .u64 0) := hNN.cell 4 rfl
      have hy := fun (W : World) (h : Blk W w3.heap.size 29 #[.int .u64 5, .int .u64 7, .int .u64 5, .int .u64 5, .int .u64 7]) => h.cell 4 (v := .int .u64 7) rfl
      have hch : chosen (both b5 b7 0 2) (0 : Int).toNat = some (seven b7 2) := by first | rfl | simp [chosen, old, oldStep, over, aw, both, five, seven]
      have hP := pick_any hM 0 (by decide) (by decide) (by simp [both]) (by simp [both]) (HA.out 0 2 (by decide) (by decide) (by decide) (by decide)) (by simp [both])
      rw [hch] at hP
      have HY := Lib.hid hy
      clear hy
      go_wp2_with fail
      refine hP.mono ?_
      rintro e wq ⟨he, hMq, hFq⟩
      have he : e = .returned (.tuple #[.int .u64 7, .int .i64 0]) := he
      subst he
      have hMq : Mem w.heap.size wq s (.slice A 2 cap) mb (.slice none 0 0) 2 (picked (both b5 b7 0 2) b7) := hMq
      rw [both7 hne] at hMq
      have hWq := hFq.blk hWW HW.out
      have hNq := hFq.blk hNN HN.out
      have hBq := hB.trans (hFq.below HL.out hB.size)
      have hyq := HY.out wq hWq
      go_wp2
      go_roundw
      case rel => exact ⟨5, 1, 0, rfl, hMq, hWq, hNq, hBq, by decide⟩
      case measure => simp [intOf]
    · have hU0 := until_one hM (t := five b5 1) (by simp [both]) rfl rfl f5 rfl 9 (show (0 : Int) ≤ 0 by decide) (show (0 : Int) < 9 by decide) (by decide) hB.size
      have hl : turned b5 ((five b5 1).put 9) [five b5 1, seven b7 0] = [(five b5 1).put 9, seven b7 0] := by simp [turned, five, seven, hne.symm]
      have HLL := Lib.hid hl
      clear hl HA HL HW HN hWW hNN
      go_wp2_with fail
      refine hU0.mono ?_
      rintro e wu ⟨rfl, ⟨g, cap', hU⟩, BU⟩
      have hU1 : Mem w.heap.size wu s (.slice A 2 cap) mb (.slice (some ⟨g, 0, none⟩) 1 cap') 2 ⟨2, 0, 2, turned b5 ((five b5 1).put 9) [five b5 1, seven b7 0], [b5]⟩ := hU
      rw [HLL.out] at hU1
      clear hU hU0 hM
      have hBu := hB.trans BU
      have hT8 := tick_still hU1 (t := (five b5 1).put 9) (by simp) rfl 8 (show (0 : Int) ≤ 8 by decide) (show (8 : Int) < 9 by decide)
      go_wp2_with fail
      refine hT8.mono ?_
      rintro e w8 ⟨rfl, h8, B8⟩
      have hB8 := hBu.trans B8
      have hT9 := tick_one h8 (t := (five b5 1).put 9) (by simp) rfl rfl 9 (show (8 : Int) ≤ 9 by decide) (show (9 : Int) ≤ 9 by decide) hB8.size
      clear hT8 hU1
      go_wp2_with fail
      refine hT9.mono ?_
      rintro e w9 ⟨⟨g2, he, hg2⟩, h9, B9⟩
      subst he
      have hg2' : w9.cell? ⟨g2, 0, none⟩ = some (.int .u64 5) := hg2
      have hB9 := hB8.trans B9
      have hT3 := tick_back h9 3 (show (3 : Int) < 9 by decide)
      clear hT9 h8 hg2
      go_wp2_with fail
      refine hT3.mono ?_
      rintro e w3' ⟨rfl, rfl⟩
      clear hT3 h9
      go_wp2
      go_ret
      exact ⟨rfl, hB9⟩
end Go.Proofs.Ytlkphbcdgkjnoaa
