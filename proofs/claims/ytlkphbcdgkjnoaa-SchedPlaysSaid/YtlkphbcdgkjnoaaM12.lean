/- down: one sinks as far as it must. -/
import Derived.Test.YtlkphbcdgkjnoaaM11
namespace Go.Proofs.Ytlkphbcdgkjnoaa
open Go.RowKit Go.Maps

/-- m is ahead of i and of those of the two below it that have been looked at. -/
structure Best (le : Nat → Nat → Prop) (h : Nat → Nat) (n i c m : Nat) : Prop where
  lt : m < n
  who : m = i ∨ m = 2 * i + 1 ∨ m = 2 * i + 2
  self : le (h m) (h i)
  one : 1 ≤ c → 2 * i + 1 < n → le (h m) (h (2 * i + 1))
  two : 2 ≤ c → 2 * i + 2 < n → le (h m) (h (2 * i + 2))

theorem idx0 (a b : Int) (w : World) : (Instr.index 85 (.agg #[.int .i64 a, .int .i64 b]) (.int .i64 0)).run Try.prog w = .ok (.int .i64 a) w := by kernel_rfl
theorem idx1 (a b : Int) (w : World) : (Instr.index 85 (.agg #[.int .i64 a, .int .i64 b]) (.int .i64 1)).run Try.prog w = .ok (.int .i64 b) w := by kernel_rfl

set_option maxRecDepth 100000 in
set_option maxHeartbeats 4000000 in
theorem down_any {w : World} {g cap n i : Nat} {h : Nat → Nat} {key : Nat → Int × Int} (hrow : Hrow w g cap h n) (hi : i < n) (hn : n ≤ 1000000) (hc : n ≤ cap) (K : Keys w key g h n) (H : HeapTop (leK key) h n i) :
    Calls Try.prog 48 #[.slice (some ⟨g, 0, none⟩) n cap, .int .i64 i] w fun e w' => e = .returned (.tuple #[]) ∧ w.grownBy w' (some g) ∧ ∃ h', Hrow w' g cap h' n ∧ Same h h' n ∧ Heap (leK key) h' n := by
  go_enter Try.func48, Try.ntmps48
  go_wp2
  go_loopw [1] (fun iv wr => ∃ (k : Nat) (h' : Nat → Nat), iv = .int .i64 k ∧ k < n ∧ Hrow wr g cap h' n ∧ Same h h' n ∧ w.grownBy wr (some g) ∧ HeapTop (leK key) h' n k) (fun iv _ => n - (intOf iv).toNat)
  case atStart => exact ⟨i, h, rfl, hi, hrow, Same.refl _ _, ⟨rfl, rfl, rfl, Nat.le_refl _, fun _ _ _ => rfl⟩, H⟩
  case round =>
    obtain ⟨k, h', rfl, hkn, hR, hS, hG, hH⟩ := hrel
    have HH := Lib.hid hH
    have x0 := fun w => idx0 (2 * (k : Int) + 1) (2 * (k : Int) + 2) w
    have x1 := fun w => idx1 (2 * (k : Int) + 1) (2 * (k : Int) + 2) w
    clear hH
    go_wp2
    go_loopw [4, 15] (fun mv cv wx => ∃ (m c : Nat) (z : Int), mv = .int .i64 m ∧ cv = .int .i64 z ∧ ((z = 0 ∧ c = 0) ∨ (z = 1 ∧ c = 1) ∨ (z = 2 ∧ c = 2)) ∧ Best (leK key) h' n k c m ∧ Hrow wx g cap h' n ∧ w.grownBy wx (some g)) (fun _ cv _ => 2 - (intOf cv).toNat)
    case atStart => exact ⟨k, 0, 0, rfl, rfl, .inl ⟨rfl, rfl⟩, ⟨hkn, .inl rfl, (ordK key).refl _, fun h => by omega, fun h => by omega⟩, hR, hG⟩
    case round =>
      clear hR hG
      obtain ⟨m, c, z, rfl, rfl, hz, hBst, hR, hG⟩ := hrel
      have hmn := hBst.lt
      have K' := (K.same hS).kept hG
      obtain ⟨mn, mc4, mc1⟩ := K' m hmn
      have rm := hR.cell hmn
      have b1 : (m : Int) < n := by omega
      have HB := Lib.hid hBst
      clear hBst
      rcases hz with ⟨rfl, rfl⟩ | ⟨rfl, rfl⟩ | ⟨rfl, rfl⟩
      · by_cases hlt : 2 * k + 1 < n
        · obtain ⟨cn, cc4, cc1⟩ := K' (2 * k + 1) hlt
          have rc := hR.cell hlt
          have b2 : (2 * (k : Int) + 1) < n := by omega
          have d1 : decide (2 * (k : Int) + 1 < (n : Int)) = true := by simp; omega
          have d2 : decide (2 * k + 1 < n) = true := by simp; omega
          have w1 : IntKind.i64.wrap (2 * (k : Int) + 1) = 2 * (k : Int) + 1 := IntWalk.i64_in _ (by omega)
          have z1 : 0 ≤ 2 * (k : Int) + 1 := by omega
          have t1 : (2 * (k : Int) + 1).toNat = 2 * k + 1 := by omega
          cases hah : ahd (key (h' (2 * k + 1))).1 (key (h' (2 * k + 1))).2 (key (h' m)).1 (key (h' m)).2
          · go_wp2
            go_quiet ((go_at_call 44; refine Calls.quiet_of (v := .bool false) ((ahead_any (w := wr.drewN _) cc4 cc1 mc4 mc1).mono (fun e w' hx => ⟨by rw [hx.1, hah], hx.2⟩))))
            go_wp2
            refine ⟨⟨m, 1, 1, rfl, rfl, .inr (.inl ⟨rfl, rfl⟩), ⟨hmn, HB.out.who, HB.out.self, fun _ _ => hah, fun h => by omega⟩, hR, grown_trans hG (grown_drewG _ _ _)⟩, by simp [intOf]⟩
          · go_wp2
            go_quiet ((go_at_call 44; refine Calls.quiet_of (v := .bool true) ((ahead_any (w := wr.drewN _) cc4 cc1 mc4 mc1).mono (fun e w' hx => ⟨by rw [hx.1, hah], hx.2⟩))))
            go_wp2
            refine ⟨⟨2 * k + 1, 1, 1, by go_num, rfl, .inr (.inl ⟨rfl, rfl⟩), ⟨hlt, .inr (.inl rfl), (ordK key).trans _ _ _ (leK_of_ahd hah) HB.out.self, fun _ _ => (ordK key).refl _, fun h => by omega⟩, hR, grown_trans hG (grown_drewG _ _ _)⟩, by simp [intOf]⟩
        · have d1 : decide (2 * (k : Int) + 1 < (n : Int)) = false := by simp; omega
          have d2 : decide (2 * k + 1 < n) = false := by simp; omega
          go_wp2
          go_quiet (fail)
          go_wp2
          refine ⟨⟨m, 1, 1, rfl, rfl, .inr (.inl ⟨rfl, rfl⟩), ⟨hmn, HB.out.who, HB.out.self, fun _ h => absurd h hlt, fun h => by omega⟩, hR, grown_trans hG (grown_drewG _ _ _)⟩, by simp [intOf]⟩
      · by_cases hlt : 2 * k + 2 < n
        · obtain ⟨cn, cc4, cc1⟩ := K' (2 * k + 2) hlt
          have rc := hR.cell hlt
          have b2 : (2 * (k : Int) + 2) < n := by omega
          have d1 : decide (2 * (k : Int) + 2 < (n : Int)) = true := by simp; omega
          have d2 : decide (2 * k + 2 < n) = true := by simp; omega
          have w1 : IntKind.i64.wrap (2 * (k : Int) + 2) = 2 * (k : Int) + 2 := IntWalk.i64_in _ (by omega)
          have z1 : 0 ≤ 2 * (k : Int) + 2 := by omega
          have t1 : (2 * (k : Int) + 2).toNat = 2 * k + 2 := by omega
          cases hah : ahd (key (h' (2 * k + 2))).1 (key (h' (2 * k + 2))).2 (key (h' m)).1 (key (h' m)).2
          · go_wp2
            go_quiet ((go_at_call 44; refine Calls.quiet_of (v := .bool false) ((ahead_any (w := wr.drewN _) cc4 cc1 mc4 mc1).mono (fun e w' hx => ⟨by rw [hx.1, hah], hx.2⟩))))
            go_wp2
            refine ⟨⟨m, 2, 2, rfl, rfl, .inr (.inr ⟨rfl, rfl⟩), ⟨hmn, HB.out.who, HB.out.self, fun _ h => HB.out.one (by omega) h, fun _ _ => hah⟩, hR, grown_trans hG (grown_drewG _ _ _)⟩, by simp [intOf]⟩
          · go_wp2
            go_quiet ((go_at_call 44; refine Calls.quiet_of (v := .bool true) ((ahead_any (w := wr.drewN _) cc4 cc1 mc4 mc1).mono (fun e w' hx => ⟨by rw [hx.1, hah], hx.2⟩))))
            go_wp2
            refine ⟨⟨2 * k + 2, 2, 2, by go_num, rfl, .inr (.inr ⟨rfl, rfl⟩), ⟨hlt, .inr (.inr rfl), (ordK key).trans _ _ _ (leK_of_ahd hah) HB.out.self, fun _ h => (ordK key).trans _ _ _ (leK_of_ahd hah) (HB.out.one (by omega) h), fun _ _ => (ordK key).refl _⟩, hR, grown_trans hG (grown_drewG _ _ _)⟩, by simp [intOf]⟩
        · have d1 : decide (2 * (k : Int) + 2 < (n : Int)) = false := by simp; omega
          have d2 : decide (2 * k + 2 < n) = false := by simp; omega
          go_wp2
          go_quiet (fail)
          go_wp2
          refine ⟨⟨m, 2, 2, rfl, rfl, .inr (.inr ⟨rfl, rfl⟩), ⟨hmn, HB.out.who, HB.out.self, fun _ h => HB.out.one (by omega) h, fun _ h => absurd h hlt⟩, hR, grown_trans hG (grown_drewG _ _ _)⟩, by simp [intOf]⟩
      · by_cases hmk : m = k
        · subst hmk
          go_wp2
          refine bodyPost_ret (results_none rfl _ _ _) rfl ?_
          refine ⟨rfl, hG, h', hR, hS, HH.out.done fun j hj0 hj hjp => ?_⟩
          obtain rfl | rfl : j = 2 * m + 1 ∨ j = 2 * m + 2 := by omega
          · exact HB.out.one (by omega) hj
          · exact HB.out.two (by omega) hj
        · have dm : ((m : Int) == (k : Int)) = false := by simp; omega
          have hwho := HB.out.who
          have hstep := HH.out.down (ordK key) (k := m) hmn (by omega) (by omega) HB.out.self (fun j hj0 hj hjp => by
            obtain rfl | rfl : j = 2 * k + 1 ∨ j = 2 * k + 2 := by omega
            · exact HB.out.one (by omega) hj
            · exact HB.out.two (by omega) hj)
          have HST := Lib.hid hstep
          have rk := hR.cell hkn
          have fm := hR.frozen m
          have fk := hR.frozen k
          have b3 : (k : Int) < n := by omega
          have hR2 := hR.swap hkn hmn
          have hS2 := hS.trans (Same.swap h' hkn hmn)
          have hG2 : w.grownBy (((wr.setCell ⟨g, k, none⟩ (ptr (h' m))).setCell ⟨g, m, none⟩ (ptr (h' k))).drew) (some g) :=
            grown_trans (grown_trans (grown_trans hG (grownBy_set wr g k _)) (grownBy_set _ g m _)) (grown_drewG _ 1 _)
          clear hstep K' mc4 mc1
          go_wp2
          go_region
          go_wp2
          exact ⟨⟨m, swp h' k m, rfl, hmn, hR2, hS2, hG2, HST.out⟩, by simp [intOf]; omega⟩
end Go.Proofs.Ytlkphbcdgkjnoaa
