/- Done's closure, IndexFunc, DeleteFunc: one is taken out of the row. -/
import Derived.Test.YtlkphbcdgkjnoaaF5
import Derived.Lib.SliceRun
namespace Go.Proofs.Ytlkphbcdgkjnoaa
open Go.RowKit Go.Maps

theorem del_yes {w : World} {Bt b : Nat} (hb : w.cell? ⟨Bt, 0, none⟩ = some (ptr b)) :
    Calls Try.prog 41 #[ptr b, .pointer (some ⟨Bt, 0, none⟩)] w fun e w' => e = .returned (.bool true) ∧ w = w' := by
  obtain ⟨j, hj⟩ := Option.isSome_iff_exists.1 Try.inf62
  have hpe := run_eql_ptr_same (P := Try.prog) w (⟨b, 0, none⟩ : Addr) Try.und60 hj
  clear hj
  go_enter Try.func41, Try.ntmps41
  go_wp2
  go_ret
  exact ⟨rfl, rfl⟩
theorem del_no {w : World} {Bt b c : Nat} (hb : w.cell? ⟨Bt, 0, none⟩ = some (ptr b)) (hne : c ≠ b) {vs us : Array Value} (hv : Blk w c 62 vs) (hu : Blk w b 62 us) :
    Calls Try.prog 41 #[ptr c, .pointer (some ⟨Bt, 0, none⟩)] w fun e w' => e = .returned (.bool false) ∧ w = w' := by
  have hi := Try.inf62s
  rw [Option.map_eq_some_iff] at hi
  obtain ⟨i0, hi, hsz⟩ := hi
  have hsz' : i0.size ≠ 0 := by omega
  have hpe : (binOp .eql 60 (ptr c) (ptr b)).run Try.prog w = .ok (.bool false) w := run_eql_ptr_other w Try.und60 hi hsz' (fun e => hne (by injection e)) hv hu
  clear hi hsz hsz' hne hv hu
  go_enter Try.func41, Try.ntmps41
  go_wp2
  go_ret
  exact ⟨rfl, rfl⟩

set_option maxHeartbeats 1000000 in
theorem index_func {w : World} {g cap n j Bt : Nat} {h : Nat → Nat} (hR : Hrow w g cap h n) (hj : j < n) (hn : n ≤ 1000000) (hf : ∀ i, i < j → h i ≠ h j) (hB : ∀ i, i < n → ∃ vs, Blk w (h i) 62 vs) (hb : w.cell? ⟨Bt, 0, none⟩ = some (ptr (h j))) :
    Calls Try.prog 46 #[.slice (some ⟨g, 0, none⟩) n cap, .func (.func 41) #[] #[.pointer (some ⟨Bt, 0, none⟩)]] w fun e w' => e = .returned (.int .i64 j) ∧ w = w' := by
  have hyes := del_yes hb
  have hno : Hid (∀ i, i < j → Calls Try.prog 41 #[ptr (h i), .pointer (some ⟨Bt, 0, none⟩)] w fun e w' => e = .returned (.bool false) ∧ w = w') := by
    show ∀ i, i < j → _
    intro i hi
    obtain ⟨vi, hvi⟩ := hB i (by omega)
    obtain ⟨vj, hvj⟩ := hB j hj
    exact del_no hb (hf i hi) hvi hvj
  clear hf hB
  go_enter Try.func46, Try.ntmps46
  go_wp2
  go_loopw [8] (fun iv wr => ∃ k : Nat, iv = .int .i64 k ∧ k ≤ j ∧ wr = w) (fun iv _ => j - (intOf iv).toNat)
  case atStart => exact ⟨0, rfl, Nat.zero_le _, rfl⟩
  case round =>
    obtain ⟨k, rfl, hk, rfl⟩ := hrel
    have rk := hR.cell (show k < n by omega)
    have b1 : (k : Int) < n := by omega
    have b2 : k < n := by omega
    by_cases hlt : k < j
    · have hne := hno.out k hlt
      go_wp2_with fail
      refine hne.mono ?_
      rintro e w1 ⟨rfl, rfl⟩
      clear hne
      go_wp2
      go_roundw
      case rel => exact ⟨k + 1, by go_num, by omega, by trivial⟩
      case measure => simp [intOf]; omega
    · obtain rfl : k = j := by omega
      go_wp2_with fail
      refine hyes.mono ?_
      rintro e w1 ⟨rfl, rfl⟩
      go_wp2
      go_ret
      exact ⟨rfl, rfl⟩

/-- The row, one taken out, as far as place k. -/
def shift (h : Nat → Nat) (j k : Nat) : Nat → Nat := fun i => if j ≤ i ∧ i + 1 < k then h (i + 1) else h i
theorem shift_at {h : Nat → Nat} {j k : Nat} : shift h j k k = h k := by unfold shift; rw [if_neg (by omega)]
theorem shift_start {h : Nat → Nat} {j : Nat} : shift h j (j + 1) = h := by funext i; unfold shift; rw [if_neg (by omega)]
theorem Hrow.set {W : World} {g cap n : Nat} {h h' : Nat → Nat} (H : Hrow W g cap h n) {i c : Nat} (hi : i < n) (h1 : h' i = c) (h2 : ∀ k, k < n → k ≠ i → h' k = h k) : Hrow (W.setCell ⟨g, i, none⟩ (ptr c)) g cap h' n := by
  obtain ⟨cur, hb, hs, hc⟩ := H
  refine ⟨_, hb.set i _, by simpa using hs, fun k hk => ?_⟩
  have li := (Array.getElem?_eq_some_iff.1 (hc i hi)).1
  rw [Array.getElem?_setIfInBounds]
  by_cases e : i = k
  · subst e
    rw [if_pos rfl, if_pos li, h1]
  · rw [if_neg e, h2 k hk (fun x => e x.symm)]
    exact hc k hk
theorem shift_succ {h : Nat → Nat} {j k : Nat} (hjk : j < k) : shift h j (k + 1) (k - 1) = h k ∧ ∀ i, i ≠ k - 1 → shift h j (k + 1) i = shift h j k i := by
  refine ⟨?_, fun i hi => ?_⟩
  · unfold shift
    rw [if_pos (by omega)]
    congr 1
    omega
  · unfold shift
    by_cases e : j ≤ i ∧ i + 1 < k
    · rw [if_pos e, if_pos (by omega)]
    · rw [if_neg e, if_neg (by omega)]
theorem Hrow.cut {W : World} {g cap n : Nat} {h : Nat → Nat} (H : Hrow W g cap h n) {v : Value} : Hrow (W.setCell ⟨g, n - 1, none⟩ v) g cap h (n - 1) := by
  obtain ⟨cur, hb, hs, hc⟩ := H
  refine ⟨_, hb.set (n - 1) _, by simpa using hs, fun k hk => ?_⟩
  rw [Array.getElem?_setIfInBounds, if_neg (by omega)]
  exact hc k (by omega)

set_option maxRecDepth 100000 in
set_option maxHeartbeats 1000000 in
theorem delete_func {w : World} {g cap n j Bt : Nat} {h : Nat → Nat} (hR : Hrow w g cap h n) (hj : j < n) (hn : n ≤ 1000000) (hnc : n ≤ cap) (hcm : cap ≤ maxLen) (hf : ∀ i, i < n → i ≠ j → h i ≠ h j) (hB : ∀ i, i < n → ∃ vs, Blk w (h i) 62 vs) (hb : w.cell? ⟨Bt, 0, none⟩ = some (ptr (h j))) (hBt : Bt ≠ g) (hg : ∀ i, i < n → h i ≠ g) :
    Calls Try.prog 40 #[.slice (some ⟨g, 0, none⟩) n cap, .func (.func 41) #[] #[.pointer (some ⟨Bt, 0, none⟩)]] w fun e w' => e = .returned (.slice (some ⟨g, 0, none⟩) (n - 1) cap) ∧ Hrow w' g cap (shift h j n) (n - 1) ∧ w.grownBy w' (some g) := by
  have hI := index_func hR hj hn (fun i hi => hf i (by omega) (by omega)) hB hb
  unfold maxLen at hcm
  have HF := Lib.hid hf
  have HB := Lib.hid hB
  have HG := Lib.hid hg
  clear hf hB hg
  have hjn : ((j : Int) == -1) = false := beq_eq_false_iff_ne.2 (by omega)
  go_enter Try.func40, Try.ntmps40
  go_wp2_with (go_at_call 46; refine hI.mono ?_; rintro e w1 ⟨rfl, rfl⟩)
  go_loopw [5, 6] (fun iv jv wr => ∃ k : Nat, j < k ∧ k ≤ n ∧ jv = .int .i64 k ∧ iv = .int .i64 ((k - 1 : Nat) : Int) ∧ Hrow wr g cap (shift h j k) n ∧ w.grownBy wr (some g)) (fun _ jv _ => n - (intOf jv).toNat)
  case atStart => exact ⟨j + 1, by omega, by omega, by go_num, by simp, by rw [shift_start]; exact hR, ⟨rfl, rfl, rfl, Nat.le_refl _, fun _ _ _ => rfl⟩⟩
  case round =>
    obtain ⟨k, hjk, hkn, rfl, rfl, hRk, hgk⟩ := hrel
    have hbk : wr.cell? ⟨Bt, 0, none⟩ = some (ptr (h j)) := hgk.cell hb (by simpa using hBt)
    obtain ⟨m, rfl⟩ : ∃ m, k = m + 1 := ⟨k - 1, by omega⟩
    rw [Nat.add_sub_cancel]
    by_cases hlt : m + 1 < n
    · have rk := hRk.cell hlt
      rw [shift_at] at rk
      obtain ⟨vi, hvi⟩ := HB.out (m + 1) hlt
      obtain ⟨vj, hvj⟩ := HB.out j hj
      have hno := del_no hbk (HF.out (m + 1) hlt (by omega)) (hvi.kept hgk (by simpa using HG.out (m + 1) hlt)) (hvj.kept hgk (by simpa using HG.out j hj))
      have fm := hRk.frozen m
      have rm := hRk.cell (show m < n by omega)
      have b1 : ((m + 1 : Nat) : Int) < n := by omega
      have b2 : (m : Int) < n := by omega
      obtain ⟨s1, s2⟩ := shift_succ (h := h) (k := m + 1) hjk
      have H2 := hRk.set (i := m) (by omega) s1 (fun i _ hi => s2 i hi)
      have g2 := grown_trans hgk (grownBy_set wr g m (ptr (h (m + 1))))
      have HH2 := Lib.hid H2
      clear hvi hvj s1 s2 H2 hRk
      go_wp2_with fail
      refine hno.mono ?_
      rintro e w1 ⟨rfl, rfl⟩
      go_wp2
      go_roundw
      case rel => exact ⟨m + 2, by omega, by omega, by go_num, by simp, HH2.out, g2⟩
      case measure => simp [intOf]; omega
    · obtain rfl : n = m + 1 := by omega
      have hc1 : ∀ i, i < 1 → (wr.cell? ⟨g, m + i, none⟩).isSome = true := fun i hi => by
        obtain rfl : i = 0 := by omega
        rw [hRk.cell (by omega)]
        rfl
      have hcl : ∀ ty, (Builtin.clear_ #[56] ty #[.slice (some ⟨g, m, none⟩) 1 (cap - m)]).run Try.prog wr = .ok (.tuple #[]) (wr.setCell ⟨g, m, none⟩ (.pointer none)) := fun ty =>
        Lib.run_clear_slice wr 56 60 ty (.pointer none) Try.und56 zero60 rfl rfl g m 1 (cap - m) (by omega) hc1 (fun i _ => hRk.frozen _)
      clear hc1
      have hcut := hRk.cut (v := .pointer none)
      have g2 := grown_trans hgk (grownBy_set wr g m (.pointer none))
      rw [Nat.add_sub_cancel] at hcut
      have b2 : (m : Int) < cap := by omega
      have b3 : m ≤ cap := by omega
      go_wp2
      go_ret
      exact ⟨rfl, hcut, g2⟩
end Go.Proofs.Ytlkphbcdgkjnoaa
