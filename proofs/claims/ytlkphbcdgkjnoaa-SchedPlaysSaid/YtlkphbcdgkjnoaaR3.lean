/- The document's scheduler: Done, IDs, Next, Copy: what each returns and what it turns. -/
import Derived.Test.YtlkphbcdgkjnoaaR2
namespace Go.Proofs.Ytlkphbcdgkjnoaa
open Go.RowKit Go.Maps

theorem RMem.below {B : Nat} {W W' : World} {r : Nat} {rv : Value} {pat now : Int} {L : List R} (h : RMem B W r rv pat now L) (hb : Below W.heap.size W W') : RMem B W' r rv pat now L :=
  h.same (fun k hk => hb.block k (h.own_lt hk).2)
theorem row_mono {w : World} {base base' e size n : Nat} {v : Value} {xs : List Value} (h : w.ownsRow base e size v n xs) (hb : base' ≤ base) : w.ownsRow base' e size v n xs :=
  ⟨h.1, h.2.imp id fun ⟨g, c, cur, h1, h2, h3⟩ => ⟨g, c, cur, h1, Nat.le_trans hb h2, h3⟩⟩
/-- All but one, of the first j. -/
def butk (L : List R) (k j : Nat) : List R := (L.take j).eraseIdx k
theorem butk_same {L : List R} {k : Nat} (hk : k < L.length) : butk L k (k + 1) = butk L k k := by
  unfold butk
  have e2 : (L.take k).length = k := by simp; omega
  rw [List.take_succ_eq_append_getElem hk, List.eraseIdx_append_of_length_le (by omega), List.eraseIdx_of_length_le (l := L.take k) (by omega), e2, Nat.sub_self]
  simp
theorem butk_more {L : List R} {k j : Nat} {t : R} (hj : L[j]? = some t) (hne : j ≠ k) : butk L k (j + 1) = butk L k j ++ [t] := by
  obtain ⟨hl, e⟩ := List.getElem?_eq_some_iff.1 hj
  unfold butk
  rw [List.take_succ_eq_append_getElem hl, e]
  have e2 : (L.take j).length = j := by simp; omega
  by_cases h : k < j
  · rw [List.eraseIdx_append_of_lt_length (by rw [e2]; exact h)]
  · rw [List.eraseIdx_append_of_length_le (by rw [e2]; omega), List.eraseIdx_of_length_le (l := L.take j) (by rw [e2]; omega), e2]
    congr 1
    obtain ⟨m, hm⟩ : ∃ m, k - j = m + 1 := ⟨k - j - 1, by omega⟩
    rw [hm]
    rfl
theorem butk_len (L : List R) (k j : Nat) : (butk L k j).length ≤ j := by
  unfold butk
  have := List.length_eraseIdx_le (L.take j) k
  have := List.length_take_le j L
  omega
theorem butk_all (L : List R) (k : Nat) : butk L k L.length = L.eraseIdx k := by unfold butk; rw [List.take_length]

set_option maxRecDepth 100000 in
set_option maxHeartbeats 1000000 in
theorem rdone_ok {B : Nat} {w : World} {r : Nat} {rv : Value} {pat now : Int} {L : List R} (h : RMem B w r rv pat now L) (hlen : L.length ≤ 100000) {id : Int} {k : Nat} {t : R} (ht : RAt L id k t) (hBw : B ≤ w.heap.size) :
    Calls Try.prog 36 #[ptr r, .int .u64 id] w fun e w' => e = .returned (.int .i64 0) ∧ (∃ rv', RMem B w' r rv' pat now (L.eraseIdx k) ∧ ∀ b, rv'.ownBlock = some b → w.heap.size ≤ b) ∧ Fr (ROwn r rv) w w' := by
  have hF := rfind_at h (by omega) ht.at' ht.id' ht.fst
  obtain ⟨g, cap, rfl, _, _⟩ := h.at ht.at'
  obtain ⟨i0, hi, hy0, hy1, hy2⟩ := info_parts Try.inf82
  have hkl := (List.getElem?_eq_some_iff.1 ht.at').1
  have hrr := h.hr
  have hrl := h.str.lt
  go_enter Try.func36, Try.ntmps36
  go_wp2_with (go_at_call 45; refine hF.mono ?_; rintro e w1 ⟨rfl, rfl⟩)
  go_loopw [6, 7] (fun lv i wr => ∃ j : Nat, j ≤ L.length ∧ i = .int .i64 j ∧ wr.ownsRow w.heap.size 82 5 lv (butk L k j).length ((butk L k j).flatMap R.vals) ∧ Below w.heap.size w wr) (fun _ i _ => L.length - (intOf i).toNat)
  case atStart => exact ⟨0, Nat.zero_le _, rfl, World.ownsRow_nil _ _ _ _, Below.refl _ _⟩
  case round =>
    obtain ⟨j, hj, rfl, hO, hB⟩ := hrel
    have hM := h.below hB
    obtain ⟨c0, c1, c2⟩ := hM.str.three
    have hbl := butk_len L k j
    by_cases hjl : j < L.length
    · obtain ⟨u, hu⟩ : ∃ u, L[j]? = some u := ⟨_, List.getElem?_eq_getElem hjl⟩
      obtain ⟨g', cap', e, ⟨d0, d1, d2, d3, d4⟩, df⟩ := hM.at hu
      cases e
      by_cases e : j = k
      · subst e
        have hb := butk_same hkl
        have HB := Lib.hid hb
        have HU := Lib.hid hu
        clear hb hu
        go_wp2
        go_roundw
        case rel => exact ⟨j + 1, by omega, by go_num, by rw [HB.out]; exact hO, hB⟩
        case measure => simp [intOf]; omega
      · have hne : ((j : Int) != (k : Int)) = true := by rw [bne_iff_ne]; omega
        have hb := butk_more hu e
        have hv := vals_snoc (butk L k j) u
        obtain ⟨Ao, co, rfl⟩ := row_form hO
        have HB := Lib.hid hb
        have HV := Lib.hid hv
        have HU := Lib.hid hu
        clear hb hu hv
        have hnew := cells_new wr [.int .u64 u.id, .bool u.asleep, .bool u.timed, .int .u64 u.at_, .int .i64 u.age] 82
        have hsz := hB.size
        go_wp2_with (at_builtin; refine wpList_append_own _ rfl _ _ 41 rfl w.heap.size 82 i0 (.agg #[.int .u64 0, .bool false, .bool false, .int .u64 0, .int .i64 0]) 5 32 Try.und41 hi hy0 hy1 hy2 rfl (by decide) _ _ _ rfl (hO.alloc _) ⟨wr.heap.size, 0, none⟩ 1 1 [.int .u64 u.id, .bool u.asleep, .bool u.timed, .int .u64 u.at_, .int .i64 u.age] rfl rfl hnew (one_vals u) (by unfold maxLen; omega) (by omega) (by simp; omega) ?_)
        intro v' w2 hown' hgrow _
        have hB2 := (hB.alloc hsz (.cells #[.int .u64 u.id, .bool u.asleep, .bool u.timed, .int .u64 u.at_, .int .i64 u.age] 82)).grown hgrow (by simp; omega) (fun x hx => (World.ownsRow.lt hO x hx).1)
        have HO := Lib.hid hown'
        clear hown' hgrow hO c0 c1 c2 d0 d1 d2 d3 d4
        go_wp2
        go_roundw
        case rel => exact ⟨j + 1, by omega, by go_num, by rw [HB.out, List.length_append, ← HV.out]; exact HO.out, hB2⟩
        case measure => simp [intOf]; omega
    · obtain rfl : j = L.length := by omega
      rw [butk_all] at hO
      obtain ⟨Ao, co, rfl⟩ := row_form hO
      have hf := fun x => hM.str.frozen x
      have n1 := hM.str.not_row (by decide) hO
      have g1 := fun v => grownBy_set wr r 2 v
      have F1 := fun v => (Fr.of_below hB (ROwn r (.slice (some ⟨g, 0, none⟩) L.length cap))).set (b := r) (fun _ => .inl rfl) 2 v
      have O2 := fun v => (hO.kept (g1 v) (.inr n1.symm))
      have S2 := fun v => hM.str.set 2 v
      have hlt := fun b hb => (World.ownsRow.lt hO b hb).1
      go_wp2
      go_ret
      exact ⟨rfl, ⟨_, ⟨S2 _, row_mono (O2 _) hBw, hrr⟩, hlt⟩, F1 _⟩
theorem rdone_none {B : Nat} {w : World} {r : Nat} {rv : Value} {pat now : Int} {L : List R} (h : RMem B w r rv pat now L) (hlen : L.length ≤ 1000000) {id : Int} (hno : ∀ u ∈ L, u.id ≠ id) :
    Calls Try.prog 36 #[ptr r, .int .u64 id] w fun e w' => e = .returned (.int .i64 5) ∧ w = w' := by
  have hF := rfind_no h hlen hno
  clear hno
  go_enter Try.func36, Try.ntmps36
  go_wp2_with (go_at_call 45; refine hF.mono ?_; rintro e w1 ⟨rfl, rfl⟩)
  go_ret
  exact ⟨rfl, rfl⟩
/-- The ids of some. -/
def idsOf (p : R → Bool) (L : List R) : List Int := (L.filter p).map (·.id)
theorem idsOf_more (p : R → Bool) {L : List R} {j : Nat} {t : R} (hj : L[j]? = some t) (hp : p t = true) : idsOf p (L.take (j + 1)) = idsOf p (L.take j) ++ [t.id] := by
  obtain ⟨hl, e⟩ := List.getElem?_eq_some_iff.1 hj
  rw [List.take_succ_eq_append_getElem hl, e]
  simp [idsOf, List.filter_append, List.filter_cons, hp]
theorem idsOf_same (p : R → Bool) {L : List R} {j : Nat} {t : R} (hj : L[j]? = some t) (hp : p t = false) : idsOf p (L.take (j + 1)) = idsOf p (L.take j) := by
  obtain ⟨hl, e⟩ := List.getElem?_eq_some_iff.1 hj
  rw [List.take_succ_eq_append_getElem hl, e]
  simp [idsOf, List.filter_append, List.filter_cons, hp]
theorem idsOf_len (p : R → Bool) (L : List R) (j : Nat) : (idsOf p (L.take j)).length ≤ j := by
  unfold idsOf
  rw [List.length_map]
  exact Nat.le_trans (List.length_filter_le _ _) (List.length_take_le _ _)

set_option maxRecDepth 100000 in
set_option maxHeartbeats 1000000 in
theorem rids_all {B : Nat} {w : World} {r : Nat} {rv : Value} {pat now : Int} {L : List R} (h : RMem B w r rv pat now L) (hlen : L.length ≤ 100000) :
    Calls Try.prog 39 #[ptr r, .bool false] w fun e w' => ∃ v, e = .returned v ∧ w'.ownsRow w.heap.size 29 1 v (idsOf (fun _ => true) L).length ((idsOf (fun _ => true) L).map (.int .u64 ·)) ∧ Below w.heap.size w w' := by
  obtain ⟨i0, hi, hy0, hy1, hy2⟩ := info_parts Try.inf29
  go_enter Try.func39, Try.ntmps39
  go_wp2
  go_loopw [5, 6] (fun lv i wr => ∃ j : Nat, j ≤ L.length ∧ i = .int .i64 j ∧ wr.ownsRow w.heap.size 29 1 lv (idsOf (fun _ => true) (L.take j)).length ((idsOf (fun _ => true) (L.take j)).map (.int .u64 ·)) ∧ Below w.heap.size w wr) (fun _ i _ => L.length - (intOf i).toNat)
  case atStart => exact ⟨0, Nat.zero_le _, rfl, World.ownsRow_nil _ _ _ _, Below.refl _ _⟩
  case round =>
    obtain ⟨j, hj, rfl, hO, hB⟩ := hrel
    have hM := h.below hB
    obtain ⟨A, cap, hrv⟩ := row_form hM.row
    have hbl := idsOf_len (fun _ => true) L j
    obtain ⟨Ao, co, rfl⟩ := row_form hO
    by_cases hjl : j < L.length
    · obtain ⟨u, hu⟩ : ∃ u, L[j]? = some u := ⟨_, List.getElem?_eq_getElem hjl⟩
      obtain ⟨g, cap', e, ⟨d0, d1, d2, d3, d4⟩, df⟩ := hM.at hu
      clear hrv
      subst e
      obtain ⟨c0, c1, c2⟩ := hM.str.three
      have hsz := hB.size
      have hb := idsOf_more (fun _ => true) hu (by simp)
      have HB := Lib.hid hb
      have HU := Lib.hid hu
      clear hb hu
      go_wp2_with (at_builtin; refine wpList_append_own _ rfl _ _ 22 rfl w.heap.size 29 i0 (.int .u64 0) 1 8 Try.und22 hi hy0 hy1 hy2 rfl (by decide) _ _ _ rfl (hO.alloc _) ⟨wr.heap.size, 0, none⟩ 1 1 [.int .u64 u.id] rfl rfl (cell_one_new _ _ _) (by simp [Value.oneCell']) (by unfold maxLen; omega) (by omega) (by simp; omega) ?_)
      intro v' w2 hown' hgrow _
      have hB2 := (hB.alloc hsz (.cells #[.int .u64 u.id] 29)).grown hgrow (by simp; omega) (fun x hx => (World.ownsRow.lt hO x hx).1)
      have HO := Lib.hid hown'
      clear hown' hgrow hO c0 c1 c2 d0 d1 d2 d3 d4
      go_wp2
      go_roundw
      case rel => exact ⟨j + 1, by omega, by go_num, by rw [HB.out, List.length_append, List.map_append]; exact HO.out, hB2⟩
      case measure => simp [intOf]; omega
    · obtain rfl : j = L.length := by omega
      subst hrv
      obtain ⟨c0, c1, c2⟩ := hM.str.three
      simp only [List.take_length] at hO ⊢
      go_wp2
      go_ret
      exact ⟨_, rfl, hO, hB⟩

set_option maxRecDepth 100000 in
set_option maxHeartbeats 1000000 in
theorem rids_ready {B : Nat} {w : World} {r : Nat} {rv : Value} {pat now : Int} {L : List R} (h : RMem B w r rv pat now L) (hlen : L.length ≤ 100000) :
    Calls Try.prog 39 #[ptr r, .bool true] w fun e w' => ∃ v, e = .returned v ∧ w'.ownsRow w.heap.size 29 1 v (idsOf (fun t => !t.asleep) L).length ((idsOf (fun t => !t.asleep) L).map (.int .u64 ·)) ∧ Below w.heap.size w w' := by
  obtain ⟨i0, hi, hy0, hy1, hy2⟩ := info_parts Try.inf29
  go_enter Try.func39, Try.ntmps39
  go_wp2
  go_loopw [5, 6] (fun lv i wr => ∃ j : Nat, j ≤ L.length ∧ i = .int .i64 j ∧ wr.ownsRow w.heap.size 29 1 lv (idsOf (fun t => !t.asleep) (L.take j)).length ((idsOf (fun t => !t.asleep) (L.take j)).map (.int .u64 ·)) ∧ Below w.heap.size w wr) (fun _ i _ => L.length - (intOf i).toNat)
  case atStart => exact ⟨0, Nat.zero_le _, rfl, World.ownsRow_nil _ _ _ _, Below.refl _ _⟩
  case round =>
    obtain ⟨j, hj, rfl, hO, hB⟩ := hrel
    have hM := h.below hB
    obtain ⟨A, cap, hrv⟩ := row_form hM.row
    have hbl := idsOf_len (fun t => !t.asleep) L j
    obtain ⟨Ao, co, rfl⟩ := row_form hO
    by_cases hjl : j < L.length
    · obtain ⟨u, hu⟩ : ∃ u, L[j]? = some u := ⟨_, List.getElem?_eq_getElem hjl⟩
      obtain ⟨g, cap', e, ⟨d0, d1, d2, d3, d4⟩, df⟩ := hM.at hu
      clear hrv
      subst e
      obtain ⟨c0, c1, c2⟩ := hM.str.three
      have hsz := hB.size
      cases ha : u.asleep
      · have hb := idsOf_more (fun t => !t.asleep) hu (by simpa using ha)
        rw [ha] at d1
        have HB := Lib.hid hb
        have HU := Lib.hid hu
        clear hb hu ha
        go_wp2_with (at_builtin; refine wpList_append_own _ rfl _ _ 22 rfl w.heap.size 29 i0 (.int .u64 0) 1 8 Try.und22 hi hy0 hy1 hy2 rfl (by decide) _ _ _ rfl (hO.alloc _) ⟨wr.heap.size, 0, none⟩ 1 1 [.int .u64 u.id] rfl rfl (cell_one_new _ _ _) (by simp [Value.oneCell']) (by unfold maxLen; omega) (by omega) (by simp; omega) ?_)
        intro v' w2 hown' hgrow _
        have hB2 := (hB.alloc hsz (.cells #[.int .u64 u.id] 29)).grown hgrow (by simp; omega) (fun x hx => (World.ownsRow.lt hO x hx).1)
        have HO := Lib.hid hown'
        clear hown' hgrow hO c0 c1 c2 d0 d1 d2 d3 d4
        go_wp2
        go_roundw
        case rel => exact ⟨j + 1, by omega, by go_num, by rw [HB.out, List.length_append, List.map_append]; exact HO.out, hB2⟩
        case measure => simp [intOf]; omega
      · have hb := idsOf_same (fun t => !t.asleep) hu (by simpa using ha)
        rw [ha] at d1
        have HB := Lib.hid hb
        have HU := Lib.hid hu
        clear hb hu ha
        go_wp2
        go_roundw
        case rel => exact ⟨j + 1, by omega, by go_num, by rw [HB.out]; exact hO, hB⟩
        case measure => simp [intOf]; omega
    · obtain rfl : j = L.length := by omega
      subst hrv
      obtain ⟨c0, c1, c2⟩ := hM.str.three
      simp only [List.take_length] at hO ⊢
      go_wp2
      go_ret
      exact ⟨_, rfl, hO, hB⟩
end Go.Proofs.Ytlkphbcdgkjnoaa
