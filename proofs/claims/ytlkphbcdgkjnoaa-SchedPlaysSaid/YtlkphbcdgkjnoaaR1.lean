/- The document's scheduler in memory; Find: what it returns. -/
import Derived.Test.YtlkphbcdgkjnoaaF1
import Derived.Laws.OwnMore
namespace Go.Proofs.Ytlkphbcdgkjnoaa
open Go.RowKit Go.Maps

/-- A handler of the document's. -/
structure R where
  id : Int
  asleep : Bool
  timed : Bool
  at_ : Int
  age : Int
def R.vals (t : R) : List Value := [.int .u64 t.id, .bool t.asleep, .bool t.timed, .int .u64 t.at_, .int .i64 t.age]
structure RMem (B : Nat) (W : World) (r : Nat) (rv : Value) (pat now : Int) (L : List R) : Prop where
  str : Blk W r 43 #[.int .i64 pat, .int .u64 now, rv]
  row : W.ownsRow B 82 5 rv L.length (L.flatMap R.vals)
  hr : B ≤ r

theorem vals_len (L : List R) : (L.flatMap R.vals).length = L.length * 5 := by
  induction L with
  | nil => rfl
  | cons t L ih => rw [List.flatMap_cons, List.length_append, ih, List.length_cons]; show 5 + _ = _; omega
theorem vals_at : ∀ (L : List R) (k : Nat) (t : R), L[k]? = some t → ∀ j, j < 5 → (L.flatMap R.vals)[k * 5 + j]? = t.vals[j]?
  | [], k, t, h, _, _ => by simp at h
  | u :: L, 0, t, h, j, hj => by
    simp at h
    subst h
    rw [List.flatMap_cons, List.getElem?_append_left (by show _ < 5; omega)]
    simp
  | u :: L, k + 1, t, h, j, hj => by
    have h' : L[k]? = some t := by simpa using h
    have e : (k + 1) * 5 + j - u.vals.length = k * 5 + j := by show _ - 5 = _; omega
    rw [List.flatMap_cons, List.getElem?_append_right (by show 5 ≤ _; omega), e]
    exact vals_at L k t h' j hj
theorem vals_set : ∀ (L : List R) (k : Nat) (t t' : R), L[k]? = some t → ∀ j, j < 5 → ∀ v, t'.vals = t.vals.set j v → (L.flatMap R.vals).set (k * 5 + j) v = (L.set k t').flatMap R.vals
  | [], k, t, t', h, _, _, _, _ => by simp at h
  | u :: L, 0, t, t', h, j, hj, v, hv => by
    simp at h
    subst h
    rw [List.flatMap_cons, List.set_cons_zero, List.flatMap_cons, hv, List.set_append_left _ _ (by show _ < 5; omega)]
    simp
  | u :: L, k + 1, t, t', h, j, hj, v, hv => by
    have h' : L[k]? = some t := by simpa using h
    have e : (k + 1) * 5 + j - u.vals.length = k * 5 + j := by show _ - 5 = _; omega
    rw [List.flatMap_cons, List.set_cons_succ, List.flatMap_cons, List.set_append_right _ _ (by show 5 ≤ _; omega), e, vals_set L k t t' h' j hj v hv]

/-- What stands where handler k lies. -/
theorem RMem.at {B : Nat} {W : World} {r : Nat} {rv : Value} {pat now : Int} {L : List R} (h : RMem B W r rv pat now L) {k : Nat} {t : R} (hk : L[k]? = some t) :
    ∃ g cap, rv = .slice (some ⟨g, 0, none⟩) L.length cap ∧ (W.cell? ⟨g, k * 5, none⟩ = some (.int .u64 t.id) ∧ W.cell? ⟨g, k * 5 + 1, none⟩ = some (.bool t.asleep) ∧ W.cell? ⟨g, k * 5 + 2, none⟩ = some (.bool t.timed) ∧ W.cell? ⟨g, k * 5 + 3, none⟩ = some (.int .u64 t.at_) ∧ W.cell? ⟨g, k * 5 + 4, none⟩ = some (.int .i64 t.age)) ∧ ∀ j, W.frozen? ⟨g, j, none⟩ = false := by
  have hkl := (List.getElem?_eq_some_iff.1 hk).1
  rcases h.row.2 with ⟨_, e⟩ | ⟨g, cap, cur, e, _⟩
  · omega
  · have hr := h.row
    rw [e] at hr
    have c : ∀ j, j < 5 → W.cell? ⟨g, k * 5 + j, none⟩ = t.vals[j]? := fun j hj => (hr.cellAt _ (by omega)).trans (vals_at L k t hk j hj)
    exact ⟨g, cap, e, ⟨c 0 (by omega), c 1 (by omega), c 2 (by omega), c 3 (by omega), c 4 (by omega)⟩, fun j => hr.frozenAt j⟩
theorem Blk.three {W : World} {b t : Nat} {v0 v1 v2 : Value} (h : Blk W b t #[v0, v1, v2]) : W.cell? ⟨b, 0, none⟩ = some v0 ∧ W.cell? ⟨b, 1, none⟩ = some v1 ∧ W.cell? ⟨b, 2, none⟩ = some v2 :=
  ⟨h.cell 0 rfl, h.cell 1 rfl, h.cell 2 rfl⟩

set_option maxHeartbeats 1000000 in
theorem rfind_at {B : Nat} {w : World} {r : Nat} {rv : Value} {pat now : Int} {L : List R} (h : RMem B w r rv pat now L) (hlen : L.length ≤ 1000000) {id : Int} {k : Nat} {t : R} (hk : L[k]? = some t) (hid : t.id = id)
    (hfst : ∀ j u, j < k → L[j]? = some u → u.id ≠ id) :
    Calls Try.prog 45 #[ptr r, .int .u64 id] w fun e w' => e = .returned (.int .i64 k) ∧ w = w' := by
  obtain ⟨g, cap, rfl, _, _⟩ := h.at hk
  obtain ⟨c0, c1, c2⟩ := h.str.three
  have hkl := (List.getElem?_eq_some_iff.1 hk).1
  have HK := Lib.hid hk
  have HF := Lib.hid hfst
  have HI := Lib.hid hid
  clear hk hfst hid
  go_enter Try.func45, Try.ntmps45
  go_wp2
  go_loop [5] (fun i => ∃ j : Nat, j ≤ k ∧ i = .int .i64 j) (fun i => k - (intOf i).toNat)
  case atStart => exact ⟨0, Nat.zero_le _, rfl⟩
  case round =>
    obtain ⟨j, hj, rfl⟩ := hrel
    have hjl : j < L.length := by omega
    obtain ⟨u, hu⟩ : ∃ u, L[j]? = some u := ⟨_, List.getElem?_eq_getElem hjl⟩
    obtain ⟨g', cap', e, ⟨d0, _⟩, _⟩ := h.at hu
    cases e
    by_cases e : j = k
    · subst e
      have hq : (u.id == id) = true := by
        have := HK.out
        rw [hu] at this
        injection this with this
        rw [this, HI.out]
        simp
      have HQ := Lib.hid hu
      clear hu
      go_wp2
      go_ret
      exact ⟨rfl, rfl⟩
    · have hq : (u.id == id) = false := by simpa using HF.out j u (by omega) hu
      have HQ := Lib.hid hu
      clear hu
      go_wp2
      go_round
      case rel => exact ⟨j + 1, by omega, by go_num⟩
      case measure => simp [intOf]; omega
set_option maxHeartbeats 1000000 in
theorem rfind_no {B : Nat} {w : World} {r : Nat} {rv : Value} {pat now : Int} {L : List R} (h : RMem B w r rv pat now L) (hlen : L.length ≤ 1000000) {id : Int} (hno : ∀ u ∈ L, u.id ≠ id) :
    Calls Try.prog 45 #[ptr r, .int .u64 id] w fun e w' => e = .returned (.int .i64 (-1)) ∧ w = w' := by
  obtain ⟨A, cap, rfl⟩ := row_form h.row
  obtain ⟨c0, c1, c2⟩ := h.str.three
  have HF := Lib.hid hno
  clear hno
  go_enter Try.func45, Try.ntmps45
  go_wp2
  go_loop [5] (fun i => ∃ j : Nat, j ≤ L.length ∧ i = .int .i64 j) (fun i => L.length - (intOf i).toNat)
  case atStart => exact ⟨0, Nat.zero_le _, rfl⟩
  case round =>
    obtain ⟨j, hj, rfl⟩ := hrel
    by_cases hjl : j < L.length
    · obtain ⟨u, hu⟩ : ∃ u, L[j]? = some u := ⟨_, List.getElem?_eq_getElem hjl⟩
      obtain ⟨g', cap', e, ⟨d0, _⟩, _⟩ := h.at hu
      cases e
      have hq : (u.id == id) = false := by simpa using HF.out u (List.mem_of_getElem? hu)
      have HQ := Lib.hid hu
      clear hu
      go_wp2
      go_round
      case rel => exact ⟨j + 1, by omega, by go_num⟩
      case measure => simp [intOf]; omega
    · go_wp2
      go_ret
      exact ⟨rfl, rfl⟩
end Go.Proofs.Ytlkphbcdgkjnoaa
