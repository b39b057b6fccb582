/- The document's scheduler: Pick: what it returns and what it turns. -/
import Derived.Test.YtlkphbcdgkjnoaaR4
import Derived.BigQuiet
import Derived.StillTailTactics
namespace Go.Proofs.Ytlkphbcdgkjnoaa
open Go.RowKit Go.Maps

/-- Where those lie that are ready, of the first j. -/
def awIdx (L : List R) (j : Nat) : List Nat := (List.range j).filter fun i => match L[i]? with | some t => !t.asleep | none => false
theorem awIdx_more {L : List R} {j : Nat} {t : R} (hj : L[j]? = some t) (ha : t.asleep = false) : awIdx L (j + 1) = awIdx L j ++ [j] := by
  unfold awIdx
  rw [List.range_succ, List.filter_append]
  simp [List.filter_cons, hj, ha]
theorem awIdx_same {L : List R} {j : Nat} {t : R} (hj : L[j]? = some t) (ha : t.asleep = true) : awIdx L (j + 1) = awIdx L j := by
  unfold awIdx
  rw [List.range_succ, List.filter_append]
  simp [List.filter_cons, hj, ha]
theorem awIdx_len (L : List R) (j : Nat) : (awIdx L j).length ≤ j := by
  unfold awIdx
  have := List.length_filter_le (fun i => match L[i]? with | some t => !t.asleep | none => false) (List.range j)
  simpa using this
theorem awIdx_lt {L : List R} {j i : Nat} (h : i ∈ awIdx L j) : i < j ∧ i < L.length := by
  unfold awIdx at h
  rw [List.mem_filter] at h
  refine ⟨List.mem_range.1 h.1, ?_⟩
  have := h.2
  cases hx : L[i]? with
  | none => rw [hx] at this; cases this
  | some t => exact (List.getElem?_eq_some_iff.1 hx).1
/-- Who has waited longest of those who have waited for as long as the patience. -/
def rover (L : List R) (acc : Option Nat) (t : R) : Bool := match acc with | none => true | some b => match L[b]? with | some u => decide (u.age < t.age) | none => true
def bestStep (pat : Int) (L : List R) (acc : Option Nat) (i : Nat) : Option Nat :=
  match L[i]? with
  | none => acc
  | some t => if t.asleep then acc else if (decide (pat ≤ t.age) && rover L acc t) = true then some i else acc
def best (pat : Int) (L : List R) (j : Nat) : Option Nat := (List.range j).foldl (bestStep pat L) none
theorem best_succ (pat : Int) (L : List R) (j : Nat) : best pat L (j + 1) = bestStep pat L (best pat L j) j := by
  unfold best
  rw [List.range_succ, List.foldl_append]
  rfl
theorem best_lt {pat : Int} {L : List R} : ∀ (j : Nat) (b : Nat), best pat L j = some b → b < j ∧ b < L.length
  | 0, b, h => by simp [best] at h
  | j + 1, b, h => by
    rw [best_succ] at h
    have ih := best_lt (pat := pat) (L := L) j
    unfold bestStep at h
    cases hx : L[j]? with
    | none => rw [hx] at h; have := ih b h; omega
    | some t =>
      have hl := (List.getElem?_eq_some_iff.1 hx).1
      rw [hx] at h
      simp only at h
      split at h
      · have := ih b h; omega
      · split at h
        · injection h with h; omega
        · have := ih b h; omega
def bi : Option Nat → Int | none => -1 | some b => b
/-- Who is picked. -/
def rchosen (pat : Int) (L : List R) (x : Nat) : Option Nat := match best pat L L.length with | some i => some i | none => (awIdx L L.length)[x % (awIdx L L.length).length]?

set_option maxRecDepth 100000 in
set_option maxHeartbeats 1000000 in
theorem rpick_none {B : Nat} {w : World} {r : Nat} {rv : Value} {pat now : Int} {L : List R} (h : RMem B w r rv pat now L) (hlen : L.length ≤ 100000) (hall : ∀ t ∈ L, t.asleep = true) (n : Int) :
    Calls Try.prog 37 #[ptr r, .int .u64 n] w fun e w' => e = .returned (.tuple #[.int .u64 0, .int .i64 5]) ∧ w = w' := by
  go_enter Try.func37, Try.ntmps37
  go_wp2
  go_loop [6, 7, 8] (fun l b i => ∃ j : Nat, j ≤ L.length ∧ i = .int .i64 j ∧ l = .slice none 0 0 ∧ b = .int .i64 (-1)) (fun _ _ i => L.length - (intOf i).toNat)
  case atStart => exact ⟨0, Nat.zero_le _, rfl, rfl, rfl⟩
  case round =>
    obtain ⟨j, hj, rfl, rfl, rfl⟩ := hrel
    obtain ⟨A, cap, hrv⟩ := row_form h.row
    by_cases hjl : j < L.length
    · obtain ⟨u, hu⟩ : ∃ u, L[j]? = some u := ⟨_, List.getElem?_eq_getElem hjl⟩
      obtain ⟨g, cap', e, ⟨d0, d1, d2, d3, d4⟩, df⟩ := h.at hu
      clear hrv
      subst e
      obtain ⟨c0, c1, c2⟩ := h.str.three
      rw [hall u (List.mem_of_getElem? hu)] at d1
      clear hu hall
      go_wp2
      go_round
      case rel => exact ⟨j + 1, by omega, by go_num, rfl, rfl⟩
      case measure => simp [intOf]; omega
    · obtain rfl : j = L.length := by omega
      subst hrv
      obtain ⟨c0, c1, c2⟩ := h.str.three
      clear hall
      go_wp2
      go_ret2
      exact ⟨rfl, rfl⟩

theorem Try.infInt : (Try.prog.info? 3).map (fun i => (i.zero, i.size, i.bytes)) = some (some (.int .i64 0), 1, 8) := by kernel_rfl
theorem Try.undInts : Try.prog.underlying 30 = some (.slice 3) := by kernel_rfl
/-- One more round has gone by for the one that lies there. -/
def incR (L : List R) (i : Nat) : List R := match L[i]? with | some t => L.set i { t with age := t.age + 1 } | none => L
def bumpR (L : List R) (js : List Nat) : List R := js.foldl incR L
theorem incR_len (L : List R) (i : Nat) : (incR L i).length = L.length := by
  unfold incR
  split <;> simp
theorem bumpR_len (L : List R) (js : List Nat) : (bumpR L js).length = L.length := by
  unfold bumpR
  induction js generalizing L with
  | nil => rfl
  | cons i js ih => rw [List.foldl_cons, ih, incR_len]
theorem bumpR_snoc {L : List R} {js : List Nat} {j i : Nat} (hj : js[j]? = some i) : bumpR L (js.take (j + 1)) = incR (bumpR L (js.take j)) i := by
  obtain ⟨hl, e⟩ := List.getElem?_eq_some_iff.1 hj
  rw [List.take_succ_eq_append_getElem hl, e]
  simp [bumpR, List.foldl_append]
theorem incR_age {L : List R} {i : Nat} {c : Int} (h : ∀ t ∈ L, 0 ≤ t.age ∧ t.age ≤ c) : ∀ t ∈ incR L i, 0 ≤ t.age ∧ t.age ≤ c + 1 := by
  intro t ht
  unfold incR at ht
  split at ht
  · rename_i u hu
    have := h u (List.mem_of_getElem? hu)
    rcases List.mem_or_eq_of_mem_set ht with h2 | rfl
    · have := h t h2; omega
    · show 0 ≤ u.age + 1 ∧ u.age + 1 ≤ c + 1; omega
  · have := h t ht; omega
theorem bumpR_age {L : List R} {c : Int} (h : ∀ t ∈ L, 0 ≤ t.age ∧ t.age ≤ c) (js : List Nat) : ∀ t ∈ bumpR L js, 0 ≤ t.age ∧ t.age ≤ c + js.length := by
  unfold bumpR
  induction js generalizing L c with
  | nil => simpa using h
  | cons i js ih =>
    intro t ht
    rw [List.foldl_cons] at ht
    have := ih (incR_age h) t ht
    rw [List.length_cons]
    omega
theorem RMem.m_eq {B : Nat} {W : World} {r : Nat} {A : Option Addr} {m cap : Nat} {pat now : Int} {L : List R} (h : RMem B W r (.slice A m cap) pat now L) : m = L.length := by
  obtain ⟨A', c', e⟩ := row_form h.row
  injection e
theorem RMem.at2 {B : Nat} {W : World} {r g m cap : Nat} {pat now : Int} {L : List R} (h : RMem B W r (.slice (some ⟨g, 0, none⟩) m cap) pat now L) {k : Nat} {t : R} (hk : L[k]? = some t) :
    (W.cell? ⟨g, k * 5, none⟩ = some (.int .u64 t.id) ∧ W.cell? ⟨g, k * 5 + 1, none⟩ = some (.bool t.asleep) ∧ W.cell? ⟨g, k * 5 + 2, none⟩ = some (.bool t.timed) ∧ W.cell? ⟨g, k * 5 + 3, none⟩ = some (.int .u64 t.at_) ∧ W.cell? ⟨g, k * 5 + 4, none⟩ = some (.int .i64 t.age)) ∧ ∀ j, W.frozen? ⟨g, j, none⟩ = false := by
  obtain ⟨g', cap', e, h1, h2⟩ := h.at hk
  injection e with a1 a2 a3
  injection a1 with a1
  injection a1 with a1
  subst a1
  exact ⟨h1, h2⟩
theorem RMem.one2 {B : Nat} {W : World} {r g m cap : Nat} {pat now : Int} {L : List R} (h : RMem B W r (.slice (some ⟨g, 0, none⟩) m cap) pat now L) {k : Nat} {t : R} (hk : L[k]? = some t) (j : Nat) (hj : j < 5) (v : Value) (t' : R) (hv : t'.vals = t.vals.set j v) :
    RMem B (W.setCell ⟨g, k * 5 + j, none⟩ v) r (.slice (some ⟨g, 0, none⟩) m cap) pat now (L.set k t') := by
  obtain rfl := h.m_eq
  exact h.one hk j hj v t' hv
theorem RMem.put2 {B : Nat} {W : World} {r g m cap : Nat} {pat now : Int} {L : List R} (h : RMem B W r (.slice (some ⟨g, 0, none⟩) m cap) pat now L) {k : Nat} {t : R} (hk : L[k]? = some t) (u : R) :
    RMem B (put5 W g (k * 5) u) r (.slice (some ⟨g, 0, none⟩) m cap) pat now (L.set k u) := by
  obtain rfl := h.m_eq
  exact h.put hk u
theorem awIdx_mono {L : List R} {j b : Nat} (h : b ∈ awIdx L j) : b ∈ awIdx L (j + 1) := by
  unfold awIdx at h ⊢
  rw [List.range_succ, List.filter_append]
  exact List.mem_append_left _ h
theorem best_mem {pat : Int} {L : List R} : ∀ (j : Nat) (b : Nat), best pat L j = some b → b ∈ awIdx L j
  | 0, b, h => by simp [best] at h
  | j + 1, b, h => by
    rw [best_succ] at h
    have ih := best_mem (pat := pat) (L := L) j
    unfold bestStep at h
    cases hx : L[j]? with
    | none =>
      rw [hx] at h
      exact awIdx_mono (ih b h)
    | some t =>
      rw [hx] at h
      simp only at h
      cases ha : t.asleep
      · rw [ha] at h
        simp only [Bool.false_eq_true, if_false] at h
        split at h
        · injection h with h
          rw [awIdx_more hx ha, List.mem_append]
          right
          simp [h]
        · exact awIdx_mono (ih b h)
      · rw [ha] at h
        exact awIdx_mono (ih b (by simpa using h))
theorem incR_id (L : List R) (i k : Nat) : (incR L i)[k]?.map R.id = L[k]?.map R.id := by
  unfold incR
  split
  · rename_i u hu
    rw [List.getElem?_set]
    split
    · rename_i e
      subst e
      rw [hu, if_pos (List.getElem?_eq_some_iff.1 hu).1]
      rfl
    · rfl
  · rfl
theorem bumpR_id (L : List R) (js : List Nat) (k : Nat) : (bumpR L js)[k]?.map R.id = L[k]?.map R.id := by
  unfold bumpR
  induction js generalizing L with
  | nil => rfl
  | cons i js ih => rw [List.foldl_cons, ih, incR_id]
/-- What Pick leaves. -/
def rpicked (L : List R) (i : Nat) : List R := match (bumpR L (awIdx L L.length))[i]? with | some t => (bumpR L (awIdx L L.length)).set i { t with age := 0 } | none => L

set_option maxRecDepth 100000 in
set_option maxHeartbeats 4000000 in
theorem rpick_some {B : Nat} {w : World} {r : Nat} {rv : Value} {pat now : Int} {L : List R} (h : RMem B w r rv pat now L) (hlen : L.length ≤ 100000) (hage : ∀ t ∈ L, 0 ≤ t.age ∧ t.age ≤ 1000000) {n : Int} (hn0 : 0 ≤ n) (hn1 : n < 18446744073709551616) (hp0 : 0 ≤ pat) (hp1 : pat ≤ 9223372036854775807)
    {i0 : Nat} {t0 : R} (hch : rchosen pat L n.toNat = some i0) (ht0 : L[i0]? = some t0) :
    Calls Try.prog 37 #[ptr r, .int .u64 n] w fun e w' => e = .returned (.tuple #[.int .u64 t0.id, .int .i64 0]) ∧ RMem B w' r rv pat now (rpicked L i0) ∧ Fr (ROwn r rv) w w' := by
  obtain ⟨k0, hi, hy0, hy1, hy2⟩ := info_parts Try.infInt
  have HCH := Lib.hid hch
  have HT0 := Lib.hid ht0
  have HAG := Lib.hid hage
  clear hch ht0 hage
  go_enter Try.func37, Try.ntmps37
  go_wp2
  go_loopw [6, 7, 8] (fun lv bv iv wr => ∃ (j : Nat) (bo : Option Nat), j ≤ L.length ∧ iv = .int .i64 j ∧ bv = .int .i64 (bi bo) ∧ Hid (bo = best pat L j) ∧ wr.ownsRow w.heap.size 3 1 lv (awIdx L j).length ((awIdx L j).map fun i : Nat => .int .i64 i) ∧ Below w.heap.size w wr) (fun _ _ iv _ => L.length - (intOf iv).toNat)
  case atStart => exact ⟨0, none, Nat.zero_le _, rfl, rfl, rfl, World.ownsRow_nil _ _ _ _, Below.refl _ _⟩
  case round =>
    obtain ⟨j, bo, hj, rfl, rfl, hbo, hO, hB⟩ := hrel
    have hM := h.below hB
    obtain ⟨A, cap, hrv⟩ := row_form hM.row
    have hal := awIdx_len L j
    obtain ⟨Ao, co, rfl⟩ := row_form hO
    by_cases hjl : j < L.length
    · obtain ⟨u, hu⟩ : ∃ u, L[j]? = some u := ⟨_, List.getElem?_eq_getElem hjl⟩
      obtain ⟨g, cap', e, ⟨d0, d1, d2, d3, d4⟩, df⟩ := hM.at hu
      clear hrv
      subst e
      obtain ⟨c0, c1, c2⟩ := hM.str.three
      have hsz := hB.size
      have hua := HAG.out u (List.mem_of_getElem? hu)
      have hbs := best_succ pat L j
      rw [← hbo.out] at hbs
      have HBS := Lib.hid hbs
      clear hbs
      cases ha : u.asleep
      · have hb := awIdx_more hu ha
        have HN : Hid (∀ acc, bestStep pat L acc j = if (decide (pat ≤ u.age) && rover L acc u) = true then some j else acc) := by
          show ∀ acc, bestStep pat L acc j = _
          intro acc; unfold bestStep; rw [hu]; simp only [ha]; rfl
        rw [ha] at d1
        have HB := Lib.hid hb
        have HU := Lib.hid hu
        clear hb hu ha
        go_wp2_with (at_builtin; refine wpList_append_own _ rfl _ _ 30 rfl w.heap.size 3 k0 (.int .i64 0) 1 8 Try.undInts hi hy0 hy1 hy2 rfl (by decide) _ _ _ rfl (hO.alloc _) ⟨wr.heap.size, 0, none⟩ 1 1 [.int .i64 j] rfl rfl (cell_one_new _ _ _) (by simp [Value.oneCell']) (by unfold maxLen; omega) (by omega) (by simp; omega) ?_)
        intro v' w2 hown' hgrow _
        have hB2 := (hB.alloc hsz (.cells #[.int .i64 j] 3)).grown hgrow (by simp; omega) (fun x hx => (World.ownsRow.lt hO x hx).1)
        have hM2 := h.below hB2
        have HO := Lib.hid hown'
        obtain ⟨g2, cap2, e, ⟨e0, e1, e2, e3, e4⟩, _⟩ := hM2.at HU.out
        cases e
        obtain ⟨f0, f1, f2⟩ := hM2.str.three
        clear hown' hgrow hO c0 c1 c2 d0 d1 d2 d3 d4
        have hji : (j : Int) < L.length := by omega
        by_cases hpa : pat ≤ u.age
        · have q1 : decide (pat ≤ u.age) = true := by simpa using hpa
          cases bo with
          | none =>
            have hbn : bi none = -1 := rfl
            rw [hbn]
            clear hbn
            have HE : Hid (best pat L (j + 1) = some j) := by show best pat L (j + 1) = _; rw [HBS.out, HN.out]; simp [hpa, rover]
            go_wp2_with fail
            go_quiet (fail)
            go_wp2
            go_roundw
            case rel => exact ⟨j + 1, some j, by omega, by go_num, rfl, (by show _ = _; rw [HE.out]), by rw [HB.out, List.length_append, List.map_append]; exact HO.out, hB2.trans (below_drewN _ _ _)⟩
            case measure => simp [intOf]; omega
          | some b =>
            obtain ⟨hbj, hbl⟩ := best_lt j b hbo.out.symm
            obtain ⟨v, hv⟩ : ∃ v, L[b]? = some v := ⟨_, List.getElem?_eq_getElem hbl⟩
            obtain ⟨g3, cap3, e, ⟨x0, x1, x2, x3, x4⟩, _⟩ := hM2.at hv
            cases e
            have hbn : bi (some b) = (b : Int) := rfl
            rw [hbn]
            have hva := HAG.out v (List.mem_of_getElem? hv)
            have hbi2 : (b : Int) < L.length := by omega
            have hbi0 : (0 : Int) ≤ (b : Int) := by omega
            have hbi1 : decide ((b : Int) < 0) = false := by simp
            have HV := Lib.hid hv
            clear hv hbn
            by_cases hlt : v.age < u.age
            · have q2 : decide (v.age < u.age) = true := by simpa using hlt
              have HE : Hid (best pat L (j + 1) = some j) := by show best pat L (j + 1) = _; rw [HBS.out, HN.out]; simp [hpa, rover, HV.out, hlt]
              go_wp2_with fail
              go_quiet (fail)
              go_wp2
              go_roundw
              case rel => exact ⟨j + 1, some j, by omega, by go_num, rfl, (by show _ = _; rw [HE.out]), by rw [HB.out, List.length_append, List.map_append]; exact HO.out, hB2.trans (below_drewN _ _ _)⟩
              case measure => simp [intOf]; omega
            · have q2 : decide (v.age < u.age) = false := by simpa using hlt
              have HE : Hid (best pat L (j + 1) = some b) := by show best pat L (j + 1) = _; rw [HBS.out, HN.out]; simp [rover, HV.out, hlt]
              go_wp2_with fail
              go_quiet (fail)
              go_wp2
              go_roundw
              case rel => exact ⟨j + 1, some b, by omega, by go_num, rfl, (by show _ = _; rw [HE.out]), by rw [HB.out, List.length_append, List.map_append]; exact HO.out, hB2.trans (below_drewN _ _ _)⟩
              case measure => simp [intOf]; omega
        · have q1 : decide (pat ≤ u.age) = false := by simpa using hpa
          have HE : Hid (best pat L (j + 1) = bo) := by show best pat L (j + 1) = _; rw [HBS.out, HN.out]; simp [hpa]
          go_wp2_with fail
          go_quiet (fail)
          go_wp2
          go_roundw
          case rel => exact ⟨j + 1, bo, by omega, by go_num, rfl, (by show _ = _; rw [HE.out]), by rw [HB.out, List.length_append, List.map_append]; exact HO.out, hB2.trans (below_drewN _ _ _)⟩
          case measure => simp [intOf]; omega
      · have hb := awIdx_same hu ha
        have HE : Hid (best pat L (j + 1) = bo) := by show best pat L (j + 1) = _; rw [HBS.out]; unfold bestStep; rw [hu]; simp [ha]
        rw [ha] at d1
        have HB := Lib.hid hb
        have HU := Lib.hid hu
        clear hb hu ha
        go_wp2
        go_roundw
        case rel => exact ⟨j + 1, bo, by omega, by go_num, rfl, (by show _ = _; rw [HE.out]), by rw [HB.out]; exact hO, hB⟩
        case measure => simp [intOf]; omega
    · obtain rfl : j = L.length := by omega
      have hJlt := fun (i : Nat) (hi : i ∈ awIdx L L.length) => (awIdx_lt hi).2
      obtain ⟨J, hJ⟩ : ∃ J, awIdx L L.length = J := ⟨_, rfl⟩
      have two : 0 < J.length ∧ (bo = some i0 ∨ (bo = none ∧ J[n.toNat % J.length]? = some i0)) := by
        have hc := HCH.out
        unfold rchosen at hc
        rw [hJ] at hc
        have hb := hbo.out
        cases bo with
        | none =>
          rw [← hb] at hc
          exact ⟨Nat.lt_of_le_of_lt (Nat.zero_le _) (List.getElem?_eq_some_iff.1 hc).1, .inr ⟨rfl, hc⟩⟩
        | some b =>
          rw [← hb] at hc
          injection hc with hc
          subst hc
          have := best_mem L.length b hb.symm
          rw [hJ] at this
          exact ⟨List.length_pos_of_mem this, .inl rfl⟩
      obtain ⟨hJ0, two⟩ := two
      rw [hJ] at hal hO hJlt
      have HJ := Lib.hid hJ
      have hi0l := (List.getElem?_eq_some_iff.1 HT0.out).1
      simp only [hJ]
      subst hrv
      obtain ⟨g, hA⟩ : ∃ g, A = some ⟨g, 0, none⟩ := by
        obtain ⟨g, cap', e, _⟩ := hM.at HT0.out
        injection e with a1
        exact ⟨g, a1⟩
      subst hA
      obtain ⟨c0, c1, c2⟩ := hM.str.three
      have hLO := hO
      have hJe : ((J.length : Int) == 0) = false := beq_eq_false_iff_ne.2 (by omega)
      obtain ⟨fa, fb, fc, fd⟩ := row_facts hO
      have HFD := Lib.hid fd
      obtain ⟨gl, hgl, _⟩ := fd 0 (.int .i64 (J[0] : Nat)) (by rw [List.getElem?_map, List.getElem?_eq_getElem hJ0]; rfl)
      subst hgl
      have hgg : g < w.heap.size := (h.own_lt (.inr rfl)).2
      have hgl2 : w.heap.size ≤ gl := (World.ownsRow.lt hO gl rfl).1
      have HO := Lib.hid hO
      clear hJ hO hbo fa fd hLO
      have H1 : RMem B wr r (.slice (some ⟨g, 0, none⟩) L.length cap) pat now (bumpR L (J.take 0)) := hM
      rcases two with rfl | ⟨rfl, hx⟩
      · have hbn : bi (some i0) = (i0 : Int) := rfl
        rw [hbn]
        have hbi1 : decide ((i0 : Int) < 0) = false := by simp
        clear hbn
        go_wp2_with fail
        clear hbi1
        have F1 := Fr.of_below hB (ROwn r (.slice (some ⟨g, 0, none⟩) L.length cap))
        clear hM c0 c1 c2
        go_loopw [9] (fun iv wx => ∃ j : Nat, j ≤ J.length ∧ iv = .int .i64 j ∧ RMem B wx r (.slice (some ⟨g, 0, none⟩) L.length cap) pat now (bumpR L (J.take j)) ∧ wx.ownsRow w.heap.size 3 1 (.slice (some ⟨gl, 0, none⟩) J.length co) J.length (J.map fun i : Nat => .int .i64 i) ∧ Fr (ROwn r (.slice (some ⟨g, 0, none⟩) L.length cap)) w wx) (fun iv _ => J.length - (intOf iv).toNat)
        case atStart => exact ⟨0, Nat.zero_le _, rfl, H1, HO.out, F1⟩
        case round =>
          clear H1 F1 hB
          obtain ⟨j, hj, rfl, hMj, hOj, hFj⟩ := hrel
          have hal2 := bumpR_len L (J.take j)
          have HAL := Lib.hid hal2
          obtain ⟨c0, c1, c2⟩ := hMj.str.three
          by_cases hjl : j < J.length
          · obtain ⟨i, hx⟩ : ∃ i, J[j]? = some i := ⟨_, List.getElem?_eq_getElem hjl⟩
            have hil := hJlt i (List.mem_of_getElem? hx)
            obtain ⟨u, hu⟩ : ∃ u, (bumpR L (J.take j))[i]? = some u := ⟨_, List.getElem?_eq_getElem (by rw [hal2]; exact hil)⟩
            obtain ⟨⟨_, _, _, _, d4⟩, df⟩ := hMj.at2 hu
            have hcl : wr.cell? ⟨gl, j, none⟩ = some (.int .i64 i) := (World.ownsRow.cellAt hOj j (by omega)).trans (by rw [List.getElem?_map, hx]; rfl)
            have hua := bumpR_age HAG.out (J.take j) u (List.mem_of_getElem? hu)
            rw [List.length_take] at hua
            have hil' : (i : Int) < L.length := by omega
            have hjl' : (j : Int) < J.length := by omega
            have hi00 : (0 : Int) ≤ (i : Int) := by omega
            have M2 := hMj.one2 hu 4 (by omega) (.int .i64 (u.age + 1)) { u with age := u.age + 1 } rfl
            have e2 : (bumpR L (J.take j)).set i { u with age := u.age + 1 } = bumpR L (J.take (j + 1)) := by
              rw [bumpR_snoc hx]
              unfold incR
              rw [hu]
            rw [e2] at M2
            have O2 := hOj.kept (grownBy_set wr g (i * 5 + 4) (.int .i64 (u.age + 1))) (.inr (by simp [Value.ownBlock]; omega))
            have F2 := hFj.set (b := g) (fun _ => .inr rfl) (i * 5 + 4) (.int .i64 (u.age + 1))
            have HM := Lib.hid hMj
            have HU := Lib.hid hu
            have HX := Lib.hid hx
            clear hal2 e2 hMj hOj hFj hu hx hJlt HFD
            have c2' : World.cell? { wr with drawn := wr.drawn + 1 } ⟨r, 2, none⟩ = some (.slice (some ⟨g, 0, none⟩) L.length cap) := c2
            have hcl' : World.cell? { wr with drawn := wr.drawn + 1 } ⟨gl, j, none⟩ = some (.int .i64 i) := hcl
            have d4' : World.cell? { wr with drawn := wr.drawn + 1 } ⟨g, i * 5 + 4, none⟩ = some (.int .i64 u.age) := d4
            go_wp2_with fail
            go_still_tail 14, (by kernel_rfl)
            change wpList _ _ _ _ _ wr.drew
            clear c2' hcl' d4'
            go_wp2
            go_roundw
            case rel => exact ⟨j + 1, by omega, by go_num, M2.same (fun _ _ => rfl), O2.drew, ⟨F2.os, F2.tape, F2.output, F2.size, F2.block⟩⟩
            case measure => simp [intOf]; omega
          · obtain rfl : j = J.length := by omega
            rw [List.take_length] at hMj hal2
            obtain ⟨u, hu⟩ : ∃ u, (bumpR L J)[i0]? = some u := ⟨_, List.getElem?_eq_getElem (by rw [hal2]; exact hi0l)⟩
            obtain ⟨⟨d0, _, _, _, d4⟩, df⟩ := hMj.at2 hu
            have hid : u.id = t0.id := by
              have := bumpR_id L J i0
              rw [hu, HT0.out] at this
              simpa using this
            have M2 := hMj.one2 hu 4 (by omega) (.int .i64 0) { u with age := 0 } rfl
            have e2 : (bumpR L J).set i0 { u with age := 0 } = rpicked L i0 := by
              unfold rpicked
              rw [HJ.out, hu]
            rw [e2] at M2
            have F2 := hFj.set (b := g) (fun _ => .inr rfl) (i0 * 5 + 4) (.int .i64 0)
            have hi00 : (0 : Int) ≤ (i0 : Int) := by omega
            have hil' : (i0 : Int) < L.length := by omega
            rw [hid] at d0
            have HM := Lib.hid hMj
            have HU := Lib.hid hu
            clear hal2 e2 hMj hOj hFj hu hJlt HFD hid
            go_wp2
            go_ret2
            exact ⟨rfl, M2, F2⟩
      · have hbn : bi none = -1 := rfl
        rw [hbn]
        clear hbn
        obtain ⟨m, hm⟩ : ∃ m : Nat, n % (J.length : Int) = m := ⟨(n % (J.length : Int)).toNat, by rw [Int.toNat_of_nonneg (Int.emod_nonneg _ (by omega))]⟩
        have hmL : m < J.length := by
          have := Int.emod_lt_of_pos n (show (0 : Int) < J.length by omega)
          omega
        have hmx : n.toNat % J.length = m := by
          have e : ((n.toNat % J.length : Nat) : Int) = m := by rw [Int.natCast_emod, Int.toNat_of_nonneg hn0, hm]
          omega
        rw [hmx] at hx
        obtain ⟨gl', e, hcl⟩ := HFD.out m (.int .i64 i0) (by rw [List.getElem?_map, hx]; rfl)
        cases e
        have hmL' : (m : Int) < J.length := by omega
        have HX := Lib.hid hx
        clear hx hmx
        go_wp2_with fail
        clear hcl hmL' hmL HX hm
        have F1 := Fr.of_below hB (ROwn r (.slice (some ⟨g, 0, none⟩) L.length cap))
        clear hM c0 c1 c2
        go_loopw [9] (fun iv wx => ∃ j : Nat, j ≤ J.length ∧ iv = .int .i64 j ∧ RMem B wx r (.slice (some ⟨g, 0, none⟩) L.length cap) pat now (bumpR L (J.take j)) ∧ wx.ownsRow w.heap.size 3 1 (.slice (some ⟨gl, 0, none⟩) J.length co) J.length (J.map fun i : Nat => .int .i64 i) ∧ Fr (ROwn r (.slice (some ⟨g, 0, none⟩) L.length cap)) w wx) (fun iv _ => J.length - (intOf iv).toNat)
        case atStart => exact ⟨0, Nat.zero_le _, rfl, H1, HO.out, F1⟩
        case round =>
          clear H1 F1 hB
          obtain ⟨j, hj, rfl, hMj, hOj, hFj⟩ := hrel
          have hal2 := bumpR_len L (J.take j)
          have HAL := Lib.hid hal2
          obtain ⟨c0, c1, c2⟩ := hMj.str.three
          by_cases hjl : j < J.length
          · obtain ⟨i, hx⟩ : ∃ i, J[j]? = some i := ⟨_, List.getElem?_eq_getElem hjl⟩
            have hil := hJlt i (List.mem_of_getElem? hx)
            obtain ⟨u, hu⟩ : ∃ u, (bumpR L (J.take j))[i]? = some u := ⟨_, List.getElem?_eq_getElem (by rw [hal2]; exact hil)⟩
            obtain ⟨⟨_, _, _, _, d4⟩, df⟩ := hMj.at2 hu
            have hcl : wr.cell? ⟨gl, j, none⟩ = some (.int .i64 i) := (World.ownsRow.cellAt hOj j (by omega)).trans (by rw [List.getElem?_map, hx]; rfl)
            have hua := bumpR_age HAG.out (J.take j) u (List.mem_of_getElem? hu)
            rw [List.length_take] at hua
            have hil' : (i : Int) < L.length := by omega
            have hjl' : (j : Int) < J.length := by omega
            have hi00 : (0 : Int) ≤ (i : Int) := by omega
            have M2 := hMj.one2 hu 4 (by omega) (.int .i64 (u.age + 1)) { u with age := u.age + 1 } rfl
            have e2 : (bumpR L (J.take j)).set i { u with age := u.age + 1 } = bumpR L (J.take (j + 1)) := by
              rw [bumpR_snoc hx]
              unfold incR
              rw [hu]
            rw [e2] at M2
            have O2 := hOj.kept (grownBy_set wr g (i * 5 + 4) (.int .i64 (u.age + 1))) (.inr (by simp [Value.ownBlock]; omega))
            have F2 := hFj.set (b := g) (fun _ => .inr rfl) (i * 5 + 4) (.int .i64 (u.age + 1))
            have HM := Lib.hid hMj
            have HU := Lib.hid hu
            have HX := Lib.hid hx
            clear hal2 e2 hMj hOj hFj hu hx hJlt HFD
            have c2' : World.cell? { wr with drawn := wr.drawn + 1 } ⟨r, 2, none⟩ = some (.slice (some ⟨g, 0, none⟩) L.length cap) := c2
            have hcl' : World.cell? { wr with drawn := wr.drawn + 1 } ⟨gl, j, none⟩ = some (.int .i64 i) := hcl
            have d4' : World.cell? { wr with drawn := wr.drawn + 1 } ⟨g, i * 5 + 4, none⟩ = some (.int .i64 u.age) := d4
            go_wp2_with fail
            go_still_tail 14, (by kernel_rfl)
            change wpList _ _ _ _ _ wr.drew
            clear c2' hcl' d4'
            go_wp2
            go_roundw
            case rel => exact ⟨j + 1, by omega, by go_num, M2.same (fun _ _ => rfl), O2.drew, ⟨F2.os, F2.tape, F2.output, F2.size, F2.block⟩⟩
            case measure => simp [intOf]; omega
          · obtain rfl : j = J.length := by omega
            rw [List.take_length] at hMj hal2
            obtain ⟨u, hu⟩ : ∃ u, (bumpR L J)[i0]? = some u := ⟨_, List.getElem?_eq_getElem (by rw [hal2]; exact hi0l)⟩
            obtain ⟨⟨d0, _, _, _, d4⟩, df⟩ := hMj.at2 hu
            have hid : u.id = t0.id := by
              have := bumpR_id L J i0
              rw [hu, HT0.out] at this
              simpa using this
            have M2 := hMj.one2 hu 4 (by omega) (.int .i64 0) { u with age := 0 } rfl
            have e2 : (bumpR L J).set i0 { u with age := 0 } = rpicked L i0 := by
              unfold rpicked
              rw [HJ.out, hu]
            rw [e2] at M2
            have F2 := hFj.set (b := g) (fun _ => .inr rfl) (i0 * 5 + 4) (.int .i64 0)
            have hi00 : (0 : Int) ≤ (i0 : Int) := by omega
            have hil' : (i0 : Int) < L.length := by omega
            rw [hid] at d0
            have HM := Lib.hid hMj
            have HU := Lib.hid hu
            clear hal2 e2 hMj hOj hFj hu hJlt HFD hid
            go_wp2
            go_ret2
            exact ⟨rfl, M2, F2⟩
end Go.Proofs.Ytlkphbcdgkjnoaa
