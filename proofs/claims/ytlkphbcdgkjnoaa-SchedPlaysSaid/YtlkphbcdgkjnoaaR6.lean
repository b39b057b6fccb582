/- The document's scheduler: Tick: what it returns and what it turns. -/
import Derived.Test.YtlkphbcdgkjnoaaR5
namespace Go.Proofs.Ytlkphbcdgkjnoaa
open Go.RowKit Go.Maps

def dueB (z : Int) (t : R) : Bool := t.timed && decide (t.at_ ≤ z)
def soon (L : List R) (acc : Option Nat) (t : R) : Bool := match acc with | none => true | some b => match L[b]? with | some u => decide (t.at_ < u.at_) | none => true
def tbStep (z : Int) (L : List R) (acc : Option Nat) (i : Nat) : Option Nat :=
  match L[i]? with
  | none => acc
  | some t => if (dueB z t && soon L acc t) = true then some i else acc
/-- Who is woken next. -/
def tbest (z : Int) (L : List R) (j : Nat) : Option Nat := (List.range j).foldl (tbStep z L) none
theorem tbest_succ (z : Int) (L : List R) (j : Nat) : tbest z L (j + 1) = tbStep z L (tbest z L j) j := by
  unfold tbest
  rw [List.range_succ, List.foldl_append]
  rfl
theorem tbest_due {z : Int} {L : List R} : ∀ (j : Nat) (b : Nat), tbest z L j = some b → b < j ∧ ∃ t, L[b]? = some t ∧ dueB z t = true
  | 0, b, h => by simp [tbest] at h
  | j + 1, b, h => by
    rw [tbest_succ] at h
    have ih := tbest_due (z := z) (L := L) j
    unfold tbStep at h
    cases hx : L[j]? with
    | none => rw [hx] at h; have := ih b h; exact ⟨by omega, this.2⟩
    | some t =>
      rw [hx] at h
      simp only at h
      split at h
      · rename_i c
        injection h with h
        subst h
        rw [Bool.and_eq_true] at c
        exact ⟨by omega, t, hx, c.1⟩
      · have := ih b h; exact ⟨by omega, this.2⟩
/-- Those that are woken, one behind the other, and what is left. -/
inductive RTrail (z : Int) (L : List R) : List Int → List R → Prop
  | nil : RTrail z L [] L
  | snoc {xs : List Int} {L1 : List R} {i : Nat} {t : R} : RTrail z L xs L1 → tbest z L1 L1.length = some i → L1[i]? = some t → RTrail z L (xs ++ [t.id]) (L1.set i ⟨t.id, false, false, 0, 0⟩)
def dueR (z : Int) (L : List R) : Nat := (L.filter (dueB z)).length
theorem dueR_set {z : Int} : ∀ {L : List R} {i : Nat} {t u : R}, L[i]? = some t → dueB z t = true → dueB z u = false → dueR z (L.set i u) + 1 = dueR z L
  | [], i, t, u, h, _, _ => by simp at h
  | v :: L, 0, t, u, h, h1, h2 => by
    simp at h
    subst h
    simp [dueR, List.filter_cons, h1, h2]
  | v :: L, i + 1, t, u, h, h1, h2 => by
    have ih := dueR_set (L := L) (i := i) (t := t) (u := u) (by simpa using h) h1 h2
    unfold dueR at ih ⊢
    rw [List.set_cons_succ, List.filter_cons, List.filter_cons]
    split
    · rw [List.length_cons, List.length_cons]; omega
    · exact ih

theorem rtick_back {B : Nat} {w : World} {r : Nat} {rv : Value} {pat now : Int} {L : List R} (h : RMem B w r rv pat now L) (z : Int) (hz : z < now) :
    Calls Try.prog 34 #[ptr r, .int .u64 z] w fun e w' => e = .returned (.tuple #[.slice none 0 0, .int .i64 2]) ∧ w = w' := by
  obtain ⟨c0, c1, c2⟩ := h.str.three
  go_enter Try.func34, Try.ntmps34
  go_wp2
  go_ret2
  exact ⟨rfl, rfl⟩
/-- The time that is told. -/
theorem RMem.tell {B : Nat} {W : World} {r : Nat} {rv : Value} {pat now : Int} {L : List R} (h : RMem B W r rv pat now L) (z : Int) : RMem B (W.setCell ⟨r, 1, none⟩ (.int .u64 z)) r rv pat z L :=
  ⟨h.str.set 1 _, h.row.kept (grownBy_set W r 1 _) (.inr (h.str.not_row (by decide) h.row).symm), h.hr⟩
theorem RMem.drewN {B : Nat} {W : World} {r : Nat} {rv : Value} {pat now : Int} {L : List R} (h : RMem B W r rv pat now L) (q : Nat) : RMem B (W.drewN q) r rv pat now L := h.same (fun _ _ => rfl)

set_option maxRecDepth 100000 in
set_option maxHeartbeats 4000000 in
theorem rtick_any {B : Nat} {w : World} {r : Nat} {rv : Value} {pat now : Int} {L : List R} (h : RMem B w r rv pat now L) (hlen : L.length ≤ 100000) (z : Int) (hz : now ≤ z) (hBw : B ≤ w.heap.size) :
    Calls Try.prog 34 #[ptr r, .int .u64 z] w fun e w' => ∃ v xs L', e = .returned (.tuple #[v, .int .i64 0]) ∧ w'.ownsRow w.heap.size 29 1 v xs.length (xs.map (.int .u64 ·)) ∧ RTrail z L xs L' ∧ tbest z L' L'.length = none ∧ RMem B w' r rv pat z L' ∧ Fr (ROwn r rv) w w' := by
  obtain ⟨A, cap, rfl⟩ := row_form h.row
  obtain ⟨c0, c1, c2⟩ := h.str.three
  have cf := fun k => h.str.frozen k
  obtain ⟨i0, hi, hy0, hy1, hy2⟩ := info_parts Try.inf29
  have M1 := h.tell z
  have F1 := (Fr.refl (ROwn r (.slice A L.length cap)) w).set (b := r) (fun _ => .inl rfl) 1 (.int .u64 z)
  have hd : decide (z < now) = false := by simpa using hz
  have hgA : ∀ g, A = some ⟨g, 0, none⟩ → g < w.heap.size := fun g e => by subst e; exact (h.own_lt (.inr rfl)).2
  have HGA := Lib.hid hgA
  have hdl : dueR z L ≤ 100000 := Nat.le_trans (List.length_filter_le _ _) hlen
  clear hgA h
  go_enter Try.func34, Try.ntmps34
  go_wp2_with fail
  obtain ⟨w1, hw1⟩ : ∃ w1, w.setCell ⟨r, 1, none⟩ (.int .u64 z) = w1 := ⟨_, rfl⟩
  rw [hw1] at M1 F1 ⊢
  clear hw1 c0 c1 c2 cf hd
  go_loopw [6] (fun ov wr => ∃ (xs : List Int) (L1 : List R), RTrail z L xs L1 ∧ RMem B wr r (.slice A L.length cap) pat z L1 ∧ wr.ownsRow w.heap.size 29 1 ov xs.length (xs.map (.int .u64 ·)) ∧ Fr (ROwn r (.slice A L.length cap)) w wr ∧ dueR z L1 + xs.length = dueR z L) (fun ov _ => dueR z L - slLen ov)
  case atStart => exact ⟨[], L, .nil, M1, World.ownsRow_nil _ _ _ _, F1, by simp⟩
  case round =>
    clear M1 F1
    obtain ⟨xs, L1, hT, hM, hO, hF, hsum⟩ := hrel
    obtain ⟨Ao, co, rfl⟩ := row_form hO
    have hml := hM.m_eq
    have HML := Lib.hid hml
    have HS := Lib.hid hsum
    have hxl : xs.length ≤ 100000 := by omega
    clear hsum hml
    go_wp2_with fail
    go_loopw [7, 8] (fun bv iv wx => ∃ (j : Nat) (bo : Option Nat) (q : Nat), j ≤ L.length ∧ iv = .int .i64 j ∧ bv = .int .i64 (bi bo) ∧ Hid (bo = tbest z L1 j) ∧ wx = wr.drewN q) (fun _ iv _ => L.length - (intOf iv).toNat)
    case atStart => exact ⟨0, none, 0, Nat.zero_le _, rfl, rfl, rfl, rfl⟩
    case round =>
      obtain ⟨j, bo, q, hj, rfl, rfl, hbo, rfl⟩ := hrel
      obtain ⟨c0, c1, c2⟩ := hM.str.three
      by_cases hjl : j < L.length
      · obtain ⟨u, hu⟩ : ∃ u, L1[j]? = some u := ⟨_, List.getElem?_eq_getElem (by rw [← HML.out]; exact hjl)⟩
        obtain ⟨g, cap', e, hdrop⟩ := hM.at hu
        clear hdrop
        obtain ⟨rfl, rfl⟩ : A = some ⟨g, 0, none⟩ ∧ cap = cap' := by
          injection e with a1 a2 a3
          exact ⟨a1, a3⟩
        clear e
        obtain ⟨⟨d0, d1, d2, d3, d4⟩, df⟩ := hM.at2 hu
        have hji : (j : Int) < L.length := by omega
        have hbs := tbest_succ z L1 j
        rw [← hbo.out] at hbs
        have HBS := Lib.hid hbs
        have HN : Hid (∀ acc, tbStep z L1 acc j = if (dueB z u && soon L1 acc u) = true then some j else acc) := by
          show ∀ acc, tbStep z L1 acc j = _
          intro acc; unfold tbStep; rw [hu]
        have HU := Lib.hid hu
        clear hbs hu hO hF hT
        cases hti : u.timed
        · rw [hti] at d2
          have HTI := Lib.hid hti
          clear hti
          have HE : Hid (tbest z L1 (j + 1) = bo) := by show tbest z L1 (j + 1) = _; rw [HBS.out, HN.out]; simp [dueB, HTI.out]
          go_wp2_with fail
          go_quiet (fail)
          go_wp2
          go_roundw
          case rel => exact ⟨j + 1, bo, _, by omega, by go_num, rfl, (by show _ = _; rw [HE.out]), rfl⟩
          case measure => simp [intOf]; omega
        · rw [hti] at d2
          have HTI := Lib.hid hti
          clear hti
          by_cases hat : u.at_ ≤ z
          · have q1 : decide (u.at_ ≤ z) = true := by simpa using hat
            cases bo with
            | none =>
              have hbn : bi none = -1 := rfl
              rw [hbn]
              clear hbn
              have HE : Hid (tbest z L1 (j + 1) = some j) := by show tbest z L1 (j + 1) = _; rw [HBS.out, HN.out]; simp [dueB, HTI.out, hat, soon]
              go_wp2_with fail
              go_quiet (fail)
              go_wp2
              go_roundw
              case rel => exact ⟨j + 1, some j, _, by omega, by go_num, rfl, (by show _ = _; rw [HE.out]), rfl⟩
              case measure => simp [intOf]; omega
            | some b =>
              obtain ⟨hbj, v, hv, _⟩ := tbest_due j b hbo.out.symm
              obtain ⟨⟨x0, x1, x2, x3, x4⟩, _⟩ := hM.at2 hv
              have hbn : bi (some b) = (b : Int) := rfl
              rw [hbn]
              have hbi2 : (b : Int) < L.length := by omega
              have hbi0 : (0 : Int) ≤ (b : Int) := by omega
              have hbi1 : decide ((b : Int) < 0) = false := by simp
              have HV := Lib.hid hv
              clear hv hbn
              by_cases hlt : u.at_ < v.at_
              · have q2 : decide (u.at_ < v.at_) = true := by simpa using hlt
                have HE : Hid (tbest z L1 (j + 1) = some j) := by show tbest z L1 (j + 1) = _; rw [HBS.out, HN.out]; simp [dueB, HTI.out, hat, soon, HV.out, hlt]
                go_wp2_with fail
                go_quiet (fail)
                go_wp2
                go_roundw
                case rel => exact ⟨j + 1, some j, _, by omega, by go_num, rfl, (by show _ = _; rw [HE.out]), rfl⟩
                case measure => simp [intOf]; omega
              · have q2 : decide (u.at_ < v.at_) = false := by simpa using hlt
                have HE : Hid (tbest z L1 (j + 1) = some b) := by show tbest z L1 (j + 1) = _; rw [HBS.out, HN.out]; simp [soon, HV.out, hlt]
                go_wp2_with fail
                go_quiet (fail)
                go_wp2
                go_roundw
                case rel => exact ⟨j + 1, some b, _, by omega, by go_num, rfl, (by show _ = _; rw [HE.out]), rfl⟩
                case measure => simp [intOf]; omega
          · have q1 : decide (u.at_ ≤ z) = false := by simpa using hat
            have HE : Hid (tbest z L1 (j + 1) = bo) := by show tbest z L1 (j + 1) = _; rw [HBS.out, HN.out]; simp [dueB, hat]
            go_wp2_with fail
            go_quiet (fail)
            go_wp2
            go_roundw
            case rel => exact ⟨j + 1, bo, _, by omega, by go_num, rfl, (by show _ = _; rw [HE.out]), rfl⟩
            case measure => simp [intOf]; omega
      · obtain rfl : j = L.length := by omega
        have hM2 := hM.drewN q
        have hF2 := hF.drewN q
        have hO2 : (wr.drewN q).ownsRow w.heap.size 29 1 (.slice Ao xs.length co) xs.length (xs.map (.int .u64 ·)) := hO
        revert hM2 hF2 hO2
        generalize wr.drewN q = W
        intro hM2 hF2 hO2
        clear hM hF hO c0 c1 c2
        obtain ⟨c0, c1, c2⟩ := hM2.str.three
        cases bo with
        | none =>
          have hbn : bi none = -1 := rfl
          rw [hbn]
          clear hbn
          have HBO : Hid (tbest z L1 L1.length = none) := by show _ = _; rw [← HML.out]; exact hbo.out.symm
          clear hbo
          go_wp2
          go_ret2
          exact ⟨_, xs, L1, rfl, hO2, hT, HBO.out, hM2, hF2⟩
        | some b =>
          have HBO : Hid (tbest z L1 L1.length = some b) := by show _ = _; rw [← HML.out]; exact hbo.out.symm
          obtain ⟨hbj, t, ht, hdu⟩ := tbest_due _ b hbo.out.symm
          obtain ⟨g, cap', e, hdrop⟩ := hM2.at ht
          clear hdrop
          obtain ⟨rfl, rfl⟩ : A = some ⟨g, 0, none⟩ ∧ cap = cap' := by
            injection e with a1 a2 a3
            exact ⟨a1, a3⟩
          clear e hbo
          have hbn : bi (some b) = (b : Int) := rfl
          rw [hbn]
          have hbi2 : (b : Int) < L.length := by omega
          have hbi0 : (0 : Int) ≤ (b : Int) := by omega
          have hbi1 : decide ((b : Int) < 0) = false := by simp
          obtain ⟨⟨d0, d1, d2, d3, d4⟩, df⟩ := hM2.at2 ht
          have hgw := HGA.out g rfl
          have HT := Lib.hid ht
          have HD := Lib.hid hdu
          clear ht hdu hbn
          have hsz := hF2.size
          go_wp2_with (at_builtin; refine wpList_append_own _ rfl _ _ 22 rfl w.heap.size 29 i0 (.int .u64 0) 1 8 Try.und22 hi hy0 hy1 hy2 rfl (by decide) _ _ _ rfl (hO2.alloc _) ⟨W.heap.size, 0, none⟩ 1 1 [.int .u64 t.id] rfl rfl (cell_one_new _ _ _) (by simp [Value.oneCell']) (by unfold maxLen; omega) (by omega) (by simp; omega) ?_)
          intro v' w2 hown' hgrow _
          obtain ⟨g2, cap2, hv⟩ := ownsRow_succ hown'
          subst hv
          have hg2 := (World.ownsRow.lt hown' g2 rfl).1
          have hF3 := (hF2.alloc (.cells #[.int .u64 t.id] 29)).grown hgrow (fun x hx hlt => absurd (World.ownsRow.lt hO2 x hx).1 (by omega))
          have hM3 : RMem B w2 r (.slice (some ⟨g, 0, none⟩) L.length cap) pat z L1 := by
            have k1 := (hM2.str.alloc (.cells #[.int .u64 t.id] 29)).kept hgrow (hM2.str.not_row (by decide) hO2)
            have k2 := (hM2.row.alloc (.cells #[.int .u64 t.id] 29)).kept hgrow (rows_ne hM2.row hO2 (by decide))
            exact ⟨k1, k2, hM2.hr⟩
          obtain ⟨⟨x0, x1, x2, x3, x4⟩, xf⟩ := hM3.at2 HT.out
          obtain ⟨f0, f1, f2⟩ := hM3.str.three
          have M4 := hM3.put2 HT.out ⟨t.id, false, false, 0, 0⟩
          have F4 := hF3.put5 (g := g) (fun _ => .inr rfl) (b * 5) ⟨t.id, false, false, 0, 0⟩
          have hne : g2 ≠ g := by omega
          have O4 : (put5 w2 g (b * 5) ⟨t.id, false, false, 0, 0⟩).ownsRow w.heap.size 29 1 (.slice (some ⟨g2, 0, none⟩) (xs.length + 1) cap2) (xs.length + 1) ((xs.map (.int .u64 ·)) ++ [.int .u64 t.id]) :=
            row_same hown' (fun k hk => by
              cases hk
              exact ((((Below.heap_setCell _ _ _ _ hne).trans (Below.heap_setCell _ _ _ _ hne)).trans (Below.heap_setCell _ _ _ _ hne)).trans (Below.heap_setCell _ _ _ _ hne)).trans (Below.heap_setCell _ _ _ _ hne))
          have f2' : World.cell? { w2 with drawn := w2.drawn + 1 } ⟨r, 2, none⟩ = some (.slice (some ⟨g, 0, none⟩) L.length cap) := f2
          have x0' : World.cell? { w2 with drawn := w2.drawn + 1 } ⟨g, b * 5, none⟩ = some (.int .u64 t.id) := x0
          have HM3 := Lib.hid hM3
          have HM2 := Lib.hid hM2
          clear hown' hgrow hO2 hM2 hF2 hM3 hF3 c0 c1 c2 d0 d1 d2 d3 d4 df
          go_wp2_with fail
          go_still_tail 15, (by kernel_rfl)
          change wpList _ _ _ _ _ w2.drew
          clear f2' x0'
          go_wp2
          go_roundw
          case rel =>
            refine ⟨xs ++ [t.id], _, .snoc hT HBO.out HT.out, M4.same (fun _ _ => rfl), ?_, ⟨F4.os, F4.tape, F4.output, F4.size, F4.block⟩, ?_⟩
            · rw [List.length_append, List.map_append]
              exact O4.drew
            · have := HS.out
              have := dueR_set HT.out HD.out (u := ⟨t.id, false, false, 0, 0⟩) rfl
              rw [List.length_append]
              simp only [List.length_cons, List.length_nil]
              omega
          case measure =>
            have := HS.out
            have := dueR_set HT.out HD.out (u := ⟨t.id, false, false, 0, 0⟩) rfl
            simp [slLen]
            omega
end Go.Proofs.Ytlkphbcdgkjnoaa
