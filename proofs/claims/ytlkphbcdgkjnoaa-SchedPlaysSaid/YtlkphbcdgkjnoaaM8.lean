/- Until and Tick, where nobody else sleeps until a time. -/
import Derived.Test.YtlkphbcdgkjnoaaM7
namespace Go.Proofs.Ytlkphbcdgkjnoaa
open Go.RowKit Go.Maps

/-- A handler that sleeps until a time. -/
def T.put (t : T) (at_ : Int) : T := { t with asleep := true, timed := true, at_ := at_, age := 0 }

theorem below_drewN (B : Nat) (w : World) (n : Nat) : Below B w (w.drewN n) := ⟨rfl, rfl, rfl, Nat.le_refl _, fun _ _ => rfl⟩
theorem grown_drewN (w : World) (n : Nat) : w.grownBy (w.drewN n) none := ⟨rfl, rfl, rfl, Nat.le_refl _, fun _ _ _ => rfl⟩

set_option maxRecDepth 100000 in
set_option maxHeartbeats 2000000 in
theorem until_one {B : Nat} {w : World} {s mb n : Nat} {va vt : Value} {st : St} (h : Mem B w s va mb vt n st) {t : T} (ht : t ∈ st.l) (hti : t.timed = false) (hhp : st.hp = []) (hid : (Lit.int .u64 t.id).wf = true) (hb : blkOf st.l t.id = t.b)
    (z : Int) (hn0 : 0 ≤ st.now) (hz0 : st.now < z) (hz1 : z < 18446744073709551616) (hBw : B ≤ w.heap.size) :
    Calls Try.prog 11 #[ptr s, .int .u64 t.id, .int .u64 z] w fun e w' => e = .returned (.int .i64 0) ∧ (∃ g cap, Mem B w' s va mb (.slice (some ⟨g, 0, none⟩) 1 cap) n { st with l := turned t.b (t.put z) st.l, hp := [t.b] }) ∧ Below B w w' := by
  have hF := find_some h hid hb
  have hR := ready_idle h ht hti
  have M1 := h.rest ht
  have B1 := below_rest (Below.refl B w) (h.ht t ht)
  have sz1 : (restW w t.b).heap.size = w.heap.size := by simp [restW]
  obtain ⟨w1, hw1⟩ : ∃ w1, restW w t.b = w1 := ⟨_, rfl⟩
  rw [hw1] at hR M1 B1 sz1
  clear hw1
  -- the three stores
  have M2a := M1.again ht rfl 2 (.bool true) { t.rested with asleep := true } rfl rfl rfl
  have M2b := M2a.again ht rfl 3 (.bool true) { t.rested with asleep := true, timed := true } rfl rfl rfl
  have M2 := M2b.again ht rfl 4 (.int .u64 z) (t.put z) rfl rfl rfl
  have B2 := ((B1.setCell (p := ⟨t.b, 2, none⟩) (h.ht t ht) (.bool true)).setCell (p := ⟨t.b, 3, none⟩) (h.ht t ht) (.bool true)).setCell (p := ⟨t.b, 4, none⟩) (h.ht t ht) (.int .u64 z)
  have mt : t.rested ∈ turned t.b t.rested st.l := turned_mem ht
  obtain ⟨t0, t1, t2, t3, t4, t5⟩ := (M1.tasks _ mt).six
  have tf := fun k => (M1.tasks _ mt).frozen k
  have eb : t.rested.b = t.b := rfl
  simp only [eb] at t0 t1 t2 t3 t4 t5 tf
  have hl0 : st.hp.length = 0 := by rw [hhp]; rfl
  obtain ⟨A, cap, hv⟩ := row_form h.tim
  rw [hl0] at hv
  subst hv
  obtain ⟨c0, c1, c2, c3, c4, c5⟩ := h.str.six
  obtain ⟨d0, d1, d2, d3, d4, d5⟩ := M2.str.six
  have df := fun k => M2.str.frozen k
  have sz2 : (((w1.setCell ⟨t.b, 2, none⟩ (.bool true)).setCell ⟨t.b, 3, none⟩ (.bool true)).setCell ⟨t.b, 4, none⟩ (.int .u64 z)).heap.size = w.heap.size := by simp [sz1]
  have T2 := M2.tim
  simp only [hhp] at T2
  obtain ⟨w2, hw2⟩ : ∃ w2, ((w1.setCell ⟨t.b, 2, none⟩ (.bool true)).setCell ⟨t.b, 3, none⟩ (.bool true)).setCell ⟨t.b, 4, none⟩ (.int .u64 z) = w2 := ⟨_, rfl⟩
  rw [hw2] at d0 d1 d2 d3 d4 d5 df sz2 M2 B2 T2
  obtain ⟨i0, hi, hy0, hy1, hy2⟩ := info_parts Try.inf60
  have T3 := T2.alloc (.cells #[.pointer (some ⟨t.b, 0, none⟩)] 60)
  have hnew := cell_one_new w2 (.pointer (some ⟨t.b, 0, none⟩)) 60
  have sz3 : (w2.alloc (.cells #[.pointer (some ⟨t.b, 0, none⟩)] 60)).heap.size = w.heap.size + 1 := by rw [World.size_alloc, sz2]
  rw [sz2] at hnew
  have MA := M2.alloc (.cells #[.pointer (some ⟨t.b, 0, none⟩)] 60)
  have BA := B2.alloc (by rw [sz2]; exact hBw) (.cells #[.pointer (some ⟨t.b, 0, none⟩)] 60)
  have hlt := h.hs
  have hva : ∀ k, va.ownBlock = some k → k < w.heap.size := fun k hk => (h.all.lt k hk).2
  have hrows := h.rows
  clear M2a M2b hl0 hhp hb M2 B2 M1 B1 mt
  go_enter Try.func11, Try.ntmps11
  go_wp2_with (first
    | (at_builtin; refine wpList_append_own_at _ rfl _ _ 57 rfl B 60 i0 (.pointer none) 1 8 Try.und57 hi hy0 hy1 hy2 rfl (by decide) _ 0 [] rfl T3 ⟨w.heap.size, 0, none⟩ 1 1 [.pointer (some ⟨t.b, 0, none⟩)] rfl rfl hnew (by simp [Value.oneCell']) (by unfold maxLen; omega) (by omega) (by rw [sz3]; omega) ?_)
    | (go_at_call 26; refine hF.mono ?_; rintro e w3 ⟨rfl, rfl⟩)
    | (go_at_call 27; refine hR.mono ?_; rintro e w3 ⟨rfl, rfl⟩))
  intro v' w3 hown' hgrow _ hloc
  have hown1 : w3.ownsRow B 60 1 v' 1 [ptr t.b] := hown'
  obtain ⟨g', cap', hv⟩ := ownsRow_succ hown1
  simp only [Nat.zero_add] at hv
  subst hv
  have hr3 : ∀ k, va.ownBlock = some k → some k ≠ (Value.slice A 0 cap).ownBlock := fun k hk e => hrows k hk e.symm
  have S3 := MA.str.kept hgrow (MA.str.not_row (by decide) T3)
  have A3 : w3.ownsRow B 60 1 va _ _ := MA.all.kept hgrow (by
    cases e : va.ownBlock with
    | none => exact .inl rfl
    | some k => exact .inr (fun e' => hrows k e e'.symm))
  have P3 := MA.map.kept hgrow (MA.map.not_row T3)
  have K3 := fun u hu => (MA.tasks u hu).kept hgrow ((MA.tasks u hu).not_row (by decide) T3)
  have B3 := BA.grown hgrow (by rw [sz3]; omega) (fun k hk => (World.ownsRow.lt T3 k hk).1)
  have k4 := grownBy_set w3 s 5 (.slice (some ⟨g', 0, none⟩) 1 cap')
  have S4 : Blk (w3.setCell ⟨s, 5, none⟩ (.slice (some ⟨g', 0, none⟩) 1 cap')) s 59 #[.int .i64 st.pat, .int .u64 st.now, .int .u64 st.ord, va, .map (some mb), .slice (some ⟨g', 0, none⟩) 1 cap'] := S3.set 5 _
  have M4 : Mem B (w3.setCell ⟨s, 5, none⟩ (.slice (some ⟨g', 0, none⟩) 1 cap')) s va mb (.slice (some ⟨g', 0, none⟩) 1 cap') n { st with l := turned t.b (t.put z) st.l, hp := [t.b] } := by
    refine ⟨S4, A3.kept k4 (.inr (S3.not_row (by decide) A3).symm), hown1.kept k4 (.inr (S3.not_row (by decide) hown1).symm), ?_, P3.kept k4 (by simpa using (P3.ne S3).symm), fun u hu => (K3 u hu).kept k4 (by simpa using ((K3 u hu).ne S3 (by decide))), MA.apart, MA.hs, MA.hm, MA.ht⟩
    intro k hk hk'
    rcases hloc with e | e
    · exact hrows k hk (e.symm.trans hk')
    · rw [e] at hk'
      have := hva k hk
      injection hk' with hk'
      omega
  have B4 := B3.setCell (p := ⟨s, 5, none⟩) hlt (.slice (some ⟨g', 0, none⟩) 1 cap')
  obtain ⟨x0, x1, x2, x3, x4, x5⟩ := S3.six
  have xf := fun k => S3.frozen k
  obtain ⟨y0, y1, y2, y3, y4, y5⟩ := S4.six
  clear S3 A3 P3 K3 B3 k4 S4 hown' hown1
  go_wp2_with fail
  go_quiet ((go_at_call 28; refine Calls.quiet_of (up_zero _ _ _ _)))
  go_wp2
  go_ret
  have kd := below_drewN B (w3.setCell ⟨s, 5, none⟩ (.slice (some ⟨g', 0, none⟩) 1 cap')) nq
  exact ⟨rfl, ⟨_, _, M4.grown (grown_drewN _ _)⟩, B4.trans kd⟩

theorem clip_any (A : Option Addr) (n cap : Nat) (hA : A = none → n = 0 ∧ cap = 0) (hn : n ≤ cap) (hc : cap ≤ maxLen) (w : World) :
    Calls Try.prog 29 #[.slice A n cap] w fun e w' => e = .returned (.slice A n n) ∧ w' = w := by
  unfold maxLen at hc
  cases A with
  | none =>
    obtain ⟨rfl, rfl⟩ := hA rfl
    go_enter Try.func29, Try.ntmps29
    go_wp2
    go_ret
    exact ⟨rfl, rfl⟩
  | some a =>
    go_enter Try.func29, Try.ntmps29
    go_wp2
    go_ret
    exact ⟨rfl, rfl⟩

theorem tick_back {B : Nat} {w : World} {s mb n : Nat} {va vt : Value} {st : St} (h : Mem B w s va mb vt n st) (z : Int) (hz : z < st.now) :
    Calls Try.prog 12 #[ptr s, .int .u64 z] w fun e w' => e = .returned (.tuple #[.slice none 0 0, .int .i64 2]) ∧ w' = w := by
  have hN := none_any h.str
  obtain ⟨c0, c1, c2, c3, c4, c5⟩ := h.str.six
  go_enter Try.func12, Try.ntmps12
  go_wp2_with (go_at_call 24; refine hN.mono ?_; rintro e w3 ⟨rfl, rfl⟩)
  go_ret2
  exact ⟨rfl, rfl⟩

/-- The time that is told. -/
theorem Mem.tell {B : Nat} {W : World} {s mb n : Nat} {va vt : Value} {st : St} (h : Mem B W s va mb vt n st) (z : Int) : Mem B (W.setCell ⟨s, 1, none⟩ (.int .u64 z)) s va mb vt n { st with now := z } := by
  have k := grownBy_set W s 1 (.int .u64 z)
  exact ⟨h.str.set 1 _, h.all.kept k (.inr (h.str.not_row (by decide) h.all).symm), h.tim.kept k (.inr (h.str.not_row (by decide) h.tim).symm), h.rows, h.map.kept k (by simpa using (h.map.ne h.str).symm),
    fun u hu => (h.tasks u hu).other ((h.tasks u hu).ne h.str (by decide)) _ _, h.apart, h.hs, h.hm, h.ht⟩

set_option maxHeartbeats 1000000 in
/-- Nobody is to be woken. -/
theorem tick_still {B : Nat} {w : World} {s mb n g cap : Nat} {va : Value} {st : St} (h : Mem B w s va mb (.slice (some ⟨g, 0, none⟩) 1 cap) n st) {t : T} (ht : t ∈ st.l) (hhp : st.hp = [t.b]) (z : Int) (hz : st.now ≤ z) (ha : z < t.at_) :
    Calls Try.prog 12 #[ptr s, .int .u64 z] w fun e w' => e = .returned (.tuple #[.slice none 0 0, .int .i64 0]) ∧ Mem B w' s va mb (.slice (some ⟨g, 0, none⟩) 1 cap) n { st with now := z } ∧ Below B w w' := by
  have hN := none_any h.str
  obtain ⟨c0, c1, c2, c3, c4, c5⟩ := h.str.six
  have cf := fun k => h.str.frozen k
  have M1 := h.tell z
  have B1 := (Below.refl B w).setCell (p := ⟨s, 1, none⟩) h.hs (.int .u64 z)
  obtain ⟨d0, d1, d2, d3, d4, d5⟩ := M1.str.six
  obtain ⟨t0, t1, t2, t3, t4, t5⟩ := (M1.tasks t ht).six
  have hx : (w.setCell ⟨s, 1, none⟩ (.int .u64 z)).cell? ⟨g, 0, none⟩ = some (ptr t.b) := M1.tim.cells (g := g) rfl 0 _ (by simp only [hhp]; rfl)
  have hd : decide (t.at_ ≤ z) = false := by simpa using ha
  have hC := clip_any none 0 0 (fun _ => ⟨rfl, rfl⟩) (Nat.le_refl _) (Nat.zero_le _)
  clear hhp
  go_enter Try.func12, Try.ntmps12
  go_wp2_with (first | (go_at_call 24; refine hN.mono ?_; rintro e w3 ⟨rfl, rfl⟩) | (go_at_call 29; refine (hC _).mono ?_; rintro e w3 ⟨rfl, rfl⟩))
  obtain ⟨w1, hw1⟩ : ∃ w1, w.setCell ⟨s, 1, none⟩ (.int .u64 z) = w1 := ⟨_, rfl⟩
  rw [hw1] at M1 B1 d0 d1 d2 d3 d4 d5 t0 t1 t2 t3 t4 t5 hx ⊢
  clear hw1
  go_loopw [6] (fun o wr => o = .slice none 0 0 ∧ wr = w1) (fun _ _ => 0)
  case atStart => exact ⟨rfl, rfl⟩
  case round =>
    obtain ⟨rfl, rfl⟩ := hrel
    go_wp2_with (go_at_call 29; refine (hC _).mono ?_; rintro e w3 ⟨rfl, rfl⟩)
    go_ret2
    exact ⟨rfl, M1, B1⟩

theorem row_same {base e size n : Nat} {W W' : World} {v : Value} {xs : List Value} (h : W.ownsRow base e size v n xs) (hb : ∀ k, v.ownBlock = some k → W'.heap[k]? = W.heap[k]?) : W'.ownsRow base e size v n xs := by
  refine ⟨h.1, ?_⟩
  rcases h.2 with h1 | ⟨g, c, cur, rfl, h2, h3, h4⟩
  · exact .inl h1
  · exact .inr ⟨g, c, cur, rfl, h2, (hb g rfl).trans h3, h4⟩
theorem row_blk {base e size n g cap : Nat} {W : World} {xs : List Value} (h : W.ownsRow base e size (.slice (some ⟨g, 0, none⟩) n cap) n xs) : base ≤ g ∧ (∃ cur, Blk W g e cur) ∧ n ≤ cap ∧ cap ≤ maxLen := by
  rcases h.2 with ⟨h1, _⟩ | ⟨g', c', cur, h1, h2, h3, h4, h5, _⟩
  · cases h1
  · cases h1
    exact ⟨h2, ⟨cur, h3⟩, h4, h5⟩
def outM (v : Value) : Nat := match v with | .slice none _ _ => 1 | _ => 0
theorem Try.inf29 : (Try.prog.info? 29).map (fun i => (i.zero, i.size, i.bytes)) = some (some (.int .u64 0), 1, 8) := by kernel_rfl
theorem Try.und22 : Try.prog.underlying 22 = some (.slice 29) := by kernel_rfl

set_option maxRecDepth 100000 in
set_option maxHeartbeats 2000000 in
/-- One is woken. -/
theorem tick_one {B : Nat} {w : World} {s mb n g cap : Nat} {va : Value} {st : St} (h : Mem B w s va mb (.slice (some ⟨g, 0, none⟩) 1 cap) n st) {t : T} (ht : t ∈ st.l) (hti : t.timed = true) (hhp : st.hp = [t.b]) (z : Int) (hz : st.now ≤ z) (ha : t.at_ ≤ z) (hBw : B ≤ w.heap.size) :
    Calls Try.prog 12 #[ptr s, .int .u64 z] w fun e w' => (∃ g2, e = .returned (.tuple #[.slice (some ⟨g2, 0, none⟩) 1 1, .int .i64 0]) ∧ w'.cell? ⟨g2, 0, none⟩ = some (.int .u64 t.id)) ∧
      Mem B w' s va mb (.slice (some ⟨g, 0, none⟩) 0 cap) n { st with now := z, l := turned t.b t.rested st.l, hp := [] } ∧ Below B w w' := by
  have hN := none_any h.str
  obtain ⟨c0, c1, c2, c3, c4, c5⟩ := h.str.six
  have cf := fun k => h.str.frozen k
  have M1 := h.tell z
  have B1 := (Below.refl B w).setCell (p := ⟨s, 1, none⟩) h.hs (.int .u64 z)
  obtain ⟨d0, d1, d2, d3, d4, d5⟩ := M1.str.six
  obtain ⟨t0, t1, t2, t3, t4, t5⟩ := (M1.tasks t ht).six
  have hx : (w.setCell ⟨s, 1, none⟩ (.int .u64 z)).cell? ⟨g, 0, none⟩ = some (ptr t.b) := M1.tim.cells (g := g) rfl 0 _ (by simp only [hhp]; rfl)
  have hd : decide (t.at_ ≤ z) = true := by simpa using ha
  obtain ⟨i0, hi, hy0, hy1, hy2⟩ := info_parts Try.inf29
  have HP := Lib.hid hhp
  have HT := Lib.hid hti
  clear hhp hti
  go_enter Try.func12, Try.ntmps12
  go_wp2_with (first | (go_at_call 24; refine hN.mono ?_; rintro e w3 ⟨rfl, rfl⟩))
  have sz1 : (w.setCell ⟨s, 1, none⟩ (.int .u64 z)).heap.size = w.heap.size := by simp
  obtain ⟨w1, hw1⟩ : ∃ w1, w.setCell ⟨s, 1, none⟩ (.int .u64 z) = w1 := ⟨_, rfl⟩
  rw [hw1] at M1 B1 d0 d1 d2 d3 d4 d5 t0 t1 t2 t3 t4 t5 hx sz1 ⊢
  have hBw1 : B ≤ w1.heap.size := by rw [sz1]; exact hBw
  clear hw1 c0 c1 c2 c3 c4 c5 sz1
  go_loopw [6] (fun o wr => (o = .slice none 0 0 ∧ wr = w1) ∨ ∃ g2 cap2, o = .slice (some ⟨g2, 0, none⟩) 1 cap2 ∧ wr.ownsRow B 29 1 o 1 [.int .u64 t.id] ∧ Mem B wr s va mb (.slice (some ⟨g, 0, none⟩) 0 cap) n { st with now := z, l := turned t.b t.rested st.l, hp := [] } ∧ Below B w wr) (fun o _ => outM o)
  case atStart => exact .inl ⟨rfl, rfl⟩
  case round =>
    rcases hrel with ⟨rfl, rfl⟩ | ⟨g2, cap2, rfl, hown, hM, hB⟩
    · go_wp2_with (first
        | (at_builtin; refine wpList_append_own _ rfl _ _ 22 rfl B 29 i0 (.int .u64 0) 1 8 Try.und22 hi hy0 hy1 hy2 rfl (by decide) _ 0 [] rfl (World.ownsRow_nil _ _ _ _) ⟨wr.heap.size, 0, none⟩ 1 1 [.int .u64 t.id] rfl rfl (cell_one_new _ _ _) (by simp [Value.oneCell']) (by unfold maxLen; omega) (by omega) (by simp; omega) ?_))
      intro v' w2 hown' hgrow _
      have hown1 : w2.ownsRow B 29 1 v' 1 [.int .u64 t.id] := hown'
      obtain ⟨g2, cap2, hv⟩ := ownsRow_succ hown1
      simp only [Nat.zero_add] at hv
      subst hv
      have hgrow' : (wr.alloc (.cells #[.int .u64 t.id] 29)).grownBy w2 none := hgrow
      have M2 := (M1.alloc (.cells #[.int .u64 t.id] 29)).grown hgrow'
      have B2 := (B1.alloc hBw1 (.cells #[.int .u64 t.id] 29)).grown hgrow' (by simp; omega) (fun k hk => by cases hk)
      have hR := ready_one M2 ht HT.out HP.out
      obtain ⟨_, ⟨cur2, hG2⟩, _, _⟩ := row_blk hown1
      obtain ⟨_, ⟨cur3, hG3⟩, _, _⟩ := row_blk (by have := M2.tim; rw [show ({ st with now := z } : St).hp = [t.b] from HP.out] at this; exact this)
      have n1 := hG2.ne hG3 (by decide)
      have n2 := hG2.ne M2.str (by decide)
      have n3 := hG2.ne (M2.tasks t ht) (by decide)
      have y5 := M2.str.cell 5 (v := .slice (some ⟨g, 0, none⟩) 1 cap) rfl
      have yx : w2.cell? ⟨g, 0, none⟩ = some (ptr t.b) := M2.tim.cells (g := g) rfl 0 _ (by simp only [HP.out]; rfl)
      have HB := Lib.hid hown1
      clear hown' hown1 hgrow hgrow' d0 d1 d2 d3 d4 d5 t0 t1 t2 t3 t4 t5 hx hG2 hG3
      go_wp2_with (go_at_call 27; refine hR.mono ?_; rintro e w3 ⟨rfl, M3, B3, F3⟩)
      go_roundw
      case rel =>
        exact .inr ⟨g2, cap2, rfl, row_same HB.out (fun k hk => by cases hk; exact F3 _ n1 n2 n3), M3, B2.trans B3⟩
      case measure => simp [outM]
    · obtain ⟨x0, x1, x2, x3, x4, x5⟩ := hM.str.six
      obtain ⟨_, _, hc1, hc2⟩ := row_blk hown
      have hC := clip_any (some ⟨g2, 0, none⟩) 1 cap2 (fun h => by cases h) hc1 hc2
      have hy := hown.cells (g := g2) rfl 0 _ rfl
      have HY := Lib.hid hy
      clear hown hy d0 d1 d2 d3 d4 d5 t0 t1 t2 t3 t4 t5 hx
      go_wp2_with (go_at_call 29; refine (hC _).mono ?_; rintro e w3 ⟨rfl, rfl⟩)
      go_ret2
      exact ⟨⟨g2, rfl, HY.out⟩, hM, hB⟩
end Go.Proofs.Ytlkphbcdgkjnoaa
