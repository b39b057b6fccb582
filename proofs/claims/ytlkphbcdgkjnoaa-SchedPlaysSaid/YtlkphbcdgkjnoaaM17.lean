/- Tick, whoever sleeps: who is woken, in which order. -/
import Derived.Test.YtlkphbcdgkjnoaaM16
namespace Go.Proofs.Ytlkphbcdgkjnoaa
open Go.RowKit Go.Maps

/-- Those that are woken, one behind the other, and what is left. -/
inductive Trail (z : Int) : St → List T → St → Prop
  | nil (st : St) : Trail z st [] st
  | snoc {st st1 : St} {ts : List T} {t : T} {hp' : List Nat} : Trail z st ts st1 → t ∈ st1.l → t.timed = true → t.at_ ≤ z → (∀ u ∈ st1.l, u.timed = true → ahd u.at_ u.ord t.at_ t.ord = false) →
      (∀ b, b ∈ hp' ↔ (b ∈ st1.hp ∧ b ≠ t.b)) → Trail z st (ts ++ [t]) { st1 with l := turned t.b t.rested st1.l, hp := hp' }

/-- The head of the heap is ahead of all that sleep until a time. -/
theorem head_min {st : St} (hG : Good st) (hap : st.l.Pairwise fun t u => t.b ≠ u.b) (h0 : 0 < st.hp.length) : ∃ t ∈ st.l, t.b = at' st.hp 0 ∧ t.timed = true ∧ ∀ u ∈ st.l, u.timed = true → ahd u.at_ u.ord t.at_ t.ord = false := by
  obtain ⟨t, ht, e⟩ := hG.sub _ (at_mem h0)
  refine ⟨t, ht, e, (hG.mem t ht).2 (by rw [e]; exact at_mem h0), fun u hu hut => ?_⟩
  have hm := (hG.mem u hu).1 hut
  obtain ⟨k, hk, ek⟩ := List.getElem_of_mem hm
  have ea : at' st.hp k = u.b := by
    have := at_get hk
    rw [List.getElem?_eq_getElem hk, ek] at this
    injection this with this
    exact this.symm
  have := hG.heap.head (ordK _) k hk
  unfold leK at this
  rw [← e, ea, keyOf_mem hap ht, keyOf_mem hap hu] at this
  exact this

theorem row_facts {W : World} {B e n cap : Nat} {A : Option Addr} {xs : List Value} (h : W.ownsRow B e 1 (.slice A n cap) n xs) :
    (A = none → n = 0 ∧ cap = 0) ∧ n ≤ cap ∧ cap ≤ maxLen ∧ ∀ k v, xs[k]? = some v → ∃ g, A = some ⟨g, 0, none⟩ ∧ W.cell? ⟨g, k, none⟩ = some v := by
  have hl := h.1
  rcases h.2 with ⟨e1, e2⟩ | ⟨g, c, cur, e1, _, hb, h3, h4, h5, h6⟩
  · injection e1 with a1 a2 a3
    subst a1 a3
    rw [e2] at hl
    have hx : xs = [] := List.eq_nil_of_length_eq_zero (by simpa using hl)
    exact ⟨fun _ => ⟨e2, rfl⟩, by omega, Nat.zero_le _, fun k v hk => by rw [hx] at hk; simp at hk⟩
  · injection e1 with a1 a2 a3
    subst a1 a3
    refine ⟨fun x => (nomatch x), h3, h4, fun k v hk => ⟨g, rfl, ?_⟩⟩
    rw [← h6, List.getElem?_take] at hk
    split at hk
    · exact (show Blk W g e cur from hb).cell k (by rw [← Array.getElem?_toList]; exact hk)
    · cases hk
theorem rows_ne {W : World} {B B' e e' s s' n n' : Nat} {v v' : Value} {xs ys : List Value} (h : W.ownsRow B e s v n xs) (h' : W.ownsRow B' e' s' v' n' ys) (hne : e ≠ e') : v.ownBlock = none ∨ v.ownBlock ≠ v'.ownBlock := by
  rcases h.2 with ⟨rfl, _⟩ | ⟨g, c, cur, rfl, _, hb, _⟩
  · exact .inl rfl
  · exact .inr ((show Blk W g e cur from hb).not_row hne h')
def slLen (v : Value) : Nat := match v with | .slice _ n _ => n | _ => 0
theorem hrow_nat {W : World} {B g n cap : Nat} {hp : List Nat} (h : W.ownsRow B 60 1 (.slice (some ⟨g, 0, none⟩) n cap) n (hp.map ptr)) (h0 : 0 < n) : W.cell? ⟨g, 0, none⟩ = some (ptr (at' hp 0)) := by
  obtain ⟨_, _, _, _, hR⟩ := hrow_of h
  exact hR.cell h0

set_option maxRecDepth 100000 in
set_option maxHeartbeats 1000000 in
theorem tick_any {B : Nat} {w : World} {s mb n : Nat} {va vt : Value} {st : St} (h : Mem B w s va mb vt n st) (hG : Good st) (z : Int) (hz : st.now ≤ z) (hBw : B ≤ w.heap.size) (hlen : st.hp.length ≤ 100000) :
    Calls Try.prog 12 #[ptr s, .int .u64 z] w fun e w' => ∃ A cap ts st' vt', e = .returned (.tuple #[.slice A ts.length cap, .int .i64 0]) ∧ (∀ k t, ts[k]? = some t → ∃ g2, A = some ⟨g2, 0, none⟩ ∧ w'.cell? ⟨g2, k, none⟩ = some (.int .u64 t.id)) ∧
      Trail z { st with now := z } ts st' ∧ (∀ t ∈ st'.l, t.timed = true → z < t.at_) ∧ Mem B w' s va mb vt' n st' ∧ Good st' ∧ Below B w w' := by
  have hN := none_any h.str
  obtain ⟨c0, c1, c2, c3, c4, c5⟩ := h.str.six
  have cf := fun k => h.str.frozen k
  have M1 := h.tell z
  have G1 : Good { st with now := z } := ⟨hG.nodup, hG.mem, hG.sub, hG.heap⟩
  have B1 := (Below.refl B w).setCell (p := ⟨s, 1, none⟩) h.hs (.int .u64 z)
  obtain ⟨i0, hi, hy0, hy1, hy2⟩ := info_parts Try.inf29
  go_enter Try.func12, Try.ntmps12
  go_wp2_with (first | (go_at_call 24; refine hN.mono ?_; rintro e w3 ⟨rfl, rfl⟩))
  have sz1 : (w.setCell ⟨s, 1, none⟩ (.int .u64 z)).heap.size = w.heap.size := by simp
  obtain ⟨w1, hw1⟩ : ∃ w1, w.setCell ⟨s, 1, none⟩ (.int .u64 z) = w1 := ⟨_, rfl⟩
  rw [hw1] at M1 B1 sz1 ⊢
  clear hw1 c0 c1 c2 c3 c4 c5 sz1 cf
  go_loopw [6] (fun ov wr => ∃ ts st1 vt1, Trail z { st with now := z } ts st1 ∧ Mem B wr s va mb vt1 n st1 ∧ Good st1 ∧ wr.ownsRow B 29 1 ov ts.length (ts.map fun t => .int .u64 t.id) ∧ Below B w wr ∧ st1.hp.length + ts.length = st.hp.length) (fun ov _ => st.hp.length - slLen ov)
  case atStart => exact ⟨[], _, _, .nil _, M1, G1, World.ownsRow_nil _ _ _ _, B1, by simp⟩
  case round =>
    clear M1 G1 B1 hN h
    obtain ⟨ts, st1, vt1, hT, hM, hGd, hO, hB, hsum⟩ := hrel
    obtain ⟨Ao, co, rfl⟩ := row_form hO
    have HS := Lib.hid hsum
    have hsle : ts.length ≤ 100000 := by omega
    clear hsum
    by_cases h0 : st1.hp.length = 0
    · have htim := hM.tim
      obtain ⟨A1, c1, hv⟩ := row_form htim
      rw [h0] at hv
      subst hv
      obtain ⟨d0, d1, d2, d3, d4, d5⟩ := hM.str.six
      obtain ⟨f1, f2, f3, f4⟩ := row_facts hO
      have hcl := clip_any Ao ts.length co f1 f2 f3
      have HF := Lib.hid f4
      have H0 := Lib.hid h0
      clear hO f1 f2 f3 f4 h0 htim
      go_wp2_with fail
      refine (hcl wr).mono ?_
      rintro e w9 ⟨rfl, rfl⟩
      go_wp2
      go_ret2
      refine ⟨Ao, ts.length, ts, st1, _, rfl, fun k u hk => HF.out k _ (by rw [List.getElem?_map, hk]; rfl), hT, fun u hu hut => ?_, hM, hGd, hB⟩
      have := (hGd.mem u hu).1 hut
      rw [List.eq_nil_of_length_eq_zero H0.out] at this
      simp at this
    · obtain ⟨m, hm⟩ : ∃ m, st1.hp.length = m + 1 := ⟨st1.hp.length - 1, by omega⟩
      have htim := hM.tim
      obtain ⟨A1, c1, hv⟩ := row_form htim
      rw [hm] at hv
      rcases htim.2 with ⟨_, e0⟩ | ⟨g, cap, cur, e0, _, _, _, _, _⟩
      · omega
      have hv1 : vt1 = .slice (some ⟨g, 0, none⟩) (m + 1) cap := by rw [e0, hm]
      clear hv e0
      subst hv1
      rw [hm] at htim
      have hx := hrow_nat htim (by omega)
      obtain ⟨t, ht, etb, htt, hmin⟩ := head_min hGd hM.apart (by omega)
      rw [← etb] at hx
      obtain ⟨d0, d1, d2, d3, d4, d5⟩ := hM.str.six
      obtain ⟨t0, t1, t2, t3, t4, t5⟩ := (hM.tasks t ht).six
      have HTM := Lib.hid htim
      have HM := Lib.hid hm
      have HTT := Lib.hid htt
      have ETB := Lib.hid etb
      clear htim hm h0 etb htt
      by_cases ha : t.at_ ≤ z
      · have hd : decide (t.at_ ≤ z) = true := by simpa using ha
        have hBr : B ≤ wr.heap.size := Nat.le_trans hBw hB.size
        go_wp2_with (at_builtin; refine wpList_append_own _ rfl _ _ 22 rfl B 29 i0 (.int .u64 0) 1 8 Try.und22 hi hy0 hy1 hy2 rfl (by decide) _ ts.length _ rfl (hO.alloc _) ⟨wr.heap.size, 0, none⟩ 1 1 [.int .u64 t.id] rfl rfl (cell_one_new _ _ _) (by simp [Value.oneCell']) (by unfold maxLen; omega) (by omega) (by simp; omega) ?_)
        intro v' w2 hown' hgrow _
        obtain ⟨g2, cap2, hv⟩ := ownsRow_succ hown'
        subst hv
        have M2 := (hM.alloc (.cells #[.int .u64 t.id] 29)).kept hgrow (hM.str.not_row (by decide) hO) (rows_ne hM.all hO (by decide)) (rows_ne hM.tim hO (by decide)) (hM.map.not_row hO) (fun u hu => (hM.tasks u hu).not_row (by decide) hO)
        have B2 := (hB.alloc hBr (.cells #[.int .u64 t.id] 29)).grown hgrow (by simp; omega) (fun k hk => (World.ownsRow.lt hO k hk).1)
        have hR := ready_timed M2 hGd ht HTT.out (by have := HS.out; omega)
        obtain ⟨_, ⟨cur2, hG2⟩, _, _⟩ := row_blk hown'
        have n2 := hG2.ne M2.str (by decide)
        have n3 := hG2.ne (M2.tasks t ht) (by decide)
        have n1 : (Value.slice (some ⟨g, 0, none⟩) (m + 1) cap).ownBlock ≠ some g2 := fun e => by
          have := hG2.not_row (by decide) M2.tim
          exact this e.symm
        have y5 := M2.str.cell 5 (v := .slice (some ⟨g, 0, none⟩) (m + 1) cap) rfl
        have ht2 := M2.tim
        rw [HM.out] at ht2
        have yx := hrow_nat ht2 (by omega)
        have ex : at' st1.hp 0 = t.b := ETB.out.symm
        rw [ex] at yx
        have hlt2 := hG2.lt
        have HB := Lib.hid hown'
        clear hown' hgrow d0 d1 d2 d3 d4 d5 t0 t1 t2 t3 t4 t5 hx hO hM ht2 ex hG2
        go_wp2_with fail
        refine hR.mono ?_
        rintro e w3 ⟨rfl, ⟨vt3, hp3, _, hl3, hm3, M3, G3⟩, B3, F3⟩
        clear hR y5 yx
        go_wp2
        go_roundw
        case rel =>
          refine ⟨ts ++ [t], _, vt3, .snoc hT ht HTT.out ha hmin hm3, M3, G3, ?_, B2.trans B3, ?_⟩
          · have := row_same HB.out (W' := w3) (fun k hk => by cases hk; exact F3 _ n1 n2 n3 hlt2)
            simpa using this
          · have := HS.out
            simp only [List.length_append, List.length_cons, List.length_nil]
            show hp3.length + _ = _
            omega
        case measure =>
          have := HS.out
          have := HM.out
          simp [slLen]
          omega
      · have hd : decide (t.at_ ≤ z) = false := by simpa using ha
        obtain ⟨f1, f2, f3, f4⟩ := row_facts hO
        have hcl := clip_any Ao ts.length co f1 f2 f3
        have HF := Lib.hid f4
        clear hO f1 f2 f3 f4
        go_wp2_with fail
        refine (hcl wr).mono ?_
        rintro e w9 ⟨rfl, rfl⟩
        go_wp2
        go_ret2
        refine ⟨Ao, ts.length, ts, st1, _, rfl, fun k u hk => HF.out k _ (by rw [List.getElem?_map, hk]; rfl), hT, fun u hu hut => ?_, hM, hGd, hB⟩
        have := hmin u hu hut
        unfold ahd at this
        simp at this
        omega
end Go.Proofs.Ytlkphbcdgkjnoaa
