/- SchedWakes: what the walk answers at every input. (UNDER WAY: holes.) -/
import Derived.Test.YtlkphbcdgkjnoaaW1
import Derived.Test.YtlkphbcdgkjnoaaS4
namespace Go.Proofs.Ytlkphbcdgkjnoaa
open Go.RowKit Go.Maps

theorem Sleep.add {us : List Int} {l : List T} (S : Sleep us 0 l) {t : T} {u : Int} (hu : us[l.length]? = some u) (hid : t.id = l.length) (ht : (t.timed = true ↔ 0 < u) ∧ (t.timed = true → t.at_ = u)) : Sleep us 0 (l ++ [t]) := by
  have hlt := (List.getElem?_eq_some_iff.1 hu).1
  have get : ∀ (i : Nat) (v : T), (l ++ [t])[i]? = some v → (l[i]? = some v) ∨ (i = l.length ∧ v = t) := fun i v hi => by
    rw [List.getElem?_append] at hi
    split at hi
    · exact .inl hi
    · rw [List.getElem?_singleton] at hi
      split at hi
      · injection hi with hi
        exact .inr ⟨by omega, hi.symm⟩
      · cases hi
  refine ⟨by simp; omega, fun i v hi => ?_, fun i v x hi hx => ?_⟩
  · rcases get i v hi with h | ⟨rfl, rfl⟩
    · exact S.ids i v h
    · exact hid
  · rcases get i v hi with h | ⟨rfl, rfl⟩
    · exact S.at_ i v x h hx
    · rw [hu] at hx
      injection hx with hx
      subst hx
      exact ht
theorem sleep_none {us : List Int} {l : List T} (S : Sleep us 0 l) : blkOf l l.length = -1 := by
  unfold blkOf
  have : l.find? (fun t => t.id == (l.length : Int)) = none := by
    rw [List.find?_eq_none]
    intro t ht
    obtain ⟨i, hi, e⟩ := List.getElem_of_mem ht
    have := S.ids i t (by rw [List.getElem?_eq_getElem hi, e])
    simp
    omega
  rw [this]
theorem sleep_last {us : List Int} {l : List T} (S : Sleep us 0 l) {t : T} (hid : t.id = l.length) : blkOf (l ++ [t]) t.id = t.b := by
  have h := sleep_none S
  rw [← hid] at h
  unfold blkOf at h ⊢
  cases hf : l.find? (fun u => u.id == t.id) with
  | none => simp [List.find?_append, hf]
  | some v => rw [hf] at h; simp at h
theorem turned_last {l : List T} {t t' : T} (hap : (l ++ [t]).Pairwise fun t u => t.b ≠ u.b) : turned t.b t' (l ++ [t]) = l ++ [t'] := by
  unfold turned
  rw [List.map_append]
  congr 1
  · conv => rhs; rw [← List.map_id l]
    refine List.map_congr_left fun v hv => ?_
    rw [if_neg ((List.pairwise_append.1 hap).2.2 v hv t (by simp))]
    rfl
  · simp

/-- Whoever is woken: its number, its time. -/
theorem woken_facts {us : List Int} {nw z : Int} {st st' : St} {ts : List T} (S : Sleep us nw st.l) (hT : Trail z { st with now := z } ts st') (hl : st.l.length = us.length) :
    ∀ (k : Nat) (t : T), ts[k]? = some t → ∃ (i : Nat) (u : Int), t.id = i ∧ i < us.length ∧ us[i]? = some u ∧ nw < u ∧ u ≤ z ∧ t.at_ = u := fun k t hk => by
  obtain ⟨h1, h2, h3⟩ := hT.from t (List.mem_of_getElem? hk)
  obtain ⟨i, hi, e⟩ := List.getElem_of_mem h1
  have hi' : i < st.l.length := hi
  have hat : st.l[i]? = some t := by rw [List.getElem?_eq_getElem hi']; exact congrArg some e
  have hu : us[i]? = some us[i] := List.getElem?_eq_getElem (by omega)
  obtain ⟨a, b⟩ := S.at_ i t _ hat hu
  have hb := b h2
  exact ⟨i, _, S.ids i t hat, by omega, hu, a.1 h2, by omega, hb⟩
def lastOk (ts : List T) (j : Nat) (lst : Int) : Prop := ∀ t, ts[j]? = some t → lst ≤ t.at_
theorem within_succ {nw z : Int} {us : List Int} {k : Nat} {u : Int} (hu : us[k]? = some u) : within nw z (us.take (k + 1)) = within nw z (us.take k) + if nw < u ∧ u ≤ z then 1 else 0 := by
  obtain ⟨hk, e⟩ := List.getElem?_eq_some_iff.1 hu
  rw [List.take_succ_eq_append_getElem hk, e]
  unfold within
  rw [List.filter_append, List.length_append]
  by_cases h1 : nw < u <;> by_cases h2 : u ≤ z <;> simp [List.filter_cons, h1, h2]
theorem within_le {nw z : Int} (us : List Int) (k : Nat) : within nw z (us.take k) ≤ k := by
  unfold within
  exact Nat.le_trans (List.length_filter_le _ _) (List.length_take_le _ _)
theorem nodup_le {α : Type} [DecidableEq α] : ∀ (hp l : List α), hp.Nodup → (∀ b ∈ hp, b ∈ l) → hp.length ≤ l.length
  | [], _, _, _ => Nat.zero_le _
  | a :: t, l, hn, hs => by
    rw [List.nodup_cons] at hn
    have ha := hs a List.mem_cons_self
    have h2 := nodup_le t (l.erase a) hn.2 (fun b hb => (List.mem_erase_of_ne (fun e => hn.1 (by rw [← e]; exact hb))).2 (hs b (List.mem_cons_of_mem _ hb)))
    rw [List.length_erase_of_mem ha] at h2
    have := List.length_pos_of_mem ha
    rw [List.length_cons]
    omega
theorem Good.len {st : St} (G : Good st) : st.hp.length ≤ st.l.length := by
  have := nodup_le st.hp (st.l.map (·.b)) G.nodup (fun b hb => by
    obtain ⟨t, ht, e⟩ := G.sub b hb
    exact List.mem_map.2 ⟨t, ht, e⟩)
  simpa using this
theorem Trail.now {z : Int} {st st' : St} {ts : List T} (h : Trail z st ts st') : st'.now = st.now := by
  induction h with
  | nil => rfl
  | snoc _ _ _ _ _ _ ih => exact ih

set_option maxRecDepth 100000 in
set_option maxHeartbeats 2000000 in
theorem wakes_any (A A2 : Option Addr) (cap cap2 : Nat) (us zs : List Int) (hl1 : us.length ≤ 9223372036854775807) (hl2 : zs.length ≤ 9223372036854775807) (w : World) (hr : ReadsU w w.heap.size A us) (hr2 : ReadsU w w.heap.size A2 zs) :
    Calls Try.prog 4 #[.slice A us.length cap, .slice A2 zs.length cap2] w fun e w' => e = .returned (.bool true) ∧ Below w.heap.size w w' := by
  by_cases hlu : 100 < us.length
  · go_enter Try.func4, Try.ntmps4
    go_wp2_with (go_at_call 7; refine (alive_any w).mono ?_; rintro e w1 ⟨rfl, hB1⟩)
    go_ret
    exact ⟨rfl, hB1⟩
  by_cases hlz : 100 < zs.length
  · have d1 : decide (100 < us.length) = false := by simpa using hlu
    go_enter Try.func4, Try.ntmps4
    go_wp2_with (go_at_call 7; refine (alive_any w).mono ?_; rintro e w1 ⟨rfl, hB1⟩)
    go_ret
    exact ⟨rfl, hB1⟩
  · go_enter Try.func4, Try.ntmps4
    go_wp2_with fail
    refine (new_any 1 (by decide) w).mono ?_
    rintro e w1 ⟨s, mb, rfl, h1, B1⟩
    go_wp2_with fail
    go_loopw [7] (fun i wr => ∃ k : Nat, k ≤ us.length ∧ i = .int .i64 k ∧ (∃ va vt st, Mem w.heap.size wr s va mb vt k st ∧ Good st ∧ Sleep us 0 st.l ∧ st.l.length = k ∧ st.now = 0 ∧ st.ord = k ∧ st.hp.length ≤ k) ∧ Below w.heap.size w wr) (fun i _ => us.length - (intOf i).toNat)
    case atStart => exact ⟨0, Nat.zero_le _, rfl, ⟨_, _, _, h1, good0 1, ⟨Nat.zero_le _, fun i t h => by simp [st0] at h, fun i t u h => by simp [st0] at h⟩, rfl, rfl, rfl, Nat.le_refl _⟩, B1⟩
    case round =>
      obtain ⟨k, hk, rfl, ⟨va, vt, st, hM, hG, hS, hln, hnow, hord, hhp⟩, hBw⟩ := hrel
      by_cases hlt : k < us.length
      · obtain ⟨u, hu⟩ : ∃ u, us[k]? = some u := ⟨_, List.getElem?_eq_getElem hlt⟩
        obtain ⟨ad, rfl, hab, hcu, hu0, hu1⟩ := (hr.below hBw) k u hu
        have hadd := add_new hM (id := (k : Int)) (wf64 (by omega) (by omega)) (by rw [← hln]; exact sleep_none hS) (by omega) (by omega) (by omega) (by omega) hBw.size
        have hka : k + 1 ≤ 100 := by omega
        have HLN := Lib.hid hln
        have HNW := Lib.hid hnow
        have HOR := Lib.hid hord
        have HU := Lib.hid hu
        clear hln hnow hord hu h1 B1
        go_wp2_with fail
        refine hadd.mono ?_
        rintro e w2 ⟨rfl, ⟨va2, h2⟩, B2⟩
        obtain ⟨t, htt⟩ : ∃ t : T, (⟨wr.heap.size, (k : Int), st.ord, false, false, 0, 0⟩ : T) = t := ⟨_, rfl⟩
        have e1 : t.id = k := by rw [← htt]
        have e2 : t.timed = false := by rw [← htt]
        rw [htt] at h2
        have G2 := hG.add hM.apart h2.apart e2 (st.ord + 1)
        have hid : t.id = st.l.length := by rw [e1, HLN.out]
        have hbk := sleep_last hS hid
        have hwf : (Lit.int .u64 t.id).wf = true := by rw [e1]; exact wf64 (by omega) (by omega)
        have hlast := fun t' => turned_last (t' := t') h2.apart
        have hBw2 := hBw.trans (B2.mono (Nat.le_refl _))
        have hB2 := hBw2.size
        have hcu2 := (hr.below hBw2) k u HU.out
        obtain ⟨ad', ea, _, hcu2, _, _⟩ := hcu2
        cases ea
        clear hadd htt hcu hM
        by_cases hup : 0 < u
        · have hU := until_any h2 G2 (t := t) (by simp) hwf hbk u (by show 0 ≤ st.now; rw [HNW.out]; exact Int.le_refl _) (by show st.now < u; rw [HNW.out]; exact hup) hu1 hB2 (by show st.hp.length ≤ _; omega)
          rw [e1] at hU
          clear e1 e2
          go_wp2_with fail
          refine hU.mono ?_
          rintro e w3 ⟨rfl, ⟨vt3, hp3, hl3, M3, G3⟩, B3⟩
          have hBw3 := hBw2.trans (B3.mono (Nat.le_refl _))
          obtain ⟨ad3, ea3, _, hcu3, _, _⟩ := (hr.below hBw3) k u HU.out
          cases ea3
          have hM3 := M3
          simp only [hlast] at M3 G3
          have hS3 : Sleep us 0 (st.l ++ [t.put u]) := hS.add (by rw [HLN.out]; exact HU.out) hid ⟨⟨fun _ => hup, fun _ => rfl⟩, fun _ => rfl⟩
          have HS3 := Lib.hid hS3
          clear hU hcu2 hM3 hlast hS3
          go_wp2
          go_roundw
          case rel => exact ⟨k + 1, by omega, by go_num, ⟨_, _, _, M3, G3, HS3.out, by have := HLN.out; simp; omega, HNW.out, by show st.ord + 1 = _; rw [HOR.out]; rfl, by show hp3.length ≤ _; have : hp3.length ≤ st.hp.length + 1 := hl3; omega⟩, hBw3⟩
          case measure => simp [intOf]; omega
        · have hu00 : u = 0 := by omega
          have hU := until_past h2 (id := t.id) hwf hbk u (by show u ≤ st.now; rw [HNW.out]; omega)
          rw [e1] at hU
          have hS3 : Sleep us 0 (st.l ++ [t]) := hS.add (by rw [HLN.out]; exact HU.out) hid ⟨⟨fun x => absurd (x.symm.trans e2) (by decide), fun x => absurd x hup⟩, fun x => absurd (x.symm.trans e2) (by decide)⟩
          have HS3 := Lib.hid hS3
          clear e1 e2 hS3
          subst hu00
          go_wp2_with fail
          refine hU.mono ?_
          rintro e w3 ⟨rfl, rfl⟩
          go_wp2
          go_roundw
          case rel => exact ⟨k + 1, by omega, by go_num, ⟨_, _, _, h2, G2, HS3.out, by have := HLN.out; simp; omega, HNW.out, by show st.ord + 1 = _; rw [HOR.out]; rfl, by show st.hp.length ≤ _; omega⟩, hBw2⟩
          case measure => simp [intOf]; omega
      · obtain rfl : k = us.length := by omega
        clear h1 B1 hord
        have HS0 := Lib.hid hS
        have HL0 := Lib.hid hln
        have HN0 := Lib.hid hnow
        clear hS hln hnow
        go_wp2_with fail
        go_loopw [9, 10] (fun nv i wx => ∃ (k : Nat) (nw : Int), k ≤ zs.length ∧ i = .int .i64 k ∧ nv = .int .u64 nw ∧ 0 ≤ nw ∧ (∃ va vt st, Mem w.heap.size wx s va mb vt us.length st ∧ Good st ∧ Sleep us nw st.l ∧ st.l.length = us.length ∧ st.now = nw ∧ st.hp.length ≤ 100) ∧ Below w.heap.size w wx) (fun _ i _ => zs.length - (intOf i).toNat)
        case atStart => exact ⟨0, 0, Nat.zero_le _, rfl, rfl, Int.le_refl _, ⟨va, vt, st, hM, hG, HS0.out, HL0.out, HN0.out, by omega⟩, hBw⟩
        case round =>
          clear hM hG HS0 HL0 HN0 hhp hBw hlt hk
          obtain ⟨k, nw, hk, rfl, rfl, hnw, ⟨va, vt, st, hM, hG, hS, hln, hnow, hhp⟩, hBw⟩ := hrel
          by_cases hlt : k < zs.length
          · obtain ⟨z, hz⟩ : ∃ z, zs[k]? = some z := ⟨_, List.getElem?_eq_getElem hlt⟩
            obtain ⟨ad2, rfl, hab2, hcz, hz0, hz1⟩ := (hr2.below hBw) k z hz
            by_cases hback : z < nw
            · have hT := tick_back hM z (by rw [hnow]; exact hback)
              have HN := Lib.hid hnow
              have HL := Lib.hid hln
              clear hnow hz hln
              go_wp2_with fail
              refine hT.mono ?_
              rintro e w2 ⟨rfl, rfl⟩
              go_wp2
              go_roundw
              case rel => exact ⟨k + 1, nw, by omega, by go_num, rfl, hnw, ⟨_, _, _, hM, hG, hS, HL.out, HN.out, hhp⟩, hBw⟩
              case measure => simp [intOf]; omega
            · have hnz : nw ≤ z := by omega
              have hT := tick_any hM hG z (by rw [hnow]; exact hnz) (Nat.le_trans (Nat.le_refl _) hBw.size) (by omega)
              have hap := hM.apart
              have HN := Lib.hid hnow
              have HL := Lib.hid hln
              have HS := Lib.hid hS
              have HZ := Lib.hid hz
              clear hnow hz hln hS
              go_wp2_with fail
              refine hT.mono ?_
              rintro e w2 ⟨Ao, co, ts, st2, vt2, rfl, hcells, hTr, hdue, hM2, hG2, hB2⟩
              have hBw2 := hBw.trans (hB2.mono (Nat.le_refl _))
              have hS2 : Sleep us z st2.l := Sleep.tick (st := { st with now := z }) HS.out hnz hTr hap hdue
              have hcnt : ts.length = within nw z us := by
                have h1 := hTr.count hap
                rw [due_none hdue] at h1
                rw [← HS.out.due HL.out]
                exact h1
              obtain ⟨ad3, ea3, _, hcz2, _, _⟩ := (hr2.below hBw2) k z HZ.out
              cases ea3
              have HC := Lib.hid hcnt
              clear hT hcnt hM hG
              go_wp2_with fail
              have hts : ts.length ≤ 100 := by have := HC.out; have := within_le (nw := nw) (z := z) us us.length; rw [List.take_length] at this; omega
              have HWK := Lib.hid (woken_facts HS.out hTr HL.out)
              have HRI := Lib.hid hTr.rise.1
              have HCE := Lib.hid hcells
              have HM2 := Lib.hid hM2
              have HG2 := Lib.hid hG2
              have HS2 := Lib.hid hS2
              have HTR := Lib.hid hTr
              have HL2 := Lib.hid ((hTr.same hap).1.trans HL.out)
              have HN2 := Lib.hid hTr.now
              have hh2 := hG2.len
              have hh2 : st2.hp.length ≤ 100 := by have := HL2.out; omega
              clear hcells hTr hdue hM2 hG2 hS2 hap
              go_loopw [13, 15] (fun lv i wx => ∃ (j : Nat) (lst : Int) (q : Nat), j ≤ ts.length ∧ i = .int .i64 j ∧ lv = .int .u64 lst ∧ 0 ≤ lst ∧ lastOk ts j lst ∧ wx = w2.drewN q) (fun _ i _ => ts.length - (intOf i).toNat)
              case atStart =>
                refine ⟨0, 0, 0, Nat.zero_le _, rfl, rfl, Int.le_refl _, fun t ht => ?_, rfl⟩
                obtain ⟨i, u, _, _, _, h1, _, h2⟩ := HWK.out 0 t ht
                omega
              case round =>
                obtain ⟨j, lst, q, hj, rfl, rfl, hl0, hlok, rfl⟩ := hrel
                by_cases hjl : j < ts.length
                · obtain ⟨t, ht⟩ : ∃ t, ts[j]? = some t := ⟨_, List.getElem?_eq_getElem hjl⟩
                  obtain ⟨i, u, hti, hil, hu, hnu, huz, hat⟩ := HWK.out j t ht
                  obtain ⟨g2, eAo, hcj⟩ := HCE.out j t ht
                  obtain ⟨adu, eA, _, hcu, hu0, hu1⟩ := (hr.below hBw2) i u hu
                  have hlst := hlok t ht
                  rw [hat] at hlst
                  rw [hti] at hcj
                  subst eAo eA
                  have d1 : decide (us.length ≤ i) = false := by simpa using hil
                  have d2 : decide (u ≤ nw) = false := by simpa using hnu
                  have d3 : decide (z < u) = false := by simpa using huz
                  have d4 : decide (u < lst) = false := by simpa using hlst
                  have hil' : (i : Int) < us.length := by omega
                  have HT := Lib.hid ht
                  have HAT := Lib.hid hat
                  have HU := Lib.hid hu
                  have HLOK := Lib.hid hlok
                  clear ht hat hu hti hlok
                  go_wp2_with fail
                  go_quiet (fail)
                  go_wp2
                  go_roundw
                  case rel =>
                    refine ⟨j + 1, u, _, by omega, by go_num, rfl, hu0, fun t2 ht2 => ?_, rfl⟩
                    have h1 := List.getElem?_eq_some_iff.1 HT.out
                    have h2 := List.getElem?_eq_some_iff.1 ht2
                    have h3 := List.pairwise_iff_getElem.1 HRI.out j (j + 1) h1.1 h2.1 (by omega)
                    rw [h1.2, h2.2, HAT.out] at h3
                    exact h3
                  case measure => simp [intOf]; omega
                · clear hl0 hlok
                  go_wp2_with fail
                  clear hjl hj
                  go_loopw [14, 16] (fun nv i wx => ∃ (j : Nat) (q : Nat), j ≤ us.length ∧ i = .int .i64 j ∧ nv = .int .i64 (within nw z (us.take j)) ∧ wx = w2.drewN q) (fun _ i _ => us.length - (intOf i).toNat)
                  case atStart => exact ⟨0, q, Nat.zero_le _, rfl, rfl, rfl⟩
                  case round =>
                    clear q
                    obtain ⟨j, q, hj, rfl, hnv, rfl⟩ := hrel
                    by_cases hjl : j < us.length
                    · obtain ⟨u, hu⟩ : ∃ u, us[j]? = some u := ⟨_, List.getElem?_eq_getElem hjl⟩
                      obtain ⟨adu, eA, _, hcu, hu0, hu1⟩ := (hr.below hBw2) j u hu
                      have hws := within_succ (nw := nw) (z := z) hu
                      have hwl := within_le (nw := nw) (z := z) us j
                      have hjl' : (j : Int) < us.length := by omega
                      subst eA
                      subst hnv
                      generalize within nw z (us.take j) = m at hws hwl ⊢
                      by_cases c1 : nw < u
                      · have d1 : decide (nw < u) = true := by simpa using c1
                        by_cases c2 : u ≤ z
                        · have d2 : decide (u ≤ z) = true := by simpa using c2
                          rw [if_pos ⟨c1, c2⟩] at hws
                          have HWS := Lib.hid hws
                          clear hws hu
                          go_wp2_with fail
                          go_quiet (fail)
                          go_wp2
                          go_roundw
                          case rel => exact ⟨j + 1, _, by omega, by go_num, by rw [HWS.out]; go_num, rfl⟩
                          case measure => simp [intOf]; omega
                        · have d2 : decide (u ≤ z) = false := by simpa using c2
                          rw [if_neg (fun x => c2 x.2)] at hws
                          have HWS := Lib.hid hws
                          clear hws hu
                          go_wp2_with fail
                          go_quiet (fail)
                          go_wp2
                          go_roundw
                          case rel => exact ⟨j + 1, _, by omega, by go_num, by rw [HWS.out]; rfl, rfl⟩
                          case measure => simp [intOf]; omega
                      · have d1 : decide (nw < u) = false := by simpa using c1
                        rw [if_neg (fun x => c1 x.1)] at hws
                        have HWS := Lib.hid hws
                        clear hws hu
                        go_wp2_with fail
                        go_quiet (fail)
                        go_wp2
                        go_roundw
                        case rel => exact ⟨j + 1, _, by omega, by go_num, by rw [HWS.out]; rfl, rfl⟩
                        case measure => simp [intOf]; omega
                    · obtain rfl : j = us.length := by omega
                      rw [List.take_length, ← HC.out] at hnv
                      subst hnv
                      have M3 := HM2.out.grown (grown_drewN w2 q)
                      have hNow := now_any M3
                      rw [HN2.out] at hNow
                      have hNow : Calls Try.prog 13 #[ptr s] (w2.drewN q) fun e w' => e = .returned (.int .u64 z) ∧ w' = w2.drewN q := hNow
                      have HM3 := Lib.hid M3
                      clear M3
                      go_wp2_with fail
                      refine hNow.mono ?_
                      rintro e w9 ⟨rfl, rfl⟩
                      go_wp2
                      go_roundw
                      case rel => exact ⟨k + 1, z, by omega, by go_num, rfl, by omega, ⟨_, _, _, HM3.out, HG2.out, HS2.out, HL2.out, HN2.out, hh2⟩, hBw2.trans (below_drewN _ _ _)⟩
                      case measure => simp [intOf]; omega
          · obtain rfl : k = zs.length := by omega
            clear hM hS hnow hln
            go_wp2_with fail
            refine (alive_any wr).mono ?_
            rintro e w9 ⟨rfl, hB9⟩
            go_wp2
            go_ret
            exact ⟨rfl, hBw.trans (hB9.mono hBw.size)⟩
end Go.Proofs.Ytlkphbcdgkjnoaa
