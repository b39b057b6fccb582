/- SchedFair: what the walk answers at every input. -/
import Derived.Test.YtlkphbcdgkjnoaaM9
import Derived.Test.YtlkphbcdgkjnoaaS1
namespace Go.Proofs.Ytlkphbcdgkjnoaa
open Go.RowKit Go.Maps

/-- A row of counts of the call's own. -/
def Since (W : World) (g : Nat) (ags : List Int) : Prop := ∃ cur, Blk W g 3 cur ∧ ∀ (k : Nat) (z : Int), ags[k]? = some z → cur[k]? = some (.int .i64 z)
theorem Since.cell {W : World} {g : Nat} {ags : List Int} (h : Since W g ags) {k : Nat} {z : Int} (hk : ags[k]? = some z) : W.cell? ⟨g, k, none⟩ = some (.int .i64 z) := by
  obtain ⟨cur, hb, hc⟩ := h
  exact hb.cell k (hc k z hk)
theorem Since.frozen {W : World} {g : Nat} {ags : List Int} (h : Since W g ags) (k : Nat) : W.frozen? ⟨g, k, none⟩ = false := by
  obtain ⟨cur, hb, _⟩ := h
  exact hb.frozen k
theorem Since.set {W : World} {g : Nat} {ags : List Int} (h : Since W g ags) (k : Nat) (z : Int) : Since (W.setCell ⟨g, k, none⟩ (.int .i64 z)) g (ags.set k z) := by
  obtain ⟨cur, hb, hc⟩ := h
  refine ⟨_, hb.set k _, fun i y hi => ?_⟩
  rw [List.getElem?_set] at hi
  rw [Array.getElem?_setIfInBounds]
  by_cases e : k = i
  · subst e
    rw [if_pos rfl] at hi ⊢
    split at hi
    · rename_i hlt
      injection hi with hi
      subst hi
      have := hc k _ (List.getElem?_eq_getElem hlt)
      rw [if_pos (Array.getElem?_eq_some_iff.1 this).1]
    · cases hi
  · rw [if_neg e] at hi ⊢
    exact hc i y hi
theorem Since.frm {l : List T} {w W : World} {g : Nat} {ags : List Int} (h : Since w g ags) (hf : Frm l w W) (hl : ∀ u ∈ l, ∃ vs, Blk w u.b 62 vs) : Since W g ags := by
  obtain ⟨cur, hb, hc⟩ := h
  exact ⟨cur, hf.blk hb (fun u hu => by obtain ⟨vs, hv⟩ := hl u hu; exact hv.ne hb (by decide)), hc⟩

/-- A row of u64 that came in. -/
def ReadsU (w : World) (B : Nat) (A : Option Addr) (zs : List Int) : Prop := ∀ k z, zs[k]? = some z → ∃ ad, A = some ad ∧ ad.block < B ∧ w.cell? (ad.add k) = some (.int .u64 z) ∧ 0 ≤ z ∧ z < 18446744073709551616
theorem ReadsU.below {w w' : World} {B : Nat} {A : Option Addr} {zs : List Int} (h : ReadsU w B A zs) (hb : Below B w w') : ReadsU w' B A zs := fun k z hz => by
  obtain ⟨ad, h1, h2, h3, h4⟩ := h k z hz
  exact ⟨ad, h1, h2, (hb.cell (p := ad.add k) (by unfold Addr.add; split <;> exact h2)).trans h3, h4⟩

theorem and_mask (p : Int) : ∃ m : Nat, bits .and .i64 p 65535 = m := by
  refine ⟨(BitVec.ofInt 64 p).toNat &&& 65535, ?_⟩
  show IntKind.i64.wrap (((BitVec.ofInt 64 p &&& BitVec.ofInt 64 65535).toNat : Nat) : Int) = _
  have e : (BitVec.ofInt 64 65535).toNat = 65535 := by decide
  rw [BitVec.toNat_and, e, IntKind.wrap_i64]
  have := Nat.and_le_right (n := (BitVec.ofInt 64 p).toNat) (m := 65535)
  omega
theorem low_mod (p : Int) (d : Nat) (hd : 0 < d) : ∃ a : Nat, (bits .and .i64 p 65535).tmod d = a ∧ a < d := by
  obtain ⟨m, hm⟩ := and_mask p
  refine ⟨m % d, ?_, Nat.mod_lt _ hd⟩
  rw [hm, Int.tmod_eq_emod_of_nonneg (by omega)]
  exact (Int.natCast_emod m d).symm

/-- Handlers that have only just been added. -/
structure Fresh (P : Int) (k : Nat) (st : St) : Prop where
  pat : st.pat = P
  ord : st.ord = k
  len : st.l.length = k
  ids : ∀ (i : Nat) (t : T), st.l[i]? = some t → t.id = i
  up : ∀ t ∈ st.l, t.asleep = false
  age : ∀ t ∈ st.l, t.age = 0
theorem Fresh.nobody {P : Int} {k : Nat} {st : St} (h : Fresh P k st) : blkOf st.l k = -1 := by
  unfold blkOf
  have : st.l.find? (fun t => t.id == (k : Int)) = none := by
    rw [List.find?_eq_none]
    intro t ht
    obtain ⟨i, hi, e⟩ := List.getElem_of_mem ht
    have := h.ids i t (by rw [List.getElem?_eq_getElem hi, e])
    rw [h.len] at hi
    simp
    omega
  rw [this]
theorem Fresh.step {P : Int} {k b : Nat} {st : St} (h : Fresh P k st) : Fresh P (k + 1) { st with ord := st.ord + 1, l := st.l ++ [⟨b, k, st.ord, false, false, 0, 0⟩] } := by
  have hl := h.len
  refine ⟨h.pat, by show st.ord + 1 = _; rw [h.ord]; rfl, by simp [hl], fun i t hi => ?_, fun t ht => ?_, fun t ht => ?_⟩
  · simp only [List.getElem?_append] at hi
    split at hi
    · exact h.ids i t hi
    · rename_i hge
      rw [List.getElem?_singleton] at hi
      split at hi
      · injection hi with hi
        subst hi
        show (k : Int) = i
        omega
      · cases hi
  · rcases List.mem_append.1 ht with h' | h'
    · exact h.up t h'
    · rw [List.mem_singleton] at h'
      subst h'
      rfl
  · rcases List.mem_append.1 ht with h' | h'
    · exact h.age t h'
    · rw [List.mem_singleton] at h'
      subst h'
      rfl
theorem Fresh.inv {P : Int} {M : Nat} {st : St} (h : Fresh P M st) (hP : 1 ≤ P) : Inv P M st.l := by
  refine ⟨h.len, h.up, h.ids, fun t ht => by rw [h.age t ht]; exact Int.le_refl _, fun j _ => ?_⟩
  unfold cnt
  have : st.l.filter (fun t => decide (P + (j : Int) ≤ t.age)) = [] := by
    rw [List.filter_eq_nil_iff]
    intro t ht
    rw [h.age t ht]
    simp
    omega
  rw [this]
  exact Nat.zero_le _
theorem fresh0 (P : Int) : Fresh P 0 (st0 P) := ⟨rfl, rfl, rfl, fun i t h => by simp [st0] at h, fun t h => by simp [st0] at h, fun t h => by simp [st0] at h⟩

/-- The first k have been counted up. -/
def incF (k : Nat) (l : List Int) : List Int := (l.take k).map (· + 1) ++ l.drop k
theorem incF_at {k : Nat} {l : List Int} {z : Int} (h : l[k]? = some z) : (incF k l)[k]? = some z := by
  have hk := (List.getElem?_eq_some_iff.1 h).1
  have e : ((l.take k).map (· + 1)).length = k := by rw [List.length_map, List.length_take]; omega
  unfold incF
  rw [List.getElem?_append_right (by omega), e, Nat.sub_self, List.getElem?_drop, Nat.add_zero, h]
theorem incF_succ {k : Nat} {l : List Int} {z : Int} (h : l[k]? = some z) : (incF k l).set k (z + 1) = incF (k + 1) l := by
  obtain ⟨hk, hz⟩ := List.getElem?_eq_some_iff.1 h
  have e : ((l.take k).map (· + 1)).length = k := by rw [List.length_map, List.length_take]; omega
  unfold incF
  rw [List.set_append_right _ _ (by omega), e, Nat.sub_self, List.drop_eq_getElem_cons hk, List.set_cons_zero, List.take_add_one, List.getElem?_eq_getElem hk, hz]
  simp
theorem incF_zero (l : List Int) : incF 0 l = l := by simp [incF]
theorem incF_all (l : List Int) : incF l.length l = l.map (· + 1) := by simp [incF]

theorem Mem.since {B : Nat} {W : World} {s mb n : Nat} {va vt : Value} {st : St} (h : Mem B W s va mb vt n st) {g : Nat} {ags : List Int} (hg : Since W g ags) (k : Nat) (v : Value) : Mem B (W.setCell ⟨g, k, none⟩ v) s va mb vt n st := by
  obtain ⟨cur, hb, _⟩ := hg
  refine h.kept (grownBy_set W g k v) (by simpa using h.str.ne hb (by decide)) (.inr (hb.not_row (by decide) h.all).symm) (.inr (hb.not_row (by decide) h.tim).symm) (by simpa using (h.map.ne hb).symm) (fun t ht => by simpa using (h.tasks t ht).ne hb (by decide))
theorem Try.inf3 : (Try.prog.info? 3).map (fun i => (i.zero, i.size, i.bytes)) = some (some (.int .i64 0), 1, 8) := by kernel_rfl
theorem Try.und30 : Try.prog.underlying 30 = some (.slice 3) := by kernel_rfl
theorem since_made {w : World} {base g n : Nat} (h : w.ownsRow base 3 1 (.slice (some ⟨g, 0, none⟩) n n) n (madeCells #[.int .i64 0] n).toList) : Since w g (List.replicate n 0) := by
  rcases h.2 with ⟨h1, _⟩ | ⟨g', c', cur, h1, h2, h3, h4, h5, h6, h7⟩
  · cases h1
  · cases h1
    refine ⟨cur, h3, fun k z hk => ?_⟩
    rw [List.getElem?_replicate] at hk
    split at hk
    · rename_i hlt
      injection hk with hk
      subst hk
      have e : (cur.toList.take (n * 1))[k]? = some (.int .i64 0) := by
        rw [h7]
        simp [madeCells, hlt, Nat.mod_one]
      rw [List.getElem?_take, if_pos (by omega)] at e
      rw [← Array.getElem?_toList]
      exact e
    · cases hk

set_option maxRecDepth 100000 in
set_option maxHeartbeats 4000000 in
theorem fair_any (p q : Int) (A : Option Addr) (cap : Nat) (xs : List Int) (hlen : xs.length ≤ 9223372036854775807) (w : World) (hr : ReadsU w w.heap.size A xs) :
    Calls Try.prog 3 #[.int .i64 p, .int .i64 q, .slice A xs.length cap] w fun e w' => e = .returned (.bool true) ∧ Below w.heap.size w w' := by
  obtain ⟨a, hA, ha⟩ := low_mod p 20 (by decide)
  obtain ⟨b, hB, hb⟩ := low_mod q 9 (by decide)
  have hA : (bits .and .i64 p 65535).tmod 20 = (a : Int) := hA
  have hB : (bits .and .i64 q 65535).tmod 9 = (b : Int) := hB
  by_cases hl : 300 < xs.length
  · go_enter Try.func3, Try.ntmps3
    go_wp2_with (go_at_call 7; refine (alive_any w).mono ?_; rintro e w1 ⟨rfl, hB1⟩)
    go_ret
    exact ⟨rfl, hB1⟩
  · obtain ⟨i0, hi, hy0, hy1, hy2⟩ := info_parts Try.inf3
    go_enter Try.func3, Try.ntmps3
    go_wp2_with fail
    refine (new_any (1 + (a : Int)) (by omega) w).mono ?_
    rintro e w1 ⟨s, mb, rfl, h1, B1⟩
    clear hA hB
    go_wp2_with fail
    go_loopw [9] (fun i wr => ∃ k : Nat, k ≤ b + 1 ∧ i = .int .i64 k ∧ (∃ va st, Mem w.heap.size wr s va mb (.slice none 0 0) k st ∧ Fresh (1 + (a : Int)) k st) ∧ Below w.heap.size w wr) (fun i _ => b + 1 - (intOf i).toNat)
    case atStart => exact ⟨0, Nat.zero_le _, rfl, ⟨_, _, h1, fresh0 _⟩, B1⟩
    case round =>
      obtain ⟨k, hk, rfl, ⟨va, st, hM, hF⟩, hBw⟩ := hrel
      by_cases hlt : k < b + 1
      · have hord := hF.ord
        have hln := hF.len
        have hadd := add_new hM (id := (k : Int)) (wf64 (by omega) (by omega)) hF.nobody (by omega) (by omega) (by omega) (by omega) hBw.size
        clear hord hln h1 B1
        go_wp2_with fail
        refine hadd.mono ?_
        rintro e w2 ⟨rfl, ⟨va2, h2⟩, B2⟩
        go_wp2
        go_roundw
        case rel => exact ⟨k + 1, by omega, by go_num, ⟨_, _, h2, hF.step⟩, hBw.trans (B2.mono (Nat.le_refl _))⟩
        case measure => simp [intOf]; omega
      · obtain rfl : k = b + 1 := by omega
        have hI := hF.inv (by omega)
        have hpat := hF.pat
        have hln := hF.len
        have hz : st.l.map T.age = List.replicate (b + 1) 0 := by
          rw [List.eq_replicate_iff]
          refine ⟨by rw [List.length_map, hln], fun z hz => ?_⟩
          obtain ⟨t, ht, rfl⟩ := List.mem_map.1 hz
          exact hF.age t ht
        have HZ := Lib.hid hz
        clear hz
        obtain ⟨A2, cap2, hv⟩ := row_form hM.all
        rw [hln] at hv
        subst hv
        clear hF hln h1 B1
        have HI := Lib.hid hI
        have HP := Lib.hid hpat
        clear hI hpat
        go_wp2_with (at_make; refine wpList_make_full _ rfl _ _ 30 rfl w.heap.size 3 i0 (.int .i64 0) 1 Try.und30 hi hy0 hy1 _ _ _ _ (b + 1) rfl rfl (by omega) (by omega) (by rw [hy2]; omega) (by unfold maxLen; omega) hBw.size ?_)
        intro w2 hown hgrow
        have hM2 := hM.grown hgrow
        have hB2 := hBw.grown hgrow hBw.size (fun k hk => by cases hk)
        obtain ⟨g, hg⟩ : ∃ g, wr.heap.size = g := ⟨_, rfl⟩
        rw [hg] at hown ⊢
        have hS := since_made hown
        have hgB : w.heap.size ≤ g := by rw [← hg]; exact hBw.size
        have hz : st.l.map T.age = List.replicate (b + 1) 0 := HZ.out
        rw [← hz] at hS
        clear hown hgrow hM hg hz hlt hk
        go_wp2_with fail
        go_loopw [11] (fun i wr => ∃ k : Nat, k ≤ xs.length ∧ i = .int .i64 k ∧ (∃ st, Mem w.heap.size wr s (.slice A2 (b + 1) cap2) mb (.slice none 0 0) (b + 1) st ∧ Inv (1 + (a : Int)) (b + 1) st.l ∧ st.pat = 1 + (a : Int) ∧ Since wr g (st.l.map T.age)) ∧ Below w.heap.size w wr) (fun i _ => xs.length - (intOf i).toNat)
        case atStart => exact ⟨0, Nat.zero_le _, rfl, ⟨st, hM2, HI.out, HP.out, hS⟩, hB2⟩
        case round =>
          clear hM2 hS hB2 HI HP HZ hBw
          obtain ⟨k, hk, rfl, ⟨st2, hM, hI, hpat, hS⟩, hBw⟩ := hrel
          by_cases hlt : k < xs.length
          · obtain ⟨x, hx⟩ : ∃ x, xs[k]? = some x := ⟨_, List.getElem?_eq_getElem hlt⟩
            obtain ⟨ad, rfl, hab, hc, hx0, hx1⟩ := (hr.below hBw) k x hx
            have hln := hI.len
            have hM' : Mem w.heap.size wr s (.slice A2 st2.l.length cap2) mb (.slice none 0 0) (b + 1) st2 := by rw [hln]; exact hM
            have hbd : ∀ t ∈ st2.l, 0 ≤ t.age ∧ t.age ≤ 1000000 := fun t ht => by
              have := hI.age t ht
              have := hI.bound ht
              omega
            have hpk := pick_any hM' x hx0 hx1 (by rw [hpat]; omega) (by rw [hpat]; omega) hbd (by rw [hln]; omega)
            obtain ⟨t, hch⟩ := chosen_some (st := st2) hI (by omega) x.toNat
            rw [hch] at hpk
            have htm := chosen_mem hch
            rw [aw_all hI.up] at htm
            obtain ⟨k0, hk0, ek0⟩ := List.getElem_of_mem htm
            have hat : st2.l[k0]? = some t := by rw [List.getElem?_eq_getElem hk0, ek0]
            have hid := hI.ids k0 t hat
            have hI' : Inv st2.pat (b + 1) st2.l := by rw [hpat]; exact hI
            have hI2 := inv_step hI' (by rw [hpat]; omega) hch
            have hags := ages_step hI' hM.apart hat
            rw [hpat] at hI2
            rw [hln] at hk0
            have HX := Lib.hid hx
            have HI2 := Lib.hid hI2
            have HAG := Lib.hid hags
            have HLN := Lib.hid hln
            have HPT := Lib.hid hpat
            have hbl : ∀ u ∈ st2.l, ∃ vs, Blk wr u.b 62 vs := fun u hu => ⟨_, hM.tasks u hu⟩
            have hlow := hM.ht
            have hzb : ∀ (j : Nat) (z : Int), (st2.l.map T.age)[j]? = some z → 0 ≤ z ∧ z ≤ 1000000 := fun j z hz => by
              rw [List.getElem?_map, Option.map_eq_some_iff] at hz
              obtain ⟨u, hu, rfl⟩ := hz
              exact hbd u (List.mem_of_getElem? hu)
            have HZB := Lib.hid hzb
            have hln2 : (st2.l.map T.age).length = b + 1 := by rw [List.length_map, hln]
            have HL2 := Lib.hid hln2
            clear hx hI2 hags hln hpat hI hI' hbd hch htm hat ek0 hln2 hzb
            go_wp2_with fail
            refine hpk.mono ?_
            rintro e wq ⟨he, hMq, hFq⟩
            rw [hid] at he
            subst he
            rw [HLN.out] at hMq
            have hSq := hS.frm hFq hbl
            have hBq := hBw.trans (hFq.below hlow hBw.size)
            clear hpk hM hM' hS hFq hbl hlow hid
            go_wp2_with fail
            go_loopw [14] (fun i wr => ∃ j : Nat, j ≤ b + 1 ∧ i = .int .i64 j ∧ Mem w.heap.size wr s (.slice A2 (b + 1) cap2) mb (.slice none 0 0) (b + 1) (picked st2 t.b) ∧ Since wr g (incF j (st2.l.map T.age)) ∧ Below w.heap.size w wr) (fun i _ => b + 1 - (intOf i).toNat)
            case atStart => exact ⟨0, Nat.zero_le _, rfl, hMq, by rw [incF_zero]; exact hSq, hBq⟩
            case round =>
              clear hMq hSq hBq
              obtain ⟨j, hj, rfl, hMj, hSj, hBj⟩ := hrel
              by_cases hjl : j < b + 1
              · obtain ⟨z, hz⟩ : ∃ z, (st2.l.map T.age)[j]? = some z := ⟨_, List.getElem?_eq_getElem (by rw [HL2.out]; exact hjl)⟩
                obtain ⟨hz0, hz1⟩ := HZB.out j z hz
                have hcj := hSj.cell (incF_at hz)
                have hfj := hSj.frozen j
                have hM2 := hMj.since hSj j (.int .i64 (z + 1))
                have hS2 := hSj.set j (z + 1)
                rw [incF_succ hz] at hS2
                have hB2 := hBj.setCell (p := ⟨g, j, none⟩) hgB (.int .i64 (z + 1))
                clear hz hMj hSj hBj
                go_wp2
                go_roundw
                case rel => exact ⟨j + 1, by omega, by go_num, hM2, hS2, hB2⟩
                case measure => simp [intOf]; omega
              · obtain rfl : j = b + 1 := by omega
                have hall : incF (b + 1) (st2.l.map T.age) = (st2.l.map T.age).map (· + 1) := by
                  rw [← HL2.out]
                  exact incF_all _
                rw [hall] at hSj
                obtain ⟨z0, hz0⟩ : ∃ z, ((st2.l.map T.age).map (· + 1))[k0]? = some z := ⟨_, List.getElem?_eq_getElem (by rw [List.length_map, HL2.out]; exact hk0)⟩
                have hck := hSj.cell hz0
                have hfk := hSj.frozen k0
                have hM4 := hMj.since hSj k0 (.int .i64 0)
                have hS4 := hSj.set k0 0
                rw [← HAG.out] at hS4
                have hB4 := hBj.setCell (p := ⟨g, k0, none⟩) hgB (.int .i64 0)
                have hpp : (picked st2 t.b).pat = 1 + (a : Int) := HPT.out
                have HPP := Lib.hid hpp
                clear hall hz0 hMj hSj hBj hpp
                go_wp2_with fail
                go_loopw [15] (fun i wx => ∃ j : Nat, j ≤ b + 1 ∧ i = .int .i64 j ∧ wx = wr.setCell ⟨g, k0, none⟩ (.int .i64 0)) (fun i _ => b + 1 - (intOf i).toNat)
                case atStart => exact ⟨0, Nat.zero_le _, rfl, rfl⟩
                case round =>
                  obtain ⟨j, hj, rfl, rfl⟩ := hrel
                  by_cases hjl : j < b + 1
                  · obtain ⟨u, hu⟩ : ∃ u, (picked st2 t.b).l[j]? = some u := ⟨_, List.getElem?_eq_getElem (by rw [HI2.out.len]; exact hjl)⟩
                    have hum := List.mem_of_getElem? hu
                    have hu0 := HI2.out.age u hum
                    have hu1 := HI2.out.bound hum
                    have hcu := hS4.cell (k := j) (z := u.age) (by rw [List.getElem?_map, hu]; rfl)
                    clear hu hum
                    go_wp2
                    go_roundw
                    case rel => exact ⟨j + 1, by omega, by go_num, by trivial⟩
                    case measure => simp [intOf]; omega
                  · obtain rfl : j = b + 1 := by omega
                    go_wp2
                    go_roundw
                    case rel => exact ⟨k + 1, by omega, by go_num, ⟨_, hM4, HI2.out, HPP.out, hS4⟩, hB4⟩
                    case measure => simp [intOf]; omega
          · obtain rfl : k = xs.length := by omega
            clear hM hS hI hpat
            go_wp2_with fail
            refine (alive_any wr).mono ?_
            rintro e w9 ⟨rfl, hB9⟩
            go_wp2
            go_ret
            exact ⟨rfl, hBw.trans (hB9.mono hBw.size)⟩
end Go.Proofs.Ytlkphbcdgkjnoaa
