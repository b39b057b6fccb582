/- SchedPlays: what the walk answers at every input. -/
import Derived.Test.YtlkphbcdgkjnoaaL8
import Derived.Test.YtlkphbcdgkjnoaaM9
namespace Go.Proofs.Ytlkphbcdgkjnoaa
open Go.RowKit Go.Maps

theorem pair_start {B : Nat} {w1 : World} {s mb : Nat} {p : Int} (h0 : 1 ≤ p) (h1 : p ≤ 9223372036854775807) (hBw : B ≤ w1.heap.size) (hM : Mem B w1 s (.slice none 0 0) mb (.slice none 0 0) 0 (st0 p)) : Pair B 0 (w1.alloc (.cells #[.int .i64 p, .int .u64 0, .slice none 0 0] 43)) s w1.heap.size (st0 p) := by
  refine ⟨fun k => B ≤ k ∧ k < w1.heap.size, fun k => k = w1.heap.size, ?_, ?_, fun k hk => ⟨hk.1, by rw [World.size_alloc]; omega⟩, fun k hk => ⟨by omega, by rw [World.size_alloc]; omega⟩, fun k hk hp => by omega⟩
  · refine ⟨_, mb, _, 0, hM.alloc _, ?_, Nat.le_refl _, Inv.start h0 h1, fun k hk => hM.own_lt hk⟩
    exact ⟨by simp [st0], fun t h => by simp [st0] at h, fun b h => by simp [st0] at h, fun j _ h => by simp [st0] at h⟩
  · refine ⟨.slice none 0 0, ⟨Blk.new _ _ _, World.ownsRow_nil _ _ _ _, hBw⟩, ?_⟩
    rintro k (rfl | e)
    · rfl
    · cases e
theorem pair_copy {B c s' r' : Nat} {w w1 w4 w5 : World} {st st' : St} (hlt : Sch B c w4 s' st' (fun k => w.heap.size ≤ k ∧ k < w1.heap.size)) (h1 : st'.pat = st.pat) (h2 : st'.now = st.now) (h3 : st'.l.map T.r = st.l.map T.r)
    (hR : RSch B w5 r' st (fun k => w4.heap.size ≤ k)) (hBw : B ≤ w.heap.size) (hB5 : Below w4.heap.size w4 w5) (hz : w1.heap.size ≤ w4.heap.size) (hz0 : w.heap.size ≤ w1.heap.size) : Pair B (c + 1) w5 s' r' st' := by
  have z5 := hB5.size
  have hS5 := hlt.below hB5
  refine ⟨fun k => w.heap.size ≤ k ∧ k < w1.heap.size, fun k => w4.heap.size ≤ k ∧ k < w5.heap.size, hS5.mono (by omega), (hR.of h1 h2 h3).wide (fun k _ a b => ⟨b, a⟩), fun k hk => ⟨by omega, by omega⟩, fun k hk => ⟨by omega, hk.2⟩, fun k hk hp => by omega⟩

set_option maxRecDepth 100000 in
set_option maxHeartbeats 8000000 in
theorem plays_any (p : Int) (hp0 : -9223372036854775808 ≤ p) (hp1 : p ≤ 9223372036854775807) (A : Option Addr) (cap : Nat) (xs : List Stp) (hlen : xs.length ≤ 9223372036854775807) (w : World) (hr : ReadsS w w.heap.size A xs) :
    Calls Try.prog 5 #[.int .i64 p, .slice A xs.length cap] w fun e w' => e = .returned (.bool true) ∧ Below w.heap.size w w' := by
  by_cases hl : 150 < xs.length
  · go_enter Try.func5, Try.ntmps5
    go_wp2_with (go_at_call 7; refine (alive_any w).mono ?_; rintro e w1 ⟨rfl, hB1⟩)
    go_ret
    exact ⟨rfl, hB1⟩
  by_cases hp : p < 1
  · have hN := new_bad p hp w
    go_enter Try.func5, Try.ntmps5
    go_wp2_with (first
      | (go_at_call 8; refine hN.mono ?_; rintro e w1 ⟨rfl, rfl⟩)
      | (go_at_call 7; refine (alive_any w).mono ?_; rintro e w1 ⟨rfl, hB1⟩))
    go_ret
    exact ⟨rfl, hB1⟩
  · go_enter Try.func5, Try.ntmps5
    go_wp2_with fail
    refine (new_any p (by omega) w).mono ?_
    rintro e w1 ⟨s, mb, rfl, h1, B1⟩
    have hPS := pair_start (by omega) hp1 B1.size h1
    have B2 := B1.alloc B1.size (.cells #[.int .i64 p, .int .u64 0, .slice none 0 0] 43)
    have HS1 := Lib.hid h1
    clear h1 B1
    go_wp2_with fail
    go_loopw [5, 7, 8] (fun sv rv iv wr => ∃ (k s r : Nat) (st : St), k ≤ xs.length ∧ iv = .int .i64 k ∧ sv = ptr s ∧ rv = ptr r ∧ Pair w.heap.size k wr s r st ∧ Below w.heap.size w wr) (fun _ _ iv _ => xs.length - (intOf iv).toNat)
    case atStart => exact ⟨0, _, _, _, Nat.zero_le _, rfl, rfl, rfl, hPS, B2⟩
    case round =>
      clear hPS B2 HS1
      obtain ⟨k, s, r, st, hk, rfl, rfl, rfl, hP, hB⟩ := hrel
      by_cases hlt : k < xs.length
      · obtain ⟨⟨d, id, n⟩, hx⟩ : ∃ x, xs[k]? = some x := ⟨_, List.getElem?_eq_getElem hlt⟩
        obtain ⟨b, o, rfl, hab, ⟨x0, x1, x2⟩, hid, hn0, hn1⟩ := (hr.below hB) k _ hx
        have hlt' : (k : Int) < xs.length := by omega
        have hkc : k ≤ 1000 := by omega
        have HX := Lib.hid hx
        clear hx
        by_cases hd : d = 7
        · subst hd
          obtain ⟨O, P, hS, hR, hO, hPP, hdis⟩ := hP
          have hcp := copy_s hS hkc hB.size
          have hln : st.l.length ≤ 1000 := by obtain ⟨va, mb, vt, m, _, _, _, I, _⟩ := hS; have := I.len; omega
          have HO := Lib.hid hO
          have HP := Lib.hid hPP
          have HD := Lib.hid hdis
          clear hO hPP hdis
          go_wp2_with fail
          refine hcp.mono ?_
          rintro e w1c ⟨c, stc, rfl, hSc, ec1, ec2, ec3, hB1⟩
          have z1 := hB1.size
          have hSc1 : Sch w.heap.size k w1c c stc (fun j => wr.heap.size ≤ j ∧ j < w1c.heap.size) := hSc.wide (fun j _ a b => ⟨b, a⟩)
          have hSX : Sch w.heap.size k w1c s st (Xs w1c.heap.size O) := (hS.below hB1).wide (fun j _ _ a => .inl a)
          have hR1 := hR.below hB1
          have hBa := hB.trans (hB1.mono hB.size)
          have hxO : ∀ j, Xs w1c.heap.size O j → w.heap.size ≤ j := fun j hj => hj.elim (fun a => (HO.out j a).1) (fun a => Nat.le_trans hBa.size a)
          have hxC : ∀ j, (wr.heap.size ≤ j ∧ j < w1c.heap.size) → ¬ Xs w1c.heap.size O j := fun j hj hx => hx.elim (fun a => by have := (HO.out j a).2; omega) (fun a => by omega)
          have hxP : ∀ j, P j → ¬ Xs w1c.heap.size O j := fun j hj hx => hx.elim (fun a => HD.out j a hj) (fun a => by have := (HP.out j hj).2; omega)
          have HXO := Lib.hid hxO
          have HXC := Lib.hid hxC
          have HXP := Lib.hid hxP
          have HE1 := Lib.hid ec1
          have HE2 := Lib.hid ec2
          have HE3 := Lib.hid ec3
          have hpk := spoil_pick hSX hkc (Nat.le_refl _)
          clear hcp hSc hS hR hxO hxC hxP ec1 ec2 ec3 hSX
          go_wp2_with fail
          refine hpk.mono ?_
          rintro e w2 ⟨⟨v2, rfl⟩, ⟨st2, hS2⟩, F2⟩
          have hSc2 := hSc1.move F2 (fun j hj _ => HXC.out j hj)
          have hR2 := hR1.move F2 (fun j hj _ => HXP.out j hj)
          have hBb := hBa.trans (F2.below HXO.out hBa.size)
          have z2 := F2.size
          obtain ⟨b', o', eb, hab2, ⟨y0, y1, y2⟩, _⟩ := (hr.below hBb) k _ HX.out
          cases eb
          have hadd := spoil_add hS2 (by omega) hBb.size z2 (wf64 hn0 hn1)
          clear hpk hSc1 hR1 hS2 x0 x1 x2
          go_wp2_with fail
          refine hadd.mono ?_
          rintro e w3 ⟨⟨v3, rfl⟩, ⟨st3, hS3⟩, F3⟩
          have hSc3 := hSc2.move F3 (fun j hj _ => HXC.out j hj)
          have hR3 := hR2.move F3 (fun j hj _ => HXP.out j hj)
          have hBc := hBb.trans (F3.below HXO.out hBb.size)
          have z3 := F3.size
          have hBd := hBc.drew
          have hdr : Below w3.heap.size w3 w3.drew := ⟨rfl, rfl, rfl, Nat.le_refl _, fun _ _ => rfl⟩
          obtain ⟨b', o', eb, hab3, ⟨q0, q1, q2⟩, _⟩ := (hr.below hBd) k _ HX.out
          cases eb
          have hunt := spoil_until (hS3.below hdr) (by omega) hBd.size (show w1c.heap.size ≤ w3.drew.heap.size by show _ ≤ w3.heap.size; omega) hid hn1
          have hSc4 := hSc3.below hdr
          have hR4 := hR3.below hdr
          have HRR := Lib.hid hr
          clear hadd hSc2 hR2 hS3 hSc3 hR3 y0 y1 y2 hdr
          have hki : (0 : Int) ≤ k := by omega
          go_wp2_with fail
          go_region_held3 (fun w' => w'.cell? ⟨b, o + k * 3 + 1, none⟩ = some (.int .u64 id) ∧ w'.cell? ⟨b, o + k * 3 + 2, none⟩ = some (.int .u64 n)) (first | go_keep | exact ⟨q1, q2⟩) (first | (go_at_call 11; (with_reducible refine (hunt.mono ?_)); rintro e w4 ⟨⟨v4, rfl⟩, ⟨st4, hS4⟩, F4⟩; have hBe := hBd.trans (F4.below HXO.out hBd.size); obtain ⟨b', o', eb, _, ⟨_, k1, k2⟩, _⟩ := (HRR.out.below hBe) k _ HX.out; cases eb; have k4 := And.intro k1 k2; clear k1 k2))
          have z4 := F4.size
          have hSc5 := hSc4.move F4 (fun j hj _ => HXC.out j hj)
          have hR5 := hR4.move F4 (fun j hj _ => HXP.out j hj)
          have hcr := copy_r hR5 hln hBe.size
          clear hunt hSc4 hR4 hS4 q0 q1 q2 k4
          go_wp2_with fail
          refine hcr.mono ?_
          rintro e w5 ⟨r', rfl, hR6, hB5⟩
          have hP2 := pair_copy (w := wr) hSc5 HE1.out HE2.out HE3.out hR6 hB.size hB5 (by have hd : w3.drew.heap.size = w3.heap.size := rfl; omega) z1
          have hBf := hBe.trans (hB5.mono hBe.size)
          have hst := stands_pair hP2 (by omega)
          clear hcr hSc5 hR5 hR6
          go_wp2_with fail
          refine hst.mono ?_
          rintro e w6 ⟨rfl, hB6⟩
          have hP3 := hP2.below hB6
          have hB7 := hBf.trans (hB6.mono hBf.size)
          clear hst hP2
          go_wp2
          go_roundw
          case rel => exact ⟨k + 1, c, r', stc, by omega, by go_num, rfl, rfl, hP3, hB7⟩
          case measure => simp [intOf]; omega
        · have hd7 : (d == 7) = false := beq_eq_false_iff_ne.2 hd
          have hD := does_any hP hkc hB.size d hid hn0 hn1
          clear hd hP
          go_wp2_with fail
          refine hD.mono ?_
          rintro e w2 ⟨rfl, st2, hP2, hB2⟩
          have hst := stands_pair hP2 (by omega)
          clear hD
          go_wp2_with fail
          refine hst.mono ?_
          rintro e w3 ⟨rfl, hB3⟩
          have hP3 := hP2.below hB3
          have hB4 := (hB.trans hB2).trans (hB3.mono (hB.trans hB2).size)
          clear hst hP2
          go_wp2
          go_roundw
          case rel => exact ⟨k + 1, s, r, st2, by omega, by go_num, rfl, rfl, hP3, hB4⟩
          case measure => simp [intOf]; omega
      · obtain rfl : k = xs.length := by omega
        clear hP
        go_wp2_with fail
        refine (alive_any wr).mono ?_
        rintro e w9 ⟨rfl, hB9⟩
        go_wp2
        go_ret
        exact ⟨rfl, hB.trans (hB9.mono hB.size)⟩
end Go.Proofs.Ytlkphbcdgkjnoaa
