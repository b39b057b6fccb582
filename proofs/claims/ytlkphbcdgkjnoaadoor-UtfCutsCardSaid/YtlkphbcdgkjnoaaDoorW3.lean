/- The law UtfCuts returns true. Conditions: the tables lie as laid; the string is within the model's reach; the place fits its kind. -/
import Derived.Test.YtlkphbcdgkjnoaaDoorW1
import Derived.Test.YtlkphbcdgkjnoaaDoorS2
import Derived.Lib.QuietBelow
namespace Go.Proofs.YtlkphbcdgkjnoaaDoor
open Go.RowKit Go.Shelf

theorem extract_list (s : ByteArray) (n : Nat) : (s.extract 0 n).data.toList = s.data.toList.take n := by simp
theorem extract_size (s : ByteArray) (n : Nat) (h : n ≤ s.size) : (s.extract 0 n).size = n := by simp; omega

/-- What the law asks of the two lists, place by place. -/
def CutFit (L M : List Int) (bad : Bool) : Prop := M.length ≤ L.length ∧ ∀ (i : Nat) (x y : Int), M[i]? = some x → L[i]? = some y → x = y ∨ (i + 1 = M.length ∧ x = 65533 ∧ bad = true)
theorem cutFit (l : List UInt8) (n : Nat) (hv : valL l = true) : CutFit (decL l) (decL (l.take n)) (!valL (l.take n)) := by
  rcases decL_take l n hv with ⟨k, hk⟩ | ⟨k, hlt, hk, hf⟩
  · refine ⟨by rw [hk, List.length_take]; omega, fun i x y hx hy => .inl ?_⟩
    rw [hk, List.getElem?_take] at hx
    split at hx
    · rw [hx] at hy; injection hy
    · cases hx
  · have hlen : (decL (l.take n)).length = k + 1 := by rw [hk, List.length_append, List.length_take]; simp; omega
    refine ⟨by omega, fun i x y hx hy => ?_⟩
    by_cases hi : i < k
    · left
      rw [hk, List.getElem?_append_left (by rw [List.length_take]; omega), List.getElem?_take, if_pos hi, hy] at hx
      injection hx with hx
      exact hx.symm
    · right
      have hi2 : i < k + 1 := by
        rw [← hlen]
        exact (List.getElem?_eq_some_iff.1 hx).1
      obtain rfl : i = k := by omega
      refine ⟨hlen.symm, ?_, by rw [hf]; rfl⟩
      rw [hk, List.getElem?_append_right (by rw [List.length_take]; omega), List.length_take, Nat.min_eq_left (by omega), Nat.sub_self] at hx
      injection hx with hx
      exact hx.symm

set_option maxRecDepth 100000 in
set_option maxHeartbeats 1000000 in
theorem cuts_out (s : ByteArray) (at_ : Int) (hs : s.size ≤ 9223372036854775807) (w : World) (hT : Tabs w) (h1 : 8192 < s.size) :
    Calls Tryd.prog 5 #[.string s, .int .u16 at_] w fun e w' => e = .returned (.bool true) ∧ Below w.heap.size w w' := by
  go_enter Tryd.func5, Tryd.ntmps5
  go_wp2_with (go_at_call 8; refine (works_any w hT).mono ?_; rintro e w1 ⟨rfl, hB1⟩)
  go_ret
  exact ⟨rfl, hB1⟩
set_option maxRecDepth 100000 in
set_option maxHeartbeats 1000000 in
theorem cuts_bad (s : ByteArray) (at_ : Int) (w : World) (hT : Tabs w) (h1 : s.size ≤ 8192) (hv : valL s.data.toList = false) :
    Calls Tryd.prog 5 #[.string s, .int .u16 at_] w fun e w' => e = .returned (.bool true) ∧ Below w.heap.size w w' := by
  have c11 := valid_any s (by omega) w hT
  rw [hv] at c11
  have C11 := Lib.hid c11
  clear c11 hv
  go_enter Tryd.func5, Tryd.ntmps5
  go_wp2_with (first
    | (go_at_call 11; refine C11.out.mono ?_; rintro e w1 ⟨rfl, hB1⟩)
    | (go_at_call 8; refine (works_any w1 (hT.below hB1)).mono ?_; rintro e w2 ⟨rfl, hB2⟩))
  go_ret
  exact ⟨rfl, hB1.trans (hB2.mono hB1.size)⟩

set_option maxRecDepth 100000 in
set_option maxHeartbeats 2000000 in
theorem cuts_good (s : ByteArray) (p : Int) (h0 : 0 ≤ p) (hp : p ≤ 65535) (w : World) (hT : Tabs w) (h1 : s.size ≤ 8192) (hv : valL s.data.toList = true) :
    Calls Tryd.prog 5 #[.string s, .int .u16 p] w fun e w' => e = .returned (.bool true) ∧ Below w.heap.size w w' := by
  have c11 := valid_any s (by omega) w hT
  rw [hv] at c11
  have C11 := Lib.hid c11
  have HV := Lib.hid hv
  clear c11 hv
  have e0 := Int.emod_nonneg p (show (s.size : Int) + 1 ≠ 0 by omega)
  have e1 := Int.emod_lt_of_pos p (show 0 < (s.size : Int) + 1 by omega)
  obtain ⟨n, hn⟩ : ∃ n : Nat, p % ((s.size : Int) + 1) = n := ⟨(p % ((s.size : Int) + 1)).toNat, by omega⟩
  rw [hn] at e0 e1
  have hn1 : (n : Int) ≤ s.size := by omega
  have hn2 : n ≤ s.size := by omega
  have hd0 : decide (8192 < (s.size : Int)) = false := by simp; omega
  go_enter Tryd.func5, Tryd.ntmps5
  go_wp2_with (go_at_call 11; refine C11.out.mono ?_; rintro e w1 ⟨rfl, hB1⟩)
  have hT1 := hT.below hB1
  have ls := decL_length s.data.toList
  rw [length_toList] at ls
  have c12 := decode_any s (by omega) w1 hT1
  have hfit := cutFit s.data.toList n HV.out
  obtain ⟨L, hL⟩ : ∃ L, decL s.data.toList = L := ⟨_, rfl⟩
  rw [hL] at c12 hfit ls
  refine c12.mono ?_
  clear c12 hL
  rintro e w2 ⟨v2, rfl, hr2, hB2⟩
  obtain ⟨A2, cap2, rfl, _, hrd2⟩ := hr2.form
  have hT2 := hT1.below hB2
  have hsz := extract_size s n hn2
  have c12 := decode_any (s.extract 0 n) (by omega) w2 hT2
  have lm := decL_length (s.extract 0 n).data.toList
  rw [length_toList, hsz] at lm
  rw [extract_list] at c12 lm
  obtain ⟨M, hM⟩ : ∃ M, decL (s.data.toList.take n) = M := ⟨_, rfl⟩
  rw [hM] at c12 hfit lm
  have HS := Lib.hid hsz
  clear hM hsz
  go_wp2_with fail
  refine c12.mono ?_
  clear c12
  rintro e w3 ⟨v3, rfl, hr3, hB3⟩
  obtain ⟨A3, cap3, rfl, _, hrd3⟩ := hr3.form
  have hT3 := hT2.below hB3
  have hrd2' := (hrd2.below hB3).mono hB3.size
  have hml := hfit.1
  have HF := Lib.hid hfit.2
  have hd1 : decide (L.length < M.length) = false := by simp; omega
  clear hfit
  go_wp2
  go_loopw [8] (fun i wr => ∃ k : Nat, k ≤ M.length ∧ i = .int .i64 k ∧ Below w3.heap.size w3 wr) (fun i _ => M.length - (intOf i).toNat)
  case atStart => exact ⟨0, Nat.zero_le _, rfl, Below.refl _ _⟩
  case round =>
    obtain ⟨k, hk, rfl, hBr⟩ := hrel
    by_cases hlt : k < M.length
    · obtain ⟨x, hx⟩ : ∃ z, M[k]? = some z := ⟨_, List.getElem?_eq_getElem hlt⟩
      obtain ⟨y, hy⟩ : ∃ z, L[k]? = some z := ⟨_, List.getElem?_eq_getElem (show k < L.length by omega)⟩
      have hfx := HF.out k x y hx hy
      obtain ⟨ad, hA, hab, hc⟩ := (hrd3.below hBr) k x hx
      obtain ⟨ad', hA', hab', hc'⟩ := (hrd2'.below hBr) k y hy
      subst hA hA'
      have hltL : k < L.length := by omega
      clear hx hy hrd2 hrd2' hrd3 hr2 hr3 HF
      rcases hfx with rfl | ⟨hlast, rfl, hbad⟩
      · go_wp2
        go_quiet (fail)
        go_wp2
        go_roundw
        case rel => exact ⟨k + 1, by omega, by go_num, hBr.trans (Below.drewN' _ _ _)⟩
        case measure => simp [intOf]; omega
      · by_cases hxy : (65533 : Int) = y
        · subst hxy
          go_wp2
          go_quiet (fail)
          go_wp2
          go_roundw
          case rel => exact ⟨k + 1, by omega, by go_num, hBr.trans (Below.drewN' _ _ _)⟩
          case measure => simp [intOf]; omega
        · have hne2 : ((65533 : Int) != y) = true := by simpa using hxy
          have hla : ((k : Int) == (M.length : Int) - 1) = true := by simp; omega
          have hTr := hT3.below hBr
          have hwr : IntKind.i64.wrap ((M.length : Int) - 1) = (M.length : Int) - 1 := IntWalk.i64_in _ (by omega)
          have q1 := fun d os => cell_regrown hc d os
          have q2 := fun d os => cell_regrown hc' d os
          have hbad' : valL (s.extract 0 n).data.toList = false := by rw [extract_list]; simpa using hbad
          have cQ : ∀ d os, Calls Tryd.prog 11 #[.string (s.extract 0 n)] (Sort.grow (redrawn wr d) os) fun e w'' => e = .returned (.bool false) ∧ ∃ p : Regrown, w'' = Sort.grow (redrawn wr p.d) p.os := fun d os => by
            have := valid_any (s.extract 0 n) (by have := HS.out; omega) (Sort.grow (redrawn wr d) os) (hTr.below (below_regrown wr d os))
            rw [hbad'] at this
            exact Calls.regrown_of this
          have CQ := Lib.hid cQ
          clear hbad hbad' cQ hc hc'
          go_wp2
          refine wp_region_quiet_below (by kernel_rfl) (by kernel_rfl) ?_
          repeat (quiet_step ((go_at_call 11; exact CQ.out _ _)))
          refine wpQuiet_nil ?_
          intro _ hw'
          obtain ⟨⟨dq, osq⟩, hw''⟩ := hw'
          subst hw''
          go_wp2
          go_roundw
          case rel => exact ⟨k + 1, by omega, by go_num, hBr.trans ((below_regrown wr dq osq).mono hBr.size)⟩
          case measure => simp [intOf]; omega
    · obtain rfl : k = M.length := by omega
      go_wp2_with (go_at_call 8; refine (works_any wr (hT3.below hBr)).mono ?_; rintro e w4 ⟨rfl, hB4⟩)
      go_ret
      have h34 := hBr.trans (hB4.mono hBr.size)
      have h24 := hB3.trans (h34.mono hB3.size)
      have h14 := hB2.trans (h24.mono hB2.size)
      exact ⟨rfl, hB1.trans (h14.mono hB1.size)⟩

theorem cuts_any (s : ByteArray) (p : Int) (hs : s.size ≤ 9223372036854775807) (hp : (Lit.int .u16 p).wf = true) (w : World) (hT : Tabs w) :
    Calls Tryd.prog 5 #[.string s, .int .u16 p] w fun e w' => e = .returned (.bool true) ∧ Below w.heap.size w w' := by
  have hb : 0 ≤ p ∧ p ≤ 65535 := by simpa [Lit.wf, IntKind.min, IntKind.max, IntKind.signed, IntKind.bits] using hp
  by_cases h : 8192 < s.size
  · exact cuts_out s p hs w hT h
  · cases hv : valL s.data.toList
    · exact cuts_bad s p w hT (by omega) hv
    · exact cuts_good s p hb.1 hb.2 w hT (by omega) hv
end Go.Proofs.YtlkphbcdgkjnoaaDoor
