/- utf.Encode, utf.Clean and the law's 'runes': what each call returns; nothing that lay turns. Conditions: the tables lie as laid; sizes within the reach. -/
import Derived.Test.YtlkphbcdgkjnoaaDoorA3
import Derived.Laws.BytesArg
import Derived.BigQuiet
import Derived.Deep.QuietTactic
namespace Go.Proofs.YtlkphbcdgkjnoaaDoor
open Go.RowKit Go.Shelf

/-- The slice that begins at A holds the code points zs, below block B. -/
def ReadsI (w : World) (B : Nat) (A : Option Addr) (zs : List Int) : Prop := ∀ k z, zs[k]? = some z → ∃ ad : Addr, A = some ad ∧ ad.block < B ∧ w.cell? (ad.add k) = some (.int .i32 z)
theorem ReadsI.below {w w' : World} {B : Nat} {A : Option Addr} {zs : List Int} (h : ReadsI w B A zs) (hb : Below B w w') : ReadsI w' B A zs := fun k z hz => by
  obtain ⟨ad, e, hlt, hc⟩ := h k z hz
  refine ⟨ad, e, hlt, (hb.cell (p := ad.add k) ?_).trans hc⟩
  unfold Addr.add; split <;> exact hlt
theorem ReadsI.mono {w : World} {B B' : Nat} {A : Option Addr} {zs : List Int} (h : ReadsI w B A zs) (hB : B ≤ B') : ReadsI w B' A zs := fun k z hz => by
  obtain ⟨ad, e, hlt, hc⟩ := h k z hz
  exact ⟨ad, e, by omega, hc⟩
theorem readsI_of_cells {w : World} {x : Addr} {zs : List Int} {len cap : Nat} (hc : ∀ i, i < len → w.cell? (x.add i) = some (.int .i32 (zs.getD i 0))) (hl : len ≤ cap) (hz : zs.length = cap) : ReadsI w w.heap.size (some x) (zs.take len) := fun k z hk => by
  rw [List.getElem?_take] at hk
  split at hk
  · rename_i h
    have := hc k h
    rw [List.getD_eq_getElem?_getD, hk] at this
    have hb := World.block_lt_of_cell? w _ this
    refine ⟨x, rfl, ?_, this⟩
    have e : (x.add k).block = x.block := by unfold Addr.add; split <;> rfl
    rwa [e] at hb
  · cases hk
theorem Runes.form {B : Nat} {W : World} {v : Value} {zs : List Int} (h : Runes B W v zs) : ∃ A cap, v = .slice A zs.length cap ∧ zs.length ≤ cap ∧ ReadsI W W.heap.size A zs := by
  have hlt := World.ownsRow.lt h
  have hcs := fun g (hg : v.ownBlock = some g) => World.ownsRow.cells h hg
  rcases h.2 with ⟨rfl, h0⟩ | ⟨g, cap, cur, rfl, hg, hh, hle, _⟩
  · refine ⟨none, 0, by rw [h0], by omega, fun k z hz => ?_⟩
    rw [List.eq_nil_of_length_eq_zero h0] at hz
    simp at hz
  · refine ⟨_, cap, rfl, hle, fun k z hz => ⟨_, rfl, (hlt g rfl).2, ?_⟩⟩
    exact hcs g rfl k _ (by simp [hz])
theorem Tryd.info5 : (Tryd.prog.info? 5).map (fun i => (i.zero, i.size, i.bytes)) = some (some (.int .u8 0), 1, 1) := by kernel_rfl

/-- A slice of bytes of the call's own. -/
def BytesOwn (B : Nat) (W : World) (v : Value) (zs : List Int) : Prop := W.ownsRow B 5 1 v zs.length (zs.map (Value.int .u8))
theorem BytesOwn.conv {B : Nat} {W : World} {v : Value} {zs : List Int} (h : BytesOwn B W v zs) : (convert 40 9 v).run Tryd.prog W = .ok (.string (strOfNums zs)) W := by
  have hcs := fun g (hg : v.ownBlock = some g) => World.ownsRow.cells h hg
  rcases h.2 with ⟨rfl, h0⟩ | ⟨g, cap, cur, rfl, hg, hh, hle, _⟩
  · rw [List.eq_nil_of_length_eq_zero h0]
    exact run_convert_bytes_nil W 40 5 Tryd.underlying40 Tryd.underlying5 0 0 9 Tryd.underlying9
  · refine run_convert_bytes_arg (P := Tryd.prog) W 40 5 Tryd.underlying40 Tryd.underlying5 g 0 zs.length cap zs rfl (fun i hi => ?_) 9 Tryd.underlying9
    have := hcs g rfl i (.int .u8 (zs.getD i 0)) (by simp [List.getElem?_eq_getElem hi])
    have e : (⟨g, 0, none⟩ : Addr).add i = ⟨g, 0 + i, none⟩ := by unfold Addr.add; split <;> simp_all
    rwa [e] at this

def allValid (zs : List Int) : Bool := zs.all Lib.validRune
def encZ (zs : List Int) : List Int := zs.flatMap Lib.encodeRuneZ
def encS (zs : List Int) : ByteArray := if allValid zs then strOfNums (encZ zs) else ⟨#[]⟩
def encE (zs : List Int) : Int := if allValid zs then 0 else 2
theorem encZ_snoc (zs : List Int) (z : Int) : encZ (zs ++ [z]) = encZ zs ++ Lib.encodeRuneZ z := by simp [encZ]
theorem encZ_len (zs : List Int) : (encZ zs).length ≤ 4 * zs.length := by
  induction zs with
  | nil => simp [encZ]
  | cons z zs ih =>
    have := (Lib.encodeRuneZ_length z).2
    simp only [encZ, List.flatMap_cons, List.length_append, List.length_cons] at ih ⊢
    omega
theorem encS_bad {zs : List Int} {k : Nat} {z : Int} (hz : zs[k]? = some z) (hv : Lib.validRune z = false) : encS zs = ⟨#[]⟩ ∧ encE zs = 2 := by
  have : allValid zs = false := by
    unfold allValid
    rw [List.all_eq_false]
    exact ⟨z, List.mem_of_getElem? hz, by rw [hv]; simp⟩
  unfold encS encE
  rw [this]
  exact ⟨rfl, rfl⟩
theorem encS_good {zs : List Int} (h : allValid zs = true) : encS zs = strOfNums (encZ zs) ∧ encE zs = 0 := by
  unfold encS encE
  rw [h]
  exact ⟨rfl, rfl⟩
theorem take_snoc {α : Type} {zs : List α} {k : Nat} {z : α} (hz : zs[k]? = some z) : zs.take (k + 1) = zs.take k ++ [z] := by
  rw [List.take_add_one, hz]; rfl
theorem valid_bounds {z : Int} (h : Lib.validRune z = true) : 0 ≤ z ∧ z ≤ 1114111 := by
  unfold Lib.validRune at h
  simp only [decide_eq_true_eq] at h
  omega
theorem allValid_take {zs : List Int} {k : Nat} {z : Int} (hz : zs[k]? = some z) (h : allValid (zs.take k) = true) (hv : Lib.validRune z = true) : allValid (zs.take (k + 1)) = true := by
  rw [take_snoc hz]
  unfold allValid at h ⊢
  simp [h, hv]

set_option maxRecDepth 100000 in
set_option maxHeartbeats 1000000 in
theorem encode_any (A : Option Addr) (cap : Nat) (zs : List Int) (hlen : zs.length ≤ 140737488) (w : World) (hr : ReadsI w w.heap.size A zs) :
    Calls Tryd.prog 9 #[.slice A zs.length cap] w fun e w' => e = .returned (.tuple #[.string (encS zs), .int .i64 (encE zs)]) ∧ Below w.heap.size w w' := by
  go_enter Tryd.func9, Tryd.ntmps9
  go_wp2
  go_loopw [4, 9] (fun v i wr => ∃ k : Nat, k ≤ zs.length ∧ i = .int .i64 k ∧ BytesOwn w.heap.size wr v (encZ (zs.take k)) ∧ Hid (allValid (zs.take k) = true) ∧ Below w.heap.size w wr)
    (fun _ i _ => zs.length - (intOf i).toNat)
  case atStart => exact ⟨0, Nat.zero_le _, rfl, World.ownsRow_nil _ _ _ _, rfl, Below.refl _ _⟩
  case round =>
    obtain ⟨k, hk, rfl, hrow, hav, hB⟩ := hrel
    have hr' := hr.below hB
    by_cases hlt : k < zs.length
    · obtain ⟨z, hz⟩ : ∃ z, zs[k]? = some z := ⟨_, List.getElem?_eq_getElem hlt⟩
      obtain ⟨ad, rfl, hab, hc⟩ := hr' k z hz
      have HZ := Lib.hid hz
      clear hz hr hr'
      cases hv : Lib.validRune z
      · go_wp2_with (go_at_call 19; refine (Tryd.utf8_ValidRune _ _).mono ?_; rintro e w' ⟨rfl, rfl⟩)
        have hb := encS_bad HZ.out hv
        go_ret2
        rw [hb.1, hb.2]
        exact ⟨rfl, hB⟩
      · have hzb := valid_bounds hv
        have hel := encZ_len (zs.take k)
        rw [List.length_take] at hel
        obtain ⟨hz0, hz1⟩ := hzb
        go_wp2_with (first | (go_at_call 19; refine (Tryd.utf8_ValidRune _ _).mono ?_; rintro e w' ⟨rfl, rfl⟩) | (go_at_call 20; refine (Tryd.utf8_AppendRune_plain w.heap.size _ _ _ z (by omega) (by omega) _ hrow (by omega) hB.size).mono ?_; rintro e w1 ⟨v1, rfl, hown1, o, hg1⟩))
        have hB1 : Below w.heap.size w w1 := (hB.alloc hB.size o).grown hg1 (by have := hB.size; simp; omega) (fun g hg => (World.ownsRow.lt hrow g hg).1)
        go_roundw
        case rel =>
          refine ⟨k + 1, by omega, by go_num, ?_, allValid_take HZ.out hav.out hv, hB1⟩
          rw [take_snoc HZ.out, encZ_snoc]
          unfold BytesOwn
          rw [List.map_append, List.length_append]
          simpa [Lib.runeCells] using hown1
        case measure => simp [intOf]; omega
    · obtain rfl : k = zs.length := by omega
      have hcv := hrow.conv
      have hav' := hav.out
      rw [List.take_length] at hav'
      have hg := encS_good hav'
      have HG := Lib.hid hg
      clear hg hav' hr hr' hav
      go_wp2
      go_ret2
      rw [HG.out.1, HG.out.2]
      exact ⟨rfl, hB⟩

set_option maxRecDepth 100000 in
set_option maxHeartbeats 1000000 in
theorem clean_any (s : ByteArray) (hs : s.size ≤ 140737488) (w : World) (hT : Tabs w) :
    Calls Tryd.prog 18 #[.string s] w fun e w' => e = .returned (.string (encS (decL s.data.toList))) ∧ Below w.heap.size w w' := by
  have hdl := decL_length s.data.toList
  rw [length_toList] at hdl
  go_enter Tryd.func18, Tryd.ntmps18
  go_wp2_with (go_at_call 12; refine (decode_any s hs _ hT).mono ?_; rintro e w1 ⟨v, rfl, hrun, hB⟩)
  obtain ⟨A, cap, rfl, hcap, hrd⟩ := hrun.form
  go_wp2_with (go_at_call 9; refine (encode_any A cap _ (by omega) w1 hrd).mono ?_; rintro e w2 ⟨rfl, hB2⟩)
  go_ret
  exact ⟨rfl, hB.trans (hB2.mono hB.size)⟩

theorem Below.drewN' (B : Nat) (w : World) (n : Nat) : Below B w (w.drewN n) := ⟨rfl, rfl, rfl, Nat.le_refl _, fun _ _ => rfl⟩

set_option maxRecDepth 100000 in
set_option maxHeartbeats 1000000 in
theorem runes_any (A A' : Option Addr) (cap cap' : Nat) (xs ys : List Int) (hx : xs.length ≤ 140737488) (hy : ys.length ≤ 140737488) (w : World) (hA : ReadsI w w.heap.size A xs) (hA' : ReadsI w w.heap.size A' ys) :
    Calls Tryd.prog 13 #[.slice A xs.length cap, .slice A' ys.length cap'] w fun e w' => e = .returned (.bool (decide (xs = ys))) ∧ Below w.heap.size w w' := by
  by_cases hl : xs.length = ys.length
  · have hne : ((xs.length : Int) != (ys.length : Int)) = false := by simp [hl]
    have HL := Lib.hid hl
    clear hl
    go_enter Tryd.func13, Tryd.ntmps13
    go_wp2
    go_loopw [5] (fun i wr => ∃ k : Nat, k ≤ xs.length ∧ i = .int .i64 k ∧ Hid (∀ j, j < k → xs[j]? = ys[j]?) ∧ Below w.heap.size w wr)
      (fun i _ => xs.length - (intOf i).toNat)
    case atStart => exact ⟨0, Nat.zero_le _, rfl, fun j h => by omega, Below.refl _ _⟩
    case round =>
      obtain ⟨k, hk, rfl, hp, hB⟩ := hrel
      by_cases hlt : k < xs.length
      · have hlt' : k < ys.length := by rw [← HL.out]; exact hlt
        obtain ⟨x, hx'⟩ : ∃ z, xs[k]? = some z := ⟨_, List.getElem?_eq_getElem hlt⟩
        obtain ⟨y, hy'⟩ : ∃ z, ys[k]? = some z := ⟨_, List.getElem?_eq_getElem hlt'⟩
        obtain ⟨ad, rfl, hab, hc⟩ := (hA.below hB) k x hx'
        obtain ⟨ad', rfl, hab', hc'⟩ := (hA'.below hB) k y hy'
        have HX := Lib.hid hx'
        have HY := Lib.hid hy'
        clear hx' hy' hA hA'
        by_cases hxy : x = y
        · subst hxy
          go_wp2
          go_quiet (fail)
          go_wp2
          go_roundw
          case rel =>
            refine ⟨k + 1, by omega, by go_num, fun j h => ?_, hB.trans (Below.drewN' _ _ _)⟩
            by_cases e : j = k
            · subst e
              rw [HX.out, HY.out]
            · exact hp.out j (by omega)
          case measure => simp [intOf]; omega
        · have hne2 : (x != y) = true := by simpa using hxy
          go_wp2
          go_quiet (fail)
          go_wp2
          go_ret
          refine ⟨?_, hB.trans (Below.drewN' _ _ _)⟩
          rw [decide_eq_false]
          · rfl
          · intro e
            have := HX.out
            rw [e, HY.out] at this
            injection this with this
            exact hxy this.symm
      · have hxe : xs = ys := by
          apply List.ext_getElem?
          intro j
          by_cases hj : j < k
          · exact hp.out j hj
          · rw [List.getElem?_eq_none (by omega), List.getElem?_eq_none (by have := HL.out; omega)]
        have HE := Lib.hid (show decide (xs = ys) = true by simpa using hxe)
        obtain rfl : k = xs.length := by omega
        clear hxe hp hA hA'
        go_wp2
        go_ret
        rw [HE.out]
        exact ⟨rfl, hB⟩
  · have hne : ((xs.length : Int) != (ys.length : Int)) = true := by simp; omega
    have HE := Lib.hid (show decide (xs = ys) = false by
      rw [decide_eq_false_iff_not]
      rintro rfl
      exact hl rfl)
    clear hl
    go_enter Tryd.func13, Tryd.ntmps13
    go_wp2
    go_ret
    rw [HE.out]
    exact ⟨rfl, Below.refl _ _⟩
end Go.Proofs.YtlkphbcdgkjnoaaDoor
