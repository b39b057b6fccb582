/- utf.Valid and utf.Decode: what each call returns; nothing that lay turns. Conditions: the tables lie as laid; the string is within the reach. -/
import Derived.Test.YtlkphbcdgkjnoaaDoorA2
namespace Go.Proofs.YtlkphbcdgkjnoaaDoor
open Go.RowKit Go.Shelf
attribute [local go_sem] Oper.semAt_some

theorem Boxed.put {W : World} {B : Nat} {t : TypeId} {v : Value} (h : Boxed W B t v) {l : Nat} {o : Obj} (o' : Obj) (hl : W.heap[l]? = some o) (ho : o.isCells = false) : Boxed (W.putObj l o') B t v := by
  refine (World.putObj_heap_other (fun e => ?_)).trans h
  subst e
  rw [show W.heap[B]? = _ from h] at hl
  cases hl
  cases ho
theorem Boxed.below {W W' : World} {B : Nat} {t : TypeId} {v : Value} (h : Boxed W B t v) (hb : Below W.heap.size W W') : Boxed W' B t v := (hb.block B h.lt).trans h
theorem Boxed.other {W : World} {B : Nat} {t : TypeId} {v : Value} (h : Boxed W B t v) {a : Addr} (ha : a.block ≠ B) (u : Value) : Boxed (W.setCell a u) B t v := (Below.heap_setCell W a u B (fun e => ha e.symm)).trans h
theorem below_put {w W : World} (h : Below w.heap.size w W) {l : Nat} (hl : w.heap.size ≤ l) {o : Obj} (hW : W.heap[l]? = some o) (o' : Obj) : Below w.heap.size w (W.putObj l o') :=
  h.trans ((Below.refl _ W).grown (grownBy_putObj' W l o') (by have := (Array.getElem?_eq_some_iff.1 hW).1; omega) (fun k e => by cases e; omega))
theorem heap_other_put {W : World} {Bs l : Nat} {o o' : Obj} {v : Value} (hb : ∃ u, Boxed W Bs 9 u) (hl : W.heap[l]? = some o) (ho : o.isCells = false) : (W.putObj l o').setCell ⟨Bs, 0, none⟩ v = (W.setCell ⟨Bs, 0, none⟩ v).putObj l o' := by
  obtain ⟨u, hu⟩ := hb
  have hne : Bs ≠ l := by
    rintro rfl
    rw [show W.heap[Bs]? = _ from hu] at hl
    cases hl
    cases ho
  show World.mk _ _ _ _ _ = World.mk _ _ _ _ _
  congr 1
  apply Array.ext_getElem?
  intro i
  simp only [World.setCell, World.putObj, Array.getElem?_modify, Array.getElem?_setIfInBounds]
  by_cases h1 : Bs = i
  · subst h1
    simp [Ne.symm hne]
  · simp only [if_neg h1]
    by_cases h2 : l = i
    · subst h2
      simp [Array.size_modify]
    · simp [h2]

theorem all_any (s : ByteArray) (w : World) :
    Calls Tryd.prog 23 #[.string s] w fun e w' => e = .returned (.func (.func 30) #[] #[.pointer (some ⟨w.heap.size, 0, none⟩)]) ∧ w' = w.alloc (.cells #[.string s] 9) := by
  go_enter Tryd.func23, Tryd.ntmps23
  go_wp2
  go_ret
  exact ⟨rfl, rfl⟩
theorem cut_list (r : ByteArray) : (cut r).data.toList = r.data.toList.drop (nx r.data.toList).2.1 := by
  unfold cut
  simp [List.take_of_length_le, length_toList]
theorem cut_size (r : ByteArray) : (cut r).size ≤ r.size := by
  unfold cut
  simp
theorem nil_of_size {r : ByteArray} (h : r.size = 0) : r.data.toList = [] := List.eq_nil_of_length_eq_zero h

set_option maxRecDepth 100000 in
set_option maxHeartbeats 2000000 in
theorem valid_any (s : ByteArray) (hs : s.size ≤ 140737488351232) (w : World) (hT : Tabs w) :
    Calls Tryd.prog 11 #[.string s] w fun e w' => e = .returned (.bool (valL s.data.toList)) ∧ Below w.heap.size w w' := by
  refine (callsIn_wide (n := 6)).1 ?_
  refine callsIn_of_wp_marks Tryd.func11 rfl trivial ?_ rfl
  simp only [Tryd.ntmps11, List.size_toArray, List.length_cons, List.length_nil, Nat.reduceAdd, Nat.reduceSub, Array.replicate_succ, Array.replicate_zero, List.push_toArray, List.append_toArray, List.nil_append, List.cons_append]
  gi_wp2_with (refine ⟨trivial, ?_⟩; gi_at_call 23; refine (callsIn_wide.2 (all_any s _)).mono ?_; rintro e w' ⟨rfl, rfl⟩)
  have bR := Boxed.new w 4 (.bool false)
  have bS := Boxed.new (w.alloc (.cells #[.bool false] 4)) 9 (.string s)
  rw [World.size_alloc] at bS
  have hB0 : Below w.heap.size w ((w.alloc (.cells #[.bool false] 4)).alloc (.cells #[.string s] 9)) := ((Below.refl _ w).alloc (Nat.le_refl _) _).alloc (by simp) _
  have hlt := hT.lt
  obtain ⟨W0, hW0⟩ : ∃ W0, (w.alloc (.cells #[.bool false] 4)).alloc (.cells #[.string s] 9) = W0 := ⟨_, rfl⟩
  have hsz0 : W0.heap.size = w.heap.size + 2 := by rw [← hW0]; simp
  have bR0 : Boxed W0 w.heap.size 4 (.bool false) := by rw [← hW0]; exact bR.alloc _
  rw [hW0] at bS hB0 ⊢
  clear hW0 bR
  refine wpIn_range_iter rfl (by omega) (gf := 30) (lb := #[.pointer (some ⟨w.heap.size + 1, 0, none⟩)]) rfl trivial (enters_of Tryd.func30 (by kernel_rfl) rfl)
    (all1_iter 5 (by omega) (w.heap.size + 1)) (fun _ => rfl)
    (fun r W l o o' hw hl ho => heap_other_put ⟨_, hw.1⟩ hl ho)
    (fun r W l o hl ho => by
      unfold advS World.setCell
      simp only [Array.getElem?_modify, hl]
      split
      · cases o <;> first | rfl | cases ho
      · rfl)
    (fun r W l o o' hw _ hl ho => ⟨Boxed.put hw.1 o' hl ho, hw.2.1.put o' hl ho, hw.2.2⟩)
    (fun r W => (ownS (w.heap.size + 1) r W ∧ Boxed W w.heap.size 4 (.bool false) ∧ Below w.heap.size w W) ∧ valL s.data.toList = valL r.data.toList)
    (fun c _ W => (c = .ret ∧ Boxed W w.heap.size 4 (.bool false) ∧ Below w.heap.size w W) ∧ valL s.data.toList = false)
    (fun r W h => h.1.1)
    (fun r W W' h hb => ⟨⟨⟨Boxed.below h.1.1.1 hb, h.1.1.2.1.below hb, h.1.1.2.2⟩, Boxed.below h.1.2.1 hb, h.1.2.2.trans (hb.mono h.1.2.2.size)⟩, h.2⟩)
    (fun r W l o o' h hle hl ho => ⟨⟨⟨Boxed.put h.1.1.1 o' hl ho, h.1.1.2.1.put o' hl ho, h.1.1.2.2⟩, Boxed.put h.1.2.1 o' hl ho, below_put h.1.2.2 (by omega) hl o'⟩, h.2⟩)
    (fun c r W l o o' h hle hl ho => ⟨⟨h.1.1, Boxed.put h.1.2.1 o' hl ho, below_put h.1.2.2 (by omega) hl o'⟩, h.2⟩)
    s ⟨⟨⟨bS, hT.below hB0, hs, by omega⟩, bR0, hB0⟩, rfl⟩
    (fun r => { tmps := #[.string s, undef, .pointer (some ⟨w.heap.size, 0, none⟩), undef, .bool (nx r.data.toList).2.2, .string s, .func (.func 30) #[] #[.pointer (some ⟨w.heap.size + 1, 0, none⟩)], .int .i32 (nx r.data.toList).1, .bool (nx r.data.toList).2.2, undef, undef], defers := [] }) ?assign ?body ?done ?stop
  case assign =>
    intro l r W K hK
    gi_wp2
    exact hK
  case body =>
    rintro l r W ⟨⟨ho, hb, hB⟩, hv⟩ hnf
    have hc := hb.cell
    have hf := hb.frozen
    have hcons := valL_cons (ne_nil_of_pos (s := r) (by omega))
    have HV := Lib.hid hv
    have HC := Lib.hid hcons
    clear hv hcons
    cases hw : (nx r.data.toList).2.2
    · gi_wp2
      exact ⟨(KeepsOthers.setCell _ _ _).from _, ⟨rfl, hb.set _, hB.setCell (p := ⟨w.heap.size, 0, none⟩) (Nat.le_refl _) _⟩, by rw [HV.out, HC.out, hw]; rfl⟩
    · gi_wp2
      obtain ⟨h1, h2, h3, h4⟩ := ho
      have hcs := cut_size r
      refine ⟨KeepsFrom.refl _ _, ⟨h1, h2, h3, h4⟩, ⟨⟨h1.set _, h2.set (a := ⟨w.heap.size + 1, 0, none⟩) h4 _, by omega, h4⟩, Boxed.other hb (by simp) _, hB.setCell (p := ⟨w.heap.size + 1, 0, none⟩) (by simp) _⟩, ?_⟩
      rw [HV.out, HC.out, hw, cut_list]
      rfl
  case done =>
    rintro D r W hD hfin ⟨⟨ho, hb, hB⟩, hv⟩ hK
    have hc := hb.cell
    have hf := hb.frozen
    rw [nil_of_size hfin, valL_nil] at hv
    have HV := Lib.hid hv
    clear hv hfin
    gi_wp2
    have hK' := (KeepsOthers.setCell W ⟨w.heap.size, 0, none⟩ (.bool true)).same D _ hK rfl
    refine ⟨by simp, .inl ⟨_, _, rfl, run_takeDeferred hK', ?_⟩⟩
    have hc5 := (Boxed.put (hb.set (.bool true)) (.deferred none) hK' rfl).cell
    refine ⟨.bool true, ?_, by rw [HV.out], below_put (hB.setCell (p := ⟨w.heap.size, 0, none⟩) (Nat.le_refl _) _) (by omega) hK' _⟩
    simp [results, Tryd.f11, go_sem, hc5]
  case stop =>
    rintro D c r W hD ⟨⟨rfl, hb, hB⟩, hv⟩ hK
    have HV := Lib.hid hv
    clear hv
    gi_wp2
    refine ⟨by simp, .inl ⟨_, _, rfl, run_takeDeferred hK, ?_⟩⟩
    have hc5 := (Boxed.put hb (.deferred none) hK rfl).cell
    refine ⟨.bool false, ?_, by rw [HV.out], below_put hB (by omega) hK _⟩
    simp [results, Tryd.f11, go_sem, hc5]

theorem Tabs.belowB {w w' : World} {B : Nat} (h : Tabs w) (hb : Below B w w') (hB : 1 < B) : Tabs w' := by
  have keep : ∀ (a : Addr) (v : Value), a.block ≤ 1 → w.cell? a = some v → w'.cell? a = some v := fun a v hl ha =>
    (World.cell?_of_block (hb.block a.block (by omega))).trans ha
  exact ⟨fun c hc => keep _ _ (by simp) (h.1 c hc), fun i hi => ⟨keep _ _ (by simp) (h.2 i hi).1, keep _ _ (by simp) (h.2 i hi).2⟩⟩
theorem grown_of_below {W W' : World} (hb : Below W.heap.size W W') : W.grownBy W' none := ⟨hb.os, hb.tape, hb.output, hb.size, fun k hk _ => hb.block k hk⟩
theorem Tryd.info21 : (Tryd.prog.info? 21).map (fun i => (i.zero, i.size, i.bytes)) = some (some (.int .i32 0), 1, 4) := by kernel_rfl
/-- A slice of code points of the call's own. -/
def Runes (B : Nat) (W : World) (v : Value) (zs : List Int) : Prop := W.ownsRow B 21 1 v zs.length (zs.map (Value.int .i32))
theorem Runes.below {B : Nat} {W W' : World} {v : Value} {zs : List Int} (h : Runes B W v zs) (hb : Below W.heap.size W W') : Runes B W' v zs := World.ownsRow.kept h (grown_of_below hb) (by cases v.ownBlock <;> simp)
theorem Runes.put {B : Nat} {W : World} {v : Value} {zs : List Int} (h : Runes B W v zs) {l : Nat} {o : Obj} (o' : Obj) (hl : W.heap[l]? = some o) (ho : o.isCells = false) : Runes B (W.putObj l o') v zs := ownsRow_putObj h o' hl ho
theorem Runes.setBox {B : Nat} {W : World} {v : Value} {zs : List Int} (h : Runes B W v zs) {Bs : Nat} {t : TypeId} {u : Value} (hb : Boxed W Bs t u) (ht : t ≠ 21) (u' : Value) : Runes B (W.setCell ⟨Bs, 0, none⟩ u') v zs :=
  World.ownsRow.kept h (grownBy_setCell' W Bs u') (.inr (hb.not_row ht h).symm)

set_option maxRecDepth 100000 in
set_option maxHeartbeats 2000000 in
theorem decode_any (s : ByteArray) (hs : s.size ≤ 140737488) (w : World) (hT : Tabs w) :
    Calls Tryd.prog 12 #[.string s] w fun e w' => ∃ v, e = .returned v ∧ Runes w.heap.size w' v (decL s.data.toList) ∧ Below w.heap.size w w' := by
  refine (callsIn_wide (n := 6)).1 ?_
  obtain ⟨i0, hi, hz0, hz1, hz2⟩ := info_parts Tryd.info21
  refine callsIn_of_wp_marks Tryd.func12 rfl trivial ?_ rfl
  simp only [Tryd.ntmps12, List.size_toArray, List.length_cons, List.length_nil, Nat.reduceAdd, Nat.reduceSub, Array.replicate_succ, Array.replicate_zero, List.push_toArray, List.append_toArray, List.nil_append, List.cons_append]
  gi_wp2_with (refine ⟨trivial, ?_⟩; gi_at_call 23; refine (callsIn_wide.2 (all_any s _)).mono ?_; rintro e w' ⟨rfl, rfl⟩)
  have bR := Boxed.new w 22 (.slice none 0 0)
  have bS := Boxed.new (w.alloc (.cells #[.slice none 0 0] 22)) 9 (.string s)
  rw [World.size_alloc] at bS
  have hB0 : Below w.heap.size w ((w.alloc (.cells #[.slice none 0 0] 22)).alloc (.cells #[.string s] 9)) := ((Below.refl _ w).alloc (Nat.le_refl _) _).alloc (by simp) _
  have hlt := hT.lt
  obtain ⟨W0, hW0⟩ : ∃ W0, (w.alloc (.cells #[.slice none 0 0] 22)).alloc (.cells #[.string s] 9) = W0 := ⟨_, rfl⟩
  have hsz0 : W0.heap.size = w.heap.size + 2 := by rw [← hW0]; simp
  have bR0 : Boxed W0 w.heap.size 22 (.slice none 0 0) := by rw [← hW0]; exact bR.alloc _
  rw [hW0] at bS hB0 ⊢
  clear hW0 bR
  refine wpIn_range_iter rfl (by omega) (gf := 30) (lb := #[.pointer (some ⟨w.heap.size + 1, 0, none⟩)]) rfl trivial (enters_of Tryd.func30 (by kernel_rfl) rfl)
    (all1_iter 5 (by omega) (w.heap.size + 1)) (fun _ => rfl)
    (fun r W l o o' hw hl ho => heap_other_put ⟨_, hw.1⟩ hl ho)
    (fun r W l o hl ho => by
      unfold advS World.setCell
      simp only [Array.getElem?_modify, hl]
      split
      · cases o <;> first | rfl | cases ho
      · rfl)
    (fun r W l o o' hw _ hl ho => ⟨Boxed.put hw.1 o' hl ho, hw.2.1.put o' hl ho, hw.2.2⟩)
    (fun r W => ∃ v acc, (ownS (w.heap.size + 1) r W ∧ Boxed W w.heap.size 22 v ∧ Runes w.heap.size W v acc ∧ Below w.heap.size w W) ∧ decL s.data.toList = acc ++ decL r.data.toList ∧ acc.length + r.size ≤ s.size)
    (fun _ _ _ => False)
    (fun r W ⟨_, _, h⟩ => h.1.1)
    (fun r W W' ⟨v, acc, ⟨⟨h1, h2, h3⟩, h4, h5, h6⟩, h7⟩ hb => ⟨v, acc, ⟨⟨Boxed.below h1 hb, h2.below hb, h3⟩, Boxed.below h4 hb, h5.below hb, h6.trans (hb.mono h6.size)⟩, h7⟩)
    (fun r W l o o' ⟨v, acc, ⟨⟨h1, h2, h3⟩, h4, h5, h6⟩, h7⟩ hle hl ho => ⟨v, acc, ⟨⟨Boxed.put h1 o' hl ho, h2.put o' hl ho, h3⟩, Boxed.put h4 o' hl ho, h5.put o' hl ho, below_put h6 (by omega) hl o'⟩, h7⟩)
    (fun c r W l o o' h hle hl ho => h)
    s ⟨_, [], ⟨⟨bS, hT.below hB0, by omega, by omega⟩, bR0, World.ownsRow_nil _ _ _ _, hB0⟩, rfl, by simp⟩
    (fun r => { tmps := #[.string s, undef, .slice none 0 0, .pointer (some ⟨w.heap.size, 0, none⟩), .int .i32 (nx r.data.toList).1, .string s, .func (.func 30) #[] #[.pointer (some ⟨w.heap.size + 1, 0, none⟩)], .int .i32 (nx r.data.toList).1, .bool (nx r.data.toList).2.2, undef, undef, undef, undef, undef], defers := [] }) ?assign ?body ?done ?stop
  case assign =>
    intro l r W K hK
    gi_wp2
    exact hK
  case body =>
    rintro l r W ⟨v, acc, ⟨⟨h1, h2, h3, h4⟩, hv, hrow, hB⟩, hd, hlen⟩ hnf
    have hc := hv.cell
    have hcons := decL_cons (ne_nil_of_pos (s := r) (by omega))
    have HV := Lib.hid hd
    have HC := Lib.hid hcons
    clear hd hcons
    have hnx := (nx_le (ne_nil_of_pos (s := r) (by omega))).1
    have hle : w.heap.size ≤ W.heap.size := hB.size
    gi_wp2_with (gi_at_builtin; refine wpListIn_append_own _ rfl _ _ 22 rfl w.heap.size 21 i0 (.int .i32 0) 1 4 Tryd.underlying22 hi hz0 hz1 hz2 rfl (by decide) _ _ _ rfl (World.ownsRow.alloc hrow _) ⟨W.heap.size, 0, none⟩ 1 1 [.int .i32 (nx r.data.toList).1] rfl rfl (cell_one_new _ _ _) (by simp [Value.oneCell']) (by unfold maxLen; omega) (by omega) (by simp; omega) ?_; intro v' w1 hown' hgrow _; obtain ⟨g', cap', rfl⟩ := ownsRow_succ hown'; obtain ⟨hv1, hv2, hr2, hk2, hb2⟩ := hv.appended (by decide) hrow hB.size (Nat.le_refl _) hown' hgrow; have hc1 := hv1.cell; have hf1 := hv1.frozen)
    have hbs : Boxed (w1.setCell ⟨w.heap.size, 0, none⟩ (.slice (some ⟨g', 0, none⟩) (acc.length + 1) cap')) (w.heap.size + 1) 9 (.string r) := by
      refine Boxed.other ?_ (by simp) _
      exact (h1.alloc _).kept hgrow (h1.not_row (by decide) hrow)
    have hcs : (cut r).size + 1 ≤ r.size := by
      have := cut_list r
      have e := congrArg List.length this
      rw [List.length_drop, length_toList, length_toList] at e
      omega
    have hrun : Runes w.heap.size (w1.setCell ⟨w.heap.size, 0, none⟩ (.slice (some ⟨g', 0, none⟩) (acc.length + 1) cap')) (.slice (some ⟨g', 0, none⟩) (acc.length + 1) cap') (acc ++ [(nx r.data.toList).1]) := by
      unfold Runes
      simpa using hr2
    refine ⟨hk2.from _, ⟨hbs, h2.belowB hb2 hlt, h3, h4⟩, _, acc ++ [(nx r.data.toList).1], ⟨⟨hbs.set _, (h2.belowB hb2 hlt).set (a := ⟨w.heap.size + 1, 0, none⟩) h4 _, by omega, h4⟩, Boxed.other hv2 (by simp) _, hrun.setBox hbs (by decide) _, (hB.trans hb2).setCell (p := ⟨w.heap.size + 1, 0, none⟩) (by simp) _⟩, ?_, ?_⟩
    · rw [HV.out, HC.out, cut_list]
      simp
    · simp only [List.length_append, List.length_cons, List.length_nil]
      omega
  case done =>
    rintro D r W hD hfin ⟨v, acc, ⟨⟨h1, h2, h3, h4⟩, hv, hrow, hB⟩, hd, hlen⟩ hK
    have hc := hv.cell
    rw [nil_of_size hfin, decL_nil, List.append_nil] at hd
    have HV := Lib.hid hd
    clear hd hfin
    gi_wp2
    refine ⟨by simp, .inl ⟨_, _, rfl, run_takeDeferred hK, ?_⟩⟩
    exact ⟨_, results_tmp rfl _ _ _, v, rfl, by rw [HV.out]; exact hrow.put _ hK rfl, below_put hB (by omega) hK _⟩
  case stop =>
    rintro D c r W hD h _
    exact h.elim
end Go.Proofs.YtlkphbcdgkjnoaaDoor
