/- All: what the call returns; the rows of numbers that calls hand back. -/
import Derived.Test.YtlkphbcdgkjnoaaF4
namespace Go.Proofs.Ytlkphbcdgkjnoaa
open Go.RowKit Go.Maps

/-- A row of numbers in a block of its own. -/
def CellsU (B : Nat) (w : World) (A : Option Addr) (xs : List Int) : Prop := ∀ k z, xs[k]? = some z → ∃ g, A = some ⟨g, 0, none⟩ ∧ B ≤ g ∧ w.cell? ⟨g, k, none⟩ = some (.int .u64 z)
theorem CellsU.of_row {B : Nat} {w : World} {A : Option Addr} {cap : Nat} {xs : List Int} (h : w.ownsRow B 29 1 (.slice A xs.length cap) xs.length (xs.map (.int .u64 ·))) : CellsU B w A xs := fun k z hz => by
  obtain ⟨_, _, _, f4⟩ := row_facts h
  obtain ⟨g, e, hc⟩ := f4 k (.int .u64 z) (by rw [List.getElem?_map, hz]; rfl)
  subst e
  exact ⟨g, rfl, (World.ownsRow.lt h g rfl).1, hc⟩
theorem CellsU.fr {B : Nat} {O : Nat → Prop} {w w' : World} {A : Option Addr} {xs : List Int} (h : CellsU B w A xs) (f : Fr O w w') (hO : ∀ k, B ≤ k → k < w.heap.size → ¬ O k) : CellsU B w' A xs := fun k z hz => by
  obtain ⟨g, e, hb, hc⟩ := h k z hz
  have hlt := World.block_lt_of_cell? w _ hc
  exact ⟨g, e, hb, (World.cell?_of_block (f.block g hlt (hO g hb hlt))).trans hc⟩
theorem CellsU.below {B : Nat} {w w' : World} {A : Option Addr} {xs : List Int} (h : CellsU B w A xs) (hb : Below w.heap.size w w') : CellsU B w' A xs := h.fr (Fr.of_below hb (fun _ => False)) (fun _ _ _ x => x)
theorem Mem.below {B : Nat} {W W' : World} {s mb n : Nat} {va vt : Value} {st : St} (h : Mem B W s va mb vt n st) (hb : Below W.heap.size W W') : Mem B W' s va mb vt n st := h.same (fun k hk => hb.block k (h.own_lt hk).2)

def tids (l : List T) : List Int := l.map T.id
theorem tids_len (l : List T) : (tids l).length = l.length := by simp [tids]
theorem tids_snoc {l : List T} {j : Nat} {t : T} (ht : l[j]? = some t) : tids (l.take (j + 1)) = tids (l.take j) ++ [t.id] := by
  obtain ⟨hl, e⟩ := List.getElem?_eq_some_iff.1 ht
  rw [List.take_succ_eq_append_getElem hl, e]
  simp [tids]
set_option maxRecDepth 100000 in
set_option maxHeartbeats 1000000 in
theorem all_full {B : Nat} {w : World} {s mb n : Nat} {va vt : Value} {st : St} (h : Mem B w s va mb vt n st) (hlen : st.l.length ≤ 100000) :
    Calls Try.prog 23 #[ptr s] w fun e w' => ∃ A, e = .returned (.slice A st.l.length st.l.length) ∧ CellsU w.heap.size w' A (tids st.l) ∧ Below w.heap.size w w' := by
  have hN := none_any h.str
  obtain ⟨A, cap, rfl⟩ := row_form h.all
  obtain ⟨c0, c1, c2, c3, c4, c5⟩ := h.str.six
  obtain ⟨i0, hi, hy0, hy1, hy2⟩ := info_parts Try.inf29
  go_enter Try.func23, Try.ntmps23
  go_wp2_with (go_at_call 24; refine hN.mono ?_; rintro e w3 ⟨rfl, rfl⟩)
  go_loopw [3, 13] (fun lv i wr => ∃ j : Nat, j ≤ st.l.length ∧ i = .int .i64 j ∧ wr.ownsRow w.heap.size 29 1 lv (tids (st.l.take j)).length ((tids (st.l.take j)).map (.int .u64 ·)) ∧ Below w.heap.size w wr) (fun _ i _ => st.l.length - (intOf i).toNat)
  case atStart => exact ⟨0, Nat.zero_le _, rfl, World.ownsRow_nil _ _ _ _, Below.refl _ _⟩
  case round =>
    obtain ⟨j, hj, rfl, hO, hB⟩ := hrel
    have hM := h.below hB
    obtain ⟨Ao, co, rfl⟩ := row_form hO
    have hll : (tids (st.l.take j)).length ≤ j := by rw [tids_len]; exact List.length_take_le _ _
    by_cases hjl : j < st.l.length
    · obtain ⟨t, ht⟩ : ∃ t, st.l[j]? = some t := ⟨_, List.getElem?_eq_getElem hjl⟩
      have htm := List.mem_of_getElem? ht
      obtain ⟨f1, f2, f3, f4⟩ := row_facts hM.all
      obtain ⟨g, rfl, hcx⟩ := f4 j (ptr t.b) (by rw [List.getElem?_map, ht]; rfl)
      obtain ⟨t0, t1, t2, t3, t4, t5⟩ := (hM.tasks t htm).six
      have hsz := hB.size
      have hjl' : (j : Int) < st.l.length := by omega
      have hsn := tids_snoc ht
      have HSN := Lib.hid hsn
      have HT := Lib.hid ht
      clear f1 f2 f3 f4 ht hsn c0 c1 c2 c3 c4 c5
      go_wp2_with (at_builtin; refine wpList_append_own _ rfl _ _ 22 rfl w.heap.size 29 i0 (.int .u64 0) 1 8 Try.und22 hi hy0 hy1 hy2 rfl (by decide) _ _ _ rfl (hO.alloc _) ⟨wr.heap.size, 0, none⟩ 1 1 [.int .u64 t.id] rfl rfl (cell_one_new _ _ _) (by simp [Value.oneCell']) (by unfold maxLen; omega) (by omega) (by simp; omega) ?_)
      intro v' w2 hown' hgrow _
      have hB2 := (hB.alloc hsz (.cells #[.int .u64 t.id] 29)).grown hgrow (by simp; omega) (fun x hx => (World.ownsRow.lt hO x hx).1)
      have HO := Lib.hid hown'
      clear hown' hgrow hO hcx t0 t1 t2 t3 t4 t5
      go_wp2
      go_roundw
      case rel => exact ⟨j + 1, by omega, by go_num, by rw [HSN.out, List.length_append, List.map_append]; exact HO.out, hB2⟩
      case measure => simp [intOf]; omega
    · obtain rfl : j = st.l.length := by omega
      simp only [List.take_length, tids_len] at hO ⊢
      have hO' : wr.ownsRow w.heap.size 29 1 (.slice Ao (tids st.l).length co) (tids st.l).length ((tids st.l).map (.int .u64 ·)) := by rw [tids_len]; exact hO
      have hC := CellsU.of_row hO'
      obtain ⟨f1, f2, f3, f4⟩ := row_facts hO
      have hcl := clip_any Ao _ co f1 f2 f3
      have HC := Lib.hid hC
      clear hC hO hO' f1 f2 f3 f4 c0 c1 c2 c3 c4 c5
      go_wp2_with fail
      refine (hcl wr).mono ?_
      rintro e w9 ⟨rfl, rfl⟩
      go_wp2
      go_ret
      exact ⟨Ao, rfl, HC.out, hB⟩
end Go.Proofs.Ytlkphbcdgkjnoaa
