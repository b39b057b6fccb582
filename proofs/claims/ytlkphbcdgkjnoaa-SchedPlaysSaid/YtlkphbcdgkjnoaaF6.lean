/- Ready: what the call returns. -/
import Derived.Test.YtlkphbcdgkjnoaaF5
import Derived.Test.YtlkphbcdgkjnoaaF3
import Derived.OrdersIn
namespace Go.Proofs.Ytlkphbcdgkjnoaa
open Go.RowKit Go.Shelf Go.Maps
attribute [local go_sem] Oper.semAt_some

/-- What Ready's rounds keep. -/
structure Rd (w W : World) (s : Nat) (lv : Value) (xs : List Int) : Prop where
  bel : Below w.heap.size w W
  b0 : Boxed W w.heap.size 22 lv
  bs : Boxed W (w.heap.size + 1) 24 (ptr s)
  row : W.ownsRow w.heap.size 29 1 lv xs.length (xs.map (.int .u64 ·))
theorem Rd.size {w W : World} {s : Nat} {lv : Value} {xs : List Int} (h : Rd w W s lv xs) : w.heap.size + 1 < W.heap.size := h.bs.lt
theorem Rd.grow {w W W' : World} {s : Nat} {lv : Value} {xs : List Int} (h : Rd w W s lv xs) (hb : Below W.heap.size W W') : Rd w W' s lv xs :=
  ⟨h.bel.trans (hb.mono h.bel.size), (hb.block _ h.b0.lt).trans h.b0, (hb.block _ h.bs.lt).trans h.bs, row_same h.row (fun k hk => hb.block k (World.ownsRow.lt h.row k hk).2)⟩
theorem Rd.put {w W : World} {s : Nat} {lv : Value} {xs : List Int} (h : Rd w W s lv xs) {l : Nat} {o : Obj} (o' : Obj) (hl : W.heap[l]? = some o) (ho : o.isCells = false) (hN : w.heap.size ≤ l) : Rd w (W.putObj l o') s lv xs := by
  have bx : ∀ {B t u}, Boxed W B t u → Boxed (W.putObj l o') B t u := fun {B t u} h' => by
    refine (World.putObj_heap_other (fun e => ?_)).trans h'
    subst e
    rw [show W.heap[B]? = _ from h'] at hl
    cases hl
    cases ho
  refine ⟨h.bel.trans (below_putN W hN o'), bx h.b0, bx h.bs, row_same h.row (fun k hk => World.putObj_heap_other (fun e => ?_))⟩
  subst e
  rcases h.row.2 with ⟨e1, _⟩ | ⟨g, c, cur, e1, _, hb, _⟩
  · rw [e1] at hk; cases hk
  · rw [e1] at hk
    injection hk with hk
    subst hk
    rw [hb] at hl
    cases hl
    cases ho

/-- append whose run is known, at a step of a region that draws, inside a fence. -/
theorem stepIn_append {F : Fence} {n : Nat} {P : Program} {ops : Array Oper} {o : Oper} {a : Act} {w w' : World} {K : Act → World → Prop} {Q : Exit → Act → World → Prop} {E : Prop} (hg : o.guard = none) (s x : Operand) (t : TypeId)
    (hop : o.op = Op.call { callee := Callee.builtin Builtin.append, args := #[s, x], argTypes := #[t, t] }) (vs vx v' : Value) (hs : a.eval s = vs) (hx : a.eval x = vx) (hrun : (Builtin.append_ #[t, t] o.type #[vs, vx]).run P w = .ok v' w')
    (h : K (a.put o.dst v') w') : if Region.wanted o (yielded ops a.tmps) = true then Oper.wpIn F n P o a w K Q else E := by
  rw [if_pos (by simp [Region.wanted, hg])]
  unfold Oper.wpIn
  refine ⟨?_, ?_⟩
  · simp [Oper.about, hop, resolve, Target.leads, Sem.run_pure]
  · rw [Oper.semAt_plain F _ _ (by rw [hop]; intro c hc'; cases hc')]
    simp [execOp, hop, resolve, invoke, builtin, hs, hx, hrun, Result.andThen]
    exact h
set_option maxRecDepth 100000 in
set_option maxHeartbeats 4000000 in
theorem ready_list {B : Nat} {w : World} {s mb n : Nat} {vt : Value} {A : Option Addr} {cap : Nat} {st : St} (h : Mem B w s (.slice A st.l.length cap) mb vt n st) (hlen : st.l.length ≤ 100000) :
    Calls Try.prog 22 #[ptr s] w fun e w' => ∃ A', e = .returned (.slice A' (aw st.l).length (aw st.l).length) ∧ CellsU w.heap.size w' A' (tids (aw st.l)) ∧ Below w.heap.size w w' := by
  have hN := none_any h.str
  obtain ⟨i0, hi, hy0, hy1, hy2⟩ := info_parts Try.inf29
  refine (callsIn_wide (n := 6)).1 ?_
  refine callsIn_of_wp_marks Try.func22 rfl trivial ?_ rfl
  simp only [Try.ntmps22, List.size_toArray, List.length_cons, List.length_nil, Nat.reduceAdd, Nat.reduceSub, Array.replicate_succ, Array.replicate_zero, List.push_toArray, List.append_toArray, List.nil_append, List.cons_append]
  gi_wp2_with fail
  refine ⟨trivial, ?_⟩
  refine (callsIn_wide.2 hN).mono ?_
  rintro e w' ⟨rfl, rfl⟩
  gi_wp2_with fail
  refine ⟨trivial, ?_⟩
  refine (callsIn_wide.2 (awake_any s _)).mono ?_
  rintro e w' ⟨rfl, rfl⟩
  gi_wp2_with fail
  have rd0 : Rd w ((w.alloc (.cells #[.slice none 0 0] 22)).alloc (.cells #[ptr s] 24)) s (.slice none 0 0) [] := by
    have b0 := (Boxed.new w 22 (.slice none 0 0)).alloc (.cells #[ptr s] 24)
    have b1 := Boxed.new (w.alloc (.cells #[.slice none 0 0] 22)) 24 (ptr s)
    simp only [World.size_alloc] at b1
    exact ⟨((Below.refl w.heap.size w).alloc (Nat.le_refl _) _).alloc (by simp) _, b0, b1, World.ownsRow_nil _ _ _ _⟩
  revert rd0
  generalize (w.alloc (.cells #[.slice none 0 0] 22)).alloc (.cells #[ptr s] 24) = W0
  intro rd0
  have hsz0 := rd0.size
  refine range_awake (Bs := w.heap.size + 1) (s := s) (A := A) (cap := cap) (la := look st.l) rfl rfl
    (fun j W => ∃ lv, Rd w W s lv (tids ((aw st.l).take j)))
    (fun _ _ _ => False)
    (fun j W ⟨lv, h1⟩ => look_of (h.below h1.bel) h1.bs (by omega))
    (fun j W W' ⟨lv, h1⟩ hb => ⟨lv, h1.grow hb⟩)
    (fun j W l o o' ⟨lv, h1⟩ hle hl ho => ⟨lv, h1.put o' hl ho (by omega)⟩)
    (fun c j W l o o' h hle hl ho => h)
    ⟨_, rd0⟩ ?a1 ?assign ?body ?done ?stop
  case assign =>
    intro l b W K hK
    gi_wp2
    exact hK
  case body =>
    intro l j b W hb hI
    rw [awakes_look, List.getElem?_map, Option.map_eq_some_iff] at hb
    obtain ⟨t, ht, rfl⟩ := hb
    have htm : t ∈ st.l := (List.mem_filter.1 (List.mem_of_getElem? ht)).1
    have hjl := (List.getElem?_eq_some_iff.1 ht).1
    obtain ⟨lv, hR⟩ := hI
    obtain ⟨Ao, co, rfl⟩ := row_form hR.row
    have hM := h.below hR.bel
    obtain ⟨e0, e1, e2, e3, e4, e5⟩ := (hM.tasks t htm).six
    have c0 := hR.b0.cell
    have hll : (tids ((aw st.l).take j)).length ≤ 100000 := by
      rw [tids_len]
      have := List.length_take_le j (aw st.l)
      have := List.length_filter_le (fun t : T => !t.asleep) st.l
      have : (aw st.l).length ≤ st.l.length := this
      omega
    have hsn := tids_snoc ht
    have O1 := (World.ownsRow.drew hR.row).alloc (.cells #[.int .u64 t.id] 29)
    obtain ⟨v', w2, hrun, hown, hgrow, _, _⟩ := run_append_own_at (P := Try.prog) (W.drew.alloc (.cells #[.int .u64 t.id] 29)) w.heap.size 22 22 29 i0 (.int .u64 0) 1 8 Try.und22 hi hy0 hy1 hy2 rfl (by decide) _ _ _ O1 ⟨W.heap.size, 0, none⟩ 1 1 [.int .u64 t.id] rfl (cell_one_new W.drew _ _) (by simp [Value.oneCell']) (by unfold maxLen; omega) (by omega) (by have := hR.size; simp; omega)
    obtain ⟨g', co', rfl⟩ := ownsRow_succ hown
    have HSN := Lib.hid hsn
    have HT := Lib.hid ht
    have hne := hR.b0.not_row (by decide) hR.row
    have b2 : Boxed w2 w.heap.size 22 _ := ((show Boxed W.drew _ _ _ from hR.b0).alloc (.cells #[.int .u64 t.id] 29)).kept hgrow hne
    have s2 : Boxed w2 (w.heap.size + 1) 24 (ptr s) := ((show Boxed W.drew _ _ _ from hR.bs).alloc (.cells #[.int .u64 t.id] 29)).kept hgrow (hR.bs.not_row (by decide) hR.row)
    have x0 := b2.cell
    have xf := b2.frozen
    have y0 := (hR.b0.alloc (.cells #[.int .u64 t.id] 29)).cell
    have fin : KeepsFrom W0.heap.size W (w2.setCell ⟨w.heap.size, 0, none⟩ (.slice (some ⟨g', 0, none⟩) ((tids ((aw st.l).take j)).length + 1) co')) ∧ ∃ lv, Rd w (w2.setCell ⟨w.heap.size, 0, none⟩ (.slice (some ⟨g', 0, none⟩) ((tids ((aw st.l).take j)).length + 1) co')) s lv (tids ((aw st.l).take (j + 1))) := by
      refine ⟨((((KeepsOthers.drew W).trans (KeepsOthers.alloc _ _)).trans (KeepsOthers.of_grownBy hgrow (fun x o e hx => ?_))).trans (KeepsOthers.setCell _ _ _)).from _, ?_⟩
      · rcases O1.2 with ⟨e1, _⟩ | ⟨g, c, cur, e1, _, hb, _⟩
        · rw [e1] at e; cases e
        · rw [e1] at e
          injection e with e
          have e : g = x := e
          subst e
          rw [hb] at hx
          injection hx with hx
          subst hx
          rfl
      · have bl := ((hR.bel.trans (⟨rfl, rfl, rfl, Nat.le_refl _, fun _ _ => rfl⟩ : Below w.heap.size W W.drew)).alloc (by have := hR.size; show _ ≤ W.heap.size; omega) (.cells #[.int .u64 t.id] 29)).grown hgrow (by have := hR.size; simp; omega) (fun x hx => (World.ownsRow.lt O1 x hx).1)
        refine ⟨_, bl.setCell (p := ⟨w.heap.size, 0, none⟩) (Nat.le_refl _) _, b2.set _, box_other s2 (by omega) _, ?_⟩
        rw [hsn, List.length_append, List.map_append]
        exact hown.kept (grownBy_set w2 w.heap.size 0 _) (.inr (b2.not_row (by decide) hown).symm)
    clear hsn ht hN e1 e2 e3 e4 e5 O1 hown hgrow hR b2 s2 hne
    gi_wp2
    refine wpIn_region_any (by kernel_rfl) ?_
    change wpAnyIn _ _ _ _ _ _ _ _ _ (World.drew _)
    refine wpAnyIn_ready (rs := [0, 1]) (by kernel_rfl) (by simp) ?_
    refine AllReadyIn.cons rfl (fun K hK => ?_) ?_
    · go_simp
      refine hK _ _ ?_
      clear hK K
      refine wpAnyIn_ready (rs := [1]) (by kernel_rfl) (by simp) ?_
      refine AllReadyIn.cons rfl (fun K hK => ?_) ?_
      · go_simp
        refine hK _ _ ?_
        clear hK K
        refine wpAnyIn_ready (rs := [2]) (by kernel_rfl) (by simp) ?_
        refine AllReadyIn.cons rfl (fun K hK => ?_) ?_
        · go_simp
          refine hK _ _ ?_
          clear hK K
          refine wpAnyIn_ready (rs := [3]) (by kernel_rfl) (by simp) ?_
          refine AllReadyIn.cons rfl (fun K hK => ?_) ?_
          · go_simp
            refine hK _ _ ?_
            clear hK K
            refine wpAnyIn_ready (rs := [4]) (by kernel_rfl) (by simp) ?_
            refine AllReadyIn.cons rfl (fun K hK => ?_) ?_
            · go_simp
              refine hK _ _ ?_
              clear hK K
              refine wpAnyIn_ready (rs := [5]) (by kernel_rfl) (by simp) ?_
              refine AllReadyIn.cons rfl (fun K hK => ?_) ?_
              · go_simp
                refine hK _ _ ?_
                clear hK K
                refine wpAnyIn_ready (rs := [6]) (by kernel_rfl) (by simp) ?_
                refine AllReadyIn.cons rfl (fun K hK => ?_) ?_
                · refine stepIn_append rfl (.tmp 10) (.tmp 15) 22 rfl _ _ _ rfl rfl hrun (hK _ _ ?_)
                  clear hK K
                  refine wpAnyIn_ready (rs := [7]) (by kernel_rfl) (by simp) ?_
                  refine AllReadyIn.cons rfl (fun K hK => ?_) ?_
                  · go_simp
                    refine hK _ _ ?_
                    clear hK K
                    refine wpAnyIn_done (by kernel_rfl) ?_ _
                    gi_wp2
                    exact fin
                  exact AllReadyIn.nil
                exact AllReadyIn.nil
              exact AllReadyIn.nil
            exact AllReadyIn.nil
          exact AllReadyIn.nil
        exact AllReadyIn.nil
      exact AllReadyIn.nil
    refine AllReadyIn.cons rfl (fun K hK => ?_) ?_
    · go_simp
      refine hK _ _ ?_
      clear hK K
      refine wpAnyIn_ready (rs := [0, 2]) (by kernel_rfl) (by simp) ?_
      refine AllReadyIn.cons rfl (fun K hK => ?_) ?_
      · go_simp
        refine hK _ _ ?_
        clear hK K
        refine wpAnyIn_ready (rs := [2]) (by kernel_rfl) (by simp) ?_
        refine AllReadyIn.cons rfl (fun K hK => ?_) ?_
        · go_simp
          refine hK _ _ ?_
          clear hK K
          refine wpAnyIn_ready (rs := [3]) (by kernel_rfl) (by simp) ?_
          refine AllReadyIn.cons rfl (fun K hK => ?_) ?_
          · go_simp
            refine hK _ _ ?_
            clear hK K
            refine wpAnyIn_ready (rs := [4]) (by kernel_rfl) (by simp) ?_
            refine AllReadyIn.cons rfl (fun K hK => ?_) ?_
            · go_simp
              refine hK _ _ ?_
              clear hK K
              refine wpAnyIn_ready (rs := [5]) (by kernel_rfl) (by simp) ?_
              refine AllReadyIn.cons rfl (fun K hK => ?_) ?_
              · go_simp
                refine hK _ _ ?_
                clear hK K
                refine wpAnyIn_ready (rs := [6]) (by kernel_rfl) (by simp) ?_
                refine AllReadyIn.cons rfl (fun K hK => ?_) ?_
                · refine stepIn_append rfl (.tmp 10) (.tmp 15) 22 rfl _ _ _ rfl rfl hrun (hK _ _ ?_)
                  clear hK K
                  refine wpAnyIn_ready (rs := [7]) (by kernel_rfl) (by simp) ?_
                  refine AllReadyIn.cons rfl (fun K hK => ?_) ?_
                  · go_simp
                    refine hK _ _ ?_
                    clear hK K
                    refine wpAnyIn_done (by kernel_rfl) ?_ _
                    gi_wp2
                    exact fin
                  exact AllReadyIn.nil
                exact AllReadyIn.nil
              exact AllReadyIn.nil
            exact AllReadyIn.nil
          exact AllReadyIn.nil
        exact AllReadyIn.nil
      refine AllReadyIn.cons rfl (fun K hK => ?_) ?_
      · go_simp
        refine hK _ _ ?_
        clear hK K
        refine wpAnyIn_ready (rs := [0, 3]) (by kernel_rfl) (by simp) ?_
        refine AllReadyIn.cons rfl (fun K hK => ?_) ?_
        · go_simp
          refine hK _ _ ?_
          clear hK K
          refine wpAnyIn_ready (rs := [3]) (by kernel_rfl) (by simp) ?_
          refine AllReadyIn.cons rfl (fun K hK => ?_) ?_
          · go_simp
            refine hK _ _ ?_
            clear hK K
            refine wpAnyIn_ready (rs := [4]) (by kernel_rfl) (by simp) ?_
            refine AllReadyIn.cons rfl (fun K hK => ?_) ?_
            · go_simp
              refine hK _ _ ?_
              clear hK K
              refine wpAnyIn_ready (rs := [5]) (by kernel_rfl) (by simp) ?_
              refine AllReadyIn.cons rfl (fun K hK => ?_) ?_
              · go_simp
                refine hK _ _ ?_
                clear hK K
                refine wpAnyIn_ready (rs := [6]) (by kernel_rfl) (by simp) ?_
                refine AllReadyIn.cons rfl (fun K hK => ?_) ?_
                · refine stepIn_append rfl (.tmp 10) (.tmp 15) 22 rfl _ _ _ rfl rfl hrun (hK _ _ ?_)
                  clear hK K
                  refine wpAnyIn_ready (rs := [7]) (by kernel_rfl) (by simp) ?_
                  refine AllReadyIn.cons rfl (fun K hK => ?_) ?_
                  · go_simp
                    refine hK _ _ ?_
                    clear hK K
                    refine wpAnyIn_done (by kernel_rfl) ?_ _
                    gi_wp2
                    exact fin
                  exact AllReadyIn.nil
                exact AllReadyIn.nil
              exact AllReadyIn.nil
            exact AllReadyIn.nil
          exact AllReadyIn.nil
        refine AllReadyIn.cons rfl (fun K hK => ?_) ?_
        · go_simp
          refine hK _ _ ?_
          clear hK K
          refine wpAnyIn_ready (rs := [0, 4]) (by kernel_rfl) (by simp) ?_
          refine AllReadyIn.cons rfl (fun K hK => ?_) ?_
          · go_simp
            refine hK _ _ ?_
            clear hK K
            refine wpAnyIn_ready (rs := [4]) (by kernel_rfl) (by simp) ?_
            refine AllReadyIn.cons rfl (fun K hK => ?_) ?_
            · go_simp
              refine hK _ _ ?_
              clear hK K
              refine wpAnyIn_ready (rs := [5]) (by kernel_rfl) (by simp) ?_
              refine AllReadyIn.cons rfl (fun K hK => ?_) ?_
              · go_simp
                refine hK _ _ ?_
                clear hK K
                refine wpAnyIn_ready (rs := [6]) (by kernel_rfl) (by simp) ?_
                refine AllReadyIn.cons rfl (fun K hK => ?_) ?_
                · refine stepIn_append rfl (.tmp 10) (.tmp 15) 22 rfl _ _ _ rfl rfl hrun (hK _ _ ?_)
                  clear hK K
                  refine wpAnyIn_ready (rs := [7]) (by kernel_rfl) (by simp) ?_
                  refine AllReadyIn.cons rfl (fun K hK => ?_) ?_
                  · go_simp
                    refine hK _ _ ?_
                    clear hK K
                    refine wpAnyIn_done (by kernel_rfl) ?_ _
                    gi_wp2
                    exact fin
                  exact AllReadyIn.nil
                exact AllReadyIn.nil
              exact AllReadyIn.nil
            exact AllReadyIn.nil
          refine AllReadyIn.cons rfl (fun K hK => ?_) ?_
          · go_simp
            refine hK _ _ ?_
            clear hK K
            refine wpAnyIn_ready (rs := [0, 5]) (by kernel_rfl) (by simp) ?_
            refine AllReadyIn.cons rfl (fun K hK => ?_) ?_
            · go_simp
              refine hK _ _ ?_
              clear hK K
              refine wpAnyIn_ready (rs := [5]) (by kernel_rfl) (by simp) ?_
              refine AllReadyIn.cons rfl (fun K hK => ?_) ?_
              · go_simp
                refine hK _ _ ?_
                clear hK K
                refine wpAnyIn_ready (rs := [6]) (by kernel_rfl) (by simp) ?_
                refine AllReadyIn.cons rfl (fun K hK => ?_) ?_
                · refine stepIn_append rfl (.tmp 10) (.tmp 15) 22 rfl _ _ _ rfl rfl hrun (hK _ _ ?_)
                  clear hK K
                  refine wpAnyIn_ready (rs := [7]) (by kernel_rfl) (by simp) ?_
                  refine AllReadyIn.cons rfl (fun K hK => ?_) ?_
                  · go_simp
                    refine hK _ _ ?_
                    clear hK K
                    refine wpAnyIn_done (by kernel_rfl) ?_ _
                    gi_wp2
                    exact fin
                  exact AllReadyIn.nil
                exact AllReadyIn.nil
              exact AllReadyIn.nil
            refine AllReadyIn.cons rfl (fun K hK => ?_) ?_
            · go_simp
              refine hK _ _ ?_
              clear hK K
              refine wpAnyIn_ready (rs := [0]) (by kernel_rfl) (by simp) ?_
              refine AllReadyIn.cons rfl (fun K hK => ?_) ?_
              · go_simp
                refine hK _ _ ?_
                clear hK K
                refine wpAnyIn_ready (rs := [6]) (by kernel_rfl) (by simp) ?_
                refine AllReadyIn.cons rfl (fun K hK => ?_) ?_
                · refine stepIn_append rfl (.tmp 10) (.tmp 15) 22 rfl _ _ _ rfl rfl hrun (hK _ _ ?_)
                  clear hK K
                  refine wpAnyIn_ready (rs := [7]) (by kernel_rfl) (by simp) ?_
                  refine AllReadyIn.cons rfl (fun K hK => ?_) ?_
                  · go_simp
                    refine hK _ _ ?_
                    clear hK K
                    refine wpAnyIn_done (by kernel_rfl) ?_ _
                    gi_wp2
                    exact fin
                  exact AllReadyIn.nil
                exact AllReadyIn.nil
              exact AllReadyIn.nil
            exact AllReadyIn.nil
          exact AllReadyIn.nil
        exact AllReadyIn.nil
      exact AllReadyIn.nil
    exact AllReadyIn.nil
  case done =>
    intro D W1 hD hI hK
    rw [awakes_look, List.length_map, List.take_length] at hI
    obtain ⟨lv, hR⟩ := hI
    obtain ⟨Ao, co, rfl⟩ := row_form hR.row
    have c0 := hR.b0.cell
    obtain ⟨f1, f2, f3, f4⟩ := row_facts hR.row
    have hcl := clip_any Ao _ co f1 f2 f3
    have hsz := hR.size
    gi_wp2_with fail
    refine ⟨trivial, ?_⟩
    refine (callsIn_wide.2 (hcl _)).mono ?_
    rintro e w' ⟨rfl, rfl⟩
    gi_wp2
    refine ⟨by simp, .inl ⟨_, _, rfl, run_takeDeferred hK, ?_⟩⟩
    refine ⟨_, results_tmp rfl _ _ _, ?_⟩
    exact ⟨Ao, by simp [tids_len], CellsU.of_row (hR.put _ hK rfl (by omega)).row, hR.bel.trans (below_putN _ (by omega) _)⟩
  case stop =>
    intro D c j W hD h _
    exact h.elim
end Go.Proofs.Ytlkphbcdgkjnoaa
