/- The law UtfWrites returns true. Conditions: the tables lie as laid; the slice is within the reach. -/
import Derived.Test.YtlkphbcdgkjnoaaDoorB2
import Derived.Maps.AppendAt
namespace Go.Proofs.YtlkphbcdgkjnoaaDoor
open Go.RowKit Go.Shelf

/-- append of a slice of code points onto one of the call's own (or nil): a longer one of the call's own. -/
theorem append_runes {B : Nat} {w : World} {v : Value} {xs zs : List Int} (hown : Runes B w v xs) (A : Option Addr) (cap : Nat) (hr : ReadsI w w.heap.size A zs) (hlen : xs.length + zs.length ≤ 1000000) (hB : B ≤ w.heap.size) (ty : TypeId) :
    ∃ v' w', (Builtin.append_ #[22, 22] ty #[v, .slice A zs.length cap]).run Tryd.prog w = .ok v' w' ∧ Runes B w' v' (xs ++ zs) ∧ Below B w w' := by
  obtain ⟨i0, hi, hz0, hz1, hz2⟩ := info_parts Tryd.info21
  cases A with
  | none =>
    have hnil : zs = [] := by
      cases zs with
      | nil => rfl
      | cons z zs => obtain ⟨ad, h, _⟩ := hr 0 z rfl; cases h
    subst hnil
    refine ⟨v, w, ?_, by simpa using hown, Below.refl _ _⟩
    rcases hown.2 with ⟨rfl, h0⟩ | ⟨g, c, cur, rfl, _, _, hnc, _⟩
    · simp [Builtin.append_, run_underlying Tryd.underlying22, sizeOf, typeInfo, hi, Builtin.lenOf, Builtin.firstCells]
    · simp [Builtin.append_, run_underlying Tryd.underlying22, sizeOf, typeInfo, hi, Builtin.lenOf, Builtin.firstCells, hnc, storeCells]
  | some ad =>
    have hcells : ∀ j u, (zs.map (Value.int .i32))[j]? = some u → w.cell? (ad.add j) = some u := by
      intro j u hu
      simp only [List.getElem?_map, Option.map_eq_some_iff] at hu
      obtain ⟨z, hz, rfl⟩ := hu
      obtain ⟨ad', e, _, hc⟩ := hr j z hz
      cases e
      exact hc
    obtain ⟨v', w', hrun, h2, h3, _, h5⟩ := run_append_own_at (P := Tryd.prog) w B 22 ty 21 i0 (.int .i32 0) 1 4 Tryd.underlying22 hi hz0 hz1 hz2 rfl (by decide) v xs.length _ hown ad zs.length cap (zs.map (Value.int .i32)) (by simp) hcells (by intro u hu; simp at hu; obtain ⟨z, _, rfl⟩ := hu; rfl) (by unfold maxLen; omega) (by omega) hB
    refine ⟨v', w', hrun, ?_, (Below.refl B w).grown h3 hB (fun k hk => (World.ownsRow.lt hown k hk).1)⟩
    unfold Runes
    rw [List.map_append, List.length_append]
    exact h2

/-- The walk over a built-in append whose run is known. -/
theorem wpList_append_run {P : Program} {ops : Array Oper} {rest : List Oper} {o : Oper} {a : Act} {Q : Exit → Act → World → Prop} {w : World} (hgd : o.guard = none) (s x : Operand) (t : TypeId)
    (ho : o.op = .call { callee := .builtin .append, args := #[s, x], argTypes := #[t, t] }) (v u : Value) (hs : a.eval s = v) (hx : a.eval x = u) {v' : Value} {w' : World}
    (hrun : (Builtin.append_ #[t, t] o.type #[v, u]).run P w = .ok v' w') (h : wpList P ops Q rest (a.put o.dst v') w') : wpList P ops Q (o :: rest) a w :=
  wpList_plain hgd fun K hK => by
    unfold Oper.wp execOp
    simp only [ho, resolve, invoke, builtin, Sem.run_bind, Sem.run_pure, Result.andThen_ok, List.map_toArray, List.map_cons, List.map_nil, hs, hx, hrun]
    exact hK _ _ h
theorem Runes.nil (B : Nat) (w : World) : Runes B w (.slice none 0 0) [] := World.ownsRow_nil w B 21 1

set_option maxRecDepth 100000 in
set_option maxHeartbeats 1000000 in
theorem writes_any (A : Option Addr) (cap : Nat) (zs : List Int) (hlen : zs.length ≤ 9223372036854775807) (w : World) (hT : Tabs w) (hr : ReadsI w w.heap.size A zs) :
    Calls Tryd.prog 3 #[.slice A zs.length cap] w fun e w' => e = .returned (.bool true) ∧ Below w.heap.size w w' := by
  by_cases hl : 8192 < zs.length
  · go_enter Tryd.func3, Tryd.ntmps3
    go_wp2_with (go_at_call 8; refine (works_any w hT).mono ?_; rintro e w1 ⟨rfl, hB1⟩)
    go_ret
    exact ⟨rfl, hB1⟩
  · obtain ⟨v, w1, hrun, hown, hB1⟩ := append_runes (Runes.nil w.heap.size w) A cap hr (by simp; omega) (Nat.le_refl _) 22
    rw [List.nil_append] at hown
    obtain ⟨A1, cap1, rfl, _, hr1⟩ := hown.form
    have hT1 := hT.below hB1
    have hl' : zs.length ≤ 140737488 := by omega
    have he : encE zs = (if allValid zs then 0 else 2) := rfl
    obtain ⟨S, hS⟩ : ∃ S, encS zs = S := ⟨_, rfl⟩
    have c9 := encode_any A1 cap1 zs hl' w1 hr1
    have c10 := fun w2 (h : ReadsI w2 w2.heap.size A zs) => refEncode_any A cap zs hl' w2 h
    rw [hS] at c9 c10
    cases hv : allValid zs
    all_goals
      rw [hv] at c10 he
      simp only [if_true, if_false, Bool.false_eq_true] at he
      rw [he] at c9
      have C9 := Lib.hid c9
      have C10 := Lib.hid c10
      have HR := Lib.hid hrun
      clear c9 c10 he hv hS hown hrun
      go_enter Tryd.func3, Tryd.ntmps3
      go_wp2_with (first
        | (at_builtin; refine wpList_append_run rfl _ _ 22 rfl _ _ rfl rfl HR.out ?_)
        | (go_at_call 9; refine C9.out.mono ?_; rintro e w2 ⟨rfl, hB2⟩; have hB12 := hB1.trans (hB2.mono hB1.size))
        | (go_at_call 10; refine (C10.out w2 ((hr.below hB12).mono hB12.size)).mono ?_; rintro e w3 ⟨rfl, hB3⟩; have hB13 := hB12.trans (hB3.mono hB12.size))
        | (go_at_call 8; refine (works_any w3 (hT.below hB13)).mono ?_; rintro e w4 ⟨rfl, hB4⟩))
      go_ret
      exact ⟨rfl, hB13.trans (hB4.mono hB13.size)⟩
end Go.Proofs.YtlkphbcdgkjnoaaDoor
