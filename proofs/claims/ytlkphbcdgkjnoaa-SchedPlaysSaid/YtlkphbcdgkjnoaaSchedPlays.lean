/-
  SchedPlays returns true at every input and leaves its arguments as they were. No condition.
  The shell is turned from the kit's own print for a function of this seat with integer slices; the slice of structs is opened by the block of 'extra-structs.md', section 1; the walk is this claim's.
-/
import Derived.Test.YtlkphbcdgkjnoaaL9
import Derived.WalkKit
import Derived.ProofKit
import Derived.OpenShut
import Derived.ShutString
import Derived.ChangeOld
import Derived.ChangeSame
import Derived.Below
import Derived.Deep.Slices
import Derived.Deep.Fields
namespace Go.Proofs.Ytlkphbcdgkjnoaa.schedPlays
open Go.ChangeShapes Go.WideShapes Go.ChangeAt Go.RowKit Go.Deep
set_option linter.unusedVariables false

theorem own : ownKnob Try.prog.godebug = none := by kernel_rfl
theorem laidOut : laidOutB Try.prog = true := by kernel_rfl


section
variable {H : Type} {enc : TypeId × Value → H} {P : Program} {w : World} {base : Nat} {spare : Nat → Bool} {held : Bool}
theorem open_slice_fields {t e : TypeId} {fs : Array Field} {fuel : Nat} {cs : List Value} {x : DataW H × List MemPlace} (ht : P.underlying t = some (.slice e)) (he : P.underlying e = some (.struct fs))
    (hone : oneCellFields P fs = true) (hC : P.cellsOf e = fs.size) (h : DataW.trod enc P w base spare held fuel t cs = some x) :
    (cs = [.slice none 0 0] ∧ x = (.nil, [])) ∨
    ∃ (a : Addr) (len cap m : Nat) (D : Nat → DataW H) (Pl : Nat → List MemPlace), cs = [.slice (some a) len cap] ∧ base ≤ a.block ∧ len ≤ cap ∧ cap ≤ maxLen ∧ m = (if spare a.block then cap else len) ∧
      x = (.slice ((List.range len).map D) ((List.range (m - len)).map fun j => D (len + j)), MemPlace.row a (m * fs.size) ++ (List.range m).flatMap Pl) ∧
      ∀ i, i < m → ∃ (ys : List (DataW H × List MemPlace)) (n : Nat), D i = .agg (ys.map (·.1)) ∧ Pl i = ys.flatMap (·.2) ∧ ys.length = fs.size ∧
        ∀ (j : Nat) (f : Field), fs[j]? = some f → ∃ (v : Value) (y : DataW H × List MemPlace), w.cell? (a.add (i * fs.size + j)) = some v ∧ ys[j]? = some y ∧ DataW.trod enc P w base spare held n f.type [v] = some y := by
  rcases open_slice ht h with h0 | ⟨a, len, cap, m, n, D, Pl, hcs, hb, hl, hm, hmm, hx, hi⟩
  · exact .inl h0
  · refine .inr ⟨a, len, cap, m, D, Pl, hcs, hb, hl, hm, hmm, by rw [hC] at hx; exact hx, fun i him => ?_⟩
    obtain ⟨cs', hc, ht'⟩ := hi i him
    rw [hC] at hc
    obtain ⟨ys, n', hn', hy, hlen, hyl, hf⟩ := DataW.trod_struct he ht'
    obtain ⟨_, hcl, hat⟩ := World.cells?_some hc
    simp only [Prod.mk.injEq] at hy
    refine ⟨ys, n', hy.1, hy.2, hyl, fun j f hj => ?_⟩
    obtain ⟨ho, hk⟩ := hone_of hone j f hj
    have hjl : j < fs.size := (Array.getElem?_eq_some_iff.1 hj).1
    have hcell := hat j hjl
    have hv : cs'[j]? = some (cs'[j]'(by omega)) := List.getElem?_eq_getElem (by omega)
    have h1 := hf j f hj
    rw [ho, hk] at h1
    have hone' : (cs'.drop j).take 1 = [cs'[j]'(by omega)] := by
      rw [List.drop_eq_getElem_cons (by omega)]
      rfl
    rw [hone'] at h1
    have hys : ys[j]? = some (ys[j]'(by omega)) := List.getElem?_eq_getElem (by omega)
    refine ⟨_, _, ?_, hys, h1.trans hys⟩
    rw [← Go.Deep.add_add, hcell, hv]
end

theorem wf64_inv {z : Int} (h : (Lit.int .u64 z).wf = true) : 0 ≤ z ∧ z < 18446744073709551616 := by
  simp [Lit.wf, IntKind.min, IntKind.max, IntKind.signed, IntKind.bits] at h
  omega
theorem wfi_inv {z : Int} (h : (Lit.int .i64 z).wf = true) : -9223372036854775808 ≤ z ∧ z ≤ 9223372036854775807 := by
  simp [Lit.wf, IntKind.min, IntKind.max, IntKind.signed, IntKind.bits] at h
  omega

/-- What the walk is told of a slice of calls that came in. -/
def IsSteps (w : World) (a : Option Addr) (len : Nat) : Prop := len ≤ 9223372036854775807 ∧ ∃ xs : List Stp, xs.length = len ∧ ReadsS w w.heap.size a xs

theorem steps_of {w : World} {a : Addr} {len : Nat} (hl : len ≤ 9223372036854775807)
    (h : ∀ i, i < len → ∃ d id n : Int, w.cell? (a.add (i * 3 + 0)) = some (.int .i64 d) ∧ w.cell? (a.add (i * 3 + 1)) = some (.int .u64 id) ∧ w.cell? (a.add (i * 3 + 2)) = some (.int .u64 n) ∧ (Lit.int .u64 id).wf = true ∧ (Lit.int .u64 n).wf = true) :
    IsSteps w (some a) len := by
  refine ⟨hl, ?_⟩
  have hx : ∀ i, ∃ x : Stp, i < len → w.cell? (a.add (i * 3 + 0)) = some (.int .i64 x.d) ∧ w.cell? (a.add (i * 3 + 1)) = some (.int .u64 x.id) ∧ w.cell? (a.add (i * 3 + 2)) = some (.int .u64 x.n) ∧ (Lit.int .u64 x.id).wf = true ∧ (Lit.int .u64 x.n).wf = true := fun i => by
    by_cases hi : i < len
    · obtain ⟨d, id, n, hh⟩ := h i hi
      exact ⟨⟨d, id, n⟩, fun _ => hh⟩
    · exact ⟨⟨0, 0, 0⟩, fun x => absurd x hi⟩
  obtain ⟨f, hf⟩ : ∃ f : Nat → Stp, ∀ i, i < len → w.cell? (a.add (i * 3 + 0)) = some (.int .i64 (f i).d) ∧ w.cell? (a.add (i * 3 + 1)) = some (.int .u64 (f i).id) ∧ w.cell? (a.add (i * 3 + 2)) = some (.int .u64 (f i).n) ∧ (Lit.int .u64 (f i).id).wf = true ∧ (Lit.int .u64 (f i).n).wf = true := ⟨fun i => Classical.choose (hx i), fun i => Classical.choose_spec (hx i)⟩
  refine ⟨(List.range len).map f, by simp, fun k x hk => ?_⟩
  have hlt : k < len := by
    have := (List.getElem?_eq_some_iff.1 hk).1
    simpa using this
  obtain rfl : f k = x := by simpa [hlt] using hk
  obtain ⟨c0, c1, c2, w1, w2⟩ := hf k hlt
  obtain ⟨b, o, sp⟩ := a
  obtain rfl : sp = none := by
    have hz := (hf 0 (by omega)).1
    rcases sp with _ | sp
    · rfl
    · exfalso
      unfold World.cell? at hz
      simp [Addr.add] at hz
      split at hz <;> cases hz
  have hb := World.block_lt_of_cell? w _ c1
  have ea : ∀ j, (⟨b, o, none⟩ : Addr).add j = ⟨b, o + j, none⟩ := fun j => by
    unfold Addr.add
    split
    · rename_i e; subst e; rfl
    · rfl
  rw [ea] at c0 c1 c2 hb
  have := wf64_inv w2
  exact ⟨b, o, rfl, hb, ⟨c0, c1, c2⟩, w1, this.1, this.2⟩

theorem walk (p : Int) (a : Option Addr) (len cap : Nat) (w : World) (w0 : (Lit.int .i64 p).wf = true) (w1 : IsSteps w a len) :
    Calls Try.prog 5 #[.int .i64 p, .slice a len cap] w fun e w' => e = .returned (.bool true) ∧ Below w.heap.size w w' := by
  obtain ⟨hl, xs, rfl, hr⟩ := w1
  have hp := wfi_inv w0
  exact plays_any p hp.1 hp.2 a cap xs hl w hr

set_option maxRecDepth 100000 in
theorem lifted (os : Os) (started : os.Started) (H : Type) (enc : TypeId × Value → H) :
    ReturnsInHanded {} Try.checked os 5 .any (Rows.schedPlaysSpec.pre6 enc Try.prog Try.f5 Rows.schedPlaysRow.domain false) (Rows.schedPlaysSpec.post enc Try.prog Try.f5 false true false false) := by
  refine returnsInHanded_of_change (C := Try.checked) own started (by kernel_rfl) Try.func5
    (ChangeSpec.witness6 (enc := enc) (C := Try.checked) false ⟨#[], #[.int .i64 0, .slice none 0 0], []⟩ 8 (by kernel_rfl) (by kernel_rfl) (by kernel_rfl) (by kernel_rfl)) ?_
  intro W base args ds gs before hval0 hW hcnd _
  have hval : ∀ (j : Nat) t v, Try.f5.params[j]? = some t → args[j]? = some v → Value.okWide Try.prog W .any base t v := hval0
  have hW' := hW
  obtain ⟨p, q, hA0, hV, rfl, hfz, hnd⟩ := hW
  have hA : DataW.TrodAll enc Try.prog W 0 (fun _ => true) true Try.f5.params.toList args.toList ds p := hA0
  rw [Try.params5] at hA hval
  obtain ⟨v0, vs0, d0, ds0, p0, q0, hargs, rfl, rfl, h0, r0⟩ := trodAll_cons hA
  obtain ⟨v1, vs1, d1, ds1, p1, q1, rfl, rfl, rfl, h1, r1⟩ := trodAll_cons r0
  obtain ⟨rfl, rfl, rfl⟩ := trodAll_nil r1
  obtain rfl : args = #[v0, v1] := by cases args; simp_all
  obtain ⟨rfl, rfl⟩ := trodVars_none hV
  obtain ⟨a0, rfl, rfl, rfl, w0⟩ := open_int Try.underlying3 (hval 0 3 v0 rfl rfl) h0
  obtain ⟨a1, len1, cap1, rfl⟩ := okWide_slice Try.underlying39 (hval 1 39 v1 rfl rfl)
  have k1 := h1
  have lt1 : ∀ x ∈ p1, x.block < W.heap.size := by obtain ⟨m, hm⟩ := k1; exact DataW.trod_lt m _ _ _ hm
  have w1 : IsSteps W a1 len1 := by
    obtain ⟨fuel, hf⟩ := h1
    rcases open_slice_fields Try.underlying39 Try.underlying45 (by kernel_rfl) (by kernel_rfl) hf with ⟨hcs, _⟩ | ⟨x, l, c, m, D, Pl, hcs, _, hl, hm, hmm, _, hi⟩
    · simp [Value.cells] at hcs
      obtain ⟨rfl, rfl, rfl⟩ := hcs
      exact ⟨by omega, [], rfl, fun k z h => by simp at h⟩
    · simp [Value.cells] at hcs
      obtain ⟨rfl, rfl, rfl⟩ := hcs
      refine steps_of (by unfold maxLen at hm; omega) (fun i hil => ?_)
      obtain ⟨ys, n, _, _, _, hf⟩ := hi i (by split at hmm <;> omega)
      obtain ⟨v, y, hc0, _, ht0⟩ := hf 0 _ rfl
      obtain ⟨d, hd, _, wd⟩ := DataW.trod_int Try.underlying3 ht0
      obtain rfl : v = .int .i64 d := by simpa using hd
      obtain ⟨v, y, hc1, _, ht1⟩ := hf 1 _ rfl
      obtain ⟨id, hid, _, wid⟩ := DataW.trod_int Try.underlying29 ht1
      obtain rfl : v = .int .u64 id := by simpa using hid
      obtain ⟨v, y, hc2, _, ht2⟩ := hf 2 _ rfl
      obtain ⟨n, hn, _, wn⟩ := DataW.trod_int Try.underlying29 ht2
      obtain rfl : v = .int .u64 n := by simpa using hn
      exact ⟨d, id, n, hc0, hc1, hc2, wid, wn⟩
  clear hA0 hval0
  refine (walk a0 a1 len1 cap1 W w0 w1).mono fun e W' ⟨he, bel⟩ => ?_
  subst he
  exact ⟨_, rfl, _, _, _, [], _, [], hW', trodAll_mk1 (shut_bool Try.underlying4 _), (trodAll_cons_mk (shut_int Try.underlying3 w0) (trodAll_cons_mk (Below.trod laidOut (by kernel_rfl) (of_decide_eq_true (by kernel_rfl)) k1 bel lt1) trodAll_mk0)), rfl, bel.frame _, fun h => by cases h⟩

theorem over : Rows.schedPlaysRow.holds Try.pinned (OpenSpec.ofChange Rows.schedPlaysSpec) :=
  OpenClaim.holds_of_wide 5 Try.f5 rfl rfl rfl rfl rfl rfl rfl ⟨rfl, rfl, rfl, rfl, rfl⟩ rfl rfl rfl rfl rfl (by kernel_rfl) Try.func5 (by kernel_rfl)
    (of_decide_eq_true (by kernel_rfl)) (by unfold Func.isWrapper; first | (rw [if_pos (by decide +kernel)]; kernel_rfl) | (rw [if_neg (by decide +kernel)]; exact ⟨rfl, rfl⟩))
    (fun os started H enc _ => lifted os started H enc)

theorem proved : Rows.SchedPlaysSaid := over
#print axioms proved
end Go.Proofs.Ytlkphbcdgkjnoaa.schedPlays
