/- A range over awake: one law for the caller; what Pick's boxes hold; a handler that is turned. -/
import Derived.Test.YtlkphbcdgkjnoaaM3
import Derived.Sort.QuietIn
namespace Go.Proofs.Ytlkphbcdgkjnoaa
open Go.RowKit Go.Shelf Go.Maps
attribute [local go_sem] Oper.semAt_some

/-- How the body of a round may be left: j rounds lie behind. -/
def awPost (B : Nat) (I : Nat → World → Prop) (Ix : Code → Nat → World → Prop) (j : Nat) (W : World) : Exit → Act → World → Prop
  | .normal, _, W' => KeepsFrom B W W' ∧ I (j + 1) W'
  | .ret, _, W' => KeepsFrom B W W' ∧ Ix .ret j W'
  | .exit id, _, W' => KeepsFrom B W W' ∧ Ix (.exit id) j W'
  | .goto _, _, _ => False
  | .panic _, _, _ => False
  | .outgrown, _, _ => False

theorem range_awake {g : Operand} {ps : Array Tmp} {assign body : Code} {Q : Exit → Act → World → Prop} {a : Act} {w : World} {Bs s : Nat} {A : Option Addr} {cap : Nat} {la : List (Nat × Bool)}
    (hg : a.eval g = .func (.func 42) #[] #[.pointer (some ⟨Bs, 0, none⟩)]) (hps : ps.size = 1)
    (I : Nat → World → Prop) (Ix : Code → Nat → World → Prop)
    (hIo : ∀ j W, I j W → Look Bs s A cap la W)
    (hIg : ∀ j (W W' : World), I j W → Below W.heap.size W W' → I j W')
    (hIp : ∀ j (W : World) (l : Nat) (o o' : Obj), I j W → w.heap.size ≤ l → W.heap[l]? = some o → o.isCells = false → I j (W.putObj l o'))
    (hXp : ∀ c j (W : World) (l : Nat) (o o' : Obj), Ix c j W → w.heap.size ≤ l → W.heap[l]? = some o → o.isCells = false → Ix c j (W.putObj l o'))
    (h0 : I 0 w) (a₁ : Nat → Act)
    (hassign : ∀ (l b : Nat) (W : World) (K : Act → World → Prop), K (a₁ b) W →
      assign.wpIn (WF.inRound l) 4 Try.prog (Exit.then K (fun _ _ _ => False)) { tmps := (ps.zip #[ptr b]).foldl (fun t (p, v) => t.setIfInBounds p v) a.tmps, defers := [] } W)
    (hbody : ∀ (l j b : Nat) (W : World), (awakes la)[j]? = some b → I j W → body.wpIn (WF.inRound l) 4 Try.prog (awPost w.heap.size I Ix j W) (a₁ b) W)
    (hdone : ∀ (D : Nat) (W : World), w.heap.size ≤ D → I (awakes la).length W → W.heap[D]? = some (.deferred (some [])) → Q .normal { a with defers := { target := .collected D, args := #[] } :: a.defers } W)
    (hstop : ∀ (D : Nat) (c : Code) (j : Nat) (W : World), w.heap.size ≤ D → Ix c j W → W.heap[D]? = some (.deferred (some [])) → c.wpIn WF 6 Try.prog Q { a with defers := { target := .collected D, args := #[] } :: a.defers } W) :
    (Code.rangeFunc g ps assign body).wpIn WF 6 Try.prog Q a w := by
  refine wpIn_range_iter rfl (by omega) (gf := 42) (lb := #[.pointer (some ⟨Bs, 0, none⟩)]) hg trivial (enters_of Try.func42 (by kernel_rfl) rfl)
    (awake_iter 5 (by omega) Bs s A cap la) (fun _ => by simp [hps]) (fun _ _ _ _ _ _ _ _ => rfl) (fun _ _ _ _ h _ => h) ?own
    (fun r W => ∃ j, j ≤ (awakes la).length ∧ r = (awakes la).drop j ∧ I j W) (fun c _ W => ∃ j, Ix c j W)
    (fun r W ⟨j, _, _, h⟩ => hIo j W h)
    (fun r W W' ⟨j, h1, h2, h⟩ hb => ⟨j, h1, h2, hIg j W W' h hb⟩)
    (fun r W l o o' ⟨j, h1, h2, h⟩ hle hl ho => ⟨j, h1, h2, hIp j W l o o' h hle hl ho⟩)
    (fun c r W l o o' ⟨j, h⟩ hle hl ho => ⟨j, hXp c j W l o o' h hle hl ho⟩)
    ⟨0, Nat.zero_le _, rfl, h0⟩ (fun r => a₁ (r.headD 0)) (fun l r W K hK => hassign l _ W K hK) ?body ?done ?stop
  case own =>
    rintro r W l o o' ⟨h1, h2, h3, h4⟩ hle hl ho
    have keep : ∀ (x : Addr) (v : Value), W.cell? x = some v → (W.putObj l o').cell? x = some v := fun x v hx => by
      by_cases e : x.block = l
      · exfalso
        unfold World.cell? at hx
        rw [e, hl] at hx
        cases o <;> simp_all [Obj.isCells]
      · exact (World.cell?_of_block (World.putObj_heap_other e)).trans hx
    refine ⟨?_, keep _ _ h2, h3, fun k b a hk => ?_⟩
    · refine (World.putObj_heap_other (fun e => ?_)).trans h1
      subst e
      rw [show W.heap[Bs]? = _ from h1] at hl
      cases hl
      cases ho
    · obtain ⟨ad, e1, e2, e3, e4⟩ := h4 k b a hk
      exact ⟨ad, e1, by rw [World.putObj_size]; exact e2, keep _ _ e3, keep _ _ e4⟩
  case body =>
    rintro l r W ⟨j, hj, rfl, hI⟩ hnf
    have hlt : j < (awakes la).length := by
      by_cases h : j < (awakes la).length
      · exact h
      · exact absurd (List.drop_of_length_le (by omega)) hnf
    have hd : (awakes la).drop j = (awakes la)[j] :: (awakes la).drop (j + 1) := List.drop_eq_getElem_cons hlt
    have hb := hbody l j (awakes la)[j] W (List.getElem?_eq_getElem hlt) hI
    have he : ((awakes la).drop j).headD 0 = (awakes la)[j] := by rw [hd]; rfl
    rw [he]
    refine wpIn_mono hb ?_
    rintro e a3 W3 hp
    cases e with
    | normal => exact ⟨hp.1, hIo _ _ hp.2, j + 1, by omega, by rw [hd]; rfl, hp.2⟩
    | ret => exact ⟨hp.1, j, hp.2⟩
    | exit id => exact ⟨hp.1, j, hp.2⟩
    | goto t => exact hp.elim
    | panic ch => exact hp.elim
    | outgrown => exact hp.elim
  case done =>
    rintro D r W hD hf ⟨j, hj, rfl, hI⟩ hK
    have : j = (awakes la).length := by
      have := congrArg List.length hf
      rw [List.length_drop, List.length_nil] at this
      omega
    subst this
    exact hdone D W hD hI hK
  case stop =>
    rintro D c r W hD ⟨j, hX⟩ hK
    exact hstop D c j W hD hX hK

/-- Pick's boxes, and whatever is said of the memory that stood when it began. -/
structure Pk (Lo : World → Prop) (N : Nat) (W : World) (s : Nat) (x : Int) (v : Value) (k : Int) (Bs : Nat) (ds : List Nat) : Prop where
  lo : Lo W
  b0 : Boxed W N 24 (ptr s)
  b1 : Boxed W (N + 1) 29 (.int .u64 x)
  b2 : Boxed W (N + 2) 60 v
  b3 : Boxed W (N + 3) 29 (.int .u64 k)
  bs : Boxed W Bs 24 (ptr s)
  hs : N + 3 < Bs
  dd : ∀ d ∈ ds, W.heap[d]? = some (.deferred (some []))

section
variable {Lo : World → Prop} {N : Nat} {W W' : World} {s : Nat} {x : Int} {v : Value} {k : Int} {Bs : Nat} {ds : List Nat}
theorem Pk.size (h : Pk Lo N W s x v k Bs ds) : N + 4 < W.heap.size := by
  have := (Array.getElem?_eq_some_iff.1 h.bs).1
  have := h.hs
  omega
theorem Pk.grow (hLo : ∀ W W', Lo W → Below N W W' → Lo W') (h : Pk Lo N W s x v k Bs ds) (hb : Below W.heap.size W W') : Pk Lo N W' s x v k Bs ds :=
  have hN := h.size
  have bx : ∀ {B t u}, Boxed W B t u → Boxed W' B t u := fun h' => (hb.block _ h'.lt).trans h'
  ⟨hLo _ _ h.lo ⟨hb.os, hb.tape, hb.output, hb.size, fun i hi => hb.block i (by omega)⟩, bx h.b0, bx h.b1, bx h.b2, bx h.b3, bx h.bs, h.hs, fun d hd => (hb.block d (Array.getElem?_eq_some_iff.1 (h.dd d hd)).1).trans (h.dd d hd)⟩
theorem Pk.put (hLo : ∀ W W', Lo W → Below N W W' → Lo W') (h : Pk Lo N W s x v k Bs ds) {l : Nat} {o : Obj} (o' : Obj) (hl : W.heap[l]? = some o) (ho : o.isCells = false) (hN : N ≤ l) (hd : ∀ d ∈ ds, d < l) : Pk Lo N (W.putObj l o') s x v k Bs ds :=
  have bx : ∀ {B t u}, Boxed W B t u → Boxed (W.putObj l o') B t u := fun {B t u} h' => by
    refine (World.putObj_heap_other (fun e => ?_)).trans h'
    subst e
    rw [show W.heap[B]? = _ from h'] at hl
    cases hl
    cases ho
  ⟨hLo _ _ h.lo ⟨rfl, rfl, rfl, by simp, fun i hi => World.putObj_heap_other (by omega)⟩, bx h.b0, bx h.b1, bx h.b2, bx h.b3, bx h.bs, h.hs, fun d hd' => (World.putObj_heap_other (by have := hd d hd'; omega)).trans (h.dd d hd')⟩
theorem dd_set (dd : ∀ d ∈ ds, W.heap[d]? = some (.deferred (some []))) {B : Nat} {t : TypeId} {u : Value} (hB : Boxed W B t u) (u' : Value) : ∀ d ∈ ds, (W.setCell ⟨B, 0, none⟩ u').heap[d]? = some (.deferred (some [])) := fun d hd =>
  (Below.heap_setCell W _ u' d (fun e => by
    have := dd d hd
    rw [e, show W.heap[B]? = _ from hB] at this
    cases this)).trans (dd d hd)
theorem box_other {B B' : Nat} {t : TypeId} {u : Value} (h : Boxed W B t u) (hne : B ≠ B') (u' : Value) : Boxed (W.setCell ⟨B', 0, none⟩ u') B t u := (Below.heap_setCell W _ u' B hne).trans h
theorem below_box {B : Nat} (h : N ≤ B) (u' : Value) : Below N W (W.setCell ⟨B, 0, none⟩ u') := (Below.refl N W).setCell (p := ⟨B, 0, none⟩) h u'
theorem Pk.set1 (hLo : ∀ W W', Lo W → Below N W W' → Lo W') (h : Pk Lo N W s x v k Bs ds) (x' : Int) : Pk Lo N (W.setCell ⟨N + 1, 0, none⟩ (.int .u64 x')) s x' v k Bs ds :=
  ⟨hLo _ _ h.lo (below_box (by omega) _), box_other h.b0 (by omega) _, h.b1.set _, box_other h.b2 (by omega) _, box_other h.b3 (by omega) _, box_other h.bs (by have := h.hs; omega) _, h.hs, dd_set h.dd h.b1 _⟩
theorem Pk.set2 (hLo : ∀ W W', Lo W → Below N W W' → Lo W') (h : Pk Lo N W s x v k Bs ds) (v' : Value) : Pk Lo N (W.setCell ⟨N + 2, 0, none⟩ v') s x v' k Bs ds :=
  ⟨hLo _ _ h.lo (below_box (by omega) _), box_other h.b0 (by omega) _, box_other h.b1 (by omega) _, h.b2.set _, box_other h.b3 (by omega) _, box_other h.bs (by have := h.hs; omega) _, h.hs, dd_set h.dd h.b2 _⟩
theorem Pk.set3 (hLo : ∀ W W', Lo W → Below N W W' → Lo W') (h : Pk Lo N W s x v k Bs ds) (k' : Int) : Pk Lo N (W.setCell ⟨N + 3, 0, none⟩ (.int .u64 k')) s x v k' Bs ds :=
  ⟨hLo _ _ h.lo (below_box (by omega) _), box_other h.b0 (by omega) _, box_other h.b1 (by omega) _, box_other h.b2 (by omega) _, h.b3.set _, box_other h.bs (by have := h.hs; omega) _, h.hs, dd_set h.dd h.b3 _⟩
theorem Pk.drew (hLo : ∀ W W', Lo W → Below N W W' → Lo W') (h : Pk Lo N W s x v k Bs ds) (q : Nat) : Pk Lo N (W.drewN q) s x v k Bs ds :=
  h.grow hLo ⟨rfl, rfl, rfl, Nat.le_refl _, fun _ _ => rfl⟩
end
end Go.Proofs.Ytlkphbcdgkjnoaa
