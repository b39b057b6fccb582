/- A range over a function whose iterator may write a cell of its own between two rounds: one law for the caller, over a contract of the iterator that is stated by what is still to come. Conditions: an outermost loop; the body neither panics nor jumps by goto. -/
import Derived.RangeFuncWrites
import Derived.RangeFuncBound
import Derived.RangeFuncCalls
namespace Go.Proofs.Ytlkphbcdgkjnoaa
open Go.RowKit
section
variable {F : Fence} {n : Nat} {P : Program} {ρ : Type}

/-- THE ITERATOR's CONTRACT. 'r': what is still to come; 'fin r': nothing is; 'encs r': what yield is handed; 'nxt r': what is still to come behind the round; 'own r W': what the iterator leans on in W; 'adv r W': what it makes of the world behind a round. -/
def Iter (F : Fence) (n : Nat) (P : Program) (gf : Nat) (lb : Array Value) (encs : ρ → Array Value) (fin : ρ → Prop) (nxt : ρ → ρ) (own : ρ → World → Prop) (adv : ρ → World → World) (r0 : ρ) : Prop :=
  ∀ (l : Nat) (J Jx : ρ → World → Prop) (W : World),
    (∀ r W, J r W → own r W) →
    (∀ r W W', J r W → Below W.heap.size W W' → J r W') →
    (∀ r W, J r W → ¬ fin r → YieldAt F (n - 1) P l (encs r) W fun e W' => (e = .returned (.bool true) ∧ own r W' ∧ J (nxt r) (adv r W')) ∨ (e = .returned (.bool false) ∧ Jx r W')) →
    J r0 W →
    CallsIn F n P gf (#[.func (.yield l) #[] #[]] ++ lb) W fun e W' => (∃ v, e = .returned v) ∧ ((∃ r, fin r ∧ J r W') ∨ ∃ r, Jx r W')

/-- How the body of a round may be left. -/
def itPost (B : Nat) (nxt : ρ → ρ) (own : ρ → World → Prop) (adv : ρ → World → World) (I : ρ → World → Prop) (Ix : Code → ρ → World → Prop) (r : ρ) (W : World) : Exit → Act → World → Prop
  | .normal, _, W' => KeepsFrom B W W' ∧ own r W' ∧ I (nxt r) (adv r W')
  | .ret, _, W' => KeepsFrom B W W' ∧ Ix .ret r W'
  | .exit id, _, W' => KeepsFrom B W W' ∧ Ix (.exit id) r W'
  | .goto _, _, _ => False
  | .panic _, _, _ => False
  | .outgrown, _, _ => False

theorem wpIn_range_iter {g : Operand} {ps : Array Tmp} {assign body : Code} {Q : Exit → Act → World → Prop} {a : Act} {w : World}
    (hro : F.round = none) (h1 : 1 ≤ n) {gf : Nat} {lb : Array Value} (hg : a.eval g = .func (.func gf) #[] lb) (hFg : F.fn gf) (eg : ∀ args w, (callFunc gf args).run P w = .ok (.enter gf args) w)
    {encs : ρ → Array Value} {fin : ρ → Prop} {nxt : ρ → ρ} {own : ρ → World → Prop} {adv : ρ → World → World} {r0 : ρ} (hit : Iter F (n - 1) P gf lb encs fin nxt own adv r0) (hps : ∀ r, (encs r).size = ps.size)
    (hadv : ∀ r (W : World) (l : Nat) (o o' : Obj), own r W → W.heap[l]? = some o → o.isCells = false → adv r (W.putObj l o') = (adv r W).putObj l o')
    (hadvk : ∀ r (W : World) (l : Nat) (o : Obj), W.heap[l]? = some o → o.isCells = false → (adv r W).heap[l]? = some o)
    (hown : ∀ r (W : World) (l : Nat) (o o' : Obj), own r W → w.heap.size ≤ l → W.heap[l]? = some o → o.isCells = false → own r (W.putObj l o'))
    (I : ρ → World → Prop) (Ix : Code → ρ → World → Prop)
    (hIo : ∀ r W, I r W → own r W)
    (hIg : ∀ r (W W' : World), I r W → Below W.heap.size W W' → I r W')
    (hIp : ∀ r (W : World) (l : Nat) (o o' : Obj), I r W → w.heap.size ≤ l → W.heap[l]? = some o → o.isCells = false → I r (W.putObj l o'))
    (hXp : ∀ c r (W : World) (l : Nat) (o o' : Obj), Ix c r W → w.heap.size ≤ l → W.heap[l]? = some o → o.isCells = false → Ix c r (W.putObj l o'))
    (h0 : I r0 w) (a₁ : ρ → Act)
    (hassign : ∀ (l : Nat) (r : ρ) (W : World) (K : Act → World → Prop), K (a₁ r) W →
      assign.wpIn (F.inRound l) (n - 1 - 1) P (Exit.then K (fun _ _ _ => False)) { tmps := (ps.zip (encs r)).foldl (fun t (p, v) => t.setIfInBounds p v) a.tmps, defers := [] } W)
    (hbody : ∀ (l : Nat) (r : ρ) (W : World), I r W → ¬ fin r → body.wpIn (F.inRound l) (n - 1 - 1) P (itPost w.heap.size nxt own adv I Ix r W) (a₁ r) W)
    (hdone : ∀ (D : Nat) (r : ρ) (W : World), w.heap.size ≤ D → fin r → I r W → W.heap[D]? = some (.deferred (some [])) → Q .normal { a with defers := { target := .collected D, args := #[] } :: a.defers } W)
    (hstop : ∀ (D : Nat) (c : Code) (r : ρ) (W : World), w.heap.size ≤ D → Ix c r W → W.heap[D]? = some (.deferred (some [])) → c.wpIn F n P Q { a with defers := { target := .collected D, args := #[] } :: a.defers } W) :
    (Code.rangeFunc g ps assign body).wpIn F n P Q a w := by
  refine wpIn_rangeFunc fun fn hfn => ?_
  rw [hro]
  -- the loop's record, by its state and its pending jump; the two blocks that the loop lays
  let rc : LoopState → Option Code → Loop := fun st pe => { state := st, pending := pe, fn, tmps := a.tmps, params := ps, assign, body, defers := w.heap.size }
  let dD : Obj := .deferred (some [])
  let L := w.heap.size + 1
  have eRec : ∀ st pe, rc st pe = { state := st, pending := pe, fn := fn, tmps := a.tmps, params := ps, assign := assign, body := body, defers := w.heap.size } := fun _ _ => rfl
  clear_value rc
  have hgrow : Below w.heap.size w ((w.alloc dD).alloc (.loop (rc .ready none))) :=
    ((Below.refl _ w).alloc (Nat.le_refl _) _).alloc (by simp) _
  have hlA : ((w.alloc dD).alloc (.loop (rc .ready none))).heap[L]? = some (.loop (rc .ready none)) := by
    have := World.alloc_heap_new (w.alloc dD) (.loop (rc .ready none))
    rwa [World.size_alloc] at this
  have hkA : ((w.alloc dD).alloc (.loop (rc .ready none))).heap[w.heap.size]? = some dD :=
    (Below.heap_alloc _ _ _ (by simp)).trans (World.alloc_heap_new w _)
  refine ⟨L, [{ target := .collected w.heap.size, args := #[] }], (w.alloc dD).alloc (.loop (rc .ready none)), { target := .fn (.func gf) lb, args := #[.func (.yield L) #[] #[]] }, (w.alloc dD).alloc (.loop (rc .ready none)), gf, #[.func (.yield L) #[] #[]] ++ lb, (w.alloc dD).alloc (.loop (rc .ready none)),
    ?_, ?_, ?_, ?_, fun _ => h1, ?_⟩
  · rw [run_enterLoop_outer, ← eRec]
  · simp only [resolve, hg]
    simp [go_sem, L]
  · intro f' hf'
    simp [Target.leads] at hf'
    subst hf'
    exact hFg
  · simp [invoke, go_sem, eg]
  -- what the loop keeps of its own, beside I
  let Own2 : LoopState → Option Code → World → Prop := fun st pe W => W.heap[L]? = some (.loop (rc st pe)) ∧ W.heap[w.heap.size]? = some dD
  have own2_put : ∀ {st st' : LoopState} {pe pe' : Option Code} {W : World}, Own2 st pe W → Own2 st' pe' (W.putObj L (.loop (rc st' pe'))) := by
    rintro st st' pe pe' W ⟨hl, hk⟩
    exact ⟨World.putObj_heap_same (Array.getElem?_eq_some_iff.1 hl).1, (World.putObj_heap_other (show w.heap.size ≠ L by simp [L])).trans hk⟩
  refine (hit L (fun r W => I r W ∧ Own2 .ready none W) (fun r W => ∃ c, Ix c r W ∧ Own2 .done (some c) W) _ (fun r W h => hIo r W h.1) ?_ ?_ ⟨hIg r0 w _ h0 hgrow, hlA, hkA⟩).mono ?_
  · rintro r W W' ⟨hi, hl, hk⟩ hb
    exact ⟨hIg r W W' hi hb, (hb.block _ (Array.getElem?_eq_some_iff.1 hl).1).trans hl, (hb.block _ (Array.getElem?_eq_some_iff.1 hk).1).trans hk⟩
  · rintro r W ⟨hi, ho⟩ hnf
    have hy := run_yield (P := P) (args := encs r) ho.1 (by rw [eRec]; exact hps r)
    rw [eRec] at hy
    have hbusy : (Instr.beginRound L).run P W = .ok () (W.putObj L (.loop (rc .busy none))) := by
      have := run_beginRound (P := P) ho.1 (by rw [eRec])
      rw [this, eRec, eRec]
    refine ⟨fn, _, assign, body, hy, roundIn_of_wpIn hfn (hassign _ r W _ ⟨_, hbusy, ?_⟩)⟩
    have ho2 : Own2 .busy none (W.putObj L (.loop (rc .busy none))) := own2_put ho
    have hi2 : I r (W.putObj L (.loop (rc .busy none))) := hIp r W L _ _ hi (by simp [L]) ho.1 rfl
    refine wpIn_mono (hbody L r _ hi2 hnf) ?_
    have back : ∀ {W3 : World}, KeepsFrom w.heap.size (W.putObj L (.loop (rc .busy none))) W3 → Own2 .busy none W3 := by
      intro W3 hk3
      exact ⟨hk3.same _ _ (by simp [L]) ho2.1 rfl, hk3.same _ _ (Nat.le_refl _) ho2.2 rfl⟩
    have endR : ∀ {W3 : World} (j : Option Code), Own2 .busy none W3 → (Instr.endRound L j).run P W3 = .ok (.bool j.isNone) (W3.putObj L (.loop (rc (if j.isNone then .ready else .done) j))) := by
      intro W3 j h3
      have := run_endRound (P := P) j h3.1
      rw [this, eRec, eRec]
    rintro e a3 W3 hp
    cases e with
    | normal =>
      obtain ⟨hk3, hw3, hi3⟩ := hp
      have h3 := back hk3
      refine ⟨_, _, endR none h3, .inl ⟨rfl, hown r W3 L _ _ hw3 (by simp [L]) h3.1 rfl, ?_, ?_⟩⟩
      · rw [hadv r W3 L _ _ hw3 h3.1 rfl]
        exact hIp _ _ L _ _ hi3 (by simp [L]) (hadvk r W3 L _ h3.1 rfl) rfl
      · have h4 := own2_put (st' := .ready) (pe' := none) h3
        exact ⟨hadvk r _ _ _ h4.1 rfl, hadvk r _ _ _ h4.2 rfl⟩
    | ret =>
      obtain ⟨hk3, hi3⟩ := hp
      have h3 := back hk3
      exact ⟨_, _, endR (some .ret) h3, .inr ⟨rfl, .ret, hXp _ r W3 L _ _ hi3 (by simp [L]) h3.1 rfl, own2_put h3⟩⟩
    | exit id =>
      obtain ⟨hk3, hi3⟩ := hp
      have h3 := back hk3
      exact ⟨_, _, endR (some (.exit id)) h3, .inr ⟨rfl, .exit id, hXp _ r W3 L _ _ hi3 (by simp [L]) h3.1 rfl, own2_put h3⟩⟩
    | goto t => exact hp.elim
    | panic ch => exact hp.elim
    | outgrown => exact hp.elim
  · have endL : ∀ {W3 : World} {st : LoopState} {pe : Option Code}, Own2 st pe W3 → st ≠ .busy → (Instr.endLoop L).run P W3 = .ok pe (W3.putObj L (.loop (rc .exhausted pe))) := by
      intro W3 st pe h3 hst
      have := run_endLoop (P := P) h3.1 (by rw [eRec]; exact hst)
      rw [this, eRec, eRec]
    rintro e W2 ⟨⟨v, rfl⟩, ⟨r, hf, hi, h3⟩ | ⟨r, c, hi, h3⟩⟩
    · exact ⟨none, _, endL h3 (by simp), hdone _ r _ (Nat.le_refl _) hf (hIp r W2 L _ _ hi (by simp [L]) h3.1 rfl) (own2_put h3).2⟩
    · exact ⟨some c, _, endL h3 (by simp), hstop _ c r _ (Nat.le_refl _) (hXp c r W2 L _ _ hi (by simp [L]) h3.1 rfl) (own2_put h3).2⟩
end
end Go.Proofs.Ytlkphbcdgkjnoaa
