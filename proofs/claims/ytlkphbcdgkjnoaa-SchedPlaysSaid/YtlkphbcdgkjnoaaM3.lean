/- awake's iterator has its contract: it yields those that are ready, in their order. -/
import Derived.Test.YtlkphbcdgkjnoaaM2
import Derived.RangeFuncLeaves
import Derived.Shelf.Abstract
import Derived.OwnWalkIn
import Derived.TacticsInMore
import Derived.LoopNIn
import Derived.LoopIn
namespace Go.Proofs.Ytlkphbcdgkjnoaa
open Go.RowKit Go.Shelf
attribute [local go_sem] Oper.semAt_some
abbrev WF : Fence := Fence.wide

/-- Those that are ready, of handlers by block and sleep. -/
def awakes (la : List (Nat × Bool)) : List Nat := (la.filter fun p => !p.2).map (·.1)
/-- What the iterator leans on. -/
def Look (Bs s : Nat) (A : Option Addr) (cap : Nat) (la : List (Nat × Bool)) (W : World) : Prop :=
  Boxed W Bs 24 (ptr s) ∧ W.cell? ⟨s, 3, none⟩ = some (.slice A la.length cap) ∧ la.length ≤ 1000000 ∧
  ∀ k b a, la[k]? = some (b, a) → ∃ ad, A = some ad ∧ ad.block < W.heap.size ∧ W.cell? (ad.add k) = some (ptr b) ∧ W.cell? ⟨b, 2, none⟩ = some (.bool a)

theorem awakes_sleep {la : List (Nat × Bool)} {k b : Nat} (h : la[k]? = some (b, true)) : awakes (la.drop k) = awakes (la.drop (k + 1)) := by
  have : la.drop k = (b, true) :: la.drop (k + 1) := by
    obtain ⟨hk, e⟩ := List.getElem?_eq_some_iff.1 h
    rw [List.drop_eq_getElem_cons hk, e]
  rw [this]
  rfl
theorem awakes_wake {la : List (Nat × Bool)} {k b : Nat} (h : la[k]? = some (b, false)) : awakes (la.drop k) = b :: awakes (la.drop (k + 1)) := by
  have : la.drop k = (b, false) :: la.drop (k + 1) := by
    obtain ⟨hk, e⟩ := List.getElem?_eq_some_iff.1 h
    rw [List.drop_eq_getElem_cons hk, e]
  rw [this]
  rfl

set_option maxRecDepth 100000 in
set_option maxHeartbeats 2000000 in
theorem awake_iter (n : Nat) (hn : 1 ≤ n) (Bs s : Nat) (A : Option Addr) (cap : Nat) (la : List (Nat × Bool)) :
    Iter WF n Try.prog 42 #[.pointer (some ⟨Bs, 0, none⟩)] (fun r : List Nat => #[ptr (r.headD 0)]) (fun r => r = []) List.tail (fun _ W => Look Bs s A cap la W) (fun _ W => W) (awakes la) := by
  intro l J Jx W hJo hJg hY h0
  have h0' := hJo _ W h0
  obtain ⟨hb0, hs3, hlen, _⟩ := h0'
  have hc := hb0.cell
  refine callsIn_of_wp Try.func42 rfl trivial ?_ rfl
  simp only [Try.ntmps42, List.size_toArray, List.length_cons, List.length_nil, Nat.reduceAdd, Nat.reduceSub, Array.replicate_succ, Array.replicate_zero, List.push_toArray, List.append_toArray, List.nil_append, List.cons_append]
  gi_wp2
  gi_loopw [10] (fun i wr => ∃ (k : Nat) (r : List Nat), k ≤ la.length ∧ i = .int .i64 k ∧ Hid (r = awakes (la.drop k)) ∧ J r wr) (fun i _ => la.length - (intOf i).toNat)
  case atStart => exact ⟨0, _, Nat.zero_le _, rfl, rfl, h0⟩
  case round =>
    obtain ⟨k, r, hk, rfl, hr, hJ⟩ := hrel
    by_cases hlt : k < la.length
    · obtain ⟨⟨b, a⟩, hx⟩ : ∃ x, la[k]? = some x := ⟨_, List.getElem?_eq_getElem hlt⟩
      obtain ⟨ad, rfl, hab, hcb, hca⟩ := (hJo r wr hJ).2.2.2 k b a hx
      have HX := Lib.hid hx
      clear hx hs3
      cases a
      · have hrw : r = b :: awakes (la.drop (k + 1)) := hr.out.trans (awakes_wake HX.out)
        obtain ⟨fn, tmps, assign, body, hy, hR⟩ := hY r wr hJ (by rw [hrw]; simp)
        have HR := Lib.hid hrw
        rw [hrw] at hy
        clear hrw
        (try dsimp only [List.headD] at hy)
        gi_wp2_with fail
        refine hR.mono ?_
        rintro e W3 (⟨rfl, hL3, hJ3⟩ | ⟨rfl, hJx3⟩)
        · gi_wp2
          refine ⟨⟨k + 1, r.tail, by omega, by go_num, ?_, hJ3⟩, by simp [intOf]; omega⟩
          show _ = _
          rw [HR.out]
          rfl
        · gi_wp2
          refine bodyPost_ret (results_none rfl _ _ _) rfl ?_
          exact ⟨⟨_, rfl⟩, .inr ⟨r, hJx3⟩⟩
      · have hrw : r = awakes (la.drop (k + 1)) := hr.out.trans (awakes_sleep HX.out)
        have HR := Lib.hid hrw
        clear hrw
        gi_wp2
        refine ⟨fun _ h => (by cases h), ?_⟩
        gi_wp2
        exact ⟨⟨k + 1, r, by omega, by go_num, HR.out, hJ⟩, by simp [intOf]; omega⟩
    · gi_wp2
      go_end0
      refine ⟨⟨_, rfl⟩, .inl ⟨r, ?_, hJ⟩⟩
      rw [hr.out, List.drop_of_length_le (by omega)]
      rfl

/-- awake: the iterator, over a box of its own. -/
theorem awake_any (s : Nat) (w : World) :
    Calls Try.prog 25 #[ptr s] w fun e w' => e = .returned (.func (.func 42) #[] #[.pointer (some ⟨w.heap.size, 0, none⟩)]) ∧ w' = w.alloc (.cells #[ptr s] 24) := by
  go_enter Try.func25, Try.ntmps25
  go_wp2
  go_ret
  exact ⟨rfl, rfl⟩
end Go.Proofs.Ytlkphbcdgkjnoaa
