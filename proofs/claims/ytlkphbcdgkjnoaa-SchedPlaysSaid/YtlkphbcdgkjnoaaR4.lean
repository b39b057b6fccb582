/- The document's scheduler: Next, Copy: what each returns and what it turns. -/
import Derived.Test.YtlkphbcdgkjnoaaR3
import Derived.Deep.RegionHeld3
import Derived.Deep.AppendLies
namespace Go.Proofs.Ytlkphbcdgkjnoaa
open Go.RowKit Go.Maps

def nextStep (acc : Option Int) (t : R) : Option Int := if (t.timed && (match acc with | none => true | some a => decide (t.at_ < a))) = true then some t.at_ else acc
def rnext (L : List R) : Option Int := L.foldl nextStep none
theorem rnext_snoc {L : List R} {j : Nat} {t : R} (hj : L[j]? = some t) : rnext (L.take (j + 1)) = nextStep (rnext (L.take j)) t := by
  obtain ⟨hl, e⟩ := List.getElem?_eq_some_iff.1 hj
  rw [List.take_succ_eq_append_getElem hl, e]
  simp [rnext, List.foldl_append]

set_option maxRecDepth 100000 in
set_option maxHeartbeats 1000000 in
theorem rnext_any {B : Nat} {w : World} {r : Nat} {rv : Value} {pat now : Int} {L : List R} (h : RMem B w r rv pat now L) (hlen : L.length ≤ 100000) :
    Calls Try.prog 38 #[ptr r] w fun e w' => e = .returned (.tuple #[.int .u64 ((rnext L).getD 0), .bool (rnext L).isSome]) ∧ w = w' := by
  go_enter Try.func38, Try.ntmps38
  go_wp2
  go_loop [4, 5, 6] (fun b a i => ∃ (j : Nat) (acc : Option Int), j ≤ L.length ∧ i = .int .i64 j ∧ Hid (acc = rnext (L.take j)) ∧ b = .bool acc.isSome ∧ a = .int .u64 (acc.getD 0)) (fun _ _ i => L.length - (intOf i).toNat)
  case atStart => exact ⟨0, none, Nat.zero_le _, rfl, rfl, rfl, rfl⟩
  case round =>
    obtain ⟨j, acc, hj, rfl, hacc, rfl, rfl⟩ := hrel
    obtain ⟨A, cap, hrv⟩ := row_form h.row
    by_cases hjl : j < L.length
    · obtain ⟨u, hu⟩ : ∃ u, L[j]? = some u := ⟨_, List.getElem?_eq_getElem hjl⟩
      obtain ⟨g, cap', e, ⟨d0, d1, d2, d3, d4⟩, df⟩ := h.at hu
      clear hrv
      subst e
      obtain ⟨c0, c1, c2⟩ := h.str.three
      have hs := rnext_snoc hu
      have HS : Hid (rnext (L.take (j + 1)) = nextStep acc u) := by rw [hacc.out]; exact hs
      have HU := Lib.hid hu
      clear hs hu
      cases ht : u.timed
      · have HN : Hid (nextStep acc u = acc) := by show nextStep acc u = acc; simp [nextStep, ht]
        rw [ht] at d2
        clear ht
        go_wp2
        go_round
        case rel => exact ⟨j + 1, acc, by omega, by go_num, (by show acc = _; rw [HS.out, HN.out]), rfl, rfl⟩
        case measure => simp [intOf]; omega
      · rw [ht] at d2
        cases acc with
        | none =>
          have HN : Hid (nextStep none u = some u.at_) := by show nextStep none u = _; simp [nextStep, ht]
          clear ht
          go_wp2
          go_round
          case rel => exact ⟨j + 1, some u.at_, by omega, by go_num, (by show _ = _; rw [HS.out, HN.out]), rfl, rfl⟩
          case measure => simp [intOf]; omega
        | some a =>
          by_cases hlt : u.at_ < a
          · have HN : Hid (nextStep (some a) u = some u.at_) := by show nextStep (some a) u = _; simp [nextStep, ht, hlt]
            have hd : decide (u.at_ < a) = true := by simpa using hlt
            clear ht
            go_wp2
            go_round
            case rel => exact ⟨j + 1, some u.at_, by omega, by go_num, (by show _ = _; rw [HS.out, HN.out]), rfl, rfl⟩
            case measure => simp [intOf]; omega
          · have HN : Hid (nextStep (some a) u = some a) := by show nextStep (some a) u = _; simp [nextStep, hlt]
            have hd : decide (u.at_ < a) = false := by simpa using hlt
            clear ht
            go_wp2
            go_round
            case rel => exact ⟨j + 1, some a, by omega, by go_num, (by show _ = _; rw [HS.out, HN.out]), rfl, rfl⟩
            case measure => simp [intOf]; omega
    · obtain rfl : j = L.length := by omega
      subst hrv
      obtain ⟨c0, c1, c2⟩ := h.str.three
      have HA : Hid (acc = rnext L) := by show acc = rnext L; rw [hacc.out, List.take_length]
      clear hacc
      go_wp2
      go_ret2
      have E := HA.out
      subst E
      exact ⟨rfl, rfl⟩

/-- append of a whole row that is owned (nil, too), at a step of a region that draws. -/
theorem step_append_all {P : Program} {w : World} {ops : Array Oper} {o : Oper} {a : Act} {K : Act → World → Prop} {Q : Exit → Act → World → Prop} {E : Prop} (hgd : o.guard = none) (s x : Operand) (t : TypeId)
    (ho : o.op = .call { callee := .builtin .append, args := #[s, x], argTypes := #[t, t] })
    (base : Nat) (e : TypeId) (i : TypeInfo) (z : Value) (size bytes : Nat) (ht : P.underlying t = some (.slice e)) (hi : P.info? e = some i) (hz : i.zero = some z)
    (hsize : i.size = size) (hby : i.bytes = bytes) (hzs : z.cells.size = size) (hsz : 0 < size)
    (v : Value) (n : Nat) (xs : List Value) (hs : a.eval s = v) (hown : w.ownsRow base e size v n xs)
    (base' : Nat) (A : Option Addr) (m c : Nat) (news : List Value) (hx : a.eval x = .slice A m c) (hsrc : w.ownsRow base' e size (.slice A m c) m news) (h1 : ∀ u ∈ news, u.oneCell' = true)
    (h63 : n + m ≤ maxLen) (hbytes : (n + m) * bytes ≤ 140737488355328) (hbase : base ≤ w.heap.size)
    (h : ∀ v' w', w'.ownsRow base e size v' (n + m) (xs ++ news) → w.grownBy w' v.ownBlock → K (a.put o.dst v') w') :
    if Region.wanted o (yielded ops a.tmps) = true then Oper.wp P o a w K Q else E := by
  have hw : Region.wanted o (yielded ops a.tmps) = true := by simp [Region.wanted, hgd]
  rw [if_pos hw]
  have hl := hsrc.1
  obtain ⟨v', w', hr, h2, h3⟩ : ∃ v' w', (Builtin.append_ #[t, t] o.type #[v, .slice A m c]).run P w = .ok v' w' ∧ w'.ownsRow base e size v' (n + m) (xs ++ news) ∧ w.grownBy w' v.ownBlock := by
    rcases hsrc.2 with ⟨e1, e2⟩ | ⟨g, cap, cur, e1, _⟩
    · injection e1 with a1 a2 a3
      subst a1 a3 e2
      have hx : news = [] := List.eq_nil_of_length_eq_zero (by simpa using hl)
      subst hx
      exact ⟨v, w, run_append_owned_none (P := P) w base t o.type e i size ht hi v n xs hown, by simpa using hown, ⟨rfl, rfl, rfl, Nat.le_refl _, fun _ _ _ => rfl⟩⟩
    · injection e1 with a1 a2 a3
      subst a1 a3
      obtain ⟨v', w', hr, h2, h3, h4, h5⟩ := run_append_own_at (P := P) w base t o.type e i z size bytes ht hi hz hsize hby hzs hsz v n xs hown ⟨g, 0, none⟩ m c news hl (hsrc.cells (g := g) rfl) h1 h63 hbytes hbase
      exact ⟨v', w', hr, h2, h3⟩
  unfold Oper.wp execOp
  simp only [ho, resolve, invoke, builtin, Sem.run_bind, Sem.run_pure, Result.andThen_ok, List.map_toArray, List.map_cons, List.map_nil, hs, hx, hr]
  exact h _ _ h2 h3
theorem one_valss (L : List R) : ∀ u ∈ L.flatMap R.vals, u.oneCell' = true := by
  intro u hu
  obtain ⟨t, _, ht⟩ := List.mem_flatMap.1 hu
  exact one_vals t u ht

set_option maxRecDepth 100000 in
set_option maxHeartbeats 1000000 in
theorem rcopy_any {B : Nat} {w : World} {r : Nat} {rv : Value} {pat now : Int} {L : List R} (h : RMem B w r rv pat now L) (hlen : L.length ≤ 100000) :
    Calls Try.prog 15 #[ptr r] w fun e w' => ∃ r' rv', e = .returned (ptr r') ∧ RMem w.heap.size w' r' rv' pat now L ∧ Below w.heap.size w w' := by
  obtain ⟨A, cap, rfl⟩ := row_form h.row
  obtain ⟨c0, c1, c2⟩ := h.str.three
  obtain ⟨i0, hi, hy0, hy1, hy2⟩ := info_parts Try.inf82
  have hrl := h.str.lt
  have hO := (World.ownsRow_lit (e := 82) (size := 5) w #[] 0 (Nat.le_refl _) (Nat.zero_le _) rfl).drew
  have hS := (h.row.alloc (.cells #[] 82)).drew
  have hb0 := ((Below.refl w.heap.size w).alloc (Nat.le_refl _) (.cells #[] 82)).drew
  have HS := Lib.hid hS
  have e1 : 0 + L.length ≤ maxLen := by unfold maxLen; omega
  have e2 : (0 + L.length) * 32 ≤ 140737488355328 := by omega
  go_enter Try.func15, Try.ntmps15
  go_wp2
  go_region_held3 (fun w' => w'.cell? ⟨r, 0, none⟩ = some (.int .i64 pat) ∧ w'.cell? ⟨r, 1, none⟩ = some (.int .u64 now) ∧ w'.cell? ⟨r, 2, none⟩ = some (.slice A L.length cap))
    (first
      | go_keep
      | (go_split_ands
         refine ⟨?_, ?_, ?_⟩
         · (rw [hgrow.cell_far _ (by simp; omega) (by simp [Value.ownBlock]; omega)]; assumption)
         · (rw [hgrow.cell_far _ (by simp; omega) (by simp [Value.ownBlock]; omega)]; assumption)
         · (rw [hgrow.cell_far _ (by simp; omega) (by simp [Value.ownBlock]; omega)]; assumption)))
    ((refine step_append_all (by rfl) _ _ _ (by rfl) w.heap.size 82 i0 (.agg #[.int .u64 0, .bool false, .bool false, .int .u64 0, .int .i64 0]) 5 32 Try.und41 hi hy0 hy1 hy2 rfl (by omega) _ 0 [] (by rfl) hO B A L.length cap _ (by rfl) HS.out (one_valss L) e1 e2 hb0.size ?_; intro v' w1 hown1 hgrow; obtain ⟨A', co', rfl⟩ := row_form hown1))
  go_wp2
  have hb1 := hb0.grown hgrow (by simp) (fun k hk => by simp [Value.ownBlock] at hk; omega)
  have hb2 := hb1.alloc hb1.size (.cells #[.int .i64 pat, .int .u64 now, .slice A' L.length co'] 43)
  simp only [Nat.zero_add, List.nil_append] at hown1
  have FIN : RMem w.heap.size (w1.alloc (.cells #[.int .i64 pat, .int .u64 now, .slice A' L.length co'] 43)) w1.heap.size (.slice A' L.length co') pat now L := ⟨Blk.new _ _ _, hown1.alloc _, hb1.size⟩
  go_ret
  exact ⟨_, _, rfl, FIN, hb2⟩
end Go.Proofs.Ytlkphbcdgkjnoaa
